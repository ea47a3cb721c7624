/-
  The walks of package route: which item is ahead, what is wrong with a field, of the program and of the document; the document's word on what is beside.
-/
import Derived.Test.YtgncngpgodfijaaChecked
import Derived.Test.YtgncngpgodfijaaRows
import Derived.Test.YtgncngpgodfijaaRow
import Derived.Test.YtgncngpgodfijaaRouQ
import Derived.Deep.QuietTactic
import Derived.BigQuiet
import Derived.IntWalk
namespace Go.Proofs.Ytgncngpgodfijaa
open Go.RowKit
set_option linter.unusedVariables false
theorem Blk.next {w w' : World} {g : Nat} {t : TypeId} {l : List Value} (h : Blk w g t l) (hb : Below w.heap.size w w') : Blk w' g t l := h.below hb h.lt
theorem heap_alloc_sz (w : World) (o : Obj) : (w.alloc o).heap.size = w.heap.size + 1 := by simp
theorem heap_drew_sz (w : World) : w.drew.heap.size = w.heap.size := rfl
namespace Rou

theorem sq_nonneg (p : Int) : 0 ≤ p * p := by
  rcases Int.le_total 0 p with g | g
  · exact Int.mul_nonneg g g
  · have := Int.mul_nonneg (a := -p) (b := -p) (by omega) (by omega)
    rw [Int.neg_mul_neg] at this
    exact this
/-- an item's cells -/
def itc (a : It) : List Value := [.int .i64 (a.1 : Int), .int .i64 a.2]
theorem itc_len (a : It) : (itc a).length = 2 := rfl
/-- a field's cells -/
def fdc (W H : Int) (A : Option Addr) (n cap : Nat) : List Value := [.int .i64 W, .int .i64 H, .slice A n cap]
/-- may it be so dear? -/
def fineB (c : Int) : Bool := decide (-1 ≤ c) && decide (c ≤ 1073741824)
/-- what is wrong with a field -/
def code (W H : Int) (C : List Int) : Int := if W < 1 ∨ 64 < W ∨ H < 1 ∨ 64 < H then 2 else if (C.length : Int) ≠ W * H then 5 else if C.all fineB = true then 0 else 1
theorem code_ok {W H : Int} {C : List Int} (h : code W H C = 0) : Ok W.toNat H.toNat C ∧ W = (W.toNat : Int) ∧ H = (H.toNat : Int) := by
  unfold code at h
  split at h
  · omega
  · rename_i h1
    split at h
    · omega
    · rename_i h2
      split at h
      · rename_i h3
        have h2' : (C.length : Int) = W * H := by omega
        have e1 : W = (W.toNat : Int) := by omega
        have e2 : H = (H.toNat : Int) := by omega
        refine ⟨⟨by omega, by omega, by omega, by omega, ?_, fun c hc => ?_⟩, e1, e2⟩
        · have : ((W.toNat * H.toNat : Nat) : Int) = (C.length : Int) := by rw [Int.natCast_mul, ← e1, ← e2, h2']
          omega
        · have := List.all_eq_true.1 h3 c hc
          unfold fineB at this
          simp only [Bool.and_eq_true, decide_eq_true_eq] at this
          exact this
      · omega
theorem ok_code {w h : Nat} {C : List Int} (H : Ok w h C) : code (w : Int) (h : Int) C = 0 := by
  have h1 := H.w1
  have h2 := H.w2
  have h3 := H.h1
  have h4 := H.h2
  unfold code
  rw [if_neg (by omega), if_neg (by rw [H.len, Int.natCast_mul]; simp), if_pos]
  exact List.all_eq_true.2 fun c hc => by
    have := H.bnd c hc
    unfold fineB
    rw [decide_eq_true this.1, decide_eq_true this.2]
    rfl
set_option maxRecDepth 100000 in
set_option maxHeartbeats 1000000 in
theorem before_any (a b : It) (w : World) : Calls Try.prog 67 #[.agg #[.int .i64 (a.1 : Int), .int .i64 a.2], .agg #[.int .i64 (b.1 : Int), .int .i64 b.2]] w fun e w' => e = .returned (.bool (bef a b)) ∧ Below w.heap.size w w' := by
  obtain ⟨a1, a2⟩ := a
  obtain ⟨b1, b2⟩ := b
  dsimp only
  by_cases h1 : a2 < b2
  · have d1 : decide (a2 < b2) = true := decide_eq_true h1
    have hb : bef (a1, a2) (b1, b2) = true := bef_iff.2 (.inl h1)
    rw [hb]
    clear hb
    go_enter Try.func67, Try.ntmps67
    go_wp2
    go_ret
    exact ⟨rfl, (bl _ _).alloc (by simp) _⟩
  · have d1 : decide (a2 < b2) = false := decide_eq_false h1
    by_cases h2 : a2 = b2
    · subst h2
      have hb : bef (a1, a2) (b1, a2) = decide (a1 < b1) := by simp [bef]
      rw [hb]
      clear hb
      go_enter Try.func67, Try.ntmps67
      go_wp2
      go_ret
      exact ⟨rfl, (bl _ _).alloc (by simp) _⟩
    · have d2 : (a2 == b2) = false := by rw [beq_eq_false_iff_ne]; exact h2
      have hb : bef (a1, a2) (b1, b2) = false := by simp [bef, h1, h2]
      rw [hb]
      clear hb
      go_enter Try.func67, Try.ntmps67
      go_wp2
      go_ret
      exact ⟨rfl, (bl _ _).alloc (by simp) _⟩
set_option maxRecDepth 100000 in
set_option maxHeartbeats 1000000 in
theorem ocheck_any {w : World} {lo hi cap : Nat} (W H : Int) {A : Option Addr} {C : List Int} (R : RdL w lo hi A (C.map (Value.int .i64))) :
    Calls Try.prog 47 #[.agg #[.int .i64 W, .int .i64 H, .slice A C.length cap]] w fun e w' => e = .returned (.int .i64 (code W H C)) ∧ Below w.heap.size w w' := by
  have R1 := R.alloc (.cells #[Value.int .i64 W, Value.int .i64 H, .slice A C.length cap] 82)
  have HR := Lib.hid R1
  clear R R1
  by_cases h1 : W < 1
  · have d1 : decide (W < 1) = true := decide_eq_true h1
    go_enter Try.func47, Try.ntmps47
    go_wp2
    go_ret
    exact ⟨by unfold code; rw [if_pos (.inl h1)]; rfl, bl _ _⟩
  · have d1 : decide (W < 1) = false := decide_eq_false h1
    by_cases h2 : 64 < W
    · have d2 : decide (64 < W) = true := decide_eq_true h2
      go_enter Try.func47, Try.ntmps47
      go_wp2
      go_ret
      exact ⟨by unfold code; rw [if_pos (.inr (.inl h2))]; rfl, bl _ _⟩
    · have d2 : decide (64 < W) = false := decide_eq_false h2
      by_cases h3 : H < 1
      · have d3 : decide (H < 1) = true := decide_eq_true h3
        go_enter Try.func47, Try.ntmps47
        go_wp2
        go_ret
        exact ⟨by unfold code; rw [if_pos (.inr (.inr (.inl h3)))]; rfl, bl _ _⟩
      · have d3 : decide (H < 1) = false := decide_eq_false h3
        by_cases h4 : 64 < H
        · have d4 : decide (64 < H) = true := decide_eq_true h4
          go_enter Try.func47, Try.ntmps47
          go_wp2
          go_ret
          exact ⟨by unfold code; rw [if_pos (.inr (.inr (.inr h4)))]; rfl, bl _ _⟩
        · have d4 : decide (64 < H) = false := decide_eq_false h4
          obtain ⟨p, hp⟩ : ∃ p, p = W * H := ⟨_, rfl⟩
          have hpb : 0 ≤ p ∧ p ≤ 4096 := by
            rw [hp]
            refine ⟨Int.mul_nonneg (by omega) (by omega), ?_⟩
            have := Int.mul_le_mul (a := W) (b := H) (c := 64) (d := 64) (by omega) (by omega) (by omega) (by omega)
            omega
          have y1 : IntKind.i64.wrap (W * H) = p := by rw [← hp]; exact IntWalk.i64_in _ (by omega)
          have hcode : code W H C = if (C.length : Int) ≠ p then 5 else if C.all fineB = true then 0 else 1 := by unfold code; rw [if_neg (by omega), hp]
          have HC := Lib.hid hcode
          obtain ⟨n, hn⟩ : ∃ n, n = C.length := ⟨_, rfl⟩
          have HN := Lib.hid hn
          rw [← hn] at HR HC ⊢
          clear hp hcode hn
          by_cases h5 : (n : Int) = p
          · have c1 : ((n : Int) != p) = false := by rw [bne_eq_false_iff_eq]; exact h5
            have c2 : ((n : Int) == p) = true := by rw [beq_iff_eq]; exact h5
            have H5 := Lib.hid h5
            have hn4 : n ≤ 4096 := by omega
            clear h5
            go_enter Try.func47, Try.ntmps47
            go_wp2
            go_loopw [35] (fun u wr => ∃ i : Nat, i ≤ n ∧ u = .int .i64 (i : Int) ∧ (∀ j, j < i → fineB (C.getD j 0) = true) ∧ wr = w.alloc (.cells #[Value.int .i64 W, Value.int .i64 H, .slice A n cap] 82)) (fun u _ => n - (intOf u).toNat)
            case atStart => exact ⟨0, Nat.zero_le _, rfl, fun j h => by omega, rfl⟩
            case round =>
              obtain ⟨i, hi, rfl, hall, rfl⟩ := hrel
              have HA := Lib.hid hall
              clear hall
              by_cases hlt : i < n
              · have hil : i < C.length := by rw [← HN.out]; exact hlt
                have hltI : (i : Int) < (n : Int) := by omega
                have hi0 : (0 : Int) ≤ (i : Int) := by omega
                have yi : IntKind.i64.wrap ((i : Int) + 1) = (i : Int) + 1 := IntWalk.i64_in _ (by omega)
                obtain ⟨b, off, rfl, _, _, _, hc⟩ := HR.out.some (by rw [List.length_map]; omega)
                have q1 := hc i (.int .i64 C[i]) (by rw [List.getElem?_map, List.getElem?_eq_getElem hil]; rfl)
                have hge : C.getD i 0 = C[i] := by rw [List.getD_eq_getElem?_getD, List.getElem?_eq_getElem hil]; rfl
                have hmem := List.getElem_mem hil
                have HG := Lib.hid (show C.getD i 0 = C[i] ∧ C[i] ∈ C from ⟨hge, hmem⟩)
                clear hc hge hmem
                generalize C[i] = c at *
                have hbad : fineB c = false → code W H C = 1 := fun hf => by
                  have ha : C.all fineB = false := by rw [List.all_eq_false]; exact ⟨c, HG.out.2, by rw [hf]; decide⟩
                  rw [HC.out, if_neg (by rw [H5.out]; simp), if_neg (by rw [ha]; decide)]
                have HB := Lib.hid hbad
                clear hbad
                by_cases g1 : c < -1
                · have e1 : decide (c < -1) = true := decide_eq_true g1
                  have hf : fineB c = false := by unfold fineB; rw [decide_eq_false (by omega)]; rfl
                  have HF := Lib.hid (HB.out hf)
                  clear hf
                  go_wp2
                  go_ret
                  exact ⟨by rw [HF.out]; rfl, bl _ _⟩
                · have e1 : decide (c < -1) = false := decide_eq_false g1
                  by_cases g2 : 1073741824 < c
                  · have e2 : decide (1073741824 < c) = true := decide_eq_true g2
                    have hf : fineB c = false := by unfold fineB; rw [decide_eq_false (show ¬ c ≤ 1073741824 by omega), Bool.and_false]
                    have HF := Lib.hid (HB.out hf)
                    clear hf
                    go_wp2
                    go_ret
                    exact ⟨by rw [HF.out]; rfl, bl _ _⟩
                  · have e2 : decide (1073741824 < c) = false := decide_eq_false g2
                    have hf : fineB c = true := by unfold fineB; rw [decide_eq_true (by omega), decide_eq_true (by omega)]; rfl
                    have HF := Lib.hid hf
                    clear hf
                    go_wp2
                    go_roundw
                    case rel =>
                      refine ⟨i + 1, by omega, by go_num, fun j hj => ?_, trivial⟩
                      by_cases hji : j = i
                      · rw [hji, HG.out.1]; exact HF.out
                      · exact HA.out j (by omega)
                    case measure => simp [intOf]; omega
              · obtain rfl : i = n := by omega
                have ha : C.all fineB = true := List.all_eq_true.2 fun c hc => by
                  obtain ⟨j, hj, rfl⟩ := List.getElem_of_mem hc
                  have := HA.out j (by rw [HN.out]; exact hj)
                  rw [List.getD_eq_getElem?_getD, List.getElem?_eq_getElem hj] at this
                  exact this
                have HF := Lib.hid (show code W H C = 0 by rw [HC.out, if_neg (by rw [H5.out]; simp), if_pos ha])
                clear ha
                go_wp2
                go_ret
                exact ⟨by rw [HF.out]; rfl, bl _ _⟩
          · have c1 : ((n : Int) != p) = true := by rw [bne_iff_ne]; exact h5
            have c2 : ((n : Int) == p) = false := by rw [beq_eq_false_iff_ne]; exact h5
            have HF := Lib.hid (show code W H C = 5 by rw [HC.out, if_pos h5])
            clear h5
            go_enter Try.func47, Try.ntmps47
            go_wp2
            go_ret
            exact ⟨by rw [HF.out]; rfl, bl _ _⟩
set_option maxRecDepth 100000 in
set_option maxHeartbeats 1000000 in
theorem ucheck_any {w : World} {lo hi cap : Nat} (W H : Int) {A : Option Addr} {C : List Int} (R : RdL w lo hi A (C.map (Value.int .i64))) :
    Calls Try.prog 49 #[.agg #[.int .i64 W, .int .i64 H, .slice A C.length cap]] w fun e w' => e = .returned (.int .i64 (code W H C)) ∧ Below w.heap.size w w' := by
  have R1 := R.alloc (.cells #[Value.int .i64 W, Value.int .i64 H, .slice A C.length cap] 80)
  have HR := Lib.hid R1
  clear R R1
  by_cases h1 : W < 1
  · have d1 : decide (W < 1) = true := decide_eq_true h1
    go_enter Try.func49, Try.ntmps49
    go_wp2
    go_ret
    exact ⟨by unfold code; rw [if_pos (.inl h1)]; rfl, bl _ _⟩
  · have d1 : decide (W < 1) = false := decide_eq_false h1
    by_cases h2 : 64 < W
    · have d2 : decide (64 < W) = true := decide_eq_true h2
      go_enter Try.func49, Try.ntmps49
      go_wp2
      go_ret
      exact ⟨by unfold code; rw [if_pos (.inr (.inl h2))]; rfl, bl _ _⟩
    · have d2 : decide (64 < W) = false := decide_eq_false h2
      by_cases h3 : H < 1
      · have d3 : decide (H < 1) = true := decide_eq_true h3
        go_enter Try.func49, Try.ntmps49
        go_wp2
        go_ret
        exact ⟨by unfold code; rw [if_pos (.inr (.inr (.inl h3)))]; rfl, bl _ _⟩
      · have d3 : decide (H < 1) = false := decide_eq_false h3
        by_cases h4 : 64 < H
        · have d4 : decide (64 < H) = true := decide_eq_true h4
          go_enter Try.func49, Try.ntmps49
          go_wp2
          go_ret
          exact ⟨by unfold code; rw [if_pos (.inr (.inr (.inr h4)))]; rfl, bl _ _⟩
        · have d4 : decide (64 < H) = false := decide_eq_false h4
          obtain ⟨p, hp⟩ : ∃ p, p = W * H := ⟨_, rfl⟩
          have hpb : 0 ≤ p ∧ p ≤ 4096 := by
            rw [hp]
            refine ⟨Int.mul_nonneg (by omega) (by omega), ?_⟩
            have := Int.mul_le_mul (a := W) (b := H) (c := 64) (d := 64) (by omega) (by omega) (by omega) (by omega)
            omega
          have y1 : IntKind.i64.wrap (W * H) = p := by rw [← hp]; exact IntWalk.i64_in _ (by omega)
          have hcode : code W H C = if (C.length : Int) ≠ p then 5 else if C.all fineB = true then 0 else 1 := by unfold code; rw [if_neg (by omega), hp]
          have HC := Lib.hid hcode
          obtain ⟨n, hn⟩ : ∃ n, n = C.length := ⟨_, rfl⟩
          have HN := Lib.hid hn
          rw [← hn] at HR HC ⊢
          clear hp hcode hn
          by_cases h5 : (n : Int) = p
          · have c1 : ((n : Int) != p) = false := by rw [bne_eq_false_iff_eq]; exact h5
            have c2 : ((n : Int) == p) = true := by rw [beq_iff_eq]; exact h5
            have H5 := Lib.hid h5
            have hn4 : n ≤ 4096 := by omega
            clear h5
            go_enter Try.func49, Try.ntmps49
            go_wp2
            go_loopw [3] (fun u wr => ∃ i : Nat, i ≤ n ∧ u = .int .i64 (i : Int) ∧ (∀ j, j < i → fineB (C.getD j 0) = true) ∧ wr = w.alloc (.cells #[Value.int .i64 W, Value.int .i64 H, .slice A n cap] 80)) (fun u _ => n - (intOf u).toNat)
            case atStart => exact ⟨0, Nat.zero_le _, rfl, fun j h => by omega, rfl⟩
            case round =>
              obtain ⟨i, hi, rfl, hall, rfl⟩ := hrel
              have HA := Lib.hid hall
              clear hall
              by_cases hlt : i < n
              · have hil : i < C.length := by rw [← HN.out]; exact hlt
                have hltI : (i : Int) < (n : Int) := by omega
                have hi0 : (0 : Int) ≤ (i : Int) := by omega
                have yi : IntKind.i64.wrap ((i : Int) + 1) = (i : Int) + 1 := IntWalk.i64_in _ (by omega)
                obtain ⟨b, off, rfl, _, _, _, hc⟩ := HR.out.some (by rw [List.length_map]; omega)
                have q1 := hc i (.int .i64 C[i]) (by rw [List.getElem?_map, List.getElem?_eq_getElem hil]; rfl)
                have hge : C.getD i 0 = C[i] := by rw [List.getD_eq_getElem?_getD, List.getElem?_eq_getElem hil]; rfl
                have hmem := List.getElem_mem hil
                have HG := Lib.hid (show C.getD i 0 = C[i] ∧ C[i] ∈ C from ⟨hge, hmem⟩)
                clear hc hge hmem
                generalize C[i] = c at *
                have hbad : fineB c = false → code W H C = 1 := fun hf => by
                  have ha : C.all fineB = false := by rw [List.all_eq_false]; exact ⟨c, HG.out.2, by rw [hf]; decide⟩
                  rw [HC.out, if_neg (by rw [H5.out]; simp), if_neg (by rw [ha]; decide)]
                have HB := Lib.hid hbad
                clear hbad
                by_cases g1 : c < -1
                · have e1 : decide (c < -1) = true := decide_eq_true g1
                  have hf : fineB c = false := by unfold fineB; rw [decide_eq_false (by omega)]; rfl
                  have HF := Lib.hid (HB.out hf)
                  clear hf
                  go_wp2
                  go_ret
                  exact ⟨by rw [HF.out]; rfl, bl _ _⟩
                · have e1 : decide (c < -1) = false := decide_eq_false g1
                  by_cases g2 : 1073741824 < c
                  · have e2 : decide (1073741824 < c) = true := decide_eq_true g2
                    have hf : fineB c = false := by unfold fineB; rw [decide_eq_false (show ¬ c ≤ 1073741824 by omega), Bool.and_false]
                    have HF := Lib.hid (HB.out hf)
                    clear hf
                    go_wp2
                    go_ret
                    exact ⟨by rw [HF.out]; rfl, bl _ _⟩
                  · have e2 : decide (1073741824 < c) = false := decide_eq_false g2
                    have hf : fineB c = true := by unfold fineB; rw [decide_eq_true (by omega), decide_eq_true (by omega)]; rfl
                    have HF := Lib.hid hf
                    clear hf
                    go_wp2
                    go_roundw
                    case rel =>
                      refine ⟨i + 1, by omega, by go_num, fun j hj => ?_, trivial⟩
                      by_cases hji : j = i
                      · rw [hji, HG.out.1]; exact HF.out
                      · exact HA.out j (by omega)
                    case measure => simp [intOf]; omega
              · obtain rfl : i = n := by omega
                have ha : C.all fineB = true := List.all_eq_true.2 fun c hc => by
                  obtain ⟨j, hj, rfl⟩ := List.getElem_of_mem hc
                  have := HA.out j (by rw [HN.out]; exact hj)
                  rw [List.getD_eq_getElem?_getD, List.getElem?_eq_getElem hj] at this
                  exact this
                have HF := Lib.hid (show code W H C = 0 by rw [HC.out, if_neg (by rw [H5.out]; simp), if_pos ha])
                clear ha
                go_wp2
                go_ret
                exact ⟨by rw [HF.out]; rfl, bl _ _⟩
          · have c1 : ((n : Int) != p) = true := by rw [bne_iff_ne]; exact h5
            have c2 : ((n : Int) == p) = false := by rw [beq_eq_false_iff_ne]; exact h5
            have HF := Lib.hid (show code W H C = 5 by rw [HC.out, if_pos h5])
            clear h5
            go_enter Try.func49, Try.ntmps49
            go_wp2
            go_ret
            exact ⟨by rw [HF.out]; rfl, bl _ _⟩
end Rou
end Go.Proofs.Ytgncngpgodfijaa
