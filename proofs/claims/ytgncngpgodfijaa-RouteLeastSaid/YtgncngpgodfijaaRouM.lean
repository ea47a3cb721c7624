/-
  The walks of Made and own (statements of layer 39).
-/
import Derived.Test.YtgncngpgodfijaaRouX
import Derived.BigQuiet
import Derived.Laws.Small
namespace Go.Proofs.Ytgncngpgodfijaa
open Go.RowKit
set_option linter.unusedVariables false
namespace Rou
theorem own_any {w : World} (W H : Int) (A : Option Addr) (n cap : Nat) :
    Calls Try.prog 48 #[.agg #[.int .i64 W, .int .i64 H, .slice A n cap]] w fun e w' => e = .returned (.agg #[.int .i64 W, .int .i64 H, .slice A n cap]) ∧ Below w.heap.size w w' := by
  go_enter Try.func48, Try.ntmps48
  go_wp2
  exact bodyPost_ret (v := .agg #[.int .i64 W, .int .i64 H, .slice A n cap]) (by simp [results, Try.results48, go_sem]) rfl ⟨rfl, (bl _ _).alloc (by simp) _⟩
/-- a cost of a made field -/
def madeZ (Z : List Int) (i : Nat) : Int := if 0 < Z.length then (if Z.getD (i % Z.length) 0 < -1 then -1 else Z.getD (i % Z.length) 0) else 1
def madeW (a : Nat) : Nat := 1 + a % 12
def madeL (a b : Nat) (Z : List Int) : List Int := (List.range (madeW a * madeW b)).map (madeZ Z)
theorem madeL_len (a b : Nat) (Z : List Int) : (madeL a b Z).length = madeW a * madeW b := by simp [madeL]
theorem made_ok (a b : Nat) (Z : List Int) (hz : ∀ x ∈ Z, -32768 ≤ x ∧ x ≤ 32767) : Ok (madeW a) (madeW b) (madeL a b Z) := by
  refine ⟨by unfold madeW; omega, by unfold madeW; omega, by unfold madeW; omega, by unfold madeW; omega, madeL_len a b Z, fun c hc => ?_⟩
  unfold madeL at hc
  obtain ⟨i, _, rfl⟩ := List.mem_map.1 hc
  unfold madeZ
  split
  · rename_i h0
    have hy : Z[i % Z.length]? = some (Z.getD (i % Z.length) 0) := by
      have := Nat.mod_lt i h0
      simp [this]
    have := hz _ (List.mem_of_getElem? hy)
    split <;> omega
  · omega
def zv16 (x : Int) : Value := .int .i16 x
/-- what Made hands back -/
def GotM (w : World) (W H : Nat) (L : List Int) (e : Ending) (w' : World) : Prop := ∃ v, e = .returned (.agg #[.int .i64 (W : Int), .int .i64 (H : Int), v]) ∧ w'.ownsRow w.heap.size 2 1 v L.length (L.map iv) ∧ Below w.heap.size w w'
/-- on the way -/
structure MZ (w : World) (W H lo hi : Nat) (A : Option Addr) (Z K : List Int) (v : Value) (wr : World) : Prop where
  res : Blk wr w.heap.size 80 [.int .i64 0, .int .i64 0, .slice Option.none 0 0]
  out : Blk wr (w.heap.size + 1) 80 [.int .i64 (W : Int), .int .i64 (H : Int), v]
  own : wr.ownsRow (w.heap.size + 1 + 1) 2 1 v K.length (K.map iv)
  rd : RdL wr lo hi A (Z.map zv16)
  below : Below w.heap.size w wr
theorem own_geR {w : World} {base n size : Nat} {e : TypeId} {v : Value} {l : List Value} (h : w.ownsRow base e size v n l) : ∀ k, v.ownBlock = some k → base ≤ k := fun k hk => (own_lt h hk).1
section
variable {w wr wa w' : World} {W H lo hi : Nat} {A : Option Addr} {Z K : List Int} {v : Value}
theorem MZ.next (S : MZ w W H lo hi A Z K v wr) (hb : Below wr.heap.size wr w') : MZ w W H lo hi A Z K v w' :=
  ⟨S.res.next hb, S.out.next hb, own_next S.own hb, S.rd.next hb, bt S.below hb⟩
theorem MZ.more (S : MZ w W H lo hi A Z K v wr) (x : Int) {v1 : Value} (hg : wr.grownBy w' v.ownBlock) (ho : w'.ownsRow (w.heap.size + 1 + 1) 2 1 v1 (K.length + 1) (K.map iv ++ [iv x])) (hhi : hi ≤ w.heap.size) :
    w'.frozen? ⟨w.heap.size + 1, 2, Option.none⟩ = false ∧ w'.cell? ⟨w.heap.size + 1, 2, Option.none⟩ = some v ∧ MZ w W H lo hi A Z (K ++ [x]) v1 (w'.setCell ⟨w.heap.size + 1, 2, Option.none⟩ v1) := by
  have hv := own_geR S.own
  have hv1 := own_geR ho
  have n1 : ∀ k, k < w.heap.size + 1 + 1 → some k ≠ v.ownBlock := fun k hk e => by have := hv k e.symm; omega
  have o1 := S.out.grown hg (n1 _ (by omega))
  have b1 := S.below.grown hg S.below.size (fun k hk => by have := hv k hk; omega)
  refine ⟨o1.free 2, o1.cell 2, (S.res.grown hg (n1 _ (by omega))).far (p := ⟨w.heap.size + 1, 2, Option.none⟩) (by show w.heap.size ≠ w.heap.size + 1; omega) _, o1.put 2 v1, ?_,
    (S.rd.grown hg (fun g' hg' => .inr (by have := hv g' hg'; omega))).far (p := ⟨w.heap.size + 1, 2, Option.none⟩) (.inr (by show hi ≤ w.heap.size + 1; omega)) _, b1.setCell (by show w.heap.size ≤ w.heap.size + 1; omega) _⟩
  rw [List.length_append, List.length_singleton, List.map_append]
  exact ho.kept (only_set (w := w') (g := w.heap.size + 1) (only_refl _ _) 2 v1) (.inr (fun e => by have := hv1 _ e; omega))
end
theorem range_map_take {α : Type} (f : Nat → α) (n k : Nat) (h : k < n) : ((List.range n).map f).take (k + 1) = ((List.range n).map f).take k ++ [f k] := by
  rw [List.take_add_one]
  congr 1
  rw [List.getElem?_map, List.getElem?_range h]
  rfl
set_option maxRecDepth 100000 in
set_option maxHeartbeats 2000000 in
theorem made_any (a b : Nat) (ha : a < 256) (hb : b < 256) (A : Option Addr) (Z : List Int) (m cap lo hi : Nat) (w : World) (hrd : RdL w lo hi A (Z.map zv16)) (hl : Z.length = m) (hm : m ≤ 1000) (hhi : hi ≤ w.heap.size) (hz : ∀ x ∈ Z, -32768 ≤ x ∧ x ≤ 32767) :
    Calls Try.prog 54 #[.int .u8 (a : Int), .int .u8 (b : Int), .slice A m cap] w (GotM w (madeW a) (madeW b) (madeL a b Z)) := by
  obtain ⟨i0, hi0, hz0, hz1, hz2⟩ := info_parts info64
  obtain ⟨W, eW⟩ : ∃ W, W = madeW a := ⟨_, rfl⟩
  obtain ⟨H, eH⟩ : ∃ H, H = madeW b := ⟨_, rfl⟩
  have ha1 : (a : Int).tmod 12 = (a : Int) % 12 := Int.tmod_eq_emod_of_nonneg (by omega)
  have hb1 : (b : Int).tmod 12 = (b : Int) % 12 := Int.tmod_eq_emod_of_nonneg (by omega)
  have gW : 1 + (a : Int).tmod 12 = (W : Int) := by rw [ha1, eW]; unfold madeW; omega
  have gH : 1 + (b : Int).tmod 12 = (H : Int) := by rw [hb1, eH]; unfold madeW; omega
  have gWe : 1 + (a : Int) % 12 = (W : Int) := by rw [eW]; unfold madeW; omega
  have gHe : 1 + (b : Int) % 12 = (H : Int) := by rw [eH]; unfold madeW; omega
  have hWl : 1 ≤ W ∧ W ≤ 12 := by rw [eW]; unfold madeW; omega
  have hHl : 1 ≤ H ∧ H ≤ 12 := by rw [eH]; unfold madeW; omega
  have a0 : IntKind.i64.wrap (a : Int) = (a : Int) := IntWalk.i64_in _ (by omega)
  have b0 : IntKind.i64.wrap (b : Int) = (b : Int) := IntWalk.i64_in _ (by omega)
  have ga : IntKind.i64.wrap ((a : Int).tmod 12) = (a : Int).tmod 12 := IntWalk.i64_in _ (by omega)
  have gb : IntKind.i64.wrap ((b : Int).tmod 12) = (b : Int).tmod 12 := IntWalk.i64_in _ (by omega)
  have gWw : IntKind.i64.wrap (1 + (a : Int).tmod 12) = (W : Int) := by rw [gW]; exact IntWalk.i64_in _ (by omega)
  have gHw : IntKind.i64.wrap (1 + (b : Int).tmod 12) = (H : Int) := by rw [gH]; exact IntWalk.i64_in _ (by omega)
  have hLe : madeL a b Z = (List.range (W * H)).map (madeZ Z) := by rw [eW, eH]; rfl
  rw [← eW, ← eH, hLe]
  clear eW eH hLe ha1 hb1
  have mWH : (W : Int) * (H : Int) = ((W * H : Nat) : Int) := (Int.natCast_mul _ _).symm
  have lWH : W * H ≤ 12 * 12 := Nat.mul_le_mul hWl.2 hHl.2
  obtain ⟨N, hN⟩ : ∃ N, N = W * H := ⟨_, rfl⟩
  rw [← hN] at mWH lWH ⊢
  have yN : IntKind.i64.wrap ((W : Int) * (H : Int)) = (N : Int) := by rw [mWH]; exact IntWalk.i64_in _ (by omega)
  obtain ⟨F, hF⟩ : ∃ F, F = (List.range N).map (madeZ Z) := ⟨_, rfl⟩
  rw [← hF]
  have hFl : F.length = N := by rw [hF]; simp
  have hFt : ∀ k, k < N → F.take (k + 1) = F.take k ++ [madeZ Z k] := fun k hk => by rw [hF]; exact range_map_take _ _ _ hk
  have HFl := Lib.hid hFl
  have HFt := Lib.hid hFt
  have HRd := Lib.hid hrd
  have Hl := Lib.hid hl
  have Hz := Lib.hid hz
  clear hrd hl hz hF hFl hFt hN gW gH
  go_enter Try.func54, Try.ntmps54
  go_wp2
  have S0 : MZ w W H lo hi A Z [] (.slice Option.none 0 0) ((w.alloc (.cells #[.int .i64 0, .int .i64 0, .slice Option.none 0 0] 80)).alloc (.cells #[.int .i64 (W : Int), .int .i64 (H : Int), .slice Option.none 0 0] 80)) := by
    have k2 := Blk.mk (w.alloc (.cells #[.int .i64 0, .int .i64 0, .slice Option.none 0 0] 80)) 80 [.int .i64 (W : Int), .int .i64 (H : Int), .slice Option.none 0 0]
    simp only [World.size_alloc] at k2
    exact ⟨(Blk.mk w 80 [.int .i64 0, .int .i64 0, .slice Option.none 0 0]).alloc _, k2, World.ownsRow_nil _ _ _ _, (HRd.out.alloc _).alloc _, bt (_root_.Go.Proofs.Ytgncngpgodfijaa.bl _ _) (_root_.Go.Proofs.Ytgncngpgodfijaa.bl _ _)⟩
  have HS0 := Lib.hid S0
  clear S0
  go_loopw [8] (fun i wr => ∃ (k : Nat) (v : Value) (K : List Int), k ≤ N ∧ i = .int .i64 (k : Int) ∧ K = F.take k ∧ MZ w W H lo hi A Z K v wr) (fun i _ => N - (intOf i).toNat)
  case atStart => exact ⟨0, _, _, Nat.zero_le _, rfl, by rw [List.take_zero], HS0.out⟩
  case round =>
    clear HS0
    obtain ⟨k, v, K, hk, rfl, hK, S⟩ := hrel
    obtain ⟨Av, cv, rfl, _, _, _, _⟩ := own_rd S.own
    have hKl : K.length ≤ 144 := by rw [hK, List.length_take]; omega
    have HK := Lib.hid hK
    have HS := Lib.hid S
    have e0 : wr.cell? ⟨w.heap.size + 1, 0, Option.none⟩ = some (.int .i64 (W : Int)) := S.out.cell 0
    have e1 : wr.cell? ⟨w.heap.size + 1, 1, Option.none⟩ = some (.int .i64 (H : Int)) := S.out.cell 1
    have e2 : wr.cell? ⟨w.heap.size + 1, 2, Option.none⟩ = some (.slice Av K.length cv) := S.out.cell 2
    have hsz := S.out.lt
    clear S hK
    by_cases hlt : k < N
    · have hltI : (k : Int) < (N : Int) := by omega
      have HT := Lib.hid (HFt.out k hlt)
      obtain ⟨x, hx⟩ : ∃ x, x = madeZ Z k := ⟨_, rfl⟩
      rw [← hx] at HT
      by_cases h2 : 0 < m
      · have h2I : 0 < (m : Int) := by omega
        have hx1 : x = if Z.getD (k % m) 0 < -1 then -1 else Z.getD (k % m) 0 := by rw [hx]; unfold madeZ; rw [if_pos (by rw [Hl.out]; exact h2), Hl.out]
        have hkl : k % m < Z.length := by rw [Hl.out]; exact Nat.mod_lt _ h2
        obtain ⟨bk, off, rfl, hb1, hb2, hb3, hbc⟩ := HRd.out.some (by rw [List.length_map]; omega)
        obtain ⟨bk', off', e, _, _, _, hbc⟩ := HS.out.rd.some (by rw [List.length_map]; omega)
        injection e with e
        injection e with ee1 ee2
        subst ee1 ee2
        have hy : Z[k % m]? = some (Z.getD (k % m) 0) := by simp [hkl]
        have hyr := Hz.out (Z.getD (k % m) 0) (List.mem_of_getElem? hy)
        have c0 : wr.cell? ⟨bk, off + k % m, Option.none⟩ = some (.int .i16 (Z.getD (k % m) 0)) := hbc (k % m) _ (by rw [List.getElem?_map, hy]; rfl)
        have rm : (k : Int).tmod (m : Int) = ((k % m : Nat) : Int) := by rw [Int.tmod_eq_emod_of_nonneg (by omega)]; rfl
        have rml : k % m < m := Nat.mod_lt _ h2
        generalize Z.getD (k % m) 0 = y at *
        generalize k % m = q at *
        have wm : IntKind.i64.wrap ((k : Int).tmod (m : Int)) = (q : Int) := by rw [rm]; exact IntWalk.i64_in _ (by omega)
        have wq : IntKind.i64.wrap (q : Int) = (q : Int) := IntWalk.i64_in _ (by omega)
        have wy : IntKind.i64.wrap y = y := IntWalk.i64_in _ (by omega)
        have m0 : ¬ (m : Int) = 0 := by omega
        have m0' : ((m : Int) == 0) = false := by rw [beq_eq_false_iff_ne]; omega
        have m0'' : ¬ m = 0 := by omega
        have qI : (q : Int) < (m : Int) := by omega
        clear hbc hx hb1 hb2 hb3 hkl hy
        by_cases h3 : y < -1
        · rw [if_pos h3] at hx1
          subst hx1
          have h3' : (-1 : Int) > y := h3
          have hN3 := Lib.hid (new_rd wr 2 [iv (-1)])
          have hS3 := Lib.hid (HS.out.next (_root_.Go.Proofs.Ytgncngpgodfijaa.bl wr (.cells [iv (-1)].toArray 2)))
          go_wp2_with (at_builtin; refine wpList_append_mine rfl (.tmp 40) (.tmp 43) 78 rfl (w.heap.size + 1 + 1) 2 i0 _ 1 8 Try.underlying78 hi0 hz0 hz1 hz2 rfl (by decide) (.slice Av K.length cv) K.length (K.map iv) rfl hS3.out.own (some ⟨wr.heap.size, 0, Option.none⟩) 1 1 [iv (-1)] rfl rfl (fun h => by cases h) hN3.out.news (by simp [iv, Value.oneCell']) (by simp only [maxLen]; omega) (by omega) (by simp; omega) ?_; intro v2 w2 hown hgrow hwh; obtain ⟨A2, c2, rfl, _, _, _, _⟩ := own_rd hown; have hmore := hS3.out.more (-1) hgrow hown hhi; obtain ⟨fz, fc, hfin⟩ := hmore; have HFin := Lib.hid hfin; clear hown hgrow hwh hfin)
          go_roundw
          case rel => exact ⟨k + 1, _, _, by omega, by go_num, by rw [HT.out, HK.out], HFin.out⟩
          case measure => simp [intOf]; omega
        · rw [if_neg h3] at hx1
          have h3' : ¬ (-1 : Int) > y := h3
          subst hx1
          have hN3 := Lib.hid (new_rd wr 2 [iv x])
          have hS3 := Lib.hid (HS.out.next (_root_.Go.Proofs.Ytgncngpgodfijaa.bl wr (.cells [iv x].toArray 2)))
          go_wp2_with (at_builtin; refine wpList_append_mine rfl (.tmp 40) (.tmp 43) 78 rfl (w.heap.size + 1 + 1) 2 i0 _ 1 8 Try.underlying78 hi0 hz0 hz1 hz2 rfl (by decide) (.slice Av K.length cv) K.length (K.map iv) rfl hS3.out.own (some ⟨wr.heap.size, 0, Option.none⟩) 1 1 [iv x] rfl rfl (fun h => by cases h) hN3.out.news (by simp [iv, Value.oneCell']) (by simp only [maxLen]; omega) (by omega) (by simp; omega) ?_; intro v2 w2 hown hgrow hwh; obtain ⟨A2, c2, rfl, _, _, _, _⟩ := own_rd hown; have hmore := hS3.out.more x hgrow hown hhi; obtain ⟨fz, fc, hfin⟩ := hmore; have HFin := Lib.hid hfin; clear hown hgrow hwh hfin)
          go_roundw
          case rel => exact ⟨k + 1, _, _, by omega, by go_num, by rw [HT.out, HK.out], HFin.out⟩
          case measure => simp [intOf]; omega
      · have hm0 : m = 0 := by omega
        subst hm0
        have hx1 : x = 1 := by rw [hx]; unfold madeZ; rw [if_neg (by rw [Hl.out]; omega)]
        subst hx1
        clear hx
        have hN3 := Lib.hid (new_rd wr 2 [iv 1])
        have hS3 := Lib.hid (HS.out.next (_root_.Go.Proofs.Ytgncngpgodfijaa.bl wr (.cells [iv 1].toArray 2)))
        go_wp2_with (at_builtin; refine wpList_append_mine rfl (.tmp 40) (.tmp 43) 78 rfl (w.heap.size + 1 + 1) 2 i0 _ 1 8 Try.underlying78 hi0 hz0 hz1 hz2 rfl (by decide) (.slice Av K.length cv) K.length (K.map iv) rfl hS3.out.own (some ⟨wr.heap.size, 0, Option.none⟩) 1 1 [iv 1] rfl rfl (fun h => by cases h) hN3.out.news (by simp [iv, Value.oneCell']) (by simp only [maxLen]; omega) (by omega) (by simp; omega) ?_; intro v2 w2 hown hgrow hwh; obtain ⟨A2, c2, rfl, _, _, _, _⟩ := own_rd hown; have hmore := hS3.out.more 1 hgrow hown hhi; obtain ⟨fz, fc, hfin⟩ := hmore; have HFin := Lib.hid hfin; clear hown hgrow hwh hfin)
        go_roundw
        case rel => exact ⟨k + 1, _, _, by omega, by go_num, by rw [HT.out, HK.out], HFin.out⟩
        case measure => simp [intOf]; omega
    · obtain rfl : k = N := by omega
      have hge : ¬ (k : Int) < (k : Int) := by omega
      have hKF : K = F := by rw [HK.out]; exact List.take_of_length_le (by rw [HFl.out]; exact Nat.le_refl _)
      have HKF := Lib.hid hKF
      have r0 := HS.out.res.free 0
      have r1 := HS.out.res.free 1
      have r2 := HS.out.res.free 2
      have q0 : wr.cell? ⟨w.heap.size, 0, Option.none⟩ = some (.int .i64 0) := HS.out.res.cell 0
      have q1 : wr.cell? ⟨w.heap.size, 1, Option.none⟩ = some (.int .i64 0) := HS.out.res.cell 1
      have q2 : wr.cell? ⟨w.heap.size, 2, Option.none⟩ = some (.slice Option.none 0 0) := HS.out.res.cell 2
      clear hKF
      go_wp2
      refine bodyPost_ret (v := .agg #[.int .i64 (W : Int), .int .i64 (H : Int), .slice Av K.length cv]) (by simp [results, Try.results54, go_sem, q0, q1, q2]) rfl ?_
      unfold GotM
      rw [← HKF.out]
      have f : ∀ (X : World) (i : Nat) (u : Value), X.ownsRow (w.heap.size + 1 + 1) 2 1 (.slice Av K.length cv) K.length (K.map iv) → (X.setCell ⟨w.heap.size, i, Option.none⟩ u).ownsRow (w.heap.size + 1 + 1) 2 1 (.slice Av K.length cv) K.length (K.map iv) := fun X i u h =>
        h.kept (only_set (w := X) (g := w.heap.size) (only_refl _ _) i u) (.inr (fun e => by have := own_geR h _ e; omega))
      exact ⟨_, rfl, own_down (f _ _ _ (f _ _ _ (f _ _ _ HS.out.own))) (by omega), ((HS.out.below.setCell (by simp) _).setCell (by simp) _).setCell (by simp) _⟩
end Rou
end Go.Proofs.Ytgncngpgodfijaa
