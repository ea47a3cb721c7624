/-
  The walk of the statements' own field (as PyrF).
-/
import Derived.Test.YtmiplljcnchjkaaSurG
namespace Go.Proofs.Ytmiplljcnchjkaa
open Go.RowKit
set_option linter.unusedVariables false
namespace Sur

theorem infoI16 : (Try.prog.info? 92).map (fun i => (i.zero, i.size, i.bytes)) = some (some (.int .i16 0), 1, 2) := by kernel_rfl
/-- a height of the field -/
def fieldZ (Z : List Int) (i : Nat) : Int := if i < Z.length then Z.getD i 0 else if 0 < Z.length then (Z.getD (i % Z.length) 0).tdiv 2 else ((i % 7 : Nat) : Int)
def fieldW (w : Nat) : Nat := 2 + w % 39
def fieldL (w h : Nat) (Z : List Int) : List Int := (List.range (fieldW w * fieldW h)).map (fieldZ Z)
theorem fieldL_len (w h : Nat) (Z : List Int) : (fieldL w h Z).length = fieldW w * fieldW h := by simp [fieldL]
theorem fieldW_le (w : Nat) : 2 ≤ fieldW w ∧ fieldW w ≤ 40 := by unfold fieldW; omega
def GotH (w : World) (W H : Nat) (L : List Int) (e : Ending) (w' : World) : Prop := ∃ v, e = .returned (.agg #[.int .i64 (W : Int), .int .i64 (H : Int), v]) ∧ w'.ownsRow w.heap.size 92 1 v L.length (L.map z16) ∧ Below w.heap.size w w'
/-- on the way -/
structure FZ (w : World) (W H lo hi : Nat) (A : Option Addr) (Z K : List Int) (v : Value) (wr : World) : Prop where
  res : Blk wr w.heap.size 53 [.int .i64 0, .int .i64 0, .slice Option.none 0 0]
  out : Blk wr (w.heap.size + 1) 53 [.int .i64 (W : Int), .int .i64 (H : Int), v]
  own : wr.ownsRow (w.heap.size + 1 + 1) 92 1 v K.length (K.map z16)
  rd : RdL wr lo hi A (Z.map z16)
  below : Below w.heap.size w wr
section
variable {w wr wa w' : World} {W H lo hi : Nat} {A : Option Addr} {Z K : List Int} {v : Value}
theorem FZ.next (S : FZ w W H lo hi A Z K v wr) (hb : Below wr.heap.size wr w') : FZ w W H lo hi A Z K v w' :=
  ⟨S.res.next hb, S.out.next hb, own_next S.own hb, S.rd.next hb, bt S.below hb⟩
theorem FZ.more (S : FZ w W H lo hi A Z K v wr) (x : Int) {v1 : Value} (hg : wr.grownBy w' v.ownBlock) (ho : w'.ownsRow (w.heap.size + 1 + 1) 92 1 v1 (K.length + 1) (K.map z16 ++ [z16 x])) (hhi : hi ≤ w.heap.size) :
    w'.frozen? ⟨w.heap.size + 1, 2, Option.none⟩ = false ∧ w'.cell? ⟨w.heap.size + 1, 2, Option.none⟩ = some v ∧ FZ w W H lo hi A Z (K ++ [x]) v1 (w'.setCell ⟨w.heap.size + 1, 2, Option.none⟩ v1) := by
  have hv := own_ge S.own
  have hv1 := own_ge ho
  have n1 : ∀ k, k < w.heap.size + 1 + 1 → some k ≠ v.ownBlock := fun k hk e => by have := hv k e.symm; omega
  have o1 := S.out.grown hg (n1 _ (by omega))
  have b1 := S.below.grown hg S.below.size (fun k hk => by have := hv k hk; omega)
  refine ⟨o1.free 2, o1.cell 2, (S.res.grown hg (n1 _ (by omega))).far (p := ⟨w.heap.size + 1, 2, Option.none⟩) (by show w.heap.size ≠ w.heap.size + 1; omega) _, o1.put 2 v1, ?_,
    (S.rd.grown hg (fun g' hg' => .inr (by have := hv g' hg'; omega))).far (p := ⟨w.heap.size + 1, 2, Option.none⟩) (.inr (by show hi ≤ w.heap.size + 1; omega)) _, b1.setCell (by show w.heap.size ≤ w.heap.size + 1; omega) _⟩
  rw [List.length_append, List.length_singleton, List.map_append]
  exact ho.kept (only_set (w := w') (g := w.heap.size + 1) (only_refl _ _) 2 v1) (.inr (fun e => by have := hv1 _ e; omega))
end
theorem half_in (y : Int) (h : -32768 ≤ y ∧ y ≤ 32767) : -32768 ≤ y.tdiv 2 ∧ y.tdiv 2 ≤ 32767 := by
  rcases Int.le_total 0 y with h0 | h0
  · rw [Int.tdiv_eq_ediv_of_nonneg h0]; omega
  · have e : y.tdiv 2 = -((-y).tdiv 2) := by rw [Int.neg_tdiv, Int.neg_neg]
    rw [e, Int.tdiv_eq_ediv_of_nonneg (by omega)]
    omega
theorem range_map_take {α : Type} (f : Nat → α) (n k : Nat) (h : k < n) : ((List.range n).map f).take (k + 1) = ((List.range n).map f).take k ++ [f k] := by
  rw [List.take_add_one]
  congr 1
  rw [List.getElem?_map, List.getElem?_range h]
  rfl
set_option maxRecDepth 100000 in
set_option maxHeartbeats 4000000 in
theorem field_any (a b : Nat) (ha : a < 256) (hb : b < 256) (A : Option Addr) (Z : List Int) (m cap lo hi : Nat) (w : World) (hrd : RdL w lo hi A (Z.map z16)) (hl : Z.length = m) (hm : m ≤ 2000) (hcap : m ≤ cap) (hz : ∀ x ∈ Z, -32768 ≤ x ∧ x ≤ 32767) (hhi : hi ≤ w.heap.size) :
    Calls Try.prog 36 #[.int .u8 (a : Int), .int .u8 (b : Int), .slice A m cap] w (GotH w (fieldW a) (fieldW b) (fieldL a b Z)) := by
  obtain ⟨i0, hi0, hz0, hz1, hz2⟩ := info_parts infoI16
  have hW := fieldW_le a
  have hH := fieldW_le b
  obtain ⟨W, eW⟩ : ∃ W, W = fieldW a := ⟨_, rfl⟩
  obtain ⟨H, eH⟩ : ∃ H, H = fieldW b := ⟨_, rfl⟩
  have ha1 : (a : Int).tmod 39 = (a : Int) % 39 := Int.tmod_eq_emod_of_nonneg (by omega)
  have hb1 : (b : Int).tmod 39 = (b : Int) % 39 := Int.tmod_eq_emod_of_nonneg (by omega)
  have gW : 2 + (a : Int).tmod 39 = (W : Int) := by rw [ha1, eW]; unfold fieldW; omega
  have gH : 2 + (b : Int).tmod 39 = (H : Int) := by rw [hb1, eH]; unfold fieldW; omega
  have gWe : 2 + (a : Int) % 39 = (W : Int) := by rw [eW]; unfold fieldW; omega
  have gHe : 2 + (b : Int) % 39 = (H : Int) := by rw [eH]; unfold fieldW; omega
  have a0 : IntKind.i64.wrap (a : Int) = (a : Int) := IntWalk.i64_in _ (by omega)
  have b0 : IntKind.i64.wrap (b : Int) = (b : Int) := IntWalk.i64_in _ (by omega)
  have ga : IntKind.i64.wrap ((a : Int).tmod 39) = (a : Int).tmod 39 := IntWalk.i64_in _ (by omega)
  have gb : IntKind.i64.wrap ((b : Int).tmod 39) = (b : Int).tmod 39 := IntWalk.i64_in _ (by omega)
  have gWw : IntKind.i64.wrap (2 + (a : Int).tmod 39) = (W : Int) := by rw [gW]; exact IntWalk.i64_in _ (by omega)
  have gHw : IntKind.i64.wrap (2 + (b : Int).tmod 39) = (H : Int) := by rw [gH]; exact IntWalk.i64_in _ (by omega)
  have hWl : 2 ≤ W ∧ W ≤ 40 := by rw [eW]; exact hW
  have hHl : 2 ≤ H ∧ H ≤ 40 := by rw [eH]; exact hH
  have hLe : fieldL a b Z = (List.range (W * H)).map (fieldZ Z) := by rw [eW, eH]; rfl
  rw [← eW, ← eH, hLe]
  clear eW eH hLe hW hH ha1 hb1
  have mWH : (W : Int) * (H : Int) = ((W * H : Nat) : Int) := (Int.natCast_mul _ _).symm
  have lWH : W * H ≤ 40 * 40 := Nat.mul_le_mul hWl.2 hHl.2
  obtain ⟨N, hN⟩ : ∃ N, N = W * H := ⟨_, rfl⟩
  rw [← hN] at mWH lWH ⊢
  have yN : IntKind.i64.wrap ((W : Int) * (H : Int)) = (N : Int) := by rw [mWH]; exact IntWalk.i64_in _ (by omega)
  obtain ⟨F, hF⟩ : ∃ F, F = (List.range N).map (fieldZ Z) := ⟨_, rfl⟩
  rw [← hF]
  have hFl : F.length = N := by rw [hF]; simp
  have hFt : ∀ k, k < N → F.take (k + 1) = F.take k ++ [fieldZ Z k] := fun k hk => by rw [hF]; exact range_map_take _ _ _ hk
  have HFl := Lib.hid hFl
  have HFt := Lib.hid hFt
  have HRd := Lib.hid hrd
  have Hl := Lib.hid hl
  have Hz := Lib.hid hz
  clear hrd hl hz hF hFl hFt hN gW gH
  go_enter Try.func36, Try.ntmps36
  go_wp2
  have S0 : FZ w W H lo hi A Z [] (.slice Option.none 0 0) ((w.alloc (.cells #[.int .i64 0, .int .i64 0, .slice Option.none 0 0] 53)).alloc (.cells #[.int .i64 (W : Int), .int .i64 (H : Int), .slice Option.none 0 0] 53)) := by
    have k2 := Blk.mk (w.alloc (.cells #[.int .i64 0, .int .i64 0, .slice Option.none 0 0] 53)) 53 [.int .i64 (W : Int), .int .i64 (H : Int), .slice Option.none 0 0]
    simp only [World.size_alloc] at k2
    exact ⟨(Blk.mk w 53 [.int .i64 0, .int .i64 0, .slice Option.none 0 0]).alloc _, k2, World.ownsRow_nil _ _ _ _, (HRd.out.alloc _).alloc _, bt (_root_.Go.Proofs.Ytmiplljcnchjkaa.bl _ _) (_root_.Go.Proofs.Ytmiplljcnchjkaa.bl _ _)⟩
  have HS0 := Lib.hid S0
  clear S0
  go_loopw [8] (fun i wr => ∃ (k : Nat) (v : Value) (K : List Int), k ≤ N ∧ i = .int .i64 (k : Int) ∧ K = F.take k ∧ FZ w W H lo hi A Z K v wr) (fun i _ => N - (intOf i).toNat)
  case atStart => exact ⟨0, _, _, Nat.zero_le _, rfl, by rw [List.take_zero], HS0.out⟩
  case round =>
    clear HS0
    obtain ⟨k, v, K, hk, rfl, hK, S⟩ := hrel
    obtain ⟨Av, cv, rfl, _, _, _, _⟩ := own_rd S.own
    have hKl : K.length ≤ 1600 := by rw [hK, List.length_take]; omega
    have HK := Lib.hid hK
    have HS := Lib.hid S
    have e0 : wr.cell? ⟨w.heap.size + 1, 0, Option.none⟩ = some (.int .i64 (W : Int)) := S.out.cell 0
    have e1 : wr.cell? ⟨w.heap.size + 1, 1, Option.none⟩ = some (.int .i64 (H : Int)) := S.out.cell 1
    have e2 : wr.cell? ⟨w.heap.size + 1, 2, Option.none⟩ = some (.slice Av K.length cv) := S.out.cell 2
    have hsz := S.out.lt
    clear S hK
    by_cases hlt : k < N
    · have hltI : (k : Int) < (N : Int) := by omega
      have HT := Lib.hid (HFt.out k hlt)
      obtain ⟨x, hx⟩ : ∃ x, x = fieldZ Z k := ⟨_, rfl⟩
      rw [← hx] at HT
      have r7 : (k : Int).tmod 7 = ((k % 7 : Nat) : Int) := by rw [Int.tmod_eq_emod_of_nonneg (by omega)]; rfl
      have r7l : k % 7 < 7 := Nat.mod_lt _ (by decide)
      by_cases h1 : k < m
      · have h1I : (k : Int) < (m : Int) := by omega
        have hx1 : x = Z.getD k 0 := by rw [hx]; unfold fieldZ; rw [if_pos (by rw [Hl.out]; exact h1)]
        have hkl : k < Z.length := by rw [Hl.out]; exact h1
        obtain ⟨bk, off, rfl, hb1, hb2, hb3, hbc⟩ := HRd.out.some (by rw [List.length_map]; omega)
        obtain ⟨bk', off', e, _, _, _, hbc⟩ := HS.out.rd.some (by rw [List.length_map]; omega)
        injection e with e
        injection e with ee1 ee2
        subst ee1 ee2
        have c0 : wr.cell? ⟨bk, off + k, Option.none⟩ = some (.int .i16 x) := by
          refine hbc k _ ?_
          rw [List.getElem?_map, List.getElem?_eq_getElem hkl, hx1]
          simp [z16, hkl]
        generalize k % 7 = r at *
        have w7 : IntKind.i64.wrap ((k : Int).tmod 7) = (r : Int) := by rw [r7]; exact IntWalk.i64_in _ (by omega)
        have w7' : IntKind.i16.wrap (r : Int) = (r : Int) := IntWalk.i16_in _ (by omega)
        clear hbc hx hx1 hb1 hb2 hb3 hkl
        have N3 := new_rd wr 92 [z16 x]
        have S3 := HS.out.next (_root_.Go.Proofs.Ytmiplljcnchjkaa.bl wr (.cells [z16 x].toArray 92))
        have hS3 := Lib.hid S3
        have hN3 := Lib.hid N3
        clear N3 S3
        go_wp2_with (at_builtin; refine wpList_append_mine rfl (.tmp 51) (.tmp 53) 51 rfl (w.heap.size + 1 + 1) 92 i0 _ 1 2 Try.underlying51 hi0 hz0 hz1 hz2 rfl (by decide) (.slice Av K.length cv) K.length (K.map z16) rfl hS3.out.own (some ⟨wr.heap.size, 0, Option.none⟩) 1 1 [z16 x] rfl rfl (fun h => by cases h) hN3.out.news (by simp [z16, Value.oneCell']) (by simp only [maxLen]; omega) (by omega) (by simp; omega) ?_; intro v2 w2 hown hgrow hwh; obtain ⟨A2, c2, rfl, _, _, _, _⟩ := own_rd hown; have hmore := hS3.out.more x hgrow hown hhi; obtain ⟨fz, fc, hfin⟩ := hmore; have HFin := Lib.hid hfin; clear hown hgrow hwh hfin)
        go_roundw
        case rel => exact ⟨k + 1, _, _, by omega, by go_num, by rw [HT.out, HK.out], HFin.out⟩
        case measure => simp [intOf]; omega
      · have h1I : ¬ (k : Int) < (m : Int) := by omega
        by_cases h2 : 0 < m
        · have h2I : 0 < (m : Int) := by omega
          have hx1 : x = (Z.getD (k % m) 0).tdiv 2 := by rw [hx]; unfold fieldZ; rw [if_neg (by rw [Hl.out]; exact h1), if_pos (by rw [Hl.out]; exact h2), Hl.out]
          have hkl : k % m < Z.length := by rw [Hl.out]; exact Nat.mod_lt _ h2
          obtain ⟨bk, off, rfl, hb1, hb2, hb3, hbc⟩ := HRd.out.some (by rw [List.length_map]; omega)
          obtain ⟨bk', off', e, _, _, _, hbc⟩ := HS.out.rd.some (by rw [List.length_map]; omega)
          injection e with e
          injection e with ee1 ee2
          subst ee1 ee2
          have hy : Z[k % m]? = some (Z.getD (k % m) 0) := by simp [hkl]
          have hyr := Hz.out (Z.getD (k % m) 0) (List.mem_of_getElem? hy)
          have c0 : wr.cell? ⟨bk, off + k % m, Option.none⟩ = some (.int .i16 (Z.getD (k % m) 0)) := hbc (k % m) _ (by rw [List.getElem?_map, hy]; rfl)
          have rm : (k : Int).tmod (m : Int) = ((k % m : Nat) : Int) := by rw [Int.tmod_eq_emod_of_nonneg (by omega)]; rfl
          have rml : k % m < m := Nat.mod_lt _ h2
          generalize Z.getD (k % m) 0 = y at *
          generalize k % m = q at *
          generalize k % 7 = r at *
          have w7 : IntKind.i64.wrap ((k : Int).tmod 7) = (r : Int) := by rw [r7]; exact IntWalk.i64_in _ (by omega)
          have w7' : IntKind.i16.wrap (r : Int) = (r : Int) := IntWalk.i16_in _ (by omega)
          have wm : IntKind.i64.wrap ((k : Int).tmod (m : Int)) = (q : Int) := by rw [rm]; exact IntWalk.i64_in _ (by omega)
          have wq : IntKind.i64.wrap (q : Int) = (q : Int) := IntWalk.i64_in _ (by omega)
          have m0 : ¬ (m : Int) = 0 := by omega
          have m0' : ((m : Int) == 0) = false := by rw [beq_eq_false_iff_ne]; omega
          have m0'' : ¬ m = 0 := by omega
          have hyh := half_in y hyr
          have wd : IntKind.i16.wrap (y.tdiv 2) = x := by rw [hx1]; exact IntWalk.i16_in _ (by omega)
          have qI : (q : Int) < (m : Int) := by omega
          clear hbc hx hb1 hb2 hb3 hkl hy
          have N3 := new_rd wr 92 [z16 x]
          have S3 := HS.out.next (_root_.Go.Proofs.Ytmiplljcnchjkaa.bl wr (.cells [z16 x].toArray 92))
          have hS3 := Lib.hid S3
          have hN3 := Lib.hid N3
          have HX := Lib.hid hx1
          clear N3 S3 hx1
          go_wp2_with (at_builtin; refine wpList_append_mine rfl (.tmp 51) (.tmp 53) 51 rfl (w.heap.size + 1 + 1) 92 i0 _ 1 2 Try.underlying51 hi0 hz0 hz1 hz2 rfl (by decide) (.slice Av K.length cv) K.length (K.map z16) rfl hS3.out.own (some ⟨wr.heap.size, 0, Option.none⟩) 1 1 [z16 x] rfl rfl (fun h => by cases h) hN3.out.news (by simp [z16, Value.oneCell']) (by simp only [maxLen]; omega) (by omega) (by simp; omega) ?_; intro v2 w2 hown hgrow hwh; obtain ⟨A2, c2, rfl, _, _, _, _⟩ := own_rd hown; have hmore := hS3.out.more x hgrow hown hhi; obtain ⟨fz, fc, hfin⟩ := hmore; have HFin := Lib.hid hfin; clear hown hgrow hwh hfin)
          go_roundw
          case rel => exact ⟨k + 1, _, _, by omega, by go_num, by rw [HT.out, HK.out], HFin.out⟩
          case measure => simp [intOf]; omega
        · have hm0 : m = 0 := by omega
          subst hm0
          have hx1 : x = ((k % 7 : Nat) : Int) := by rw [hx]; unfold fieldZ; rw [if_neg (by rw [Hl.out]; omega), if_neg (by rw [Hl.out]; omega)]
          generalize k % 7 = r at *
          subst hx1
          have w7 : IntKind.i64.wrap ((k : Int).tmod 7) = (r : Int) := by rw [r7]; exact IntWalk.i64_in _ (by omega)
          have w7' : IntKind.i16.wrap (r : Int) = (r : Int) := IntWalk.i16_in _ (by omega)
          clear hx
          have N3 := new_rd wr 92 [z16 (r : Int)]
          have S3 := HS.out.next (_root_.Go.Proofs.Ytmiplljcnchjkaa.bl wr (.cells [z16 (r : Int)].toArray 92))
          have hS3 := Lib.hid S3
          have hN3 := Lib.hid N3
          clear N3 S3
          go_wp2_with (at_builtin; refine wpList_append_mine rfl (.tmp 51) (.tmp 53) 51 rfl (w.heap.size + 1 + 1) 92 i0 _ 1 2 Try.underlying51 hi0 hz0 hz1 hz2 rfl (by decide) (.slice Av K.length cv) K.length (K.map z16) rfl hS3.out.own (some ⟨wr.heap.size, 0, Option.none⟩) 1 1 [z16 (r : Int)] rfl rfl (fun h => by cases h) hN3.out.news (by simp [z16, Value.oneCell']) (by simp only [maxLen]; omega) (by omega) (by simp; omega) ?_; intro v2 w2 hown hgrow hwh; obtain ⟨A2, c2, rfl, _, _, _, _⟩ := own_rd hown; have hmore := hS3.out.more (r : Int) hgrow hown hhi; obtain ⟨fz, fc, hfin⟩ := hmore; have HFin := Lib.hid hfin; clear hown hgrow hwh hfin)
          go_roundw
          case rel => exact ⟨k + 1, _, _, by omega, by go_num, by rw [HT.out, HK.out], HFin.out⟩
          case measure => simp [intOf]; omega
    · obtain rfl : k = N := by omega
      have hge : ¬ (k : Int) < (k : Int) := by omega
      have hKF : K = F := by rw [HK.out]; exact List.take_of_length_le (by rw [HFl.out]; exact Nat.le_refl _)
      have HKF := Lib.hid hKF
      have r0 := HS.out.res.free 0
      have r1 := HS.out.res.free 1
      have r2 := HS.out.res.free 2
      have q0 : wr.cell? ⟨w.heap.size, 0, Option.none⟩ = some (.int .i64 0) := HS.out.res.cell 0
      have q1 : wr.cell? ⟨w.heap.size, 1, Option.none⟩ = some (.int .i64 0) := HS.out.res.cell 1
      have q2 : wr.cell? ⟨w.heap.size, 2, Option.none⟩ = some (.slice Option.none 0 0) := HS.out.res.cell 2
      clear hKF
      go_wp2
      refine bodyPost_ret (v := .agg #[.int .i64 (W : Int), .int .i64 (H : Int), .slice Av K.length cv]) (by simp [results, Try.results36, go_sem, q0, q1, q2]) rfl ?_
      unfold GotH
      rw [← HKF.out]
      have f : ∀ (X : World) (i : Nat) (u : Value), X.ownsRow (w.heap.size + 1 + 1) 92 1 (.slice Av K.length cv) K.length (K.map z16) → (X.setCell ⟨w.heap.size, i, Option.none⟩ u).ownsRow (w.heap.size + 1 + 1) 92 1 (.slice Av K.length cv) K.length (K.map z16) := fun X i u h =>
        h.kept (only_set (w := X) (g := w.heap.size) (only_refl _ _) i u) (.inr (fun e => by have := own_ge h _ e; omega))
      exact ⟨_, rfl, own_down (f _ _ _ (f _ _ _ (f _ _ _ HS.out.own))) (by omega), ((HS.out.below.setCell (by simp) _).setCell (by simp) _).setCell (by simp) _⟩
end Sur
end Go.Proofs.Ytmiplljcnchjkaa
