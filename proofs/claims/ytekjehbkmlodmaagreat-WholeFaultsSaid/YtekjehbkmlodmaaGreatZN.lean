/- A part of the proof of WholeFaults. -/
import Derived.Test.YtekjehbkmlodmaaGreatZH
import Derived.Test.YtekjehbkmlodmaaGreatZM
set_option linter.unusedVariables false
set_option linter.unusedSimpArgs false
namespace Go.Proofs.YtekjehbkmlodmaaGreat
section
open Go.RowKit
namespace Top
open Til (z16)
theorem infoI16 : (Tryz.prog.info? 62).map (fun i => (i.zero, i.size, i.bytes)) = some (some (.int .i16 0), 1, 2) := by kernel_rfl
def fieldZ (Z : List Int) (i : Nat) : Int := if i < Z.length then Z.getD i 0 else if 0 < Z.length then (Z.getD (i % Z.length) 0).tdiv 2 else ((i % 7 : Nat) : Int)
def fieldW (w : Nat) : Nat := 2 + w % 39
def fieldL (w h : Nat) (Z : List Int) : List Int := (List.range (fieldW w * fieldW h)).map (fieldZ Z)
theorem fieldL_len (w h : Nat) (Z : List Int) : (fieldL w h Z).length = fieldW w * fieldW h := by simp [fieldL]
theorem fieldW_le (w : Nat) : 2 ≤ fieldW w ∧ fieldW w ≤ 40 := by unfold fieldW; omega
def GotH (w : World) (W H : Nat) (L : List Int) (e : Ending) (w' : World) : Prop := ∃ v, e = .returned (.agg #[.int .i64 (W : Int), .int .i64 (H : Int), v]) ∧ w'.ownsRow w.heap.size 62 1 v L.length (L.map z16) ∧ Below w.heap.size w w'
structure FZ (w : World) (W H lo hi : Nat) (A : Option Addr) (Z K : List Int) (v : Value) (wr : World) : Prop where
 res : Blk wr w.heap.size 42 [.int .i64 0, .int .i64 0, .slice Option.none 0 0]
 out : Blk wr (w.heap.size + 1) 42 [.int .i64 (W : Int), .int .i64 (H : Int), v]
 own : wr.ownsRow (w.heap.size + 1 + 1) 62 1 v K.length (K.map z16)
 rd : RdL wr lo hi A (Z.map z16)
 below : Below w.heap.size w wr
section
variable {w wr wa w' : World} {W H lo hi : Nat} {A : Option Addr} {Z K : List Int} {v : Value}
theorem FZ.next (S : FZ w W H lo hi A Z K v wr) (hb : Below wr.heap.size wr w') : FZ w W H lo hi A Z K v w' :=
 ⟨S.res.next hb, S.out.next hb, own_next S.own hb, S.rd.next hb, bt S.below hb⟩
theorem FZ.more (S : FZ w W H lo hi A Z K v wr) (x : Int) {v1 : Value} (hg : wr.grownBy w' v.ownBlock) (ho : w'.ownsRow (w.heap.size + 1 + 1) 62 1 v1 (K.length + 1) (K.map z16 ++ [z16 x])) (hhi : hi ≤ w.heap.size) :
  w'.frozen? ⟨w.heap.size + 1, 2, Option.none⟩ = false ∧ w'.cell? ⟨w.heap.size + 1, 2, Option.none⟩ = some v ∧ FZ w W H lo hi A Z (K ++ [x]) v1 (w'.setCell ⟨w.heap.size + 1, 2, Option.none⟩ v1) := by
 have hv := own_ge S.own
 have hv1 := own_ge ho
 have n1 : ∀ k, k < w.heap.size + 1 + 1 → some k ≠ v.ownBlock := fun k hk e => by have := hv k e.symm; omega
 have o1 := S.out.grown hg (n1 _ (by omega))
 have b1 := S.below.grown hg S.below.size (fun k hk => by have := hv k hk; omega)
 refine ⟨o1.free 2, o1.cell 2, (S.res.grown hg (n1 _ (by omega))).far (p := ⟨w.heap.size + 1, 2, Option.none⟩) (by show w.heap.size ≠ w.heap.size + 1; omega) _, o1.put 2 v1, ?_,
  (S.rd.grown hg (fun g' hg' => .inr (by have := hv g' hg'; omega))).far (p := ⟨w.heap.size + 1, 2, Option.none⟩) (.inr (by show hi ≤ w.heap.size + 1; omega)) _, b1.setCell (by show w.heap.size ≤ w.heap.size + 1; omega) _⟩
 rw [List.length_append, List.length_singleton, List.map_append]
 exact ho.kept (only_set (w := w') (g := w.heap.size + 1) (only_refl _ _) 2 v1) (.inr (fun e => by have := hv1 _ e; omega))
end
theorem half_in (y : Int) (h : -32768 ≤ y ∧ y ≤ 32767) : -32768 ≤ y.tdiv 2 ∧ y.tdiv 2 ≤ 32767 := by
 rcases Int.le_total 0 y with h0 | h0
 ·rw [Int.tdiv_eq_ediv_of_nonneg h0]; omega
 ·have e : y.tdiv 2 = -((-y).tdiv 2) := by rw [Int.neg_tdiv, Int.neg_neg]
  rw [e, Int.tdiv_eq_ediv_of_nonneg (by omega)]
  omega
theorem range_map_take {α : Type} (f : Nat → α) (n k : Nat) (h : k < n) : ((List.range n).map f).take (k + 1) = ((List.range n).map f).take k ++ [f k] := by
 rw [List.take_add_one]
 congr 1
 rw [List.getElem?_map, List.getElem?_range h]
 rfl
set_option maxRecDepth 100000 in
set_option maxHeartbeats 4000000 in
theorem field_any (a b : Nat) (ha : a < 256) (hb : b < 256) (A : Option Addr) (Z : List Int) (m cap lo hi : Nat) (w : World) (hrd : RdL w lo hi A (Z.map z16)) (hl : Z.length = m) (hm : m ≤ 2000) (hcap : m ≤ cap) (hz : ∀ x ∈ Z, -32768 ≤ x ∧ x ≤ 32767) (hhi : hi ≤ w.heap.size) :
  Calls Tryz.prog 31 #[.int .u8 (a : Int), .int .u8 (b : Int), .slice A m cap] w (GotH w (fieldW a) (fieldW b) (fieldL a b Z)) := by
 obtain ⟨i0, hi0, hz0, hz1, hz2⟩ := info_parts infoI16
 have hW := fieldW_le a
 have hH := fieldW_le b
 obtain ⟨W, eW⟩ : ∃ W, W = fieldW a := ⟨_, rfl⟩
 obtain ⟨H, eH⟩ : ∃ H, H = fieldW b := ⟨_, rfl⟩
 have ha1 : (a : Int).tmod 39 = (a : Int) % 39 := Int.tmod_eq_emod_of_nonneg (by omega)
 have hb1 : (b : Int).tmod 39 = (b : Int) % 39 := Int.tmod_eq_emod_of_nonneg (by omega)
 have gW : 2 + (a : Int).tmod 39 = (W : Int) := by rw [ha1, eW]; unfold fieldW; omega
 have gH : 2 + (b : Int).tmod 39 = (H : Int) := by rw [hb1, eH]; unfold fieldW; omega
 have gWe : 2 + (a : Int) % 39 = (W : Int) := by rw [eW]; unfold fieldW; omega
 have gHe : 2 + (b : Int) % 39 = (H : Int) := by rw [eH]; unfold fieldW; omega
 have a0 : IntKind.i64.wrap (a : Int) = (a : Int) := IntWalk.i64_in _ (by omega)
 have b0 : IntKind.i64.wrap (b : Int) = (b : Int) := IntWalk.i64_in _ (by omega)
 have ga : IntKind.i64.wrap ((a : Int).tmod 39) = (a : Int).tmod 39 := IntWalk.i64_in _ (by omega)
 have gb : IntKind.i64.wrap ((b : Int).tmod 39) = (b : Int).tmod 39 := IntWalk.i64_in _ (by omega)
 have gWw : IntKind.i64.wrap (2 + (a : Int).tmod 39) = (W : Int) := by rw [gW]; exact IntWalk.i64_in _ (by omega)
 have gHw : IntKind.i64.wrap (2 + (b : Int).tmod 39) = (H : Int) := by rw [gH]; exact IntWalk.i64_in _ (by omega)
 have hWl : 2 ≤ W ∧ W ≤ 40 := by rw [eW]; exact hW
 have hHl : 2 ≤ H ∧ H ≤ 40 := by rw [eH]; exact hH
 have hLe : fieldL a b Z = (List.range (W * H)).map (fieldZ Z) := by rw [eW, eH]; rfl
 rw [← eW, ← eH, hLe]
 clear eW eH hLe hW hH ha1 hb1
 have mWH : (W : Int) * (H : Int) = ((W * H : Nat) : Int) := (Int.natCast_mul _ _).symm
 have lWH : W * H ≤ 40 * 40 := Nat.mul_le_mul hWl.2 hHl.2
 obtain ⟨N, hN⟩ : ∃ N, N = W * H := ⟨_, rfl⟩
 rw [← hN] at mWH lWH ⊢
 have yN : IntKind.i64.wrap ((W : Int) * (H : Int)) = (N : Int) := by rw [mWH]; exact IntWalk.i64_in _ (by omega)
 obtain ⟨F, hF⟩ : ∃ F, F = (List.range N).map (fieldZ Z) := ⟨_, rfl⟩
 rw [← hF]
 have hFl : F.length = N := by rw [hF]; simp
 have hFt : ∀ k, k < N → F.take (k + 1) = F.take k ++ [fieldZ Z k] := fun k hk => by rw [hF]; exact range_map_take _ _ _ hk
 have HFl := Lib.hid hFl
 have HFt := Lib.hid hFt
 have HRd := Lib.hid hrd
 have Hl := Lib.hid hl
 have Hz := Lib.hid hz
 clear hrd hl hz hF hFl hFt hN gW gH
 go_enter Tryz.func31, Tryz.ntmps31
 go_wp2
 have S0 : FZ w W H lo hi A Z [] (.slice Option.none 0 0) ((w.alloc (.cells #[.int .i64 0, .int .i64 0, .slice Option.none 0 0] 42)).alloc (.cells #[.int .i64 (W : Int), .int .i64 (H : Int), .slice Option.none 0 0] 42)) := by
  have k2 := Blk.mk (w.alloc (.cells #[.int .i64 0, .int .i64 0, .slice Option.none 0 0] 42)) 42 [.int .i64 (W : Int), .int .i64 (H : Int), .slice Option.none 0 0]
  simp only [World.size_alloc] at k2
  exact ⟨(Blk.mk w 42 [.int .i64 0, .int .i64 0, .slice Option.none 0 0]).alloc _, k2, World.ownsRow_nil _ _ _ _, (HRd.out.alloc _).alloc _, bt (_root_.Go.Proofs.YtekjehbkmlodmaaGreat.bl _ _) (_root_.Go.Proofs.YtekjehbkmlodmaaGreat.bl _ _)⟩
 have HS0 := Lib.hid S0
 clear S0
 go_loopw [8] (fun i wr => ∃ (k : Nat) (v : Value) (K : List Int), k ≤ N ∧ i = .int .i64 (k : Int) ∧ K = F.take k ∧ FZ w W H lo hi A Z K v wr) (fun i _ => N - (intOf i).toNat)
 case atStart => exact ⟨0, _, _, Nat.zero_le _, rfl, by rw [List.take_zero], HS0.out⟩
 case round =>
  clear HS0
  obtain ⟨k, v, K, hk, rfl, hK, S⟩ := hrel
  obtain ⟨Av, cv, rfl, _, _, _, _⟩ := own_rd S.own
  have hKl : K.length ≤ 1600 := by rw [hK, List.length_take]; omega
  have HK := Lib.hid hK
  have HS := Lib.hid S
  have e0 : wr.cell? ⟨w.heap.size + 1, 0, Option.none⟩ = some (.int .i64 (W : Int)) := S.out.cell 0
  have e1 : wr.cell? ⟨w.heap.size + 1, 1, Option.none⟩ = some (.int .i64 (H : Int)) := S.out.cell 1
  have e2 : wr.cell? ⟨w.heap.size + 1, 2, Option.none⟩ = some (.slice Av K.length cv) := S.out.cell 2
  have hsz := S.out.lt
  clear S hK
  by_cases hlt : k < N
  ·have hltI : (k : Int) < (N : Int) := by omega
   have HT := Lib.hid (HFt.out k hlt)
   obtain ⟨x, hx⟩ : ∃ x, x = fieldZ Z k := ⟨_, rfl⟩
   rw [← hx] at HT
   have r7 : (k : Int).tmod 7 = ((k % 7 : Nat) : Int) := by rw [Int.tmod_eq_emod_of_nonneg (by omega)]; rfl
   have r7l : k % 7 < 7 := Nat.mod_lt _ (by decide)
   by_cases h1 : k < m
   ·have h1I : (k : Int) < (m : Int) := by omega
    have hx1 : x = Z.getD k 0 := by rw [hx]; unfold fieldZ; rw [if_pos (by rw [Hl.out]; exact h1)]
    have hkl : k < Z.length := by rw [Hl.out]; exact h1
    obtain ⟨bk, off, rfl, hb1, hb2, hb3, hbc⟩ := HRd.out.some (by rw [List.length_map]; omega)
    obtain ⟨bk', off', e, _, _, _, hbc⟩ := HS.out.rd.some (by rw [List.length_map]; omega)
    injection e with e
    injection e with ee1 ee2
    subst ee1 ee2
    have c0 : wr.cell? ⟨bk, off + k, Option.none⟩ = some (.int .i16 x) := by
     refine hbc k _ ?_
     rw [List.getElem?_map, List.getElem?_eq_getElem hkl, hx1]
     simp [z16, hkl]
    generalize k % 7 = r at *
    have w7 : IntKind.i64.wrap ((k : Int).tmod 7) = (r : Int) := by rw [r7]; exact IntWalk.i64_in _ (by omega)
    have w7' : IntKind.i16.wrap (r : Int) = (r : Int) := IntWalk.i16_in _ (by omega)
    clear hbc hx hx1 hb1 hb2 hb3 hkl
    have N3 := new_rd wr 62 [z16 x]
    have S3 := HS.out.next (_root_.Go.Proofs.YtekjehbkmlodmaaGreat.bl wr (.cells [z16 x].toArray 62))
    have hS3 := Lib.hid S3
    have hN3 := Lib.hid N3
    clear N3 S3
    go_wp2_with (at_builtin; refine wpList_append_mine rfl (.tmp 51) (.tmp 53) 22 rfl (w.heap.size + 1 + 1) 62 i0 _ 1 2 Tryz.underlying22 hi0 hz0 hz1 hz2 rfl (by decide) (.slice Av K.length cv) K.length (K.map z16) rfl hS3.out.own (some ⟨wr.heap.size, 0, Option.none⟩) 1 1 [z16 x] rfl rfl (fun h => by cases h) hN3.out.news (by simp [z16, Value.oneCell']) (by simp only [maxLen]; omega) (by omega) (by simp; omega) ?_; intro v2 w2 hown hgrow hwh; obtain ⟨A2, c2, rfl, _, _, _, _⟩ := own_rd hown; have hmore := hS3.out.more x hgrow hown hhi; obtain ⟨fz, fc, hfin⟩ := hmore; have HFin := Lib.hid hfin; clear hown hgrow hwh hfin)
    go_roundw
    case rel => exact ⟨k + 1, _, _, by omega, by go_num, by rw [HT.out, HK.out], HFin.out⟩
    case measure => simp [intOf]; omega
   ·have h1I : ¬ (k : Int) < (m : Int) := by omega
    by_cases h2 : 0 < m
    ·have h2I : 0 < (m : Int) := by omega
     have hx1 : x = (Z.getD (k % m) 0).tdiv 2 := by rw [hx]; unfold fieldZ; rw [if_neg (by rw [Hl.out]; exact h1), if_pos (by rw [Hl.out]; exact h2), Hl.out]
     have hkl : k % m < Z.length := by rw [Hl.out]; exact Nat.mod_lt _ h2
     obtain ⟨bk, off, rfl, hb1, hb2, hb3, hbc⟩ := HRd.out.some (by rw [List.length_map]; omega)
     obtain ⟨bk', off', e, _, _, _, hbc⟩ := HS.out.rd.some (by rw [List.length_map]; omega)
     injection e with e
     injection e with ee1 ee2
     subst ee1 ee2
     have hy : Z[k % m]? = some (Z.getD (k % m) 0) := by simp [hkl]
     have hyr := Hz.out (Z.getD (k % m) 0) (List.mem_of_getElem? hy)
     have c0 : wr.cell? ⟨bk, off + k % m, Option.none⟩ = some (.int .i16 (Z.getD (k % m) 0)) := hbc (k % m) _ (by rw [List.getElem?_map, hy]; rfl)
     have rm : (k : Int).tmod (m : Int) = ((k % m : Nat) : Int) := by rw [Int.tmod_eq_emod_of_nonneg (by omega)]; rfl
     have rml : k % m < m := Nat.mod_lt _ h2
     generalize Z.getD (k % m) 0 = y at *
     generalize k % m = q at *
     generalize k % 7 = r at *
     have w7 : IntKind.i64.wrap ((k : Int).tmod 7) = (r : Int) := by rw [r7]; exact IntWalk.i64_in _ (by omega)
     have w7' : IntKind.i16.wrap (r : Int) = (r : Int) := IntWalk.i16_in _ (by omega)
     have wm : IntKind.i64.wrap ((k : Int).tmod (m : Int)) = (q : Int) := by rw [rm]; exact IntWalk.i64_in _ (by omega)
     have wq : IntKind.i64.wrap (q : Int) = (q : Int) := IntWalk.i64_in _ (by omega)
     have m0 : ¬ (m : Int) = 0 := by omega
     have m0' : ((m : Int) == 0) = false := by rw [beq_eq_false_iff_ne]; omega
     have m0'' : ¬ m = 0 := by omega
     have hyh := half_in y hyr
     have wd : IntKind.i16.wrap (y.tdiv 2) = x := by rw [hx1]; exact IntWalk.i16_in _ (by omega)
     have qI : (q : Int) < (m : Int) := by omega
     clear hbc hx hb1 hb2 hb3 hkl hy
     have N3 := new_rd wr 62 [z16 x]
     have S3 := HS.out.next (_root_.Go.Proofs.YtekjehbkmlodmaaGreat.bl wr (.cells [z16 x].toArray 62))
     have hS3 := Lib.hid S3
     have hN3 := Lib.hid N3
     have HX := Lib.hid hx1
     clear N3 S3 hx1
     go_wp2_with (at_builtin; refine wpList_append_mine rfl (.tmp 51) (.tmp 53) 22 rfl (w.heap.size + 1 + 1) 62 i0 _ 1 2 Tryz.underlying22 hi0 hz0 hz1 hz2 rfl (by decide) (.slice Av K.length cv) K.length (K.map z16) rfl hS3.out.own (some ⟨wr.heap.size, 0, Option.none⟩) 1 1 [z16 x] rfl rfl (fun h => by cases h) hN3.out.news (by simp [z16, Value.oneCell']) (by simp only [maxLen]; omega) (by omega) (by simp; omega) ?_; intro v2 w2 hown hgrow hwh; obtain ⟨A2, c2, rfl, _, _, _, _⟩ := own_rd hown; have hmore := hS3.out.more x hgrow hown hhi; obtain ⟨fz, fc, hfin⟩ := hmore; have HFin := Lib.hid hfin; clear hown hgrow hwh hfin)
     go_roundw
     case rel => exact ⟨k + 1, _, _, by omega, by go_num, by rw [HT.out, HK.out], HFin.out⟩
     case measure => simp [intOf]; omega
    ·have hm0 : m = 0 := by omega
     subst hm0
     have hx1 : x = ((k % 7 : Nat) : Int) := by rw [hx]; unfold fieldZ; rw [if_neg (by rw [Hl.out]; omega), if_neg (by rw [Hl.out]; omega)]
     generalize k % 7 = r at *
     subst hx1
     have w7 : IntKind.i64.wrap ((k : Int).tmod 7) = (r : Int) := by rw [r7]; exact IntWalk.i64_in _ (by omega)
     have w7' : IntKind.i16.wrap (r : Int) = (r : Int) := IntWalk.i16_in _ (by omega)
     clear hx
     have N3 := new_rd wr 62 [z16 (r : Int)]
     have S3 := HS.out.next (_root_.Go.Proofs.YtekjehbkmlodmaaGreat.bl wr (.cells [z16 (r : Int)].toArray 62))
     have hS3 := Lib.hid S3
     have hN3 := Lib.hid N3
     clear N3 S3
     go_wp2_with (at_builtin; refine wpList_append_mine rfl (.tmp 51) (.tmp 53) 22 rfl (w.heap.size + 1 + 1) 62 i0 _ 1 2 Tryz.underlying22 hi0 hz0 hz1 hz2 rfl (by decide) (.slice Av K.length cv) K.length (K.map z16) rfl hS3.out.own (some ⟨wr.heap.size, 0, Option.none⟩) 1 1 [z16 (r : Int)] rfl rfl (fun h => by cases h) hN3.out.news (by simp [z16, Value.oneCell']) (by simp only [maxLen]; omega) (by omega) (by simp; omega) ?_; intro v2 w2 hown hgrow hwh; obtain ⟨A2, c2, rfl, _, _, _, _⟩ := own_rd hown; have hmore := hS3.out.more (r : Int) hgrow hown hhi; obtain ⟨fz, fc, hfin⟩ := hmore; have HFin := Lib.hid hfin; clear hown hgrow hwh hfin)
     go_roundw
     case rel => exact ⟨k + 1, _, _, by omega, by go_num, by rw [HT.out, HK.out], HFin.out⟩
     case measure => simp [intOf]; omega
  ·obtain rfl : k = N := by omega
   have hge : ¬ (k : Int) < (k : Int) := by omega
   have hKF : K = F := by rw [HK.out]; exact List.take_of_length_le (by rw [HFl.out]; exact Nat.le_refl _)
   have HKF := Lib.hid hKF
   have r0 := HS.out.res.free 0
   have r1 := HS.out.res.free 1
   have r2 := HS.out.res.free 2
   have q0 : wr.cell? ⟨w.heap.size, 0, Option.none⟩ = some (.int .i64 0) := HS.out.res.cell 0
   have q1 : wr.cell? ⟨w.heap.size, 1, Option.none⟩ = some (.int .i64 0) := HS.out.res.cell 1
   have q2 : wr.cell? ⟨w.heap.size, 2, Option.none⟩ = some (.slice Option.none 0 0) := HS.out.res.cell 2
   clear hKF
   go_wp2
   refine bodyPost_ret (v := .agg #[.int .i64 (W : Int), .int .i64 (H : Int), .slice Av K.length cv]) (by simp [results, Tryz.results31, go_sem, q0, q1, q2]) rfl ?_
   unfold GotH
   rw [← HKF.out]
   have f : ∀ (X : World) (i : Nat) (u : Value), X.ownsRow (w.heap.size + 1 + 1) 62 1 (.slice Av K.length cv) K.length (K.map z16) → (X.setCell ⟨w.heap.size, i, Option.none⟩ u).ownsRow (w.heap.size + 1 + 1) 62 1 (.slice Av K.length cv) K.length (K.map z16) := fun X i u h =>
    h.kept (only_set (w := X) (g := w.heap.size) (only_refl _ _) i u) (.inr (fun e => by have := own_ge h _ e; omega))
   exact ⟨_, rfl, own_down (f _ _ _ (f _ _ _ (f _ _ _ HS.out.own))) (by omega), ((HS.out.below.setCell (by simp) _).setCell (by simp) _).setCell (by simp) _⟩
end Top
end
section
open Go.RowKit
namespace Top
open Nav (cfL range_of NS DS)
open Til (z16 In16)
open Cht (cells)
theorem wpList_load_midG {P : Program} {ops : Array Oper} {rest : List Oper} {op : Oper} {a : Act} {w : World} {Q : Exit → Act → World → Prop} (hw : Region.wanted op (yielded ops a.tmps) = true) (ty : TypeId) (x : Operand) (ho : op.op = .load ty x)
  (b o : Nat) (hx : a.eval x = .pointer (some ⟨b, o, none⟩)) (cs : List Value) (d : TypeDesc) (hc : w.rangeAt b o cs)
  (hu : P.underlying ty = some d) (hd : d.isRow = true) (hi : (P.info? ty).map (·.size) = some cs.length)
  (h : wpList P ops Q rest (a.put op.dst (.agg cs.toArray)) w) : wpList P ops Q (op :: rest) a w :=
 wpList_step fun K hK => by rw [if_pos hw]; exact wp_load_mid ty x ho b o hx cs d hc hu hd hi (hK _ _ h)
set_option maxRecDepth 100000 in
set_option maxHeartbeats 1000000 in
theorem light_any (r0 r1 r2 r3 m0 m1 m2 m3 m4 m5 n0 n1 n2 far stp gap need meas away num den tms spr k : Int) (hck : ∀ w, Calls Tryz.prog 14 #[.agg (cfL r0 r1 r2 r3 m0 m1 m2 m3 m4 m5 n0 n1 n2 far stp gap need meas away num den tms spr).toArray] w fun e w' => e = .returned (.int .i64 k) ∧ Below w.heap.size w w') (zA bA : Option Addr) (zn zc bn bc : Nat) (w : World) :
  Calls Tryz.prog 4 #[.slice zA zn zc, .agg (cfL r0 r1 r2 r3 m0 m1 m2 m3 m4 m5 n0 n1 n2 far stp gap need meas away num den tms spr).toArray, .slice bA bn bc] w fun e w' => e = .returned (.bool (decide (zn ≤ 1500 ∧ bn ≤ 1200 ∧ k = 0))) ∧ Below w.heap.size w w' := by
 unfold cfL at hck ⊢
 have HB := Lib.hid (Blk.mk w 32 [.int .u32 r0, .int .i64 r1, .int .i64 r2, .int .i64 r3, .int .i64 m0, .int .i64 m1, .int .i64 m2, .int .i64 m3, .int .i64 m4, .int .i64 m5, .int .i64 n0, .int .i64 n1, .int .i64 n2, .int .i64 far, .int .i64 stp, .int .i64 gap, .int .i64 need, .int .i64 meas, .int .i64 away, .int .i64 num, .int .i64 den, .int .i64 tms, .int .i64 spr])
 by_cases h1 : zn ≤ 1500
 ·have d1 : decide ((zn : Int) ≤ 1500) = true := decide_eq_true (by omega)
  have d1' : decide (zn ≤ 1500) = true := decide_eq_true h1
  by_cases h2 : bn ≤ 1200
  ·have d2 : decide ((bn : Int) ≤ 1200) = true := decide_eq_true (by omega)
   have d2' : decide (bn ≤ 1200) = true := decide_eq_true h2
   obtain ⟨b, hb⟩ : ∃ b, b = (k == 0) := ⟨_, rfl⟩
   have hbb : decide (zn ≤ 1500 ∧ bn ≤ 1200 ∧ k = 0) = b := by
    rw [hb]
    by_cases hk : k = 0
    ·rw [decide_eq_true ⟨h1, h2, hk⟩, hk]; rfl
    ·rw [decide_eq_false (fun h => hk h.2.2)]; exact (beq_eq_false_iff_ne.2 hk).symm
   rw [hbb]
   have hb' := hb.symm
   clear h1 h2 hbb hb
   go_enter Tryz.func4, Tryz.ntmps4
   go_wp2_with (refine wpList_load_midG (by rfl) 32 _ rfl w.heap.size 0 rfl ([.int .u32 r0, .int .i64 r1, .int .i64 r2, .int .i64 r3, .int .i64 m0, .int .i64 m1, .int .i64 m2, .int .i64 m3, .int .i64 m4, .int .i64 m5, .int .i64 n0, .int .i64 n1, .int .i64 n2, .int .i64 far, .int .i64 stp, .int .i64 gap, .int .i64 need, .int .i64 meas, .int .i64 away, .int .i64 num, .int .i64 den, .int .i64 tms, .int .i64 spr] : List Value) _ (range_of HB.out) Tryz.underlying32 rfl (by kernel_rfl) ?_)
   refine (hck _).mono ?_
   rintro e w2 ⟨rfl, hb2⟩
   have HB2 := Lib.hid (bt (bl w _) hb2)
   clear hb2
   go_wp2_with fail
   go_ret
   exact ⟨rfl, HB2.out⟩
  ·have d2 : decide ((bn : Int) ≤ 1200) = false := decide_eq_false (by omega)
   have d2' : decide (bn ≤ 1200) = false := decide_eq_false h2
   rw [decide_eq_false (fun h : zn ≤ 1500 ∧ bn ≤ 1200 ∧ k = 0 => h2 h.2.1)]
   clear h1 h2
   go_enter Tryz.func4, Tryz.ntmps4
   go_wp2_with fail
   go_ret
   exact ⟨rfl, bl _ _⟩
 ·have d1 : decide ((zn : Int) ≤ 1500) = false := decide_eq_false (by omega)
  have d1' : decide (zn ≤ 1500) = false := decide_eq_false h1
  rw [decide_eq_false (fun h : zn ≤ 1500 ∧ bn ≤ 1200 ∧ k = 0 => h1 h.1)]
  clear h1
  go_enter Tryz.func4, Tryz.ntmps4
  go_wp2_with fail
  go_ret
  exact ⟨rfl, bl _ _⟩
theorem drnav_any {gd gn : Nat} {w : World} (h : w.cell? ⟨gd, 0, none⟩ = some (.pointer (some ⟨gn, 0, none⟩))) : Calls Tryz.prog 9 #[.pointer (some ⟨gd, 0, none⟩)] w fun e w' => e = .returned (.pointer (some ⟨gn, 0, none⟩)) ∧ w = w' := by
 go_enter Tryz.func9, Tryz.ntmps9
 go_wp2_with fail
 go_ret
 exact ⟨rfl, rfl⟩
theorem mode_any {g : Nat} {m : Int} {w : World} (h : w.cell? ⟨g, 285, none⟩ = some (.int .i64 m)) : Calls Tryz.prog 11 #[.pointer (some ⟨g, 0, none⟩)] w fun e w' => e = .returned (.int .i64 m) ∧ w = w' := by
 go_enter Tryz.func11, Tryz.ntmps11
 go_wp2_with fail
 go_ret
 exact ⟨rfl, rfl⟩
def GotMade (w : World) (W H : Nat) (L : List Int) (e : Ending) (w' : World) : Prop :=
 (∃ (A : Option Addr) (cap : Nat), e = .returned (.agg (cells W H A L.length cap).toArray) ∧ L.length ≤ cap ∧ RdL w' w.heap.size w'.heap.size A (L.map z16)) ∧ Below w.heap.size w w'
set_option maxRecDepth 100000 in
set_option maxHeartbeats 1000000 in
theorem made_any (a b : Nat) (ha : a < 256) (hb : b < 256) (A : Option Addr) (Z : List Int) (m cap lo hi : Nat) (w : World) (hrd : RdL w lo hi A (Z.map z16)) (hl : Z.length = m) (hm : m ≤ 2000) (hcap : m ≤ cap) (hz : ∀ x ∈ Z, -32768 ≤ x ∧ x ≤ 32767) (hhi : hi ≤ w.heap.size) :
  Calls Tryz.prog 7 #[.int .u8 (a : Int), .int .u8 (b : Int), .slice A m cap, .int .u16 29, .int .i32 0, .int .i32 0] w (GotMade w (fieldW a) (fieldW b) (fieldL a b Z)) := by
 have hB := Blk.mk w 44 [.int .i64 0, .int .i64 0, .slice none 0 0, .int .i64 0, .int .i32 0, .int .i32 0]
 have HB := Lib.hid hB
 have hf := field_any a b ha hb A Z m cap lo hi (w.alloc (.cells #[.int .i64 0, .int .i64 0, .slice none 0 0, .int .i64 0, .int .i32 0, .int .i32 0] 44)) (hrd.alloc _) hl hm hcap hz (by simp; omega)
 generalize fieldL a b Z = F at *
 generalize fieldW a = W at *
 generalize fieldW b = H at *
 clear hrd hl hz hB
 go_enter Tryz.func7, Tryz.ntmps7
 go_wp2_with fail
 refine hf.mono ?_
 rintro e w2 ⟨v, rfl, ho, hb2⟩
 obtain ⟨A2, c2, rfl, hr2, hc2, _, _⟩ := own_rd ho
 have HB2 := Lib.hid (HB.out.next hb2)
 have HR2 := Lib.hid hr2
 have HK2 := Lib.hid (bt (bl w _) hb2)
 clear hf ho hb2 hr2 HB
 go_wp2_with (refine wpList_store_row rfl 44 _ _ rfl w.heap.size (cells W H A2 F.length c2).toArray rfl (by kernel_rfl) _ _ HB2.out (by kernel_rfl) rfl (by kernel_rfl) ?_)
 refine bodyPost_ret (results_cell_row rfl _ _ w.heap.size 44 _ (0, 0) _ rfl (HB2.out.row (cells W H A2 F.length c2)) Tryz.underlying44 rfl (by kernel_rfl)) rfl ?_
 refine ⟨⟨A2, c2, rfl, hc2, ?_⟩, Below.row HK2.out (Nat.le_refl _) _⟩
 have hs : ((w.alloc (.cells #[.int .i64 0, .int .i64 0, .slice none 0 0, .int .i64 0, .int .i32 0, .int .i32 0] 44))).heap.size = w.heap.size + 1 := by simp
 have := HR2.out
 rw [hs] at this
 refine (this.grown (w' := w2.setRow w.heap.size (cells W H A2 F.length c2).toArray) (row := some w.heap.size) ⟨rfl, rfl, rfl, by simp [World.setRow], fun q h1 h2 => setRow_other w2 w.heap.size _ q (fun e => h2 (by rw [e]))⟩ (fun g e => .inl (by injection e with e; omega))).wide (by omega) (by simp [World.setRow])
end Top
end
end Go.Proofs.YtekjehbkmlodmaaGreat
