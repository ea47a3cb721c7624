/-
  The walks of the document's answers for a field by halves: a cell of a level; a cell turned; any field.
-/
import Derived.Test.YtoaagemofjddiaaPyrR3
import Derived.Test.YtoaagemofjddiaaHead
namespace Go.Proofs.Ytoaagemofjddiaa
open Go.RowKit
set_option linter.unusedVariables false
namespace Pyr

theorem meant_square {W H i : Nat} {p : Pl} (hi : i < W * H) (hp : Ok W H p) : meant W (square W H p) i = has W p i := by
  rw [Bool.eq_iff_iff]
  constructor
  · intro h
    obtain ⟨h1, h2⟩ := lt_row hi
    unfold meant square at h
    rw [decide_eq_true_eq] at h
    obtain ⟨a1, a2, a3, a4⟩ := h
    have hs : 0 < 2 ^ p.n := Nat.two_pow_pos _
    have e1 : ((p.x * 2 ^ p.n : Nat) : Int) = (p.x : Int) * (2 ^ p.n : Nat) := Int.natCast_mul _ _
    have e2 : ((p.y * 2 ^ p.n : Nat) : Int) = (p.y : Int) * (2 ^ p.n : Nat) := Int.natCast_mul _ _
    dsimp only at a1 a2 a3 a4
    rw [← e1] at a1 a2
    rw [← e2] at a3 a4
    unfold has
    rw [sq_iff]
    constructor
    · refine Nat.div_eq_of_lt_le ?_ ?_
      · omega
      · rw [Nat.add_mul, Nat.one_mul]; omega
    · refine Nat.div_eq_of_lt_le ?_ ?_
      · omega
      · rw [Nat.add_mul, Nat.one_mul]; omega
  · intro h
    obtain ⟨h1, h2, h3, h4⟩ := has_square hi h
    unfold meant
    rw [decide_eq_true_eq]
    exact ⟨h1, h2, h3, h4⟩
/-- a cell of a level, as the document tells it -/
theorem at_lev {W H : Nat} {z : Nat → Int} {p : Pl} (hp : Ok W H p) : ofF z (fun i => nv z i && meant W (square W H p) i) (W * H) = (lev W H z p.n).getD (p.y * side W p.n + p.x) zc :=
  ((ofF_is z _ (W * H)).congr (fun i hi => by rw [meant_square hi hp]; rfl)).eq (lev_is W H z p.n p.x p.y hp.x hp.y)
set_option maxRecDepth 100000 in
set_option maxHeartbeats 2000000 in
theorem qat_any (W H : Nat) (A : Option Addr) (Z : List Int) (n cap lo hi : Nat) (w : World) (hrd : RdL w lo hi A (Z.map zv)) (hl : Z.length = n) (hcap : n ≤ cap) (hnl : n ≤ 1000000) (hW : 0 < W) (hW2 : W ≤ 256) (hH2 : H ≤ 256) (hhi : hi ≤ w.heap.size) (k x y : Nat) (hk : k ≤ 8) (hx : x ≤ 256) (hy : y ≤ 256) :
    Calls Try.prog 21 #[.agg #[.int .i64 (W : Int), .int .i64 (H : Int), .slice A n cap], .int .i64 (k : Int), .int .i64 (x : Int), .int .i64 (y : Int)] w fun e w' => e = .returned (cev (ofF (fun i => Z.getD i 0) (fun i => nv (fun i => Z.getD i 0) i && meant W (square W H ⟨k, x, y⟩) i) n)) ∧ Below w.heap.size w w' := by
  obtain ⟨s, hs⟩ : ∃ s, s = 2 ^ k := ⟨_, rfl⟩
  have hsl : s ≤ 256 := by rw [hs]; exact Nat.pow_le_pow_right (n := 2) (i := k) (j := 8) (by decide) hk
  have hpow := fun X => qpow_any k s hs (by omega) X
  rw [square_eq hs]
  have mx : (x : Int) * (s : Int) = ((x * s : Nat) : Int) := (Int.natCast_mul _ _).symm
  have my : (y : Int) * (s : Int) = ((y * s : Nat) : Int) := (Int.natCast_mul _ _).symm
  have mxl : x * s ≤ 256 * 256 := Nat.mul_le_mul (by omega) hsl
  have myl : y * s ≤ 256 * 256 := Nat.mul_le_mul (by omega) hsl
  have q1 := fun X => qend_any x s W (by omega) (by omega) (by omega) X
  have q2 := fun X => qend_any y s H (by omega) (by omega) (by omega) X
  have hof := fun X (h : RdL X lo hi A (Z.map zv)) (h2 : hi ≤ X.heap.size) => qof_any W H A Z n cap lo hi X h hl hcap hnl hW (by omega) h2 ⟨(x : Int) * (s : Int), (y : Int) * (s : Int), endv x s W, endv y s H⟩
  generalize endv x s W = ex at *
  generalize endv y s H = ey at *
  generalize ofF _ _ n = c at *
  rw [mx, my] at hof
  generalize x * s = xs at *
  generalize y * s = ys at *
  dsimp only at hof
  have y1 : IntKind.i64.wrap ((x : Int) * (s : Int)) = (xs : Int) := by rw [mx]; exact IntWalk.i64_in _ (by omega)
  have y2 : IntKind.i64.wrap ((y : Int) * (s : Int)) = (ys : Int) := by rw [my]; exact IntWalk.i64_in _ (by omega)
  have HRd := Lib.hid hrd
  have HOf := Lib.hid hof
  clear hrd hof hs mx my
  go_enter Try.func21, Try.ntmps21
  go_wp2_with fail
  refine (hpow _).mono ?_
  rintro e w1 ⟨rfl, rfl⟩
  clear hpow
  have B0 := (Blk.mk w 24 [.int .i64 (W : Int), .int .i64 (H : Int), .slice A n cap]).alloc (.cells (cec zc).toArray 42)
  have B1 := Blk.mk (w.alloc (.cells #[.int .i64 (W : Int), .int .i64 (H : Int), .slice A n cap] 24)) 42 (cec zc)
  simp only [World.size_alloc] at B1
  have BB := (bt (_root_.Go.Proofs.Ytoaagemofjddiaa.bl w (.cells #[.int .i64 (W : Int), .int .i64 (H : Int), .slice A n cap] 24)) (_root_.Go.Proofs.Ytoaagemofjddiaa.bl _ (.cells (cec zc).toArray 42))).drew
  have HB0 := Lib.hid B0.drew
  have HB1 := Lib.hid B1.drew
  have HBB := Lib.hid BB
  clear B0 B1 BB
  go_wp2_with fail
  refine wp_region_any (by kernel_rfl) ?_
  change wpAny _ _ _ _ _ _ _ ((w.alloc (.cells #[.int .i64 (W : Int), .int .i64 (H : Int), .slice A n cap] 24)).alloc (.cells (cec zc).toArray 42)).drew
  generalize ((w.alloc (.cells #[.int .i64 (W : Int), .int .i64 (H : Int), .slice A n cap] 24)).alloc (.cells (cec zc).toArray 42)).drew = w1 at *
  have e0 : w1.cell? ⟨w.heap.size, 0, Option.none⟩ = some (.int .i64 (W : Int)) := HB0.out.cell 0
  have e1 : w1.cell? ⟨w.heap.size, 1, Option.none⟩ = some (.int .i64 (H : Int)) := HB0.out.cell 1
  have e2 : w1.cell? ⟨w.heap.size, 2, Option.none⟩ = some (.slice A n cap) := HB0.out.cell 2
  refine wpAny_split 17 (L := #[false, false, false, false, false, false, false, false, false, false, false, false, false, false, false, false, false]) (f := 17) (S := fun w' => w'.cell? ⟨w.heap.size, 0, Option.none⟩ = some (.int .i64 (W : Int)) ∧ w'.cell? ⟨w.heap.size, 1, Option.none⟩ = some (.int .i64 (H : Int)) ∧ w'.cell? ⟨w.heap.size, 2, Option.none⟩ = some (.slice A n cap)) (by kernel_rfl) ⟨e0, e1, e2⟩ (fun hHeld => ?_)
  simp only [List.take_succ_cons, List.take_zero, List.drop_succ_cons, List.drop_zero]
  refine wpAnyH_take (i := 0) (oi := ⟨some 12, _, _, _, _, _⟩) (v := ?_) rfl (by kernel_rfl) (by kernel_rfl) (by kernel_rfl) (fun _ _ _ h => h) (Or.inl ⟨by rfl, ?_⟩) (by assumption) ?_
  rotate_left
  · (intro w hSw; (try dsimp only at hSw); go_simp; try (with_reducible rfl))
  try simp only [Act.put, List.setIfInBounds_toArray, List.set_cons_zero, List.set_cons_succ]
  refine wpAnyH_take (i := 1) (oi := ⟨some 13, _, _, _, _, _⟩) (v := ?_) rfl (by kernel_rfl) (by kernel_rfl) (by kernel_rfl) (fun _ _ _ h => h) (Or.inl ⟨by rfl, ?_⟩) (by assumption) ?_
  rotate_left
  · (intro w hSw; (try dsimp only at hSw); go_simp; try (with_reducible rfl))
  try simp only [Act.put, List.setIfInBounds_toArray, List.set_cons_zero, List.set_cons_succ]
  refine wpAnyH_take (i := 2) (oi := ⟨some 14, _, _, _, _, _⟩) (v := ?_) rfl (by kernel_rfl) (by kernel_rfl) (by kernel_rfl) (fun _ _ _ h => h) (Or.inl ⟨by rfl, ?_⟩) (by assumption) ?_
  rotate_left
  · (intro w hSw; (try dsimp only at hSw); go_simp; try (with_reducible rfl))
  try simp only [Act.put, List.setIfInBounds_toArray, List.set_cons_zero, List.set_cons_succ]
  refine wpAnyH_take (i := 3) (oi := ⟨some 15, _, _, _, _, _⟩) (v := ?_) rfl (by kernel_rfl) (by kernel_rfl) (by kernel_rfl) (fun _ _ _ h => h) (Or.inl ⟨by rfl, ?_⟩) (by assumption) ?_
  rotate_left
  · (intro w hSw; (try dsimp only at hSw); go_simp; try (with_reducible rfl))
  try simp only [Act.put, List.setIfInBounds_toArray, List.set_cons_zero, List.set_cons_succ]
  refine wpAnyH_take (i := 4) (oi := ⟨some 16, _, _, _, _, _⟩) (v := ?_) rfl (by kernel_rfl) (by kernel_rfl) (by kernel_rfl) (fun _ _ _ h => h) (Or.inl ⟨by rfl, ?_⟩) (by assumption) ?_
  rotate_left
  · (intro w hSw; (try dsimp only at hSw); go_simp; try (with_reducible rfl))
  try simp only [Act.put, List.setIfInBounds_toArray, List.set_cons_zero, List.set_cons_succ]
  refine wpAnyH_take (i := 5) (oi := ⟨some 17, _, _, _, _, _⟩) (v := ?_) rfl (by kernel_rfl) (by kernel_rfl) (by kernel_rfl) (fun _ _ _ h => h) (Or.inl ⟨by rfl, ?_⟩) (by assumption) ?_
  rotate_left
  · (intro w hSw; (try dsimp only at hSw); go_simp; try (with_reducible rfl))
  try simp only [Act.put, List.setIfInBounds_toArray, List.set_cons_zero, List.set_cons_succ]
  refine wpAnyH_take (i := 6) (oi := ⟨some 18, _, _, _, _, _⟩) (v := ?_) rfl (by kernel_rfl) (by kernel_rfl) (by kernel_rfl) (fun _ _ _ h => h) (Or.inl ⟨by rfl, ?_⟩) (by assumption) ?_
  rotate_left
  · (intro w hSw; (try dsimp only at hSw); go_simp; try (with_reducible rfl))
  try simp only [Act.put, List.setIfInBounds_toArray, List.set_cons_zero, List.set_cons_succ]
  refine wpAnyH_take (i := 7) (oi := ⟨some 19, _, _, _, _, _⟩) (v := ?_) rfl (by kernel_rfl) (by kernel_rfl) (by kernel_rfl) (fun _ _ _ h => h) (Or.inl ⟨by rfl, ?_⟩) (by assumption) ?_
  rotate_left
  · (intro w hSw; (try dsimp only at hSw); go_simp; try (with_reducible rfl))
  try simp only [Act.put, List.setIfInBounds_toArray, List.set_cons_zero, List.set_cons_succ]
  refine wpAnyH_take (i := 8) (oi := ⟨some 20, _, _, _, _, _⟩) (v := ?_) rfl (by kernel_rfl) (by kernel_rfl) (by kernel_rfl) (fun _ _ _ h => h) (Or.inl ⟨by rfl, ?_⟩) (by assumption) ?_
  rotate_left
  · (intro w hSw; (try dsimp only at hSw); go_simp; try (with_reducible rfl))
  try simp only [Act.put, List.setIfInBounds_toArray, List.set_cons_zero, List.set_cons_succ]
  refine wpAnyH_take (i := 9) (oi := ⟨some 21, _, _, _, _, _⟩) (v := ?_) rfl (by kernel_rfl) (by kernel_rfl) (by kernel_rfl) (fun _ _ _ h => h) (Or.inl ⟨by rfl, ?_⟩) (by assumption) ?_
  rotate_left
  · (intro w hSw; (try dsimp only at hSw); go_simp; try (with_reducible rfl))
  try simp only [Act.put, List.setIfInBounds_toArray, List.set_cons_zero, List.set_cons_succ]
  refine wpAnyH_take (i := 10) (oi := ⟨some 22, _, _, _, _, _⟩) (v := ?_) rfl (by kernel_rfl) (by kernel_rfl) (by kernel_rfl) (fun _ _ _ h => h) (Or.inl ⟨by rfl, ?_⟩) (by assumption) ?_
  rotate_left
  · (intro w hSw; (try dsimp only at hSw); go_simp; try (with_reducible rfl))
  try simp only [Act.put, List.setIfInBounds_toArray, List.set_cons_zero, List.set_cons_succ]
  refine wpAnyH_take (i := 12) (oi := ⟨some 24, _, _, _, _, _⟩) (v := ?_) rfl (by kernel_rfl) (by kernel_rfl) (by kernel_rfl) (fun _ _ _ h => h) (Or.inl ⟨by rfl, ?_⟩) (by assumption) ?_
  rotate_left
  · (intro w hSw; (try dsimp only at hSw); go_simp; try (with_reducible rfl))
  try simp only [Act.put, List.setIfInBounds_toArray, List.set_cons_zero, List.set_cons_succ]
  refine wpAnyH_take (i := 13) (oi := ⟨some 25, _, _, _, _, _⟩) (v := ?_) rfl (by kernel_rfl) (by kernel_rfl) (by kernel_rfl) (fun _ _ _ h => h) (Or.inl ⟨by rfl, ?_⟩) (by assumption) ?_
  rotate_left
  · (intro w hSw; (try dsimp only at hSw); go_simp; try (with_reducible rfl))
  try simp only [Act.put, List.setIfInBounds_toArray, List.set_cons_zero, List.set_cons_succ]
  refine wpAnyH_take (i := 14) (oi := ⟨some 26, _, _, _, _, _⟩) (v := ?_) rfl (by kernel_rfl) (by kernel_rfl) (by kernel_rfl) (fun _ _ _ h => h) (Or.inl ⟨by rfl, ?_⟩) (by assumption) ?_
  rotate_left
  · (intro w hSw; (try dsimp only at hSw); go_simp; try (with_reducible rfl))
  try simp only [Act.put, List.setIfInBounds_toArray, List.set_cons_zero, List.set_cons_succ]
  refine wpAnyH_take (i := 15) (oi := ⟨some 27, _, _, _, _, _⟩) (v := ?_) rfl (by kernel_rfl) (by kernel_rfl) (by kernel_rfl) (fun _ _ _ h => h) (Or.inl ⟨by rfl, ?_⟩) (by assumption) ?_
  rotate_left
  · (intro w hSw; (try dsimp only at hSw); go_simp; try (with_reducible rfl))
  try simp only [Act.put, List.setIfInBounds_toArray, List.set_cons_zero, List.set_cons_succ]
  refine wpAnyH_ready (rs := [11]) (by kernel_rfl) (by simp) ?_
  refine AllReadyH.cons (o := ⟨some 23, _, _, _, _, _⟩) rfl (fun K hK => ?_) AllReadyH.nil
  go_simp
  go_at_call 45
  refine (q1 _).mono ?_
  rintro e w2 ⟨rfl, rfl⟩
  go_wp2_with fail
  refine hK.out _ _ (hHeld) (fun hHeld => ?_)
  clear hK K
  try simp only [List.setIfInBounds_toArray, List.set_cons_zero, List.set_cons_succ]
  refine wpAnyH_ready (rs := [16]) (by kernel_rfl) (by simp) ?_
  refine AllReadyH.cons (o := ⟨some 28, _, _, _, _, _⟩) rfl (fun K hK => ?_) AllReadyH.nil
  go_simp
  go_at_call 45
  refine (q2 _).mono ?_
  rintro e w2 ⟨rfl, rfl⟩
  go_wp2_with fail
  refine hK.out _ _ (hHeld) (fun hHeld => ?_)
  clear hK K
  try simp only [List.setIfInBounds_toArray, List.set_cons_zero, List.set_cons_succ]
  refine wpAnyH_done (by kernel_rfl) ?_ _
  change wpList _ _ _ _ _ _
  clear hHeld q1 q2
  have hsz := HBB.out.size
  have hO := HOf.out w1 (HRd.out.below HBB.out (.inl hhi)) (by omega)
  go_wp2_with fail
  refine hO.mono ?_
  rintro e w3 ⟨rfl, hb⟩
  have B3 := HB1.out.next hb
  have f0 := B3.free 0
  have f1 := B3.free 1
  have f2 := B3.free 2
  have p0 := B3.cell 0
  have p1 := B3.cell 1
  have p2 := B3.cell 2
  simp only [cec, zc, List.getElem?_cons_zero, List.getElem?_cons_succ] at p0 p1 p2
  have HB3 := Lib.hid (bt HBB.out hb)
  clear hb B3 hO e0 e1 e2
  unfold cev
  go_wp2
  refine bodyPost_ret (v := cev c) (by simp [results, Try.results21, go_sem, cev, p0, p1, p2]) rfl ⟨rfl, ((HB3.out.setCell (by simp) _).setCell (by simp) _).setCell (by simp) _⟩
/-- a cell of the document, as the program's -/
theorem own_any (c : Ce) (w : World) : Calls Try.prog 20 #[cev c] w fun e w' => e = .returned (cev c) ∧ Below w.heap.size w w' := by
  obtain ⟨l, u, m⟩ := c
  unfold cev
  dsimp only
  go_enter Try.func20, Try.ntmps20
  go_wp2
  exact bodyPost_ret (v := cev ⟨l, u, m⟩) (by simp [results, Try.results20, go_sem, cev]) rfl ⟨rfl, bt (_root_.Go.Proofs.Ytoaagemofjddiaa.bl _ _) (_root_.Go.Proofs.Ytoaagemofjddiaa.bl _ _)⟩
end Pyr
end Go.Proofs.Ytoaagemofjddiaa
