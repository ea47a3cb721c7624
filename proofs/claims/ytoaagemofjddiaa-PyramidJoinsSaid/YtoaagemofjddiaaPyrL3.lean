/-
  The law PyramidJoins, walked and joined.
-/
import Derived.Test.YtoaagemofjddiaaPyrL2
import Derived.Deep.DeepCutAuto
import Derived.Deep.CutBlock
namespace Go.Proofs.Ytoaagemofjddiaa
open Go.RowKit
set_option linter.unusedVariables false
namespace Pyr

theorem join_cols (W H : Nat) (z : Nat → Int) (x0 y0 x1 y1 x : Int) (h1 : x0 ≤ x) (h2 : x < x1) : join (overC W H z ⟨x0, y0, x, y1⟩) (overC W H z ⟨x + 1, y0, x1, y1⟩) = overC W H z ⟨x0, y0, x1, y1⟩ := by
  refine (((ofF_is z _ (W * H)).join (ofF_is z _ (W * H)) (fun i _ h => ?_)).congr (fun i _ => ?_)).eq (ofF_is z _ (W * H))
  · unfold meant at h ⊢
    rw [Bool.and_eq_true, decide_eq_true_eq] at h
    rw [Bool.and_eq_false_iff]
    right
    rw [decide_eq_false_iff_not]
    dsimp only at *
    omega
  · unfold meant
    cases nv z i
    · rfl
    · simp only [Bool.true_and]
      rw [Bool.eq_iff_iff, Bool.or_eq_true, decide_eq_true_eq, decide_eq_true_eq, decide_eq_true_eq]
      try dsimp only
      omega
theorem join_rows (W H : Nat) (z : Nat → Int) (x0 y0 x1 y1 y : Int) (h1 : y0 ≤ y) (h2 : y < y1) : join (overC W H z ⟨x0, y0, x1, y⟩) (overC W H z ⟨x0, y + 1, x1, y1⟩) = overC W H z ⟨x0, y0, x1, y1⟩ := by
  refine (((ofF_is z _ (W * H)).join (ofF_is z _ (W * H)) (fun i _ h => ?_)).congr (fun i _ => ?_)).eq (ofF_is z _ (W * H))
  · unfold meant at h ⊢
    rw [Bool.and_eq_true, decide_eq_true_eq] at h
    rw [Bool.and_eq_false_iff]
    right
    rw [decide_eq_false_iff_not]
    dsimp only at *
    omega
  · unfold meant
    cases nv z i
    · rfl
    · simp only [Bool.true_and]
      rw [Bool.eq_iff_iff, Bool.or_eq_true, decide_eq_true_eq, decide_eq_true_eq, decide_eq_true_eq]
      try dsimp only
      omega
theorem overC_n (W H : Nat) (z : Nat → Int) (b : Bo) : (overC W H z b).n ≤ W * H ∧ ((overC W H z b).n = 0 → overC W H z b = zc) :=
  ⟨by unfold overC; rw [(ofF_is z _ (W * H)).cnt]; exact Nat.le_trans List.countP_le_length (by simp), (ofF_is z _ (W * H)).zc_of⟩
/-- the box and the pyramid -/
structure LJ (w : World) (bx : Bo) (gb bp bl cl : Nat) (lvs : List Lv) (wr : World) : Prop where
  box : Blk wr gb 46 (boc bx)
  ps : ∃ sn, PS wr bp bl cl lvs sn
  keep : Below w.heap.size w wr
  nb : gb ≠ bp
  ge : w.heap.size ≤ bp
  lt : bp < wr.heap.size
/-- .. and two cells -/
structure LK (w : World) (bx : Bo) (gb bp bl cl : Nat) (lvs : List Lv) (g1 g2 : Nat) (c1 c2 : Ce) (wr : World) : Prop where
  j : LJ w bx gb bp bl cl lvs wr
  one : Blk wr g1 38 (cec c1)
  two : Blk wr g2 38 (cec c2)
  n1 : g1 ≠ bp
  n2 : g2 ≠ bp
section
variable {w wr w' : World} {bx : Bo} {gb bp bl cl sn' g1 g2 : Nat} {lvs : List Lv} {c1 c2 : Ce}
theorem LJ.next (S : LJ w bx gb bp bl cl lvs wr) (hb : Below wr.heap.size wr w') : LJ w bx gb bp bl cl lvs w' := by
  obtain ⟨sn, hP⟩ := S.ps
  exact ⟨S.box.next hb, ⟨sn, hP.next hb⟩, bt S.keep hb, S.nb, S.ge, Nat.lt_of_lt_of_le S.lt hb.size⟩
theorem LJ.over (S : LJ w bx gb bp bl cl lvs wr) (hP : PS w' bp bl cl lvs sn') (hg : wr.grownBy w' (some bp)) : LJ w bx gb bp bl cl lvs w' :=
  ⟨S.box.grown hg (fun e => S.nb (Option.some.inj e)), ⟨sn', hP⟩, S.keep.grown hg S.keep.size (fun k hk => by have := Option.some.inj hk; have := S.ge; omega), S.nb, S.ge, Nat.lt_of_lt_of_le S.lt hg.size⟩
theorem LJ.drewN (S : LJ w bx gb bp bl cl lvs wr) (q : Nat) : LJ w bx gb bp bl cl lvs (wr.drewN q) := by
  obtain ⟨sn, hP⟩ := S.ps
  exact ⟨S.box.drewN q, ⟨sn, hP.drewN q⟩, below_drewN S.keep q, S.nb, S.ge, S.lt⟩
theorem LK.next (S : LK w bx gb bp bl cl lvs g1 g2 c1 c2 wr) (hb : Below wr.heap.size wr w') : LK w bx gb bp bl cl lvs g1 g2 c1 c2 w' := ⟨S.j.next hb, S.one.next hb, S.two.next hb, S.n1, S.n2⟩
theorem LK.over (S : LK w bx gb bp bl cl lvs g1 g2 c1 c2 wr) (hP : PS w' bp bl cl lvs sn') (hg : wr.grownBy w' (some bp)) : LK w bx gb bp bl cl lvs g1 g2 c1 c2 w' :=
  ⟨S.j.over hP hg, S.one.grown hg (fun e => S.n1 (Option.some.inj e)), S.two.grown hg (fun e => S.n2 (Option.some.inj e)), S.n1, S.n2⟩
theorem LK.drew (S : LK w bx gb bp bl cl lvs g1 g2 c1 c2 wr) : LK w bx gb bp bl cl lvs g1 g2 c1 c2 wr.drew := by
  exact ⟨S.j.drewN 1, S.one.drew, S.two.drew, S.n1, S.n2⟩
theorem LK.s (S : LK w bx gb bp bl cl lvs g1 g2 c1 c2 wr) : LK w bx gb bp bl cl lvs g1 g2 c1 c2 wr ∧
    wr.cell? ⟨gb, 0, Option.none⟩ = some (.int .i64 bx.x0) ∧ wr.cell? ⟨gb, 1, Option.none⟩ = some (.int .i64 bx.y0) ∧ wr.cell? ⟨gb, 2, Option.none⟩ = some (.int .i64 bx.x1) ∧ wr.cell? ⟨gb, 3, Option.none⟩ = some (.int .i64 bx.y1) ∧
    wr.cell? ⟨g1, 0, Option.none⟩ = some (.int .i16 c1.lo) ∧ wr.cell? ⟨g1, 1, Option.none⟩ = some (.int .i16 c1.hi) ∧ wr.cell? ⟨g1, 2, Option.none⟩ = some (.int .i64 (c1.n : Int)) ∧
    wr.cell? ⟨g2, 0, Option.none⟩ = some (.int .i16 c2.lo) ∧ wr.cell? ⟨g2, 1, Option.none⟩ = some (.int .i16 c2.hi) ∧ wr.cell? ⟨g2, 2, Option.none⟩ = some (.int .i64 (c2.n : Int)) :=
  ⟨S, S.j.box.cell 0, S.j.box.cell 1, S.j.box.cell 2, S.j.box.cell 3, S.one.cell 0, S.one.cell 1, S.one.cell 2, S.two.cell 0, S.two.cell 1, S.two.cell 2⟩
end
set_option maxRecDepth 100000 in
set_option maxHeartbeats 6000000 in
theorem lawJoins_core (a b ct : Nat) (ha : a < 256) (hb : b < 256) (hct : ct < 256) (A : Option Addr) (Z : List Int) (m cap : Nat) (bx : Bo) (w : World) (hrd : RdL w 0 w.heap.size A (Z.map zv)) (hl : Z.length = m) (hcap : m ≤ cap) (hz : ∀ x ∈ Z, -32768 ≤ x ∧ x ≤ 32767) (h : ¬ (1000 < m ∨ bx.x0 < 0 ∨ 300 < bx.x0 ∨ bx.y0 < 0 ∨ 300 < bx.y0)) :
    Calls Try.prog 6 #[.int .u8 (a : Int), .int .u8 (b : Int), .slice A m cap, bov bx, .int .u8 (ct : Int)] w fun e w' => e = .returned (.bool true) ∧ Below w.heap.size w w' := by
  have d1 : decide (1000 < (m : Int)) = false := decide_eq_false (by omega)
  have d2 : decide (bx.x0 < 0) = false := decide_eq_false (by omega)
  have d3 : decide (300 < bx.x0) = false := decide_eq_false (by omega)
  have d4 : decide (bx.y0 < 0) = false := decide_eq_false (by omega)
  have d5 : decide (300 < bx.y0) = false := decide_eq_false (by omega)
  have hx0 : 0 ≤ bx.x0 ∧ bx.x0 ≤ 300 := by omega
  have hy0 : 0 ≤ bx.y0 ∧ bx.y0 ≤ 300 := by omega
  have hb0 := Blk.mk w 46 (boc bx)
  have hbx := _root_.Go.Proofs.Ytoaagemofjddiaa.bl w (.cells (boc bx).toArray 46)
  have hfd := field_any a b ha hb A Z m cap 0 w.heap.size (w.alloc (.cells (boc bx).toArray 46)) (hrd.alloc _) hl (by omega) hcap hz hbx.size
  have hWl := fieldW_le a
  have hHl := fieldW_le b
  have hLl := fieldL_len a b Z
  generalize fieldL a b Z = L at *
  generalize fieldW a = W at *
  generalize fieldW b = H at *
  have hWH := Nat.mul_le_mul hWl.2 hHl.2
  have HLl := Lib.hid hLl
  have HB0 := Lib.hid hb0
  have HBx := Lib.hid hbx
  clear h hrd hl hz hb0 hbx hLl
  obtain ⟨x0, y0, x1, y1⟩ := bx
  dsimp only at hx0 hy0
  unfold bov
  go_enter Try.func6, Try.ntmps6
  go_wp2_with fail
  refine hfd.mono ?_
  rintro e w1 ⟨v, rfl, hown, hbf⟩
  obtain ⟨Af, cf, rfl, hrf, hcf, hmf, hAf⟩ := own_rd hown
  have hB1 := HB0.out.next hbf
  have hK1 := bt HBx.out hbf
  have hs1 := hbf.size
  simp only [World.size_alloc] at hs1
  have hnl : L.length ≤ 1600 := by rw [HLl.out]; omega
  obtain ⟨n, hn⟩ : ∃ n, n = L.length := ⟨_, rfl⟩
  rw [← hn] at hcf hnl ⊢
  have hnew := new_ok W H Af L n cf _ _ _ hrf hn.symm (by rw [hn]; exact HLl.out) hcf (by omega) (by omega) (by omega) (by omega) (Nat.le_refl _)
  have HB1 := Lib.hid hB1
  have HK1 := Lib.hid hK1
  clear hfd hown hrf hbf hB1 hK1 hn HB0 HBx
  go_wp2_with fail
  refine hnew.mono ?_
  rintro e w2 ⟨top, bp, bl, cl, lvs, rfl, hP, hI, hT, hlen, hbp, hb2⟩
  have hS0 : LJ w ⟨x0, y0, x1, y1⟩ w.heap.size bp bl cl lvs w2 := ⟨HB1.out.next hb2, ⟨0, hP⟩, bt HK1.out hb2, by omega, by omega, hP.blk.lt⟩
  have hov := fun (c : Bo) X sn (S : PS X bp bl cl lvs sn) => over_any S hI hT hlen c (by omega) (by omega) (by omega) (by omega)
  unfold GotOver at hov
  have hjc := fun x h1 h2 => join_cols W H (fun i => L.getD i 0) x0 y0 x1 y1 x h1 h2
  have hjr := fun y h1 h2 => join_rows W H (fun i => L.getD i 0) x0 y0 x1 y1 y h1 h2
  have hon := fun c => overC_n W H (fun i => L.getD i 0) c
  generalize overC W H (fun i => L.getD i 0) = oc at *
  have HS0 := Lib.hid hS0
  have HOv := Lib.hid hov
  have HJc := Lib.hid hjc
  have HJr := Lib.hid hjr
  have HOn := Lib.hid hon
  have e0 : w2.cell? ⟨w.heap.size, 0, Option.none⟩ = some (.int .i64 x0) := hS0.box.cell 0
  have e1 : w2.cell? ⟨w.heap.size, 1, Option.none⟩ = some (.int .i64 y0) := hS0.box.cell 1
  have e2 : w2.cell? ⟨w.heap.size, 2, Option.none⟩ = some (.int .i64 x1) := hS0.box.cell 2
  have e3 : w2.cell? ⟨w.heap.size, 3, Option.none⟩ = some (.int .i64 y1) := hS0.box.cell 3
  have yc : IntKind.i64.wrap (ct : Int) = (ct : Int) := IntWalk.i64_in _ (by omega)
  have y1' : IntKind.i64.wrap (x0 + (ct : Int)) = x0 + (ct : Int) := IntWalk.i64_in _ (by omega)
  have y2' : IntKind.i64.wrap (y0 + (ct : Int)) = y0 + (ct : Int) := IntWalk.i64_in _ (by omega)
  clear hnew hP hI hT hbp hb2 hS0 hov hjc hjr hon HB1 HK1 hlen
  go_wp2_with fail
  go_quiet (fail)
  go_step
  go_step
  go_step
  go_cut [15, 16] (fun s1 s2 wx => LJ w ⟨x0, y0, x1, y1⟩ w.heap.size bp bl cl lvs wx)
  case first =>
    have hSf := HS0.out.drewN nq
    have HSf := Lib.hid hSf
    have e0 : (w2.drewN nq).cell? ⟨w.heap.size, 0, Option.none⟩ = some (.int .i64 x0) := hSf.box.cell 0
    have e1 : (w2.drewN nq).cell? ⟨w.heap.size, 1, Option.none⟩ = some (.int .i64 y0) := hSf.box.cell 1
    have e2 : (w2.drewN nq).cell? ⟨w.heap.size, 2, Option.none⟩ = some (.int .i64 x1) := hSf.box.cell 2
    have e3 : (w2.drewN nq).cell? ⟨w.heap.size, 3, Option.none⟩ = some (.int .i64 y1) := hSf.box.cell 3
    obtain ⟨sn, hPs⟩ := hSf.ps
    have ho1 := HOv.out ⟨x0, y0, x0 + (ct : Int), y1⟩ _ sn hPs
    clear hSf hPs
    by_cases hlt : x0 + (ct : Int) < x1
    · have yw : IntKind.i64.wrap (x0 + (ct : Int) + 1) = x0 + (ct : Int) + 1 := IntWalk.i64_in _ (by omega)
      have hj := HJc.out (x0 + (ct : Int)) (by omega) hlt
      have hn1 := HOn.out ⟨x0, y0, x0 + (ct : Int), y1⟩
      have hn2 := HOn.out ⟨x0 + (ct : Int) + 1, y0, x1, y1⟩
      have ho2 := fun X sn h => HOv.out ⟨x0 + (ct : Int) + 1, y0, x1, y1⟩ X sn h
      have ho3 := fun X sn h => HOv.out ⟨x0, y0, x1, y1⟩ X sn h
      generalize oc ⟨x0, y0, x0 + (ct : Int), y1⟩ = c1 at *
      generalize oc ⟨x0 + (ct : Int) + 1, y0, x1, y1⟩ = c2 at *
      have hcs := cell_same' (oc ⟨x0, y0, x1, y1⟩)
      generalize oc ⟨x0, y0, x1, y1⟩ = c3 at *
      have hjn : ∀ X : World, Calls Try.prog 26 #[.slice (some ⟨X.heap.size, 0, Option.none⟩) 2 2] (X.alloc (.cells #[.int .i16 c1.lo, .int .i16 c1.hi, .int .i64 (c1.n : Int), .int .i16 c2.lo, .int .i16 c2.hi, .int .i64 (c2.n : Int)] 38)).drew fun e w' => e = .returned (.agg #[.int .i16 c3.lo, .int .i16 c3.hi, .int .i64 (c3.n : Int)]) ∧ Below (X.alloc (.cells #[.int .i16 c1.lo, .int .i16 c1.hi, .int .i64 (c1.n : Int), .int .i16 c2.lo, .int .i16 c2.hi, .int .i64 (c2.n : Int)] 38)).drew.heap.size (X.alloc (.cells #[.int .i16 c1.lo, .int .i16 c1.hi, .int .i64 (c1.n : Int), .int .i16 c2.lo, .int .i16 c2.hi, .int .i64 (c2.n : Int)] 38)).drew w' := fun X => by
        have h9 := join_any (some ⟨X.heap.size, 0, Option.none⟩) [c1, c2] 2 2 _ _ _ (new_rd X 38 (cec c1 ++ cec c2)).drew rfl (Nat.le_refl _) (by decide) (by intro d hd; simp at hd; rcases hd with rfl | rfl <;> omega)
        rw [joins_two c1 c2 hn1.2, hj] at h9
        exact h9
      unfold bov at ho1 ho2 ho3
      unfold cev at ho1 ho2 ho3
      have HO2 := Lib.hid ho2
      have HO3 := Lib.hid ho3
      clear hj hn1 hn2 ho2 ho3
      go_wp2_with fail
      refine ho1.mono ?_
      rintro e w3 ⟨rfl, hP3, hg3⟩
      have hs3 := Nat.lt_of_lt_of_le HSf.out.lt hg3.size
      have S3 := (HSf.out.over hP3 hg3).next (_root_.Go.Proofs.Ytoaagemofjddiaa.bl w3 (.cells (cec c1).toArray 38))
      have HS3 := Lib.hid S3
      have HOne := Lib.hid (Blk.mk w3 38 (cec c1))
      obtain ⟨sn3, hPs3⟩ := S3.ps
      have ho2' := HO2.out _ sn3 hPs3
      have e0 : (w3.alloc (.cells #[.int .i16 c1.lo, .int .i16 c1.hi, .int .i64 (c1.n : Int)] 38)).cell? ⟨w.heap.size, 0, Option.none⟩ = some (.int .i64 x0) := S3.box.cell 0
      have e1 : (w3.alloc (.cells #[.int .i16 c1.lo, .int .i16 c1.hi, .int .i64 (c1.n : Int)] 38)).cell? ⟨w.heap.size, 1, Option.none⟩ = some (.int .i64 y0) := S3.box.cell 1
      have e2 : (w3.alloc (.cells #[.int .i16 c1.lo, .int .i16 c1.hi, .int .i64 (c1.n : Int)] 38)).cell? ⟨w.heap.size, 2, Option.none⟩ = some (.int .i64 x1) := S3.box.cell 2
      have e3 : (w3.alloc (.cells #[.int .i16 c1.lo, .int .i16 c1.hi, .int .i64 (c1.n : Int)] 38)).cell? ⟨w.heap.size, 3, Option.none⟩ = some (.int .i64 y1) := S3.box.cell 3
      clear ho1 hP3 hg3 S3 hPs3
      go_wp2_with fail
      refine ho2'.mono ?_
      rintro e w4 ⟨rfl, hP4, hg4⟩
      have hs4 : bp < w4.heap.size := by have := hg4.size; simp at this; omega
      have hLK : LK w ⟨x0, y0, x1, y1⟩ w.heap.size bp bl cl lvs w3.heap.size w4.heap.size c1 c2 (w4.alloc (.cells (cec c2).toArray 38)) :=
        ⟨(HS3.out.over hP4 hg4).next (_root_.Go.Proofs.Ytoaagemofjddiaa.bl _ _), (HOne.out.grown hg4 (fun e => by have := Option.some.inj e; omega)).next (_root_.Go.Proofs.Ytoaagemofjddiaa.bl _ _), Blk.mk w4 38 (cec c2), by omega, by omega⟩
      have HLK : Hid (LK w ⟨x0, y0, x1, y1⟩ w.heap.size bp bl cl lvs w3.heap.size w4.heap.size c1 c2 (w4.alloc (.cells #[.int .i16 c2.lo, .int .i16 c2.hi, .int .i64 (c2.n : Int)] 38))) := Lib.hid hLK
      clear ho2' hP4 hg4 hLK e0 e1 e2 e3 HS3 HOne HSf HO2
      go_wp2_with fail
      generalize w4.alloc (.cells #[.int .i16 c2.lo, .int .i16 c2.hi, .int .i64 (c2.n : Int)] 38) = W5 at *
      go_region_held3 (fun w' => LK w ⟨x0, y0, x1, y1⟩ w.heap.size bp bl cl lvs w3.heap.size w4.heap.size c1 c2 w' ∧ w'.cell? ⟨w.heap.size, 0, Option.none⟩ = some (.int .i64 x0) ∧ w'.cell? ⟨w.heap.size, 1, Option.none⟩ = some (.int .i64 y0) ∧ w'.cell? ⟨w.heap.size, 2, Option.none⟩ = some (.int .i64 x1) ∧ w'.cell? ⟨w.heap.size, 3, Option.none⟩ = some (.int .i64 y1) ∧ w'.cell? ⟨w3.heap.size, 0, Option.none⟩ = some (.int .i16 c1.lo) ∧ w'.cell? ⟨w3.heap.size, 1, Option.none⟩ = some (.int .i16 c1.hi) ∧ w'.cell? ⟨w3.heap.size, 2, Option.none⟩ = some (.int .i64 (c1.n : Int)) ∧ w'.cell? ⟨w4.heap.size, 0, Option.none⟩ = some (.int .i16 c2.lo) ∧ w'.cell? ⟨w4.heap.size, 1, Option.none⟩ = some (.int .i16 c2.hi) ∧ w'.cell? ⟨w4.heap.size, 2, Option.none⟩ = some (.int .i64 (c2.n : Int)))
        (first
          | exact HLK.out.drew.s
          | assumption
          | exact ((And.left ‹LK _ _ _ _ _ _ _ _ _ _ _ _ ∧ _›).next (by assumption)).s
          | exact ((And.left ‹LK _ _ _ _ _ _ _ _ _ _ _ _ ∧ _›).over (by assumption) (by assumption)).s
          | exact ((And.left ‹LK _ _ _ _ _ _ _ _ _ _ _ _ ∧ _›).next (_root_.Go.Proofs.Ytoaagemofjddiaa.bl _ _)).s)
        (first
          | (go_at_call 26; (with_reducible refine (hjn _).mono ?_); rintro e w' ⟨rfl, hb⟩)
          | (go_at_call 22; obtain ⟨sn0, hS0⟩ := LJ.ps (LK.j (And.left ‹LK _ _ _ _ _ _ _ _ _ _ _ _ ∧ _›)); (with_reducible refine (HO3.out _ sn0 hS0).mono ?_); rintro e w' ⟨rfl, hP, hg⟩; clear hS0))
      have hX := (And.left ‹LK _ _ _ _ _ _ _ _ _ _ _ _ ∧ _›).j
      have HX := Lib.hid hX
      clear hX
      go_wp2_with fail
      go_meet
      exact HX.out
    · clear ho1
      go_wp2_with fail
      go_meet
      exact HSf.out
  clear e0 e1 e2 e3 HS0
  have HSc := Lib.hid hcut
  have e0 : wc.cell? ⟨w.heap.size, 0, Option.none⟩ = some (.int .i64 x0) := hcut.box.cell 0
  have e1 : wc.cell? ⟨w.heap.size, 1, Option.none⟩ = some (.int .i64 y0) := hcut.box.cell 1
  have e2 : wc.cell? ⟨w.heap.size, 2, Option.none⟩ = some (.int .i64 x1) := hcut.box.cell 2
  have e3 : wc.cell? ⟨w.heap.size, 3, Option.none⟩ = some (.int .i64 y1) := hcut.box.cell 3
  clear hcut
  go_step
  go_step
  go_cut [17, 18] (fun s1 s2 wx => LJ w ⟨x0, y0, x1, y1⟩ w.heap.size bp bl cl lvs wx)
  case first =>
    have hSf := HSc.out
    have HSf := Lib.hid hSf
    have e0 : wc.cell? ⟨w.heap.size, 0, Option.none⟩ = some (.int .i64 x0) := hSf.box.cell 0
    have e1 : wc.cell? ⟨w.heap.size, 1, Option.none⟩ = some (.int .i64 y0) := hSf.box.cell 1
    have e2 : wc.cell? ⟨w.heap.size, 2, Option.none⟩ = some (.int .i64 x1) := hSf.box.cell 2
    have e3 : wc.cell? ⟨w.heap.size, 3, Option.none⟩ = some (.int .i64 y1) := hSf.box.cell 3
    obtain ⟨sn, hPs⟩ := hSf.ps
    have ho1 := HOv.out ⟨x0, y0, x1, y0 + (ct : Int)⟩ _ sn hPs
    clear hSf hPs
    by_cases hlt : y0 + (ct : Int) < y1
    · have yw : IntKind.i64.wrap (y0 + (ct : Int) + 1) = y0 + (ct : Int) + 1 := IntWalk.i64_in _ (by omega)
      have hj := HJr.out (y0 + (ct : Int)) (by omega) hlt
      have hn1 := HOn.out ⟨x0, y0, x1, y0 + (ct : Int)⟩
      have hn2 := HOn.out ⟨x0, y0 + (ct : Int) + 1, x1, y1⟩
      have ho2 := fun X sn h => HOv.out ⟨x0, y0 + (ct : Int) + 1, x1, y1⟩ X sn h
      have ho3 := fun X sn h => HOv.out ⟨x0, y0, x1, y1⟩ X sn h
      generalize oc ⟨x0, y0, x1, y0 + (ct : Int)⟩ = c1 at *
      generalize oc ⟨x0, y0 + (ct : Int) + 1, x1, y1⟩ = c2 at *
      have hcs := cell_same' (oc ⟨x0, y0, x1, y1⟩)
      generalize oc ⟨x0, y0, x1, y1⟩ = c3 at *
      have hjn : ∀ X : World, Calls Try.prog 26 #[.slice (some ⟨X.heap.size, 0, Option.none⟩) 2 2] (X.alloc (.cells #[.int .i16 c1.lo, .int .i16 c1.hi, .int .i64 (c1.n : Int), .int .i16 c2.lo, .int .i16 c2.hi, .int .i64 (c2.n : Int)] 38)).drew fun e w' => e = .returned (.agg #[.int .i16 c3.lo, .int .i16 c3.hi, .int .i64 (c3.n : Int)]) ∧ Below (X.alloc (.cells #[.int .i16 c1.lo, .int .i16 c1.hi, .int .i64 (c1.n : Int), .int .i16 c2.lo, .int .i16 c2.hi, .int .i64 (c2.n : Int)] 38)).drew.heap.size (X.alloc (.cells #[.int .i16 c1.lo, .int .i16 c1.hi, .int .i64 (c1.n : Int), .int .i16 c2.lo, .int .i16 c2.hi, .int .i64 (c2.n : Int)] 38)).drew w' := fun X => by
        have h9 := join_any (some ⟨X.heap.size, 0, Option.none⟩) [c1, c2] 2 2 _ _ _ (new_rd X 38 (cec c1 ++ cec c2)).drew rfl (Nat.le_refl _) (by decide) (by intro d hd; simp at hd; rcases hd with rfl | rfl <;> omega)
        rw [joins_two c1 c2 hn1.2, hj] at h9
        exact h9
      unfold bov at ho1 ho2 ho3
      unfold cev at ho1 ho2 ho3
      have HO2 := Lib.hid ho2
      have HO3 := Lib.hid ho3
      clear hj hn1 hn2 ho2 ho3
      go_wp2_with fail
      refine ho1.mono ?_
      rintro e w3 ⟨rfl, hP3, hg3⟩
      have hs3 := Nat.lt_of_lt_of_le HSf.out.lt hg3.size
      have S3 := (HSf.out.over hP3 hg3).next (_root_.Go.Proofs.Ytoaagemofjddiaa.bl w3 (.cells (cec c1).toArray 38))
      have HS3 := Lib.hid S3
      have HOne := Lib.hid (Blk.mk w3 38 (cec c1))
      obtain ⟨sn3, hPs3⟩ := S3.ps
      have ho2' := HO2.out _ sn3 hPs3
      have e0 : (w3.alloc (.cells #[.int .i16 c1.lo, .int .i16 c1.hi, .int .i64 (c1.n : Int)] 38)).cell? ⟨w.heap.size, 0, Option.none⟩ = some (.int .i64 x0) := S3.box.cell 0
      have e1 : (w3.alloc (.cells #[.int .i16 c1.lo, .int .i16 c1.hi, .int .i64 (c1.n : Int)] 38)).cell? ⟨w.heap.size, 1, Option.none⟩ = some (.int .i64 y0) := S3.box.cell 1
      have e2 : (w3.alloc (.cells #[.int .i16 c1.lo, .int .i16 c1.hi, .int .i64 (c1.n : Int)] 38)).cell? ⟨w.heap.size, 2, Option.none⟩ = some (.int .i64 x1) := S3.box.cell 2
      have e3 : (w3.alloc (.cells #[.int .i16 c1.lo, .int .i16 c1.hi, .int .i64 (c1.n : Int)] 38)).cell? ⟨w.heap.size, 3, Option.none⟩ = some (.int .i64 y1) := S3.box.cell 3
      clear ho1 hP3 hg3 S3 hPs3
      go_wp2_with fail
      refine ho2'.mono ?_
      rintro e w4 ⟨rfl, hP4, hg4⟩
      have hs4 : bp < w4.heap.size := by have := hg4.size; simp at this; omega
      have hLK : LK w ⟨x0, y0, x1, y1⟩ w.heap.size bp bl cl lvs w3.heap.size w4.heap.size c1 c2 (w4.alloc (.cells (cec c2).toArray 38)) :=
        ⟨(HS3.out.over hP4 hg4).next (_root_.Go.Proofs.Ytoaagemofjddiaa.bl _ _), (HOne.out.grown hg4 (fun e => by have := Option.some.inj e; omega)).next (_root_.Go.Proofs.Ytoaagemofjddiaa.bl _ _), Blk.mk w4 38 (cec c2), by omega, by omega⟩
      have HLK : Hid (LK w ⟨x0, y0, x1, y1⟩ w.heap.size bp bl cl lvs w3.heap.size w4.heap.size c1 c2 (w4.alloc (.cells #[.int .i16 c2.lo, .int .i16 c2.hi, .int .i64 (c2.n : Int)] 38))) := Lib.hid hLK
      clear ho2' hP4 hg4 hLK e0 e1 e2 e3 HS3 HOne HSf HO2
      go_wp2_with fail
      generalize w4.alloc (.cells #[.int .i16 c2.lo, .int .i16 c2.hi, .int .i64 (c2.n : Int)] 38) = W5 at *
      go_region_held3 (fun w' => LK w ⟨x0, y0, x1, y1⟩ w.heap.size bp bl cl lvs w3.heap.size w4.heap.size c1 c2 w' ∧ w'.cell? ⟨w.heap.size, 0, Option.none⟩ = some (.int .i64 x0) ∧ w'.cell? ⟨w.heap.size, 1, Option.none⟩ = some (.int .i64 y0) ∧ w'.cell? ⟨w.heap.size, 2, Option.none⟩ = some (.int .i64 x1) ∧ w'.cell? ⟨w.heap.size, 3, Option.none⟩ = some (.int .i64 y1) ∧ w'.cell? ⟨w3.heap.size, 0, Option.none⟩ = some (.int .i16 c1.lo) ∧ w'.cell? ⟨w3.heap.size, 1, Option.none⟩ = some (.int .i16 c1.hi) ∧ w'.cell? ⟨w3.heap.size, 2, Option.none⟩ = some (.int .i64 (c1.n : Int)) ∧ w'.cell? ⟨w4.heap.size, 0, Option.none⟩ = some (.int .i16 c2.lo) ∧ w'.cell? ⟨w4.heap.size, 1, Option.none⟩ = some (.int .i16 c2.hi) ∧ w'.cell? ⟨w4.heap.size, 2, Option.none⟩ = some (.int .i64 (c2.n : Int)))
        (first
          | exact HLK.out.drew.s
          | assumption
          | exact ((And.left ‹LK _ _ _ _ _ _ _ _ _ _ _ _ ∧ _›).next (by assumption)).s
          | exact ((And.left ‹LK _ _ _ _ _ _ _ _ _ _ _ _ ∧ _›).over (by assumption) (by assumption)).s
          | exact ((And.left ‹LK _ _ _ _ _ _ _ _ _ _ _ _ ∧ _›).next (_root_.Go.Proofs.Ytoaagemofjddiaa.bl _ _)).s)
        (first
          | (go_at_call 26; (with_reducible refine (hjn _).mono ?_); rintro e w' ⟨rfl, hb⟩)
          | (go_at_call 22; obtain ⟨sn0, hS0⟩ := LJ.ps (LK.j (And.left ‹LK _ _ _ _ _ _ _ _ _ _ _ _ ∧ _›)); (with_reducible refine (HO3.out _ sn0 hS0).mono ?_); rintro e w' ⟨rfl, hP, hg⟩; clear hS0))
      have hX := (And.left ‹LK _ _ _ _ _ _ _ _ _ _ _ _ ∧ _›).j
      have HX := Lib.hid hX
      clear hX
      go_wp2_with fail
      go_meet
      exact HX.out
    · clear ho1
      go_wp2_with fail
      go_meet
      exact HSf.out
  clear e0 e1 e2 e3 HSc
  have HSd := Lib.hid hcut.keep
  clear hcut
  go_wp2_with fail
  refine (works36_any _).mono ?_
  rintro e w9 ⟨rfl, hb9⟩
  go_wp2
  go_ret
  exact ⟨rfl, bt HSd.out hb9⟩
set_option maxRecDepth 100000 in
set_option maxHeartbeats 2000000 in
theorem lawJoins_out (a b ct : Nat) (A : Option Addr) (m cap : Nat) (bx : Bo) (h : 1000 < m ∨ bx.x0 < 0 ∨ 300 < bx.x0 ∨ bx.y0 < 0 ∨ 300 < bx.y0) (w : World) :
    Calls Try.prog 6 #[.int .u8 (a : Int), .int .u8 (b : Int), .slice A m cap, bov bx, .int .u8 (ct : Int)] w fun e w' => e = .returned (.bool true) ∧ Below w.heap.size w w' := by
  obtain ⟨x0, y0, x1, y1⟩ := bx
  unfold bov
  dsimp only at h ⊢
  by_cases h0 : 1000 < (m : Int)
  · have d0 : decide (1000 < (m : Int)) = true := decide_eq_true h0
    clear h
    go_enter Try.func6, Try.ntmps6
    go_wp2_with fail
    refine (works36_any _).mono ?_
    rintro e w1 ⟨rfl, hb⟩
    go_wp2
    go_ret
    exact ⟨rfl, bt (_root_.Go.Proofs.Ytoaagemofjddiaa.bl _ _) hb⟩
  have d0 : decide (1000 < (m : Int)) = false := decide_eq_false h0
  by_cases h1 : x0 < 0
  · have d1 : decide (x0 < 0) = true := decide_eq_true h1
    clear h
    go_enter Try.func6, Try.ntmps6
    go_wp2_with fail
    refine (works36_any _).mono ?_
    rintro e w1 ⟨rfl, hb⟩
    go_wp2
    go_ret
    exact ⟨rfl, bt (_root_.Go.Proofs.Ytoaagemofjddiaa.bl _ _) hb⟩
  have d1 : decide (x0 < 0) = false := decide_eq_false h1
  by_cases h2 : 300 < x0
  · have d2 : decide (300 < x0) = true := decide_eq_true h2
    clear h
    go_enter Try.func6, Try.ntmps6
    go_wp2_with fail
    refine (works36_any _).mono ?_
    rintro e w1 ⟨rfl, hb⟩
    go_wp2
    go_ret
    exact ⟨rfl, bt (_root_.Go.Proofs.Ytoaagemofjddiaa.bl _ _) hb⟩
  have d2 : decide (300 < x0) = false := decide_eq_false h2
  by_cases h3 : y0 < 0
  · have d3 : decide (y0 < 0) = true := decide_eq_true h3
    clear h
    go_enter Try.func6, Try.ntmps6
    go_wp2_with fail
    refine (works36_any _).mono ?_
    rintro e w1 ⟨rfl, hb⟩
    go_wp2
    go_ret
    exact ⟨rfl, bt (_root_.Go.Proofs.Ytoaagemofjddiaa.bl _ _) hb⟩
  have d3 : decide (y0 < 0) = false := decide_eq_false h3
  have h4 : 300 < y0 := by omega
  have d4 : decide (300 < y0) = true := decide_eq_true h4
  clear h
  go_enter Try.func6, Try.ntmps6
  go_wp2_with fail
  refine (works36_any _).mono ?_
  rintro e w1 ⟨rfl, hb⟩
  go_wp2
  go_ret
  exact ⟨rfl, bt (_root_.Go.Proofs.Ytoaagemofjddiaa.bl _ _) hb⟩
theorem walkJoins (v0 v1 v2 v3 v4 : Value) (W : World) (h0 : VSat W (.int .u8) false v0) (h1 : VSat W (.int .u8) false v1) (h2 : VSat W (.slice (.int .i16)) false v2) (h3 : VSat W (.cat (.int .i64) (.cat (.int .i64) (.cat (.int .i64) (.cat (.int .i64) .unit)))) true v3) (h4 : VSat W (.int .u8) false v4) :
    Calls Try.prog 6 #[v0, v1, v2, v3, v4] W fun e W' => e = .returned (.bool true) ∧ Below W.heap.size W W' := by
  obtain ⟨a, rfl, ha⟩ := open_u8 h0
  obtain ⟨b, rfl, hb⟩ := open_u8 h1
  obtain ⟨A, Z, cap, rfl, hr, hz, hc, _, _⟩ := open_i16 h2
  obtain ⟨bx, rfl, _⟩ := open_box h3
  obtain ⟨ct, rfl, hct⟩ := open_u8 h4
  by_cases h : 1000 < Z.length ∨ bx.x0 < 0 ∨ 300 < bx.x0 ∨ bx.y0 < 0 ∨ 300 < bx.y0
  · exact lawJoins_out a b ct A Z.length cap bx h W
  · exact lawJoins_core a b ct ha hb hct A Z Z.length cap bx W hr rfl hc hz h
end Pyr
end Go.Proofs.Ytoaagemofjddiaa
