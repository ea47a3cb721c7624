/-
  The law PyramidOver, walked and joined.
-/
import Derived.Test.YtoaagemofjddiaaPyrL
import Derived.Deep.RegionHeld3
namespace Go.Proofs.Ytoaagemofjddiaa
open Go.RowKit
set_option linter.unusedVariables false
namespace Pyr

theorem cell_same (c : Ce) (w : World) : (binOp .eql 38 (.agg #[.int .i16 c.lo, .int .i16 c.hi, .int .i64 (c.n : Int)]) (.agg #[.int .i16 c.lo, .int .i16 c.hi, .int .i64 (c.n : Int)])).run Try.prog w = .ok (.bool true) w := by
  simp [go_sem]
theorem cell_same' (c : Ce) (w : World) : (binOp .neq 38 (.agg #[.int .i16 c.lo, .int .i16 c.hi, .int .i64 (c.n : Int)]) (.agg #[.int .i16 c.lo, .int .i16 c.hi, .int .i64 (c.n : Int)])).run Try.prog w = .ok (.bool false) w := by
  simp [go_sem]
/-- .. and boxes besides -/
structure LM (w : World) (W H n cap lo hi : Nat) (A : Option Addr) (L : List Int) (bx : Bo) (gb gf bp bl cl : Nat) (lvs : List Lv) (A2 : Option Addr) (M : List Bo) (wr : World) : Prop where
  ln : ∃ sn, LN w W H n cap lo hi A L bx gb gf bp bl cl sn lvs wr
  rm : RdL wr 0 w.heap.size A2 (M.flatMap boc)
section
variable {w wr w' : World} {W H n cap lo hi : Nat} {A A2 : Option Addr} {L : List Int} {M : List Bo} {bx : Bo} {gb gf bp bl cl : Nat} {lvs : List Lv}
theorem LM.next (S : LM w W H n cap lo hi A L bx gb gf bp bl cl lvs A2 M wr) (hb : Below wr.heap.size wr w') : LM w W H n cap lo hi A L bx gb gf bp bl cl lvs A2 M w' := by
  obtain ⟨⟨sn, S1⟩, S2⟩ := S
  exact ⟨⟨sn, S1.next hb⟩, S2.next hb⟩
theorem LM.drew (S : LM w W H n cap lo hi A L bx gb gf bp bl cl lvs A2 M wr) : LM w W H n cap lo hi A L bx gb gf bp bl cl lvs A2 M wr.drew := by
  obtain ⟨⟨sn, S1⟩, S2⟩ := S
  exact ⟨⟨sn, S1.drew⟩, S2.drew⟩
theorem LM.over {sn' : Nat} (S : LM w W H n cap lo hi A L bx gb gf bp bl cl lvs A2 M wr) (hP : PS w' bp bl cl lvs sn') (hg : wr.grownBy w' (some bp)) : LM w W H n cap lo hi A L bx gb gf bp bl cl lvs A2 M w' := by
  obtain ⟨⟨sn, S1⟩, S2⟩ := S
  exact ⟨⟨sn', S1.over hP hg⟩, S2.grown hg (fun g e => .inr (by have := Option.some.inj e; have := S1.ge; omega))⟩
theorem LM.s (S : LM w W H n cap lo hi A L bx gb gf bp bl cl lvs A2 M wr) : LM w W H n cap lo hi A L bx gb gf bp bl cl lvs A2 M wr ∧
    wr.cell? ⟨gb, 0, Option.none⟩ = some (.int .i64 bx.x0) ∧ wr.cell? ⟨gb, 1, Option.none⟩ = some (.int .i64 bx.y0) ∧ wr.cell? ⟨gb, 2, Option.none⟩ = some (.int .i64 bx.x1) ∧ wr.cell? ⟨gb, 3, Option.none⟩ = some (.int .i64 bx.y1) ∧
    wr.cell? ⟨gf, 0, Option.none⟩ = some (.int .i64 (W : Int)) ∧ wr.cell? ⟨gf, 1, Option.none⟩ = some (.int .i64 (H : Int)) ∧ wr.cell? ⟨gf, 2, Option.none⟩ = some (.slice A n cap) := by
  have S' := S
  obtain ⟨⟨sn, S1⟩, S2⟩ := S
  exact ⟨S', S1.s.2⟩
theorem LM.s2 {b2 o2 i : Nat} {y : Bo} (S : LM w W H n cap lo hi A L bx gb gf bp bl cl lvs (some ⟨b2, o2, Option.none⟩) M wr) (h : M[i]? = some y) : LM w W H n cap lo hi A L bx gb gf bp bl cl lvs (some ⟨b2, o2, Option.none⟩) M wr ∧
    wr.cell? ⟨b2, o2 + i * 4, Option.none⟩ = some (.int .i64 y.x0) ∧ wr.cell? ⟨b2, o2 + i * 4 + 1, Option.none⟩ = some (.int .i64 y.y0) ∧ wr.cell? ⟨b2, o2 + i * 4 + 2, Option.none⟩ = some (.int .i64 y.x1) ∧ wr.cell? ⟨b2, o2 + i * 4 + 3, Option.none⟩ = some (.int .i64 y.y1) ∧
    wr.cell? ⟨gf, 0, Option.none⟩ = some (.int .i64 (W : Int)) ∧ wr.cell? ⟨gf, 1, Option.none⟩ = some (.int .i64 (H : Int)) ∧ wr.cell? ⟨gf, 2, Option.none⟩ = some (.slice A n cap) := by
  have S' := S
  obtain ⟨⟨sn, S1⟩, S2⟩ := S
  obtain ⟨hi', rfl⟩ := List.getElem?_eq_some_iff.1 h
  have hc := S2.elem boc 4 (fun _ => rfl) hi'
  exact ⟨S', hc 0 _ (by decide) rfl, hc 1 _ (by decide) rfl, hc 2 _ (by decide) rfl, hc 3 _ (by decide) rfl, S1.s.2.2.2.2.2⟩
end
set_option maxRecDepth 100000 in
set_option maxHeartbeats 2000000 in
theorem lawOver_out (a b : Nat) (A A2 : Option Addr) (m cap m2 cap2 : Nat) (bx : Bo) (h : 1000 < m ∨ 30 < m2) (w : World) :
    Calls Try.prog 4 #[.int .u8 (a : Int), .int .u8 (b : Int), .slice A m cap, bov bx, .slice A2 m2 cap2] w fun e w' => e = .returned (.bool true) ∧ Below w.heap.size w w' := by
  obtain ⟨x0, y0, x1, y1⟩ := bx
  unfold bov
  dsimp only at h ⊢
  by_cases h1 : 1000 < m
  · have d1 : decide (1000 < (m : Int)) = true := decide_eq_true (by omega)
    clear h
    go_enter Try.func4, Try.ntmps4
    go_wp2_with fail
    refine (works36_any _).mono ?_
    rintro e w1 ⟨rfl, hb⟩
    go_wp2
    go_ret
    exact ⟨rfl, bt (_root_.Go.Proofs.Ytoaagemofjddiaa.bl _ _) hb⟩
  · have d1 : decide (1000 < (m : Int)) = false := decide_eq_false (by omega)
    have h2 : 30 < m2 := by omega
    have d2 : decide (30 < (m2 : Int)) = true := decide_eq_true (by omega)
    clear h
    go_enter Try.func4, Try.ntmps4
    go_wp2_with fail
    refine (works36_any _).mono ?_
    rintro e w1 ⟨rfl, hb⟩
    go_wp2
    go_ret
    exact ⟨rfl, bt (_root_.Go.Proofs.Ytoaagemofjddiaa.bl _ _) hb⟩
set_option maxRecDepth 100000 in
set_option maxHeartbeats 6000000 in
theorem lawOver_core (a b : Nat) (ha : a < 256) (hb : b < 256) (A A2 : Option Addr) (Z : List Int) (M : List Bo) (m cap m2 cap2 : Nat) (bx : Bo) (w : World) (hrd : RdL w 0 w.heap.size A (Z.map zv)) (hl : Z.length = m) (hcap : m ≤ cap) (hz : ∀ x ∈ Z, -32768 ≤ x ∧ x ≤ 32767) (hrd2 : RdL w 0 w.heap.size A2 (M.flatMap boc)) (hl2 : M.length = m2) (hcap2 : m2 ≤ cap2) (h : ¬ (1000 < m ∨ 30 < m2)) :
    Calls Try.prog 4 #[.int .u8 (a : Int), .int .u8 (b : Int), .slice A m cap, bov bx, .slice A2 m2 cap2] w fun e w' => e = .returned (.bool true) ∧ Below w.heap.size w w' := by
  have d1 : decide (1000 < (m : Int)) = false := decide_eq_false (by omega)
  have d2 : decide (30 < (m2 : Int)) = false := decide_eq_false (by omega)
  have hb0 := Blk.mk w 46 (boc bx)
  have hbx := _root_.Go.Proofs.Ytoaagemofjddiaa.bl w (.cells (boc bx).toArray 46)
  have hfd := field_any a b ha hb A Z m cap 0 w.heap.size (w.alloc (.cells (boc bx).toArray 46)) (hrd.alloc _) hl (by omega) hcap hz hbx.size
  have hWl := fieldW_le a
  have hHl := fieldW_le b
  have hLl := fieldL_len a b Z
  generalize fieldL a b Z = L at *
  generalize fieldW a = W at *
  generalize fieldW b = H at *
  have hWH := Nat.mul_le_mul hWl.2 hHl.2
  have HLl := Lib.hid hLl
  have HB0 := Lib.hid hb0
  have HBx := Lib.hid hbx
  have HM0 := Lib.hid (hrd2.alloc (.cells (boc bx).toArray 46))
  have Hl2 := Lib.hid hl2
  have h30 : m2 ≤ 30 := by omega
  clear h hrd hl hz hb0 hbx hLl hrd2 hl2
  obtain ⟨x0, y0, x1, y1⟩ := bx
  unfold bov
  go_enter Try.func4, Try.ntmps4
  go_wp2_with fail
  refine hfd.mono ?_
  rintro e w1 ⟨v, rfl, hown, hbf⟩
  obtain ⟨Af, cf, rfl, hrf, hcf, hmf, hAf⟩ := own_rd hown
  have hB1 := HB0.out.next hbf
  have hK1 := bt HBx.out hbf
  have hM1 := HM0.out.next hbf
  have hs1 := hbf.size
  simp only [World.size_alloc] at hs1
  have hnl : L.length ≤ 1600 := by rw [HLl.out]; omega
  obtain ⟨n, hn⟩ : ∃ n, n = L.length := ⟨_, rfl⟩
  rw [← hn] at hcf hnl ⊢
  have hnWH : n = W * H := by rw [hn]; exact HLl.out
  have Hn := Lib.hid hn
  have HnWH := Lib.hid hnWH
  have hnew := new_ok W H Af L n cf _ _ _ (hrf.alloc (.cells #[.int .i64 (W : Int), .int .i64 (H : Int), .slice Af n cf] 24)) hn.symm hnWH hcf (by omega) (by omega) (by omega) (by omega) (by simp)
  have HRf := Lib.hid hrf
  have HB1 := Lib.hid hB1
  have HK1 := Lib.hid hK1
  have HM1 := Lib.hid hM1
  have HF1 := Lib.hid (Blk.mk w1 24 [.int .i64 (W : Int), .int .i64 (H : Int), .slice Af n cf])
  clear hfd hown hrf hbf hB1 hK1 hn HB0 HBx hM1 HM0 hnWH
  go_wp2_with fail
  refine hnew.mono ?_
  rintro e w2 ⟨top, bp, bl, cl, lvs, rfl, hP, hI, hT, hlen, hbp, hb2⟩
  have hb2' := bt (_root_.Go.Proofs.Ytoaagemofjddiaa.bl w1 (.cells #[.int .i64 (W : Int), .int .i64 (H : Int), .slice Af n cf] 24)) hb2
  have hS0 : LN w W H n cf (w.heap.size + 1) w1.heap.size Af L ⟨x0, y0, x1, y1⟩ w.heap.size w1.heap.size bp bl cl 0 lvs w2 := by
    have h1 := hbp
    simp only [World.size_alloc] at h1
    refine ⟨HB1.out.next hb2', HF1.out.next hb2, ?_, hP, bt HK1.out hb2', by omega, by omega, by omega, by omega⟩
    have := HRf.out.next hb2'
    simpa using this
  have hS1 : LM w W H n cf (w.heap.size + 1) w1.heap.size Af L ⟨x0, y0, x1, y1⟩ w.heap.size w1.heap.size bp bl cl lvs A2 M w2 := ⟨⟨0, hS0⟩, HM1.out.next hb2'⟩
  have hov := fun (c : Bo) X sn (S : PS X bp bl cl lvs sn) => over_any S hI hT hlen c (by omega) (by omega) (by omega) (by omega)
  unfold GotOver overC at hov
  rw [← HnWH.out] at hov
  have hof := fun (c : Bo) X (h : RdL X (w.heap.size + 1) w1.heap.size Af (L.map zv)) (h2 : w1.heap.size ≤ X.heap.size) => qof_any W H Af L n cf (w.heap.size + 1) w1.heap.size X h Hn.out.symm hcf (by omega) (by omega) (by omega) h2 c
  obtain ⟨oc, hoc⟩ : ∃ oc : Bo → Ce, oc = fun c => ofF (fun i => L.getD i 0) (fun i => nv (fun i => L.getD i 0) i && meant W c i) n := ⟨_, rfl⟩
  have hov2 : ∀ (c : Bo) X sn, PS X bp bl cl lvs sn → Calls Try.prog 22 #[.pointer (some ⟨bp, 0, Option.none⟩), bov c] X fun e w' => e = .returned (cev (oc c)) ∧ PS w' bp bl cl lvs (visP W H c ⟨top, 0, 0⟩) ∧ X.grownBy w' (some bp) := by rw [hoc]; exact hov
  have hof2 : ∀ (c : Bo) X, RdL X (w.heap.size + 1) w1.heap.size Af (L.map zv) → w1.heap.size ≤ X.heap.size → Calls Try.prog 23 #[.agg #[.int .i64 (W : Int), .int .i64 (H : Int), .slice Af n cf], .int .i64 c.x0, .int .i64 c.y0, .int .i64 c.x1, .int .i64 c.y1] X fun e w' => e = .returned (cev (oc c)) ∧ Below X.heap.size X w' := by rw [hoc]; exact hof
  have hsz2 : w1.heap.size ≤ w2.heap.size := by have := hb2'.size; omega
  have HS1 := Lib.hid hS1
  clear hnew hP hI hT hbp hb2 hb2' hS0 hS1 hov hof hoc HF1 HB1 HRf HK1 HM1 hlen
  go_wp2
  go_loopw [14] (fun kk wr => ∃ k : Nat, k ≤ m2 ∧ kk = .int .i64 (k : Int) ∧ LM w W H n cf (w.heap.size + 1) w1.heap.size Af L ⟨x0, y0, x1, y1⟩ w.heap.size w1.heap.size bp bl cl lvs A2 M wr ∧ w1.heap.size ≤ wr.heap.size) (fun kk _ => m2 - (intOf kk).toNat)
  case atStart => exact ⟨0, Nat.zero_le _, rfl, HS1.out, hsz2⟩
  case round =>
    clear HS1
    obtain ⟨k, hk, rfl, S, hszr⟩ := hrel
    have HS := Lib.hid S
    have HZr := Lib.hid hszr
    clear S hszr
    by_cases hlt : k < m2
    · have hltI : (k : Int) < (m2 : Int) := by omega
      have hkM : k < M.length := by rw [Hl2.out]; exact hlt
      have hyk : M[k]? = some M[k] := List.getElem?_eq_getElem hkM
      generalize M[k] = y at *
      have hov3 := fun X sn S => hov2 y X sn S
      have hof3 := fun X h h2 => hof2 y X h h2
      have hcs := cell_same' (oc y)
      have hwn := fun X => own_any (oc y) X
      generalize oc y = c at *
      obtain ⟨b2, o2, rfl, _, _, _, _⟩ := HS.out.rm.some (by rw [flatMap_len boc 4 (fun _ => rfl)]; omega)
      have hS2 := HS.out.drew.s2 hyk
      have HS2 := Lib.hid hS2
      have HYk := Lib.hid hyk
      obtain ⟨p0, q0, p1, q1⟩ := y
      unfold bov at hov3
      unfold cev at hov3 hof3 hwn
      dsimp only at hS2 hov3 hof3
      clear hS2 hyk hkM
      go_wp2_with fail
      go_region_held3 (fun w' => (LM w W H n cf (w.heap.size + 1) w1.heap.size Af L ⟨x0, y0, x1, y1⟩ w.heap.size w1.heap.size bp bl cl lvs (some ⟨b2, o2, Option.none⟩) M w' ∧ w1.heap.size ≤ w'.heap.size) ∧ w'.cell? ⟨b2, o2 + k * 4, Option.none⟩ = some (.int .i64 p0) ∧ w'.cell? ⟨b2, o2 + k * 4 + 1, Option.none⟩ = some (.int .i64 q0) ∧ w'.cell? ⟨b2, o2 + k * 4 + 2, Option.none⟩ = some (.int .i64 p1) ∧ w'.cell? ⟨b2, o2 + k * 4 + 3, Option.none⟩ = some (.int .i64 q1) ∧ w'.cell? ⟨w1.heap.size, 0, Option.none⟩ = some (.int .i64 (W : Int)) ∧ w'.cell? ⟨w1.heap.size, 1, Option.none⟩ = some (.int .i64 (H : Int)) ∧ w'.cell? ⟨w1.heap.size, 2, Option.none⟩ = some (.slice Af n cf))
        (first
          | exact ⟨⟨HS2.out.1, HZr.out⟩, HS2.out.2⟩
          | assumption
          | (have hX := And.left ‹(LM _ _ _ _ _ _ _ _ _ _ _ _ _ _ _ _ _ _ _ ∧ _) ∧ _›; exact ⟨⟨hX.1.next (by assumption), Nat.le_trans hX.2 (Below.size (by assumption))⟩, (LM.s2 (hX.1.next (by assumption)) HYk.out).2⟩)
          | (have hX := And.left ‹(LM _ _ _ _ _ _ _ _ _ _ _ _ _ _ _ _ _ _ _ ∧ _) ∧ _›; exact ⟨⟨hX.1.over (by assumption) (by assumption), Nat.le_trans hX.2 (World.grownBy.size (by assumption))⟩, (LM.s2 (hX.1.over (by assumption) (by assumption)) HYk.out).2⟩))
        (first
          | (go_at_call 22; obtain ⟨sn0, hS0⟩ := LM.ln (And.left (And.left ‹(LM _ _ _ _ _ _ _ _ _ _ _ _ _ _ _ _ _ _ _ ∧ _) ∧ _›)); (with_reducible refine (hov3 _ sn0 hS0.ps).mono ?_); rintro e w' ⟨rfl, hP, hg⟩; clear hS0)
          | (go_at_call 23; obtain ⟨sn0, hS0⟩ := LM.ln (And.left (And.left ‹(LM _ _ _ _ _ _ _ _ _ _ _ _ _ _ _ _ _ _ _ ∧ _) ∧ _›)); (with_reducible refine (hof3 _ hS0.rd (And.right (And.left ‹(LM _ _ _ _ _ _ _ _ _ _ _ _ _ _ _ _ _ _ _ ∧ _) ∧ _›))).mono ?_); rintro e w' ⟨rfl, hb⟩; clear hS0)
          | (go_at_call 20; (with_reducible refine (hwn _).mono ?_); rintro e w' ⟨rfl, hb⟩))
      have hX := And.left ‹(LM _ _ _ _ _ _ _ _ _ _ _ _ _ _ _ _ _ _ _ ∧ _) ∧ _›
      have HX := Lib.hid hX
      clear hX
      go_wp2
      go_roundw
      case rel => exact ⟨k + 1, by omega, by go_num, HX.out.1, HX.out.2⟩
      case measure => simp [intOf]; omega
    · obtain rfl : k = m2 := by omega
      have hge : ¬ (k : Int) < (k : Int) := by omega
      have hov3 := fun X sn S => hov2 ⟨x0, y0, x1, y1⟩ X sn S
      have hof3 := fun X h h2 => hof2 ⟨x0, y0, x1, y1⟩ X h h2
      have hcs := cell_same (oc ⟨x0, y0, x1, y1⟩)
      have hwn := fun X => own_any (oc ⟨x0, y0, x1, y1⟩) X
      generalize oc ⟨x0, y0, x1, y1⟩ = c at *
      unfold bov at hov3
      unfold cev at hov3 hof3 hwn
      dsimp only at hov3 hof3
      have HS2 := Lib.hid HS.out.drew.s
      go_wp2_with fail
      go_region_held3 (fun w' => (LM w W H n cf (w.heap.size + 1) w1.heap.size Af L ⟨x0, y0, x1, y1⟩ w.heap.size w1.heap.size bp bl cl lvs A2 M w' ∧ w1.heap.size ≤ w'.heap.size) ∧ w'.cell? ⟨w.heap.size, 0, Option.none⟩ = some (.int .i64 x0) ∧ w'.cell? ⟨w.heap.size, 1, Option.none⟩ = some (.int .i64 y0) ∧ w'.cell? ⟨w.heap.size, 2, Option.none⟩ = some (.int .i64 x1) ∧ w'.cell? ⟨w.heap.size, 3, Option.none⟩ = some (.int .i64 y1) ∧ w'.cell? ⟨w1.heap.size, 0, Option.none⟩ = some (.int .i64 (W : Int)) ∧ w'.cell? ⟨w1.heap.size, 1, Option.none⟩ = some (.int .i64 (H : Int)) ∧ w'.cell? ⟨w1.heap.size, 2, Option.none⟩ = some (.slice Af n cf))
        (first
          | exact ⟨⟨HS2.out.1, HZr.out⟩, HS2.out.2⟩
          | assumption
          | (have hX := And.left ‹(LM _ _ _ _ _ _ _ _ _ _ _ _ _ _ _ _ _ _ _ ∧ _) ∧ _›; exact ⟨⟨hX.1.next (by assumption), Nat.le_trans hX.2 (Below.size (by assumption))⟩, (LM.s (hX.1.next (by assumption))).2⟩)
          | (have hX := And.left ‹(LM _ _ _ _ _ _ _ _ _ _ _ _ _ _ _ _ _ _ _ ∧ _) ∧ _›; exact ⟨⟨hX.1.over (by assumption) (by assumption), Nat.le_trans hX.2 (World.grownBy.size (by assumption))⟩, (LM.s (hX.1.over (by assumption) (by assumption))).2⟩))
        (first
          | (go_at_call 22; obtain ⟨sn0, hS0⟩ := LM.ln (And.left (And.left ‹(LM _ _ _ _ _ _ _ _ _ _ _ _ _ _ _ _ _ _ _ ∧ _) ∧ _›)); (with_reducible refine (hov3 _ sn0 hS0.ps).mono ?_); rintro e w' ⟨rfl, hP, hg⟩; clear hS0)
          | (go_at_call 23; obtain ⟨sn0, hS0⟩ := LM.ln (And.left (And.left ‹(LM _ _ _ _ _ _ _ _ _ _ _ _ _ _ _ _ _ _ _ ∧ _) ∧ _›)); (with_reducible refine (hof3 _ hS0.rd (And.right (And.left ‹(LM _ _ _ _ _ _ _ _ _ _ _ _ _ _ _ _ _ _ _ ∧ _) ∧ _›))).mono ?_); rintro e w' ⟨rfl, hb⟩; clear hS0)
          | (go_at_call 20; (with_reducible refine (hwn _).mono ?_); rintro e w' ⟨rfl, hb⟩)
          | (go_at_call 11; (with_reducible refine (works36_any _).mono ?_); rintro e w' ⟨rfl, hb⟩))
      have hX := And.left ‹(LM _ _ _ _ _ _ _ _ _ _ _ _ _ _ _ _ _ _ _ ∧ _) ∧ _›
      obtain ⟨sn9, hS9⟩ := hX.1.ln
      have HX := Lib.hid hS9.keep
      clear hX hS9
      go_wp2
      go_ret
      exact ⟨rfl, HX.out⟩
theorem walkOver (v0 v1 v2 v3 v4 : Value) (W : World) (h0 : VSat W (.int .u8) false v0) (h1 : VSat W (.int .u8) false v1) (h2 : VSat W (.slice (.int .i16)) false v2) (h3 : VSat W (.cat (.int .i64) (.cat (.int .i64) (.cat (.int .i64) (.cat (.int .i64) .unit)))) true v3) (h4 : VSat W (.slice (.cat (.int .i64) (.cat (.int .i64) (.cat (.int .i64) (.cat (.int .i64) .unit))))) false v4) :
    Calls Try.prog 4 #[v0, v1, v2, v3, v4] W fun e W' => e = .returned (.bool true) ∧ Below W.heap.size W W' := by
  obtain ⟨a, rfl, ha⟩ := open_u8 h0
  obtain ⟨b, rfl, hb⟩ := open_u8 h1
  obtain ⟨A, Z, cap, rfl, hr, hz, hc, _, _⟩ := open_i16 h2
  obtain ⟨bx, rfl, _⟩ := open_box h3
  obtain ⟨A2, M, cap2, rfl, hr2, _, hc2, _, _⟩ := open_slice_of boc (fun _ => True) BoSh 4 rfl (fun _ => rfl) (by decide) (fun cs hs => by
    obtain ⟨bx, rfl, _⟩ := open_bo hs
    exact ⟨bx, rfl, trivial⟩) h4
  by_cases h : 1000 < Z.length ∨ 30 < M.length
  · exact lawOver_out a b A A2 Z.length cap M.length cap2 bx h W
  · exact lawOver_core a b ha hb A A2 Z M Z.length cap M.length cap2 bx W hr rfl hc hz hr2 rfl hc2 h
end Pyr
end Go.Proofs.Ytoaagemofjddiaa
