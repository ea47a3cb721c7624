/-
  The law PyramidFew, walked and joined.
-/
import Derived.Test.YtoaagemofjddiaaPyrL
import Derived.Deep.RegionHeld3
namespace Go.Proofs.Ytoaagemofjddiaa
open Go.RowKit
set_option linter.unusedVariables false
namespace Pyr

set_option maxRecDepth 100000 in
set_option maxHeartbeats 2000000 in
theorem lawFew_out (a b : Nat) (A : Option Addr) (m cap : Nat) (bx : Bo) (h : 1000 < m ∨ bx.x1 < bx.x0 ∨ bx.y1 < bx.y0) (w : World) :
    Calls Try.prog 5 #[.int .u8 (a : Int), .int .u8 (b : Int), .slice A m cap, bov bx] w fun e w' => e = .returned (.bool true) ∧ Below w.heap.size w w' := by
  obtain ⟨x0, y0, x1, y1⟩ := bx
  unfold bov
  dsimp only at h ⊢
  by_cases h1 : 1000 < m
  · have d1 : decide (1000 < (m : Int)) = true := decide_eq_true (by omega)
    clear h
    go_enter Try.func5, Try.ntmps5
    go_wp2_with fail
    refine (works36_any _).mono ?_
    rintro e w1 ⟨rfl, hb⟩
    go_wp2
    go_ret
    exact ⟨rfl, bt (_root_.Go.Proofs.Ytoaagemofjddiaa.bl _ _) hb⟩
  · have d1 : decide (1000 < (m : Int)) = false := decide_eq_false (by omega)
    by_cases h2 : x1 < x0
    · have d2 : decide (x1 < x0) = true := decide_eq_true h2
      clear h
      go_enter Try.func5, Try.ntmps5
      go_wp2_with fail
      refine (works36_any _).mono ?_
      rintro e w1 ⟨rfl, hb⟩
      go_wp2
      go_ret
      exact ⟨rfl, bt (_root_.Go.Proofs.Ytoaagemofjddiaa.bl _ _) hb⟩
    · have d2 : decide (x1 < x0) = false := decide_eq_false h2
      have h3 : y1 < y0 := by omega
      have d3 : decide (y1 < y0) = true := decide_eq_true h3
      clear h
      go_enter Try.func5, Try.ntmps5
      go_wp2_with fail
      refine (works36_any _).mono ?_
      rintro e w1 ⟨rfl, hb⟩
      go_wp2
      go_ret
      exact ⟨rfl, bt (_root_.Go.Proofs.Ytoaagemofjddiaa.bl _ _) hb⟩
set_option maxRecDepth 100000 in
set_option maxHeartbeats 4000000 in
theorem lawFew_core (a b : Nat) (ha : a < 256) (hb : b < 256) (A : Option Addr) (Z : List Int) (m cap : Nat) (bx : Bo) (w : World) (hrd : RdL w 0 w.heap.size A (Z.map zv)) (hl : Z.length = m) (hcap : m ≤ cap) (hz : ∀ x ∈ Z, -32768 ≤ x ∧ x ≤ 32767) (h : ¬ (1000 < m ∨ bx.x1 < bx.x0 ∨ bx.y1 < bx.y0)) :
    Calls Try.prog 5 #[.int .u8 (a : Int), .int .u8 (b : Int), .slice A m cap, bov bx] w fun e w' => e = .returned (.bool true) ∧ Below w.heap.size w w' := by
  have d1 : decide (1000 < (m : Int)) = false := decide_eq_false (by omega)
  have d2 : decide (bx.x1 < bx.x0) = false := decide_eq_false (by omega)
  have d3 : decide (bx.y1 < bx.y0) = false := decide_eq_false (by omega)
  have hb0 := Blk.mk w 46 (boc bx)
  have hbx := _root_.Go.Proofs.Ytoaagemofjddiaa.bl w (.cells (boc bx).toArray 46)
  have hfd := field_any a b ha hb A Z m cap 0 w.heap.size (w.alloc (.cells (boc bx).toArray 46)) (hrd.alloc _) hl (by omega) hcap hz hbx.size
  have hWl := fieldW_le a
  have hHl := fieldW_le b
  have hLl := fieldL_len a b Z
  generalize fieldL a b Z = L at *
  generalize fieldW a = W at *
  generalize fieldW b = H at *
  have hWH := Nat.mul_le_mul hWl.2 hHl.2
  have HLl := Lib.hid hLl
  have HB0 := Lib.hid hb0
  have HBx := Lib.hid hbx
  clear h hrd hl hz hb0 hbx hLl
  obtain ⟨x0, y0, x1, y1⟩ := bx
  unfold bov
  go_enter Try.func5, Try.ntmps5
  go_wp2_with fail
  refine hfd.mono ?_
  rintro e w1 ⟨v, rfl, hown, hbf⟩
  obtain ⟨Af, cf, rfl, hrf, hcf, hmf, hAf⟩ := own_rd hown
  have hB1 := HB0.out.next hbf
  have hK1 := bt HBx.out hbf
  have hs1 := hbf.size
  simp only [World.size_alloc] at hs1
  have hnl : L.length ≤ 1600 := by rw [HLl.out]; omega
  obtain ⟨n, hn⟩ : ∃ n, n = L.length := ⟨_, rfl⟩
  rw [← hn] at hcf hnl ⊢
  have Hn := Lib.hid hn
  have hnew := new_ok W H Af L n cf _ _ _ (hrf.alloc (.cells #[.int .i64 (W : Int), .int .i64 (H : Int), .slice Af n cf] 24)) hn.symm (by rw [hn]; exact HLl.out) hcf (by omega) (by omega) (by omega) (by omega) (by simp)
  have HRf := Lib.hid hrf
  have HB1 := Lib.hid hB1
  have HK1 := Lib.hid hK1
  have HF1 := Lib.hid (Blk.mk w1 24 [.int .i64 (W : Int), .int .i64 (H : Int), .slice Af n cf])
  clear hfd hown hrf hbf hB1 hK1 hn HB0 HBx
  go_wp2_with fail
  refine hnew.mono ?_
  rintro e w2 ⟨top, bp, bl, cl, lvs, rfl, hP, hI, hT, hlen, hbp, hb2⟩
  have hS0 : LN w W H n cf (w.heap.size + 1) w1.heap.size Af L ⟨x0, y0, x1, y1⟩ w.heap.size w1.heap.size bp bl cl 0 lvs w2 := by
    have h1 := hbp
    simp only [World.size_alloc] at h1
    have hb2' := bt (_root_.Go.Proofs.Ytoaagemofjddiaa.bl w1 (.cells #[.int .i64 (W : Int), .int .i64 (H : Int), .slice Af n cf] 24)) hb2
    refine ⟨HB1.out.next hb2', HF1.out.next hb2, ?_, hP, bt HK1.out hb2', by omega, by omega, by omega, by omega⟩
    have := HRf.out.next hb2'
    simpa using this
  have htop := hT.le (by omega) (by omega)
  have hSL := hS0.s
  obtain ⟨_, e0, e1, e2, e3, e4, e5, e6⟩ := hSL
  dsimp only at e0 e1 e2 e3
  have hov := over_any hP hI hT hlen ⟨x0, y0, x1, y1⟩ (by omega) (by omega) (by omega) (by omega)
  obtain ⟨t1, t2⟩ := top_one hT (by omega) (by omega)
  have hvt := vis_top (W := W) (H := H) (b := ⟨x0, y0, x1, y1⟩) t1 t2
  have hsm := seen_most W H ⟨x0, y0, x1, y1⟩ top
  have hqs := fun X => qseen_any W H top n cf Af X hT (by omega) (by omega) (by omega) (by omega) ⟨x0, y0, x1, y1⟩
  have HS0 := Lib.hid hS0
  have HI := Lib.hid hI
  have hML := fun k => most_le W H (by omega) (by omega) k
  have HML := Lib.hid hML
  have hlw := fun k (hk : k < lvs.length) => (⟨HI.out.wd k hk, HI.out.h k hk⟩ : _ ∧ _)
  have HLw := Lib.hid hlw
  obtain ⟨V, hV⟩ : ∃ V, V = visP W H ⟨x0, y0, x1, y1⟩ ⟨top, 0, 0⟩ := ⟨_, rfl⟩
  unfold GotOver at hov
  rw [← hV] at hov hvt
  rw [← hvt] at hqs hsm
  have HSm := Lib.hid hsm
  have hlenI : (lvs.length : Int) = (top : Int) + 1 := by omega
  clear hnew hP hI hT hbp hb2 hS0 hvt hsm hML hlw HF1 HB1 HRf HK1 t1 t2 hV
  go_wp2_with fail
  refine hov.mono ?_
  rintro e w3 ⟨rfl, hP3, hg3⟩
  have S3 := Lib.hid (HS0.out.over hP3 hg3)
  clear hov hP3 hg3 e0 e1 e2 e3 e4 e5 e6 HS0
  go_wp2
  go_loopw [12, 13] (fun mm kk wr => ∃ (k M : Nat), k ≤ top ∧ kk = .int .i64 ((k : Int) + 1) ∧ mm = .int .i64 (M : Int) ∧ M = most W H k ∧ LN w W H n cf (w.heap.size + 1) w1.heap.size Af L ⟨x0, y0, x1, y1⟩ w.heap.size w1.heap.size bp bl cl V lvs wr) (fun _ kk _ => top + 1 - (intOf kk).toNat)
  case atStart => exact ⟨0, 1, Nat.zero_le _, rfl, rfl, rfl, S3.out⟩
  case round =>
    clear S3
    obtain ⟨k, M, hk, rfl, rfl, hM, S⟩ := hrel
    have hMl := HML.out k
    rw [← hM] at hMl
    have HM := Lib.hid hM
    have HS := Lib.hid S
    have hlv := levels_any S.ps
    clear hM S
    by_cases hlt : k < top
    · have hltI : (k : Int) + 1 < (top : Int) + 1 := by omega
      have hk1 : lvs[k + 1]? = some lvs[k + 1] := List.getElem?_eq_getElem (by omega)
      obtain ⟨hw1, hh1⟩ := HLw.out (k + 1) (by omega)
      have hsd := side_in HS.out.ps hk1
      rw [hw1, hh1] at hsd
      have hc1 : (((k + 1 : Nat)) : Int) = (k : Int) + 1 := by omega
      rw [hc1] at hsd
      have hmo : most W H (k + 1) = most W H k + 8 * side W (k + 1) + 8 * side H (k + 1) := rfl
      have b1 := side_self2 W (k + 1)
      have b2 := side_self2 H (k + 1)
      generalize side W (k + 1) = p at *
      generalize side H (k + 1) = q at *
      have HMo := Lib.hid hmo
      have y1 : IntKind.i64.wrap (8 * (p : Int)) = 8 * (p : Int) := IntWalk.i64_in _ (by omega)
      have y2 : IntKind.i64.wrap (8 * (q : Int)) = 8 * (q : Int) := IntWalk.i64_in _ (by omega)
      have y3 : IntKind.i64.wrap ((M : Int) + 8 * (p : Int)) = (M : Int) + 8 * (p : Int) := IntWalk.i64_in _ (by omega)
      have y4 : IntKind.i64.wrap ((M : Int) + 8 * (p : Int) + 8 * (q : Int)) = (M : Int) + 8 * (p : Int) + 8 * (q : Int) := IntWalk.i64_in _ (by omega)
      have y5 : IntKind.i64.wrap ((k : Int) + 1 + 1) = (k : Int) + 1 + 1 := IntWalk.i64_in _ (by omega)
      clear hmo hw1 hh1 hk1 hc1
      go_wp2_with fail
      refine hlv.mono ?_
      rintro e w4 ⟨rfl, rfl⟩
      clear hlv
      go_wp2_with fail
      refine hsd.mono ?_
      rintro e w4 ⟨rfl, dq, rfl⟩
      go_wp2
      go_roundw
      case rel => exact ⟨k + 1, M + 8 * p + 8 * q, by omega, by go_num, by go_num, by rw [HMo.out, HM.out], HS.out.drewN _⟩
      case measure => simp [intOf]; omega
    · obtain rfl : k = top := by omega
      have hge : ¬ (k : Int) + 1 < (k : Int) + 1 := by omega
      have hVM : V ≤ M := by rw [HM.out]; exact HSm.out
      have d4 : decide ((V : Int) ≤ (M : Int)) = true := decide_eq_true (by omega)
      have d4' : decide (V ≤ M) = true := decide_eq_true hVM
      clear HML HM
      go_wp2_with fail
      refine hlv.mono ?_
      rintro e w4 ⟨rfl, rfl⟩
      clear hlv
      go_wp2_with fail
      go_region_held3 (fun w' => LN w W H n cf (w.heap.size + 1) w1.heap.size Af L ⟨x0, y0, x1, y1⟩ w.heap.size w1.heap.size bp bl cl V lvs w' ∧ w'.cell? ⟨w.heap.size, 0, Option.none⟩ = some (.int .i64 x0) ∧ w'.cell? ⟨w.heap.size, 1, Option.none⟩ = some (.int .i64 y0) ∧ w'.cell? ⟨w.heap.size, 2, Option.none⟩ = some (.int .i64 x1) ∧ w'.cell? ⟨w.heap.size, 3, Option.none⟩ = some (.int .i64 y1) ∧ w'.cell? ⟨w1.heap.size, 0, Option.none⟩ = some (.int .i64 (W : Int)) ∧ w'.cell? ⟨w1.heap.size, 1, Option.none⟩ = some (.int .i64 (H : Int)) ∧ w'.cell? ⟨w1.heap.size, 2, Option.none⟩ = some (.slice Af n cf))
        (first
          | exact HS.out.drew.s
          | assumption
          | exact (LN.next (And.left ‹LN _ _ _ _ _ _ _ _ _ _ _ _ _ _ _ _ _ _ ∧ _›) (by assumption)).s)
        (first
          | (go_at_call 24; (with_reducible refine (seen_any (And.left ‹LN _ _ _ _ _ _ _ _ _ _ _ _ _ _ _ _ _ _ ∧ _›).ps).mono ?_); rintro e w' ⟨rfl, rfl⟩)
          | (go_at_call 25; (with_reducible refine (hqs _).mono ?_); rintro e w' ⟨rfl, hb⟩)
          | (go_at_call 11; (with_reducible refine (works36_any _).mono ?_); rintro e w' ⟨rfl, hb⟩))
      have hS := And.left ‹LN _ _ _ _ _ _ _ _ _ _ _ _ _ _ _ _ _ _ ∧ _›
      go_wp2
      go_ret
      exact ⟨rfl, hS.keep⟩
theorem walkFew (v0 v1 v2 v3 : Value) (W : World) (h0 : VSat W (.int .u8) false v0) (h1 : VSat W (.int .u8) false v1) (h2 : VSat W (.slice (.int .i16)) false v2) (h3 : VSat W (.cat (.int .i64) (.cat (.int .i64) (.cat (.int .i64) (.cat (.int .i64) .unit)))) true v3) :
    Calls Try.prog 5 #[v0, v1, v2, v3] W fun e W' => e = .returned (.bool true) ∧ Below W.heap.size W W' := by
  obtain ⟨a, rfl, ha⟩ := open_u8 h0
  obtain ⟨b, rfl, hb⟩ := open_u8 h1
  obtain ⟨A, Z, cap, rfl, hr, hz, hc, _, _⟩ := open_i16 h2
  obtain ⟨bx, rfl, _⟩ := open_box h3
  by_cases h : 1000 < Z.length ∨ bx.x1 < bx.x0 ∨ bx.y1 < bx.y0
  · exact lawFew_out a b A Z.length cap bx h W
  · exact lawFew_core a b ha hb A Z Z.length cap bx W hr rfl hc hz h
end Pyr
end Go.Proofs.Ytoaagemofjddiaa
