/-
  The law RouteLeast, walked and joined.
-/
import Derived.Test.YtgncngpgodfijaaRouL5
namespace Go.Proofs.Ytgncngpgodfijaa
open Go.RowKit
set_option linter.unusedVariables false
namespace Rou
set_option maxRecDepth 100000 in
theorem lawLeast_out (a b c1 c2 : Nat) (A B : Option Addr) (m cap mm cl : Nat) (h : 200 < m ∨ 200 < mm) (w : World) :
    Calls Try.prog 12 #[.int .u8 (a : Int), .int .u8 (b : Int), .slice A m cap, .int .u8 (c1 : Int), .int .u8 (c2 : Int), .slice B mm cl] w (LawEnd w) := by
  by_cases h1 : 200 < m
  · have d1 : decide (200 < (m : Int)) = true := decide_eq_true (by omega)
    clear h
    go_enter Try.func12, Try.ntmps12
    go_wp2_with fail
    refine (works39_any _).mono ?_
    rintro e w1 ⟨rfl, hb⟩
    go_wp2
    go_ret
    exact ⟨rfl, hb⟩
  · have d1 : decide (200 < (m : Int)) = false := decide_eq_false (by omega)
    have d2 : decide (200 < (mm : Int)) = true := decide_eq_true (by omega)
    clear h
    go_enter Try.func12, Try.ntmps12
    go_wp2_with fail
    refine (works39_any _).mono ?_
    rintro e w1 ⟨rfl, hb⟩
    go_wp2
    go_ret
    exact ⟨rfl, hb⟩
set_option maxRecDepth 100000 in
set_option maxHeartbeats 4000000 in
theorem lawLeast_core (a b c1 c2 : Nat) (ha : a < 256) (hb : b < 256) (hc1 : c1 < 256) (hc2 : c2 < 256) (A0 : Option Addr) (Z : List Int) (m cap0 : Nat) (M : Option Addr) (Mv : List Nat) (mm cl : Nat) (w : World) (hrd : RdL w 0 w.heap.size A0 (Z.map zv16)) (hl : Z.length = m) (hz : ∀ x ∈ Z, -32768 ≤ x ∧ x ≤ 32767) (hm : m ≤ 200)
    (hmv : RdL w 0 w.heap.size M (Mv.map bv8)) (hml : Mv.length = mm) (hm2 : mm ≤ 200) (hm8 : ∀ x ∈ Mv, x < 256) :
    Calls Try.prog 12 #[.int .u8 (a : Int), .int .u8 (b : Int), .slice A0 m cap0, .int .u8 (c1 : Int), .int .u8 (c2 : Int), .slice M mm cl] w (LawEnd w) := by
  obtain ⟨i0, hi0, hz0, hz1, hz2⟩ := info_parts infoInt
  have d1 : decide (200 < (m : Int)) = false := decide_eq_false (by omega)
  have d2 : decide (200 < (mm : Int)) = false := decide_eq_false (by omega)
  have hmade := made_any a b ha hb A0 Z m cap0 0 w.heap.size w hrd hl (by omega) (Nat.le_refl _) hz
  have hok := made_ok a b Z hz
  have hbg := hok.big
  have hln := hok.len
  have hW : madeW a ≤ 12 := by unfold madeW; omega
  have hH : madeW b ≤ 12 := by unfold madeW; omega
  have hWH := Nat.mul_le_mul hW hH
  generalize madeL a b Z = C at *
  generalize madeW a = W at *
  generalize madeW b = H at *
  obtain ⟨n, hn⟩ : ∃ n, n = C.length := ⟨_, rfl⟩
  have hnV : n = W * H := hn.trans hln
  have hn1 : 1 ≤ n := by omega
  have hn2 : n ≤ 144 := by omega
  obtain ⟨s1, hs1⟩ : ∃ s, s = c1 % n := ⟨_, rfl⟩
  obtain ⟨s2, hs2⟩ : ∃ s, s = c2 % n := ⟨_, rfl⟩
  have hsn1 : s1 < n := by rw [hs1]; exact Nat.mod_lt _ hn1
  have hsn2 : s2 < n := by rw [hs2]; exact Nat.mod_lt _ hn1
  have t1 : (c1 : Int).tmod (n : Int) = (s1 : Int) := by rw [tmodN, hs1]
  have t2 : (c2 : Int).tmod (n : Int) = (s2 : Int) := by rw [tmodN, hs2]
  have wc1 : IntKind.i64.wrap (c1 : Int) = (c1 : Int) := IntWalk.i64_in _ (by omega)
  have wc2 : IntKind.i64.wrap (c2 : Int) = (c2 : Int) := IntWalk.i64_in _ (by omega)
  have ws1 : IntKind.i64.wrap (s1 : Int) = (s1 : Int) := IntWalk.i64_in _ (by omega)
  have ws2 : IntKind.i64.wrap (s2 : Int) = (s2 : Int) := IntWalk.i64_in _ (by omega)
  have nz : ((n : Int) == 0) = false := by rw [beq_eq_false_iff_ne]; omega
  have nz2 : (n : Int) ≠ 0 := by omega
  have nz3 : n ≠ 0 := by omega
  have HOK := Lib.hid hok
  have HN := Lib.hid hn
  have HV := Lib.hid hnV
  have HMV := Lib.hid hmv
  have HML := Lib.hid hml
  have HM8 := Lib.hid hm8
  clear hrd hl hz hok hln hbg hW hH hWH hn hnV hs1 hs2 hmv hml hm8 hc1 hc2
  go_enter Try.func12, Try.ntmps12
  go_wp2_with fail
  refine hmade.mono ?_
  rintro e wa ⟨v, rfl, hown, hba⟩
  rw [← HN.out] at hown
  obtain ⟨A, cap, rfl, hra, _, _, _⟩ := own_rd hown
  have S1 : FM w wa.heap.size W H n cap w.heap.size wa.heap.size A C (wa.alloc (.cells #[.int .i64 (W : Int), .int .i64 (H : Int), .slice A n cap] 80)) := ⟨Blk.mk _ _ _, hra.alloc _, hba.alloc hba.size _, by simp⟩
  have hmv1 := (HMV.out.next hba).next (bl wa (.cells #[.int .i64 (W : Int), .int .i64 (H : Int), .slice A n cap] 80))
  have HB2 := Lib.hid hba.size
  have HB3 := Lib.hid (show wa.heap.size + 1 ≤ (wa.alloc (.cells #[.int .i64 (W : Int), .int .i64 (H : Int), .slice A n cap] 80)).heap.size by simp)
  have HS1 := Lib.hid S1
  have HM1 := Lib.hid hmv1
  obtain ⟨p0, p1, p2⟩ := S1.cells
  clear hown hba hra S1 hmade hmv1 HMV
  go_upto_region 4 with fail
  go_cut [13, 14, 15] (fun s13 s14 s15 wx => s13 = .pointer (some ⟨wa.heap.size, 0, none⟩) ∧ s14 = .int .i64 (s1 : Int) ∧ s15 = .int .i64 (s2 : Int) ∧ FM w wa.heap.size W H n cap w.heap.size wa.heap.size A C wx ∧ RdL wx 0 w.heap.size M (Mv.map bv8) ∧ wa.heap.size + 1 ≤ wx.heap.size)
  case first =>
    go_wp2_with fail
    go_quiet (fail)
    go_wp2_with fail
    go_meet
    exact ⟨rfl, rfl, rfl, HS1.out.drewN _, HM1.out.next (below_drewN (Below.refl _ _) _), HB3.out⟩
  obtain ⟨rfl, rfl, rfl, hS, hM, hB⟩ := hcut
  have HS2 := Lib.hid hS
  have HM2 := Lib.hid hM
  have HB4 := Lib.hid hB
  clear hS hM hB p0 p1 p2 HS1 HM1 HB3
  generalize wa.heap.size = gb at *
  clear wc1 wc2 ws1 ws2 t1 t2 nz nz2 nz3
  obtain ⟨p0, p1, p2⟩ := HS2.out.cells
  have hure := ureach_any (cap := cap) (s := s1) HOK.out HS2.out.rd HS2.out.hi (by rw [← HV.out]; exact hsn1)
  rw [← HN.out] at hure
  have b0 : (0 : Int) ≤ (s2 : Int) := by omega
  have b1 : (s2 : Int) < (n : Int) := by omega
  go_wp2_with fail
  refine hure.mono ?_
  rintro e w2 ⟨v, E, rfl, hO, hfix, hb⟩
  rw [hfix.len, ← HV.out] at hO
  obtain ⟨Ae, ce, rfl, hre, _, _, _⟩ := own_rd hO
  have hEl : E.length = n := hfix.len.trans HV.out.symm
  obtain ⟨be, oe, rfl, _, _, _, _⟩ := hre.some (by rw [List.length_map, hEl]; exact hn1)
  have HS3 := Lib.hid (HS2.out.next hb)
  have HM3 := Lib.hid (HM2.out.next hb)
  have HB5 := Lib.hid (Nat.le_trans HB4.out hb.size)
  obtain ⟨x, hx⟩ : ∃ x, x = dd E s2 := ⟨_, rfl⟩
  have cx : w2.cell? ⟨be, oe + s2, none⟩ = some (.int .i64 x) := by rw [hx]; exact cell_dd hre (by rw [hEl]; exact hsn2)
  have HX := Lib.hid hx
  have HFX := Lib.hid hfix
  clear p0 p1 p2
  obtain ⟨p0, p1, p2⟩ := HS3.out.cells
  clear hO hfix hb hre hEl hx HS2 HM2 HB4 hure
  go_wp2_with fail
  refine (own_any _ _ _ _ _).mono ?_
  rintro e w3 ⟨rfl, hb⟩
  have HS4 := Lib.hid (HS3.out.next hb)
  have HM4 := Lib.hid (HM3.out.next hb)
  have HB6 := Lib.hid (Nat.le_trans HB5.out hb.size)
  have hfd := find_any (cap := cap) (W : Int) (H : Int) (s1 : Int) (s2 : Int) HS4.out.rd HS4.out.hi
  rw [← HN.out] at hfd
  clear hb p0 p1 p2 HS3 HM3 HB5 cx b0 b1
  go_wp2_with fail
  refine hfd.mono ?_
  rintro e w4 hg
  obtain ⟨D, K, r, hsol, hor⟩ := got_any hg HOK.out (by rw [← HV.out]; exact hsn1) (by rw [← HV.out]; exact hsn2)
  obtain rfl := hsol.fix HFX.out
  rw [← HX.out] at hor
  have HSOL := Lib.hid hsol
  obtain ⟨v, d, fe, P, rfl, hb, hcs, hown⟩ : ∃ v d fe, ∃ P : List Nat, e = .returned (.tuple #[v, .int .i64 d, .int .i64 fe]) ∧ Below w3.heap.size w3 w4 ∧
      ((x = -1 ∧ v = .slice none 0 0 ∧ d = 0 ∧ fe = 7) ∨ (0 ≤ x ∧ d = x ∧ fe = 0 ∧ isWay W H C P ∧ P.head? = some s1 ∧ P.getLast? = some s2 ∧ costN C P = x ∧ P.length ≤ n)) ∧ (fe = 0 → w4.ownsRow w3.heap.size 3 1 v P.length (P.map ni)) := by
    rcases hor with ⟨h1, he, hb⟩ | ⟨h1, v, P, he, g1, g2, g3, g4, g5, g6, g7⟩
    · exact ⟨_, _, _, [], he, hb, .inl ⟨h1, rfl, rfl, rfl⟩, fun h => by cases h⟩
    · exact ⟨_, _, _, P, he, g7, .inr ⟨h1, rfl, rfl, g1, g2, g3, g4, by rw [HV.out]; exact g5⟩, fun _ => g6⟩
  have HS5 := Lib.hid (HS4.out.next hb)
  have HM5 := Lib.hid (HM4.out.next hb)
  have HB7 := Lib.hid (Nat.le_trans HB6.out hb.size)
  have HKEY : Hid (∀ R : List Nat, R.head? = some s1 → R.getLast? = some s2 → 0 ≤ costV (W : Int) (H : Int) C (zs R) → fe = 0 ∧ d ≤ costV (W : Int) (H : Int) C (zs R)) := Lib.hid (fun R h1 h2 h3 => by
    have := sol_key HSOL.out HOK.out (by rw [← HV.out]; exact hsn1) h1 h2 h3
    rw [← HX.out] at this
    rcases hcs with ⟨h, _⟩ | ⟨h, h', h'', _⟩
    · omega
    · exact ⟨h'', by omega⟩)
  have HCS := Lib.hid hcs
  have HOWN := Lib.hid hown
  clear hb hg hfd hsol hor hown hcs HS4 HM4 HB6
  go_upto_if 67 with fail
  go_cut [] (fun wx => FM w gb W H n cap w.heap.size gb A C wx ∧ RdL wx 0 w.heap.size M (Mv.map bv8) ∧ gb + 1 ≤ wx.heap.size)
  case first =>
    rcases HCS.out with ⟨rfl, rfl, rfl, rfl⟩ | ⟨h1, rfl, rfl, g1, g2, g3, g4, g5⟩
    · have dx : decide ((-1 : Int) < 0) = true := by decide
      go_wp2_with fail
      go_meet
      exact ⟨HS5.out, HM5.out, HB7.out⟩
    · have dx : decide (d < 0) = false := decide_eq_false (by omega)
      have dn : ¬ d < 0 := by omega
      obtain ⟨Ap, cp, rfl, hrp, _, _, _⟩ := own_rd (HOWN.out rfl)
      have hp1 : 1 ≤ P.length := by
        cases P with
        | nil => cases g2
        | cons p q => simp
      obtain ⟨bp, op, rfl, _, _, _, hcp⟩ := hrp.some (by rw [List.length_map]; exact hp1)
      have cp0 : w4.cell? ⟨bp, op, none⟩ = some (.int .i64 (s1 : Int)) := by
        refine hcp 0 _ ?_
        rw [List.getElem?_map, ← List.head?_eq_getElem?, g2]
        rfl
      obtain ⟨q, hq⟩ : ∃ q, P.length = q + 1 := ⟨P.length - 1, by omega⟩
      have cp1 : w4.cell? ⟨bp, op + q, none⟩ = some (.int .i64 (s2 : Int)) := by
        refine hcp q _ ?_
        rw [List.getLast?_eq_getElem?, hq, Nat.add_sub_cancel] at g3
        rw [List.getElem?_map, g3]
        rfl
      have hcost := ucost_any (cap := cap) (cl := cp) (W : Int) (H : Int) (RdL_top HS5.out.rd) (show RdL w4 0 w4.heap.size (some ⟨bp, op, none⟩) ((zs P).map iv) by rw [zs_map]; exact RdL_top hrp) (by rw [zs_len]; omega)
      rw [costV_way HOK.out g1, g4, ← HN.out, zs_len] at hcost
      have yl : IntKind.i64.wrap ((P.length : Int) - 1) = (q : Int) := by rw [IntWalk.i64_in _ (by omega)]; omega
      have HCO := Lib.hid hcost
      obtain ⟨p0, p1, p2⟩ := HS5.out.cells
      have e1 : ((s1 : Int) != (s1 : Int)) = false := by rw [bne_eq_false_iff_eq]
      have e2 : ((s2 : Int) != (s2 : Int)) = false := by rw [bne_eq_false_iff_eq]
      have e3 : (d != d) = false := by rw [bne_eq_false_iff_eq]
      have q0 : (0 : Int) ≤ (q : Int) := by omega
      have q1 : (q : Int) < (P.length : Int) := by omega
      have hqn : P.length ≤ 144 := by omega
      have hp0 : ((P.length : Int) == 0) = false := by rw [beq_eq_false_iff_ne]; omega
      clear hcost hcp hrp g1 g2 g3 g4 g5 hq HOWN
      go_wp2_with fail
      refine HCO.out.mono ?_
      rintro e w5 ⟨rfl, hb⟩
      have HF5 := Lib.hid (HS5.out.next hb)
      have HM6 := Lib.hid (HM5.out.next hb)
      have HB8 := Lib.hid (Nat.le_trans HB7.out hb.size)
      clear hb HS5 HM5 HB7 p0 p1 p2 cp0 cp1 HCO
      go_wp2_with fail
      go_meet
      exact ⟨HF5.out, HM6.out, HB8.out⟩
  go_step
  exact least_tail hm2 hn1 hn2 hsn1 HOK HN HV HML HM8 HB2 HKEY hcut
theorem walkLeast (v0 v1 v2 v3 v4 v5 : Value) (W : World) (h0 : VSat W (.int .u8) false v0) (h1 : VSat W (.int .u8) false v1) (h2 : VSat W (.slice (.int .i16)) false v2) (h3 : VSat W (.int .u8) false v3) (h4 : VSat W (.int .u8) false v4) (h5 : VSat W (.slice (.int .u8)) false v5) :
    Calls Try.prog 12 #[v0, v1, v2, v3, v4, v5] W fun e W' => e = .returned (.bool true) ∧ Below W.heap.size W W' := by
  obtain ⟨a, rfl, ha⟩ := open_u8 h0
  obtain ⟨b, rfl, hb⟩ := open_u8 h1
  obtain ⟨A, Z, cap, rfl, hr, hz⟩ := open_i16 h2
  obtain ⟨c1, rfl, hc1⟩ := open_u8 h3
  obtain ⟨c2, rfl, hc2⟩ := open_u8 h4
  obtain ⟨B, Mv, cl, rfl, hl, hM⟩ := open_u8s h5
  by_cases h : 200 < Z.length ∨ 200 < Mv.length
  · exact lawLeast_out a b c1 c2 A B Z.length cap Mv.length cl h W
  · exact lawLeast_core a b c1 c2 ha hb hc1 hc2 A Z Z.length cap B Mv Mv.length cl W hr rfl hz (by omega) hl rfl (by omega) hM
end Rou
end Go.Proofs.Ytgncngpgodfijaa
