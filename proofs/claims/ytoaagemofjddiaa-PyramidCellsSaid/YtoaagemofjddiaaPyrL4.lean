/-
  The law PyramidCells, walked and joined.
-/
import Derived.Test.YtoaagemofjddiaaPyrL2
import Derived.Deep.DeepCutAuto
import Derived.Deep.CutBlock
namespace Go.Proofs.Ytoaagemofjddiaa
open Go.RowKit
set_option linter.unusedVariables false
namespace Pyr

/-- the field and its pyramid -/
structure LC (w : World) (W H n cap lo hi : Nat) (A : Option Addr) (L : List Int) (gf bp bl cl : Nat) (lvs : List Lv) (wr : World) : Prop where
  f : Blk wr gf 24 [.int .i64 (W : Int), .int .i64 (H : Int), .slice A n cap]
  rd : RdL wr lo hi A (L.map zv)
  ps : PS wr bp bl cl lvs 0
  keep : Below w.heap.size w wr
  hi : hi ≤ wr.heap.size
section
variable {w wr w' : World} {W H n cap lo hi : Nat} {A : Option Addr} {L : List Int} {gf bp bl cl : Nat} {lvs : List Lv}
theorem LC.next (S : LC w W H n cap lo hi A L gf bp bl cl lvs wr) (hb : Below wr.heap.size wr w') : LC w W H n cap lo hi A L gf bp bl cl lvs w' :=
  ⟨S.f.next hb, S.rd.next hb, S.ps.next hb, bt S.keep hb, Nat.le_trans S.hi hb.size⟩
theorem LC.drewN (S : LC w W H n cap lo hi A L gf bp bl cl lvs wr) (q : Nat) : LC w W H n cap lo hi A L gf bp bl cl lvs (wr.drewN q) :=
  ⟨S.f.drewN q, S.rd.drewN q, S.ps.drewN q, below_drewN S.keep q, S.hi⟩
end
/-- .. and a cell -/
structure LD (w : World) (W H n cap lo hi : Nat) (A : Option Addr) (L : List Int) (gf bp bl cl : Nat) (lvs : List Lv) (g : Nat) (c : Ce) (wr : World) : Prop where
  lc : LC w W H n cap lo hi A L gf bp bl cl lvs wr
  cell : Blk wr g 38 (cec c)
section
variable {w wr w' : World} {W H n cap lo hi : Nat} {A : Option Addr} {L : List Int} {gf bp bl cl g : Nat} {lvs : List Lv} {c : Ce}
theorem LD.next (S : LD w W H n cap lo hi A L gf bp bl cl lvs g c wr) (hb : Below wr.heap.size wr w') : LD w W H n cap lo hi A L gf bp bl cl lvs g c w' := ⟨S.lc.next hb, S.cell.next hb⟩
theorem LD.s (S : LD w W H n cap lo hi A L gf bp bl cl lvs g c wr) : LD w W H n cap lo hi A L gf bp bl cl lvs g c wr ∧
    wr.cell? ⟨gf, 0, Option.none⟩ = some (.int .i64 (W : Int)) ∧ wr.cell? ⟨gf, 1, Option.none⟩ = some (.int .i64 (H : Int)) ∧ wr.cell? ⟨gf, 2, Option.none⟩ = some (.slice A n cap) ∧
    wr.cell? ⟨g, 0, Option.none⟩ = some (.int .i16 c.lo) ∧ wr.cell? ⟨g, 1, Option.none⟩ = some (.int .i16 c.hi) ∧ wr.cell? ⟨g, 2, Option.none⟩ = some (.int .i64 (c.n : Int)) :=
  ⟨S, S.lc.f.cell 0, S.lc.f.cell 1, S.lc.f.cell 2, S.cell.cell 0, S.cell.cell 1, S.cell.cell 2⟩
end
set_option maxRecDepth 100000 in
set_option maxHeartbeats 2000000 in
theorem lawCells_out (a b : Nat) (A A2 : Option Addr) (m cap m2 cap2 : Nat) (fW fH n x y : Int) (h : 1000 < m ∨ 1000 < m2) (w : World) :
    Calls Try.prog 3 #[.int .u8 (a : Int), .int .u8 (b : Int), .slice A m cap, .agg #[.int .i64 fW, .int .i64 fH, .slice A2 m2 cap2], .int .i64 n, .int .i64 x, .int .i64 y] w fun e w' => e = .returned (.bool true) ∧ Below w.heap.size w w' := by
  by_cases h1 : 1000 < m
  · have d1 : decide (1000 < (m : Int)) = true := decide_eq_true (by omega)
    clear h
    go_enter Try.func3, Try.ntmps3
    go_wp2_with fail
    refine (works36_any _).mono ?_
    rintro e w1 ⟨rfl, hb⟩
    go_wp2
    go_ret
    exact ⟨rfl, bt (_root_.Go.Proofs.Ytoaagemofjddiaa.bl _ _) hb⟩
  · have d1 : decide (1000 < (m : Int)) = false := decide_eq_false (by omega)
    have h2 : 1000 < m2 := by omega
    have d2 : decide (1000 < (m2 : Int)) = true := decide_eq_true (by omega)
    clear h
    go_enter Try.func3, Try.ntmps3
    go_wp2_with fail
    refine (works36_any _).mono ?_
    rintro e w1 ⟨rfl, hb⟩
    go_wp2
    go_ret
    exact ⟨rfl, bt (_root_.Go.Proofs.Ytoaagemofjddiaa.bl _ _) hb⟩
def NewS (c : Int) (v : Value) : Prop := (c ≠ 0 ∧ v = .pointer Option.none) ∨ (c = 0 ∧ ∃ bp, v = .pointer (some ⟨bp, 0, Option.none⟩))
theorem new_any (fW fH : Int) (A : Option Addr) (Z : List Int) (n cap : Nat) (w : World) (hrd : RdL w 0 w.heap.size A (Z.map zv)) (hl : Z.length = n) (hcap : n ≤ cap) (hn : n ≤ maxLen) :
    Calls Try.prog 12 #[.agg #[.int .i64 fW, .int .i64 fH, .slice A n cap]] w fun e w' => ∃ v, e = .returned (.tuple #[v, .int .i64 (codeH fW fH n)]) ∧ NewS (codeH fW fH n) v ∧ Below w.heap.size w w' := by
  by_cases hc : codeH fW fH n = 0
  · obtain ⟨h1, h2, h3, h4, h5⟩ := codeH_zero hc
    obtain ⟨W, rfl⟩ : ∃ W : Nat, fW = (W : Int) := ⟨fW.toNat, by omega⟩
    obtain ⟨H, rfl⟩ : ∃ H : Nat, fH = (H : Int) := ⟨fH.toNat, by omega⟩
    have hnWH : n = W * H := by rw [← Int.natCast_mul] at h5; omega
    refine (new_ok W H A Z n cap _ _ w hrd hl hnWH hcap (by omega) (by omega) (by omega) (by omega) (Nat.le_refl _)).mono ?_
    rintro e w' ⟨top, bp, bl, cl, lvs, rfl, _, _, _, _, _, hb⟩
    exact ⟨_, by rw [hc], .inr ⟨hc, bp, rfl⟩, hb⟩
  · refine (new_bad fW fH A n cap w hn hc).mono ?_
    rintro e w' ⟨rfl, hb⟩
    exact ⟨_, rfl, .inl ⟨hc, rfl⟩, hb⟩
set_option maxRecDepth 100000 in
set_option maxHeartbeats 6000000 in
theorem lawCells_core (a b : Nat) (ha : a < 256) (hb : b < 256) (A A2 : Option Addr) (Z Z2 : List Int) (m cap m2 cap2 : Nat) (fW fH nn xx yy : Int) (w : World) (hrd : RdL w 0 w.heap.size A (Z.map zv)) (hl : Z.length = m) (hcap : m ≤ cap) (hz : ∀ x ∈ Z, -32768 ≤ x ∧ x ≤ 32767)
    (hrd2 : RdL w 0 w.heap.size A2 (Z2.map zv)) (hl2 : Z2.length = m2) (hcap2 : m2 ≤ cap2) (h : ¬ (1000 < m ∨ 1000 < m2)) :
    Calls Try.prog 3 #[.int .u8 (a : Int), .int .u8 (b : Int), .slice A m cap, .agg #[.int .i64 fW, .int .i64 fH, .slice A2 m2 cap2], .int .i64 nn, .int .i64 xx, .int .i64 yy] w fun e w' => e = .returned (.bool true) ∧ Below w.heap.size w w' := by
  have d1 : decide (1000 < (m : Int)) = false := decide_eq_false (by omega)
  have d2 : decide (1000 < (m2 : Int)) = false := decide_eq_false (by omega)
  have hb0 := Blk.mk w 24 [.int .i64 fW, .int .i64 fH, .slice A2 m2 cap2]
  have hbx := _root_.Go.Proofs.Ytoaagemofjddiaa.bl w (.cells #[.int .i64 fW, .int .i64 fH, .slice A2 m2 cap2] 24)
  have hnw := new_any fW fH A2 Z2 m2 cap2 _ ((hrd2.alloc (.cells #[.int .i64 fW, .int .i64 fH, .slice A2 m2 cap2] 24)).wide (Nat.le_refl _) hbx.size) hl2 hcap2 (by simp only [maxLen]; omega)
  have hck := fun X => hcheck_any fW fH A2 m2 cap2 X (by simp only [maxLen]; omega)
  have HCk := Lib.hid hck
  have HB0 := Lib.hid hb0
  have HBx := Lib.hid hbx
  have hm : m ≤ 1000 := by omega
  have HRd := Lib.hid hrd
  have Hl := Lib.hid hl
  have Hz := Lib.hid hz
  have hFl := fun X hX hx => field_any a b ha hb A Z m cap 0 w.heap.size X hX hl hm hcap hz hx
  have HFl := Lib.hid hFl
  clear h hrd2 hl2 hck hb0 hbx hrd hl hz hFl
  go_enter Try.func3, Try.ntmps3
  go_upto_region 3 with fail
  go_cut [15, 16] (fun s15 s16 wx => ∃ c, c = codeH fW fH m2 ∧ s16 = .int .i64 c ∧ NewS c s15 ∧ Blk wx w.heap.size 24 [.int .i64 fW, .int .i64 fH, .slice A2 m2 cap2] ∧ Below w.heap.size w wx)
  case first =>
    go_wp2_with fail
    refine hnw.mono ?_
    rintro e w1 ⟨v, rfl, hs, hb⟩
    have h1 := Lib.hid (HB0.out.next hb)
    have h2 := Lib.hid (bt HBx.out hb)
    have h3 := Lib.hid hs
    clear hs hb
    go_wp2_with fail
    go_meet
    exact ⟨_, rfl, rfl, h3.out, h1.out, h2.out⟩
  case rest =>
    clear hnw HB0 HBx
    obtain ⟨c, hc, rfl, hs, hb1, hk1⟩ := hcut
    have hck := HCk.out wc
    rw [← hc] at hck
    have HB1 := Lib.hid hb1
    have HK1 := Lib.hid hk1
    have e0 : wc.cell? ⟨w.heap.size, 0, Option.none⟩ = some (.int .i64 fW) := hb1.cell 0
    have e1 : wc.cell? ⟨w.heap.size, 1, Option.none⟩ = some (.int .i64 fH) := hb1.cell 1
    have e2 : wc.cell? ⟨w.heap.size, 2, Option.none⟩ = some (.slice A2 m2 cap2) := hb1.cell 2
    clear hc hb1 hk1 HCk
    go_step
    go_step
    go_cut [15, 16] (fun s15 s16 wx => Below w.heap.size w wx)
    case first =>
      rcases hs with ⟨hc0, rfl⟩ | ⟨rfl, bp, rfl⟩
      · have c1 : (c != 0) = true := by rw [bne_iff_ne]; exact hc0
        have c2 : (c == 0) = false := by rw [beq_eq_false_iff_ne]; exact hc0
        clear hc0
        go_wp2_with fail
        refine hck.mono ?_
        rintro e w1 ⟨rfl, hb⟩
        have HK2 := Lib.hid (bt HK1.out hb)
        go_wp2_with fail
        go_meet
        exact HK2.out
      · go_wp2_with fail
        refine hck.mono ?_
        rintro e w1 ⟨rfl, hb⟩
        have HK2 := Lib.hid (bt HK1.out hb)
        go_wp2_with fail
        go_meet
        exact HK2.out
    case rest =>
      clear hck e0 e1 e2 HB1 HK1 hs
      obtain ⟨wp, rfl⟩ : ∃ wp : World, wp = wc := ⟨_, rfl⟩
      have HK := Lib.hid hcut
      have hsw := hcut.size
      have hfd := HFl.out _ (HRd.out.below hcut (.inl (Nat.le_refl _))) hsw
      clear hcut
      have hWl := fieldW_le a
      have hHl := fieldW_le b
      have hLl := fieldL_len a b Z
      generalize fieldL a b Z = L at *
      generalize fieldW a = W at *
      generalize fieldW b = H at *
      have hWH := Nat.mul_le_mul hWl.2 hHl.2
      have HLl := Lib.hid hLl
      clear hLl HFl HRd Hl Hz
      go_wp2_with fail
      refine hfd.mono ?_
      rintro e w1 ⟨v, rfl, hown, hbf⟩
      obtain ⟨Af, cf, rfl, hrf, hcf, hmf, hAf⟩ := own_rd hown
      have hK1 := bt HK.out hbf
      have hs1 := hbf.size
      have hnl : L.length ≤ 1600 := by rw [HLl.out]; omega
      obtain ⟨n, hn⟩ : ∃ n, n = L.length := ⟨_, rfl⟩
      rw [← hn] at hcf hnl ⊢
      have hnWH : n = W * H := by rw [hn]; exact HLl.out
      have Hn := Lib.hid hn
      have HnWH := Lib.hid hnWH
      have hnew := new_ok W H Af L n cf _ _ _ (hrf.alloc (.cells #[.int .i64 (W : Int), .int .i64 (H : Int), .slice Af n cf] 24)) hn.symm hnWH hcf (by omega) (by omega) (by omega) (by omega) (by simp)
      have HRf := Lib.hid hrf
      have HK1 := Lib.hid hK1
      have HF1 := Lib.hid (Blk.mk w1 24 [.int .i64 (W : Int), .int .i64 (H : Int), .slice Af n cf])
      clear hfd hown hrf hbf hK1 hn HK hnWH
      go_wp2_with fail
      refine hnew.mono ?_
      rintro e w2 ⟨top, bp, bl, cl, lvs, rfl, hP, hI, hT, hlen, hbp, hb2⟩
      have hb2' := bt (_root_.Go.Proofs.Ytoaagemofjddiaa.bl w1 (.cells #[.int .i64 (W : Int), .int .i64 (H : Int), .slice Af n cf] 24)) hb2
      have hS0 : LC w W H n cf wp.heap.size w1.heap.size Af L w1.heap.size bp bl cl lvs w2 :=
        ⟨HF1.out.next hb2, HRf.out.next hb2', hP, bt HK1.out hb2', hb2'.size⟩
      have htop := hT.le (by omega) (by omega)
      have hlenI : (lvs.length : Int) = (top : Int) + 1 := by omega
      have hql := fun X => qlevels_any W H top hT (by omega) (by omega) X
      have hsd := fun n' (hn : n' ≤ 256) k (hk : k ≤ 8) => qside_any n' k (by omega) (by omega)
      have HSd := Lib.hid hsd
      have HQl := Lib.hid hql
      have HS0 := Lib.hid hS0
      have HI := Lib.hid hI
      have e0 : w2.cell? ⟨w1.heap.size, 0, Option.none⟩ = some (.int .i64 (W : Int)) := hS0.f.cell 0
      have e1 : w2.cell? ⟨w1.heap.size, 1, Option.none⟩ = some (.int .i64 (H : Int)) := hS0.f.cell 1
      have HLen := Lib.hid hlen
      clear hnew hP hI hT hbp hb2 hb2' hS0 HF1 HRf HK1 hql hsd hlen
      go_wp2_with fail
      go_quiet (first | (go_at_call 15; with_reducible exact quiet_eq (levels_any (HS0.out.ps.drewN _))) | (go_at_call 16; with_reducible exact quiet_eq (HQl.out _)))
      have HS1 := Lib.hid (HS0.out.drewN nq)
      clear e0 e1 HS0
      go_wp2
      go_loopw [19] (fun i wr => ∃ k : Nat, k ≤ top + 1 ∧ i = .int .i64 (k : Int) ∧ LC w W H n cf wp.heap.size w1.heap.size Af L w1.heap.size bp bl cl lvs wr) (fun i _ => top + 1 - (intOf i).toNat)
      case atStart => exact ⟨0, Nat.zero_le _, rfl, HS1.out⟩
      case round =>
        clear HS1
        obtain ⟨k, hk, rfl, S⟩ := hrel
        have HS := Lib.hid S
        have e0 : wr.cell? ⟨w1.heap.size, 0, Option.none⟩ = some (.int .i64 (W : Int)) := S.f.cell 0
        have e1 : wr.cell? ⟨w1.heap.size, 1, Option.none⟩ = some (.int .i64 (H : Int)) := S.f.cell 1
        have hlv := levels_any S.ps
        clear S
        by_cases hlt : k < top + 1
        · have hltI : (k : Int) < (top : Int) + 1 := by omega
          have hkl : k < lvs.length := by rw [HLen.out]; exact hlt
          have hk1 : lvs[k]? = some lvs[k] := List.getElem?_eq_getElem hkl
          have hw1 := HI.out.wd k hkl
          have hh1 := HI.out.h k hkl
          have hL1 := HI.out.L k hkl
          have hsi := side_in HS.out.ps hk1
          have HAt := Lib.hid (fun X (S : LC w W H n cf wp.heap.size w1.heap.size Af L w1.heap.size bp bl cl lvs X) x y hx hy => atm_in (x := x) (y := y) S.ps hk1 (by have := side_self2 W k; omega) (by have := side_self2 H k; omega) hx hy)
          rw [hw1, hh1, hL1] at HAt
          rw [hw1, hh1] at hsi
          have hq1 := HSd.out W (by omega) k (by omega)
          have hq2 := HSd.out H (by omega) k (by omega)
          have HOk : Hid (∀ x y, x < side W k → y < side H k → Ok W H ⟨k, x, y⟩) := Lib.hid (fun x y hx hy => ⟨hx, hy⟩)
          have HAl : Hid (∀ x y, x < side W k → y < side H k → ofF (fun i => L.getD i 0) (fun i => nv (fun i => L.getD i 0) i && meant W (square W H ⟨k, x, y⟩) i) n = (lev W H (fun i => L.getD i 0) k).getD (y * side W k + x) zc) := Lib.hid (fun x y hx hy => by rw [HnWH.out]; exact at_lev (p := ⟨k, x, y⟩) ⟨hx, hy⟩)
          have p1 := side_self2 W k
          have p2 := side_self2 H k
          have p3 := side_pos (n := W) (by omega) k
          generalize side W k = p at *
          generalize side H k = q at *
          have mpq : (p : Int) * (q : Int) = ((p * q : Nat) : Int) := (Int.natCast_mul _ _).symm
          have lpq : p * q ≤ 40 * 40 := Nat.mul_le_mul (by omega) (by omega)
          obtain ⟨N2, hN2⟩ : ∃ N2, N2 = p * q := ⟨_, rfl⟩
          rw [← hN2] at mpq lpq
          have yN : IntKind.i64.wrap ((p : Int) * (q : Int)) = (N2 : Int) := by rw [mpq]; exact IntWalk.i64_in _ (by omega)
          have HN2 := Lib.hid hN2
          have HQ1 := Lib.hid hq1
          have HQ2 := Lib.hid hq2
          clear hk1 hw1 hh1 hL1 mpq hN2 hq1 hq2
          go_wp2_with fail
          refine hlv.mono ?_
          rintro e w4 ⟨rfl, rfl⟩
          clear hlv
          go_wp2_with fail
          refine hsi.mono ?_
          rintro e w4 ⟨rfl, dq, rfl⟩
          go_wp2_with fail
          refine (HQ1.out _).mono ?_
          rintro e w4 ⟨rfl, rfl⟩
          go_wp2_with fail
          refine (HQ2.out _).mono ?_
          rintro e w4 ⟨rfl, rfl⟩
          go_wp2
          have HS2 := Lib.hid (HS.out.drewN dq)
          clear HS e0 e1 hsi HQ1 HQ2
          go_loopw [22] (fun i wr' => ∃ j : Nat, j ≤ N2 ∧ i = .int .i64 (j : Int) ∧ LC w W H n cf wp.heap.size w1.heap.size Af L w1.heap.size bp bl cl lvs wr') (fun i _ => N2 - (intOf i).toNat)
          case atStart => exact ⟨0, Nat.zero_le _, rfl, HS2.out⟩
          case round =>
            clear HS2
            obtain ⟨j, hj, rfl, S⟩ := hrel
            have HS := Lib.hid S
            clear S
            by_cases hjl : j < N2
            · have hjlI : (j : Int) < (N2 : Int) := by omega
              obtain ⟨hx, hy⟩ := lt_row (W := p) (H := q) (i := j) (by rw [← HN2.out]; exact hjl)
              have hAt := fun X S => HAt.out X S (j % p) (j / p) hx hy
              have hAl := HAl.out (j % p) (j / p) hx hy
              have hqa := fun X (S : LC w W H n cf wp.heap.size w1.heap.size Af L w1.heap.size bp bl cl lvs X) => qat_any W H Af L n cf wp.heap.size w1.heap.size X S.rd Hn.out.symm hcf (by omega) (by omega) (by omega) (by omega) S.hi k (j % p) (j / p) (by omega) (by omega) (by omega)
              rw [hAl] at hqa
              have z1 : (j : Int).tmod (p : Int) = ((j % p : Nat) : Int) := by rw [Int.tmod_eq_emod_of_nonneg (by omega)]; rfl
              have z2 : (j : Int).tdiv (p : Int) = ((j / p : Nat) : Int) := by rw [Int.tdiv_eq_ediv_of_nonneg (by omega)]; rfl
              generalize (lev W H (fun i => L.getD i 0) k).getD (j / p * p + j % p) zc = c at *
              generalize j % p = x at *
              generalize j / p = y at *
              have z3 : IntKind.i64.wrap ((j : Int).tmod (p : Int)) = (x : Int) := by rw [z1]; exact IntWalk.i64_in _ (by omega)
              have z4 : IntKind.i64.wrap ((j : Int).tdiv (p : Int)) = (y : Int) := by rw [z2]; exact IntWalk.i64_in _ (by omega)
              have z5 : IntKind.i64.wrap (x : Int) = (x : Int) := IntWalk.i64_in _ (by omega)
              have z6 : IntKind.i64.wrap (y : Int) = (y : Int) := IntWalk.i64_in _ (by omega)
              have z7 : ¬ (p : Int) = 0 := by omega
              have z8 : ((p : Int) == 0) = false := by rw [beq_eq_false_iff_ne]; omega
              have z9 : ¬ p = 0 := by omega
              have hcs := cell_same' c
              have hwn := fun X => own_any c X
              unfold GotAt at hAt
              unfold cev at hAt hqa hwn
              have HAt2 := Lib.hid hAt
              have HQa := Lib.hid hqa
              clear hAl hAt hqa
              go_wp2_with fail
              go_cut [23, 24] (fun s23 s24 wx => s24 = .bool true ∧ ∃ g, s23 = .pointer (some ⟨g, 0, Option.none⟩) ∧ LD w W H n cf wp.heap.size w1.heap.size Af L w1.heap.size bp bl cl lvs g c wx)
              case first =>
                have HS7 := Lib.hid (HS.out.drewN 1)
                clear HS
                refine wp_region_any (by kernel_rfl) ?_
                change wpAny _ _ _ _ _ _ _ (wr.drewN 1)
                generalize wr.drewN 1 = w7 at *
                refine wpAny_split 14 (L := #[false, false, false, false, false, false, false, false, false, false, false, false, false, false]) (f := 14) (S := fun _ => True) (by kernel_rfl) trivial (fun hHeld => ?_)
                simp only [List.take_succ_cons, List.take_zero, List.drop_succ_cons, List.drop_zero]
                refine wpAnyH_take (i := 0) (oi := ⟨some 114, _, _, _, _, _⟩) (v := ?_) rfl (by kernel_rfl) (by kernel_rfl) (by kernel_rfl) (fun _ _ _ h => h) (Or.inl ⟨by rfl, ?_⟩) (by assumption) ?_
                rotate_left
                · (intro w hSw; (try dsimp only at hSw); go_simp; try (with_reducible rfl))
                try simp only [Act.put, List.setIfInBounds_toArray, List.set_cons_zero, List.set_cons_succ]
                refine wpAnyH_take (i := 1) (oi := ⟨some 115, _, _, _, _, _⟩) (v := ?_) rfl (by kernel_rfl) (by kernel_rfl) (by kernel_rfl) (fun _ _ _ h => h) (Or.inl ⟨by rfl, ?_⟩) (by assumption) ?_
                rotate_left
                · (intro w hSw; (try dsimp only at hSw); go_simp; try (with_reducible rfl))
                try simp only [Act.put, List.setIfInBounds_toArray, List.set_cons_zero, List.set_cons_succ]
                refine wpAnyH_take (i := 2) (oi := ⟨some 116, _, _, _, _, _⟩) (v := ?_) rfl (by kernel_rfl) (by kernel_rfl) (by kernel_rfl) (fun _ _ _ h => h) (Or.inl ⟨by rfl, ?_⟩) (by assumption) ?_
                rotate_left
                · (intro w hSw; (try dsimp only at hSw); go_simp; try (with_reducible rfl))
                try simp only [Act.put, List.setIfInBounds_toArray, List.set_cons_zero, List.set_cons_succ]
                refine wpAnyH_take (i := 3) (oi := ⟨some 117, _, _, _, _, _⟩) (v := ?_) rfl (by kernel_rfl) (by kernel_rfl) (by kernel_rfl) (fun _ _ _ h => h) (Or.inl ⟨by rfl, ?_⟩) (by assumption) ?_
                rotate_left
                · (intro w hSw; (try dsimp only at hSw); go_simp; try (with_reducible rfl))
                try simp only [Act.put, List.setIfInBounds_toArray, List.set_cons_zero, List.set_cons_succ]
                refine wpAnyH_take (i := 4) (oi := ⟨some 118, _, _, _, _, _⟩) (v := ?_) rfl (by kernel_rfl) (by kernel_rfl) (by kernel_rfl) (fun _ _ _ h => h) (Or.inl ⟨by rfl, ?_⟩) (by assumption) ?_
                rotate_left
                · (intro w hSw; (try dsimp only at hSw); go_simp; try (with_reducible rfl))
                try simp only [Act.put, List.setIfInBounds_toArray, List.set_cons_zero, List.set_cons_succ]
                refine wpAnyH_take (i := 5) (oi := ⟨some 119, _, _, _, _, _⟩) (v := ?_) rfl (by kernel_rfl) (by kernel_rfl) (by kernel_rfl) (fun _ _ _ h => h) (Or.inl ⟨by rfl, ?_⟩) (by assumption) ?_
                rotate_left
                · (intro w hSw; (try dsimp only at hSw); go_simp; try (with_reducible rfl))
                try simp only [Act.put, List.setIfInBounds_toArray, List.set_cons_zero, List.set_cons_succ]
                refine wpAnyH_take (i := 6) (oi := ⟨some 120, _, _, _, _, _⟩) (v := ?_) rfl (by kernel_rfl) (by kernel_rfl) (by kernel_rfl) (fun _ _ _ h => h) (Or.inl ⟨by rfl, ?_⟩) (by assumption) ?_
                rotate_left
                · (intro w hSw; (try dsimp only at hSw); go_simp; try (with_reducible rfl))
                try simp only [Act.put, List.setIfInBounds_toArray, List.set_cons_zero, List.set_cons_succ]
                refine wpAnyH_take (i := 7) (oi := ⟨some 121, _, _, _, _, _⟩) (v := ?_) rfl (by kernel_rfl) (by kernel_rfl) (by kernel_rfl) (fun _ _ _ h => h) (Or.inl ⟨by rfl, ?_⟩) (by assumption) ?_
                rotate_left
                · (intro w hSw; (try dsimp only at hSw); go_simp; try (with_reducible rfl))
                try simp only [Act.put, List.setIfInBounds_toArray, List.set_cons_zero, List.set_cons_succ]
                refine wpAnyH_ready (rs := [8, 12]) (by kernel_rfl) (by simp) ?_
                refine AllReadyH.cons (o := ⟨some 122, _, _, _, _, _⟩) rfl (fun K hK => ?_) (AllReadyH.cons (o := ⟨some 23, _, _, _, _, _⟩) rfl (fun K hK => ?_) AllReadyH.nil)
                · go_simp
                  go_at_call 19
                  refine (HAt2.out w7 (HS7.out)).mono ?_
                  rintro e w8 ⟨rfl, hbc⟩
                  go_wp2_with fail
                  refine hK.out _ _ trivial (fun hHeld => ?_)
                  clear hK K
                  try simp only [List.setIfInBounds_toArray, List.set_cons_zero, List.set_cons_succ]
                  refine wpAnyH_take (i := 9) (oi := ⟨some 113, _, _, _, _, _⟩) (v := ?_) rfl (by kernel_rfl) (by kernel_rfl) (by kernel_rfl) (fun _ _ _ h => h) (Or.inl ⟨by rfl, ?_⟩) (by assumption) ?_
                  rotate_left
                  · (intro w hSw; (try dsimp only at hSw); go_simp; try (with_reducible rfl))
                  try simp only [Act.put, List.setIfInBounds_toArray, List.set_cons_zero, List.set_cons_succ]
                  refine wpAnyH_take (i := 10) (oi := ⟨some 123, _, _, _, _, _⟩) (v := ?_) rfl (by kernel_rfl) (by kernel_rfl) (by kernel_rfl) (fun _ _ _ h => h) (Or.inl ⟨by rfl, ?_⟩) (by assumption) ?_
                  rotate_left
                  · (intro w hSw; (try dsimp only at hSw); go_simp; try (with_reducible rfl))
                  try simp only [Act.put, List.setIfInBounds_toArray, List.set_cons_zero, List.set_cons_succ]
                  refine wpAnyH_take (i := 11) (oi := ⟨some 124, _, _, _, _, _⟩) (v := ?_) rfl (by kernel_rfl) (by kernel_rfl) (by kernel_rfl) (fun _ _ _ h => h) (Or.inl ⟨by rfl, ?_⟩) (by assumption) ?_
                  rotate_left
                  · (intro w hSw; (try dsimp only at hSw); go_simp; try (with_reducible rfl))
                  try simp only [Act.put, List.setIfInBounds_toArray, List.set_cons_zero, List.set_cons_succ]
                  refine wpAnyH_ready (rs := [12]) (by kernel_rfl) (by simp) ?_
                  refine AllReadyH.cons (o := ⟨some 23, _, _, _, _, _⟩) rfl (fun K hK => ?_) AllReadyH.nil
                  have hbF := bt hbc (_root_.Go.Proofs.Ytoaagemofjddiaa.bl w8 (.cells #[.int .i16 0, .int .i16 0, .int .i64 0] 38))
                  have hbz := hbc.size
                  have hC := Blk.mk w8 38 (cec zc)
                  go_simp
                  refine hK.out _ _ trivial (fun hHeld => ?_)
                  clear hK K
                  try simp only [List.setIfInBounds_toArray, List.set_cons_zero, List.set_cons_succ]
                  clear hbF hC
                  have hC := Blk.mk w8 38 (cec zc)
                  have q0 := hC.cell 0
                  have q1 := hC.cell 1
                  have q2 := hC.cell 2
                  simp only [cec, zc, List.getElem?_cons_zero, List.getElem?_cons_succ] at q0 q1 q2
                  have f0 := hC.free 0
                  have f1 := hC.free 1
                  have f2 := hC.free 2
                  refine wpAnyH_ready (rs := [13]) (by kernel_rfl) (by simp) ?_
                  refine AllReadyH.cons (o := ⟨none, _, _, _, _, _⟩) rfl (fun K hK => ?_) AllReadyH.nil
                  go_simp
                  refine hK.out _ _ trivial (fun hHeld => ?_)
                  clear hK K
                  try simp only [List.setIfInBounds_toArray, List.set_cons_zero, List.set_cons_succ]
                  refine wpAnyH_done (by kernel_rfl) ?_ _
                  change wpList _ _ _ _ _ _
                  clear hC q0 q1 q2 f0 f1 f2
                  have hbE := Lib.hid (bt hbc (_root_.Go.Proofs.Ytoaagemofjddiaa.bl w8 (.cells (cec c).toArray 38)))
                  go_wp2_with fail
                  go_meet
                  exact ⟨rfl, w8.heap.size, rfl, ⟨HS7.out.next hbE.out, Blk.mk w8 38 (cec c)⟩⟩
                · have hb0 := _root_.Go.Proofs.Ytoaagemofjddiaa.bl w7 (.cells #[.int .i16 0, .int .i16 0, .int .i64 0] 38)
                  go_simp
                  refine hK.out _ _ trivial (fun hHeld => ?_)
                  clear hK K
                  try simp only [List.setIfInBounds_toArray, List.set_cons_zero, List.set_cons_succ]
                  refine wpAnyH_ready (rs := [8]) (by kernel_rfl) (by simp) ?_
                  refine AllReadyH.cons (o := ⟨some 122, _, _, _, _, _⟩) rfl (fun K hK => ?_) AllReadyH.nil
                  go_simp
                  go_at_call 19
                  refine (HAt2.out _ (HS7.out.next hb0)).mono ?_
                  rintro e w8 ⟨rfl, hbc⟩
                  go_wp2_with fail
                  have hbF := bt hb0 hbc
                  have hC := (Blk.mk w7 38 (cec zc)).next hbc
                  refine hK.out _ _ trivial (fun hHeld => ?_)
                  clear hK K
                  try simp only [List.setIfInBounds_toArray, List.set_cons_zero, List.set_cons_succ]
                  refine wpAnyH_take (i := 9) (oi := ⟨some 113, _, _, _, _, _⟩) (v := ?_) rfl (by kernel_rfl) (by kernel_rfl) (by kernel_rfl) (fun _ _ _ h => h) (Or.inl ⟨by rfl, ?_⟩) (by assumption) ?_
                  rotate_left
                  · (intro w hSw; (try dsimp only at hSw); go_simp; try (with_reducible rfl))
                  try simp only [Act.put, List.setIfInBounds_toArray, List.set_cons_zero, List.set_cons_succ]
                  refine wpAnyH_take (i := 10) (oi := ⟨some 123, _, _, _, _, _⟩) (v := ?_) rfl (by kernel_rfl) (by kernel_rfl) (by kernel_rfl) (fun _ _ _ h => h) (Or.inl ⟨by rfl, ?_⟩) (by assumption) ?_
                  rotate_left
                  · (intro w hSw; (try dsimp only at hSw); go_simp; try (with_reducible rfl))
                  try simp only [Act.put, List.setIfInBounds_toArray, List.set_cons_zero, List.set_cons_succ]
                  refine wpAnyH_take (i := 11) (oi := ⟨some 124, _, _, _, _, _⟩) (v := ?_) rfl (by kernel_rfl) (by kernel_rfl) (by kernel_rfl) (fun _ _ _ h => h) (Or.inl ⟨by rfl, ?_⟩) (by assumption) ?_
                  rotate_left
                  · (intro w hSw; (try dsimp only at hSw); go_simp; try (with_reducible rfl))
                  try simp only [Act.put, List.setIfInBounds_toArray, List.set_cons_zero, List.set_cons_succ]
                  have q0 := hC.cell 0
                  have q1 := hC.cell 1
                  have q2 := hC.cell 2
                  simp only [cec, zc, List.getElem?_cons_zero, List.getElem?_cons_succ] at q0 q1 q2
                  have f0 := hC.free 0
                  have f1 := hC.free 1
                  have f2 := hC.free 2
                  refine wpAnyH_ready (rs := [13]) (by kernel_rfl) (by simp) ?_
                  refine AllReadyH.cons (o := ⟨none, _, _, _, _, _⟩) rfl (fun K hK => ?_) AllReadyH.nil
                  go_simp
                  refine hK.out _ _ trivial (fun hHeld => ?_)
                  clear hK K
                  try simp only [List.setIfInBounds_toArray, List.set_cons_zero, List.set_cons_succ]
                  refine wpAnyH_done (by kernel_rfl) ?_ _
                  change wpList _ _ _ _ _ _
                  have hC2 := Lib.hid (((hC.put 0 (.int .i16 c.lo)).put 1 (.int .i16 c.hi)).put 2 (.int .i64 (c.n : Int)))
                  have hF := Lib.hid (((hbF.setCell (p := ⟨w7.heap.size, 0, Option.none⟩) (by show w7.heap.size ≤ w7.heap.size; omega) (.int .i16 c.lo)).setCell (p := ⟨w7.heap.size, 1, Option.none⟩) (by show w7.heap.size ≤ w7.heap.size; omega) (.int .i16 c.hi)).setCell (p := ⟨w7.heap.size, 2, Option.none⟩) (by show w7.heap.size ≤ w7.heap.size; omega) (.int .i64 (c.n : Int)))
                  clear hC hbF q0 q1 q2 f0 f1 f2
                  go_wp2_with fail
                  go_meet
                  exact ⟨rfl, w7.heap.size, rfl, ⟨HS7.out.next hF.out, hC2.out⟩⟩
              case rest =>
                obtain ⟨rfl, g, rfl, S⟩ := hcut
                have HS2 := Lib.hid S
                clear S HS
                go_wp2_with fail
                go_region_held3 (fun w' => LD w W H n cf wp.heap.size w1.heap.size Af L w1.heap.size bp bl cl lvs g c w' ∧ w'.cell? ⟨w1.heap.size, 0, Option.none⟩ = some (.int .i64 (W : Int)) ∧ w'.cell? ⟨w1.heap.size, 1, Option.none⟩ = some (.int .i64 (H : Int)) ∧ w'.cell? ⟨w1.heap.size, 2, Option.none⟩ = some (.slice Af n cf) ∧ w'.cell? ⟨g, 0, Option.none⟩ = some (.int .i16 c.lo) ∧ w'.cell? ⟨g, 1, Option.none⟩ = some (.int .i16 c.hi) ∧ w'.cell? ⟨g, 2, Option.none⟩ = some (.int .i64 (c.n : Int)))
                  (first
                    | exact (LD.s ⟨HS2.out.lc.drewN 1, HS2.out.cell.drew⟩)
                    | assumption
                    | exact (LD.next (And.left ‹LD _ _ _ _ _ _ _ _ _ _ _ _ _ _ _ _ _ ∧ _›) (by assumption)).s)
                  (first
                    | (go_at_call 21; (with_reducible refine (HQa.out _ (LD.lc (And.left ‹LD _ _ _ _ _ _ _ _ _ _ _ _ _ _ _ _ _ ∧ _›))).mono ?_); rintro e w' ⟨rfl, hb⟩)
                    | (go_at_call 20; (with_reducible refine (hwn _).mono ?_); rintro e w' ⟨rfl, hb⟩))
                have hX := (And.left ‹LD _ _ _ _ _ _ _ _ _ _ _ _ _ _ _ _ _ ∧ _›).lc
                have HX := Lib.hid hX
                clear hX
                go_wp2
                go_roundw
                case rel => exact ⟨j + 1, by omega, by go_num, HX.out⟩
                case measure => simp [intOf]; omega
            · obtain rfl : j = N2 := by omega
              have hge : ¬ (j : Int) < (j : Int) := by omega
              go_wp2
              go_roundw
              case rel => exact ⟨k + 1, by omega, by go_num, HS.out⟩
              case measure => simp [intOf]; omega
        · obtain rfl : k = top + 1 := by omega
          have hge : ¬ (((top + 1 : Nat)) : Int) < (top : Int) + 1 := by omega
          have hge2 : ¬ (top : Int) + 1 < (top : Int) + 1 := by omega
          have hcz : ∀ w, (binOp .eql 38 (.agg #[.int .i16 0, .int .i16 0, .int .i64 0]) (.agg #[.int .i16 0, .int .i16 0, .int .i64 0])).run Try.prog w = .ok (.bool true) w := fun _ => by kernel_rfl
          by_cases hA : nn < 0 ∨ (lvs.length : Int) ≤ nn
          · go_wp2_with fail
            refine hlv.mono ?_
            rintro e w4 ⟨rfl, rfl⟩
            clear hlv
            go_wp2_with fail
            refine (side_out HS.out.ps hA).mono ?_
            rintro e w5 ⟨rfl, q, rfl⟩
            go_wp2_with fail
            refine (atm_out (HS.out.ps.drewN q) hA).mono ?_
            rintro e w6 ⟨rfl, hb⟩
            rw [show cev zc = .agg #[.int .i16 0, .int .i16 0, .int .i64 0] from rfl]
            have hZ := Blk.mk w6 38 (cec zc)
            have q0 : (w6.alloc (.cells #[.int .i16 0, .int .i16 0, .int .i64 0] 38)).cell? ⟨w6.heap.size, 0, Option.none⟩ = some (.int .i16 0) := hZ.cell 0
            have q1 : (w6.alloc (.cells #[.int .i16 0, .int .i16 0, .int .i64 0] 38)).cell? ⟨w6.heap.size, 1, Option.none⟩ = some (.int .i16 0) := hZ.cell 1
            have q2 : (w6.alloc (.cells #[.int .i16 0, .int .i16 0, .int .i64 0] 38)).cell? ⟨w6.heap.size, 2, Option.none⟩ = some (.int .i64 0) := hZ.cell 2
            have S6 := ((HS.out.drewN q).next hb).next (_root_.Go.Proofs.Ytoaagemofjddiaa.bl w6 (.cells #[.int .i16 0, .int .i16 0, .int .i64 0] 38))
            have hlv6 := levels_any S6.ps
            have HS6 := Lib.hid S6
            clear hb S6 hZ
            by_cases hn0 : nn < 0
            · have n1 : decide (nn < 0) = true := decide_eq_true hn0
              clear hA hlv6
              go_wp2_with fail
              refine (works36_any _).mono ?_
              rintro e w9 ⟨rfl, hb9⟩
              go_wp2
              go_ret
              exact ⟨rfl, bt HS6.out.keep hb9⟩
            · have n1 : decide (nn < 0) = false := decide_eq_false hn0
              have n2 : (top : Int) + 1 ≤ nn := by omega
              have n3 : decide ((top : Int) + 1 ≤ nn) = true := decide_eq_true n2
              clear hA
              go_wp2_with fail
              refine hlv6.mono ?_
              rintro e w7 ⟨rfl, rfl⟩
              clear hlv6
              go_wp2_with fail
              refine (works36_any _).mono ?_
              rintro e w9 ⟨rfl, hb9⟩
              go_wp2
              go_ret
              exact ⟨rfl, bt HS6.out.keep hb9⟩
          · obtain ⟨kk, rfl⟩ : ∃ kk : Nat, nn = (kk : Int) := ⟨nn.toNat, by omega⟩
            have hkl : kk < lvs.length := by omega
            have hk1 : lvs[kk]? = some lvs[kk] := List.getElem?_eq_getElem hkl
            have hw1 := HI.out.wd kk hkl
            have hh1 := HI.out.h kk hkl
            have hsi := side_in HS.out.ps hk1
            have p1 := side_self2 W kk
            have p2 := side_self2 H kk
            have n1 : decide ((kk : Int) < 0) = false := decide_eq_false (by omega)
            have n2 : ¬ (top : Int) + 1 ≤ (kk : Int) := by omega
            have n3 : decide ((top : Int) + 1 ≤ (kk : Int)) = false := decide_eq_false n2
            have n4 : ¬ top + 1 ≤ kk := by omega
            rw [← hw1] at p1
            rw [← hh1] at p2
            generalize lvs[kk] = l at *
            clear hw1 hh1 hA hkl
            go_wp2_with fail
            refine hlv.mono ?_
            rintro e w4 ⟨rfl, rfl⟩
            clear hlv
            go_wp2_with fail
            refine hsi.mono ?_
            rintro e w5 ⟨rfl, q, rfl⟩
            clear hsi
            by_cases hB : xx < 0 ∨ (l.wd : Int) ≤ xx ∨ yy < 0 ∨ (l.h : Int) ≤ yy
            · have hbe := atm_beside (HS.out.ps.drewN q) hk1 hB
              clear hk1
              by_cases b1 : xx < 0
              · have x1 : decide ((0 : Int) ≤ xx) = false := decide_eq_false (by omega)
                have x1' : ¬ (0 : Int) ≤ xx := by omega
                clear hB
                go_wp2_with fail
                refine hbe.mono ?_
                rintro e w6 ⟨rfl, hb⟩
                rw [show cev zc = .agg #[.int .i16 0, .int .i16 0, .int .i64 0] from rfl]
                have hZ := Blk.mk w6 38 (cec zc)
                have q0 : (w6.alloc (.cells #[.int .i16 0, .int .i16 0, .int .i64 0] 38)).cell? ⟨w6.heap.size, 0, Option.none⟩ = some (.int .i16 0) := hZ.cell 0
                have q1 : (w6.alloc (.cells #[.int .i16 0, .int .i16 0, .int .i64 0] 38)).cell? ⟨w6.heap.size, 1, Option.none⟩ = some (.int .i16 0) := hZ.cell 1
                have q2 : (w6.alloc (.cells #[.int .i16 0, .int .i16 0, .int .i64 0] 38)).cell? ⟨w6.heap.size, 2, Option.none⟩ = some (.int .i64 0) := hZ.cell 2
                have S6 := ((HS.out.drewN q).next hb).next (_root_.Go.Proofs.Ytoaagemofjddiaa.bl w6 (.cells #[.int .i16 0, .int .i16 0, .int .i64 0] 38))
                have hlv6 := levels_any S6.ps
                have HS6 := Lib.hid S6
                clear hb S6 hZ
                go_wp2_with fail
                refine hlv6.mono ?_
                rintro e w7 ⟨rfl, rfl⟩
                clear hlv6
                go_wp2_with fail
                refine (works36_any _).mono ?_
                rintro e w9 ⟨rfl, hb9⟩
                go_wp2
                go_ret
                exact ⟨rfl, bt HS6.out.keep hb9⟩
              · have x1 : decide ((0 : Int) ≤ xx) = true := decide_eq_true (by omega)
                by_cases b2 : (l.wd : Int) ≤ xx
                · have x2 : decide (xx < (l.wd : Int)) = false := decide_eq_false (by omega)
                  clear hB
                  go_wp2_with fail
                  refine hbe.mono ?_
                  rintro e w6 ⟨rfl, hb⟩
                  rw [show cev zc = .agg #[.int .i16 0, .int .i16 0, .int .i64 0] from rfl]
                  have hZ := Blk.mk w6 38 (cec zc)
                  have q0 : (w6.alloc (.cells #[.int .i16 0, .int .i16 0, .int .i64 0] 38)).cell? ⟨w6.heap.size, 0, Option.none⟩ = some (.int .i16 0) := hZ.cell 0
                  have q1 : (w6.alloc (.cells #[.int .i16 0, .int .i16 0, .int .i64 0] 38)).cell? ⟨w6.heap.size, 1, Option.none⟩ = some (.int .i16 0) := hZ.cell 1
                  have q2 : (w6.alloc (.cells #[.int .i16 0, .int .i16 0, .int .i64 0] 38)).cell? ⟨w6.heap.size, 2, Option.none⟩ = some (.int .i64 0) := hZ.cell 2
                  have S6 := ((HS.out.drewN q).next hb).next (_root_.Go.Proofs.Ytoaagemofjddiaa.bl w6 (.cells #[.int .i16 0, .int .i16 0, .int .i64 0] 38))
                  have hlv6 := levels_any S6.ps
                  have HS6 := Lib.hid S6
                  clear hb S6 hZ
                  go_wp2_with fail
                  refine hlv6.mono ?_
                  rintro e w7 ⟨rfl, rfl⟩
                  clear hlv6
                  go_wp2_with fail
                  refine (works36_any _).mono ?_
                  rintro e w9 ⟨rfl, hb9⟩
                  go_wp2
                  go_ret
                  exact ⟨rfl, bt HS6.out.keep hb9⟩
                · have x2 : decide (xx < (l.wd : Int)) = true := decide_eq_true (by omega)
                  by_cases b3 : yy < 0
                  · have x3 : decide ((0 : Int) ≤ yy) = false := decide_eq_false (by omega)
                    clear hB
                    go_wp2_with fail
                    refine hbe.mono ?_
                    rintro e w6 ⟨rfl, hb⟩
                    rw [show cev zc = .agg #[.int .i16 0, .int .i16 0, .int .i64 0] from rfl]
                    have hZ := Blk.mk w6 38 (cec zc)
                    have q0 : (w6.alloc (.cells #[.int .i16 0, .int .i16 0, .int .i64 0] 38)).cell? ⟨w6.heap.size, 0, Option.none⟩ = some (.int .i16 0) := hZ.cell 0
                    have q1 : (w6.alloc (.cells #[.int .i16 0, .int .i16 0, .int .i64 0] 38)).cell? ⟨w6.heap.size, 1, Option.none⟩ = some (.int .i16 0) := hZ.cell 1
                    have q2 : (w6.alloc (.cells #[.int .i16 0, .int .i16 0, .int .i64 0] 38)).cell? ⟨w6.heap.size, 2, Option.none⟩ = some (.int .i64 0) := hZ.cell 2
                    have S6 := ((HS.out.drewN q).next hb).next (_root_.Go.Proofs.Ytoaagemofjddiaa.bl w6 (.cells #[.int .i16 0, .int .i16 0, .int .i64 0] 38))
                    have hlv6 := levels_any S6.ps
                    have HS6 := Lib.hid S6
                    clear hb S6 hZ
                    go_wp2_with fail
                    refine hlv6.mono ?_
                    rintro e w7 ⟨rfl, rfl⟩
                    clear hlv6
                    go_wp2_with fail
                    refine (works36_any _).mono ?_
                    rintro e w9 ⟨rfl, hb9⟩
                    go_wp2
                    go_ret
                    exact ⟨rfl, bt HS6.out.keep hb9⟩
                  · have x3 : decide ((0 : Int) ≤ yy) = true := decide_eq_true (by omega)
                    have b4 : (l.h : Int) ≤ yy := by omega
                    have x4 : decide (yy < (l.h : Int)) = false := decide_eq_false (by omega)
                    clear hB
                    go_wp2_with fail
                    refine hbe.mono ?_
                    rintro e w6 ⟨rfl, hb⟩
                    rw [show cev zc = .agg #[.int .i16 0, .int .i16 0, .int .i64 0] from rfl]
                    have hZ := Blk.mk w6 38 (cec zc)
                    have q0 : (w6.alloc (.cells #[.int .i16 0, .int .i16 0, .int .i64 0] 38)).cell? ⟨w6.heap.size, 0, Option.none⟩ = some (.int .i16 0) := hZ.cell 0
                    have q1 : (w6.alloc (.cells #[.int .i16 0, .int .i16 0, .int .i64 0] 38)).cell? ⟨w6.heap.size, 1, Option.none⟩ = some (.int .i16 0) := hZ.cell 1
                    have q2 : (w6.alloc (.cells #[.int .i16 0, .int .i16 0, .int .i64 0] 38)).cell? ⟨w6.heap.size, 2, Option.none⟩ = some (.int .i64 0) := hZ.cell 2
                    have S6 := ((HS.out.drewN q).next hb).next (_root_.Go.Proofs.Ytoaagemofjddiaa.bl w6 (.cells #[.int .i16 0, .int .i16 0, .int .i64 0] 38))
                    have hlv6 := levels_any S6.ps
                    have HS6 := Lib.hid S6
                    clear hb S6 hZ
                    go_wp2_with fail
                    refine hlv6.mono ?_
                    rintro e w7 ⟨rfl, rfl⟩
                    clear hlv6
                    go_wp2_with fail
                    refine (works36_any _).mono ?_
                    rintro e w9 ⟨rfl, hb9⟩
                    go_wp2
                    go_ret
                    exact ⟨rfl, bt HS6.out.keep hb9⟩
            · obtain ⟨x, rfl⟩ : ∃ x : Nat, xx = (x : Int) := ⟨xx.toNat, by omega⟩
              obtain ⟨y, rfl⟩ : ∃ y : Nat, yy = (y : Int) := ⟨yy.toNat, by omega⟩
              have hin := atm_in (HS.out.ps.drewN q) hk1 (x := x) (y := y) (by omega) (by omega) (by omega) (by omega)
              have x1 : decide ((0 : Int) ≤ (x : Int)) = true := decide_eq_true (by omega)
              have x2 : decide ((x : Int) < (l.wd : Int)) = true := decide_eq_true (by omega)
              have x3 : decide ((0 : Int) ≤ (y : Int)) = true := decide_eq_true (by omega)
              have x4 : decide ((y : Int) < (l.h : Int)) = true := decide_eq_true (by omega)
              have x2' : decide (x < l.wd) = true := decide_eq_true (by omega)
              have x4' : decide (y < l.h) = true := decide_eq_true (by omega)
              clear hB hk1
              generalize l.L.getD (y * l.wd + x) zc = c at *
              unfold GotAt cev at hin
              go_wp2_with fail
              refine hin.mono ?_
              rintro e w6 ⟨rfl, hb⟩
              have S6 := ((HS.out.drewN q).next hb).next (_root_.Go.Proofs.Ytoaagemofjddiaa.bl w6 (.cells #[.int .i16 c.lo, .int .i16 c.hi, .int .i64 (c.n : Int)] 38))
              have hlv6 := levels_any S6.ps
              have HS6 := Lib.hid S6
              clear hb S6 hin
              go_wp2_with fail
              refine hlv6.mono ?_
              rintro e w7 ⟨rfl, rfl⟩
              clear hlv6
              go_wp2_with fail
              refine (works36_any _).mono ?_
              rintro e w9 ⟨rfl, hb9⟩
              go_wp2
              go_ret
              exact ⟨rfl, bt HS6.out.keep hb9⟩
theorem walkCells (v0 v1 v2 v3 v4 v5 v6 : Value) (W : World) (h0 : VSat W (.int .u8) false v0) (h1 : VSat W (.int .u8) false v1) (h2 : VSat W (.slice (.int .i16)) false v2) (h3 : VSat W (.cat (.int .i64) (.cat (.int .i64) (.cat (.slice (.int .i16)) .unit))) true v3) (h4 : VSat W (.int .i64) false v4) (h5 : VSat W (.int .i64) false v5) (h6 : VSat W (.int .i64) false v6) :
    Calls Try.prog 3 #[v0, v1, v2, v3, v4, v5, v6] W fun e W' => e = .returned (.bool true) ∧ Below W.heap.size W W' := by
  obtain ⟨a, rfl, ha⟩ := open_u8 h0
  obtain ⟨b, rfl, hb⟩ := open_u8 h1
  obtain ⟨A, Z, cap, rfl, hr, hz, hc, _, _⟩ := open_i16 h2
  obtain ⟨cs, rfl, _, _, rfl, ⟨fW, rfl, _⟩, _, _, rfl, ⟨fH, rfl, _⟩, asx, _, rfl, h9, rfl⟩ := h3
  obtain ⟨n, e, _⟩ := h4
  injection e with e
  subst e
  obtain ⟨x, e, _⟩ := h5
  injection e with e
  subst e
  obtain ⟨y, e, _⟩ := h6
  injection e with e
  subst e
  have hlen := Sh.Sat.len h9
  obtain ⟨s, rfl⟩ : ∃ s, asx = [s] := by
    match asx, hlen with
    | [s], _ => exact ⟨s, rfl⟩
  obtain ⟨A2, Z2, cap2, rfl, hr2, _, hc2, _, _⟩ := open_i16 (v := s) h9
  by_cases h : 1000 < Z.length ∨ 1000 < Z2.length
  · exact lawCells_out a b A A2 Z.length cap Z2.length cap2 fW fH n x y h W
  · exact lawCells_core a b ha hb A A2 Z Z2 Z.length cap Z2.length cap2 fW fH n x y W hr rfl hc hz hr2 rfl hc2 h
end Pyr
end Go.Proofs.Ytoaagemofjddiaa
