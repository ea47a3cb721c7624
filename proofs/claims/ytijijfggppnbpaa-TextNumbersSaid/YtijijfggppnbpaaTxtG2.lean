/-
  The walk of package text: what frame a line is, its numbers.
-/
import Derived.Test.YtijijfggppnbpaaTxtG
namespace Go.Proofs.Ytijijfggppnbpaa
open Go.RowKit
set_option linter.unusedVariables false
namespace Txt
open Frm (Fr codeF numK numN GotF)

theorem lo_cases (i : Nat) : (i = 0 ∧ lo i = 0 ∧ hi i = 65535) ∨ (i = 1 ∧ lo i = 0 ∧ hi i = 4294967295) ∨ (2 ≤ i ∧ lo i = -2147483648 ∧ hi i = 2147483647) := by
  by_cases h0 : i = 0
  · subst h0; exact .inl ⟨rfl, rfl, rfl⟩
  by_cases h1 : i = 1
  · subst h1; exact .inr (.inl ⟨rfl, rfl, rfl⟩)
  · refine .inr (.inr ⟨by omega, ?_, ?_⟩)
    · unfold lo; rw [if_neg (by omega)]
    · unfold hi; rw [if_neg h0, if_neg h1]
/-- the state of the loop over the numbers -/
structure Gs (t : TypeId) (w : World) (g : Nat) (A : Option Addr) (vs : List (List UInt8)) (i : Nat) (wr : World) : Prop where
  res : Blk wr w.heap.size 25 zeroF.cells
  xs : Blk wr g t ((xsAt vs i).map (.int .i64))
  ws : RdL wr (w.heap.size + 1) g A (vs.map sv)
  below : Below w.heap.size w wr
  sc : scan 0 vs = scan i (vs.drop i)
  lt : w.heap.size < g
theorem Gs.next {t : TypeId} {w wr w' : World} {g : Nat} {A : Option Addr} {vs : List (List UInt8)} {i : Nat} (S : Gs t w g A vs i wr) (hb : Below wr.heap.size wr w') : Gs t w g A vs i w' :=
  ⟨S.res.next hb, S.xs.next hb, S.ws.next hb, _root_.Go.Proofs.Ytijijfggppnbpaa.bt S.below hb, S.sc, S.lt⟩
theorem Gs.step {t : TypeId} {w wr : World} {g : Nat} {A : Option Addr} {vs : List (List UInt8)} {i : Nat} (S : Gs t w g A vs i wr) (h : i < vs.length) (h5 : i < 5) (hw : wcode i vs[i] = 0) : Gs t w g A vs (i + 1) (wr.setCell ⟨g, i, none⟩ (.int .i64 (numVal vs[i]))) := by
  refine ⟨S.res.far (by have := S.lt; show w.heap.size ≠ g; omega) _, ?_, S.ws.far (.inr (Nat.le_refl _)) _, S.below.setCell (p := ⟨g, i, none⟩) (Nat.le_of_lt S.lt) _, ?_, S.lt⟩
  · rw [← xsAt_set vs i h h5, List.map_set]
    exact S.xs.put i _
  · rw [S.sc, scan_step vs i h, if_pos hw]
set_option maxRecDepth 100000 in
set_option maxHeartbeats 1000000 in
theorem xget_main (l : List UInt8) (hl : l.length ≤ 1000000) (w0 : List UInt8) (vs : List (List UInt8)) (hw : words l = some (w0 :: vs)) (hv80 : ∀ v ∈ w0 :: vs, v.length ≤ 80) (n : Nat) (hn : numN (kindOf w0) = n) (hn3 : n ≤ 3) (hk1 : 1 ≤ kindOf w0) (hk7 : kindOf w0 ≤ 7) (hvl : vs.length = 2 + n)
    (hyes : scan 0 vs = 0 → getR l = (mkF (kindOf w0) vs, 0)) (hno : scan 0 vs ≠ 0 → getR l = (zeroF, scan 0 vs)) (w : World) : Calls Try.prog 39 #[.string (tx l)] w (GotG w l) := by
  have hwd := fun w => xWords_any l hl w
  have hkd := fun w => xKind_any w0 w
  have hnm := fun w => Frm.numbers_any ((kindOf w0 : Nat) : Int) w
  have hnk : numK ((kindOf w0 : Nat) : Int) = n := by unfold numK; rw [← hn]; rfl
  rw [hnk] at hnm
  have HP0 := Lib.hid (Blk.mk w 25 zeroF.cells)
  have HB0 := Lib.hid (bl w (.cells zeroF.cells.toArray 25))
  have HW := Lib.hid hw
  have HYes := Lib.hid hyes
  have HNo := Lib.hid hno
  have HN := Lib.hid hn
  obtain ⟨K, hK⟩ : ∃ k, kindOf w0 = k := ⟨_, rfl⟩
  rw [hK] at hnm hk1 hk7 HYes HN
  have HK := Lib.hid hK
  have HV := Lib.hid (show ∀ i (h : i < vs.length), vs[i].length ≤ 80 from fun i h => hv80 _ (List.mem_cons_of_mem _ (List.getElem_mem h)))
  have HVL := Lib.hid hvl
  have hk0 : ((K : Int) == 0) = false := beq_eq_false_iff_ne.2 (by omega)
  clear hw hyes hno hnk hn hK hv80
  have h3n : IntKind.i64.wrap (3 + (n : Int)) = 3 + (n : Int) := IntWalk.i64_in _ (by omega)
  go_enter Try.func39, Try.ntmps39
  go_wp2_with fail
  refine (hwd _).mono ?_
  rintro e w1 ⟨⟨v, bb, rfl, hc⟩, hb⟩
  rcases hc with ⟨out, h1, rfl, hown⟩ | ⟨h1, _, _⟩
  case inr => exact absurd (h1.symm.trans HW.out) (by simp)
  obtain rfl : out = w0 :: vs := Option.some.inj (h1.symm.trans HW.out)
  obtain ⟨A, cap, rfl, hrd, hnc, hcm, _⟩ := own_rd hown
  obtain ⟨b, off, rfl, _, _, _, hcell⟩ := hrd.some (by simp)
  have c0 : w1.cell? ⟨b, off, none⟩ = some (.string (tx w0)) := hcell 0 (sv w0) rfl
  have hrd1 := hrd.drop 1
  rw [List.map_cons, List.drop_succ_cons, List.drop_zero] at hrd1
  obtain ⟨M, hM⟩ : ∃ m, m = (w0 :: vs).length := ⟨_, rfl⟩
  have hM2 : M = 3 + n := by rw [hM, List.length_cons]; omega
  rw [← hM] at hnc ⊢
  have HM := Lib.hid hM2
  have i0 : (0 : Int) < (M : Int) := by omega
  have i1 : (1 : Int) ≤ (M : Int) := by omega
  have i2 : 1 ≤ M := by omega
  have i3 : 1 < cap := by omega
  have i4 : ¬ cap = 1 := by omega
  have hm0 : ((M : Int) - 1) = 2 + (n : Int) := by omega
  have hne1 : ((M : Int) == 3 + (n : Int)) = true := beq_iff_eq.2 (by omega)
  have hne2 : ((M : Int) != 3 + (n : Int)) = false := by rw [bne, hne1]; rfl
  have HP1 := Lib.hid (HP0.out.next hb)
  have HB1 := Lib.hid (_root_.Go.Proofs.Ytijijfggppnbpaa.bt HB0.out hb)
  have HR1 : Hid (RdL w1 (w.heap.size + 1) w1.heap.size (some ⟨b, off + 1, none⟩) (vs.map sv)) := Lib.hid (hrd1.wide (by simp) (Nat.le_refl _))
  have Hm0 := Lib.hid hm0
  clear hb hwd HB0 HP0 hown hrd hcell h1 hM hM2 hvl hrd1 hm0
  go_wp2_with fail
  refine (hkd _).mono ?_
  rintro e w2 ⟨k, rfl, hik, rfl⟩
  obtain rfl : k = K := by rw [hik.eq, HK.out]
  clear hik
  go_wp2_with fail
  refine (hnm _).mono ?_
  rintro e w3 ⟨rfl, hb3⟩
  have hs1 : w.heap.size < w3.heap.size := (HP1.out.next hb3).lt
  have hsx : w1.heap.size ≤ w3.heap.size := hb3.size
  have HS : Hid (Gs 100 w w3.heap.size (some ⟨b, off + 1, none⟩) vs 0 (w3.alloc (.cells #[.int .i64 0, .int .i64 0, .int .i64 0, .int .i64 0, .int .i64 0] 100))) :=
    Lib.hid ⟨(HP1.out.next hb3).alloc _, Blk.mk w3 100 ((xsAt vs 0).map (.int .i64)), ((HR1.out.next hb3).alloc _).wide (Nat.le_refl _) hsx, (_root_.Go.Proofs.Ytijijfggppnbpaa.bt HB1.out hb3).alloc (by omega) _, rfl, hs1⟩
  clear hb3 HP1 HB1 HR1 hsx
  go_wp2_with fail
  obtain ⟨m, hm⟩ : ∃ m, m = M - 1 := ⟨_, rfl⟩
  rw [← hm]
  have hm2 : m = 2 + n := by have := HM.out; omega
  have hm5 : m ≤ 5 := by omega
  have Hm2 := Lib.hid hm2
  have HVL2 : Hid (vs.length = m) := Lib.hid (by rw [HVL.out, hm2])
  clear hm hm2 HM Hm0 hne1 hne2 h3n i0 i1 i2 i3 i4 hnc hcm c0 hnm hkd hk0 HVL
  generalize w3.heap.size = g at *
  go_loopw [39] (fun u wr => ∃ i : Nat, i ≤ m ∧ u = .int .i64 (i : Int) ∧ Gs 100 w g (some ⟨b, off + 1, none⟩) vs i wr) (fun u _ => m - (intOf u).toNat)
  case atStart => exact ⟨0, by omega, rfl, HS.out⟩
  case round =>
    clear HS
    obtain ⟨i, him, rfl, hs⟩ := hrel
    have HS := Lib.hid hs
    clear hs
    by_cases hlt : i < m
    · have hltI : (i : Int) < (m : Int) := by omega
      have h0i : (0 : Int) ≤ (i : Int) := by omega
      have hi5 : (i : Int) < 5 := by omega
      have hiv : i < vs.length := by rw [HVL2.out]; exact hlt
      have hsz := HS.out.lt
      have hstep := fun h => HS.out.step hiv (by omega) h
      have hscn := scan_step vs i hiv
      rw [← HS.out.sc] at hscn
      have hv80 := HV.out i hiv
      obtain ⟨_, _, e1, _, _, _, hcl⟩ := HS.out.ws.some (by rw [List.length_map]; omega)
      injection e1 with e1
      injection e1 with e1 e2
      subst e1 e2
      have c1 := hcl i (sv vs[i]) (by rw [List.getElem?_map, List.getElem?_eq_getElem hiv]; rfl)
      unfold sv at c1
      clear hcl
      obtain ⟨v, hv⟩ : ∃ v, v = vs[i] := ⟨_, rfl⟩
      rw [← hv] at c1 hv80 hstep hscn
      have hnum := fun w => xIsNumber_any v (by omega) w
      by_cases hn : isNum v = true
      · have hres : resV v = numVal v := isNum_yes v hn
        rw [hn, hres] at hnum
        have hw0 : ¬ (numVal v < lo i ∨ hi i < numVal v) → wcode i v = 0 := fun h => by unfold wcode; rw [if_pos hn, if_neg h]
        have hw2 : (numVal v < lo i ∨ hi i < numVal v) → scan 0 vs = 2 := fun h => by
          have : wcode i v = 2 := by unfold wcode; rw [if_pos hn, if_pos h]
          rw [hscn, this, if_neg (by decide)]
        have HV1 := Lib.hid hv
        obtain ⟨x, hx⟩ : ∃ x, x = numVal v := ⟨_, rfl⟩
        rw [← hx] at hw0 hw2 hnum
        have HX := Lib.hid hx
        have HW0 := Lib.hid hw0
        have HW2 := Lib.hid hw2
        clear hw0 hw2 hstep hscn hn hres hv hx
        have hlc := lo_cases i
        obtain ⟨lw, hlw⟩ : ∃ y, y = lo i := ⟨_, rfl⟩
        obtain ⟨hw, hhw⟩ : ∃ y, y = hi i := ⟨_, rfl⟩
        rw [← hlw, ← hhw] at HW0 HW2 hlc
        clear hlw hhw
        by_cases hbad1 : x < lw
        · have hsc := HW2.out (.inl hbad1)
          have HR := Lib.hid (HNo.out (by rw [hsc]; decide))
          have HSC := Lib.hid hsc
          clear hsc HW0 HW2
          rcases hlc with ⟨rfl, rfl, rfl⟩ | ⟨rfl, rfl, rfl⟩ | ⟨hi2, rfl, rfl⟩
          all_goals
            try have ib0 : ((i : Int) == 0) = false := beq_eq_false_iff_ne.2 (by omega)
            try have ib1 : ((i : Int) == 1) = false := beq_eq_false_iff_ne.2 (by omega)
            go_wp2_with fail
            refine (hnum _).mono ?_
            rintro e w4 ⟨rfl, hb4⟩
            have HS2 := Lib.hid (HS.out.next hb4)
            have HP2 := Lib.hid HS2.out.res
            clear hb4 hnum HS
            go_wp2_with (refine wpList_store_row rfl 25 _ _ rfl w.heap.size zeroF.cells.toArray rfl rfl _ _ HP2.out (by kernel_rfl) rfl (fr_one zeroF) ?_)
            refine bodyPost_ret (results_cell_tmp_row rfl _ _ w.heap.size 25 _ (0, 0) _ rfl (HP2.out.row zeroF.cells) Try.underlying25 rfl (by kernel_rfl)) rfl ?_
            exact GotG.no (by rw [HR.out, HSC.out]) (Below.row HS2.out.below (Nat.le_refl _) _)
        · by_cases hbad2 : hw < x
          · have hsc := HW2.out (.inr hbad2)
            have HR := Lib.hid (HNo.out (by rw [hsc]; decide))
            have HSC := Lib.hid hsc
            clear hsc HW0 HW2
            rcases hlc with ⟨rfl, rfl, rfl⟩ | ⟨rfl, rfl, rfl⟩ | ⟨hi2, rfl, rfl⟩
            all_goals
              try have ib0 : ((i : Int) == 0) = false := beq_eq_false_iff_ne.2 (by omega)
              try have ib1 : ((i : Int) == 1) = false := beq_eq_false_iff_ne.2 (by omega)
              go_wp2_with fail
              refine (hnum _).mono ?_
              rintro e w4 ⟨rfl, hb4⟩
              have HS2 := Lib.hid (HS.out.next hb4)
              have HP2 := Lib.hid HS2.out.res
              clear hb4 hnum HS
              go_wp2_with (refine wpList_store_row rfl 25 _ _ rfl w.heap.size zeroF.cells.toArray rfl rfl _ _ HP2.out (by kernel_rfl) rfl (fr_one zeroF) ?_)
              refine bodyPost_ret (results_cell_tmp_row rfl _ _ w.heap.size 25 _ (0, 0) _ rfl (HP2.out.row zeroF.cells) Try.underlying25 rfl (by kernel_rfl)) rfl ?_
              exact GotG.no (by rw [HR.out, HSC.out]) (Below.row HS2.out.below (Nat.le_refl _) _)
          · have hwc := HW0.out (fun h => h.elim hbad1 hbad2)
            have HWC := Lib.hid hwc
            clear HW0 HW2 hwc
            rcases hlc with ⟨rfl, rfl, rfl⟩ | ⟨rfl, rfl, rfl⟩ | ⟨hi2, rfl, rfl⟩
            all_goals
              try have ib0 : ((i : Int) == 0) = false := beq_eq_false_iff_ne.2 (by omega)
              try have ib1 : ((i : Int) == 1) = false := beq_eq_false_iff_ne.2 (by omega)
              go_wp2_with fail
              refine (hnum _).mono ?_
              rintro e w4 ⟨rfl, hb4⟩
              have HS2 := Lib.hid (HS.out.next hb4)
              clear hb4 hnum HS
            · have hlx : 0 < (xsAt vs 0).length := by show 0 < 5; omega
              have cx : w4.cell? ⟨g, 0, none⟩ = some (.int .i64 ((xsAt vs 0)[0]'hlx)) := by rw [HS2.out.xs.cell, List.getElem?_map, List.getElem?_eq_getElem hlx]; rfl
              have fx := HS2.out.xs.free 0
              have hS := HS2.out.step hiv (by omega) (by rw [← HV1.out]; exact HWC.out)
              rw [← HV1.out, ← HX.out] at hS
              have HS3 := Lib.hid hS
              clear hS
              go_wp2_with fail
              go_roundw
              case rel => exact ⟨1, by omega, rfl, HS3.out⟩
              case measure => first | (simp [intOf]; done) | (simp [intOf]; omega)
            · have hlx : 1 < (xsAt vs 1).length := by show 1 < 5; omega
              have cx : w4.cell? ⟨g, 1, none⟩ = some (.int .i64 ((xsAt vs 1)[1]'hlx)) := by rw [HS2.out.xs.cell, List.getElem?_map, List.getElem?_eq_getElem hlx]; rfl
              have fx := HS2.out.xs.free 1
              have hS := HS2.out.step hiv (by omega) (by rw [← HV1.out]; exact HWC.out)
              rw [← HV1.out, ← HX.out] at hS
              have HS3 := Lib.hid hS
              clear hS
              go_wp2_with fail
              go_roundw
              case rel => exact ⟨2, by omega, rfl, HS3.out⟩
              case measure => first | (simp [intOf]; done) | (simp [intOf]; omega)
            · have hlx : i < (xsAt vs i).length := by show i < 5; omega
              have cx : w4.cell? ⟨g, i, none⟩ = some (.int .i64 ((xsAt vs i)[i]'hlx)) := by rw [HS2.out.xs.cell, List.getElem?_map, List.getElem?_eq_getElem hlx]; rfl
              have fx := HS2.out.xs.free i
              have hS := HS2.out.step hiv (by omega) (by rw [← HV1.out]; exact HWC.out)
              rw [← HV1.out, ← HX.out] at hS
              have HS3 := Lib.hid hS
              clear hS
              go_wp2_with fail
              go_roundw
              case rel => exact ⟨i + 1, by omega, by go_num, HS3.out⟩
              case measure => first | (simp [intOf]; done) | (simp [intOf]; omega)
      · have hnf : isNum v = false := by cases h : isNum v <;> simp_all
        rw [hnf, isNum_no v hnf] at hnum
        have hsc : scan 0 vs = 3 := by
          have : wcode i v = 3 := by unfold wcode; rw [if_neg hn]
          rw [hscn, this, if_neg (by decide)]
        have HR := Lib.hid (HNo.out (by rw [hsc]; decide))
        have HSC := Lib.hid hsc
        clear hsc hstep hscn hn hnf hv
        go_wp2_with fail
        refine (hnum _).mono ?_
        rintro e w4 ⟨rfl, hb4⟩
        have HS2 := Lib.hid (HS.out.next hb4)
        have HP2 := Lib.hid HS2.out.res
        clear hb4 hnum HS
        go_wp2_with (refine wpList_store_row rfl 25 _ _ rfl w.heap.size zeroF.cells.toArray rfl rfl _ _ HP2.out (by kernel_rfl) rfl (fr_one zeroF) ?_)
        refine bodyPost_ret (results_cell_tmp_row rfl _ _ w.heap.size 25 _ (0, 0) _ rfl (HP2.out.row zeroF.cells) Try.underlying25 rfl (by kernel_rfl)) rfl ?_
        exact GotG.no (by rw [HR.out, HSC.out]) (Below.row HS2.out.below (Nat.le_refl _) _)
    · obtain rfl : i = m := by omega
      have hsc : scan 0 vs = 0 := by
        rw [HS.out.sc, List.drop_of_length_le (by rw [HVL2.out]; exact Nat.le_refl _)]
        rfl
      obtain ⟨mk1, _, _⟩ := mk_of k n vs ⟨hk1, hk7⟩ HN.out hn3 (by rw [HVL2.out, Hm2.out]) hsc
      have hxs := HS.out.xs
      have hall := xsAt_all vs
      rw [HVL2.out] at hall
      rw [hall] at hxs
      have e0 : wr.cell? ⟨g, 0, none⟩ = some (.int .i64 (valAt vs 0)) := hxs.cell 0
      have e1 : wr.cell? ⟨g, 1, none⟩ = some (.int .i64 (valAt vs 1)) := hxs.cell 1
      have e2 : wr.cell? ⟨g, 2, none⟩ = some (.int .i64 (valAt vs 2)) := hxs.cell 2
      have e3 : wr.cell? ⟨g, 3, none⟩ = some (.int .i64 (valAt vs 3)) := hxs.cell 3
      have e4 : wr.cell? ⟨g, 4, none⟩ = some (.int .i64 (valAt vs 4)) := hxs.cell 4
      have q := mk1.q
      have t := mk1.t
      have hb0 : 0 ≤ valAt vs 0 ∧ 0 ≤ valAt vs 1 := by
        have hz := (scan_zero vs 0).1 hsc
        have l0 : 0 < vs.length := by rw [HVL2.out, Hm2.out]; omega
        have l1 : 1 < vs.length := by rw [HVL2.out, Hm2.out]; omega
        have z0 : lo 0 ≤ numVal vs[0] ∧ numVal vs[0] ≤ hi 0 := wcode_le (hz 0 l0)
        have z1 : lo 1 ≤ numVal vs[1] ∧ numVal vs[1] ≤ hi 1 := wcode_le (hz 1 l1)
        have v0 : valAt vs 0 = numVal vs[0] := by unfold valAt; rw [if_pos l0, List.getD_eq_getElem?_getD, List.getElem?_eq_getElem l0]; rfl
        have v1 : valAt vs 1 = numVal vs[1] := by unfold valAt; rw [if_pos l1, List.getD_eq_getElem?_getD, List.getElem?_eq_getElem l1]; rfl
        rw [v0, v1]
        exact ⟨z0.1, z1.1⟩
      change (valAt vs 0).toNat < 65536 at q
      change (valAt vs 1).toNat < 4294967296 at t
      have u0 : IntKind.u16.wrap (valAt vs 0) = valAt vs 0 := IntWalk.u16_in _ (by omega)
      have u1 : IntKind.u32.wrap (valAt vs 1) = valAt vs 1 := IntWalk.u32_in _ (by omega)
      have u2 : IntKind.i32.wrap (valAt vs 2) = valAt vs 2 := IntWalk.i32_in _ ⟨mk1.a1, mk1.a2⟩
      have u3 : IntKind.i32.wrap (valAt vs 3) = valAt vs 3 := IntWalk.i32_in _ ⟨mk1.b1, mk1.b2⟩
      have u4 : IntKind.i32.wrap (valAt vs 4) = valAt vs 4 := IntWalk.i32_in _ ⟨mk1.c1, mk1.c2⟩
      have hcs : (mkF k vs).cells = [.int .i64 (k : Int), .int .u16 (valAt vs 0), .int .u32 (valAt vs 1), .int .i32 (valAt vs 2), .int .i32 (valAt vs 3), .int .i32 (valAt vs 4)] := by
        unfold Fr.cells mkF
        rw [show (((valAt vs 0).toNat : Nat) : Int) = valAt vs 0 by omega, show (((valAt vs 1).toNat : Nat) : Int) = valAt vs 1 by omega]
      have HC := Lib.hid hcs
      have HR := Lib.hid (HYes.out hsc)
      have hone : ([.int .i64 (k : Int), .int .u16 (valAt vs 0), .int .u32 (valAt vs 1), .int .i32 (valAt vs 2), .int .i32 (valAt vs 3), .int .i32 (valAt vs 4)] : List Value).toArray.all (·.oneCell') = true := by simp [Value.oneCell']
      have HOne := Lib.hid hone
      have HP2 := Lib.hid HS.out.res
      have hge : ¬ (i : Int) < (i : Int) := by omega
      clear hxs hall hsc mk1 q t hb0 hcs hone HNo HYes
      generalize valAt vs 0 = x0 at *
      generalize valAt vs 1 = x1 at *
      generalize valAt vs 2 = x2 at *
      generalize valAt vs 3 = x3 at *
      generalize valAt vs 4 = x4 at *
      go_wp2_with (refine wpList_store_row rfl 25 _ _ rfl w.heap.size [.int .i64 (k : Int), .int .u16 x0, .int .u32 x1, .int .i32 x2, .int .i32 x3, .int .i32 x4].toArray rfl rfl _ _ HP2.out (by kernel_rfl) rfl HOne.out ?_)
      refine bodyPost_ret (results_cell_tmp_row rfl _ _ w.heap.size 25 _ (0, 0) _ rfl (HP2.out.row [.int .i64 (k : Int), .int .u16 x0, .int .u32 x1, .int .i32 x2, .int .i32 x3, .int .i32 x4]) Try.underlying25 rfl (by kernel_rfl)) rfl ?_
      exact ⟨by rw [HR.out]; unfold Fr.v; rw [HC.out]; rfl, Below.row HS.out.below (Nat.le_refl _) _⟩
theorem xget_any (l : List UInt8) (hl : l.length ≤ 1000000) (w : World) : Calls Try.prog 39 #[.string (tx l)] w (GotG w l) := by
  rcases get_cases l with ⟨h1, h⟩ | ⟨w0, vs, hw, hv, ⟨h1, h⟩ | ⟨n, hn, hn3, k1, k7, ⟨hl2, h⟩ | ⟨hl2, hs⟩⟩⟩
  · exact xget_none l hl h1 h w
  · exact xget_kind l hl w0 vs hw h1 h w
  · refine xget_size l hl w0 vs hw n hn hn3 k1 k7 hl2 ?_ h w
    obtain ⟨h80, _, hj⟩ := words_jn hw
    have := congrArg List.length hj
    have hlj : ∀ ws : List (List UInt8), ws.length ≤ (jn ws).length := fun ws => by
      induction ws with
      | nil => exact Nat.le_refl _
      | cons a ws ih => unfold jn at ih ⊢; rw [List.flatMap_cons, List.length_append, List.length_append, List.length_cons]; simp only [List.length_cons, List.length_nil]; omega
    have h2 := hlj (w0 :: vs)
    rw [List.length_append, ] at this
    simp only [List.length_cons, List.length_nil] at this h2
    omega
  · refine xget_main l hl w0 vs hw hv n hn hn3 k1 k7 hl2 (fun h0 => ?_) (fun h0 => ?_) w
    · rcases hs with ⟨_, h⟩ | ⟨h, _⟩
      · exact h
      · exact absurd h0 h
    · rcases hs with ⟨h, _⟩ | ⟨_, h⟩
      · exact absurd h h0
      · exact h
end Txt
end Go.Proofs.Ytijijfggppnbpaa
