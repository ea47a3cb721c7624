/-
  The walk of the reference of package text: what frame a line is; the kind that its first word calls.
-/
import Derived.Test.YtijijfggppnbpaaTxtG2
namespace Go.Proofs.Ytijijfggppnbpaa
open Go.RowKit
set_option linter.unusedVariables false
namespace Txt
open Frm (Fr codeF numK numN GotF)

/-- what is known of the kind when those below k were looked at -/
def KindUp (w0 : List UInt8) (k kd : Nat) : Prop := (kd = 0 ∧ ∀ j, 1 ≤ j → j < k → wordN j ≠ w0) ∨ (1 ≤ kd ∧ kd < k ∧ wordN kd = w0)
theorem KindUp.yes {w0 : List UInt8} {k : Nat} (h1 : 1 ≤ k) (hw : wordN k = w0) : KindUp w0 (k + 1) k := .inr ⟨h1, by omega, hw⟩
theorem KindUp.no {w0 : List UInt8} {k kd : Nat} (h : KindUp w0 k kd) (hw : wordN k ≠ w0) : KindUp w0 (k + 1) kd := by
  rcases h with ⟨h1, h2⟩ | ⟨h1, h2, h3⟩
  · refine .inl ⟨h1, fun j hj1 hj2 => ?_⟩
    by_cases e : j = k
    · rw [e]; exact hw
    · exact h2 j hj1 (by omega)
  · exact .inr ⟨h1, by omega, h3⟩
theorem KindUp.eq {w0 : List UInt8} {kd : Nat} (h : KindUp w0 8 kd) : kd = kindOf w0 := by
  refine IsKind.eq (l := w0) ?_
  rcases h with ⟨h1, h2⟩ | ⟨h1, h2, h3⟩
  · exact .inl ⟨h1, fun j a b => h2 j a (by omega)⟩
  · exact .inr ⟨h1, by omega, h3⟩
/-- the result's cells, and the words -/
structure Hs (w : World) (A : Option Addr) (ws : List (List UInt8)) (wr : World) : Prop where
  res : Blk wr w.heap.size 25 zeroF.cells
  ws : RdL wr (w.heap.size + 1) wr.heap.size A (ws.map sv)
  below : Below w.heap.size w wr
theorem Hs.next {w wr w' : World} {A : Option Addr} {ws : List (List UInt8)} (S : Hs w A ws wr) (hb : Below wr.heap.size wr w') : Hs w A ws w' :=
  ⟨S.res.next hb, (S.ws.next hb).wide (Nat.le_refl _) hb.size, _root_.Go.Proofs.Ytijijfggppnbpaa.bt S.below hb⟩
theorem Hs.drew {w wr : World} {A : Option Addr} {ws : List (List UInt8)} (S : Hs w A ws wr) : Hs w A ws wr.drew := S.next (Below.refl _ _).drew
set_option maxRecDepth 100000 in
set_option maxHeartbeats 1000000 in
theorem yget_none (l : List UInt8) (hl : l.length ≤ 1000000) (hw : words l = none) (hr : getR l = (zeroF, 3)) (w : World) : Calls Try.prog 40 #[.string (tx l)] w (GotG w l) := by
  have hwd := fun w => yWords_any l hl w
  have HP0 := Lib.hid (Blk.mk w 25 zeroF.cells)
  have HB0 := Lib.hid (bl w (.cells zeroF.cells.toArray 25))
  have HW := Lib.hid hw
  have HR := Lib.hid hr
  clear hw hr
  go_enter Try.func40, Try.ntmps40
  go_wp2_with fail
  refine (hwd _).mono ?_
  rintro e w1 ⟨⟨v, b, rfl, hc⟩, hb⟩
  rcases hc with ⟨out, h1, _⟩ | ⟨_, rfl, rfl⟩
  · exact absurd (h1.symm.trans HW.out) (by simp)
  have HP1 := Lib.hid (HP0.out.next hb)
  have HB1 := Lib.hid (_root_.Go.Proofs.Ytijijfggppnbpaa.bt HB0.out hb)
  clear hb hwd HB0 HP0
  go_wp2_with (refine wpList_store_row rfl 25 _ _ rfl w.heap.size zeroF.cells.toArray rfl rfl _ _ HP1.out (by kernel_rfl) rfl (fr_one zeroF) ?_)
  refine bodyPost_ret (results_cell_tmp_row rfl _ _ w.heap.size 25 _ (0, 0) _ rfl (HP1.out.row zeroF.cells) Try.underlying25 rfl (by kernel_rfl)) rfl ?_
  exact GotG.no HR.out (Below.row HB1.out (Nat.le_refl _) _)
set_option maxRecDepth 100000 in
set_option maxHeartbeats 1000000 in
theorem yget_some (l : List UInt8) (hl : l.length ≤ 1000000) (w0 : List UInt8) (vs : List (List UInt8)) (hw : words l = some (w0 :: vs)) (hv80 : ∀ v ∈ w0 :: vs, v.length ≤ 80) (hvl1 : vs.length ≤ 1000000) (w : World) : Calls Try.prog 40 #[.string (tx l)] w (GotG w l) := by
  have hwd := fun w => yWords_any l hl w
  have HP0 := Lib.hid (Blk.mk w 25 zeroF.cells)
  have HB0 := Lib.hid (bl w (.cells zeroF.cells.toArray 25))
  have HW := Lib.hid hw
  have HV := Lib.hid (show ∀ i (h : i < vs.length), vs[i].length ≤ 80 from fun i h => hv80 _ (List.mem_cons_of_mem _ (List.getElem_mem h)))
  clear hw hv80
  go_enter Try.func40, Try.ntmps40
  go_wp2_with fail
  refine (hwd _).mono ?_
  rintro e w1 ⟨⟨v, bb, rfl, hc⟩, hb⟩
  rcases hc with ⟨out, h1, rfl, hown⟩ | ⟨h1, _, _⟩
  case inr => exact absurd (h1.symm.trans HW.out) (by simp)
  obtain rfl : out = w0 :: vs := Option.some.inj (h1.symm.trans HW.out)
  obtain ⟨A, cap, rfl, hrd, hnc, hcm, _⟩ := own_rd hown
  obtain ⟨b, off, rfl, _, _, _, hcell⟩ := hrd.some (by simp)
  have hHs : Hs w (some ⟨b, off, none⟩) (w0 :: vs) w1 := ⟨HP0.out.next hb, hrd.wide (by simp) (Nat.le_refl _), _root_.Go.Proofs.Ytijijfggppnbpaa.bt HB0.out hb⟩
  have HH1 := Lib.hid hHs
  obtain ⟨M, hM⟩ : ∃ m, m = (w0 :: vs).length := ⟨_, rfl⟩
  have hM1 : M = vs.length + 1 := hM
  rw [← hM] at hnc ⊢
  have HM := Lib.hid hM1
  have i0 : (0 : Int) < (M : Int) := by omega
  have i2 : 0 < M := by omega
  clear hb hwd HB0 HP0 hown hrd hcell h1 hM hM1 hHs
  go_wp2_with fail
  go_loopw [6, 7] (fun u v wr => ∃ k kd : Nat, 1 ≤ k ∧ k ≤ 8 ∧ v = .int .i64 (k : Int) ∧ u = .int .i64 (kd : Int) ∧ KindUp w0 k kd ∧ Hs w (some ⟨b, off, none⟩) (w0 :: vs) wr) (fun _ v _ => 8 - (intOf v).toNat)
  case atStart => exact ⟨1, 0, by omega, by omega, rfl, rfl, .inl ⟨rfl, fun j h1 h2 => by omega⟩, HH1.out⟩
  case round =>
    clear HH1
    obtain ⟨k, kd, hk1, hk8, rfl, rfl, hup, hs⟩ := hrel
    have HS := Lib.hid hs
    have HU := Lib.hid hup
    clear hs hup
    by_cases hlt : k < 8
    · have hltI : (k : Int) < 8 := by omega
      have hwy := fun w => yWord_any (k : Int) w
      have hwN : wordL (k : Int) = wordN k := rfl
      rw [hwN] at hwy
      have hcell : ∀ {w' : World}, Hs w (some ⟨b, off, none⟩) (w0 :: vs) w' → Hs w (some ⟨b, off, none⟩) (w0 :: vs) w' ∧ w'.cell? ⟨b, off, none⟩ = some (.string (tx w0)) := fun h => by
        refine ⟨h, ?_⟩
        obtain ⟨_, _, e1, _, _, _, hc⟩ := h.ws.some (by simp)
        injection e1 with e1
        injection e1 with e1 e2
        subst e1 e2
        exact hc 0 (sv w0) rfl
      have htl := tx_list w0
      have htw := tx_list (wordN k)
      have hsp : (wordN k = w0 ∧ (w0 == wordN k) = true) ∨ (wordN k ≠ w0 ∧ (w0 == wordN k) = false) := by
        by_cases h : wordN k = w0
        · exact .inl ⟨h, beq_iff_eq.2 h.symm⟩
        · exact .inr ⟨h, beq_eq_false_iff_ne.2 (fun e => h e.symm)⟩
      generalize hWk : wordN k = wk at *
      have HWk := Lib.hid hWk
      clear hWk hwN
      rcases hsp with ⟨he, hb⟩ | ⟨he, hb⟩
      all_goals
        have He := Lib.hid he
        clear he
        go_wp2_with fail
        go_region_held3 (fun w' => Hs w (some ⟨b, off, none⟩) (w0 :: vs) w' ∧ w'.cell? ⟨b, off, none⟩ = some (.string (tx w0)))
          (first
            | exact hcell HS.out.drew
            | assumption
            | exact hcell ((And.left ‹Hs w (some ⟨b, off, none⟩) (w0 :: vs) _ ∧ _›).next (by assumption)))
          (first
            | (go_at_call 31; (with_reducible refine (hwy _).mono ?_); rintro e w' ⟨rfl, hb⟩))
        have HS2 := Lib.hid (And.left ‹Hs w (some ⟨b, off, none⟩) (w0 :: vs) _ ∧ _›)
        clear hcell hwy HS
        go_wp2_with fail
        go_roundw
      case rel => exact ⟨k + 1, k, by omega, by omega, by go_num, rfl, KindUp.yes hk1 (HWk.out.trans He.out), HS2.out⟩
      case measure => first | (simp [intOf]; done) | (simp [intOf]; omega)
      case rel => exact ⟨k + 1, kd, by omega, by omega, by go_num, rfl, HU.out.no (by rw [HWk.out]; exact He.out), HS2.out⟩
      case measure => first | (simp [intOf]; done) | (simp [intOf]; omega)
    · obtain rfl : k = 8 := by omega
      have hkd := HU.out.eq
      clear HU
      have hge : ¬ ((8 : Nat) : Int) < 8 := by omega
      rcases get_cases l with ⟨h1, _⟩ | ⟨w0', vs', hw', _, hr⟩
      case inl => exact absurd (h1.symm.trans HW.out) (by simp)
      obtain ⟨rfl, rfl⟩ : w0' = w0 ∧ vs' = vs := by
        have := Option.some.inj (hw'.symm.trans HW.out)
        injection this with e1 e2
        exact ⟨e1, e2⟩
      clear hw'
      rw [← hkd] at hr
      have Hkd := Lib.hid hkd
      clear hkd
      rcases hr with ⟨rfl, hr⟩ | ⟨n, hn, hn3, hk1', hk7', hr⟩
      · have HR := Lib.hid hr
        have HP2 := Lib.hid HS.out.res
        clear hr hk1 hk8 hlt
        go_wp2_with (refine wpList_store_row rfl 25 _ _ rfl w.heap.size zeroF.cells.toArray rfl rfl _ _ HP2.out (by kernel_rfl) rfl (fr_one zeroF) ?_)
        refine bodyPost_ret (results_cell_tmp_row rfl _ _ w.heap.size 25 _ (0, 0) _ rfl (HP2.out.row zeroF.cells) Try.underlying25 rfl (by kernel_rfl)) rfl ?_
        exact GotG.no HR.out (Below.row HS.out.below (Nat.le_refl _) _)
      · have hnm := fun w => Frm.ynumbers_any ((kd : Nat) : Int) w
        have hnk : numK ((kd : Nat) : Int) = n := by unfold numK; rw [← hn]; rfl
        rw [hnk] at hnm
        have h3n : IntKind.i64.wrap (3 + (n : Int)) = 3 + (n : Int) := IntWalk.i64_in _ (by omega)
        have hk0 : ((kd : Int) == 0) = false := beq_eq_false_iff_ne.2 (by omega)
        have HN := Lib.hid hn
        clear hn hnk hk1 hk8 hlt
        rcases hr with ⟨hl2, hr⟩ | ⟨hl2, hr⟩
        · have hne1 : ((M : Int) == 3 + (n : Int)) = false := beq_eq_false_iff_ne.2 (by have := HM.out; omega)
          have hne2 : ((M : Int) != 3 + (n : Int)) = true := bne_iff_ne.2 (by have := HM.out; omega)
          have HR := Lib.hid hr
          have HP2 := Lib.hid HS.out.res
          clear hr hl2
          go_wp2_with fail
          refine (hnm _).mono ?_
          rintro e w3 ⟨rfl, rfl⟩
          go_wp2_with (refine wpList_store_row rfl 25 _ _ rfl w.heap.size zeroF.cells.toArray rfl rfl _ _ HP2.out (by kernel_rfl) rfl (fr_one zeroF) ?_)
          refine bodyPost_ret (results_cell_tmp_row rfl _ _ w.heap.size 25 _ (0, 0) _ rfl (HP2.out.row zeroF.cells) Try.underlying25 rfl (by kernel_rfl)) rfl ?_
          exact GotG.no HR.out (Below.row HS.out.below (Nat.le_refl _) _)
        · have hne1 : ((M : Int) == 3 + (n : Int)) = true := beq_iff_eq.2 (by have := HM.out; omega)
          have hne2 : ((M : Int) != 3 + (n : Int)) = false := by rw [bne, hne1]; rfl
          have HR := Lib.hid hr
          have HL2 := Lib.hid hl2
          clear hr hl2
          go_wp2_with fail
          refine (hnm _).mono ?_
          rintro e w3 ⟨rfl, rfl⟩
          clear hnm
          have hmk : ∀ w, (Instr.makeSlice 99 (.int .i64 5) (.int .i64 5)).run Try.prog w = .ok (.slice (some ⟨w.heap.size, 0, none⟩) 5 5) (w.alloc (.cells #[.int .i64 0, .int .i64 0, .int .i64 0, .int .i64 0, .int .i64 0] 2)) := fun _ => by kernel_rfl
          have hs1 : w.heap.size < wr.heap.size := HS.out.res.lt
          have hws : RdL wr (w.heap.size + 1) wr.heap.size (some ⟨b, off + 1, none⟩) (vs'.map sv) := by
            have := HS.out.ws.drop 1
            rw [List.map_cons, List.drop_succ_cons, List.drop_zero] at this
            exact this
          have HG : Hid (Gs 2 w wr.heap.size (some ⟨b, off + 1, none⟩) vs' 0 (wr.alloc (.cells #[.int .i64 0, .int .i64 0, .int .i64 0, .int .i64 0, .int .i64 0] 2))) :=
            Lib.hid ⟨HS.out.res.alloc _, Blk.mk wr 2 ((xsAt vs' 0).map (.int .i64)), hws.alloc _, HS.out.below.alloc (by omega) _, rfl, hs1⟩
          clear hws HS i2
          go_wp2_with fail
          clear hmk hne1 hne2 h3n i0
          have hMm : M = (2 + n) + 1 := by have := HM.out; have := HL2.out; omega
          have HL3 : Hid (vs'.length = 2 + n) := Lib.hid HL2.out
          have hM6 : M ≤ 6 := by omega
          have HMn := Lib.hid hMm
          clear hMm HM
          generalize wr.heap.size = g at *
          go_loopw [9] (fun u wr => ∃ i j : Nat, i = j + 1 ∧ i ≤ M ∧ u = .int .i64 (i : Int) ∧ Gs 2 w g (some ⟨b, off + 1, none⟩) vs' j wr) (fun u _ => M - (intOf u).toNat)
          case atStart => exact ⟨1, 0, rfl, by have := HMn.out; omega, rfl, HG.out⟩
          case round =>
            clear HG
            obtain ⟨i, j, hij, hiM, rfl, hs⟩ := hrel
            have HS := Lib.hid hs
            have HIJ := Lib.hid hij
            clear hs
            by_cases hlt : i < M
            · have hltI : (i : Int) < (M : Int) := by omega
              have h0i : (0 : Int) ≤ (i : Int) := by omega
              have hj5 : (j : Int) < 5 := by omega
              have h0j : (0 : Int) ≤ (j : Int) := by omega
              have hjv : j < vs'.length := by rw [HL3.out]; have := HMn.out; omega
              have hsz := HS.out.lt
              have hscn := scan_step vs' j hjv
              rw [← HS.out.sc] at hscn
              have hv80 := HV.out j hjv
              obtain ⟨_, _, e1, _, _, _, hcl⟩ := HS.out.ws.some (by rw [List.length_map]; omega)
              injection e1 with e1
              injection e1 with e1 e2
              subst e1 e2
              have c1 := hcl j (sv vs'[j]) (by rw [List.getElem?_map, List.getElem?_eq_getElem hjv]; rfl)
              rw [show off + 1 + j = off + i by omega] at c1
              unfold sv at c1
              clear hcl
              have y1 : IntKind.i64.wrap ((i : Int) - 1) = (j : Int) := by rw [IntWalk.i64_in _ (by omega)]; omega
              obtain ⟨v, hv⟩ : ∃ v, v = vs'[j] := ⟨_, rfl⟩
              rw [← hv] at c1 hv80 hscn
              have hnum := fun w => yIsNumber_any v (by omega) w
              have hl1 : (j = 0 ∧ ((i : Int) == 1) = true ∧ ((i : Int) == 2) = false ∧ decide ((2 : Int) < (i : Int)) = false) ∨ (j = 1 ∧ ((i : Int) == 1) = false ∧ ((i : Int) == 2) = true ∧ decide ((2 : Int) < (i : Int)) = false) ∨ (2 ≤ j ∧ ((i : Int) == 1) = false ∧ ((i : Int) == 2) = false ∧ decide ((2 : Int) < (i : Int)) = true) := by
                rcases (by omega : j = 0 ∨ j = 1 ∨ 2 ≤ j) with h | h | h
                · exact .inl ⟨h, beq_iff_eq.2 (by omega), beq_eq_false_iff_ne.2 (by omega), decide_eq_false (by omega)⟩
                · exact .inr (.inl ⟨h, beq_eq_false_iff_ne.2 (by omega), beq_iff_eq.2 (by omega), decide_eq_false (by omega)⟩)
                · exact .inr (.inr ⟨h, beq_eq_false_iff_ne.2 (by omega), beq_eq_false_iff_ne.2 (by omega), decide_eq_true (by omega)⟩)
              have hsc0 := fun h0 : scan 0 vs' ≠ 0 => (show getR l = (zeroF, scan 0 vs') by
                rcases HR.out with ⟨h, _⟩ | ⟨_, h⟩
                · exact absurd h h0
                · exact h)
              have HNo := Lib.hid hsc0
              clear hij hsc0
              by_cases hn : isNum v = true
              · have hres : resV v = numVal v := isNum_yes v hn
                rw [hn, hres] at hnum
                have hw0 : ¬ (numVal v < lo j ∨ hi j < numVal v) → wcode j v = 0 := fun h => by unfold wcode; rw [if_pos hn, if_neg h]
                have hw2 : (numVal v < lo j ∨ hi j < numVal v) → scan 0 vs' = 2 := fun h => by
                  have : wcode j v = 2 := by unfold wcode; rw [if_pos hn, if_pos h]
                  rw [hscn, this, if_neg (by decide)]
                have HV1 := Lib.hid hv
                obtain ⟨x, hx⟩ : ∃ x, x = numVal v := ⟨_, rfl⟩
                rw [← hx] at hw0 hw2 hnum
                have HX := Lib.hid hx
                have hlc : ∃ lw hw, lo j = lw ∧ hi j = hw ∧ ((lw = 0 ∧ hw = 65535 ∧ ((i : Int) == 1) = true ∧ ((i : Int) == 2) = false ∧ decide ((2 : Int) < (i : Int)) = false) ∨ (lw = 0 ∧ hw = 4294967295 ∧ ((i : Int) == 1) = false ∧ ((i : Int) == 2) = true ∧ decide ((2 : Int) < (i : Int)) = false) ∨ (lw = -2147483648 ∧ hw = 2147483647 ∧ ((i : Int) == 1) = false ∧ ((i : Int) == 2) = false ∧ decide ((2 : Int) < (i : Int)) = true)) := by
                  refine ⟨_, _, rfl, rfl, ?_⟩
                  rcases hl1 with ⟨h, b⟩ | ⟨h, b⟩ | ⟨h, b⟩
                  · subst h; exact .inl ⟨rfl, rfl, b⟩
                  · subst h; exact .inr (.inl ⟨rfl, rfl, b⟩)
                  · rcases lo_cases j with ⟨h', _⟩ | ⟨h', _⟩ | ⟨_, h1, h2⟩
                    · omega
                    · omega
                    · exact .inr (.inr ⟨h1, h2, b⟩)
                obtain ⟨lw, hw, hlw, hhw, hlc⟩ := hlc
                rw [hlw, hhw] at hw0 hw2
                have HW0 := Lib.hid hw0
                have HW2 := Lib.hid hw2
                clear hw0 hw2 hscn hn hres hv hx hl1 hlw hhw
                by_cases hbad1 : x < lw
                · have hsc := HW2.out (.inl hbad1)
                  have HR2 := Lib.hid (HNo.out (by rw [hsc]; decide))
                  have HSC := Lib.hid hsc
                  clear hsc HW0 HW2
                  rcases hlc with ⟨rfl, rfl, b1, b2, b3⟩ | ⟨rfl, rfl, b1, b2, b3⟩ | ⟨rfl, rfl, b1, b2, b3⟩
                  all_goals
                    go_wp2_with fail
                    refine (hnum _).mono ?_
                    rintro e w4 ⟨rfl, hb4⟩
                    have HS2 := Lib.hid (HS.out.next hb4)
                    have HP2 := Lib.hid HS2.out.res
                    clear hb4 hnum HS
                    go_wp2_with (refine wpList_store_row rfl 25 _ _ rfl w.heap.size zeroF.cells.toArray rfl rfl _ _ HP2.out (by kernel_rfl) rfl (fr_one zeroF) ?_)
                    refine bodyPost_ret (results_cell_tmp_row rfl _ _ w.heap.size 25 _ (0, 0) _ rfl (HP2.out.row zeroF.cells) Try.underlying25 rfl (by kernel_rfl)) rfl ?_
                    exact GotG.no (by rw [HR2.out, HSC.out]) (Below.row HS2.out.below (Nat.le_refl _) _)
                by_cases hbad2 : hw < x
                · have hsc := HW2.out (.inr hbad2)
                  have HR2 := Lib.hid (HNo.out (by rw [hsc]; decide))
                  have HSC := Lib.hid hsc
                  clear hsc HW0 HW2
                  rcases hlc with ⟨rfl, rfl, b1, b2, b3⟩ | ⟨rfl, rfl, b1, b2, b3⟩ | ⟨rfl, rfl, b1, b2, b3⟩
                  all_goals
                    go_wp2_with fail
                    refine (hnum _).mono ?_
                    rintro e w4 ⟨rfl, hb4⟩
                    have HS2 := Lib.hid (HS.out.next hb4)
                    have HP2 := Lib.hid HS2.out.res
                    clear hb4 hnum HS
                    go_wp2_with (refine wpList_store_row rfl 25 _ _ rfl w.heap.size zeroF.cells.toArray rfl rfl _ _ HP2.out (by kernel_rfl) rfl (fr_one zeroF) ?_)
                    refine bodyPost_ret (results_cell_tmp_row rfl _ _ w.heap.size 25 _ (0, 0) _ rfl (HP2.out.row zeroF.cells) Try.underlying25 rfl (by kernel_rfl)) rfl ?_
                    exact GotG.no (by rw [HR2.out, HSC.out]) (Below.row HS2.out.below (Nat.le_refl _) _)
                have hwc := HW0.out (fun h => h.elim hbad1 hbad2)
                have HWC := Lib.hid hwc
                clear HW0 HW2 hwc
                rcases hlc with ⟨rfl, rfl, b1, b2, b3⟩ | ⟨rfl, rfl, b1, b2, b3⟩ | ⟨rfl, rfl, b1, b2, b3⟩
                all_goals
                  go_wp2_with fail
                  refine (hnum _).mono ?_
                  rintro e w4 ⟨rfl, hb4⟩
                  have HS2 := Lib.hid (HS.out.next hb4)
                  clear hb4 hnum HS
                  have hlx : j < (xsAt vs' j).length := by show j < 5; omega
                  have cx : w4.cell? ⟨g, j, none⟩ = some (.int .i64 ((xsAt vs' j)[j]'hlx)) := by rw [HS2.out.xs.cell, List.getElem?_map, List.getElem?_eq_getElem hlx]; rfl
                  have fx := HS2.out.xs.free j
                  have hS := HS2.out.step hjv (by omega) (by rw [← HV1.out]; exact HWC.out)
                  rw [← HV1.out, ← HX.out] at hS
                  have HS3 := Lib.hid hS
                  clear hS
                  go_wp2_with fail
                  go_roundw
                  case rel => exact ⟨i + 1, j + 1, by rw [HIJ.out], by omega, by go_num, HS3.out⟩
                  case measure => first | (simp [intOf]; done) | (simp [intOf]; omega)
              · have hnf : isNum v = false := by cases h : isNum v <;> simp_all
                rw [hnf, isNum_no v hnf] at hnum
                have hsc : scan 0 vs' = 3 := by
                  have : wcode j v = 3 := by unfold wcode; rw [if_neg hn]
                  rw [hscn, this, if_neg (by decide)]
                have HR2 := Lib.hid (HNo.out (by rw [hsc]; decide))
                have HSC := Lib.hid hsc
                clear hsc hscn hn hnf hv hl1
                go_wp2_with fail
                refine (hnum _).mono ?_
                rintro e w4 ⟨rfl, hb4⟩
                have HS2 := Lib.hid (HS.out.next hb4)
                have HP2 := Lib.hid HS2.out.res
                clear hb4 hnum HS
                go_wp2_with (refine wpList_store_row rfl 25 _ _ rfl w.heap.size zeroF.cells.toArray rfl rfl _ _ HP2.out (by kernel_rfl) rfl (fr_one zeroF) ?_)
                refine bodyPost_ret (results_cell_tmp_row rfl _ _ w.heap.size 25 _ (0, 0) _ rfl (HP2.out.row zeroF.cells) Try.underlying25 rfl (by kernel_rfl)) rfl ?_
                exact GotG.no (by rw [HR2.out, HSC.out]) (Below.row HS2.out.below (Nat.le_refl _) _)
            · obtain rfl : i = M := by omega
              have hjm : j = 2 + n := by have := HMn.out; omega
              have hsc : scan 0 vs' = 0 := by
                rw [HS.out.sc, List.drop_of_length_le (by rw [HL3.out, hjm]; exact Nat.le_refl _)]
                rfl
              obtain ⟨mk1, _, _⟩ := mk_of kd n vs' ⟨hk1', hk7'⟩ HN.out hn3 HL3.out hsc
              have hxs := HS.out.xs
              have hall := xsAt_all vs'
              rw [HL3.out, ← hjm] at hall
              rw [hall] at hxs
              have e0 : wr.drew.cell? ⟨g, 0, none⟩ = some (.int .i64 (valAt vs' 0)) := hxs.cell 0
              have e1 : wr.drew.cell? ⟨g, 1, none⟩ = some (.int .i64 (valAt vs' 1)) := hxs.cell 1
              have e2 : wr.drew.cell? ⟨g, 2, none⟩ = some (.int .i64 (valAt vs' 2)) := hxs.cell 2
              have e3 : wr.drew.cell? ⟨g, 3, none⟩ = some (.int .i64 (valAt vs' 3)) := hxs.cell 3
              have e4 : wr.drew.cell? ⟨g, 4, none⟩ = some (.int .i64 (valAt vs' 4)) := hxs.cell 4
              have q := mk1.q
              have t := mk1.t
              have hb0 : 0 ≤ valAt vs' 0 ∧ 0 ≤ valAt vs' 1 := by
                have hz := (scan_zero vs' 0).1 hsc
                have l0 : 0 < vs'.length := by rw [HL3.out]; omega
                have l1 : 1 < vs'.length := by rw [HL3.out]; omega
                have z0 : lo 0 ≤ numVal vs'[0] ∧ numVal vs'[0] ≤ hi 0 := wcode_le (hz 0 l0)
                have z1 : lo 1 ≤ numVal vs'[1] ∧ numVal vs'[1] ≤ hi 1 := wcode_le (hz 1 l1)
                have v0 : valAt vs' 0 = numVal vs'[0] := by unfold valAt; rw [if_pos l0, List.getD_eq_getElem?_getD, List.getElem?_eq_getElem l0]; rfl
                have v1 : valAt vs' 1 = numVal vs'[1] := by unfold valAt; rw [if_pos l1, List.getD_eq_getElem?_getD, List.getElem?_eq_getElem l1]; rfl
                rw [v0, v1]
                exact ⟨z0.1, z1.1⟩
              change (valAt vs' 0).toNat < 65536 at q
              change (valAt vs' 1).toNat < 4294967296 at t
              have u0 : IntKind.u16.wrap (valAt vs' 0) = valAt vs' 0 := IntWalk.u16_in _ (by omega)
              have u1 : IntKind.u32.wrap (valAt vs' 1) = valAt vs' 1 := IntWalk.u32_in _ (by omega)
              have u2 : IntKind.i32.wrap (valAt vs' 2) = valAt vs' 2 := IntWalk.i32_in _ ⟨mk1.a1, mk1.a2⟩
              have u3 : IntKind.i32.wrap (valAt vs' 3) = valAt vs' 3 := IntWalk.i32_in _ ⟨mk1.b1, mk1.b2⟩
              have u4 : IntKind.i32.wrap (valAt vs' 4) = valAt vs' 4 := IntWalk.i32_in _ ⟨mk1.c1, mk1.c2⟩
              have hcs : (mkF kd vs').cells = [.int .i64 (kd : Int), .int .u16 (valAt vs' 0), .int .u32 (valAt vs' 1), .int .i32 (valAt vs' 2), .int .i32 (valAt vs' 3), .int .i32 (valAt vs' 4)] := by
                unfold Fr.cells mkF
                rw [show (((valAt vs' 0).toNat : Nat) : Int) = valAt vs' 0 by omega, show (((valAt vs' 1).toNat : Nat) : Int) = valAt vs' 1 by omega]
              have HC := Lib.hid hcs
              have HR2 : Hid (getR l = (mkF kd vs', 0)) := Lib.hid (by
                rcases HR.out with ⟨_, h⟩ | ⟨h, _⟩
                · exact h
                · exact absurd hsc h)
              have hone : ([.int .i64 (kd : Int), .int .u16 (valAt vs' 0), .int .u32 (valAt vs' 1), .int .i32 (valAt vs' 2), .int .i32 (valAt vs' 3), .int .i32 (valAt vs' 4)] : List Value).toArray.all (·.oneCell') = true := by simp [Value.oneCell']
              have HOne := Lib.hid hone
              have HP2 := Lib.hid HS.out.res.drew
              have HB2 := Lib.hid HS.out.below.drew
              have hge : ¬ (i : Int) < (i : Int) := by omega
              clear hxs hall hsc mk1 q t hb0 hcs hone HR hij HMn hjm
              generalize valAt vs' 0 = x0 at *
              generalize valAt vs' 1 = x1 at *
              generalize valAt vs' 2 = x2 at *
              generalize valAt vs' 3 = x3 at *
              generalize valAt vs' 4 = x4 at *
              go_wp2_with fail
              go_still_tail 22, (by kernel_rfl)
              change wpList _ _ _ _ _ wr.drew
              generalize wr.drew = wd at *
              go_wp2_with (refine wpList_store_row rfl 25 _ _ rfl w.heap.size [.int .i64 (kd : Int), .int .u16 x0, .int .u32 x1, .int .i32 x2, .int .i32 x3, .int .i32 x4].toArray rfl rfl _ _ HP2.out (by kernel_rfl) rfl HOne.out ?_)
              refine bodyPost_ret (results_cell_tmp_row rfl _ _ w.heap.size 25 _ (0, 0) _ rfl (HP2.out.row [.int .i64 (kd : Int), .int .u16 x0, .int .u32 x1, .int .i32 x2, .int .i32 x3, .int .i32 x4]) Try.underlying25 rfl (by kernel_rfl)) rfl ?_
              exact ⟨by rw [HR2.out]; unfold Fr.v; rw [HC.out]; rfl, Below.row HB2.out (Nat.le_refl _) _⟩
theorem jn_len (ws : List (List UInt8)) : ws.length ≤ (jn ws).length := by
  induction ws with
  | nil => exact Nat.le_refl _
  | cons a ws ih => unfold jn at ih ⊢; rw [List.flatMap_cons, List.length_append, List.length_append, List.length_cons]; simp only [List.length_cons, List.length_nil]; omega
theorem yget_any (l : List UInt8) (hl : l.length ≤ 1000000) (w : World) : Calls Try.prog 40 #[.string (tx l)] w (GotG w l) := by
  rcases get_cases l with ⟨h1, h⟩ | ⟨w0, vs, hw, hv, _⟩
  · exact yget_none l hl h1 h w
  · refine yget_some l hl w0 vs hw hv ?_ w
    obtain ⟨h80, _, hj⟩ := words_jn hw
    have := congrArg List.length hj
    have h2 := jn_len (w0 :: vs)
    rw [List.length_append] at this
    simp only [List.length_cons, List.length_nil] at this h2
    omega
end Txt
end Go.Proofs.Ytijijfggppnbpaa
