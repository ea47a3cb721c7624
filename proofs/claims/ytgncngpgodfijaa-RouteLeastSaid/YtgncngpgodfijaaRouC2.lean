/-
  The walk of the document's Cost (package route).
-/
import Derived.Test.YtgncngpgodfijaaRouC
namespace Go.Proofs.Ytgncngpgodfijaa
open Go.RowKit
set_option linter.unusedVariables false
namespace Rou
set_option maxRecDepth 100000 in
set_option maxHeartbeats 2000000 in
theorem ucost_any {w : World} {lo hi cap cl : Nat} (W H : Int) {A B : Option Addr} {C L : List Int} (R : RdL w lo hi A (C.map iv)) (RL : RdL w lo hi B (L.map iv)) (hL : L.length ≤ 1000000) :
    Calls Try.prog 51 #[.agg #[.int .i64 W, .int .i64 H, .slice A C.length cap], .slice B L.length cl] w (GotN w (costV W H C L)) := by
  have hB := Blk.mk w 80 (fdc W H A C.length cap)
  have hS : CB w 80 W H A C.length cap lo hi C B L (w.alloc (.cells (fdc W H A C.length cap).toArray 80)) := ⟨hB, R.alloc _, RL.alloc _, bl w _, by simp⟩
  have hchk := ucheck_any (cap := cap) W H hS.rd
  have q0 : (w.alloc (.cells (fdc W H A C.length cap).toArray 80)).cell? ⟨w.heap.size, 0, none⟩ = some (.int .i64 W) := hB.cell 0
  have q1 : (w.alloc (.cells (fdc W H A C.length cap).toArray 80)).cell? ⟨w.heap.size, 1, none⟩ = some (.int .i64 H) := hB.cell 1
  have q2 : (w.alloc (.cells (fdc W H A C.length cap).toArray 80)).cell? ⟨w.heap.size, 2, none⟩ = some (.slice A C.length cap) := hB.cell 2
  unfold fdc at q0 q1 q2 hS hchk
  obtain ⟨n, hn⟩ : ∃ n, n = C.length := ⟨_, rfl⟩
  obtain ⟨m, hm⟩ : ∃ m, m = L.length := ⟨_, rfl⟩
  rw [← hn] at q0 q1 q2 hS hchk ⊢
  rw [← hm] at hL ⊢
  have HN := Lib.hid hn
  have HM := Lib.hid hm
  have HS := Lib.hid hS
  clear hn hm hS hB R RL
  obtain ⟨c, hc⟩ : ∃ c, c = code W H C := ⟨_, rfl⟩
  rw [← hc] at hchk
  have HC := Lib.hid hc
  clear hc
  go_enter Try.func51, Try.ntmps51
  go_wp2_with fail
  refine hchk.mono ?_
  rintro e w1 ⟨rfl, hb1⟩
  have HS1 := Lib.hid (HS.out.next hb1)
  clear q0 q1 q2 HS hb1 hchk
  by_cases h0 : c = 0
  · subst h0
    have d0 : ((0 : Int) != (0 : Int)) = false := rfl
    obtain ⟨hok, eW, eH⟩ := code_ok HC.out.symm
    obtain ⟨W', hW'⟩ : ∃ W', W' = W.toNat := ⟨_, rfl⟩
    obtain ⟨H', hH'⟩ : ∃ H', H' = H.toNat := ⟨_, rfl⟩
    rw [← hW', ← hH'] at hok
    rw [← hW'] at eW
    rw [← hH'] at eH
    clear hW' hH'
    subst eW eH
    have HOK := Lib.hid hok
    clear hok
    by_cases hm0 : m = 0
    · subst hm0
      have HV : Hid (costV W' H' C L = -1) := Lib.hid (by unfold costV; rw [if_pos (.inr (List.eq_nil_of_length_eq_zero HM.out.symm))])
      go_wp2_with fail
      go_ret
      exact ⟨by rw [HV.out]; rfl, HS1.out.keep⟩
    · have dm0 : ((m : Int) == 0) = false := by rw [beq_eq_false_iff_ne]; omega
      have HV : Hid (costV W' H' C L = costZ W' H' C L) := Lib.hid (by
        unfold costV
        rw [if_neg]
        rfl
        rintro (h | h)
        · exact h HC.out.symm
        · rw [h] at HM; exact hm0 HM.out)
      have hmp : 0 < m := by omega
      obtain ⟨b1, o1, rfl, _, _, _, _⟩ := HS1.out.rl.some (by rw [List.length_map, ← HM.out]; exact hmp)
      have hwh : W' * H' = n := by rw [← HOK.out.len, ← HN.out]
      have hnp : 0 < n := by have := HOK.out.big; omega
      obtain ⟨b0, o0, rfl, _, _, _, _⟩ := HS1.out.rd.some (by rw [List.length_map, ← HN.out]; exact hnp)
      have HWH := Lib.hid hwh
      clear hwh hm0
      go_wp2_with fail
      go_loopw [5, 6] (fun s5 s21 wr => ∃ (i : Nat) (S : Int), s5 = .int .i64 S ∧ s21 = .int .i64 (i : Int) ∧ i ≤ m ∧ S = sumTo C L i ∧ 0 ≤ S ∧ S ≤ 1073741824 * (i : Int) ∧ (∀ j, j < i → okAt W' H' C L j = true) ∧ CB w 80 W' H' (some ⟨b0, o0, none⟩) n cap lo hi C (some ⟨b1, o1, none⟩) L wr) (fun _ s21 _ => m - (intOf s21).toNat)
      case atStart => exact ⟨0, 0, rfl, rfl, by omega, rfl, by omega, by omega, fun j hj => by omega, HS1.out⟩
      case round =>
        obtain ⟨i, S, rfl, rfl, him, hS, hS0, hS1, hok, hCB⟩ := hrel
        have HSU := Lib.hid hS
        have HOKA := Lib.hid hok
        have HCB := Lib.hid hCB
        clear hS hok hCB
        by_cases hlt : i < m
        · have dlt : decide (i < m) = true := decide_eq_true hlt
          have i0 : (0 : Int) ≤ (i : Int) := by omega
          have i1 : (i : Int) < (m : Int) := by omega
          have q2 : wr.cell? ⟨w.heap.size, 2, none⟩ = some (.slice (some ⟨b0, o0, none⟩) n cap) := HCB.out.box.cell 2
          obtain ⟨x, hx⟩ : ∃ x, x = cs L i := ⟨_, rfl⟩
          have cx : wr.cell? ⟨b1, o1 + i, none⟩ = some (.int .i64 x) := by rw [hx]; exact cell_cs HCB.out.rl (by rw [← HM.out]; exact hlt)
          have HX := Lib.hid hx
          clear hx
          have kw := HOK.out.w1
          have kW := HOK.out.w2
          have kh := HOK.out.h1
          have kH := HOK.out.h2
          have hn4 : n ≤ 4096 := by have := HOK.out.big; have := HWH.out; omega
          by_cases h1 : x < 0
          · have d1 : decide (x < 0) = true := decide_eq_true h1
            have HZ := Lib.hid (costZ_bad (w := W') (h := H') (C := C) (L := L) (i := i) (by rw [← HM.out]; exact hlt) (okAt_no (by rw [← HX.out]; omega)))
            go_wp2_with fail
            go_quiet (fail)
            go_wp2_with fail
            go_ret
            exact ⟨by rw [HV.out, HZ.out]; rfl, below_drewN HCB.out.keep _⟩
          · have d1 : decide (x < 0) = false := decide_eq_false h1
            obtain ⟨a, ha⟩ : ∃ a : Nat, x = (a : Int) := ⟨x.toNat, by omega⟩
            subst ha
            by_cases h2 : n ≤ a
            · have d2 : decide (n ≤ a) = true := decide_eq_true h2
              have HZ := Lib.hid (costZ_bad (w := W') (h := H') (C := C) (L := L) (i := i) (by rw [← HM.out]; exact hlt) (okAt_no (by rw [← HX.out, HWH.out]; omega)))
              go_wp2_with fail
              go_quiet (fail)
              go_wp2_with fail
              go_ret
              exact ⟨by rw [HV.out, HZ.out]; rfl, below_drewN HCB.out.keep _⟩
            · have d2 : decide (n ≤ a) = false := decide_eq_false h2
              have han : a < n := by omega
              have a0 : (0 : Int) ≤ (a : Int) := by omega
              have a1 : (a : Int) < (n : Int) := by omega
              obtain ⟨v, hv⟩ : ∃ v, v = cs C a := ⟨_, rfl⟩
              have cv : wr.cell? ⟨b0, o0 + a, none⟩ = some (.int .i64 v) := by rw [hv]; exact cell_cs HCB.out.rd (by rw [← HN.out]; exact han)
              have hvb := cs_bnd HOK.out a
              rw [← hv] at hvb
              have HVV := Lib.hid hv
              clear hv
              by_cases h3 : v < 0
              · have d3 : decide (v < 0) = true := decide_eq_true h3
                have HZ := Lib.hid (costZ_bad (w := W') (h := H') (C := C) (L := L) (i := i) (by rw [← HM.out]; exact hlt) (okAt_no (by
                  rw [← HX.out]
                  rintro ⟨_, _, h, _⟩
                  have h : 0 ≤ cs C a := h
                  rw [← HVV.out] at h
                  omega)))
                go_wp2_with fail
                go_quiet (fail)
                go_wp2_with fail
                go_ret
                exact ⟨by rw [HV.out, HZ.out]; rfl, below_drewN HCB.out.keep _⟩
              · have d3 : decide (v < 0) = false := decide_eq_false h3
                go_upto_region 7 with fail
                go_cut [46] (fun s46 wx => s46 = .bool false ∧ CB w 80 W' H' (some ⟨b0, o0, none⟩) n cap lo hi C (some ⟨b1, o1, none⟩) L wx)
                case first =>
                  go_wp2_with fail
                  go_quiet (fail)
                  go_wp2_with fail
                  go_meet
                  exact ⟨rfl, HCB.out.drewN _⟩
                obtain ⟨rfl, hcb⟩ := hcut
                have HCB := Lib.hid hcb
                clear hcb cx cv q2
                have q2 : wc.cell? ⟨w.heap.size, 2, none⟩ = some (.slice (some ⟨b0, o0, none⟩) n cap) := HCB.out.box.cell 2
                have cx : wc.cell? ⟨b1, o1 + i, none⟩ = some (.int .i64 (a : Int)) := by rw [HX.out]; exact cell_cs HCB.out.rl (by rw [← HM.out]; exact hlt)
                have cv : wc.cell? ⟨b0, o0 + a, none⟩ = some (.int .i64 v) := by rw [HVV.out]; exact cell_cs HCB.out.rd (by rw [← HN.out]; exact han)
                by_cases h4 : i = 0
                · subst h4
                  rw [Nat.add_zero] at cx
                  have HOKN := Lib.hid (okAt_next HOKA.out (okAt_iff.2 ⟨by rw [← HX.out]; omega, by rw [← HX.out, HWH.out]; exact han, by rw [← HX.out]; show 0 ≤ cs C a; rw [← HVV.out]; omega, .inl rfl⟩))
                  have hs1 : S = sumTo C L 1 := by rw [sum_one (by rw [← HM.out]; exact hlt), HSU.out, sum_zero]
                  have HS1' := Lib.hid hs1
                  clear hs1
                  go_wp2_with fail
                  go_roundw
                  case rel => exact ⟨1, S, rfl, by go_num, by omega, HS1'.out, hS0, by omega, HOKN.out, HCB.out⟩
                  case measure => simp [intOf]; omega
                · have d4 : decide ((0 : Int) < (i : Int)) = true := decide_eq_true (by omega)
                  have d4' : decide (0 < i) = true := decide_eq_true (by omega)
                  obtain ⟨p, hp⟩ : ∃ p, i = p + 1 := ⟨i - 1, by omega⟩
                  have yl : IntKind.i64.wrap ((i : Int) - 1) = (p : Int) := by rw [IntWalk.i64_in _ (by omega)]; omega
                  obtain ⟨y0, y1, y2, _⟩ := okAt_iff.1 (HOKA.out p (by omega))
                  obtain ⟨z, hz⟩ : ∃ z : Nat, z = (cs L p).toNat := ⟨_, rfl⟩
                  have cz : wc.cell? ⟨b1, o1 + p, none⟩ = some (.int .i64 (z : Int)) := by
                    rw [hz, Int.toNat_of_nonneg y0]
                    exact cell_cs HCB.out.rl (by rw [← HM.out]; omega)
                  rw [← hz] at y1
                  have HZP := Lib.hid hz
                  have HP := Lib.hid hp
                  have p0 : (0 : Int) ≤ (p : Int) := by omega
                  have p1 : (p : Int) < (m : Int) := by omega
                  have qb0 : wc.cell? ⟨w.heap.size, 0, none⟩ = some (.int .i64 (W' : Int)) := HCB.out.box.cell 0
                  have hbes : ∀ wq, Calls Try.prog 62 #[.int .i64 (W' : Int), .int .i64 (z : Int), .int .i64 (a : Int)] wq fun e w' => e = .returned (.bool (nearB a (besideL W' H' z) (besideL W' H' z).length)) ∧ ∃ q, w' = wq.drewN q := fun wq => by
                    rw [near_all]
                    exact ubeside_any kw kW kH y1 (by rw [HWH.out]; exact han) wq
                  have hna := near_all a (besideL W' H' z)
                  have HNA := Lib.hid hna
                  clear hna hz y0 y1 y2 hp
                  obtain ⟨nb, hnb⟩ : ∃ nb, nb = nearB a (besideL W' H' z) (besideL W' H' z).length := ⟨_, rfl⟩
                  rw [← hnb] at HNA hbes
                  clear hnb
                  go_upto_region 10 with fail
                  go_cut [61] (fun s61 wx => s61 = .bool (!nb) ∧ CB w 80 W' H' (some ⟨b0, o0, none⟩) n cap lo hi C (some ⟨b1, o1, none⟩) L wx)
                  case first =>
                    go_wp2_with fail
                    go_quiet ((go_at_call 62; exact Calls.quiet_of (hbes _)))
                    go_wp2_with fail
                    go_meet
                    exact ⟨rfl, HCB.out.drewN _⟩
                  obtain ⟨rfl, hcb⟩ := hcut
                  have HCB := Lib.hid hcb
                  clear hcb cx cv q2 qb0 cz hbes
                  have q2 : wc.cell? ⟨w.heap.size, 2, none⟩ = some (.slice (some ⟨b0, o0, none⟩) n cap) := HCB.out.box.cell 2
                  have cx : wc.cell? ⟨b1, o1 + i, none⟩ = some (.int .i64 (a : Int)) := by rw [HX.out]; exact cell_cs HCB.out.rl (by rw [← HM.out]; exact hlt)
                  have cv : wc.cell? ⟨b0, o0 + a, none⟩ = some (.int .i64 v) := by rw [HVV.out]; exact cell_cs HCB.out.rd (by rw [← HN.out]; exact han)
                  cases nb with
                  | true =>
                    have hmem : a ∈ besideL W' H' z := of_decide_eq_true HNA.out.symm
                    have hip := HP.out
                    have HOKN := Lib.hid (okAt_next HOKA.out (okAt_iff.2 ⟨by rw [← HX.out]; omega, by rw [← HX.out, HWH.out]; exact han, by rw [← HX.out]; show 0 ≤ cs C a; rw [← HVV.out]; omega, .inr (by rw [← HX.out, hip, Nat.add_sub_cancel, ← HZP.out]; exact hmem)⟩))
                    have hs1 : S + v = sumTo C L (i + 1) := by
                      rw [sum_step (by omega) (by rw [← HM.out]; exact hlt), ← HSU.out, ← HX.out, HVV.out]
                      rfl
                    have HS1' := Lib.hid hs1
                    clear hs1 hmem hip
                    go_wp2_with fail
                    go_quiet (fail)
                    go_wp2_with fail
                    go_roundw
                    case rel => exact ⟨i + 1, S + v, rfl, by go_num, by omega, HS1'.out, by omega, by omega, HOKN.out, HCB.out.drewN _⟩
                    case measure => simp [intOf]; omega
                  | false =>
                    have hmem : a ∉ besideL W' H' z := of_decide_eq_false HNA.out.symm
                    have hip := HP.out
                    have HZ := Lib.hid (costZ_bad (w := W') (h := H') (C := C) (L := L) (i := i) (by rw [← HM.out]; exact hlt) (okAt_no (by
                      rw [← HX.out, hip, Nat.add_sub_cancel, ← HZP.out]
                      rintro ⟨_, _, _, h | h⟩
                      · omega
                      · exact hmem h)))
                    clear hmem hip
                    go_wp2_with fail
                    go_ret
                    exact ⟨by rw [HV.out, HZ.out]; rfl, HCB.out.keep⟩
        · have dlt : decide (i < m) = false := decide_eq_false hlt
          obtain rfl : m = i := by omega
          have HZ : Hid (costZ W' H' C L = S) := Lib.hid (by rw [costZ_all (by rw [← HM.out]; exact HOKA.out), ← HM.out, HSU.out])
          go_wp2_with fail
          go_ret
          exact ⟨by rw [HV.out, HZ.out]; rfl, HCB.out.keep⟩
  · have d0 : (c != (0 : Int)) = true := by rw [bne_iff_ne]; exact h0
    have HV : Hid (costV W H C L = -1) := Lib.hid (by unfold costV; rw [if_pos (.inl (by rw [← HC.out]; exact h0))])
    go_wp2_with fail
    go_ret
    exact ⟨by rw [HV.out]; rfl, HS1.out.keep⟩
end Rou
end Go.Proofs.Ytgncngpgodfijaa
