/-
  The walk of package route's Find.
-/
import Derived.Test.YtgncngpgodfijaaRouR
import Derived.Test.YtgncngpgodfijaaRouT
import Derived.Test.YtgncngpgodfijaaRouV
import Derived.Test.YtgncngpgodfijaaRouO
import Derived.BigQuiet
import Derived.Deep.RegionHeld3
namespace Go.Proofs.Ytgncngpgodfijaa
open Go.RowKit
set_option linter.unusedVariables false
namespace Rou
/-- what Find tells of the field and its two squares -/
def fcode (W H : Int) (C : List Int) (s t : Int) : Int := if code W H C ≠ 0 then code W H C else if s < 0 ∨ (C.length : Int) ≤ s ∨ t < 0 ∨ (C.length : Int) ≤ t then 9 else 0
/-- what Find hands back -/
def GotF (w : World) (W H : Int) (C : List Int) (s t : Int) (e : Ending) (w' : World) : Prop :=
  ∃ v d c, e = .returned (.tuple #[v, .int .i64 d, .int .i64 c]) ∧ Below w.heap.size w w' ∧
    ((fcode W H C s t ≠ 0 ∧ v = .slice none 0 0 ∧ d = 0 ∧ c = fcode W H C s t) ∨
     (fcode W H C s t = 0 ∧ ∃ D K r, Sol W.toNat H.toNat C s.toNat D K r ∧
       ((dd D t.toNat = -1 ∧ v = .slice none 0 0 ∧ d = 0 ∧ c = 7) ∨
        (0 ≤ d ∧ dd D t.toNat = d ∧ c = 0 ∧ ∃ P b, Back W.toNat H.toNat C s.toNat D K r t.toNat P (-1) ∧ w.heap.size ≤ b ∧ w'.ownsRow b 3 1 v P.length (P.reverse.map ni)))))
theorem cell_dd {w : World} {lo hi b off : Nat} {D : List Int} (h : RdL w lo hi (some ⟨b, off, none⟩) (D.map iv)) {i : Nat} (hi : i < D.length) : w.cell? ⟨b, off + i, none⟩ = some (.int .i64 (dd D i)) := by
  obtain ⟨b', o', e, _, _, _, hc⟩ := h.some (by rw [List.length_map]; omega)
  injection e with e
  injection e with e1 e2
  subst e1 e2
  refine hc i _ ?_
  rw [List.getElem?_map, List.getElem?_eq_getElem hi]
  unfold dd
  rw [List.getD_eq_getElem?_getD, List.getElem?_eq_getElem hi]
  rfl
theorem own_cell {w : World} {base g cap n : Nat} {e : TypeId} {L : List Nat} (h : w.ownsRow base e 1 (.slice (some ⟨g, 0, none⟩) n cap) n (L.map ni)) {i : Nat} (hi : i < L.length) : w.cell? ⟨g, i, none⟩ = some (.int .i64 ((L.getD i 0 : Nat) : Int)) := by
  obtain ⟨A, c, e1, hr, _, _, _⟩ := own_rd h
  injection e1 with e1
  subst e1
  obtain ⟨b', o', e, _, _, _, hc⟩ := hr.some (by rw [List.length_map]; omega)
  injection e with e
  injection e with e1 e2
  subst e1 e2
  have := hc i (ni L[i]) (by rw [List.getElem?_map, List.getElem?_eq_getElem hi]; rfl)
  rw [Nat.zero_add] at this
  rw [this, List.getD_eq_getElem?_getD, List.getElem?_eq_getElem hi]
  rfl
set_option maxRecDepth 100000 in
set_option maxHeartbeats 2000000 in
theorem find_any {w : World} {lo hi cap : Nat} (W H s t : Int) {A : Option Addr} {C : List Int} (R : RdL w lo hi A (C.map iv)) (hhi : hi ≤ w.heap.size) :
    Calls Try.prog 53 #[.agg #[.int .i64 W, .int .i64 H, .slice A C.length cap], .int .i64 s, .int .i64 t] w (GotF w W H C s t) := by
  have hB := Blk.mk w 82 (fdc W H A C.length cap)
  have HB := Lib.hid hB
  have HR := Lib.hid (R.alloc (.cells (fdc W H A C.length cap).toArray 82))
  have q0 : (w.alloc (.cells (fdc W H A C.length cap).toArray 82)).cell? ⟨w.heap.size, 0, none⟩ = some (.int .i64 W) := hB.cell 0
  have q1 : (w.alloc (.cells (fdc W H A C.length cap).toArray 82)).cell? ⟨w.heap.size, 1, none⟩ = some (.int .i64 H) := hB.cell 1
  have q2 : (w.alloc (.cells (fdc W H A C.length cap).toArray 82)).cell? ⟨w.heap.size, 2, none⟩ = some (.slice A C.length cap) := hB.cell 2
  have HK := Lib.hid (bl w (.cells (fdc W H A C.length cap).toArray 82))
  have hchk := ocheck_any (cap := cap) W H HR.out
  have hsz := HK.out.size
  clear R hB
  unfold fdc at q0 q1 q2 HB HR HK hchk hsz
  obtain ⟨n, hn⟩ : ∃ n, n = C.length := ⟨_, rfl⟩
  have HN := Lib.hid hn
  rw [← hn] at HB HR q0 q1 q2 HK hchk hsz ⊢
  have HH := Lib.hid hhi
  clear hhi hn
  go_enter Try.func53, Try.ntmps53
  go_wp2_with fail
  obtain ⟨c, hc⟩ : ∃ c, c = code W H C := ⟨_, rfl⟩
  rw [← hc] at hchk
  have HC := Lib.hid hc
  clear hc
  refine hchk.mono ?_
  rintro e w1 ⟨rfl, hb1⟩
  have HB1 := Lib.hid (HB.out.next hb1)
  have HR1 := Lib.hid (HR.out.next hb1)
  have HK1 := Lib.hid (bt HK.out hb1)
  have p0 : w1.cell? ⟨w.heap.size, 0, none⟩ = some (.int .i64 W) := HB1.out.cell 0
  have p1 : w1.cell? ⟨w.heap.size, 1, none⟩ = some (.int .i64 H) := HB1.out.cell 1
  have p2 : w1.cell? ⟨w.heap.size, 2, none⟩ = some (.slice A n cap) := HB1.out.cell 2
  clear q0 q1 q2 HB HR HK hb1 hchk hsz
  by_cases h0 : c = 0
  · have d0 : ((0 : Int) != (0 : Int)) = false := rfl
    have HOK := Lib.hid (code_ok (HC.out.symm.trans h0))
    subst h0
    by_cases h1 : s < 0
    · have d1 : decide (s < 0) = true := decide_eq_true h1
      have hr : fcode W H C s t = 9 := by unfold fcode; rw [← HC.out, if_neg (by omega), if_pos (by rw [← HN.out]; omega)]
      go_wp2_with fail
      go_ret3
      exact ⟨_, _, _, rfl, HK1.out, .inl ⟨by omega, rfl, rfl, hr.symm⟩⟩
    · have d1 : decide (s < 0) = false := decide_eq_false h1
      by_cases h2 : (n : Int) ≤ s
      · have d2 : decide ((n : Int) ≤ s) = true := decide_eq_true h2
        have hr : fcode W H C s t = 9 := by unfold fcode; rw [← HC.out, if_neg (by omega), if_pos (by rw [← HN.out]; omega)]
        go_wp2_with fail
        go_ret3
        exact ⟨_, _, _, rfl, HK1.out, .inl ⟨by omega, rfl, rfl, hr.symm⟩⟩
      · have d2 : decide ((n : Int) ≤ s) = false := decide_eq_false h2
        by_cases h3 : t < 0
        · have d3 : decide (t < 0) = true := decide_eq_true h3
          have hr : fcode W H C s t = 9 := by unfold fcode; rw [← HC.out, if_neg (by omega), if_pos (by rw [← HN.out]; omega)]
          go_wp2_with fail
          go_ret3
          exact ⟨_, _, _, rfl, HK1.out, .inl ⟨by omega, rfl, rfl, hr.symm⟩⟩
        · have d3 : decide (t < 0) = false := decide_eq_false h3
          by_cases h4 : (n : Int) ≤ t
          · have d4 : decide ((n : Int) ≤ t) = true := decide_eq_true h4
            have hr : fcode W H C s t = 9 := by unfold fcode; rw [← HC.out, if_neg (by omega), if_pos (by rw [← HN.out]; omega)]
            go_wp2_with fail
            go_ret3
            exact ⟨_, _, _, rfl, HK1.out, .inl ⟨by omega, rfl, rfl, hr.symm⟩⟩
          · have d4 : decide ((n : Int) ≤ t) = false := decide_eq_false h4
            have hr : fcode W H C s t = 0 := by unfold fcode; rw [← HC.out, if_neg (by omega), if_neg (by rw [← HN.out]; omega)]
            have HRC := Lib.hid hr
            have es : ((s.toNat : Nat) : Int) = s := by omega
            have et : t = ((t.toNat : Nat) : Int) := by omega
            obtain ⟨b, hb⟩ : ∃ b, b = t.toNat := ⟨_, rfl⟩
            rw [← hb] at et
            have hbn : b < n := by omega
            have HK2 := Lib.hid HK1.out.size
            obtain ⟨hok, eW, eH⟩ := HOK.out
            have hk2 := HK2.out
            have hwh : W.toNat * H.toNat = n := by rw [← hok.len, ← HN.out]
            have hsr := search_any (cap := cap) (s := s.toNat) hok HR1.out (by have := HH.out; omega) (by omega)
            rw [← eW, ← eH, es, ← HN.out] at hsr
            have HBT := Lib.hid hb
            have HWH := Lib.hid hwh
            subst et
            clear eW eH es hok hk2 hr hb hwh
            go_wp2_with fail
            refine hsr.mono ?_
            rintro e w2 ⟨v1, v2, D, K, r, rfl, hD, hK, hsol, hb2⟩
            obtain ⟨AD, cD, rfl, hrD, _, _, _⟩ := own_rd hD
            obtain ⟨AK, cK, rfl, hrK, _, _, _⟩ := own_rd hK
            have HE := Lib.hid (bt HK1.out hb2)
            have HD := Lib.hid hrD
            have HKK := Lib.hid hrK
            have HSL := Lib.hid hsol
            have lD : D.length = n := hsol.lenD.trans HWH.out
            have hrg := hsol.rng b (by rw [HWH.out]; exact hbn)
            have HRG := Lib.hid hrg
            clear hD hK hsol hb2 hrD hrK hrg hsr
            obtain ⟨x, hx⟩ : ∃ x, x = dd D b := ⟨_, rfl⟩
            have HX := Lib.hid hx
            obtain ⟨ba, oa, rfl, _, _, _, hcD⟩ := HD.out.some (by rw [List.length_map, lD]; omega)
            have HBA := Lib.hid hcD
            have c7 : w2.cell? ⟨ba, oa + b, none⟩ = some (.int .i64 x) := by
              rw [hx]
              refine hcD b _ ?_
              rw [List.getElem?_map, List.getElem?_eq_getElem (by omega)]
              unfold dd
              rw [List.getD_eq_getElem?_getD, List.getElem?_eq_getElem (by omega)]
              rfl
            have hbD : b < D.length := by omega
            rw [lD] at *
            clear hcD hx
            by_cases h7 : x = -1
            · have d7 : (x == (-1 : Int)) = true := by rw [beq_iff_eq]; exact h7
              have hd7 : dd D b = -1 := by rw [← HX.out]; exact h7
              have HD7 := Lib.hid hd7
              clear hd7 h7
              go_wp2_with fail
              go_ret3
              exact ⟨_, _, _, rfl, HE.out, .inr ⟨HRC.out, D, K, r, HSL.out, .inl ⟨HD7.out, rfl, rfl, rfl⟩⟩⟩
            · have d7 : (x == (-1 : Int)) = false := by rw [beq_eq_false_iff_ne]; exact h7
              have hx0 : 0 ≤ x := by have := HRG.out; rw [← HX.out] at this; omega
              have HSTART := Lib.hid (back_start HSL.out (t := b) (by rw [HWH.out]; exact hbn) (by rw [← HX.out]; exact hx0))
              obtain ⟨i0, hi0, hz0, hz1, hz2⟩ := info_parts infoInt
              have HX0 := Lib.hid hx0
              have lK : K.length = n := HSL.out.lenK.trans HWH.out
              obtain ⟨bk, ok, rfl, _, _, _, _⟩ := HKK.out.some (by rw [List.length_map, lK]; omega)
              have HLK := Lib.hid lK
              have HBN := Lib.hid (show b < n from hbn)
              have hn4 : n ≤ 4096 := by have := HOK.out.1.big; have := HWH.out; omega
              have hdb : 0 ≤ dd D b := by rw [← HX.out]; exact hx0
              have HDB := Lib.hid hdb
              clear h7 hx0 lK hdb p0 p1 h1 h2 h3 h4
              rw [HLK.out]
              go_wp2_with fail
              go_loopw [12, 13] (fun v x wr => ∃ (P : List Nat) (xi : Int), x = .int .i64 xi ∧ Back W.toNat H.toNat C s.toNat D K r b P xi ∧ wr.ownsRow w2.heap.size 3 1 v P.length (P.map ni) ∧ Below w2.heap.size w2 wr) (fun v _ _ => n + 1 - lenV (some v))
              case atStart => exact ⟨[], b, rfl, HSTART.out, World.ownsRow_nil _ _ _ _, Below.refl _ _⟩
              case round =>
                obtain ⟨P, xi, rfl, hB, hO, hKp⟩ := hrel
                obtain ⟨hx1, hPl⟩ := back_rng HSL.out hB (by rw [HWH.out]; exact HBN.out) HDB.out
                rw [HWH.out] at hx1 hPl
                have HBK := Lib.hid hB
                have HO := Lib.hid hO
                have HKP := Lib.hid hKp
                clear hB hO hKp
                rcases hx1 with rfl | ⟨y, rfl, hy⟩
                · obtain ⟨A3, c3, rfl, hr3, _, _, _⟩ := own_rd HO.out
                  have HP0 := Lib.hid (show 1 ≤ P.length by
                    have := (back_end HBK.out).1
                    rcases P with _ | ⟨p, P⟩
                    · exact this.elim
                    · simp)
                  have hp0 := HP0.out
                  have HPL := Lib.hid hPl
                  have yl : IntKind.i64.wrap ((P.length : Int) - 1) = ((P.length - 1 : Nat) : Int) := by rw [IntWalk.i64_in _ (by omega)]; omega
                  obtain ⟨g, rfl⟩ : ∃ g, A3 = some (⟨g, 0, none⟩ : Addr) := by
                    rcases HO.out.2 with ⟨hv, h0⟩ | ⟨g, cap, cur, hv, _⟩
                    · omega
                    · injection hv with h1
                      exact ⟨g, h1⟩
                  have HO0 := Lib.hid (show wr.ownsRow w2.heap.size 3 1 (.slice (some ⟨g, 0, none⟩) P.length c3) P.length ((mix P 0).map ni) by rw [mix_0]; exact HO.out)
                  have HG := Lib.hid (own_lt HO.out (b := g) rfl).1
                  clear c7 p2 hr3
                  go_wp2_with fail
                  go_loopw [14, 15] (fun a z wx => ∃ k j : Nat, a = .int .i64 (k : Int) ∧ z = .int .i64 (j : Int) ∧ k + j + 1 = P.length ∧ wx.ownsRow w2.heap.size 3 1 (.slice (some ⟨g, 0, none⟩) P.length c3) P.length ((mix P k).map ni) ∧ Below w2.heap.size w2 wx) (fun a _ _ => P.length - (intOf a).toNat)
                  case atStart => exact ⟨0, P.length - 1, rfl, rfl, by omega, HO0.out, HKP.out⟩
                  case round =>
                    obtain ⟨k, j, rfl, rfl, hkj, hO2, hK2⟩ := hrel
                    by_cases hlt : k < j
                    · have dl : decide (k < j) = true := decide_eq_true hlt
                      have hck : wr.cell? ⟨g, k, none⟩ = some (.int .i64 (((mix P k).getD k 0 : Nat) : Int)) := by
                        have := own_cell hO2 (i := k) (by rw [mix_len]; omega)
                        exact this
                      have hcj : wr.cell? ⟨g, j, none⟩ = some (.int .i64 (((mix P k).getD j 0 : Nat) : Int)) := by
                        have := own_cell hO2 (i := j) (by rw [mix_len]; omega)
                        exact this
                      have fk := hO2.frozenAt k
                      have fj := hO2.frozenAt j
                      have HO2 := Lib.hid hO2
                      have HK3 := Lib.hid hK2
                      have HMX := Lib.hid (mix_step P (k := k) (by omega))
                      have HKJ := Lib.hid hkj
                      obtain ⟨x, hx⟩ : ∃ x, x = (mix P k).getD k 0 := ⟨_, rfl⟩
                      obtain ⟨y, hy⟩ : ∃ y, y = (mix P k).getD j 0 := ⟨_, rfl⟩
                      rw [← hx] at hck
                      rw [← hy] at hcj
                      have HXX := Lib.hid hx
                      have HYY := Lib.hid hy
                      have k0 : (0 : Int) ≤ (k : Int) := by omega
                      have k1 : (k : Int) < (P.length : Int) := by omega
                      have j0 : (0 : Int) ≤ (j : Int) := by omega
                      have j1 : (j : Int) < (P.length : Int) := by omega
                      have j2 : (1 : Int) ≤ (j : Int) := by omega
                      clear hO2 hK2 hx hy hkj
                      go_wp2_with fail
                      have hne : k ≠ j := by omega
                      go_region
                      all_goals go_wp2_with fail
                      all_goals go_roundw
                      case rel =>
                        have e : P.length - 1 - k = j := by have := HKJ.out; omega
                        have h2 := own_set (own_set HO2.out k (.int .i64 (y : Int))) j (.int .i64 (x : Int))
                        have h3 : (((mix P k).map ni).set k (.int .i64 (y : Int))).set j (.int .i64 (x : Int)) = (mix P (k + 1)).map ni := by
                          have := HMX.out
                          rw [e, ← HXX.out, ← HYY.out] at this
                          rw [← this, List.map_set, List.map_set]
                          rfl
                        rw [h3] at h2
                        have hgg := HG.out
                        exact ⟨k + 1, j - 1, by go_num, by congr 1; omega, by have := HKJ.out; omega, h2, ((HK3.out.setCell (p := ⟨g, k, none⟩) hgg _).setCell (p := ⟨g, j, none⟩) hgg _).drew⟩
                      case measure => simp [intOf]; omega
                    · have dl : decide (k < j) = false := decide_eq_false hlt
                      rw [mix_end P (k := k) (by omega)] at hO2
                      have HO2 := Lib.hid hO2
                      have HK3 := Lib.hid hK2
                      have c9 := cell_dd (HD.out.next hK2) (i := b) (by rw [HSL.out.lenD, HWH.out]; exact HBN.out)
                      clear hO2 hK2 hkj
                      go_wp2_with fail
                      go_quiet (fail)
                      go_wp2_with fail
                      go_ret3
                      exact ⟨_, _, _, rfl, below_drewN (bt HE.out HK3.out) _, .inr ⟨HRC.out, D, K, r, HSL.out, .inr ⟨HDB.out, rfl, rfl, P, _, HBK.out, HE.out.size, own_next HO2.out (below_drewN (Below.refl _ _) _)⟩⟩⟩
                · have dy : ((y : Int) != (-1 : Int)) = true := by rw [bne_iff_ne]; omega
                  have hy0 : (0 : Int) ≤ (y : Int) := by omega
                  have hks := HKP.out.size
                  have HKK2 := Lib.hid (HKK.out.next HKP.out)
                  have HKP2 := Lib.hid (bt HKP.out (bl wr (.cells #[Value.int .i64 (y : Int)] 3)))
                  clear c7 p2
                  go_wp2_with (
                    at_builtin
                    refine wpList_append_mine ?_ (.tmp 59) (.tmp 61) 56 ?_ w2.heap.size 3 i0 (.int .i64 0) 1 8 Try.underlying56 hi0 hz0 hz1 hz2 ?_ ?_ _ P.length (P.map ni) ?_ (own_next HO.out (bl _ _)) (some ⟨wr.heap.size, 0, none⟩) 1 1 [.int .i64 (y : Int)] ?_ ?_ ?_ ?_ ?_ ?_ ?_ ?_ ?_
                    · rfl
                    · rfl
                    · rfl
                    · decide
                    · rfl
                    · rfl
                    · rfl
                    · intro h; cases h
                    · intro ad h; injection h with h; subst h; exact cell_one_new _ _ _
                    · simp [Value.oneCell']
                    · unfold maxLen; omega
                    · omega
                    · simp; omega
                    intro v3 w3 own3 grow3 hw3
                    have HKP3 := Lib.hid (HKP2.out.grown grow3 HKP2.out.size (fun k hk => (own_lt HO.out hk).1))
                    have HO3 := Lib.hid own3
                    have c9 := cell_dd (HKK.out.next HKP3.out) (i := y) (by rw [HLK.out]; exact hy)
                    clear own3 grow3 hw3)
                  go_roundw
                  case rel => exact ⟨P ++ [y], dd K y, rfl, back_step HSL.out HBK.out, by rw [List.length_append, List.map_append]; exact HO3.out, HKP3.out⟩
                  case measure =>
                    obtain ⟨_, _, rfl, _⟩ := own_rd HO.out
                    obtain ⟨_, _, rfl, _⟩ := own_rd HO3.out
                    simp [lenV]
                    omega
  · have d0 : (c != (0 : Int)) = true := by rw [bne_iff_ne]; exact h0
    have hr : fcode W H C s t = c := by unfold fcode; rw [← HC.out, if_pos h0]
    go_wp2_with fail
    go_ret3
    exact ⟨_, _, _, rfl, HK1.out, .inl ⟨by rw [hr]; exact h0, rfl, rfl, hr.symm⟩⟩
end Rou
end Go.Proofs.Ytgncngpgodfijaa
