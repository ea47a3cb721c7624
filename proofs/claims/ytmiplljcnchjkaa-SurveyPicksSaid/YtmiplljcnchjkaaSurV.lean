/-
  The law SurveyPicks, walked.
-/
import Derived.Test.YtmiplljcnchjkaaSurU
import Derived.Test.YtmiplljcnchjkaaSurJ
namespace Go.Proofs.Ytmiplljcnchjkaa
open Go.RowKit
set_option linter.unusedVariables false
namespace Sur
/-- the squares, which are picked, and those so far -/
structure MT (w : World) (lo hi : Nat) (A AP : Option Addr) (L : List Sq) (P : List Bool) (M : List Sq) (v : Value) (k : Nat) (wr : World) : Prop where
  rd : RdL wr lo hi A (sqs L)
  rp : RdL wr 0 w.heap.size AP (P.map bo)
  own : wr.ownsRow w.heap.size 61 5 v k (sqs M)
  b : Below w.heap.size w wr
  h : hi ≤ w.heap.size
section
variable {w wr w' : World} {lo hi k : Nat} {A AP : Option Addr} {L M : List Sq} {P : List Bool} {v v' : Value}
theorem MT.next (S : MT w lo hi A AP L P M v k wr) (h : Below wr.heap.size wr w') : MT w lo hi A AP L P M v k w' := ⟨S.rd.next h, S.rp.next h, own_next S.own h, bt S.b h, S.h⟩
theorem MT.more (S : MT w lo hi A AP L P M v k wr) (b : Sq) (hg : wr.grownBy w' v.ownBlock) (ho : w'.ownsRow w.heap.size 61 5 v' (k + 1) (sqs M ++ b.cells)) : MT w lo hi A AP L P (M ++ [b]) v' (k + 1) w' := by
  have hv : ∀ k, v.ownBlock = some k → w.heap.size ≤ k := fun k hk => (own_lt S.own hk).1
  have h2 := S.h
  refine ⟨S.rd.grown hg (fun g' hg' => .inr (by have := hv g' hg'; omega)), S.rp.grown hg (fun g' hg' => .inr (by have := hv g' hg'; omega)), ?_, S.b.grown hg S.b.size (fun k hk => hv k hk), S.h⟩
  have e : sqs (M ++ [b]) = sqs M ++ b.cells := by
    unfold sqs
    rw [List.flatMap_append]
    congr 1
  rw [e]
  exact ho
end
/-- which places are picked, of the first i -/
def subL (P : List Bool) (i : Nat) : List Nat := (List.range i).filter fun k => P.getD k false
theorem subL_step (P : List Bool) (i : Nat) : subL P (i + 1) = subL P i ++ (if P.getD i false = true then [i] else []) := by
  unfold subL
  rw [List.range_succ, List.filter_append]
  congr 1
  by_cases h : P.getD i false = true
  · rw [if_pos h, List.filter_cons_of_pos (by simpa using h)]
    rfl
  · rw [if_neg h, List.filter_cons_of_neg (by simpa using h)]
    rfl
theorem subL_lt {P : List Bool} {i k : Nat} (h : k ∈ subL P i) : k < i := List.mem_range.1 (List.mem_filter.1 h).1
theorem subL_sub (P : List Bool) {i n : Nat} (h : i ≤ n) : (subL P i).Sublist (List.range n) :=
  (List.filter_sublist).trans (List.range_sublist.2 h)
theorem bySub_app (L : List Sq) (l m : List Nat) : bySub L (l ++ m) = bySub L l ++ bySub L m := List.map_append
theorem bySub_len (L : List Sq) (l : List Nat) : (bySub L l).length = l.length := List.length_map _
theorem picked_sub (L : List Sq) (R : List Nat) (m : Nat) : picked L R m = bySub L (R.take m) := rfl
theorem lawPicks_out (A AP : Option Addr) (n cap np capp : Nat) (s : Int) (h : 60 < n) (w : World) :
    Calls Try.prog 11 #[.slice A n cap, .int .i64 s, .slice AP np capp] w fun e w' => e = .returned (.bool true) ∧ Below w.heap.size w w' := by
  have d1 : decide (60 < (n : Int)) = true := decide_eq_true (by omega)
  clear h
  go_enter Try.func11, Try.ntmps11
  go_wp2_with fail
  refine (works38_any _).mono ?_
  rintro e w1 ⟨rfl, hb⟩
  go_wp2_with fail
  go_ret
  exact ⟨rfl, hb⟩
set_option maxRecDepth 100000 in
set_option maxHeartbeats 2000000 in
theorem lawPicks_core (A AP : Option Addr) (L : List Sq) (P : List Bool) (n cap np capp lo hh : Nat) (s : Int) (w : World) (hrd : RdL w lo hh A (sqs L)) (hhi : hh ≤ w.heap.size) (hn : L.length = n) (hn2 : n ≤ 60) (hrp : RdL w 0 w.heap.size AP (P.map bo)) (hnp : P.length = np) :
    Calls Try.prog 11 #[.slice A n cap, .int .i64 s, .slice AP np capp] w fun e w' => e = .returned (.bool true) ∧ Below w.heap.size w w' := by
  obtain ⟨i7, hi7, hy0, hy1, hy2⟩ := info_parts infoBlock
  have d1 : decide (60 < (n : Int)) = false := decide_eq_false (by omega)
  have HN := Lib.hid hn
  have HNP := Lib.hid hnp
  have HJ : Hid (MT w lo hh A AP L P (bySub L (subL P 0)) (.slice none 0 0) 0 w) := Lib.hid ⟨hrd, hrp, World.ownsRow_nil _ _ _ _, Below.refl _ _, hhi⟩
  clear hrd hrp hn hnp
  go_enter Try.func11, Try.ntmps11
  go_wp2_with fail
  go_loopw [7, 8] (fun s7 s8 wr => ∃ (i k : Nat) (v : Value), s8 = .int .i64 (i : Int) ∧ i ≤ n ∧ i ≤ np ∧ s7 = v ∧ k = (subL P i).length ∧ MT w lo hh A AP L P (bySub L (subL P i)) v k wr) (fun _ s8 _ => n - (intOf s8).toNat)
  case atStart => exact ⟨0, 0, _, rfl, by omega, by omega, rfl, rfl, HJ.out⟩
  case round =>
    clear HJ
    obtain ⟨i, k, v, rfl, hi0, hi1, rfl, hk, hS⟩ := hrel
    obtain ⟨Av, cv, rfl, _, _, _, _⟩ := own_rd hS.own
    have HS := Lib.hid hS
    have HK := Lib.hid hk
    have hki : k ≤ i := by rw [hk]; have := (List.filter_sublist (p := fun k => P.getD k false) (l := List.range i)).length_le; rwa [List.length_range] at this
    clear hS hk
    by_cases hi : i < n ∧ i < np
    · obtain ⟨hi2, hi3⟩ := hi
      have di : decide (i < n) = true := decide_eq_true hi2
      have di2 : decide (i < np) = true := decide_eq_true hi3
      have i0 : (0 : Int) ≤ (i : Int) := by omega
      have i1 : (i : Int) < (n : Int) := by omega
      have i2 : (i : Int) < (np : Int) := by omega
      have hiL : i < L.length := by rw [HN.out]; exact hi2
      have hiP : i < P.length := by rw [HNP.out]; exact hi3
      obtain ⟨bP, oP, rfl, _, _, _, hcP⟩ := HS.out.rp.some (by rw [List.length_map]; omega)
      have cp : wr.cell? ⟨bP, oP + i, none⟩ = some (.bool P[i]) := hcP i _ (by rw [List.getElem?_map, List.getElem?_eq_getElem hiP]; rfl)
      have hgd : P.getD i false = P[i] := by rw [List.getD_eq_getElem?_getD, List.getElem?_eq_getElem hiP]; rfl
      have hstep := subL_step P i
      rw [hgd] at hstep
      clear hcP
      by_cases hp : P[i] = true
      · rw [hp] at cp
        rw [if_pos hp] at hstep
        have HST : Hid (bySub L (subL P (i + 1)) = bySub L (subL P i) ++ [L[i]] ∧ k + 1 = (subL P (i + 1)).length) := Lib.hid (by
          rw [hstep, bySub_app, List.length_append, ← HK.out]
          refine ⟨?_, rfl⟩
          congr 1
          show [L.getD i zq] = _
          rw [List.getD_eq_getElem?_getD, List.getElem?_eq_getElem hiL]
          rfl)
        obtain ⟨bL, oL, rfl, _, _, _, _⟩ := HS.out.rd.some (by rw [sqs_len]; omega)
        have hc := sq_elem HS.out.rd hiL
        obtain ⟨b, hb⟩ : ∃ b, b = L[i] := ⟨_, rfl⟩
        rw [← hb] at hc HST
        obtain ⟨x1, x2, x3, x4, x5⟩ := b
        obtain ⟨c0, c1, c2, c3, c4⟩ := hc
        dsimp only at c0 c1 c2 c3 c4
        have HS3 := Lib.hid (HS.out.next (_root_.Go.Proofs.Ytmiplljcnchjkaa.bl wr (.cells #[.int .i64 x1, .int .i64 x2, .int .i64 x3, .int .i64 x4, .int .i64 x5] 61)))
        have HN3 := Lib.hid (new_rd wr 61 [.int .i64 x1, .int .i64 x2, .int .i64 x3, .int .i64 x4, .int .i64 x5])
        have hsz := HS.out.b.size
        clear hp hb hstep hgd hiP hiL HS
        go_wp2_with (at_builtin; refine wpList_append_mine rfl (.tmp 41) (.tmp 46) 54 rfl w.heap.size 61 i7 _ 5 40 Try.underlying54 hi7 hy0 hy1 hy2 rfl (by decide) (.slice Av k cv) k (sqs (bySub L (subL P i))) rfl HS3.out.own (some ⟨wr.heap.size, 0, Option.none⟩) 1 1 [.int .i64 x1, .int .i64 x2, .int .i64 x3, .int .i64 x4, .int .i64 x5] rfl rfl (fun h => by cases h) HN3.out.news (by simp [Value.oneCell']) (by simp only [maxLen]; omega) (by omega) (by simp; omega) ?_; intro v2 w4 hown hgrow hwh; have hmore := HS3.out.more ⟨x1, x2, x3, x4, x5⟩ hgrow hown; rw [← HST.out.1] at hmore; have HFin := Lib.hid hmore; clear hown hgrow hwh hmore)
        go_roundw
        case rel => exact ⟨i + 1, k + 1, _, by go_num, by omega, by omega, rfl, HST.out.2, HFin.out⟩
        case measure => simp [intOf]; omega
      · have hp' : P[i] = false := by simpa using hp
        rw [hp'] at cp
        rw [if_neg hp, List.append_nil] at hstep
        have HST := Lib.hid hstep
        clear hp hp' hstep hgd hiP hiL
        go_wp2_with fail
        go_roundw
        case rel => exact ⟨i + 1, k, _, by go_num, by omega, by omega, rfl, by rw [HST.out]; exact HK.out, by rw [HST.out]; exact HS.out⟩
        case measure => simp [intOf]; omega
    · obtain ⟨sub, hsub⟩ : ∃ sub, sub = subL P i := ⟨_, rfl⟩
      have hsl : Hid (sub.Sublist (List.range n)) := Lib.hid (by rw [hsub]; exact subL_sub P hi0)
      have hlt : Hid (∀ j ∈ sub, j < L.length) := Lib.hid (fun j hj => by rw [hsub] at hj; have := subL_lt hj; rw [HN.out]; omega)
      have hS := HS.out
      rw [← hsub] at hS HK
      have hkn : k ≤ n := by omega
      have HS1 := Lib.hid hS
      have hwo := worth_any A L n cap lo hh s wr hS.rd HN.out (by omega)
      have hbe := fun X (hX : MT w lo hh A AP L P (bySub L sub) (.slice Av k cv) k X) => best_any A L n cap lo hh s (k : Int) X hX.rd (Nat.le_trans hX.h hX.b.size) HN.out (by omega)
      have hik : (i < n ∧ ¬ i < np) ∨ ¬ i < n := by omega
      clear hS HS hsub
      unfold GotW at hwo
      unfold GotB at hbe
      have hik2 : (decide (i < n) = true ∧ decide (i < np) = false) ∨ decide (i < n) = false := hik.imp (fun h => ⟨decide_eq_true h.1, decide_eq_false h.2⟩) decide_eq_false
      have HBE := Lib.hid hbe
      have hTl : (tolds L s).length = n := by unfold tolds; rw [List.length_map, HN.out]
      have HTL := Lib.hid hTl
      clear hik hi hbe hTl hi0 hi1
      rcases hik2 with ⟨di, di2⟩ | di
      all_goals
        go_wp2_with fail
        refine hwo.mono ?_
        clear hwo
        rintro e w2 ⟨hb2, ⟨hbad, rfl⟩ | ⟨hok, rfl⟩⟩
        · have HS2 := Lib.hid (HS1.out.next hb2)
          have hbe := HBE.out w2 HS2.out
          clear hb2 HS1 HBE
          go_wp2_with fail
          refine hbe.mono ?_
          clear hbe
          rintro e w3 ⟨hb3, ⟨_, rfl⟩ | ⟨hok, _⟩⟩
          · have HB3 := Lib.hid (bt HS2.out.b hb3)
            clear hb3 HS2
            go_wp2_with fail
            refine (works38_any _).mono ?_
            rintro e w4 ⟨rfl, hb4⟩
            have HB4 := Lib.hid (bt HB3.out hb4)
            clear hb4
            go_wp2_with fail
            go_ret
            exact ⟨rfl, HB4.out⟩
          · exact absurd hok hbad
        · have HS2 := Lib.hid (HS1.out.next hb2)
          have hbe := HBE.out w2 HS2.out
          clear hb2 HS1 HBE
          go_wp2_with fail
          refine hbe.mono ?_
          clear hbe
          rintro e w3 ⟨hb3, ⟨hbad, _⟩ | ⟨_, gb, R, m, hR, hm, hgb, rfl, hB⟩⟩
          · exact absurd hok hbad
          have hmk : m = k := by rw [hm, HN.out, Int.toNat_natCast]; omega
          subst hmk
          have HS3 := Lib.hid (HS2.out.next hb3)
          have hRl : Hid (R.length = n ∧ ∀ j ∈ R, j < L.length) := Lib.hid (by
            have h1 := hR.1
            have h2 := h1.length_eq
            rw [HTL.out] at h1 h2
            rw [List.length_range] at h2
            exact ⟨h2, fun j hj => by rw [HN.out]; exact List.mem_range.1 (h1.mem_iff.1 hj)⟩)
          have hbest := best_sum (fun x hx => (tolds_nat L s x hx).1) hR (l := sub) (by rw [HTL.out]; exact hsl.out)
          rw [← HK.out, HTL.out] at hbest
          have htk : ∀ j ∈ R.take m, j < L.length := fun j hj => hRl.out.2 j (List.mem_of_mem_take hj)
          have hX : sum64 (tolds (picked L R m) s) = sumF (fun k => (tolds L s).getD k 0) (R.take m) := by rw [picked_sub, tolds_sub L s _ htk, sum64_map]
          have hY : sum64 (tolds (bySub L sub) s) = sumF (fun k => (tolds L s).getD k 0) sub := by rw [tolds_sub L s _ hlt.out, sum64_map]
          have hA : sum64 (tolds L s) = sumF (fun k => (tolds L s).getD k 0) (List.range n) := by
            have e := tolds_range L s
            rw [HN.out] at e
            rw [show sum64 (tolds L s) = sum64 ((List.range n).map fun k => (tolds L s).getD k 0) from congrArg sum64 e, sum64_map]
          rw [← hX, ← hY, ← hA] at hbest
          have hpl : (picked L R m).length = m := by rw [picked_sub, bySub_len, List.length_take, hRl.out.1]; omega
          have hrb : RdL w3 0 w3.heap.size (some ⟨gb, 0, none⟩) (sqs (picked L R m)) := .inr ⟨gb, 0, rfl, Nat.zero_le _, hB.lt, hB.lt, fun j u hu => by rw [Nat.zero_add]; exact (hB.cell j).trans hu⟩
          have hwb := worth_any (some ⟨gb, 0, none⟩) (picked L R m) m m 0 w3.heap.size s w3 hrb hpl (by omega)
          have hokb := allOk_sub hok (R.take m) htk
          have hokm := allOk_sub hok sub hlt.out
          rw [← picked_sub] at hokb
          have hml : (bySub L sub).length = m := by rw [bySub_len]; exact HK.out.symm
          have hwm := fun X (hX : MT w lo hh A AP L P (bySub L sub) (.slice Av m cv) m X) => (show Calls Try.prog 42 #[.slice Av m cv, .int .i64 s] X (GotW X (bySub L sub) s) by
            obtain ⟨_, _, e', hro, _, _, _⟩ := own_rd hX.own
            injection e' with e2 _ e3
            subst e2 e3
            exact worth_any _ (bySub L sub) m _ _ _ s X hro hml (by omega))
          unfold GotW at hwb hwm
          obtain ⟨sx, hsx⟩ : ∃ x, x = sum64 (tolds (picked L R m) s) := ⟨_, rfl⟩
          obtain ⟨sy, hsy⟩ : ∃ x, x = sum64 (tolds (bySub L sub) s) := ⟨_, rfl⟩
          obtain ⟨sa, hsa⟩ : ∃ x, x = sum64 (tolds L s) := ⟨_, rfl⟩
          rw [← hsx] at hbest hwb
          rw [← hsy] at hbest hwm
          rw [← hsa] at hbest ⊢
          have HSY := Lib.hid hsy
          have HWM := Lib.hid hwm
          have HML := Lib.hid hml
          have HOM := Lib.hid hokm
          have HOB := Lib.hid hokb
          clear hb3 hR hm hgb hB hrb hX hY hA hpl hsx hsy hsa htk hwm hml hokm hokb hok HS2
          go_wp2_with fail
          refine hwb.mono ?_
          clear hwb
          rintro e w4 ⟨hb4, ⟨hbad, _⟩ | ⟨_, rfl⟩⟩
          · exact absurd HOB.out hbad
          have HS4 := Lib.hid (HS3.out.next hb4)
          have hwm := HWM.out w4 HS4.out
          clear hb4 HS3 HWM HOB
          go_wp2_with fail
          refine hwm.mono ?_
          clear hwm
          rintro e w5 ⟨hb5, ⟨hbad, _⟩ | ⟨_, rfl⟩⟩
          · exact absurd HOM.out hbad
          have HS5 := Lib.hid (HS4.out.next hb5)
          clear hb5 HS4
          have hMT : Hid ((tolds (bySub L sub) s).length = m) := Lib.hid (by unfold tolds; rw [List.length_map]; exact HML.out)
          go_wp2_with fail
          go_loopw [17, 18, 19, 20] (fun s17 s18 _ _ wr => ∃ j : Nat, s18 = .int .i64 (j : Int) ∧ j ≤ m ∧ s17 = .int .i64 (sum64 ((tolds (bySub L sub) s).take j)) ∧ MT w lo hh A AP L P (bySub L sub) (.slice Av m cv) m wr) (fun _ s18 _ _ _ => m - (intOf s18).toNat)
          case atStart => exact ⟨0, rfl, by omega, by rw [List.take_zero]; rfl, HS5.out⟩
          case round =>
            clear HS5
            obtain ⟨j, rfl, hj0, rfl, hS⟩ := hrel
            have HS := Lib.hid hS
            clear hS
            have hsum := sum64_take (tolds (bySub L sub) s) (tolds_nat _ s) j (by rw [hMT.out]; exact hj0)
            by_cases hj : j < m
            · have dj : decide (j < m) = true := decide_eq_true hj
              have j0 : (0 : Int) ≤ (j : Int) := by omega
              have j1 : (j : Int) < (m : Int) := by omega
              have hjM : j < (bySub L sub).length := by rw [HML.out]; exact hj
              have hnext : Hid (sum64 ((tolds (bySub L sub) s).take (j + 1)) = sum64 ((tolds (bySub L sub) s).take j) + (infoC (bySub L sub)[j].r s).1) := Lib.hid (by
                rw [List.take_succ_eq_append_getElem (by rw [hMT.out]; exact hj), sum64_snoc]
                unfold tolds
                rw [List.getElem_map])
              obtain ⟨_, _, e', hro, _, _, _⟩ := own_rd HS.out.own
              injection e' with e2 _ e3
              subst e2 e3
              obtain ⟨bM, oM, rfl, _, _, _, _⟩ := hro.some (by rw [sqs_len, HML.out]; omega)
              have hc := sq_elem hro hjM
              have hin := fun w => infoR_any (bySub L sub)[j].r s w
              unfold GotN at hin
              have htwo := infoC_two (bySub L sub)[j].r s
              obtain ⟨x3, hx3⟩ : ∃ x, x = (bySub L sub)[j].r := ⟨_, rfl⟩
              rw [← hx3] at hin hnext htwo
              have c2 : wr.cell? ⟨bM, oM + j * 5 + 2, none⟩ = some (.int .i64 x3) := by rw [hx3]; exact hc.2.2.1
              generalize infoC x3 s = pp at *
              obtain ⟨p1, p2⟩ := pp
              dsimp only at hin hnext
              have hp1 : 0 ≤ p1 ∧ p1 < 2097152 := by
                rcases htwo with h | ⟨q, hq, h⟩
                · injection h with h3 h4
                  subst h3
                  exact ⟨by decide, by decide⟩
                · injection h with h3 h4
                  subst h3
                  omega
              obtain ⟨S0, hS0⟩ : ∃ S, S = sum64 ((tolds (bySub L sub) s).take j) := ⟨_, rfl⟩
              rw [← hS0] at hsum hnext ⊢
              have hwr : IntKind.i64.wrap (S0 + p1) = S0 + p1 := IntWalk.i64_in _ (by omega)
              clear hc hx3 hro htwo hS0 hjM
              go_wp2_with fail
              refine (hin _).mono ?_
              rintro e w6 ⟨rfl, hb6⟩
              have HS6 := Lib.hid (HS.out.next hb6)
              clear hb6 hin HS c2
              go_wp2_with fail
              go_roundw
              case rel => exact ⟨j + 1, by go_num, by omega, by rw [hnext.out], HS6.out⟩
              case measure => simp [intOf]; omega
            · have dj : decide (j < m) = false := decide_eq_false hj
              have hjm : j = m := by omega
              subst hjm
              rw [List.take_of_length_le (by rw [hMT.out]; exact Nat.le_refl _), ← HSY.out]
              have hb1 : decide (sy ≤ sx) = true := decide_eq_true hbest.1
              have hb2 : decide (sx ≤ sa) = true := decide_eq_true hbest.2
              have hey : (sy == sy) = true := by rw [beq_iff_eq]
              have HB := Lib.hid HS.out.b
              clear hsum HS hbest
              go_wp2_with fail
              refine (works38_any _).mono ?_
              rintro e w7 ⟨rfl, hb7⟩
              have HB7 := Lib.hid (bt HB.out hb7)
              clear hb7
              go_wp2_with fail
              go_ret
              exact ⟨rfl, HB7.out⟩
theorem bools_flat : ∀ L : List Bool, L.flatMap (fun b => [bo b]) = L.map bo
  | [] => rfl
  | b :: L => by rw [List.flatMap_cons, bools_flat L]; rfl
theorem open_bools {W : World} {v : Value} (h : VSat W (.slice .bool) false v) : ∃ A L cap, v = .slice A (List.length L) cap ∧ RdL W 0 W.heap.size A (List.map bo L) := by
  obtain ⟨A, L, cap, h1, h2, _, _⟩ := open_slice_of (fun b => [bo b]) (fun _ => True) .bool 1 rfl (fun _ => rfl) (by decide) (fun cs hs => by
    obtain ⟨b, rfl⟩ := hs
    exact ⟨b, rfl, trivial⟩) h
  exact ⟨A, L, cap, h1, by rw [← bools_flat]; exact h2⟩
theorem walkPicks (v0 v1 v2 : Value) (W : World) (h0 : VSat W (.slice (.cat (.int .i64) (.cat (.int .i64) (.cat (.int .i64) (.cat (.int .i64) (.cat (.int .i64) .unit)))))) false v0) (h1 : VSat W (.int .i64) false v1) (h2 : VSat W (.slice .bool) false v2) :
    Calls Try.prog 11 #[v0, v1, v2] W fun e W' => e = .returned (.bool true) ∧ Below W.heap.size W W' := by
  obtain ⟨A, L, cap, rfl, hr⟩ := open_sqs h0
  obtain ⟨x, e, hx⟩ := h1
  injection e with e
  subst e
  obtain ⟨A2, P, cap2, rfl, hr2⟩ := open_bools h2
  by_cases h : 60 < L.length
  · exact lawPicks_out A A2 L.length cap P.length cap2 x h W
  · exact lawPicks_core A A2 L P L.length cap P.length cap2 0 W.heap.size x W hr (Nat.le_refl _) rfl (by omega) hr2 rfl
end Sur
end Go.Proofs.Ytmiplljcnchjkaa
