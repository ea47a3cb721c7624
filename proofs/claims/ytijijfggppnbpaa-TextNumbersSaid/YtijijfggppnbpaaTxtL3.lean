/-
  The law TextNumbers, walked.
-/
import Derived.Test.YtijijfggppnbpaaTxtL1
namespace Go.Proofs.Ytijijfggppnbpaa
open Go.RowKit
set_option linter.unusedVariables false
namespace Txt
open Frm (Fr codeF numK numN GotF)

theorem GotW.alt {w w' : World} {l : List UInt8} {e : Ending} (h : GotW w l e w') : ∃ v, e = .returned (.tuple #[v, .bool (words l).isSome]) ∧ w'.ownsRow w.heap.size 9 1 v ((words l).getD []).length (((words l).getD []).map sv) ∧ Below w.heap.size w w' := by
  obtain ⟨⟨v, b, rfl, h⟩, hb⟩ := h
  rcases h with ⟨out, h1, rfl, h2⟩ | ⟨h1, rfl, rfl⟩
  · refine ⟨v, ?_, ?_, hb⟩
    · rw [h1]; rfl
    · rw [h1]; exact h2
  · refine ⟨.slice none 0 0, ?_, ?_, hb⟩
    · rw [h1]; rfl
    · rw [h1]; exact World.ownsRow_nil _ _ _ _
set_option maxRecDepth 100000 in
set_option maxHeartbeats 1000000 in
theorem lawNums_long (x : Int) (l : List UInt8) (kd : Int) (hl : 300 < l.length) (w : World) : Calls Try.prog 7 #[.int .i64 x, .string (tx l), .int .i64 kd] w fun e w' => e = .returned (.bool true) ∧ Below w.heap.size w w' := by
  have hwk := fun w => works42_any w
  have ts := tx_size l
  generalize l.length = m at *
  have hI : (300 : Int) < (m : Int) := by omega
  go_enter Try.func7, Try.ntmps7
  go_wp2_with fail
  refine (hwk _).mono ?_
  rintro e w3 ⟨rfl, hb⟩
  go_wp2_with fail
  go_ret
  exact ⟨rfl, hb⟩
set_option maxRecDepth 100000 in
set_option maxHeartbeats 2000000 in
theorem lawNums_any (x : Int) (l : List UInt8) (kd : Int) (hx1 : -9223372036854775808 ≤ x) (hx2 : x ≤ 9223372036854775807) (hl : l.length ≤ 300) (w : World) : Calls Try.prog 7 #[.int .i64 x, .string (tx l), .int .i64 kd] w fun e w' => e = .returned (.bool true) ∧ Below w.heap.size w w' := by
  have hwk := fun w => works42_any w
  have ts := tx_size l
  have tl := tx_list l
  have hnx := fun w => xNumber_any x hx1 hx2 w
  have hny := fun w => yNumber_any x.natAbs x w rfl hx1 hx2
  have hwx := fun w => xWord_any kd w
  have hwy := fun w => yWord_any kd w
  have hsx := fun w => xIsNumber_any l (by omega) w
  have hsy := fun w => yIsNumber_any l (by omega) w
  have hvx := fun w => xWords_any l (by omega) w
  have hvy := fun w => yWords_any l (by omega) w
  have hkx := fun w => xKind_any l w
  have hnum := numL_len x (by omega)
  have hdx := fun w => xIsNumber_any (numL x) (by omega) w
  have hback := isNum_numL x
  have HBk := Lib.hid hback
  have HKW : ∀ k : Nat, Hid (k = kindOf l → (k = 0 ∨ (1 ≤ k ∧ k ≤ 7 ∧ wordL (k : Int) = l ∧ l ≠ []))) := fun k => Lib.hid (fun h => by
    rcases kindOf_is l with ⟨h1, _⟩ | ⟨h1, h2, h3⟩
    · exact .inl (h.trans h1)
    · refine .inr ⟨by omega, by omega, ?_, fun e => ?_⟩
      · rw [h]; exact h3
      · rw [e] at h3
        have := (wordL_word (k := (kindOf l : Int)) (by omega) (by omega)).1
        rw [e] at this
        exact this h3)
  have HKD : Hid (1 ≤ kd → kd ≤ 7 → (kindOf (wordL kd) : Int) = kd) := Lib.hid (fun h1 h2 => (wordL_word h1 h2).2.2)
  have HWL : Hid ((∀ k : Nat, k = 0 → wordL (k : Int) = [])) := Lib.hid (fun k h => by subst h; rfl)
  obtain ⟨m, hm⟩ : ∃ m, l.length = m := ⟨_, rfl⟩
  rw [hm] at ts hl
  have hI : ¬ (300 : Int) < (m : Int) := by omega
  have td := tx_list (numL x)
  have tw := tx_list (wordL kd)
  have hout : ((words l).getD []).length ≤ 300 := by
    cases hw : words l with
    | none => exact Nat.zero_le _
    | some ws =>
      obtain ⟨h80, _, hj⟩ := words_jn hw
      have := congrArg List.length hj
      have h2 := jn_len ws
      rw [List.length_append] at this
      simp only [List.length_cons, List.length_nil] at this
      show ws.length ≤ 300
      omega
  obtain ⟨out, hou⟩ : ∃ o, o = (words l).getD [] := ⟨_, rfl⟩
  rw [← hou] at hout
  have HO := Lib.hid hou
  clear hm hnum hback hou
  obtain ⟨D, hD⟩ : ∃ d, d = numL x := ⟨_, rfl⟩
  rw [← hD] at hnx hny hdx td HBk
  clear hD
  generalize wordL kd = WK at *
  go_enter Try.func7, Try.ntmps7
  go_wp2_with fail
  refine (hnx _).mono ?_
  rintro e w1 ⟨rfl, hb⟩
  have B1 := Lib.hid hb
  clear hb
  go_wp2_with fail
  refine (hny _).mono ?_
  rintro e w2 ⟨rfl, hb⟩
  have B2 := Lib.hid (_root_.Go.Proofs.Ytijijfggppnbpaa.bt B1.out hb)
  clear hb
  go_wp2_with fail
  refine (hwx _).mono ?_
  rintro e w2' ⟨rfl, rfl⟩
  go_wp2_with fail
  refine (hwy _).mono ?_
  rintro e w3 ⟨rfl, hb⟩
  have B3 := Lib.hid (_root_.Go.Proofs.Ytijijfggppnbpaa.bt B2.out hb)
  clear hb B1 B2 hnx hny
  have hrange : decide ((-1000000000000000000 : Int) < x) = false ∨ (decide ((-1000000000000000000 : Int) < x) = true ∧ decide (x < (1000000000000000000 : Int)) = false) ∨ (decide ((-1000000000000000000 : Int) < x) = true ∧ decide (x < (1000000000000000000 : Int)) = true ∧ ∀ w, Calls Try.prog 32 #[.string (tx D)] w fun e w' => e = .returned (.tuple #[.int .i64 x, .bool true]) ∧ Below w.heap.size w w') := by
    by_cases h1 : (-1000000000000000000 : Int) < x
    · by_cases h2 : x < 1000000000000000000
      · refine .inr (.inr ⟨decide_eq_true h1, decide_eq_true h2, fun w => ?_⟩)
        obtain ⟨h3, h4⟩ := HBk.out h1 h2
        have := hdx w
        rw [isNum_yes D h3, h3, h4] at this
        exact this
      · exact .inr (.inl ⟨decide_eq_true h1, decide_eq_false h2⟩)
    · exact .inl (decide_eq_false h1)
  clear hdx HBk hx1 hx2
  rcases hrange with r1 | ⟨r1, r2⟩ | ⟨r1, r2, hdx⟩
  rotate_left 2
  go_wp2_with fail
  refine (hdx _).mono ?_
  rintro e w4 ⟨rfl, hb⟩
  have B4 := Lib.hid (_root_.Go.Proofs.Ytijijfggppnbpaa.bt B3.out hb)
  clear hb hdx B3
  have B3 := Lib.hid B4.out
  clear B4
  all_goals
    go_wp2_with fail
    refine (hsx _).mono ?_
    rintro e w5 ⟨rfl, hb⟩
    have B5 := Lib.hid (_root_.Go.Proofs.Ytijijfggppnbpaa.bt B3.out hb)
    clear hb B3 hsx
    go_wp2_with fail
    refine (hsy _).mono ?_
    rintro e w6 ⟨rfl, hb⟩
    have B6 := Lib.hid (_root_.Go.Proofs.Ytijijfggppnbpaa.bt B5.out hb)
    clear hb B5 hsy
    generalize resV l = rv0 at *
    generalize isNum l = in0 at *
    go_wp2_with fail
    refine (hvx _).mono ?_
    intro e w7 hg
    obtain ⟨v1, rfl, hown, hb⟩ := hg.alt
    rw [← HO.out] at hown
    obtain ⟨A1, cap1, rfl, hrd1, _, _, _⟩ := own_rd hown
    have R1 := Lib.hid hrd1
    have B7 := Lib.hid (_root_.Go.Proofs.Ytijijfggppnbpaa.bt B6.out hb)
    clear hg hown hrd1 hb B6 hvx
    go_wp2_with fail
    refine (hvy _).mono ?_
    intro e w8 hg
    obtain ⟨v2, rfl, hown, hb⟩ := hg.alt
    rw [← HO.out] at hown
    obtain ⟨A2, cap2, rfl, hrd2, _, _, _⟩ := own_rd hown
    have R2 := Lib.hid (R1.out.next hb)
    have R3 := Lib.hid hrd2
    have B8 := Lib.hid (_root_.Go.Proofs.Ytijijfggppnbpaa.bt B7.out hb)
    clear hg hown hrd2 hb B7 hvy R1
    obtain ⟨N, hN⟩ : ∃ k, out.length = k := ⟨_, rfl⟩
    rw [hN] at hout ⊢
    have HN := Lib.hid hN
    clear hN HO
    generalize (words l).isSome = bs at *
    go_wp2_with fail
    go_loopw [18] (fun u wr => ∃ i : Nat, i ≤ N ∧ u = .int .i64 (i : Int) ∧ RdL wr w6.heap.size w7.heap.size A1 (out.map sv) ∧ RdL wr w7.heap.size w8.heap.size A2 (out.map sv) ∧ Below w.heap.size w wr) (fun u _ => N - (intOf u).toNat)
    case atStart => exact ⟨0, by omega, rfl, R2.out, R3.out, B8.out⟩
    case round =>
      clear R2 R3 B8
      obtain ⟨i, hi, rfl, hr1, hr2, hb⟩ := hrel
      have R1 := Lib.hid hr1
      have R2 := Lib.hid hr2
      have B8 := Lib.hid hb
      clear hr1 hr2 hb
      by_cases hlt : i < N
      · have hltI : (i : Int) < (N : Int) := by omega
        have h0i : (0 : Int) ≤ (i : Int) := by omega
        have hio : i < out.length := by rw [HN.out]; exact hlt
        obtain ⟨b1, o1, rfl, _, _, _, hc1⟩ := R1.out.some (by rw [List.length_map]; omega)
        obtain ⟨b2, o2, rfl, _, _, _, hc2⟩ := R2.out.some (by rw [List.length_map]; omega)
        have c1 := hc1 i (sv out[i]) (by rw [List.getElem?_map, List.getElem?_eq_getElem hio]; rfl)
        have c2 := hc2 i (sv out[i]) (by rw [List.getElem?_map, List.getElem?_eq_getElem hio]; rfl)
        clear hc1 hc2
        have tv := tx_list out[i]
        unfold sv at c1 c2
        generalize out[i] = v at *
        go_wp2_with fail
        go_quiet (fail)
        go_wp2_with fail
        go_roundw
        case rel => exact ⟨i + 1, by omega, by go_num, R1.out.drewN _, R2.out.drewN _, below_drewN B8.out _⟩
        case measure => first | (simp [intOf]; done) | (simp [intOf]; omega)
      · have hge : ¬ (i : Int) < (N : Int) := by omega
        clear R1 R2
        have hkx2 := fun w => xKind_any WK w
        have hkdc : decide (kd < 1) = true ∨ (decide (kd < 1) = false ∧ decide (7 < kd) = true) ∨ (decide (kd < 1) = false ∧ decide (7 < kd) = false ∧ 1 ≤ kd ∧ kd ≤ 7) := by
          by_cases h1 : kd < 1
          · exact .inl (decide_eq_true h1)
          · by_cases h2 : 7 < kd
            · exact .inr (.inl ⟨decide_eq_false h1, decide_eq_true h2⟩)
            · exact .inr (.inr ⟨decide_eq_false h1, decide_eq_false h2, by omega, by omega⟩)
        go_wp2_with fail
        refine (hkx _).mono ?_
        rintro e w9 ⟨k, rfl, hik, rfl⟩
        have hkw := (HKW k).out hik.eq
        clear hik hkx
        rcases hkw with rfl | ⟨k1, k7, hwk2, hne⟩
        · have hyk : ∀ w, Calls Try.prog 31 #[.int .i64 0] w fun e w' => e = .returned (.string (tx [])) ∧ Below w.heap.size w w' := fun w => yWord_any 0 w
          have t0 := tx_list []
          go_wp2_with fail
          refine (hyk _).mono ?_
          rintro e w10 ⟨rfl, hb⟩
          have B10 := Lib.hid (_root_.Go.Proofs.Ytijijfggppnbpaa.bt B8.out hb)
          clear hb hyk B8
          rcases hkdc with d1 | ⟨d1, d2⟩ | ⟨d1, d2, q1, q2⟩
          · go_wp2_with fail
            refine (hwk _).mono ?_
            rintro e w11 ⟨rfl, hb⟩
            have B11 := Lib.hid (_root_.Go.Proofs.Ytijijfggppnbpaa.bt B10.out hb)
            clear hb
            go_wp2_with fail
            go_ret
            exact ⟨rfl, B11.out⟩
          · go_wp2_with fail
            refine (hwk _).mono ?_
            rintro e w11 ⟨rfl, hb⟩
            have B11 := Lib.hid (_root_.Go.Proofs.Ytijijfggppnbpaa.bt B10.out hb)
            clear hb
            go_wp2_with fail
            go_ret
            exact ⟨rfl, B11.out⟩
          · have hkd := HKD.out q1 q2
            clear q1 q2
            go_wp2_with fail
            refine (hwy _).mono ?_
            rintro e w11 ⟨rfl, hb⟩
            have B11 := Lib.hid (_root_.Go.Proofs.Ytijijfggppnbpaa.bt B10.out hb)
            clear hb B10
            go_wp2_with fail
            refine (hkx2 _).mono ?_
            rintro e w12 ⟨k2, rfl, hik, rfl⟩
            have hkb : ((k2 : Int) == kd) = true := beq_iff_eq.2 (by rw [hik.eq]; exact hkd)
            clear hik hkd
            go_wp2_with fail
            refine (hwk _).mono ?_
            rintro e w12 ⟨rfl, hb⟩
            have B12 := Lib.hid (_root_.Go.Proofs.Ytijijfggppnbpaa.bt B11.out hb)
            clear hb
            go_wp2_with fail
            go_ret
            exact ⟨rfl, B12.out⟩
        · have hyk := fun w => yWord_any (k : Int) w
          rw [hwk2] at hyk
          have kb0 : ((k : Int) == 0) = false := beq_eq_false_iff_ne.2 (by omega)
          have lb0 : (l == []) = false := beq_eq_false_iff_ne.2 hne
          have lb1 : l.isEmpty = false := by cases l with | nil => exact absurd rfl hne | cons _ _ => rfl
          clear hwk2 hne
          go_wp2_with fail
          refine (hyk _).mono ?_
          rintro e w10 ⟨rfl, hb⟩
          have B9 := Lib.hid (_root_.Go.Proofs.Ytijijfggppnbpaa.bt B8.out hb)
          clear hb B8
          go_wp2_with fail
          refine (hyk _).mono ?_
          rintro e w10' ⟨rfl, hb⟩
          have B10 := Lib.hid (_root_.Go.Proofs.Ytijijfggppnbpaa.bt B9.out hb)
          clear hb hyk B9
          rcases hkdc with d1 | ⟨d1, d2⟩ | ⟨d1, d2, q1, q2⟩
          · go_wp2_with fail
            refine (hwk _).mono ?_
            rintro e w11 ⟨rfl, hb⟩
            have B11 := Lib.hid (_root_.Go.Proofs.Ytijijfggppnbpaa.bt B10.out hb)
            clear hb
            go_wp2_with fail
            go_ret
            exact ⟨rfl, B11.out⟩
          · go_wp2_with fail
            refine (hwk _).mono ?_
            rintro e w11 ⟨rfl, hb⟩
            have B11 := Lib.hid (_root_.Go.Proofs.Ytijijfggppnbpaa.bt B10.out hb)
            clear hb
            go_wp2_with fail
            go_ret
            exact ⟨rfl, B11.out⟩
          · have hkd := HKD.out q1 q2
            clear q1 q2
            go_wp2_with fail
            refine (hwy _).mono ?_
            rintro e w11 ⟨rfl, hb⟩
            have B11 := Lib.hid (_root_.Go.Proofs.Ytijijfggppnbpaa.bt B10.out hb)
            clear hb B10
            go_wp2_with fail
            refine (hkx2 _).mono ?_
            rintro e w12 ⟨k2, rfl, hik, rfl⟩
            have hkb : ((k2 : Int) == kd) = true := beq_iff_eq.2 (by rw [hik.eq]; exact hkd)
            clear hik hkd
            go_wp2_with fail
            refine (hwk _).mono ?_
            rintro e w12 ⟨rfl, hb⟩
            have B12 := Lib.hid (_root_.Go.Proofs.Ytijijfggppnbpaa.bt B11.out hb)
            clear hb
            go_wp2_with fail
            go_ret
            exact ⟨rfl, B12.out⟩
theorem walkNums (v0 v1 v2 : Value) (W : World) (h0 : VSat W (.int .i64) false v0) (h1 : VSat W .str false v1) (h2 : VSat W (.int .i64) false v2) :
    Calls Try.prog 7 #[v0, v1, v2] W fun e W' => e = .returned (.bool true) ∧ Below W.heap.size W W' := by
  obtain ⟨x, e, hx⟩ := h0
  injection e with e
  subst e
  obtain ⟨s, e, hs⟩ := h1
  injection e with e
  subst e
  obtain ⟨k, e, hk⟩ := h2
  injection e with e
  subst e
  have hb := bounds_i64 hx
  obtain ⟨l, rfl⟩ := tx_of s
  by_cases hl : 300 < l.length
  · exact lawNums_long x l k hl W
  · exact lawNums_any x l k hb.1 hb.2 (by omega) W
end Txt
end Go.Proofs.Ytijijfggppnbpaa
