/-
  The walk of the reference of package text: is a text a number?
-/
import Derived.Test.YtijijfggppnbpaaTxtW5
namespace Go.Proofs.Ytijijfggppnbpaa
open Go.RowKit
set_option linter.unusedVariables false
namespace Txt

theorem body_drop (l : List UInt8) : body l = l.drop (if neg l = true then 1 else 0) := by
  unfold body neg
  by_cases h : l.head? = some 45
  · rw [if_pos h, if_pos (by simpa using h)]
    cases l <;> rfl
  · rw [if_neg h, if_neg (by simpa using h)]
    rfl
set_option maxRecDepth 100000 in
set_option maxHeartbeats 1000000 in
theorem yIsNumber_any (l : List UInt8) (hl : l.length ≤ 1000000) (w : World) :
    Calls Try.prog 33 #[.string (tx l)] w fun e w' => e = .returned (.tuple #[.int .i64 (resV l), .bool (isNum l)]) ∧ Below w.heap.size w w' := by
  have htl := tx_list l
  obtain ⟨ds, hds⟩ : ∃ d, body l = d := ⟨_, rfl⟩
  obtain ⟨p, hp⟩ : ∃ p : Nat, p = if neg l = true then 1 else 0 := ⟨_, rfl⟩
  have hdr := body_drop l
  rw [hds, ← hp] at hdr
  have hm0 : neg l = true ↔ ∃ h : 0 < l.length, l[0] = 45 := by
    unfold neg
    cases l with
    | nil => simp
    | cons a r => simp
  have hp1 : p ≤ 1 := by rw [hp]; split <;> omega
  have hlen : ds.length = l.length - p := by rw [hdr, List.length_drop]
  have hplen : p ≤ l.length := by
    rw [hp]
    split
    · rename_i h; obtain ⟨h, _⟩ := hm0.1 h; omega
    · omega
  have hat : ∀ j (h : j < l.length) (h2 : p ≤ j), ∃ h3 : j - p < ds.length, ds[j - p] = l[j] := fun j h h2 => by
    refine ⟨by omega, ?_⟩
    simp only [hdr, List.getElem_drop]
    congr 1
    omega
  have hno : ∀ (q : Nat) (hq : q < ds.length), isD ds[q] = false → isNum l = false ∧ resV l = 0 := fun q hq h => by
    have hy : isNum l = false := by
      subst hds
      exact no_digit hq h
    exact ⟨hy, isNum_no l hy⟩
  have hlong : 18 < ds.length → isNum l = false ∧ resV l = 0 := fun h => by
    have hy : isNum l = false := no_long (by rw [hds]; exact h)
    exact ⟨hy, isNum_no l hy⟩
  have hnil : ds.length = 0 → isNum l = false ∧ resV l = 0 := fun h => by
    have hy : isNum l = false := no_nil (by rw [hds]; exact List.eq_nil_of_length_eq_zero h)
    exact ⟨hy, isNum_no l hy⟩
  have hval : numVal l = if neg l = true then -(val ds : Int) else (val ds : Int) := by unfold numVal; rw [hds]
  have hyes : ds.all isD = true → ds.length ≤ 18 → 0 < ds.length → (numL (numVal l) = l → isNum l = true ∧ resV l = numVal l) ∧ (numL (numVal l) ≠ l → isNum l = false ∧ resV l = 0) := fun h1 h2 h3 => by
    have hne : body l ≠ [] := by rw [hds]; intro e; rw [e] at h3; cases h3
    have hiff := numL_iff l (by rw [hds]; exact h1) hne
    refine ⟨fun h => ?_, fun h => ?_⟩
    · have hy := yes_num hne (by rw [hds]; exact h2) (hiff.1 h) (by rw [hds]; exact h1)
      exact ⟨hy, isNum_yes l hy⟩
    · have hx : ((body l).head? = some 48 ∧ l ≠ [48]) := Classical.byContradiction fun hn => h (hiff.2 hn)
      have hy := no_lead hx.1 hx.2
      exact ⟨hy, isNum_no l hy⟩
  have hsz := tx_size l
  obtain ⟨m, hm⟩ : ∃ m, l.length = m := ⟨_, rfl⟩
  rw [hm] at hsz hl hplen hlen
  have HM := Lib.hid hm
  have HAt := Lib.hid hat
  have HNo := Lib.hid hno
  have HLong := Lib.hid hlong
  have HNil := Lib.hid hnil
  have HYes := Lib.hid hyes
  have HLen := Lib.hid hlen
  have HM0 := Lib.hid hm0
  have HP := Lib.hid hp
  have HVal := Lib.hid hval
  clear hds hdr hat hno hlong hnil hyes hlen hm0 hp hval hm
  go_enter Try.func33, Try.ntmps33
  go_wp2_with fail
  go_loop [4, 5, 6] (fun x c i => ∃ j n : Nat, j ≤ m ∧ n ≤ 18 ∧ i = .int .i64 (j : Int) ∧ c = .int .i64 (n : Int) ∧ x = .int .i64 (val (ds.take n) : Int) ∧ (ds.take n).all isD = true ∧ (j = n + p ∨ (j = 0 ∧ n = 0))) (fun _ _ i => m - (intOf i).toNat)
  case atStart => exact ⟨0, 0, by omega, by omega, rfl, rfl, rfl, rfl, .inr ⟨rfl, rfl⟩⟩
  case round =>
    obtain ⟨j, n, hjm, hn18, rfl, rfl, rfl, hall, hjn⟩ := hrel
    have Hall := Lib.hid hall
    clear hall
    by_cases hlt : j < m
    · have hlt2 : j < l.length := by rw [HM.out]; exact hlt
      have hltI : (j : Int) < (m : Int) := by omega
      have h0j : (0 : Int) ≤ (j : Int) := by omega
      obtain ⟨c, hc⟩ : ∃ c, l[j] = c := ⟨_, rfl⟩
      have hgx : (tx l)[j]'(by rw [hsz]; exact hlt) = c := hc
      by_cases hskip : j = 0 ∧ c = 45
      · obtain ⟨rfl, rfl⟩ := hskip
        have hp1' : p = 1 := by rw [HP.out, if_pos (HM0.out.2 ⟨hlt2, hc⟩)]
        obtain rfl : n = 0 := by omega
        go_wp2_with fail
        go_round
        case rel => exact ⟨1, 0, by omega, by omega, rfl, rfl, rfl, rfl, .inl (by omega)⟩
        case measure => first | (simp [intOf]; done) | (simp [intOf]; omega)
      · have hnp : j = n + p := by
          rcases hjn with h | ⟨h0, h1⟩
          · exact h
          · subst h0 h1
            have hpz : p = 0 := by
              rw [HP.out]
              refine if_neg fun hn => ?_
              obtain ⟨_, h45⟩ := HM0.out.1 hn
              exact hskip ⟨rfl, by rw [← hc]; exact h45⟩
            omega
        obtain ⟨hnd, hdc⟩ := HAt.out j hlt2 (by omega)
        have hjn0 : j - p = n := by omega
        have hnd2 : n < ds.length := by rw [← hjn0]; exact hnd
        have hdc2 : ds[n] = c := by
          rw [← hc, ← hdc]
          congr 1
          exact hjn0.symm
        have htest : ((j : Int) == 0) = false ∨ (((j : Int) == 0) = true ∧ ((c.toNat : Int) == 45) = false) := by
          by_cases h0 : j = 0
          · refine .inr ⟨beq_iff_eq.2 (by omega), beq_eq_false_iff_ne.2 fun e => hskip ⟨h0, UInt8.toNat_inj.1 (show c.toNat = 45 by omega)⟩⟩
          · exact .inl (beq_eq_false_iff_ne.2 (by omega))
        have HC := Lib.hid hc
        have HNP := Lib.hid hnp
        clear hskip hjn hnd hdc hjn0 hc hnp
        by_cases hd : 48 ≤ c.toNat ∧ c.toNat ≤ 57
        · have t1 : decide ((c.toNat : Int) < 48) = false := decide_eq_false (by omega)
          have t2 : decide ((57 : Int) < (c.toNat : Int)) = false := decide_eq_false (by omega)
          by_cases h18 : n = 18
          · obtain ⟨hi, hr⟩ := HLong.out (by omega)
            have t3 : ((n : Int) == 18) = true := beq_iff_eq.2 (by omega)
            have Hi := Lib.hid hi
            have Hr := Lib.hid hr
            clear hi hr hdc2 hd h18
            rcases htest with h0 | ⟨h0, h45⟩
            all_goals
              go_wp2_with fail
              refine bodyPost_ret (results_tmp2 rfl _ _ _) rfl ?_
              exact ⟨by rw [Hi.out, Hr.out]; rfl, Below.refl _ _⟩
          · have hdd : isD c = true := decide_eq_true hd
            have htk := take_next ds n hnd2
            rw [hdc2] at htk
            have hvn := val_snoc (ds.take n) c
            rw [← htk] at hvn
            have hx17 := val_lt _ Hall.out
            rw [List.length_take, Nat.min_eq_left (by omega)] at hx17
            have hx18 : val (ds.take n) < 10 ^ 17 := Nat.lt_of_lt_of_le hx17 (Nat.pow_le_pow_right (by decide) (by omega))
            have hall2 : (ds.take (n + 1)).all isD = true := by rw [htk, List.all_append, Hall.out]; simp [hdd]
            have Hvn := Lib.hid hvn
            have Hall2 := Lib.hid hall2
            have t3 : ((n : Int) == 18) = false := beq_eq_false_iff_ne.2 (by omega)
            clear hall2 hvn htk hx17 hdd hdc2
            generalize val (ds.take n) = X at *
            have y1 : IntKind.i64.wrap (10 * (X : Int)) = 10 * (X : Int) := IntWalk.i64_in _ (by omega)
            have y3 : IntKind.i64.wrap (c.toNat : Int) = (c.toNat : Int) := IntWalk.i64_in _ (by omega)
            have y4 : IntKind.i64.wrap (10 * (X : Int) + (c.toNat : Int)) = 10 * (X : Int) + (c.toNat : Int) := IntWalk.i64_in _ (by omega)
            have y5 : IntKind.i64.wrap (10 * (X : Int) + (c.toNat : Int) - 48) = ((10 * X + (c.toNat - 48) : Nat) : Int) := by rw [IntWalk.i64_in _ (by omega)]; omega
            have HD := Lib.hid hd
            clear hd
            rcases htest with h0 | ⟨h0, h45⟩
            all_goals
              go_wp2_with fail
              go_round
              case rel => exact ⟨j + 1, n + 1, by omega, by omega, by go_num, by go_num, by rw [Hvn.out]; first | rfl | (congr 1; have := HD.out; omega), Hall2.out, .inl (by have := HNP.out; omega)⟩
              case measure => first | (simp [intOf]; done) | (simp [intOf]; omega)
        · obtain ⟨hi, hr⟩ := HNo.out n hnd2 (by rw [hdc2]; exact decide_eq_false hd)
          have Hi := Lib.hid hi
          have Hr := Lib.hid hr
          have hcs : decide ((c.toNat : Int) < 48) = true ∨ (decide ((c.toNat : Int) < 48) = false ∧ decide ((57 : Int) < (c.toNat : Int)) = true) := by
            by_cases h : c.toNat < 48
            · exact .inl (decide_eq_true (by omega))
            · exact .inr ⟨decide_eq_false (by omega), decide_eq_true (by omega)⟩
          clear hi hr hdc2 hd
          rcases htest with h0 | ⟨h0, h45⟩ <;> rcases hcs with t1 | ⟨t1, t2⟩
          all_goals
            go_wp2_with fail
            refine bodyPost_ret (results_tmp2 rfl _ _ _) rfl ?_
            exact ⟨by rw [Hi.out, Hr.out]; rfl, Below.refl _ _⟩
    · obtain rfl : j = m := by omega
      have hltI : ¬ ((j : Int) < (j : Int)) := by omega
      have hnl : n = ds.length := by
        have := HLen.out
        omega
      subst hnl
      have htk : ds.take ds.length = ds := List.take_length
      have hall := Hall.out
      rw [htk] at hall ⊢
      have hx17 := val_lt _ hall
      have hx18 : val ds < 10 ^ 18 := Nat.lt_of_lt_of_le hx17 (Nat.pow_le_pow_right (by decide) hn18)
      by_cases hz : ds.length = 0
      · obtain ⟨hi, hr⟩ := HNil.out hz
        have Hi := Lib.hid hi
        have Hr := Lib.hid hr
        have hd0 : ds = [] := List.eq_nil_of_length_eq_zero hz
        have hv0 : val ds = 0 := by rw [hd0]; rfl
        rw [hz, hv0]
        clear hall htk hx17 hx18 hi hr hd0 hv0
        by_cases hj0 : j = 0
        · subst hj0
          go_wp2_with fail
          refine bodyPost_ret (results_tmp2 rfl _ _ _) rfl ?_
          exact ⟨by rw [Hi.out, Hr.out]; rfl, Below.refl _ _⟩
        · have hjI : (0 : Int) < (j : Int) := by omega
          have hj2 : 0 < l.length := by rw [HM.out]; omega
          obtain ⟨c, hc⟩ : ∃ c, l[0] = c := ⟨_, rfl⟩
          have hgx : (tx l)[0]'(by rw [hsz]; omega) = c := hc
          by_cases h45 : c = 45
          · subst h45
            go_wp2_with fail
            refine bodyPost_ret (results_tmp2 rfl _ _ _) rfl ?_
            exact ⟨by rw [Hi.out, Hr.out]; rfl, Below.refl _ _⟩
          · have hcb : ((c.toNat : Int) == 45) = false := beq_eq_false_iff_ne.2 fun e => h45 (UInt8.toNat_inj.1 (show c.toNat = 45 by omega))
            go_wp2_with fail
            refine bodyPost_ret (results_tmp2 rfl _ _ _) rfl ?_
            exact ⟨by rw [Hi.out, Hr.out]; rfl, Below.refl _ _⟩
      · have hj1 : 0 < l.length := by rw [HM.out]; have := HLen.out; omega
        have hj0 : (0 : Int) < (j : Int) := by have := HM.out; omega
        obtain ⟨c, hc⟩ : ∃ c, l[0] = c := ⟨_, rfl⟩
        have hgx : (tx l)[0]'(by rw [hsz]; omega) = c := hc
        obtain ⟨y1, y2⟩ := HYes.out hall hn18 (by omega)
        have Y1 := Lib.hid y1
        have Y2 := Lib.hid y2
        have hzb : ((ds.length : Int) == 0) = false := beq_eq_false_iff_ne.2 (by omega)
        have hvl := HVal.out
        obtain ⟨x, hx⟩ : ∃ x, numVal l = x := ⟨_, rfl⟩
        rw [hx] at Y1 Y2 hvl
        have hxb : x.natAbs < 10 ^ 18 := by rw [hvl]; split <;> omega
        have hcall := fun w => yNumber_any x.natAbs x w rfl (by omega) (by omega)
        have htx := tx_list (numL x)
        obtain ⟨ls, hls⟩ : ∃ ls, numL x = ls := ⟨_, rfl⟩
        rw [hls] at Y1 Y2 hcall htx
        have hneg1 : c = 45 → x = -(val ds : Int) := fun h => by rw [hvl, if_pos (HM0.out.2 ⟨hj1, by rw [hc]; exact h⟩)]
        have hneg2 : c ≠ 45 → x = (val ds : Int) := fun h => by
          rw [hvl, if_neg]
          intro hn
          obtain ⟨_, h45⟩ := HM0.out.1 hn
          exact h (by rw [← hc]; exact h45)
        clear hall htk hx17 hx hvl hls y1 y2 hc hz
        by_cases hsame : ls = l
        · obtain ⟨hi, hr⟩ := Y1.out hsame
          have hlb : (ls == l) = true := beq_iff_eq.2 hsame
          have Hi := Lib.hid hi
          have Hr := Lib.hid hr
          clear hi hr hsame Y1 Y2
          by_cases h45 : c = 45
          · subst h45
            have hxe := hneg1 rfl
            have yw : IntKind.i64.wrap (-(val ds : Int)) = x := by rw [← hxe]; exact IntWalk.i64_in _ (by omega)
            clear hneg1 hneg2 hxe
            go_wp2_with fail
            refine (hcall _).mono ?_
            rintro e w2 ⟨rfl, hb2⟩
            go_wp2_with fail
            refine bodyPost_ret (results_tmp2 rfl _ _ _) rfl ?_
            exact ⟨by rw [Hi.out, Hr.out]; rfl, hb2⟩
          · have hcb : ((c.toNat : Int) == 45) = false := beq_eq_false_iff_ne.2 fun e => h45 (UInt8.toNat_inj.1 (show c.toNat = 45 by omega))
            have hxe := hneg2 h45
            rw [← hxe]
            clear hneg1 hneg2 hxe
            go_wp2_with fail
            refine (hcall _).mono ?_
            rintro e w2 ⟨rfl, hb2⟩
            go_wp2_with fail
            refine bodyPost_ret (results_tmp2 rfl _ _ _) rfl ?_
            exact ⟨by rw [Hi.out, Hr.out]; rfl, hb2⟩
        · obtain ⟨hi, hr⟩ := Y2.out hsame
          have hlb : (ls == l) = false := beq_eq_false_iff_ne.2 hsame
          have Hi := Lib.hid hi
          have Hr := Lib.hid hr
          clear hi hr hsame Y1 Y2
          by_cases h45 : c = 45
          · subst h45
            have hxe := hneg1 rfl
            have yw : IntKind.i64.wrap (-(val ds : Int)) = x := by rw [← hxe]; exact IntWalk.i64_in _ (by omega)
            clear hneg1 hneg2 hxe
            go_wp2_with fail
            refine (hcall _).mono ?_
            rintro e w2 ⟨rfl, hb2⟩
            go_wp2_with fail
            refine bodyPost_ret (results_tmp2 rfl _ _ _) rfl ?_
            exact ⟨by rw [Hi.out, Hr.out]; rfl, hb2⟩
          · have hcb : ((c.toNat : Int) == 45) = false := beq_eq_false_iff_ne.2 fun e => h45 (UInt8.toNat_inj.1 (show c.toNat = 45 by omega))
            have hxe := hneg2 h45
            rw [← hxe]
            clear hneg1 hneg2 hxe
            go_wp2_with fail
            refine (hcall _).mono ?_
            rintro e w2 ⟨rfl, hb2⟩
            go_wp2_with fail
            refine bodyPost_ret (results_tmp2 rfl _ _ _) rfl ?_
            exact ⟨by rw [Hi.out, Hr.out]; rfl, hb2⟩
end Txt
end Go.Proofs.Ytijijfggppnbpaa
