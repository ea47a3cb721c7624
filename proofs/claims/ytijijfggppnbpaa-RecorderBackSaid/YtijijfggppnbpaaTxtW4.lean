/-
  The walks of package text and of its reference: kinds by what they are called; is a text a number?
-/
import Derived.Test.YtijijfggppnbpaaTxtW3
namespace Go.Proofs.Ytijijfggppnbpaa
open Go.RowKit
set_option linter.unusedVariables false
namespace Txt

/-- the kind that is called so, or 0 -/
def IsKind (l : List UInt8) (k : Nat) : Prop := (k = 0 ∧ ∀ j, 1 ≤ j → j ≤ 7 → wordN j ≠ l) ∨ (1 ≤ k ∧ k ≤ 7 ∧ wordN k = l)
set_option maxRecDepth 100000 in
set_option maxHeartbeats 1000000 in
theorem xKind_any (l : List UInt8) (w : World) :
    Calls Try.prog 36 #[.string (tx l)] w fun e w' => ∃ k : Nat, e = .returned (.int .i64 (k : Int)) ∧ IsKind l k ∧ w = w' := by
  have htl := tx_list l
  go_enter Try.func36, Try.ntmps36
  go_wp2_with fail
  go_loop [3] (fun i => ∃ k : Nat, 1 ≤ k ∧ k ≤ 8 ∧ i = .int .i64 (k : Int) ∧ ∀ j, 1 ≤ j → j < k → wordN j ≠ l) (fun i => 8 - (intOf i).toNat)
  case atStart => exact ⟨1, by omega, by omega, rfl, fun j h1 h2 => by omega⟩
  case round =>
    obtain ⟨k, h1, h8, rfl, hall⟩ := hrel
    have Hall := Lib.hid hall
    clear hall
    by_cases hlt : k ≤ 7
    · have hI : (k : Int) ≤ 7 := by omega
      have hwl := tx_list (wordL (k : Int))
      have hwd := fun w => xWord_any (k : Int) w
      by_cases he : wordL (k : Int) = l
      · have hb : (wordL (k : Int) == l) = true := beq_iff_eq.2 he
        have He := Lib.hid he
        clear he
        go_wp2_with fail
        refine (hwd _).mono ?_
        rintro e w2 ⟨rfl, rfl⟩
        go_wp2_with fail
        go_ret
        exact ⟨k, rfl, .inr ⟨h1, hlt, He.out⟩, rfl⟩
      · have hb : (wordL (k : Int) == l) = false := beq_eq_false_iff_ne.2 he
        have He := Lib.hid he
        clear he
        go_wp2_with fail
        refine (hwd _).mono ?_
        rintro e w2 ⟨rfl, rfl⟩
        go_wp2_with fail
        go_round
        case rel =>
          refine ⟨k + 1, by omega, by omega, by go_num, fun j hj1 hj2 => ?_⟩
          by_cases e : j = k
          · subst e; exact He.out
          · exact Hall.out j hj1 (by omega)
        case measure => first | (simp [intOf]; done) | (simp [intOf]; omega)
    · have hI : ¬ (k : Int) ≤ 7 := by omega
      go_wp2_with fail
      go_ret
      exact ⟨0, rfl, .inl ⟨rfl, fun j hj1 hj2 => Hall.out j hj1 (by omega)⟩, rfl⟩
theorem body_minus (r : List UInt8) : body (45 :: r) = r := by unfold body; rw [if_pos (show (45 :: r).head? = some 45 from rfl)]; rfl
theorem body_other {c : UInt8} {r : List UInt8} (h : c ≠ 45) : body (c :: r) = c :: r := by unfold body; rw [if_neg (show ¬ (c :: r).head? = some 45 from fun e => h (Option.some.inj e))]
set_option maxRecDepth 100000 in
set_option maxHeartbeats 1000000 in
theorem trim_any (l : List UInt8) (w : World) :
    Calls Try.prog 64 #[.string (tx l), .string { data := #[45] }] w fun e w' => e = .returned (.string (tx (body l))) ∧ w = w' := by
  have htl := tx_list l
  cases l with
  | nil =>
    go_enter Try.func64, Try.ntmps64
    go_wp2
    go_ret
    exact ⟨rfl, rfl⟩
  | cons c r =>
    have hsz : (tx (c :: r)).size = r.length + 1 := rfl
    have hx : (tx (c :: r)).extract 0 1 = tx [c] := tx_cut _ _ _
    have hx2 : (tx (c :: r)).extract 1 (r.length + 1) = tx r := (tx_cut _ _ _).trans (by simp)
    have hl1 : (tx [c]).toList = [c] := tx_list _
    generalize r.length = n at *
    by_cases hc : c = 45
    · subst hc
      go_enter Try.func64, Try.ntmps64
      go_wp2
      go_ret
      exact ⟨by rw [body_minus]; rfl, rfl⟩
    · have hcb : (c == 45) = false := beq_eq_false_iff_ne.2 hc
      go_enter Try.func64, Try.ntmps64
      go_wp2
      go_ret
      exact ⟨by rw [body_other hc]; rfl, rfl⟩
theorem val_lt : ∀ l : List UInt8, l.all isD = true → val l < 10 ^ l.length := by
  intro l
  induction h : l.length using Nat.strongRecOn generalizing l with
  | _ n ih =>
    intro hall
    rcases List.eq_nil_or_concat l with rfl | ⟨m, c, rfl⟩
    · subst h; decide
    rw [List.concat_eq_append] at *
    rw [List.all_append] at hall
    obtain ⟨hm, hcd⟩ := Bool.and_eq_true_iff.1 hall
    have hcd : isD c = true := by simpa using hcd
    have hd := of_decide_eq_true hcd
    rw [List.length_append, List.length_singleton] at h
    have := ih m.length (by omega) m rfl hm
    rw [val_snoc, ← h, Nat.pow_succ]
    omega
theorem take_next (l : List UInt8) (p : Nat) (h : p < l.length) : l.take (p + 1) = l.take p ++ [l[p]] := by
  rw [List.take_add_one, List.getElem?_eq_getElem h]; rfl
def resV (l : List UInt8) : Int := if isNum l = true then numVal l else 0
theorem isNum_no (l : List UInt8) (h : isNum l = false) : resV l = 0 := by unfold resV; rw [h]; rfl
theorem isNum_yes (l : List UInt8) (h : isNum l = true) : resV l = numVal l := by unfold resV; rw [if_pos h]
theorem no_nil {l : List UInt8} (h : body l = []) : isNum l = false := by unfold isNum; rw [h]; rfl
theorem no_long {l : List UInt8} (h : 18 < (body l).length) : isNum l = false := by
  unfold isNum
  rw [decide_eq_false (p := (body l).length ≤ 18) (by omega), Bool.and_false, Bool.false_and, Bool.false_and]
theorem no_lead {l : List UInt8} (h : (body l).head? = some 48) (h2 : l ≠ [48]) : isNum l = false := by
  unfold isNum
  rw [decide_eq_true h, decide_eq_true h2]
  simp
theorem no_digit {l : List UInt8} {p : Nat} (hp : p < (body l).length) (h : isD (body l)[p] = false) : isNum l = false := by
  unfold isNum
  have : (body l).all isD = false := by
    cases ha : (body l).all isD with
    | false => rfl
    | true => rw [List.all_eq_true.1 ha _ (List.getElem_mem hp)] at h; cases h
  rw [this, Bool.and_false]
theorem yes_num {l : List UInt8} (h1 : body l ≠ []) (h2 : (body l).length ≤ 18) (h3 : ¬ ((body l).head? = some 48 ∧ l ≠ [48])) (h4 : (body l).all isD = true) : isNum l = true := by
  unfold isNum
  have e3 : (decide ((body l).head? = some 48) && decide (l ≠ [48])) = false := by
    rw [← Bool.decide_and]
    exact decide_eq_false h3
  rw [decide_eq_true h1, decide_eq_true h2, e3, h4]
  rfl
theorem body_len (l : List UInt8) : neg l = decide ((body l).length < l.length) ∧ (body l).length ≤ l.length := by
  unfold neg body
  cases l with
  | nil => exact ⟨rfl, Nat.le_refl _⟩
  | cons c r =>
    by_cases h : c = 45
    · subst h; simp
    · have hb : ((c :: r).head? == some 45) = false := beq_eq_false_iff_ne.2 (fun e => h (Option.some.inj e))
      rw [if_neg (show ¬ (c :: r).head? = some 45 from fun e => h (Option.some.inj e)), hb]
      simp
end Txt
end Go.Proofs.Ytijijfggppnbpaa
