/-
  Texts as rows of bytes: digits and numbers: the plain law. No program in sight.
-/
import Derived.Test.YtijijfggppnbpaaRow
import Derived.Laws.Strings3
import Derived.Laws.RangeAny
namespace Go.Proofs.Ytijijfggppnbpaa
open Go.RowKit
set_option linter.unusedVariables false
namespace Txt

/-- a text of these bytes -/
def tx (l : List UInt8) : ByteArray := ⟨l.toArray⟩
theorem tx_size (l : List UInt8) : (tx l).size = l.length := rfl
theorem tx_list (l : List UInt8) : (tx l).toList = l := ByteArray.toList_mk l
theorem tx_add (a b : List UInt8) : tx a ++ tx b = tx (a ++ b) := by
  apply ByteArray.ext
  simp [tx, ByteArray.data_append]
theorem tx_of (s : ByteArray) : ∃ l, s = tx l := ⟨s.data.toList, by apply ByteArray.ext; simp [tx]⟩
theorem tx_cut (l : List UInt8) (a b : Nat) : (tx l).extract a b = tx ((l.drop a).take (b - a)) := ByteArray.extract_mk l a b
theorem tx_at (l : List UInt8) (i : Nat) (h : i < (tx l).size) : (tx l)[i]'h = l[i]'h := rfl
theorem tx_get (l : List UInt8) (i : Nat) (h : i < l.length) : (tx l).get! i = l[i] := by
  show (l.toArray)[i]! = _
  simp [h]
theorem tx_inj {a b : List UInt8} (h : tx a = tx b) : a = b := by
  have := congrArg ByteArray.toList h
  rwa [tx_list, tx_list] at this

/-- the digits of a number -/
def digs (n : Nat) : List UInt8 := if h : n < 10 then [UInt8.ofNat (48 + n)] else digs (n / 10) ++ [UInt8.ofNat (48 + n % 10)]
termination_by n
decreasing_by omega
theorem digs_one {n : Nat} (h : n < 10) : digs n = [UInt8.ofNat (48 + n)] := by rw [digs, dif_pos h]
theorem digs_more {n : Nat} (h : ¬ n < 10) : digs n = digs (n / 10) ++ [UInt8.ofNat (48 + n % 10)] := by rw [digs, dif_neg h]
def numL (x : Int) : List UInt8 := if x < 0 then 45 :: digs x.natAbs else digs x.natAbs
theorem digs_len (k : Nat) : ∀ n, n < 10 ^ (k + 1) → (digs n).length ≤ k + 1 := by
  induction k with
  | zero => intro n h; rw [digs_one (by simpa using h)]; simp
  | succ k ih =>
    intro n h
    by_cases h1 : n < 10
    · rw [digs_one h1]; simp
    · rw [digs_more h1, List.length_append]
      have := ih (n / 10) (by rw [Nat.pow_succ] at h; omega)
      simp only [List.length_singleton]
      omega
theorem digs_pos (n : Nat) : 1 ≤ (digs n).length := by
  by_cases h1 : n < 10
  · rw [digs_one h1]; simp
  · rw [digs_more h1, List.length_append]; simp
def isD (c : UInt8) : Bool := decide (48 ≤ c.toNat ∧ c.toNat ≤ 57)
def vstep (x : Nat) (c : UInt8) : Nat := 10 * x + (c.toNat - 48)
def val (l : List UInt8) : Nat := l.foldl vstep 0
theorem val_snoc (l : List UInt8) (c : UInt8) : val (l ++ [c]) = 10 * val l + (c.toNat - 48) := by simp [val, vstep]
theorem ofN (n : Nat) (h : n < 208) : (UInt8.ofNat (48 + n)).toNat = 48 + n := by
  rw [UInt8.toNat_ofNat']
  omega
theorem digs_val : ∀ n : Nat, val (digs n) = n := by
  intro n
  induction n using Nat.strongRecOn with
  | _ n ih =>
    by_cases h1 : n < 10
    · rw [digs_one h1]
      simp only [val, List.foldl_cons, List.foldl_nil, vstep, ofN n (by omega)]
      omega
    · rw [digs_more h1, val_snoc, ih (n / 10) (by omega), ofN _ (by omega)]
      omega
theorem digs_all : ∀ n : Nat, (digs n).all isD = true := by
  intro n
  induction n using Nat.strongRecOn with
  | _ n ih =>
    by_cases h1 : n < 10
    · rw [digs_one h1]
      have h := ofN n (by omega)
      simp only [List.all_cons, List.all_nil, Bool.and_true, isD, h]
      exact decide_eq_true (by omega)
    · rw [digs_more h1, List.all_append, ih (n / 10) (by omega)]
      have h := ofN (n % 10) (by omega)
      simp only [List.all_cons, List.all_nil, Bool.and_true, Bool.true_and, isD, h]
      exact decide_eq_true (by omega)
theorem digs_head : ∀ n : Nat, 0 < n → ∃ c l, digs n = c :: l ∧ c ≠ 48 := by
  intro n
  induction n using Nat.strongRecOn with
  | _ n ih =>
    intro hn
    by_cases h1 : n < 10
    · refine ⟨_, _, digs_one h1, fun e => ?_⟩
      have := congrArg UInt8.toNat e
      rw [ofN n (by omega)] at this
      have h48 : (48 : UInt8).toNat = 48 := rfl
      omega
    · obtain ⟨c, l, e, hc⟩ := ih (n / 10) (by omega) (by omega)
      exact ⟨c, l ++ [UInt8.ofNat (48 + n % 10)], by rw [digs_more h1, e]; rfl, hc⟩
theorem digs_zero : digs 0 = [48] := by rw [digs_one (by decide)]; rfl
theorem val_pos {c : UInt8} {l : List UInt8} (hc : isD c = true) (h : c ≠ 48) : 0 < val (c :: l) := by
  have hpos : ∀ (l : List UInt8) (x : Nat), 0 < x → 0 < l.foldl vstep x := by
    intro l
    induction l with
    | nil => intro x h; exact h
    | cons a l ih => intro x h; exact ih _ (by unfold vstep; omega)
  refine hpos l _ ?_
  have h1 : ¬ c.toNat = 48 := fun e => h (UInt8.toNat_inj.1 e)
  have h2 := of_decide_eq_true hc
  unfold vstep
  omega
theorem canon : ∀ (l : List UInt8), l.all isD = true → l ≠ [] → (l = [48] ∨ l.head? ≠ some 48) → digs (val l) = l := by
  intro l
  induction h : l.length using Nat.strongRecOn generalizing l with
  | _ n ih =>
    intro hall hne hc
    rcases List.eq_nil_or_concat l with rfl | ⟨m, c, rfl⟩
    · exact absurd rfl hne
    rw [List.concat_eq_append] at *
    rw [List.all_append] at hall
    obtain ⟨hm, hcd⟩ := Bool.and_eq_true_iff.1 hall
    have hcd : isD c = true := by simpa using hcd
    have hd := of_decide_eq_true hcd
    have hback : UInt8.ofNat (48 + (c.toNat - 48)) = c := by
      apply UInt8.toNat_inj.1
      rw [ofN _ (by omega)]
      omega
    by_cases hm0 : m = []
    · subst hm0
      rw [val_snoc]
      have e0 : val [] = 0 := rfl
      rw [e0, digs_one (by omega), show 10 * 0 + (c.toNat - 48) = c.toNat - 48 by omega, hback]
      rfl
    · obtain ⟨a, m', rfl⟩ := List.exists_cons_of_ne_nil hm0
      have ha : a ≠ 48 := by
        rcases hc with e | hc
        · simp at e
        · intro e; subst e; exact hc rfl
      have had : isD a = true := by
        have := (List.all_eq_true.1 hm) a (List.mem_cons_self)
        exact this
      have hv := val_pos (l := m') had ha
      have hih := ih (a :: m').length (by rw [← h]; simp) (a :: m') rfl hm hm0 (.inr (fun e => ha (Option.some.inj e)))
      rw [val_snoc, digs_more (by omega), show (10 * val (a :: m') + (c.toNat - 48)) / 10 = val (a :: m') by omega, show (10 * val (a :: m') + (c.toNat - 48)) % 10 = c.toNat - 48 by omega, hih, hback]
/-- the digits of a text: without the sign -/
def body (l : List UInt8) : List UInt8 := if l.head? = some 45 then l.tail else l
def neg (l : List UInt8) : Bool := l.head? == some 45
def numVal (l : List UInt8) : Int := if neg l then -(val (body l) : Int) else (val (body l) : Int)
/-- is it the digits of a number? -/
def isNum (l : List UInt8) : Bool := decide (body l ≠ []) && decide ((body l).length ≤ 18) && !(decide ((body l).head? = some 48) && decide (l ≠ [48])) && (body l).all isD
theorem numL_iff (l : List UInt8) (hall : (body l).all isD = true) (hne : body l ≠ []) : numL (numVal l) = l ↔ ¬ ((body l).head? = some 48 ∧ l ≠ [48]) := by
  unfold numVal neg
  by_cases hs : l.head? = some 45
  · obtain ⟨m, rfl⟩ : ∃ m, l = 45 :: m := by
      cases l with
      | nil => cases hs
      | cons a m => injection hs with e; exact ⟨m, by rw [e]⟩
    have hb : body (45 :: m) = m := by unfold body; rw [if_pos hs]; rfl
    rw [hb] at hall hne ⊢
    rw [if_pos (by simp)]
    have hl : (45 :: m : List UInt8) ≠ [48] := by intro e; injection e with e _; cases e
    by_cases hz : val m = 0
    · rw [hz]
      have h1 : numL (-((0 : Nat) : Int)) = [48] := by
        show numL 0 = _
        unfold numL
        rw [if_neg (by decide)]
        exact digs_zero
      rw [h1]
      constructor
      · intro e; exact absurd e.symm hl
      · intro hn
        exfalso
        obtain ⟨a, m', rfl⟩ := List.exists_cons_of_ne_nil hne
        have ha : a ≠ 48 := fun e => hn ⟨by rw [e]; rfl, hl⟩
        have := val_pos (l := m') (List.all_eq_true.1 hall a List.mem_cons_self) ha
        omega
    · have h1 : numL (-(val m : Int)) = 45 :: digs (val m) := by
        unfold numL
        rw [if_pos (by omega)]
        congr 2
        omega
      rw [h1]
      constructor
      · intro e hn
        injection e with _ e
        obtain ⟨c, t, e2, hc⟩ := digs_head (val m) (by omega)
        rw [e] at e2
        rw [e2] at hn
        exact hc (Option.some.inj hn.1)
      · intro hn
        rw [canon m hall hne (.inr (fun e => hn ⟨e, hl⟩))]
  · have hb : body l = l := by unfold body; rw [if_neg hs]
    rw [hb] at hall hne ⊢
    rw [if_neg (by simpa using hs)]
    have h1 : numL (val l : Int) = digs (val l) := by
      unfold numL
      rw [if_neg (by omega)]
      congr 1
    rw [h1]
    constructor
    · intro e hn
      by_cases hz : val l = 0
      · rw [hz, digs_zero] at e
        exact hn.2 e.symm
      · obtain ⟨c, t, e2, hc⟩ := digs_head (val l) (by omega)
        rw [e] at e2
        rw [e2] at hn
        exact hc (Option.some.inj hn.1)
    · intro hn
      refine canon l hall hne ?_
      by_cases e : l = [48]
      · exact .inl e
      · exact .inr (fun e2 => hn ⟨e2, e⟩)
theorem body_numL (x : Int) : body (numL x) = digs x.natAbs ∧ neg (numL x) = decide (x < 0) := by
  unfold numL body neg
  by_cases hx : x < 0
  · rw [if_pos hx]
    simp [hx]
  · rw [if_neg hx]
    have hh : (digs x.natAbs).head? ≠ some 45 := by
      intro e
      have h1 := digs_all x.natAbs
      cases hd : digs x.natAbs with
      | nil => rw [hd] at e; cases e
      | cons a m =>
        rw [hd] at e h1
        injection e with e
        subst e
        have := List.all_eq_true.1 h1 45 List.mem_cons_self
        exact absurd this (by decide)
    rw [if_neg hh]
    refine ⟨rfl, ?_⟩
    rw [decide_eq_false hx]
    exact beq_eq_false_iff_ne.2 hh
/-- digits are read as the number that they are -/
theorem isNum_numL (x : Int) (h1 : -1000000000000000000 < x) (h2 : x < 1000000000000000000) : isNum (numL x) = true ∧ numVal (numL x) = x := by
  obtain ⟨hb, hn⟩ := body_numL x
  have hall := digs_all x.natAbs
  have hne : digs x.natAbs ≠ [] := by
    intro e
    have := digs_pos x.natAbs
    rw [e] at this
    cases this
  have hlen := digs_len 17 x.natAbs (by omega)
  have hv : numVal (numL x) = x := by
    unfold numVal
    rw [hn, hb, digs_val]
    by_cases hx : x < 0
    · rw [if_pos (by simpa using hx)]; omega
    · rw [if_neg (by simpa using hx)]; omega
  refine ⟨?_, hv⟩
  have hiff := (numL_iff (numL x) (by rw [hb]; exact hall) (by rw [hb]; exact hne)).1 (by rw [hv])
  unfold isNum
  rw [hb] at hiff ⊢
  have e3 : (decide ((digs x.natAbs).head? = some 48) && decide (numL x ≠ [48])) = false := by
    rw [← Bool.decide_and]
    exact decide_eq_false hiff
  rw [e3, hall, decide_eq_true hne, decide_eq_true hlen]
  rfl
end Txt
end Go.Proofs.Ytijijfggppnbpaa
