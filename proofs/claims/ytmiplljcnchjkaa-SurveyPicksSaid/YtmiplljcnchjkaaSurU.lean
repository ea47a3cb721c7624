/-
  No others tell more: the plain law of the best squares.
-/
import Derived.Test.YtmiplljcnchjkaaSurG
namespace Go.Proofs.Ytmiplljcnchjkaa
open Go.RowKit
set_option linter.unusedVariables false
namespace Sur
def sumF (f : Nat → Int) : List Nat → Int
  | [] => 0
  | a :: l => f a + sumF f l
theorem sumF_app (f : Nat → Int) : ∀ l m, sumF f (l ++ m) = sumF f l + sumF f m
  | [], m => by simp [sumF]
  | a :: l, m => by
    show f a + sumF f (l ++ m) = f a + sumF f l + sumF f m
    rw [sumF_app f l m]
    omega
theorem sumF_perm (f : Nat → Int) {l m : List Nat} (h : l.Perm m) : sumF f l = sumF f m := by
  induction h with
  | nil => rfl
  | cons a _ ih => show f a + _ = f a + _; rw [ih]
  | swap a b l => show f b + (f a + sumF f l) = f a + (f b + sumF f l); omega
  | trans _ _ h1 h2 => rw [h1, h2]
theorem sumF_sub (f : Nat → Int) (h0 : ∀ a, 0 ≤ f a) {l m : List Nat} (h : l.Sublist m) : sumF f l ≤ sumF f m := by
  induction h with
  | slnil => exact Int.le_refl _
  | cons a _ ih => have := h0 a; show _ ≤ f a + _; omega
  | cons_cons a _ ih => show f a + _ ≤ f a + _; omega
theorem sumF_le (f g : Nat → Int) : ∀ l : List Nat, (∀ a ∈ l, f a ≤ g a) → sumF f l ≤ sumF g l
  | [], _ => Int.le_refl _
  | a :: l, h => by
    have h1 := h a (by simp)
    have h2 := sumF_le f g l (fun b hb => h b (by simp [hb]))
    show f a + _ ≤ g a + _
    omega
theorem sumF_shift (f : Nat → Int) (t : Int) : ∀ l : List Nat, sumF (fun a => f a - t) l = sumF f l - t * (l.length : Int)
  | [] => by simp [sumF]
  | a :: l => by
    show f a - t + sumF (fun a => f a - t) l = f a + sumF f l - t * ((l.length + 1 : Nat) : Int)
    rw [sumF_shift f t l, Int.natCast_add, Int.mul_add]
    omega
theorem foldl_sum (f : Nat → Int) : ∀ (l : List Nat) (x : Int), (l.map f).foldl (· + ·) x = x + sumF f l
  | [], x => by simp [sumF]
  | a :: l, x => by
    rw [List.map_cons, List.foldl_cons, foldl_sum f l]
    show x + f a + sumF f l = x + (f a + sumF f l)
    omega
theorem sum64_map (f : Nat → Int) (l : List Nat) : sum64 (l.map f) = sumF f l := by
  unfold sum64
  rw [foldl_sum]
  omega
theorem tolds_range (L : List Sq) (s : Int) : tolds L s = (List.range L.length).map fun k => (tolds L s).getD k 0 := by
  have hl : (tolds L s).length = L.length := by unfold tolds; rw [List.length_map]
  refine List.ext_getElem (by rw [List.length_map, List.length_range, hl]) fun k h1 h2 => ?_
  rw [List.getElem_map, List.getElem_range, List.getD_eq_getElem?_getD, List.getElem?_eq_getElem h1]
  rfl
/-- some squares, by their places -/
def bySub (L : List Sq) (l : List Nat) : List Sq := l.map fun k => L.getD k zq
theorem tolds_sub (L : List Sq) (s : Int) (l : List Nat) (h : ∀ k ∈ l, k < L.length) : tolds (bySub L l) s = l.map fun k => (tolds L s).getD k 0 := by
  unfold tolds bySub
  rw [List.map_map]
  refine List.map_congr_left fun k hk => ?_
  have hk' := h k hk
  rw [List.getD_eq_getElem?_getD, List.getElem?_map, List.getElem?_eq_getElem hk']
  show (infoC (L.getD k zq).r s).1 = _
  rw [List.getD_eq_getElem?_getD, List.getElem?_eq_getElem hk']
  rfl
theorem allOk_sub {L : List Sq} {s : Int} (h : AllOk L s) (l : List Nat) (hl : ∀ k ∈ l, k < L.length) : AllOk (bySub L l) s := by
  intro b hb
  obtain ⟨k, hk, rfl⟩ := List.mem_map.1 hb
  have hk' := hl k hk
  rw [List.getD_eq_getElem?_getD, List.getElem?_eq_getElem hk']
  exact h _ (List.getElem_mem hk')
/-- the first of them tell no less than any others, as many -/
theorem best_sum {T : List Int} (hT : ∀ x ∈ T, 0 ≤ x) {R : List Nat} (hR : Ranked T R) {l : List Nat} (hl : l.Sublist (List.range T.length)) :
    sumF (fun k => T.getD k 0) l ≤ sumF (fun k => T.getD k 0) (R.take l.length) ∧ sumF (fun k => T.getD k 0) (R.take l.length) ≤ sumF (fun k => T.getD k 0) (List.range T.length) := by
  obtain ⟨h1, h2⟩ := hR
  have hlen : R.length = T.length := by have := h1.length_eq; rwa [List.length_range] at this
  have hml : l.length ≤ T.length := by have := hl.length_le; rwa [List.length_range] at this
  have h0 : ∀ k, 0 ≤ T.getD k 0 := fun k => by
    rw [List.getD_eq_getElem?_getD]
    cases he : T[k]? with
    | none => exact Int.le_refl _
    | some x => exact hT x (List.mem_of_getElem? he)
  generalize hf : (fun k => T.getD k 0) = f at *
  have hfk : ∀ k, T.getD k 0 = f k := fun k => by rw [← hf]
  refine ⟨?_, ?_⟩
  · by_cases hm : l.length = 0
    · rw [List.eq_nil_of_length_eq_zero hm]
      exact Int.le_refl _
    · -- all that come ahead tell at least t, all behind no more
      obtain ⟨m, hme⟩ : ∃ m, m = l.length := ⟨_, rfl⟩
      rw [← hme] at hml hm ⊢
      have hm1 : m - 1 < R.length := by omega
      obtain ⟨t, ht⟩ : ∃ t, t = f (R[m - 1]) := ⟨_, rfl⟩
      have hge : ∀ j (hj : j < R.length) i (hi : i < R.length), i ≤ j → f R[j] ≤ f R[i] := fun j hj i hi hij => by
        rcases Nat.lt_or_ge i j with h | h
        · have := h2 i j h (by rw [← hlen]; exact hj)
          rw [List.getD_eq_getElem?_getD, List.getD_eq_getElem?_getD, List.getElem?_eq_getElem hj, List.getElem?_eq_getElem hi] at this
          dsimp only [Option.getD] at this
          unfold before at this
          rw [hfk, hfk] at this
          omega
        · have : i = j := by omega
          subst this
          exact Int.le_refl _
      have htake : ∀ a ∈ R.take m, t ≤ f a := fun a ha => by
        obtain ⟨i, hi, rfl⟩ := List.getElem_of_mem ha
        rw [List.length_take] at hi
        rw [List.getElem_take, ht]
        exact hge (m - 1) hm1 i (by omega) (by omega)
      have hdrop : ∀ a ∈ R.drop m, f a ≤ t := fun a ha => by
        obtain ⟨i, hi, rfl⟩ := List.getElem_of_mem ha
        rw [List.length_drop] at hi
        rw [List.getElem_drop, ht]
        exact hge (m + i) (by omega) (m - 1) hm1 (by omega)
      obtain ⟨g, hg⟩ : ∃ g : Nat → Int, g = fun a => if t ≤ f a then f a - t else 0 := ⟨_, rfl⟩
      have hg0 : ∀ a, 0 ≤ g a := fun a => by rw [hg]; dsimp only; split <;> omega
      have e1 : sumF (fun a => f a - t) l ≤ sumF g l := sumF_le _ _ _ fun a _ => by rw [hg]; dsimp only; split <;> omega
      have e2 : sumF g l ≤ sumF g (List.range T.length) := sumF_sub g hg0 hl
      have e3 : sumF g (List.range T.length) = sumF g R := (sumF_perm g h1).symm
      have e4 : sumF g R = sumF g (R.take m) + sumF g (R.drop m) := by rw [← sumF_app, List.take_append_drop]
      have e5 : sumF g (R.take m) ≤ sumF (fun a => f a - t) (R.take m) := sumF_le _ _ _ fun a ha => by rw [hg]; dsimp only; rw [if_pos (htake a ha)]; exact Int.le_refl _
      have e6 : sumF g (R.drop m) ≤ sumF (fun _ => 0) (R.drop m) := sumF_le _ _ _ fun a ha => by have := hdrop a ha; rw [hg]; dsimp only; split <;> omega
      have e7 : ∀ l : List Nat, sumF (fun _ => 0) l = 0 := fun l => by
        induction l with
        | nil => rfl
        | cons a l ih => show 0 + sumF _ l = 0; rw [ih]; rfl
      rw [e7] at e6
      rw [sumF_shift] at e1 e5
      have e8 : (R.take m).length = m := by rw [List.length_take]; omega
      rw [e8] at e5
      rw [← hme] at e1
      omega
  · rw [← sumF_perm f h1]
    exact sumF_sub f (fun a => by rw [← hfk]; exact h0 a) (List.take_sublist _ _)
end Sur
end Go.Proofs.Ytmiplljcnchjkaa
