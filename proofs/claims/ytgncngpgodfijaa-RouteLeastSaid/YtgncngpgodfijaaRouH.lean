/-
  The plain law of package route's heap: items by their cost, and then by their place; sifting up and down. No program in sight.
-/
import Derived.Test.YtgncngpgodfijaaRouP
namespace Go.Proofs.Ytgncngpgodfijaa
set_option linter.unusedVariables false
namespace Rou

/-- an item: a square, and what a way to it costs -/
abbrev It := Nat × Int
def it0 : It := (0, 0)
/-- is one ahead of another one? -/
def bef (a b : It) : Bool := decide (a.2 < b.2) || (decide (a.2 = b.2) && decide (a.1 < b.1))
/-- .. or the same -/
def le (a b : It) : Prop := bef b a = false
theorem le_iff {a b : It} : le a b ↔ a.2 < b.2 ∨ (a.2 = b.2 ∧ a.1 ≤ b.1) := by
  unfold le bef
  simp only [Bool.or_eq_false_iff, Bool.and_eq_false_iff, decide_eq_false_iff_not]
  omega
theorem bef_iff {a b : It} : bef a b = true ↔ a.2 < b.2 ∨ (a.2 = b.2 ∧ a.1 < b.1) := by
  unfold bef
  simp only [Bool.or_eq_true, Bool.and_eq_true, decide_eq_true_eq]
theorem le_refl (a : It) : le a a := le_iff.2 (.inr ⟨rfl, Nat.le_refl _⟩)
theorem le_trans {a b c : It} (h1 : le a b) (h2 : le b c) : le a c := by
  rw [le_iff] at *
  omega
theorem le_of_bef {a b : It} (h : bef a b = true) : le a b := by
  rw [bef_iff] at h
  rw [le_iff]
  omega
theorem le_cost {a b : It} (h : le a b) : a.2 ≤ b.2 := by
  rw [le_iff] at h
  omega
def at' (l : List It) (i : Nat) : It := l.getD i it0
theorem at_eq {l : List It} {i : Nat} (h : i < l.length) : at' l i = l[i] := by unfold at'; rw [List.getD_eq_getElem?_getD, List.getElem?_eq_getElem h]; rfl
def swap (l : List It) (i j : Nat) : List It := (l.set i (at' l j)).set j (at' l i)
theorem swap_len (l : List It) (i j : Nat) : (swap l i j).length = l.length := by simp [swap]
theorem at_set (l : List It) (i k : Nat) (x : It) : at' (l.set i x) k = if i = k ∧ i < l.length then x else at' l k := by
  unfold at'
  rw [List.getD_eq_getElem?_getD, List.getElem?_set, List.getD_eq_getElem?_getD]
  by_cases h : i = k
  · subst h
    by_cases h2 : i < l.length
    · simp [h2]
    · simp [h2]
  · simp [h]
theorem at_swap {l : List It} {i j : Nat} (hi : i < l.length) (hj : j < l.length) (k : Nat) : at' (swap l i j) k = if k = j then at' l i else if k = i then at' l j else at' l k := by
  unfold swap
  rw [at_set, at_set]
  by_cases h1 : k = j
  · rw [if_pos ⟨h1.symm, by simpa using hj⟩, if_pos h1]
  · rw [if_neg (fun hh => h1 hh.1.symm), if_neg h1]
    by_cases h2 : k = i
    · rw [if_pos ⟨h2.symm, hi⟩, if_pos h2]
    · rw [if_neg (fun hh => h2 hh.1.symm), if_neg h2]
theorem swap_perm {l : List It} {i j : Nat} (hi : i < l.length) (hj : j < l.length) : List.Perm (swap l i j) l := by
  unfold swap
  rw [at_eq hi, at_eq hj]
  exact List.set_set_perm hi hj
/-- each item is behind the one above -/
def HeapP (l : List It) : Prop := ∀ j, 0 < j → j < l.length → le (at' l ((j - 1) / 2)) (at' l j)
theorem heap_top {l : List It} (H : HeapP l) : ∀ j, j < l.length → le (at' l 0) (at' l j)
  | 0, _ => le_refl _
  | j + 1, hj => le_trans (heap_top H (j / 2) (by omega)) (H (j + 1) (by omega) hj)
termination_by j => j
/-- but for i, which may be ahead of the one above -/
structure UpI (l : List It) (i : Nat) : Prop where
  lt : i < l.length
  all : ∀ j, 0 < j → j < l.length → j ≠ i → le (at' l ((j - 1) / 2)) (at' l j)
  kids : ∀ j, 0 < j → j < l.length → (j - 1) / 2 = i → 0 < i → le (at' l ((i - 1) / 2)) (at' l j)
theorem up_new {l : List It} (H : HeapP l) (x : It) : UpI (l ++ [x]) l.length := by
  have e : ∀ j, j < l.length → at' (l ++ [x]) j = at' l j := fun j hj => by
    unfold at'
    rw [List.getD_eq_getElem?_getD, List.getD_eq_getElem?_getD, List.getElem?_append_left hj]
  refine ⟨by simp, fun j h0 hj hn => ?_, fun j h0 hj he _ => ?_⟩
  · have hj' : j < l.length := by simp at hj; omega
    rw [e _ (by omega), e _ hj']
    exact H j h0 hj'
  · simp at hj
    omega
theorem up_stop {l : List It} {i : Nat} (U : UpI l i) (h : i = 0 ∨ bef (at' l i) (at' l ((i - 1) / 2)) = false) : HeapP l := by
  intro j h0 hj
  by_cases hji : j = i
  · subst hji
    rcases h with h | h
    · omega
    · exact h
  · exact U.all j h0 hj hji
theorem up_swap {l : List It} {i : Nat} (U : UpI l i) (hi : 0 < i) (h : bef (at' l i) (at' l ((i - 1) / 2)) = true) : UpI (swap l i ((i - 1) / 2)) ((i - 1) / 2) := by
  have hlt := U.lt
  obtain ⟨u, hu⟩ : ∃ u, u = (i - 1) / 2 := ⟨_, rfl⟩
  rw [← hu] at h ⊢
  have hul : u < l.length := by omega
  have hiu : u ≠ i := by omega
  have A := fun k => at_swap hlt hul k
  have hle := le_of_bef h
  refine ⟨by rw [swap_len]; exact hul, fun j h0 hj hn => ?_, fun j h0 hj he h1 => ?_⟩
  · rw [swap_len] at hj
    rw [A, A, if_neg hn]
    by_cases hji : j = i
    · subst hji
      rw [if_pos rfl, if_pos (by omega)]
      exact hle
    · rw [if_neg hji]
      by_cases hp : (j - 1) / 2 = u
      · rw [if_pos hp]
        have := U.all j h0 hj hji
        rw [hp] at this
        exact le_trans hle this
      · rw [if_neg hp]
        by_cases hpi : (j - 1) / 2 = i
        · rw [if_pos hpi]
          have := U.kids j h0 hj hpi hi
          rw [← hu] at this
          exact this
        · rw [if_neg hpi]
          exact U.all j h0 hj hji
  · rw [swap_len] at hj
    have hu2 : (u - 1) / 2 ≠ u := by omega
    have hu3 : (u - 1) / 2 ≠ i := by omega
    have hju : j ≠ u := by omega
    rw [A, A, if_neg hu2, if_neg hu3, if_neg hju]
    have hpu := U.all u h1 hul hiu
    by_cases hji : j = i
    · rw [if_pos hji]
      exact hpu
    · rw [if_neg hji]
      have := U.all j h0 hj hji
      rw [he] at this
      exact le_trans hpu this
/-- but for i, which may be behind those below -/
structure DownI (l : List It) (i : Nat) : Prop where
  all : ∀ j, 0 < j → j < l.length → (j - 1) / 2 ≠ i → le (at' l ((j - 1) / 2)) (at' l j)
  kids : ∀ j, 0 < j → j < l.length → (j - 1) / 2 = i → 0 < i → le (at' l ((i - 1) / 2)) (at' l j)
/-- the one of i and those below it that is ahead, of those up to k -/
structure Least (l : List It) (i k m : Nat) : Prop where
  is : m = i ∨ (m < k ∧ (m = 2 * i + 1 ∨ m = 2 * i + 2) ∧ m < l.length ∧ bef (at' l m) (at' l i) = true)
  all : le (at' l m) (at' l i) ∧ ∀ j, 2 * i + 1 ≤ j → j < k → j ≤ 2 * i + 2 → j < l.length → le (at' l m) (at' l j)
theorem least_0 (l : List It) (i : Nat) : Least l i (2 * i + 1) i := ⟨.inl rfl, le_refl _, fun j h1 h2 _ _ => by omega⟩
theorem bef_trans {a b c : It} (h1 : bef a b = true) (h2 : le b c) : bef a c = true := by
  rw [bef_iff] at *
  rw [le_iff] at h2
  omega
theorem least_yes {l : List It} {i k m : Nat} (L : Least l i k m) (hk : 2 * i + 1 ≤ k) (hk2 : k ≤ 2 * i + 2) (hkl : k < l.length) (h : bef (at' l k) (at' l m) = true) : Least l i (k + 1) k := by
  refine ⟨.inr ⟨by omega, by omega, hkl, bef_trans h L.all.1⟩, le_trans (le_of_bef h) L.all.1, fun j h1 h2 h3 h4 => ?_⟩
  by_cases hjk : j = k
  · rw [hjk]; exact le_refl _
  · exact le_trans (le_of_bef h) (L.all.2 j h1 (by omega) h3 h4)
theorem least_no {l : List It} {i k m : Nat} (L : Least l i k m) (hk : 2 * i + 1 ≤ k) (hk2 : k ≤ 2 * i + 2) (hkl : k < l.length) (h : bef (at' l k) (at' l m) = false) : Least l i (k + 1) m := by
  refine ⟨?_, L.all.1, fun j h1 h2 h3 h4 => ?_⟩
  · rcases L.is with h' | ⟨a, b, c, d⟩
    · exact .inl h'
    · exact .inr ⟨by omega, b, c, d⟩
  · by_cases hjk : j = k
    · rw [hjk]; exact h
    · exact L.all.2 j h1 (by omega) h3 h4
/-- nothing below is ahead -/
theorem down_stop {l : List It} {i k : Nat} (D : DownI l i) (L : Least l i k i) (hk : ¬ (k ≤ 2 * i + 2 ∧ k < l.length)) : HeapP l := by
  intro j h0 hj
  by_cases hp : (j - 1) / 2 = i
  · rw [hp]
    exact L.all.2 j (by omega) (by omega) (by omega) hj
  · exact D.all j h0 hj hp
theorem down_swap {l : List It} {i k m : Nat} (hi : i < l.length) (D : DownI l i) (L : Least l i k m) (hk : ¬ (k ≤ 2 * i + 2 ∧ k < l.length)) (hm : m ≠ i) : DownI (swap l i m) m := by
  obtain ⟨h1, h2, h3, h4⟩ : m < k ∧ (m = 2 * i + 1 ∨ m = 2 * i + 2) ∧ m < l.length ∧ bef (at' l m) (at' l i) = true := by
    rcases L.is with h | h
    · exact absurd h hm
    · exact h
  have A := fun k => at_swap hi h3 k
  have mp : (m - 1) / 2 = i := by omega
  refine ⟨fun j h0 hj hn => ?_, fun j h0 hj he _ => ?_⟩
  · rw [swap_len] at hj
    rw [A, A, if_neg hn]
    by_cases hjm : j = m
    · rw [hjm, if_pos rfl, mp, if_pos rfl]
      exact le_of_bef h4
    · rw [if_neg hjm]
      by_cases hpi : (j - 1) / 2 = i
      · rw [if_pos hpi, if_neg (by omega)]
        exact L.all.2 j (by omega) (by omega) (by omega) hj
      · rw [if_neg hpi]
        by_cases hji : j = i
        · rw [if_pos hji]
          have := D.kids m (by omega) h3 mp (by omega)
          rw [hji]
          exact this
        · rw [if_neg hji]
          exact D.all j h0 hj hpi
  · rw [swap_len] at hj
    rw [mp]
    rw [A, A, if_neg (by omega), if_pos rfl, if_neg (by omega), if_neg (by omega)]
    have := D.all j h0 hj (by omega)
    rw [he] at this
    exact this
/-- what is left when the last one has been put in place of the first one -/
def cut (l : List It) : List It := (l.set 0 (at' l (l.length - 1))).take (l.length - 1)
theorem cut_len {l : List It} (h : 0 < l.length) : (cut l).length = l.length - 1 := by simp [cut]
theorem at_cut {l : List It} {j : Nat} (hj : j < l.length - 1) : at' (cut l) j = if j = 0 then at' l (l.length - 1) else at' l j := by
  have : at' (cut l) j = at' (l.set 0 (at' l (l.length - 1))) j := by
    unfold at' cut
    rw [List.getD_eq_getElem?_getD, List.getD_eq_getElem?_getD, List.getElem?_take, if_pos hj]
    rfl
  rw [this, at_set]
  by_cases h : j = 0
  · rw [if_pos ⟨h.symm, by omega⟩, if_pos h]
  · rw [if_neg (fun hh => h hh.1.symm), if_neg h]
theorem cut_down {l : List It} (H : HeapP l) (hl : 0 < l.length) : DownI (cut l) 0 := by
  refine ⟨fun j h0 hj hn => ?_, fun j _ _ _ h => by omega⟩
  rw [cut_len hl] at hj
  rw [at_cut (by omega), at_cut hj, if_neg (by omega), if_neg (by omega)]
  exact H j h0 (by omega)
theorem cut_perm {l : List It} (hl : 0 < l.length) : List.Perm (at' l 0 :: cut l) l := by
  match l, hl with
  | x :: t, _ =>
    have h0 : at' (x :: t) 0 = x := rfl
    rw [h0]
    refine List.Perm.cons x ?_
    rcases List.eq_nil_or_concat t with rfl | ⟨t', y, ht⟩
    · exact List.Perm.refl _
    · rw [List.concat_eq_append] at ht
      subst ht
      have e : at' (x :: (t' ++ [y])) ((x :: (t' ++ [y])).length - 1) = y := by
        unfold at'
        simp [List.getD_eq_getElem?_getD]
      unfold cut
      rw [e]
      simp only [List.set_cons_zero, List.length_cons, List.length_append, List.length_nil, Nat.add_one_sub_one, Nat.zero_add, List.take_succ_cons, List.take_left]
      exact (List.perm_append_comm (l₁ := [y]) (l₂ := t'))
end Rou
end Go.Proofs.Ytgncngpgodfijaa
