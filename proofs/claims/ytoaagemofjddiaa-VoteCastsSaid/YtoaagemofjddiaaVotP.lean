/-
  The plain law of package vote: the middle one of some numbers, by counting. No program in sight.
-/
import Derived.Test.YtoaagemofjddiaaShape
namespace Go.Proofs.Ytoaagemofjddiaa
set_option linter.unusedVariables false
namespace Vot

/-- how many are below one, and no more than it, and it -/
def lts (s : List Int) (x : Int) : Nat := s.countP fun y => decide (y < x)
def les (s : List Int) (x : Int) : Nat := s.countP fun y => decide (y ≤ x)
def eqs (s : List Int) (x : Int) : Nat := s.countP fun y => decide (y = x)
def gts (s : List Int) (x : Int) : Nat := s.countP fun y => decide (x < y)
theorem les_eq (s : List Int) (x : Int) : les s x = lts s x + eqs s x := by
  unfold les lts eqs
  induction s with
  | nil => rfl
  | cons a t ih =>
    simp only [List.countP_cons, decide_eq_true_eq]
    rw [ih]
    repeat' split
    all_goals omega
theorem les_gts (s : List Int) (x : Int) : les s x + gts s x = s.length := by
  unfold les gts
  induction s with
  | nil => rfl
  | cons a t ih =>
    simp only [List.countP_cons, decide_eq_true_eq, List.length_cons]
    repeat' split
    all_goals omega
theorem lts_le (s : List Int) (x : Int) : lts s x ≤ s.length := List.countP_le_length
theorem les_iff (x : Int) : ∀ (s : List Int) (k : Nat), s.Pairwise (· ≤ ·) → (k < les s x ↔ ∃ h : k < s.length, s[k] ≤ x)
  | [], k, _ => by simp [les]
  | a :: t, k, hs => by
    rw [List.pairwise_cons] at hs
    by_cases ha : a ≤ x
    · have e : les (a :: t) x = les t x + 1 := by simp [les, ha]
      rw [e]
      cases k with
      | zero => simp [ha]
      | succ k =>
        have := les_iff x t k hs.2
        simp only [List.length_cons, List.getElem_cons_succ]
        constructor
        · intro h
          obtain ⟨h1, h2⟩ := this.1 (by omega)
          exact ⟨by omega, h2⟩
        · rintro ⟨h1, h2⟩
          have := this.2 ⟨by omega, h2⟩
          omega
    · have e : les (a :: t) x = 0 := by
        unfold les
        rw [List.countP_eq_zero]
        intro b hb
        rcases List.mem_cons.1 hb with rfl | hb
        · simpa using ha
        · have := hs.1 b hb
          simp
          omega
      rw [e]
      refine ⟨fun h => by omega, ?_⟩
      rintro ⟨h1, h2⟩
      exfalso
      cases k with
      | zero => exact ha (by simpa using h2)
      | succ k =>
        simp only [List.getElem_cons_succ] at h2
        have := hs.1 _ (List.getElem_mem (by simpa using h1 : k < t.length))
        omega
theorem lts_iff (x : Int) (s : List Int) (k : Nat) (hs : s.Pairwise (· ≤ ·)) : k < lts s x ↔ ∃ h : k < s.length, s[k] < x := by
  have e : lts s x = les s (x - 1) := by
    unfold lts les
    congr 1
    funext y
    simp only [decide_eq_decide]
    omega
  rw [e, les_iff _ _ _ hs]
  constructor
  · rintro ⟨h, h2⟩
    exact ⟨h, by omega⟩
  · rintro ⟨h, h2⟩
    exact ⟨h, by omega⟩

/-- sorted -/
def sorted (l : List Int) : List Int := l.mergeSort fun x y => decide (x ≤ y)
theorem sorted_len (l : List Int) : (sorted l).length = l.length := List.length_mergeSort l
theorem sorted_perm (l : List Int) : List.Perm (sorted l) l := List.mergeSort_perm l _
theorem sorted_is (l : List Int) : (sorted l).Pairwise (· ≤ ·) := by
  have := List.pairwise_mergeSort (le := fun x y : Int => decide (x ≤ y)) (fun a b c h1 h2 => by simp at *; omega) (fun a b => by simp; omega) l
  unfold sorted
  exact this.imp fun h => by simpa using h
/-- the middle one -/
def mid (l : List Int) : Int := (sorted l).getD ((l.length - 1) / 2) 0
theorem mid_at {l : List Int} (h : 0 < l.length) : ∃ h : (l.length - 1) / 2 < (sorted l).length, mid l = (sorted l)[(l.length - 1) / 2] := by
  have hl : (l.length - 1) / 2 < (sorted l).length := by rw [sorted_len]; omega
  exact ⟨hl, by simp [mid, List.getD, List.getElem?_eq_getElem hl]⟩
theorem lts_sorted (l : List Int) (x : Int) : lts (sorted l) x = lts l x := (sorted_perm l).countP_eq _
theorem les_sorted (l : List Int) (x : Int) : les (sorted l) x = les l x := (sorted_perm l).countP_eq _
theorem mid_lts {l : List Int} (h : 0 < l.length) : lts l (mid l) ≤ (l.length - 1) / 2 := by
  obtain ⟨hl, e⟩ := mid_at h
  rcases Nat.lt_or_ge ((l.length - 1) / 2) (lts l (mid l)) with g | g
  · exfalso
    rw [← lts_sorted, lts_iff _ _ _ (sorted_is l)] at g
    obtain ⟨_, g⟩ := g
    rw [e] at g
    omega
  · exact g
theorem mid_les {l : List Int} (h : 0 < l.length) : (l.length - 1) / 2 < les l (mid l) := by
  obtain ⟨hl, e⟩ := mid_at h
  rw [← les_sorted, les_iff _ _ _ (sorted_is l)]
  exact ⟨hl, by rw [e]; exact Int.le_refl _⟩
theorem mid_uniq {l : List Int} (h : 0 < l.length) {x : Int} (h1 : lts l x ≤ (l.length - 1) / 2) (h2 : (l.length - 1) / 2 < les l x) : x = mid l := by
  obtain ⟨hl, e⟩ := mid_at h
  rw [e]
  rw [← les_sorted, les_iff _ _ _ (sorted_is l)] at h2
  obtain ⟨_, h2⟩ := h2
  have : ¬ (sorted l)[(l.length - 1) / 2] < x := fun g => by
    have := (lts_iff x _ _ (sorted_is l)).2 ⟨hl, g⟩
    rw [lts_sorted] at this
    omega
  omega
theorem mid_mem {l : List Int} (h : 0 < l.length) : mid l ∈ l := by
  obtain ⟨hl, e⟩ := mid_at h
  rw [e]
  exact (sorted_perm l).mem_iff.1 (List.getElem_mem hl)
theorem mid_halves (l : List Int) : 2 * lts l (mid l) ≤ l.length ∧ 2 * gts l (mid l) ≤ l.length := by
  rcases Nat.eq_zero_or_pos l.length with h | h
  · obtain rfl := List.eq_nil_of_length_eq_zero h
    exact ⟨Nat.le_refl _, Nat.le_refl _⟩
  · have := mid_lts h
    have := mid_les h
    have := les_gts l (mid l)
    omega
/-- is it the one that the counting finds? -/
def hit (l : List Int) (x : Int) : Bool := decide (lts l x ≤ (l.length - 1) / 2) && decide ((l.length - 1) / 2 < lts l x + eqs l x)
theorem hit_iff {l : List Int} (h : 0 < l.length) (x : Int) : hit l x = true ↔ x = mid l := by
  unfold hit
  rw [← les_eq]
  simp only [Bool.and_eq_true, decide_eq_true_eq]
  exact ⟨fun ⟨a, b⟩ => mid_uniq h a b, fun e => by subst e; exact ⟨mid_lts h, mid_les h⟩⟩
/-- the middle one of none is nought -/
theorem mid_nil : mid [] = 0 := by simp [mid, sorted]
theorem mid_bnd {l : List Int} {a b : Int} (ha : a ≤ 0) (hb : 0 ≤ b) (h : ∀ x ∈ l, a ≤ x ∧ x ≤ b) : a ≤ mid l ∧ mid l ≤ b := by
  rcases Nat.eq_zero_or_pos l.length with h0 | h0
  · obtain rfl := List.eq_nil_of_length_eq_zero h0
    rw [mid_nil]
    exact ⟨ha, hb⟩
  · exact h _ (mid_mem h0)
/-- a number that is close to what is right, if most are -/
theorem mid_between {l : List Int} {a b : Int} (hp : 0 < l.length) (h1 : (l.length - 1) / 2 < les l b) (h2 : lts l a ≤ (l.length - 1) / 2) : a ≤ mid l ∧ mid l ≤ b := by
  obtain ⟨hl, e⟩ := mid_at hp
  rw [e]
  rw [← les_sorted, les_iff _ _ _ (sorted_is l)] at h1
  obtain ⟨_, h1⟩ := h1
  have : ¬ (sorted l)[(l.length - 1) / 2] < a := fun g => by
    have := (lts_iff a _ _ (sorted_is l)).2 ⟨hl, g⟩
    rw [lts_sorted] at this
    omega
  omega
end Vot
end Go.Proofs.Ytoaagemofjddiaa
