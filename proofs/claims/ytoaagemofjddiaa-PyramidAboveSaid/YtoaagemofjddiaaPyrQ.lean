/-
  A field by halves: places that wait, and boxes: the plain law. No program in sight.
-/
import Derived.Test.YtoaagemofjddiaaPyrP
namespace Go.Proofs.Ytoaagemofjddiaa.Pyr

/-- a cell's place: its level, its column and its row -/
structure Pl where
  n : Nat
  x : Nat
  y : Nat
/-- columns and rows, from some to others -/
structure Bo where
  x0 : Int
  y0 : Int
  x1 : Int
  y1 : Int
/-- for what a cell stands, as far as it is on the field -/
def square (W H : Nat) (p : Pl) : Bo :=
  ⟨(p.x : Int) * (2 ^ p.n : Nat), (p.y : Int) * (2 ^ p.n : Nat), min ((p.x : Int) * (2 ^ p.n : Nat) + (2 ^ p.n : Nat)) W - 1, min ((p.y : Int) * (2 ^ p.n : Nat) + (2 ^ p.n : Nat)) H - 1⟩
def inside (a b : Bo) : Bool := decide (b.x0 ≤ a.x0 ∧ a.x1 ≤ b.x1 ∧ b.y0 ≤ a.y0 ∧ a.y1 ≤ b.y1)
def apart (a b : Bo) : Bool := decide (b.x1 < a.x0 ∨ a.x1 < b.x0 ∨ b.y1 < a.y0 ∨ a.y1 < b.y0)
def meant (W : Nat) (b : Bo) (i : Nat) : Bool := decide (b.x0 ≤ ((i % W : Nat) : Int) ∧ ((i % W : Nat) : Int) ≤ b.x1 ∧ b.y0 ≤ ((i / W : Nat) : Int) ∧ ((i / W : Nat) : Int) ≤ b.y1)
def has (W : Nat) (p : Pl) (i : Nat) : Bool := sq W p.n p.x p.y i
structure Ok (W H : Nat) (p : Pl) : Prop where
  x : p.x < side W p.n
  y : p.y < side H p.n
theorem div_span {a s x : Nat} (hs : 0 < s) (h : a / s = x) : x * s ≤ a ∧ a + 1 ≤ x * s + s := by
  subst h
  have h1 := Nat.div_mul_le_self a s
  have h2 := Nat.lt_div_mul_add hs (a := a)
  omega
theorem has_square {W H i : Nat} {p : Pl} (hi : i < W * H) (h : has W p i = true) :
    (square W H p).x0 ≤ ((i % W : Nat) : Int) ∧ ((i % W : Nat) : Int) ≤ (square W H p).x1 ∧ (square W H p).y0 ≤ ((i / W : Nat) : Int) ∧ ((i / W : Nat) : Int) ≤ (square W H p).y1 := by
  obtain ⟨h1, h2⟩ := sq_iff.1 h
  obtain ⟨h3, h4⟩ := lt_row hi
  have hs : 0 < 2 ^ p.n := Nat.two_pow_pos _
  obtain ⟨a1, a2⟩ := div_span hs h1
  obtain ⟨b1, b2⟩ := div_span hs h2
  have e1 : ((p.x * 2 ^ p.n : Nat) : Int) = (p.x : Int) * (2 ^ p.n : Nat) := Int.natCast_mul _ _
  have e2 : ((p.y * 2 ^ p.n : Nat) : Int) = (p.y : Int) * (2 ^ p.n : Nat) := Int.natCast_mul _ _
  unfold square
  simp only [← e1, ← e2]
  generalize p.x * 2 ^ p.n = u at *
  generalize p.y * 2 ^ p.n = v at *
  generalize 2 ^ p.n = s at *
  omega
theorem apart_not {W H i : Nat} {p : Pl} {b : Bo} (hi : i < W * H) (h : has W p i = true) (ha : apart (square W H p) b = true) : meant W b i = false := by
  obtain ⟨h1, h2, h3, h4⟩ := has_square hi h
  unfold apart at ha
  unfold meant
  simp only [decide_eq_true_eq, decide_eq_false_iff_not] at *
  omega
theorem inside_meant {W H i : Nat} {p : Pl} {b : Bo} (hi : i < W * H) (h : has W p i = true) (ha : inside (square W H p) b = true) : meant W b i = true := by
  obtain ⟨h1, h2, h3, h4⟩ := has_square hi h
  unfold inside at ha
  unfold meant
  simp only [decide_eq_true_eq] at *
  omega
/-- one height is wholly in a box, or wholly beside it -/
theorem one_or {W H : Nat} {p : Pl} {b : Bo} (h0 : p.n = 0) (hp : Ok W H p) (ha : apart (square W H p) b = false) : inside (square W H p) b = true := by
  have hx := hp.x
  have hy := hp.y
  rw [h0] at hx hy
  unfold apart square at ha
  unfold inside square
  rw [h0] at *
  simp only [side, decide_eq_true_eq, decide_eq_false_iff_not, Nat.pow_zero] at *
  omega

/-- the cells below, for which one stands -/
def subs (W H : Nat) (p : Pl) : List Pl :=
  ([⟨p.n - 1, 2 * p.x, 2 * p.y⟩, ⟨p.n - 1, 2 * p.x + 1, 2 * p.y⟩, ⟨p.n - 1, 2 * p.x, 2 * p.y + 1⟩, ⟨p.n - 1, 2 * p.x + 1, 2 * p.y + 1⟩] : List Pl).filter fun q => decide (q.x < side W q.n) && decide (q.y < side H q.n)
theorem subs_len (W H : Nat) (p : Pl) : (subs W H p).length ≤ 4 := by
  unfold subs
  exact Nat.le_trans (List.length_filter_le _ _) (by simp)
theorem subs_ok {W H : Nat} {p q : Pl} (h : q ∈ subs W H p) : Ok W H q ∧ q.n = p.n - 1 := by
  unfold subs at h
  rw [List.mem_filter] at h
  obtain ⟨h1, h2⟩ := h
  simp only [Bool.and_eq_true, decide_eq_true_eq] at h2
  refine ⟨⟨h2.1, h2.2⟩, ?_⟩
  simp only [List.mem_cons, List.not_mem_nil, or_false] at h1
  rcases h1 with rfl | rfl | rfl | rfl <;> rfl
theorem any_filter {α : Type} (l : List α) (f g : α → Bool) (h : ∀ x ∈ l, g x = true → f x = true) : (l.filter f).any g = l.any g := by
  induction l with
  | nil => rfl
  | cons x t ih =>
    have ih' := ih fun y hy => h y (List.mem_cons_of_mem _ hy)
    have hx := h x List.mem_cons_self
    rw [List.filter_cons, List.any_cons]
    cases hf : f x with
    | true => simp [ih']
    | false =>
      have : g x = false := by
        cases hg : g x with
        | false => rfl
        | true => rw [hx hg] at hf; cases hf
      simp [ih', this]
theorem subs_has {W H i : Nat} {p : Pl} (hn : 0 < p.n) (hi : i < W * H) : (subs W H p).any (fun q => has W q i) = has W p i := by
  obtain ⟨k, x, y⟩ := p
  obtain ⟨k, rfl⟩ : ∃ k', k = k' + 1 := ⟨k - 1, by simp at hn; omega⟩
  unfold subs
  rw [any_filter]
  · simp only [Nat.add_sub_cancel, List.any_cons, List.any_nil, Bool.or_false, has]
    rw [sq_up]
    simp only [Bool.or_assoc]
  · intro q _ hq
    obtain ⟨h1, h2⟩ := lt_row hi
    obtain ⟨a, b⟩ := sq_iff.1 hq
    have c1 := div_side h1 q.n
    have c2 := div_side h2 q.n
    rw [a] at c1
    rw [b] at c2
    simp [c1, c2]
theorem subs_dis (W H : Nat) (p : Pl) : (subs W H p).Pairwise fun q r => ∀ i, ¬(has W q i = true ∧ has W r i = true) := by
  unfold subs
  apply List.Pairwise.filter
  simp only [List.pairwise_cons, List.mem_cons, List.not_mem_nil, or_false, has, sq_iff]
  refine ⟨?_, ?_, ?_, fun _ h => h.elim, List.Pairwise.nil⟩
  · rintro q (rfl | rfl | rfl) i <;> dsimp only <;> omega
  · rintro q (rfl | rfl) i <;> dsimp only <;> omega
  · rintro q rfl i; dsimp only; omega

/-- what has been told, and what waits -/
structure OverI (W H : Nat) (z : Nat → Int) (b : Bo) (top : Nat) (out : Ce) (wait : List Pl) : Prop where
  ok : ∀ p ∈ wait, Ok W H p ∧ p.n ≤ top
  dis : wait.Pairwise fun p q => ∀ i, i < W * H → ¬(has W p i = true ∧ has W q i = true)
  is : Is z (W * H) out (fun i => nv z i && meant W b i && !(wait.any fun p => has W p i))
section
variable {W H : Nat} {z : Nat → Int} {b : Bo} {top : Nat} {out : Ce} {wait : List Pl} {p : Pl}
theorem top_has (h1 : side W top ≤ 1) (h2 : side H top ≤ 1) {i : Nat} (hi : i < W * H) : has W ⟨top, 0, 0⟩ i = true := by
  obtain ⟨a, b⟩ := lt_row hi
  have c := div_side a top
  have d := div_side b top
  rw [has, sq_iff]
  dsimp only
  generalize i % W / 2 ^ top = u at *
  generalize i / W / 2 ^ top = v at *
  omega
theorem OverI.start (hW : 0 < W) (hH : 0 < H) (h1 : side W top ≤ 1) (h2 : side H top ≤ 1) : OverI W H z b top zc [⟨top, 0, 0⟩] :=
  ⟨fun p hp => by
    rw [List.mem_singleton] at hp
    subst hp
    exact ⟨⟨side_pos hW _, side_pos hH _⟩, Nat.le_refl _⟩, List.pairwise_singleton _ _, Is.empty fun i hi => by
      simp [top_has h1 h2 hi]⟩
theorem OverI.last (h : OverI W H z b top out (wait ++ [p])) : ∀ i, i < W * H → has W p i = true → (wait.any fun q => has W q i) = false := by
  intro i hl hi
  rw [List.any_eq_false]
  intro q hq hqi
  exact (List.pairwise_append.1 h.dis).2.2 q hq p (List.mem_singleton.2 rfl) i hl ⟨hqi, hi⟩
theorem OverI.apart (h : OverI W H z b top out (wait ++ [p])) (ha : apart (square W H p) b = true) : OverI W H z b top out wait :=
  ⟨fun q hq => h.ok q (List.mem_append_left _ hq), (List.pairwise_append.1 h.dis).1, h.is.congr fun i hi => by
    rw [List.any_append]
    cases hp : has W p i with
    | false => simp [hp]
    | true => simp [apart_not hi hp ha]⟩
theorem OverI.inside (h : OverI W H z b top out (wait ++ [p])) (ha : inside (square W H p) b = true) {c : Ce} (hc : Is z (W * H) c (fun i => nv z i && has W p i)) : OverI W H z b top (join out c) wait :=
  ⟨fun q hq => h.ok q (List.mem_append_left _ hq), (List.pairwise_append.1 h.dis).1, (h.is.join hc (fun i hi hm => by
      cases hp : has W p i with
      | false => simp
      | true => simp [hp] at hm)).congr fun i hi => by
    rw [List.any_append]
    cases hp : has W p i with
    | false => simp [hp]
    | true => simp [hp, inside_meant hi hp ha, h.last i hi hp]⟩
theorem OverI.deep (h : OverI W H z b top out (wait ++ [p])) (hn : 0 < p.n) : OverI W H z b top out (wait ++ subs W H p) := by
  refine ⟨fun q hq => ?_, ?_, h.is.congr fun i hi => ?_⟩
  · rcases List.mem_append.1 hq with hq | hq
    · exact h.ok q (List.mem_append_left _ hq)
    · obtain ⟨a, e⟩ := subs_ok hq
      have := (h.ok p (List.mem_append_right _ (List.mem_singleton.2 rfl))).2
      exact ⟨a, by omega⟩
  · rw [List.pairwise_append]
    refine ⟨(List.pairwise_append.1 h.dis).1, (subs_dis W H p).imp fun hd i _ => hd i, fun q hq r hr i hi hqr => ?_⟩
    have hp : has W p i = true := by
      rw [← subs_has hn hi, List.any_eq_true]
      exact ⟨r, hr, hqr.2⟩
    exact (List.pairwise_append.1 h.dis).2.2 q hq p (List.mem_singleton.2 rfl) i hi ⟨hqr.1, hp⟩
  · rw [List.any_append, List.any_append, subs_has hn hi]
    simp
end
end Go.Proofs.Ytoaagemofjddiaa.Pyr
