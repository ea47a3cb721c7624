/-
  A field by halves: the columns and rows of all heights above one: the plain law. No program in sight.
-/
import Derived.Test.YtoaagemofjddiaaPyrS
namespace Go.Proofs.Ytoaagemofjddiaa.Pyr

def cellOf (W H : Nat) (z : Nat → Int) (p : Pl) : Ce := (lev W H z p.n).getD (p.y * side W p.n + p.x) zc
def skips (over : Int) (c : Ce) : Bool := decide (c.n = 0) || decide (c.hi ≤ over)
/-- what is told of a cell, and of those below it -/
def abv (W H : Nat) (z : Nat → Int) (over : Int) : Nat → Nat → Nat → List (Nat × Nat)
  | 0, x, y => if skips over (cellOf W H z ⟨0, x, y⟩) = true then [] else [(x, y)]
  | n + 1, x, y => if skips over (cellOf W H z ⟨n + 1, x, y⟩) = true then [] else (subs W H ⟨n + 1, x, y⟩).flatMap fun q => abv W H z over n q.x q.y
def abvP (W H : Nat) (z : Nat → Int) (over : Int) (p : Pl) : List (Nat × Nat) := abv W H z over p.n p.x p.y
section
variable {W H : Nat} {z : Nat → Int} {over : Int}
theorem abvP_skip {p : Pl} (h : skips over (cellOf W H z p) = true) : abvP W H z over p = [] := by
  obtain ⟨n, x, y⟩ := p
  cases n with
  | zero => exact if_pos h
  | succ n => exact if_pos h
theorem abvP_one {p : Pl} (h : skips over (cellOf W H z p) = false) (h0 : p.n = 0) : abvP W H z over p = [(p.x, p.y)] := by
  obtain ⟨n, x, y⟩ := p
  obtain rfl : n = 0 := h0
  exact if_neg (by rw [h]; simp)
theorem flatMap_congr' {α β : Type} (l : List α) (f g : α → List β) (h : ∀ x ∈ l, f x = g x) : l.flatMap f = l.flatMap g := by
  induction l with
  | nil => rfl
  | cons x t ih => rw [List.flatMap_cons, List.flatMap_cons, h x List.mem_cons_self, ih fun y hy => h y (List.mem_cons_of_mem _ hy)]
theorem abvP_deep {p : Pl} (h : skips over (cellOf W H z p) = false) (h0 : 0 < p.n) : abvP W H z over p = (subs W H p).flatMap (abvP W H z over) := by
  obtain ⟨n, x, y⟩ := p
  cases n with
  | zero => cases h0
  | succ n =>
    show abv W H z over (n + 1) x y = _
    rw [abv, if_neg (by rw [h]; simp)]
    refine flatMap_congr' _ _ _ fun q hq => ?_
    have := (subs_ok hq).2
    show _ = abv W H z over q.n q.x q.y
    rw [this]
    rfl
def meansA (W H : Nat) (z : Nat → Int) (over : Int) (p : Pl) (a : Nat × Nat) : Prop := ∃ i, i < W * H ∧ i % W = a.1 ∧ i / W = a.2 ∧ nv z i = true ∧ over < z i ∧ has W p i = true
theorem skips_none {p : Pl} (hp : Ok W H p) (h : skips over (cellOf W H z p) = true) (a : Nat × Nat) : ¬ meansA W H z over p a := by
  rintro ⟨i, h1, _, _, h4, h5, h6⟩
  have hi := lev_is W H z p.n p.x p.y hp.x hp.y
  have hc : (fun i => nv z i && sq W p.n p.x p.y i) i = true := by
    show (nv z i && has W p i) = true
    rw [h4, h6]
    rfl
  unfold skips at h
  rw [Bool.or_eq_true, decide_eq_true_eq, decide_eq_true_eq] at h
  rcases h with h | h
  · have := hi.no h i h1
    dsimp only at hc this
    rw [hc] at this
    cases this
  · have := (hi.all i h1 hc).2
    exact absurd (Int.lt_of_lt_of_le h5 (Int.le_trans this h)) (Int.lt_irrefl _)
theorem abv_mem : ∀ (n : Nat) (p : Pl), p.n = n → Ok W H p → ∀ a, a ∈ abvP W H z over p ↔ meansA W H z over p a
  | n, p, hn, hp, a => by
    cases hs : skips over (cellOf W H z p) with
    | true =>
      rw [abvP_skip hs]
      exact ⟨fun h => (by cases h), fun h => absurd h (skips_none hp hs a)⟩
    | false =>
      rcases Nat.eq_zero_or_pos p.n with h0 | h0
      · rw [abvP_one hs h0, List.mem_singleton]
        have hi := lev_is W H z p.n p.x p.y hp.x hp.y
        unfold skips at hs
        rw [Bool.or_eq_false_iff, decide_eq_false_iff_not, decide_eq_false_iff_not] at hs
        obtain ⟨i, i1, i2, i3⟩ := hi.hi hs.1
        have hx : p.x < W := by have := hp.x; rw [h0] at this; exact this
        rw [Bool.and_eq_true, h0] at i2
        have e := sq_row hx i2.2
        have e2 : ∀ j, has W p j = true → j = p.y * W + p.x := fun j hj => by
          unfold has at hj
          rw [h0] at hj
          exact sq_row hx hj
        have hh : has W p i = true := by unfold has; rw [h0]; exact i2.2
        obtain ⟨r1, r2⟩ := row_sq (y := p.y) hx
        constructor
        · rintro rfl
          refine ⟨i, i1, by rw [e]; exact r1, by rw [e]; exact r2, i2.1, ?_, hh⟩
          rw [i3]
          exact Int.not_le.1 hs.2
        · rintro ⟨j, _, j2, j3, _, _, j6⟩
          have := e2 j j6
          rw [this, r1] at j2
          rw [this, r2] at j3
          exact Prod.ext j2.symm j3.symm
      · rw [abvP_deep hs h0, List.mem_flatMap]
        constructor
        · rintro ⟨q, hq, hqa⟩
          obtain ⟨hok, hqn⟩ := subs_ok hq
          obtain ⟨i, h1, h2, h3, h4, h5, h6⟩ := (abv_mem (n - 1) q (by omega) hok a).1 hqa
          refine ⟨i, h1, h2, h3, h4, h5, ?_⟩
          rw [← subs_has h0 h1, List.any_eq_true]
          exact ⟨q, hq, h6⟩
        · rintro ⟨i, h1, h2, h3, h4, h5, h6⟩
          rw [← subs_has h0 h1, List.any_eq_true] at h6
          obtain ⟨q, hq, h6⟩ := h6
          obtain ⟨hok, hqn⟩ := subs_ok hq
          exact ⟨q, hq, (abv_mem (n - 1) q (by omega) hok a).2 ⟨i, h1, h2, h3, h4, h5, h6⟩⟩
  termination_by n => n
  decreasing_by all_goals omega
theorem nodup_flatMap {α β : Type} (f : α → List β) : ∀ (l : List α), (∀ x ∈ l, (f x).Nodup) → (l.Pairwise fun x y => ∀ a, a ∈ f x → a ∈ f y → False) → (l.flatMap f).Nodup
  | [], _, _ => List.nodup_nil
  | x :: t, h1, h2 => by
    rw [List.flatMap_cons, List.nodup_append]
    obtain ⟨h3, h4⟩ := List.pairwise_cons.1 h2
    refine ⟨h1 x List.mem_cons_self, nodup_flatMap f t (fun y hy => h1 y (List.mem_cons_of_mem _ hy)) h4, ?_⟩
    rintro a ha b hb rfl
    obtain ⟨y, hy, hya⟩ := List.mem_flatMap.1 hb
    exact h3 y hy a ha hya
theorem abv_nodup : ∀ (n : Nat) (p : Pl), p.n = n → Ok W H p → (abvP W H z over p).Nodup
  | n, p, hn, hp => by
    cases hs : skips over (cellOf W H z p) with
    | true => rw [abvP_skip hs]; exact List.nodup_nil
    | false =>
      rcases Nat.eq_zero_or_pos p.n with h0 | h0
      · rw [abvP_one hs h0]; exact List.pairwise_singleton _ _
      · rw [abvP_deep hs h0]
        refine nodup_flatMap _ _ (fun q hq => abv_nodup (n - 1) q (by have := (subs_ok hq).2; omega) (subs_ok hq).1) ?_
        refine List.Pairwise.imp_of_mem ?_ (subs_dis W H p)
        intro q r hq hr hd a ha hb
        obtain ⟨i, i1, i2, i3, _, _, i6⟩ := (abv_mem q.n q rfl (subs_ok hq).1 a).1 ha
        obtain ⟨j, j1, j2, j3, _, _, j6⟩ := (abv_mem r.n r rfl (subs_ok hr).1 a).1 hb
        have e : i = j := by
          have a1 := Nat.div_add_mod i W
          have a2 := Nat.div_add_mod j W
          rw [i2, i3] at a1
          rw [j2, j3] at a2
          omega
        subst e
        exact hd i ⟨i6, j6⟩
  termination_by n => n
  decreasing_by all_goals (have := (subs_ok hq).2; omega)
/-- all that is told, from the top -/
theorem abv_all {top : Nat} (hW : 0 < W) (hH : 0 < H) (h1 : side W top ≤ 1) (h2 : side H top ≤ 1) (x y : Nat) : (x, y) ∈ abvP W H z over ⟨top, 0, 0⟩ ↔ x < W ∧ y < H ∧ nv z (y * W + x) = true ∧ over < z (y * W + x) := by
  rw [abv_mem top ⟨top, 0, 0⟩ rfl ⟨side_pos hW _, side_pos hH _⟩]
  constructor
  · rintro ⟨i, i1, i2, i3, i4, i5, _⟩
    obtain ⟨l1, l2⟩ := lt_row i1
    have e : i = y * W + x := by
      have a1 := Nat.div_add_mod i W
      dsimp only at i2 i3
      rw [i2, i3, Nat.mul_comm] at a1
      exact a1.symm
    subst e
    dsimp only at i2 i3
    rw [i2] at l1
    rw [i3] at l2
    exact ⟨l1, l2, i4, i5⟩
  · rintro ⟨hx, hy, h4, h5⟩
    obtain ⟨r1, r2⟩ := row_sq (y := y) hx
    exact ⟨y * W + x, row_lt hx hy, r1, r2, h4, h5, top_has h1 h2 (row_lt hx hy)⟩
theorem abv_top_nodup {top : Nat} (hW : 0 < W) (hH : 0 < H) : (abvP W H z over ⟨top, 0, 0⟩).Nodup := abv_nodup top ⟨top, 0, 0⟩ rfl ⟨side_pos hW _, side_pos hH _⟩
end
end Go.Proofs.Ytoaagemofjddiaa.Pyr
