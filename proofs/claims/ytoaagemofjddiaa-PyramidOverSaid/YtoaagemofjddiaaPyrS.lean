/-
  A field by halves: how many cells are looked at: the plain law. No program in sight.
-/
import Derived.Test.YtoaagemofjddiaaPyrQ
namespace Go.Proofs.Ytoaagemofjddiaa.Pyr

def partly (W H : Nat) (b : Bo) (p : Pl) : Bool := !(apart (square W H p) b) && !(inside (square W H p) b)
/-- how many cells are looked at, from one on -/
def vis (W H : Nat) (b : Bo) : Nat → Nat → Nat → Nat
  | 0, _, _ => 1
  | n + 1, x, y => 1 + if partly W H b ⟨n + 1, x, y⟩ = true then ((subs W H ⟨n + 1, x, y⟩).map fun q => vis W H b n q.x q.y).sum else 0
def visP (W H : Nat) (b : Bo) (p : Pl) : Nat := vis W H b p.n p.x p.y
theorem visP_leaf {W H : Nat} {b : Bo} {p : Pl} (h : partly W H b p = false) : visP W H b p = 1 := by
  obtain ⟨n, x, y⟩ := p
  cases n with
  | zero => rfl
  | succ n =>
    show vis W H b (n + 1) x y = 1
    rw [vis, h]
    rfl
theorem visP_deep {W H : Nat} {b : Bo} {p : Pl} (hn : 0 < p.n) (h : partly W H b p = true) : visP W H b p = 1 + ((subs W H p).map (visP W H b)).sum := by
  obtain ⟨n, x, y⟩ := p
  cases n with
  | zero => cases hn
  | succ n =>
    show vis W H b (n + 1) x y = _
    rw [vis, if_pos h]
    congr 2
    apply List.map_congr_left
    intro q hq
    have := (subs_ok hq).2
    show vis W H b n q.x q.y = vis W H b q.n q.x q.y
    rw [this]
    rfl
theorem sum_le {α : Type} (l : List α) (f : α → Nat) (b : Nat) (h : ∀ x ∈ l, f x ≤ b) : (l.map f).sum ≤ l.length * b := by
  induction l with
  | nil => simp
  | cons x t ih =>
    have h1 := h x List.mem_cons_self
    have h2 := ih fun y hy => h y (List.mem_cons_of_mem _ hy)
    simp only [List.map_cons, List.sum_cons, List.length_cons, Nat.add_mul, Nat.one_mul]
    omega
theorem vis_le (W H : Nat) (b : Bo) : ∀ n x y, vis W H b n x y ≤ 5 ^ n
  | 0, _, _ => Nat.le_refl _
  | n + 1, x, y => by
    rw [vis]
    have h1 : 1 ≤ 5 ^ n := Nat.one_le_pow _ _ (by decide)
    have h2 : 5 ^ (n + 1) = 5 ^ n * 5 := Nat.pow_succ _ _
    split
    · have h3 := sum_le (subs W H ⟨n + 1, x, y⟩) (fun q => vis W H b n q.x q.y) (5 ^ n) (fun q _ => vis_le W H b n q.x q.y)
      have h4 := Nat.mul_le_mul_right (5 ^ n) (subs_len W H ⟨n + 1, x, y⟩)
      omega
    · omega
/-- the measure: each that waits counts five times one of the level below -/
def wt (l : List Pl) : Nat := (l.map fun p => 5 ^ p.n).sum
theorem wt_snoc (l : List Pl) (p : Pl) : wt (l ++ [p]) = wt l + 5 ^ p.n := by simp [wt]
theorem wt_subs (W H : Nat) (p : Pl) (hn : 0 < p.n) : wt (subs W H p) < 5 ^ p.n := by
  have h1 := sum_le (subs W H p) (fun q => 5 ^ q.n) (5 ^ (p.n - 1)) (fun q hq => by rw [(subs_ok hq).2]; exact Nat.le_refl _)
  have h2 := Nat.mul_le_mul_right (5 ^ (p.n - 1)) (subs_len W H p)
  have h3 : 5 ^ p.n = 5 ^ (p.n - 1) * 5 := by rw [← Nat.pow_succ]; congr 1; omega
  have h4 : 1 ≤ 5 ^ (p.n - 1) := Nat.one_le_pow _ _ (by decide)
  unfold wt
  omega
theorem wt_len (l : List Pl) : l.length ≤ wt l := by
  induction l with
  | nil => exact Nat.zero_le _
  | cons x t ih =>
    have h4 : 1 ≤ 5 ^ x.n := Nat.one_le_pow _ _ (by decide)
    simp only [wt, List.map_cons, List.sum_cons, List.length_cons] at *
    omega
theorem wt_append (l m : List Pl) : wt (l ++ m) = wt l + wt m := by simp [wt]
end Go.Proofs.Ytoaagemofjddiaa.Pyr
