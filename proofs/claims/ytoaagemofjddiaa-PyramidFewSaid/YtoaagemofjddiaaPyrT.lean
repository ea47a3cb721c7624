/-
  A field by halves: how many cells are looked at, level by level, and no more than so many: the plain law. No program in sight.
-/
import Derived.Test.YtoaagemofjddiaaPyrS
namespace Go.Proofs.Ytoaagemofjddiaa.Pyr

/-- a sum, one by one -/
def sm : Nat → (Nat → Nat) → Nat
  | 0, _ => 0
  | n + 1, f => sm n f + f n
theorem sm_add (n : Nat) (f g : Nat → Nat) : sm n (fun i => f i + g i) = sm n f + sm n g := by
  induction n with
  | zero => rfl
  | succ n ih => simp only [sm, ih]; omega
theorem sm_le (n : Nat) (f g : Nat → Nat) (h : ∀ i, i < n → f i ≤ g i) : sm n f ≤ sm n g := by
  induction n with
  | zero => exact Nat.le_refl _
  | succ n ih =>
    have h1 := ih fun i hi => h i (by omega)
    have h2 := h n (by omega)
    simp only [sm]
    omega
theorem sm_congr (n : Nat) (f g : Nat → Nat) (h : ∀ i, i < n → f i = g i) : sm n f = sm n g :=
  Nat.le_antisymm (sm_le n f g fun i hi => Nat.le_of_eq (h i hi)) (sm_le n g f fun i hi => Nat.le_of_eq (h i hi).symm)
theorem sm_const (n c : Nat) : sm n (fun _ => c) = n * c := by
  induction n with
  | zero => simp [sm]
  | succ n ih => simp only [sm, ih, Nat.add_mul, Nat.one_mul]
theorem sm_mul (n c : Nat) (f : Nat → Nat) : sm n (fun i => c * f i) = c * sm n f := by
  induction n with
  | zero => simp [sm]
  | succ n ih => simp only [sm, ih, Nat.mul_add]
theorem sm_zero (n : Nat) (f : Nat → Nat) (h : ∀ i, i < n → f i = 0) : sm n f = 0 := by
  rw [sm_congr n f (fun _ => 0) h, sm_const, Nat.mul_zero]
/-- of no two is it true -/
theorem sm_once (n : Nat) (p : Nat → Bool) (h : ∀ i j, i < j → j < n → p i = true → p j = true → False) : sm n (fun i => if p i = true then 1 else 0) ≤ 1 := by
  induction n with
  | zero => exact Nat.zero_le _
  | succ n ih =>
    have h1 := ih fun i j hij hj => h i j hij (by omega)
    simp only [sm]
    by_cases hp : p n = true
    · rw [sm_zero n _ (fun i hi => if_neg (fun hpi => h i n hi (by omega) hpi hp))]
      split <;> omega
    · rw [if_neg hp]
      exact h1
theorem sm_half (n : Nat) (f : Nat → Nat) : sm ((n + 1) / 2) (fun x => f (2 * x) + if 2 * x + 1 < n then f (2 * x + 1) else 0) = sm n f := by
  have key : ∀ m, m ≤ (n + 1) / 2 → sm m (fun x => f (2 * x) + if 2 * x + 1 < n then f (2 * x + 1) else 0) = sm (min (2 * m) n) f := by
    intro m
    induction m with
    | zero => intro _; simp [sm]
    | succ m ih =>
      intro hm
      simp only [sm]
      rw [ih (by omega)]
      have e1 : min (2 * m) n = 2 * m := by omega
      rw [e1]
      by_cases h : 2 * m + 1 < n
      · have e2 : min (2 * (m + 1)) n = 2 * m + 1 + 1 := by omega
        rw [if_pos h, e2]
        simp only [sm]
        omega
      · have e2 : min (2 * (m + 1)) n = 2 * m + 1 := by omega
        rw [if_neg h, e2]
        simp only [sm]
        omega
  rw [key _ (Nat.le_refl _)]
  congr 1
  omega
/-- a sum over the cells of a level -/
def sq2 (W H k : Nat) (g : Pl → Nat) : Nat := sm (side H k) fun y => sm (side W k) fun x => g ⟨k, x, y⟩
theorem subs_sum (W H k x y : Nat) (g : Pl → Nat) (hx : x < side W (k + 1)) (hy : y < side H (k + 1)) : ((subs W H ⟨k + 1, x, y⟩).map g).sum =
    (g ⟨k, 2 * x, 2 * y⟩ + if 2 * x + 1 < side W k then g ⟨k, 2 * x + 1, 2 * y⟩ else 0) + if 2 * y + 1 < side H k then (g ⟨k, 2 * x, 2 * y + 1⟩ + if 2 * x + 1 < side W k then g ⟨k, 2 * x + 1, 2 * y + 1⟩ else 0) else 0 := by
  rw [side_succ] at hx hy
  have h1 : 2 * x < side W k := by omega
  have h2 : 2 * y < side H k := by omega
  unfold subs
  simp only [Nat.add_sub_cancel, List.filter_cons, h1, h2, decide_true, Bool.true_and, Bool.and_true, if_true, List.filter_nil]
  by_cases h3 : 2 * x + 1 < side W k <;> by_cases h4 : 2 * y + 1 < side H k <;> simp [h3, h4] <;> omega
theorem sq2_up (W H k : Nat) (g : Pl → Nat) : sq2 W H (k + 1) (fun p => ((subs W H p).map g).sum) = sq2 W H k g := by
  unfold sq2
  rw [← sm_half (side H k)]
  refine sm_congr _ _ _ fun y hy => ?_
  have e : ∀ yy, sm (side W k) (fun x => g ⟨k, x, yy⟩) = sm (side W (k + 1)) (fun x => g ⟨k, 2 * x, yy⟩ + if 2 * x + 1 < side W k then g ⟨k, 2 * x + 1, yy⟩ else 0) := fun yy => by
    rw [← sm_half (side W k)]; rfl
  rw [e, e]
  by_cases h4 : 2 * y + 1 < side H k
  · rw [if_pos h4, ← sm_add]
    refine sm_congr _ _ _ fun x hx => ?_
    exact (subs_sum W H k x y g hx hy).trans (by rw [if_pos h4])
  · rw [if_neg h4, Nat.add_zero]
    refine sm_congr _ _ _ fun x hx => ?_
    exact (subs_sum W H k x y g hx hy).trans (by rw [if_neg h4, Nat.add_zero])

/-- what is looked at below one -/
def dp (W H : Nat) (b : Bo) (p : Pl) : Nat := if partly W H b p = true then (subs W H p).length else 0
def D (W H : Nat) (b : Bo) : Nat → Nat → Nat → Nat
  | 0, _, _ => 0
  | n + 1, x, y => dp W H b ⟨n + 1, x, y⟩ + ((subs W H ⟨n + 1, x, y⟩).map fun q => D W H b n q.x q.y).sum
theorem sub_square {W H : Nat} {p q : Pl} (hn : 0 < p.n) (h : q ∈ subs W H p) : (square W H p).x0 ≤ (square W H q).x0 ∧ (square W H q).x1 ≤ (square W H p).x1 ∧ (square W H p).y0 ≤ (square W H q).y0 ∧ (square W H q).y1 ≤ (square W H p).y1 := by
  obtain ⟨n, x, y⟩ := p
  cases n with
  | zero => cases hn
  | succ n =>
    unfold subs at h
    rw [List.mem_filter] at h
    obtain ⟨h1, _⟩ := h
    simp only [Nat.add_sub_cancel, List.mem_cons, List.not_mem_nil, or_false] at h1
    have e : ∀ a : Nat, (a : Int) * (2 ^ (n + 1) : Nat) = 2 * ((a : Int) * (2 ^ n : Nat)) := fun a => by
      rw [Nat.pow_succ, Int.natCast_mul, Int.mul_comm _ ((2 : Nat) : Int), ← Int.mul_assoc, Int.mul_comm (a : Int), Int.mul_assoc]; rfl
    have e2 : ((2 ^ (n + 1) : Nat) : Int) = 2 * ((2 ^ n : Nat) : Int) := by rw [Nat.pow_succ, Int.natCast_mul, Int.mul_comm]; rfl
    have hp : 0 < ((2 ^ n : Nat) : Int) := by have := Nat.two_pow_pos n; omega
    have f0 : ∀ a : Nat, ((2 * a : Nat) : Int) * (2 ^ n : Nat) = 2 * ((a : Int) * (2 ^ n : Nat)) := fun a => by rw [Int.natCast_mul, Int.mul_assoc]; rfl
    have f1 : ∀ a : Nat, ((2 * a + 1 : Nat) : Int) * (2 ^ n : Nat) = 2 * ((a : Int) * (2 ^ n : Nat)) + (2 ^ n : Nat) := fun a => by rw [Int.natCast_add, Int.add_mul, f0]; simp
    unfold square
    rcases h1 with rfl | rfl | rfl | rfl <;> (simp only [e, f0, f1]; rw [e2]; generalize (x : Int) * (2 ^ n : Nat) = u; generalize (y : Int) * (2 ^ n : Nat) = v; generalize ((2 ^ n : Nat) : Int) = s at *; omega)
theorem partly_up {W H : Nat} {b : Bo} {p q : Pl} (hn : 0 < p.n) (h : q ∈ subs W H p) (hp : partly W H b p = false) : partly W H b q = false := by
  obtain ⟨h1, h2, h3, h4⟩ := sub_square hn h
  unfold partly apart inside at *
  generalize square W H p = P at *
  generalize square W H q = Q at *
  rw [Bool.and_eq_false_iff, Bool.not_eq_false', Bool.not_eq_false', decide_eq_true_eq, decide_eq_true_eq] at hp ⊢
  rcases hp with hp | hp
  · left; omega
  · right; omega
theorem sum_zero {α : Type} (l : List α) (f : α → Nat) (h : ∀ x ∈ l, f x = 0) : (l.map f).sum = 0 := by
  induction l with
  | nil => rfl
  | cons x t ih => simp [h x List.mem_cons_self, ih fun y hy => h y (List.mem_cons_of_mem _ hy)]
theorem sum_one {α : Type} (l : List α) (f : α → Nat) : (l.map fun x => 1 + f x).sum = l.length + (l.map f).sum := by
  induction l with
  | nil => rfl
  | cons x t ih => simp only [List.map_cons, List.sum_cons, List.length_cons, ih]; omega
theorem D_not (W H : Nat) (b : Bo) : ∀ n x y, partly W H b ⟨n, x, y⟩ = false → D W H b n x y = 0
  | 0, _, _, _ => rfl
  | n + 1, x, y, h => by
    have h1 : dp W H b ⟨n + 1, x, y⟩ = 0 := by unfold dp; rw [if_neg (by rw [h]; simp)]
    show dp W H b ⟨n + 1, x, y⟩ + _ = 0
    rw [h1, sum_zero]
    intro q hq
    have hqn := (subs_ok hq).2
    have := partly_up (by simp) hq h
    refine D_not W H b n q.x q.y ?_
    have e : (⟨n, q.x, q.y⟩ : Pl) = q := by obtain ⟨a, b, c⟩ := q; simp at hqn; subst hqn; rfl
    rw [e]
    exact this
theorem vis_D (W H : Nat) (b : Bo) : ∀ n x y, vis W H b n x y = 1 + D W H b n x y
  | 0, _, _ => rfl
  | n + 1, x, y => by
    by_cases h : partly W H b ⟨n + 1, x, y⟩ = true
    · rw [vis, if_pos h]
      show _ = 1 + (dp W H b ⟨n + 1, x, y⟩ + _)
      unfold dp
      rw [if_pos h]
      congr 1
      rw [← sum_one]
      congr 1
      exact List.map_congr_left fun q _ => vis_D W H b n q.x q.y
    · have h' : partly W H b ⟨n + 1, x, y⟩ = false := by simpa using h
      rw [vis, if_neg h, D_not W H b (n + 1) x y h']
/-- what is looked at below the cells of the levels, from the lowest to one -/
def seenTo (W H : Nat) (b : Bo) : Nat → Nat
  | 0 => 0
  | k + 1 => sq2 W H (k + 1) (dp W H b) + seenTo W H b k
theorem D_all (W H : Nat) (b : Bo) : ∀ n, sq2 W H n (fun p => D W H b p.n p.x p.y) = seenTo W H b n
  | 0 => by
    unfold sq2
    exact sm_zero _ _ fun y _ => sm_zero _ _ fun x _ => rfl
  | n + 1 => by
    have ih := D_all W H b n
    rw [← sq2_up] at ih
    show _ = sq2 W H (n + 1) (dp W H b) + seenTo W H b n
    rw [← ih]
    unfold sq2
    rw [← sm_add]
    refine sm_congr _ _ _ fun y _ => ?_
    rw [← sm_add]
    refine sm_congr _ _ _ fun x _ => ?_
    show dp W H b ⟨n + 1, x, y⟩ + _ = _
    congr 2
    refine List.map_congr_left fun q hq => ?_
    have := (subs_ok hq).2
    simp only [Nat.add_sub_cancel] at this
    rw [this]
/-- how many are looked at, from the top -/
theorem vis_top {W H : Nat} {b : Bo} {top : Nat} (hw : side W top = 1) (hh : side H top = 1) : visP W H b ⟨top, 0, 0⟩ = 1 + seenTo W H b top := by
  have := D_all W H b top
  unfold sq2 at this
  rw [hw, hh] at this
  simp only [sm, Nat.zero_add] at this
  rw [← this]
  exact vis_D W H b top 0 0

theorem square_mono {W H : Nat} {k x x' y y' : Nat} (hx : x < x') : (square W H ⟨k, x, y⟩).x1 < (square W H ⟨k, x', y'⟩).x0 := by
  unfold square
  dsimp only
  have h1 : (x + 1) * 2 ^ k ≤ x' * 2 ^ k := Nat.mul_le_mul_right _ hx
  have h2 : ((x + 1 : Nat) : Int) * (2 ^ k : Nat) ≤ (x' : Int) * (2 ^ k : Nat) := by rw [← Int.natCast_mul, ← Int.natCast_mul]; exact Int.ofNat_le.2 h1
  have h3 : ((x + 1 : Nat) : Int) * (2 ^ k : Nat) = (x : Int) * (2 ^ k : Nat) + (2 ^ k : Nat) := by rw [Int.natCast_add, Int.add_mul]; simp
  rw [h3] at h2
  omega
theorem square_mony {W H : Nat} {k x x' y y' : Nat} (hy : y < y') : (square W H ⟨k, x, y⟩).y1 < (square W H ⟨k, x', y'⟩).y0 := by
  unfold square
  dsimp only
  have h1 : (y + 1) * 2 ^ k ≤ y' * 2 ^ k := Nat.mul_le_mul_right _ hy
  have h2 : ((y + 1 : Nat) : Int) * (2 ^ k : Nat) ≤ (y' : Int) * (2 ^ k : Nat) := by rw [← Int.natCast_mul, ← Int.natCast_mul]; exact Int.ofNat_le.2 h1
  have h3 : ((y + 1 : Nat) : Int) * (2 ^ k : Nat) = (y : Int) * (2 ^ k : Nat) + (2 ^ k : Nat) := by rw [Int.natCast_add, Int.add_mul]; simp
  rw [h3] at h2
  omega
def sx0 (W H k : Nat) (b : Bo) (x : Nat) : Bool := decide ((square W H ⟨k, x, 0⟩).x0 < b.x0 ∧ b.x0 ≤ (square W H ⟨k, x, 0⟩).x1)
def sx1 (W H k : Nat) (b : Bo) (x : Nat) : Bool := decide ((square W H ⟨k, x, 0⟩).x0 ≤ b.x1 ∧ b.x1 < (square W H ⟨k, x, 0⟩).x1)
def sy0 (W H k : Nat) (b : Bo) (y : Nat) : Bool := decide ((square W H ⟨k, 0, y⟩).y0 < b.y0 ∧ b.y0 ≤ (square W H ⟨k, 0, y⟩).y1)
def sy1 (W H k : Nat) (b : Bo) (y : Nat) : Bool := decide ((square W H ⟨k, 0, y⟩).y0 ≤ b.y1 ∧ b.y1 < (square W H ⟨k, 0, y⟩).y1)
def bt1 (p : Bool) : Nat := if p = true then 1 else 0
theorem partly_sides {W H k x y : Nat} {b : Bo} : (if partly W H b ⟨k, x, y⟩ = true then 1 else 0) ≤ (bt1 (sx0 W H k b x) + bt1 (sx1 W H k b x)) + (bt1 (sy0 W H k b y) + bt1 (sy1 W H k b y)) := by
  by_cases h : partly W H b ⟨k, x, y⟩ = true
  · rw [if_pos h]
    have hx0 : ∀ y', (square W H ⟨k, x, y⟩).x0 = (square W H ⟨k, x, y'⟩).x0 := fun _ => rfl
    have hx1 : ∀ y', (square W H ⟨k, x, y⟩).x1 = (square W H ⟨k, x, y'⟩).x1 := fun _ => rfl
    have hy0 : ∀ x', (square W H ⟨k, x, y⟩).y0 = (square W H ⟨k, x', y⟩).y0 := fun _ => rfl
    have hy1 : ∀ x', (square W H ⟨k, x, y⟩).y1 = (square W H ⟨k, x', y⟩).y1 := fun _ => rfl
    have a0 := hx0 0
    have a1 := hx1 0
    have a2 := hy0 0
    have a3 := hy1 0
    unfold partly apart inside at h
    rw [Bool.and_eq_true, Bool.not_eq_true', Bool.not_eq_true', decide_eq_false_iff_not, decide_eq_false_iff_not] at h
    obtain ⟨h1, h2⟩ := h
    unfold bt1 sx0 sx1 sy0 sy1
    simp only [decide_eq_true_eq]
    rw [← a0, ← a1, ← a2, ← a3]
    by_cases c1 : (square W H ⟨k, x, y⟩).x0 < b.x0
    · rw [if_pos ⟨c1, by omega⟩]; omega
    · by_cases c2 : b.x1 < (square W H ⟨k, x, y⟩).x1
      · rw [if_pos (c := (square W H ⟨k, x, y⟩).x0 ≤ b.x1 ∧ _) ⟨by omega, c2⟩]; omega
      · by_cases c3 : (square W H ⟨k, x, y⟩).y0 < b.y0
        · rw [if_pos (c := (square W H ⟨k, x, y⟩).y0 < b.y0 ∧ _) ⟨c3, by omega⟩]; omega
        · have c4 : b.y1 < (square W H ⟨k, x, y⟩).y1 := by omega
          rw [if_pos (c := (square W H ⟨k, x, y⟩).y0 ≤ b.y1 ∧ _) ⟨by omega, c4⟩]; omega
  · rw [if_neg h]; exact Nat.zero_le _
theorem once_x0 (W H k n : Nat) (b : Bo) : sm n (fun x => bt1 (sx0 W H k b x)) ≤ 1 := sm_once n _ fun i j hij _ h1 h2 => by
  have := square_mono (W := W) (H := H) (k := k) (y := 0) (y' := 0) hij
  unfold sx0 at h1 h2
  rw [decide_eq_true_eq] at h1 h2
  omega
theorem once_x1 (W H k n : Nat) (b : Bo) : sm n (fun x => bt1 (sx1 W H k b x)) ≤ 1 := sm_once n _ fun i j hij _ h1 h2 => by
  have := square_mono (W := W) (H := H) (k := k) (y := 0) (y' := 0) hij
  unfold sx1 at h1 h2
  rw [decide_eq_true_eq] at h1 h2
  omega
theorem once_y0 (W H k n : Nat) (b : Bo) : sm n (fun y => bt1 (sy0 W H k b y)) ≤ 1 := sm_once n _ fun i j hij _ h1 h2 => by
  have := square_mony (W := W) (H := H) (k := k) (x := 0) (x' := 0) hij
  unfold sy0 at h1 h2
  rw [decide_eq_true_eq] at h1 h2
  omega
theorem once_y1 (W H k n : Nat) (b : Bo) : sm n (fun y => bt1 (sy1 W H k b y)) ≤ 1 := sm_once n _ fun i j hij _ h1 h2 => by
  have := square_mony (W := W) (H := H) (k := k) (x := 0) (x' := 0) hij
  unfold sy1 at h1 h2
  rw [decide_eq_true_eq] at h1 h2
  omega
theorem level_le (W H k : Nat) (b : Bo) : sq2 W H k (dp W H b) ≤ 8 * side W k + 8 * side H k := by
  have h1 : sq2 W H k (dp W H b) ≤ sm (side H k) fun y => 4 * (2 + side W k * (bt1 (sy0 W H k b y) + bt1 (sy1 W H k b y))) := by
    unfold sq2
    refine sm_le _ _ _ fun y _ => ?_
    have h2 : sm (side W k) (fun x => dp W H b ⟨k, x, y⟩) ≤ sm (side W k) fun x => 4 * ((bt1 (sx0 W H k b x) + bt1 (sx1 W H k b x)) + (bt1 (sy0 W H k b y) + bt1 (sy1 W H k b y))) := by
      refine sm_le _ _ _ fun x _ => ?_
      have h3 := partly_sides (W := W) (H := H) (k := k) (x := x) (y := y) (b := b)
      have h4 := subs_len W H ⟨k, x, y⟩
      unfold dp
      by_cases hp : partly W H b ⟨k, x, y⟩ = true
      · rw [if_pos hp] at h3 ⊢; omega
      · rw [if_neg hp]; exact Nat.zero_le _
    refine Nat.le_trans h2 ?_
    rw [sm_mul, sm_add, sm_add, sm_const]
    have a := once_x0 W H k (side W k) b
    have c := once_x1 W H k (side W k) b
    refine Nat.mul_le_mul_left 4 ?_
    omega
  refine Nat.le_trans h1 ?_
  rw [sm_mul, sm_add, sm_const, sm_mul, sm_add]
  have a := once_y0 W H k (side H k) b
  have c := once_y1 W H k (side H k) b
  have d : side W k * (sm (side H k) (fun y => bt1 (sy0 W H k b y)) + sm (side H k) (fun y => bt1 (sy1 W H k b y))) ≤ side W k * 2 := Nat.mul_le_mul_left _ (by omega)
  omega
/-- one, and eight for each column and each row of all levels but the lowest -/
def most (W H : Nat) : Nat → Nat
  | 0 => 1
  | k + 1 => most W H k + 8 * side W (k + 1) + 8 * side H (k + 1)
theorem seen_most (W H : Nat) (b : Bo) : ∀ k, 1 + seenTo W H b k ≤ most W H k
  | 0 => Nat.le_refl _
  | k + 1 => by
    have h1 := seen_most W H b k
    have h2 := level_le W H (k + 1) b
    simp only [seenTo, most]
    omega
end Go.Proofs.Ytoaagemofjddiaa.Pyr
