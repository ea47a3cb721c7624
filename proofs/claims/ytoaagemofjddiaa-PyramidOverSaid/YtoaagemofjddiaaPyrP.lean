/-
  A field by halves: the plain law. No program in sight.
-/
set_option linter.unusedVariables false
namespace Go.Proofs.Ytoaagemofjddiaa.Pyr

/-- a cell: the least and the greatest height, and how many there are -/
structure Ce where
  lo : Int
  hi : Int
  n : Nat
deriving DecidableEq
def zc : Ce := ⟨0, 0, 0⟩
def join (a b : Ce) : Ce := if b.n < 1 then a else if a.n = 0 then b else ⟨min a.lo b.lo, max a.hi b.hi, a.n + b.n⟩
def joins (l : List Ce) : Ce := l.foldl join zc
/-- one more height -/
def add (c : Ce) (x : Int) : Ce := ⟨if c.n = 0 ∨ x < c.lo then x else c.lo, if c.n = 0 ∨ c.hi < x then x else c.hi, c.n + 1⟩

/-- the cell of those heights of the first N that are meant -/
structure Is (z : Nat → Int) (N : Nat) (c : Ce) (p : Nat → Bool) : Prop where
  cnt : c.n = (List.range N).countP p
  zero : c.n = 0 → c.lo = 0 ∧ c.hi = 0
  lo : c.n ≠ 0 → ∃ i, i < N ∧ p i = true ∧ z i = c.lo
  hi : c.n ≠ 0 → ∃ i, i < N ∧ p i = true ∧ z i = c.hi
  all : ∀ i, i < N → p i = true → c.lo ≤ z i ∧ z i ≤ c.hi

theorem countP_or (l : List Nat) (p q : Nat → Bool) (h : ∀ i ∈ l, p i = true → q i = false) : l.countP (fun i => p i || q i) = l.countP p + l.countP q := by
  induction l with
  | nil => rfl
  | cons x t ih =>
    have ih' := ih (fun i hi => h i (List.mem_cons_of_mem _ hi))
    have hx := h x List.mem_cons_self
    simp only [List.countP_cons, ih']
    cases hp : p x <;> cases hq : q x <;> simp [hp, hq] at hx ⊢ <;> omega
section
variable {z : Nat → Int} {N : Nat} {c d : Ce} {p q : Nat → Bool}
theorem Is.congr (h : Is z N c p) (e : ∀ i, i < N → p i = q i) : Is z N c q :=
  ⟨h.cnt.trans (List.countP_congr fun i hi => by rw [e i (List.mem_range.1 hi)]), h.zero,
    fun h0 => let ⟨i, h1, h2, h3⟩ := h.lo h0; ⟨i, h1, e i h1 ▸ h2, h3⟩, fun h0 => let ⟨i, h1, h2, h3⟩ := h.hi h0; ⟨i, h1, e i h1 ▸ h2, h3⟩,
    fun i h1 h2 => h.all i h1 (by rw [e i h1]; exact h2)⟩
theorem Is.eq (h : Is z N c p) (k : Is z N d p) : c = d := by
  have e : c.n = d.n := h.cnt.trans k.cnt.symm
  by_cases h0 : c.n = 0
  · obtain ⟨a1, a2⟩ := h.zero h0
    obtain ⟨b1, b2⟩ := k.zero (e ▸ h0)
    cases c; cases d; simp_all
  · obtain ⟨i, i1, i2, i3⟩ := h.lo h0
    obtain ⟨j, j1, j2, j3⟩ := h.hi h0
    obtain ⟨i', i1', i2', i3'⟩ := k.lo (e ▸ h0)
    obtain ⟨j', j1', j2', j3'⟩ := k.hi (e ▸ h0)
    have a1 := k.all i i1 i2
    have a2 := k.all j j1 j2
    have a3 := h.all i' i1' i2'
    have a4 := h.all j' j1' j2'
    have e1 : c.lo = d.lo := by omega
    have e2 : c.hi = d.hi := by omega
    cases c; cases d; simp_all
theorem Is.empty (h : ∀ i, i < N → p i = false) : Is z N zc p :=
  ⟨by
    show 0 = _
    symm
    rw [List.countP_eq_zero]
    intro i hi
    rw [h i (List.mem_range.1 hi)]
    simp, fun _ => ⟨rfl, rfl⟩, fun h => absurd rfl h, fun h => absurd rfl h, fun i h1 h2 => by rw [h i h1] at h2; cases h2⟩
theorem Is.no (h : Is z N c p) (h0 : c.n = 0) : ∀ i, i < N → p i = false := by
  intro i hi
  have := h.cnt
  rw [h0] at this
  have := List.countP_eq_zero.1 this.symm i (List.mem_range.2 hi)
  simpa using this
theorem Is.join (h : Is z N c p) (k : Is z N d q) (dis : ∀ i, i < N → p i = true → q i = false) : Is z N (join c d) (fun i => p i || q i) := by
  unfold Pyr.join
  by_cases hd : d.n < 1
  · rw [if_pos hd]
    exact h.congr fun i hi => by rw [k.no (by omega) i hi, Bool.or_false]
  · rw [if_neg hd]
    by_cases hc : c.n = 0
    · rw [if_pos hc]
      exact k.congr fun i hi => by rw [h.no hc i hi, Bool.false_or]
    · rw [if_neg hc]
      obtain ⟨i, i1, i2, i3⟩ := h.lo hc
      obtain ⟨j, j1, j2, j3⟩ := h.hi hc
      obtain ⟨i', i1', i2', i3'⟩ := k.lo (by omega)
      obtain ⟨j', j1', j2', j3'⟩ := k.hi (by omega)
      refine ⟨?_, fun h0 => ?_, fun _ => ?_, fun _ => ?_, fun m m1 m2 => ?_⟩
      · show c.n + d.n = _
        rw [countP_or _ _ _ (fun i hi => dis i (List.mem_range.1 hi)), h.cnt, k.cnt]
      · have : c.n + d.n = 0 := h0
        omega
      · show ∃ i, i < N ∧ (p i || q i) = true ∧ z i = min c.lo d.lo
        rcases Int.le_total c.lo d.lo with hl | hl
        · exact ⟨i, i1, by rw [i2]; rfl, by omega⟩
        · exact ⟨i', i1', by rw [i2']; simp, by omega⟩
      · show ∃ i, i < N ∧ (p i || q i) = true ∧ z i = max c.hi d.hi
        rcases Int.le_total c.hi d.hi with hl | hl
        · exact ⟨j', j1', by rw [j2']; simp, by omega⟩
        · exact ⟨j, j1, by rw [j2]; rfl, by omega⟩
      · show min c.lo d.lo ≤ z m ∧ z m ≤ max c.hi d.hi
        rcases Bool.or_eq_true _ _ ▸ m2 with hm | hm
        · have := h.all m m1 hm
          omega
        · have := k.all m m1 hm
          omega
end

/-- the cell of those of the first k heights that are meant, one by one -/
def ofF (z : Nat → Int) (p : Nat → Bool) : Nat → Ce
  | 0 => zc
  | k + 1 => if p k = true then add (ofF z p k) (z k) else ofF z p k
theorem ofF_is (z : Nat → Int) (p : Nat → Bool) : ∀ k, Is z k (ofF z p k) p
  | 0 => Is.empty fun i hi => absurd hi (Nat.not_lt_zero i)
  | k + 1 => by
    have ih := ofF_is z p k
    generalize hc : ofF z p k = c at ih
    unfold ofF
    rw [hc]
    by_cases hp : p k = true
    · rw [if_pos hp]
      refine ⟨?_, fun h => ?_, fun _ => ?_, fun _ => ?_, fun i hi hpi => ?_⟩
      · rw [List.range_succ, List.countP_append, ← ih.cnt]
        simp [add, hp]
      · cases h
      · unfold add
        by_cases h0 : c.n = 0 ∨ z k < c.lo
        · simp only [if_pos h0]; exact ⟨k, by omega, hp, rfl⟩
        · simp only [if_neg h0]
          obtain ⟨i, h1, h2, h3⟩ := ih.lo (fun h => h0 (.inl h))
          exact ⟨i, by omega, h2, h3⟩
      · unfold add
        by_cases h0 : c.n = 0 ∨ c.hi < z k
        · simp only [if_pos h0]; exact ⟨k, by omega, hp, rfl⟩
        · simp only [if_neg h0]
          obtain ⟨i, h1, h2, h3⟩ := ih.hi (fun h => h0 (.inl h))
          exact ⟨i, by omega, h2, h3⟩
      · unfold add
        by_cases hk : i = k
        · subst hk
          dsimp only
          constructor <;> split <;> omega
        · have h1 := ih.all i (by omega) hpi
          have h2 : c.n ≠ 0 := fun h => by have := ih.no h i (by omega); rw [this] at hpi; cases hpi
          dsimp only
          constructor <;> split <;> omega
    · rw [if_neg hp]
      have hp' : p k = false := by simpa using hp
      refine ⟨?_, ih.zero, fun h => ?_, fun h => ?_, fun i hi hpi => ?_⟩
      · rw [List.range_succ, List.countP_append, ← ih.cnt]
        simp [hp']
      · obtain ⟨i, h1, h2, h3⟩ := ih.lo h
        exact ⟨i, by omega, h2, h3⟩
      · obtain ⟨i, h1, h2, h3⟩ := ih.hi h
        exact ⟨i, by omega, h2, h3⟩
      · by_cases hk : i = k
        · subst hk; rw [hp'] at hpi; cases hpi
        · exact ih.all i (by omega) hpi

/-- how many cells a level has along so many heights -/
def side (n : Nat) : Nat → Nat
  | 0 => n
  | k + 1 => (side n k + 1) / 2
theorem side_succ (n k : Nat) : side n (k + 1) = (side n k + 1) / 2 := rfl
theorem side_lt (n : Nat) : ∀ k x, x < side n k ↔ x * 2 ^ k < n
  | 0, x => by simp [side]
  | k + 1, x => by
    have ih := side_lt n k (2 * x)
    have e : x * 2 ^ (k + 1) = 2 * x * 2 ^ k := by rw [Nat.pow_succ, Nat.mul_comm (2 ^ k) 2, ← Nat.mul_assoc, Nat.mul_comm x 2]
    rw [e, ← ih, side_succ]
    omega
theorem side_pos {n : Nat} (h : 0 < n) (k : Nat) : 0 < side n k := by rw [side_lt]; simpa using h
theorem side_le (n k : Nat) : side n (k + 1) ≤ side n k := by
  rw [side_succ]
  rcases Nat.eq_zero_or_pos (side n k) with h | h <;> omega
theorem side_one {n k : Nat} (h : n ≤ 2 ^ k) : side n k ≤ 1 := by
  have := (side_lt n k 1)
  omega
theorem div_side {n a : Nat} (h : a < n) (k : Nat) : a / 2 ^ k < side n k := by
  rw [side_lt]
  exact Nat.lt_of_le_of_lt (Nat.div_mul_le_self a _) h

/-- a cell of a level stands for these -/
def sq (W k x y i : Nat) : Bool := i % W / 2 ^ k == x && i / W / 2 ^ k == y
theorem sq_iff {W k x y i : Nat} : sq W k x y i = true ↔ i % W / 2 ^ k = x ∧ i / W / 2 ^ k = y := by simp [sq]
theorem div_two_pow (a k : Nat) : a / 2 ^ (k + 1) = a / 2 ^ k / 2 := by rw [Nat.pow_succ, Nat.div_div_eq_div_mul]
theorem sq_up (W k x y i : Nat) : sq W (k + 1) x y i = (sq W k (2 * x) (2 * y) i || sq W k (2 * x + 1) (2 * y) i || sq W k (2 * x) (2 * y + 1) i || sq W k (2 * x + 1) (2 * y + 1) i) := by
  rw [Bool.eq_iff_iff]
  simp only [Bool.or_eq_true, sq_iff, div_two_pow]
  omega
theorem sq_row {W x y i : Nat} (hx : x < W) (h : sq W 0 x y i = true) : i = y * W + x := by
  rw [sq_iff] at h
  have := Nat.div_add_mod i W
  simp at h
  rw [h.1, h.2, Nat.mul_comm] at this
  exact this.symm
theorem row_sq {W x y : Nat} (hx : x < W) : (y * W + x) % W = x ∧ (y * W + x) / W = y := by
  have h0 : 0 < W := by omega
  constructor
  · rw [Nat.mul_comm, Nat.mul_add_mod, Nat.mod_eq_of_lt hx]
  · rw [Nat.mul_comm, Nat.mul_add_div h0, Nat.div_eq_of_lt hx, Nat.add_zero]
theorem row_lt {W H x y : Nat} (hx : x < W) (hy : y < H) : y * W + x < W * H := by
  have : (y + 1) * W ≤ H * W := Nat.mul_le_mul_right W hy
  rw [Nat.add_mul, Nat.one_mul, Nat.mul_comm H W] at this
  omega
theorem lt_row {W H i : Nat} (h : i < W * H) : i % W < W ∧ i / W < H := by
  have h0 : 0 < W := by
    rcases Nat.eq_zero_or_pos W with h' | h'
    · subst h'; simp at h
    · exact h'
  exact ⟨Nat.mod_lt _ h0, (Nat.div_lt_iff_lt_mul h0).2 (by rw [Nat.mul_comm]; exact h)⟩

def voidZ : Int := -32768
def nv (z : Nat → Int) (i : Nat) : Bool := z i != voidZ
def ce0 (x : Int) : Ce := if x = voidZ then zc else ⟨x, x, 1⟩
theorem countP_one (N j : Nat) (p : Nat → Bool) (hj : j < N) (hp : ∀ i, i < N → (p i = true ↔ i = j)) : (List.range N).countP p = 1 := by
  have e : (List.range N).countP p = (List.range N).countP (fun i => i == j) := List.countP_congr fun i hi => by
    rw [hp i (List.mem_range.1 hi)]; simp
  rw [e]
  have : (List.range N).countP (fun i => i == j) = (List.range N).count j := rfl
  rw [this]
  have h1 := List.nodup_range (n := N)
  rw [h1.count, if_pos (List.mem_range.2 hj)]
theorem ce0_is {z : Nat → Int} {W H x y : Nat} (hx : x < W) (hy : y < H) : Is z (W * H) (ce0 (z (y * W + x))) (fun i => nv z i && sq W 0 x y i) := by
  obtain ⟨e1, e2⟩ := row_sq (y := y) hx
  have hsq : sq W 0 x y (y * W + x) = true := by rw [sq_iff, e1, e2]; simp
  unfold ce0
  by_cases hv : z (y * W + x) = voidZ
  · rw [if_pos hv]
    refine Is.empty fun i hi => ?_
    cases h : sq W 0 x y i with
    | false => simp
    | true =>
      rw [sq_row hx h]
      simp [nv, hv]
  · rw [if_neg hv]
    have hn : nv z (y * W + x) = true := by simp [nv, hv]
    refine ⟨?_, (fun h => by cases h), fun _ => ⟨_, row_lt hx hy, (by rw [hn, hsq]; rfl), rfl⟩, fun _ => ⟨_, row_lt hx hy, (by rw [hn, hsq]; rfl), rfl⟩, fun i hi hp => ?_⟩
    · symm
      refine countP_one _ _ _ (row_lt hx hy) fun i hi => ⟨fun h => sq_row hx (Bool.and_eq_true _ _ ▸ h).2, fun h => (by subst h; rw [hn, hsq]; rfl)⟩
    · obtain rfl := sq_row hx (by simpa using (Bool.and_eq_true _ _ ▸ hp : nv z i = true ∧ sq W 0 x y i = true).2)
      exact ⟨Int.le_refl _, Int.le_refl _⟩

/-- a cell of a level, row by row -/
def atL (w h : Nat) (L : List Ce) (x y : Nat) : Ce := if x < w ∧ y < h then L.getD (y * w + x) zc else zc
def four (w h : Nat) (L : List Ce) (x y : Nat) : List Ce := [atL w h L (2 * x) (2 * y), atL w h L (2 * x + 1) (2 * y), atL w h L (2 * x) (2 * y + 1), atL w h L (2 * x + 1) (2 * y + 1)]
def halved (w h : Nat) (L : List Ce) : List Ce := (List.range (((w + 1) / 2) * ((h + 1) / 2))).map fun i => joins (four w h L (i % ((w + 1) / 2)) (i / ((w + 1) / 2)))
/-- the cells of a level of a field -/
def lev (W H : Nat) (z : Nat → Int) : Nat → List Ce
  | 0 => (List.range (W * H)).map fun i => ce0 (z i)
  | k + 1 => halved (side W k) (side H k) (lev W H z k)
theorem lev_len (W H : Nat) (z : Nat → Int) : ∀ k, (lev W H z k).length = side W k * side H k
  | 0 => by simp [lev, side]
  | k + 1 => by simp [lev, halved, side]
theorem none_join (c : Ce) (h : c.n = 0 → c = zc) : join zc c = c := by
  unfold join
  by_cases h0 : c.n < 1
  · rw [if_pos h0, h (by omega)]
  · rw [if_neg h0]; rfl
theorem Is.zc_of {z : Nat → Int} {N : Nat} {c : Ce} {p : Nat → Bool} (h : Is z N c p) (h0 : c.n = 0) : c = zc := by
  obtain ⟨a, b⟩ := h.zero h0
  cases c
  simp_all [zc]
theorem lev_is (W H : Nat) (z : Nat → Int) : ∀ k x y, x < side W k → y < side H k → Is z (W * H) ((lev W H z k).getD (y * side W k + x) zc) (fun i => nv z i && sq W k x y i)
  | 0, x, y, hx, hy => by
    have hx' : x < W := hx
    have hy' : y < H := hy
    have h := row_lt hx' hy'
    have e : (lev W H z 0).getD (y * side W 0 + x) zc = ce0 (z (y * W + x)) := by
      simp [lev, side, List.getD, h]
    rw [e]
    exact ce0_is hx' hy'
  | k + 1, x, y, hx, hy => by
    have ih := lev_is W H z k
    have h := row_lt hx hy
    obtain ⟨e1, e2⟩ := row_sq (y := y) hx
    have e : (lev W H z (k + 1)).getD (y * side W (k + 1) + x) zc = joins (four (side W k) (side H k) (lev W H z k) x y) := by
      have hlt : y * side W (k + 1) + x < ((side W k + 1) / 2) * ((side H k + 1) / 2) := h
      show ((List.range _).map _).getD _ _ = _
      rw [List.getD_eq_getElem?_getD, List.getElem?_map, List.getElem?_range hlt, Option.map_some, Option.getD_some]
      show joins (four _ _ _ ((y * side W (k + 1) + x) % side W (k + 1)) ((y * side W (k + 1) + x) / side W (k + 1))) = _
      rw [e1, e2]
    rw [e]
    have one : ∀ a b, Is z (W * H) (atL (side W k) (side H k) (lev W H z k) a b) (fun i => nv z i && sq W k a b i) := by
      intro a b
      unfold atL
      by_cases hab : a < side W k ∧ b < side H k
      · rw [if_pos hab]
        exact ih a b hab.1 hab.2
      · rw [if_neg hab]
        refine Is.empty fun i hi => ?_
        cases hs : sq W k a b i with
        | false => simp
        | true =>
          rw [sq_iff] at hs
          obtain ⟨h1, h2⟩ := lt_row hi
          exact absurd ⟨hs.1 ▸ div_side h1 k, hs.2 ▸ div_side h2 k⟩ hab
    have o1 := one (2 * x) (2 * y)
    have o2 := one (2 * x + 1) (2 * y)
    have o3 := one (2 * x) (2 * y + 1)
    have o4 := one (2 * x + 1) (2 * y + 1)
    have dis : ∀ {a b a' b' : Nat}, (a ≠ a' ∨ b ≠ b') → ∀ i, (nv z i && sq W k a b i) = true → (nv z i && sq W k a' b' i) = false := by
      intro a b a' b' hne i hi
      rw [Bool.and_eq_true, sq_iff] at hi
      cases hs : sq W k a' b' i with
      | false => simp
      | true =>
        rw [sq_iff] at hs
        omega
    unfold joins four
    simp only [List.foldl_cons, List.foldl_nil]
    rw [none_join _ o1.zc_of]
    have j2 := o1.join o2 (fun i _ => dis (.inl (by omega)) i)
    have j3 := j2.join o3 (fun i _ h => by
      rcases Bool.or_eq_true _ _ ▸ h with h | h
      · exact dis (.inr (by omega)) i h
      · exact dis (.inr (by omega)) i h)
    have j4 := j3.join o4 (fun i _ h => by
      rcases Bool.or_eq_true _ _ ▸ h with h | h
      · rcases Bool.or_eq_true _ _ ▸ h with h | h
        · exact dis (.inr (by omega)) i h
        · exact dis (.inr (by omega)) i h
      · exact dis (.inl (by omega)) i h)
    exact j4.congr fun i _ => by
      rw [sq_up]
      cases nv z i <;> simp
end Go.Proofs.Ytoaagemofjddiaa.Pyr
