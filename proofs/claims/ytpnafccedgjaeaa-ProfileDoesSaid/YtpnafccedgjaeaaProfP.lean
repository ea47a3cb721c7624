/-
  Heights in a ring, and in a list: the plain law. No program in sight.
-/
namespace Go.Proofs.Ytpnafccedgjaeaa.Prof

structure Smp where
  dx : Int
  dy : Int
  z : Int
deriving DecidableEq
structure Pr where
  l : Nat → Smp
  first : Nat
  n : Nat
  x : Int
  y : Int
  gap : Int
structure Rf where
  L : List Smp
  x : Int
  y : Int
  gap : Int

/-- heights in the order in which they were found -/
def all (p : Pr) : List Smp := (List.range p.n).map fun i => p.l ((p.first + i) % 64)
theorem all_len (p : Pr) : (all p).length = p.n := by simp [all]
theorem all_get (p : Pr) (i : Nat) (h : i < p.n) : (all p)[i]? = some (p.l ((p.first + i) % 64)) := by simp [all, h]

/-- no more than so far from 0 -/
def inB (v : Int) : Prop := -16777216 ≤ v ∧ v ≤ 16777216
instance (v : Int) : Decidable (inB v) := by unfold inB; infer_instance
def okS (s : Smp) : Prop := inB s.dx ∧ inB s.dy ∧ -9223372036854775808 ≤ s.z ∧ s.z ≤ 9223372036854775807
def ok (p : Pr) : Prop := p.first < 64 ∧ p.n ≤ 64 ∧ inB p.x ∧ inB p.y ∧ 0 ≤ p.gap ∧ p.gap ≤ 1048576 ∧ ∀ i, i < 64 → okS (p.l i)
theorem ok_all {p : Pr} (h : ok p) : ∀ s ∈ all p, okS s := by
  intro s hs
  obtain ⟨i, _, rfl⟩ := List.mem_map.1 hs
  exact h.2.2.2.2.2.2 _ (Nat.mod_lt _ (by decide))

def clamp (g : Int) : Int := min (max g 0) 1048576
def new (g : Int) : Pr := { l := fun _ => ⟨0, 0, 0⟩, first := 0, n := 0, x := 0, y := 0, gap := clamp g }
theorem ok_new (g : Int) : ok (new g) := by
  have z0 : inB 0 := by unfold inB; omega
  have s0 : okS ⟨0, 0, 0⟩ := ⟨z0, z0, by show (-9223372036854775808 : Int) ≤ 0; omega, by show (0 : Int) ≤ 9223372036854775807; omega⟩
  refine ⟨by show 0 < 64; omega, by show 0 ≤ 64; omega, z0, z0, ?_, ?_, fun i _ => s0⟩
  · show 0 ≤ min (max g 0) 1048576; omega
  · show min (max g 0) 1048576 ≤ 1048576; omega
def mayMove (x y dx dy : Int) : Bool := decide (inB dx) && decide (inB dy) && decide (inB (x + dx)) && decide (inB (y + dy))
def move (p : Pr) (dx dy : Int) : Pr := if mayMove p.x p.y dx dy then { p with x := p.x + dx, y := p.y + dy } else p
theorem ok_move {p : Pr} (h : ok p) (dx dy : Int) : ok (move p dx dy) := by
  unfold move
  split
  · rename_i hm
    simp only [mayMove, Bool.and_eq_true, decide_eq_true_eq] at hm
    exact ⟨h.1, h.2.1, hm.1.2, hm.2, h.2.2.2.2⟩
  · exact h
def last (p : Pr) : Smp := p.l ((p.first + p.n + 63) % 64)
/-- less than the gap away, both ways -/
def nearS (x y gap : Int) (s : Smp) : Bool := decide (x - s.dx < gap) && decide (s.dx - x < gap) && (decide (y - s.dy < gap) && decide (s.dy - y < gap))
def near (p : Pr) : Bool := decide (0 < p.n) && nearS p.x p.y p.gap (last p)
def upd (l : Nat → Smp) (i : Nat) (s : Smp) : Nat → Smp := fun j => if j = i then s else l j
/-- the ring with one place freed, if it is full -/
def freed (p : Pr) : Pr := if p.n = 64 then { p with first := (p.first + 1) % 64, n := 63 } else p
def put (p : Pr) (z : Int) : Pr := { p with l := upd p.l ((p.first + p.n) % 64) ⟨p.x, p.y, z⟩, n := p.n + 1 }
def add (p : Pr) (z : Int) : Pr := if near p then p else put (freed p) z
theorem ok_freed {p : Pr} (h : ok p) : ok (freed p) ∧ (freed p).n < 64 := by
  unfold freed
  split
  · exact ⟨⟨Nat.mod_lt _ (by decide), by show 63 ≤ 64; decide, h.2.2⟩, by show 63 < 64; decide⟩
  · have := h.2.1
    exact ⟨h, by omega⟩
theorem ok_put {p : Pr} (h : ok p) (hn : p.n < 64) (z : Int) (h1 : -9223372036854775808 ≤ z) (h2 : z ≤ 9223372036854775807) : ok (put p z) := by
  refine ⟨h.1, hn, h.2.2.1, h.2.2.2.1, h.2.2.2.2.1, h.2.2.2.2.2.1, fun i hi => ?_⟩
  show okS (upd p.l _ _ i)
  unfold upd
  split
  · exact ⟨h.2.2.1, h.2.2.2.1, h1, h2⟩
  · exact h.2.2.2.2.2.2 i hi
theorem ok_add {p : Pr} (h : ok p) (z : Int) (h1 : -9223372036854775808 ≤ z) (h2 : z ≤ 9223372036854775807) : ok (add p z) := by
  unfold add
  split
  · exact h
  · exact ok_put (ok_freed h).1 (ok_freed h).2 z h1 h2
theorem all_freed (p : Pr) : all (freed p) = (all p).drop (if p.n = 64 then 1 else 0) := by
  unfold freed
  split
  · rename_i hn
    apply List.ext_getElem?
    intro i
    rw [List.getElem?_drop]
    by_cases hi : i < 63
    · rw [all_get _ i (by show i < 63; exact hi), all_get p (1 + i) (by omega)]
      show some (p.l (((p.first + 1) % 64 + i) % 64)) = _
      congr 2
      omega
    · rw [List.getElem?_eq_none (by rw [all_len]; show 63 ≤ i; omega), List.getElem?_eq_none (by rw [all_len]; omega)]
  · simp
theorem all_put {p : Pr} (hn : p.n < 64) (z : Int) : all (put p z) = all p ++ [⟨p.x, p.y, z⟩] := by
  apply List.ext_getElem?
  intro i
  by_cases hi : i < p.n
  · rw [List.getElem?_append_left (by rw [all_len]; exact hi), all_get p i hi, all_get _ i (by show i < p.n + 1; omega)]
    show some (upd p.l _ _ _) = _
    unfold upd
    rw [if_neg (by show ¬ (p.first + i) % 64 = (p.first + p.n) % 64; omega)]
    rfl
  · by_cases hi' : i = p.n
    · subst hi'
      rw [List.getElem?_append_right (by rw [all_len]; exact Nat.le_refl _), all_len, Nat.sub_self, all_get _ p.n (by show p.n < p.n + 1; omega)]
      show some (upd p.l _ _ _) = _
      unfold upd
      rw [if_pos (show ((put p z).first + p.n) % 64 = (p.first + p.n) % 64 from rfl)]
      rfl
    · rw [List.getElem?_eq_none (by rw [all_len]; show p.n + 1 ≤ i; omega), List.getElem?_eq_none (by rw [List.length_append, all_len]; show p.n + 1 ≤ i; omega)]
theorem last_all {p : Pr} (hn : 0 < p.n) : (all p)[p.n - 1]? = some (last p) := by
  rw [all_get p _ (by omega)]
  unfold last
  congr 2
  omega

/-! ### the reference: a list -/
def rnew (g : Int) : Rf := ⟨[], 0, 0, clamp g⟩
def rmove (r : Rf) (dx dy : Int) : Rf := if mayMove r.x r.y dx dy then ⟨r.L, r.x + dx, r.y + dy, r.gap⟩ else r
def rnear (r : Rf) : Bool := decide (0 < r.L.length) && nearS r.x r.y r.gap (r.L.getD (r.L.length - 1) ⟨0, 0, 0⟩)
def kept (L : List Smp) : List Smp := L.drop (if L.length < 64 then 0 else 1)
def radd (r : Rf) (z : Int) : Rf := if rnear r then r else ⟨kept r.L ++ [⟨r.x, r.y, z⟩], r.x, r.y, r.gap⟩
/-- the two are the same -/
def sim (p : Pr) (r : Rf) : Prop := r.L = all p ∧ r.x = p.x ∧ r.y = p.y ∧ r.gap = p.gap
theorem sim_new (g : Int) : sim (new g) (rnew g) := ⟨rfl, rfl, rfl, rfl⟩
theorem sim_move {p : Pr} {r : Rf} (h : sim p r) (dx dy : Int) : sim (move p dx dy) (rmove r dx dy) := by
  obtain ⟨h1, h2, h3, h4⟩ := h
  unfold move rmove
  rw [h2, h3]
  split
  · exact ⟨h1, rfl, rfl, h4⟩
  · exact ⟨h1, h2, h3, h4⟩
theorem sim_near {p : Pr} {r : Rf} (h : sim p r) : near p = rnear r := by
  obtain ⟨h1, h2, h3, h4⟩ := h
  unfold near rnear
  rw [h1, h2, h3, h4, all_len]
  by_cases hn : 0 < p.n
  · rw [List.getD_eq_getElem?_getD, last_all hn]
    rfl
  · simp [hn]
theorem sim_add {p : Pr} {r : Rf} (hk : ok p) (h : sim p r) (z : Int) : sim (add p z) (radd r z) := by
  have hnr := sim_near h
  obtain ⟨h1, h2, h3, h4⟩ := h
  unfold add radd
  rw [← hnr]
  split
  · exact ⟨h1, h2, h3, h4⟩
  · have hf := ok_freed hk
    have e : (freed p).x = p.x ∧ (freed p).y = p.y ∧ (freed p).gap = p.gap := by unfold freed; split <;> exact ⟨rfl, rfl, rfl⟩
    refine ⟨?_, ?_, ?_, ?_⟩
    · show kept r.L ++ [⟨r.x, r.y, z⟩] = all (put (freed p) z)
      rw [all_put hf.2, all_freed, e.1, e.2.1, h2, h3]
      congr 1
      unfold kept
      rw [h1, all_len]
      congr 1
      have := hk.2.1
      by_cases h64 : p.n = 64
      · simp [h64]
      · have : p.n < 64 := by omega
        simp [h64, this]
    · show r.x = (freed p).x; rw [e.1, h2]
    · show r.y = (freed p).y; rw [e.2.1, h3]
    · show r.gap = (freed p).gap; rw [e.2.2, h4]
end Go.Proofs.Ytpnafccedgjaeaa.Prof
