/-
  Tasks laid into slots: the plain law. No program in sight.
-/
namespace Go.Proofs.Ytgncngpgodfijaa.Sch

structure Tk where
  p : Nat
  c : Nat
/-- periods are powers of two, up to 64 -/
def pw (p : Nat) : Prop := p = 1 ∨ p = 2 ∨ p = 4 ∨ p = 8 ∨ p = 16 ∨ p = 32 ∨ p = 64
theorem pw.pos {p : Nat} (h : pw p) : 1 ≤ p ∧ p ≤ 64 := by unfold pw at h; omega
theorem pw.dvd {p : Nat} (h : pw p) : ∃ q, 64 = q * p := by
  rcases h with rfl | rfl | rfl | rfl | rfl | rfl | rfl
  · exact ⟨64, rfl⟩
  · exact ⟨32, rfl⟩
  · exact ⟨16, rfl⟩
  · exact ⟨8, rfl⟩
  · exact ⟨4, rfl⟩
  · exact ⟨2, rfl⟩
  · exact ⟨1, rfl⟩
theorem pw.mod {p : Nat} (h : pw p) (a : Nat) : a % 64 % p = a % p := by
  obtain ⟨q, hq⟩ := h.dvd
  rw [hq, Nat.mul_comm]
  exact Nat.mod_mul_right_mod a p q

/-- how full a slot is, of the first tasks, whose phases are told -/
def load : List Tk → List Nat → Nat → Nat
  | t :: ts, k :: ks, a => (if a % t.p = k then t.c else 0) + load ts ks a
  | _, _, _ => 0
theorem load_nil_left (ks : List Nat) (a : Nat) : load [] ks a = 0 := by cases ks <;> rfl
theorem load_nil_right (ts : List Tk) (a : Nat) : load ts [] a = 0 := by cases ts <;> rfl
theorem load_snoc : ∀ (ts : List Tk) (ks : List Nat) (t : Tk) (k a : Nat), ks.length = ts.length → load (ts ++ [t]) (ks ++ [k]) a = load ts ks a + (if a % t.p = k then t.c else 0)
  | [], [], t, k, a, _ => by simp [load]
  | [], _ :: _, _, _, _, h => by cases h
  | _ :: _, [], _, _, _, h => by cases h
  | t' :: ts, k' :: ks, t, k, a, h => by
    simp only [List.cons_append, load]
    rw [load_snoc ts ks t k a (by simpa using h)]
    omega
/-- of more tasks than there are phases those ahead alone count -/
theorem load_take : ∀ (ts us : List Tk) (ks : List Nat) (a : Nat), ks.length = ts.length → load (ts ++ us) ks a = load ts ks a
  | [], us, [], a, _ => by rw [load_nil_right]; rfl
  | [], _, _ :: _, _, h => by cases h
  | _ :: _, _, [], _, h => by cases h
  | t :: ts, us, k :: ks, a, h => by
    simp only [List.cons_append, load]
    rw [load_take ts us ks a (by simpa using h)]
/-- a task has room, by a phase -/
def fits (ts : List Tk) (ks : List Nat) (t : Tk) (room k : Nat) : Bool := (List.range 64).all fun a => !(a % t.p == k) || decide (load ts ks a + t.c ≤ room)
theorem fits_iff {ts : List Tk} {ks : List Nat} {t : Tk} {room k : Nat} : fits ts ks t room k = true ↔ ∀ a, a < 64 → a % t.p = k → load ts ks a + t.c ≤ room := by
  unfold fits
  rw [List.all_eq_true]
  constructor
  · intro h a ha hk
    have := h a (List.mem_range.2 ha)
    simpa [hk] using this
  · intro h a ha
    have ha := List.mem_range.1 ha
    by_cases hk : a % t.p = k
    · simp [hk, h a ha hk]
    · simp [hk]
/-- the first phase from one on in which a task has room; so many are left to ask -/
def search (f : Nat → Bool) : Nat → Nat → Nat
  | 0, k => k
  | n + 1, k => if f k then k else search f n (k + 1)
def first (f : Nat → Bool) (p : Nat) : Nat := search f p 0
theorem search_spec (f : Nat → Bool) : ∀ (n k : Nat), k ≤ search f n k ∧ search f n k ≤ k + n ∧ (search f n k < k + n → f (search f n k) = true) ∧ ∀ j, k ≤ j → j < search f n k → f j = false
  | 0, k => ⟨Nat.le_refl _, Nat.le_refl _, fun h => absurd h (Nat.lt_irrefl _), fun j h1 h2 => by simp only [search] at h2; omega⟩
  | n + 1, k => by
    unfold search
    by_cases hf : f k = true
    · rw [if_pos hf]
      exact ⟨Nat.le_refl _, by omega, fun _ => hf, fun j h1 h2 => by omega⟩
    · rw [if_neg hf]
      obtain ⟨h1, h2, h3, h4⟩ := search_spec f n (k + 1)
      refine ⟨by omega, by omega, fun h => h3 (by omega), fun j hj1 hj2 => ?_⟩
      by_cases e : j = k
      · subst e; simpa using hf
      · exact h4 j (by omega) hj2
theorem first_spec (f : Nat → Bool) (p : Nat) : first f p ≤ p ∧ (first f p < p → f (first f p) = true) ∧ ∀ j, j < first f p → f j = false := by
  obtain ⟨_, h2, h3, h4⟩ := search_spec f p 0
  exact ⟨by unfold first; omega, fun h => h3 (by unfold first at h; omega), fun j hj => h4 j (Nat.zero_le _) hj⟩
/-- the phases of tasks, behind those that are laid -/
def lay (room : Nat) : List Tk → List Nat → List Tk → Option (List Nat)
  | _, ks, [] => some ks
  | ts, ks, t :: us => if first (fits ts ks t room) t.p < t.p then lay room (ts ++ [t]) (ks ++ [first (fits ts ks t room) t.p]) us else none
def phases (l : List Tk) (room : Nat) : Option (List Nat) := lay room [] [] l
/-- what is laid -/
structure Laid (room : Nat) (ts : List Tk) (ks : List Nat) : Prop where
  len : ks.length = ts.length
  ph : ∀ i (h : i < ts.length) (h' : i < ks.length), ks[i] < ts[i].p
  le : ∀ a, a < 64 → load ts ks a ≤ room
theorem Laid.nil (room : Nat) : Laid room [] [] := ⟨rfl, (fun i h => by cases h), (fun a _ => by simp [load])⟩
theorem Laid.snoc {room : Nat} {ts : List Tk} {ks : List Nat} {t : Tk} {k : Nat} (h : Laid room ts ks) (hk : k < t.p) (hf : fits ts ks t room k = true) : Laid room (ts ++ [t]) (ks ++ [k]) := by
  have hl := h.len
  refine ⟨by simp [hl], fun i h1 h2 => ?_, fun a ha => ?_⟩
  · by_cases hi : i < ts.length
    · rw [List.getElem_append_left hi, List.getElem_append_left (by omega)]
      exact h.ph i hi (by omega)
    · have e : i = ts.length := by simp at h1; omega
      subst e
      rw [List.getElem_append_right (by omega), List.getElem_append_right (by omega)]
      simpa [hl] using hk
  · rw [load_snoc _ _ _ _ _ hl]
    split
    · rename_i e
      exact fits_iff.1 hf a ha e
    · have := h.le a ha
      omega
theorem lay_laid (room : Nat) : ∀ (us ts : List Tk) (ks : List Nat), Laid room ts ks → ∀ ms, lay room ts ks us = some ms → Laid room (ts ++ us) ms
  | [], ts, ks, h, ms, hm => by
    simp only [lay, Option.some.injEq] at hm
    subst hm
    simpa using h
  | t :: us, ts, ks, h, ms, hm => by
    simp only [lay] at hm
    split at hm
    · rename_i hlt
      have := lay_laid room us (ts ++ [t]) _ (h.snoc hlt ((first_spec _ _).2.1 hlt)) ms hm
      simpa using this
    · cases hm
theorem phases_laid {l : List Tk} {room : Nat} {ms : List Nat} (h : phases l room = some ms) : Laid room l ms := by
  simpa using lay_laid room l [] [] (Laid.nil room) ms h
end Go.Proofs.Ytgncngpgodfijaa.Sch
