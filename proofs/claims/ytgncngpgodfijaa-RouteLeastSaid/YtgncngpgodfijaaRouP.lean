/-
  The plain law of package route: fields of squares, what is beside a square, ways and what they cost, and what a table of least costs is. No program in sight.
-/
import Derived.Test.YtgncngpgodfijaaShape
namespace Go.Proofs.Ytgncngpgodfijaa
set_option linter.unusedVariables false
namespace Rou

/-- a field that may be -/
structure Ok (w h : Nat) (C : List Int) : Prop where
  w1 : 1 ≤ w
  w2 : w ≤ 64
  h1 : 1 ≤ h
  h2 : h ≤ 64
  len : C.length = w * h
  bnd : ∀ c ∈ C, -1 ≤ c ∧ c ≤ 1073741824
/-- what it costs to come to a square -/
def cs (C : List Int) (i : Nat) : Int := C.getD i (-1)
theorem cs_bnd {w h : Nat} {C : List Int} (H : Ok w h C) (i : Nat) : -1 ≤ cs C i ∧ cs C i ≤ 1073741824 := by
  unfold cs
  rw [List.getD_eq_getElem?_getD]
  by_cases hi : i < C.length
  · rw [List.getElem?_eq_getElem hi]; exact H.bnd _ (List.getElem_mem hi)
  · rw [List.getElem?_eq_none (by omega)]; decide
theorem cs_in {C : List Int} {i : Nat} (h : 0 ≤ cs C i) : i < C.length := by
  rcases Nat.lt_or_ge i C.length with h' | h'
  · exact h'
  · unfold cs at h
    rw [List.getD_eq_getElem?_getD, List.getElem?_eq_none h'] at h
    simp at h
theorem Ok.big {w h : Nat} {C : List Int} (H : Ok w h C) : 1 ≤ w * h ∧ w * h ≤ 4096 := by
  refine ⟨Nat.mul_pos H.w1 H.h1, ?_⟩
  have := Nat.mul_le_mul H.w2 H.h2
  omega
/-- the squares beside one -/
def besideL (w h a : Nat) : List Nat := (if 0 < a / w then [a - w] else []) ++ (if 0 < a % w then [a - 1] else []) ++ (if a % w + 1 < w then [a + 1] else []) ++ (if a / w + 1 < h then [a + w] else [])
theorem mem_beside {w h a b : Nat} : b ∈ besideL w h a ↔ (0 < a / w ∧ b = a - w) ∨ (0 < a % w ∧ b = a - 1) ∨ (a % w + 1 < w ∧ b = a + 1) ∨ (a / w + 1 < h ∧ b = a + w) := by
  unfold besideL
  simp only [List.mem_append]
  constructor
  · rintro (((h1 | h1) | h1) | h1)
    all_goals
      split at h1
      · rename_i hc
        have := List.mem_singleton.1 h1
        first
          | exact .inl ⟨hc, this⟩
          | exact .inr (.inl ⟨hc, this⟩)
          | exact .inr (.inr (.inl ⟨hc, this⟩))
          | exact .inr (.inr (.inr ⟨hc, this⟩))
      · cases h1
  · rintro (⟨hc, rfl⟩ | ⟨hc, rfl⟩ | ⟨hc, rfl⟩ | ⟨hc, rfl⟩)
    · exact .inl (.inl (.inl (by rw [if_pos hc]; exact List.mem_singleton.2 rfl)))
    · exact .inl (.inl (.inr (by rw [if_pos hc]; exact List.mem_singleton.2 rfl)))
    · exact .inl (.inr (by rw [if_pos hc]; exact List.mem_singleton.2 rfl))
    · exact .inr (by rw [if_pos hc]; exact List.mem_singleton.2 rfl)
theorem beside_len (w h a : Nat) : (besideL w h a).length ≤ 4 := by
  unfold besideL
  simp only [List.length_append]
  have h1 : ∀ (p : Prop) [Decidable p] (x : Nat), (if p then [x] else []).length ≤ 1 := fun p _ x => by split <;> simp
  have a1 := h1 (0 < a / w) (a - w)
  have a2 := h1 (0 < a % w) (a - 1)
  have a3 := h1 (a % w + 1 < w) (a + 1)
  have a4 := h1 (a / w + 1 < h) (a + w)
  omega
theorem dm (w a : Nat) : a = w * (a / w) + a % w := (Nat.div_add_mod a w).symm
theorem beside_lt {w h a b : Nat} (hw : 0 < w) (ha : a < w * h) (hb : b ∈ besideL w h a) : b < w * h := by
  have e := dm w a
  have hm := Nat.mod_lt a hw
  have hq : a / w < h := Nat.div_lt_of_lt_mul ha
  rcases mem_beside.1 hb with ⟨hc, rfl⟩ | ⟨hc, rfl⟩ | ⟨hc, rfl⟩ | ⟨hc, rfl⟩
  · omega
  · omega
  · have : w * (a / w + 1) ≤ w * h := Nat.mul_le_mul_left w (by omega)
    rw [Nat.mul_add] at this
    omega
  · have : w * (a / w + 2) ≤ w * h := Nat.mul_le_mul_left w (by omega)
    rw [Nat.mul_add] at this
    omega

/-- a way -/
def isWay (w h : Nat) (C : List Int) : List Nat → Prop
  | [] => False
  | [a] => a < w * h ∧ 0 ≤ cs C a
  | a :: b :: t => (a < w * h ∧ 0 ≤ cs C a) ∧ b ∈ besideL w h a ∧ isWay w h C (b :: t)
/-- what a way costs -/
def costN (C : List Int) : List Nat → Int
  | [] => 0
  | [_] => 0
  | _ :: b :: t => cs C b + costN C (b :: t)
section
variable {w h : Nat} {C : List Int}
theorem way_head {a : Nat} {t : List Nat} (H : isWay w h C (a :: t)) : a < w * h ∧ 0 ≤ cs C a := by
  cases t with
  | nil => exact H
  | cons b t => exact H.1
theorem way_snoc : ∀ {l : List Nat} {j i : Nat}, isWay w h C (l ++ [j]) → i ∈ besideL w h j → i < w * h → 0 ≤ cs C i → isWay w h C (l ++ [j] ++ [i]) ∧ costN C (l ++ [j] ++ [i]) = costN C (l ++ [j]) + cs C i
  | [], j, i, H, hb, hi, hc => ⟨⟨H, hb, hi, hc⟩, by simp [costN]⟩
  | [a], j, i, H, hb, hi, hc => by
    obtain ⟨h1, h2, h3⟩ := H
    exact ⟨⟨h1, h2, h3, hb, hi, hc⟩, by simp [costN]⟩
  | a :: b :: l, j, i, H, hb, hi, hc => by
    obtain ⟨h1, h2, h3⟩ := H
    have ih := way_snoc (l := b :: l) (j := j) (i := i) h3 hb hi hc
    refine ⟨⟨h1, h2, ih.1⟩, ?_⟩
    have e := ih.2
    simp only [List.cons_append, costN] at e ⊢
    omega
theorem cost_pos : ∀ {l : List Nat}, isWay w h C l → 0 ≤ costN C l
  | [], H => H.elim
  | [a], H => by simp [costN]
  | a :: b :: t, H => by
    have h1 := cost_pos H.2.2
    have h2 := way_head H.2.2
    simp only [costN]
    omega
end
def dd (D : List Int) (i : Nat) : Int := D.getD i (-1)
/-- a table of least costs, and from where each square is come to: 'r' tells in which order they were come to -/
structure Sol (w h : Nat) (C : List Int) (s : Nat) (D K : List Int) (r : Nat → Nat) : Prop where
  lenD : D.length = w * h
  lenK : K.length = w * h
  rng : ∀ i, i < w * h → dd D i = -1 ∨ (0 ≤ dd D i ∧ dd D i ≤ 4398046511104)
  st : 0 ≤ cs C s → dd D s = 0 ∧ dd K s = -1
  wall : cs C s < 0 → ∀ i, i < w * h → dd D i = -1
  closed : ∀ i, i < w * h → 0 ≤ dd D i → ∀ k ∈ besideL w h i, 0 ≤ cs C k → 0 ≤ dd D k ∧ dd D k ≤ dd D i + cs C k
  rk : ∀ i, i < w * h → 0 ≤ dd D i → r i < w * h
  tree : ∀ i, i < w * h → 0 ≤ dd D i → 0 ≤ cs C i ∧ (i ≠ s → ∃ j : Nat, j < w * h ∧ dd K i = (j : Int) ∧ i ∈ besideL w h j ∧ 0 ≤ dd D j ∧ dd D i = dd D j + cs C i ∧ r j < r i)
section
variable {w h s : Nat} {C D K : List Int} {r : Nat → Nat}
/-- no way costs less than is told -/
theorem Sol.least (S : Sol w h C s D K r) : ∀ (t : List Nat) (a : Nat), isWay w h C (a :: t) → 0 ≤ dd D a → 0 ≤ dd D ((a :: t).getLast (by simp)) ∧ dd D ((a :: t).getLast (by simp)) ≤ dd D a + costN C (a :: t)
  | [], a, H, ha => by simp [costN]; exact ha
  | b :: t, a, H, ha => by
    obtain ⟨h1, h2, h3⟩ := H
    obtain ⟨c1, c2⟩ := S.closed a h1.1 ha b h2 (way_head h3).2
    obtain ⟨d1, d2⟩ := S.least t b h3 c1
    rw [List.getLast_cons (by simp)]
    refine ⟨d1, ?_⟩
    simp only [costN]
    omega
/-- what is told, a way costs -/
theorem Sol.some (S : Sol w h C s D K r) : ∀ (n i : Nat), r i ≤ n → i < w * h → 0 ≤ dd D i → ∃ l : List Nat, isWay w h C (l ++ [i]) ∧ (l ++ [i]).head (by simp) = s ∧ costN C (l ++ [i]) = dd D i ∧ l.length ≤ r i
  | n, i, hn, hi, hd => by
    obtain ⟨t1, t2⟩ := S.tree i hi hd
    by_cases his : i = s
    · subst his
      exact ⟨[], ⟨hi, t1⟩, rfl, by rw [(S.st t1).1]; rfl, Nat.zero_le _⟩
    · obtain ⟨j, hj, hk, hb, hdj, e, hr⟩ := t2 his
      cases n with
      | zero => omega
      | succ n =>
        obtain ⟨l, w1, w2, w3, w4⟩ := S.some n j (by omega) hj hdj
        obtain ⟨x1, x2⟩ := way_snoc w1 hb hi t1
        refine ⟨l ++ [j], x1, ?_, by rw [x2, w3, e], by simp; omega⟩
        have : ∀ (x : List Nat) (hx : x ≠ []) (y : Nat), (x ++ [y]).head (by simp) = x.head hx := fun x hx y => List.head_append_of_ne_nil hx
        rw [this _ (by simp), w2]
end
/-- a table that tells of all ways up to so many squares: each cost is that of a way, and none of these ways costs less -/
structure Fix (w h : Nat) (C : List Int) (s : Nat) (E : List Int) : Prop where
  len : E.length = w * h
  sound : ∀ i, i < w * h → dd E i = -1 ∨ (0 ≤ dd E i ∧ ∃ l : List Nat, isWay w h C (l ++ [i]) ∧ (l ++ [i]).head (by simp) = s ∧ costN C (l ++ [i]) = dd E i)
  least : ∀ (l : List Nat) (i : Nat), isWay w h C (l ++ [i]) → (l ++ [i]).head (by simp) = s → l.length < w * h → 0 ≤ dd E i ∧ dd E i ≤ costN C (l ++ [i])
theorem Sol.fix {w h s : Nat} {C D K E : List Int} {r : Nat → Nat} (S : Sol w h C s D K r) (F : Fix w h C s E) : E = D := by
  have key : ∀ i, i < w * h → dd E i = dd D i := by
    intro i hi
    have up : 0 ≤ dd D i → 0 ≤ dd E i ∧ dd E i ≤ dd D i := fun hd => by
      obtain ⟨l, w1, w2, w3, w4⟩ := S.some (r i) i (Nat.le_refl _) hi hd
      have := F.least l i w1 w2 (by have := S.rk i hi hd; omega)
      rw [w3] at this
      exact this
    have dn : 0 ≤ dd E i → 0 ≤ dd D i ∧ dd D i ≤ dd E i := fun he => by
      rcases F.sound i hi with h1 | ⟨_, l, w1, w2, w3⟩
      · omega
      · obtain ⟨a, t, e⟩ : ∃ a t, l ++ [i] = a :: t := by cases l with
          | nil => exact ⟨i, [], rfl⟩
          | cons x y => exact ⟨x, y ++ [i], rfl⟩
        have hl : (a :: t).getLast (by simp) = i := by
          have : (l ++ [i]).getLast (by simp) = i := by simp
          rw [← this]
          congr 1
          exact e.symm
        have ha : a = s := by
          have : (l ++ [i]).head (by simp) = a := by simp only [e, List.head_cons]
          rw [← this, w2]
        rw [e] at w1 w3
        have hca := (way_head w1).2
        rw [ha] at hca
        have hs := (S.st hca).1
        have := S.least t a w1 (by rw [ha, hs]; exact Int.le_refl _)
        rw [hl, ha, hs] at this
        rw [ha] at w3
        rw [w3] at this
        omega
    rcases S.rng i hi with h1 | ⟨h1, _⟩
    · rcases F.sound i hi with h2 | ⟨h2, _⟩
      · rw [h1, h2]
      · have := dn h2; omega
    · have a1 := up h1
      have a2 := dn a1.1
      omega
  refine List.ext_getElem (by rw [F.len, S.lenD]) fun i h1 h2 => ?_
  have := key i (by rw [← F.len]; exact h1)
  unfold dd at this
  rw [List.getD_eq_getElem?_getD, List.getD_eq_getElem?_getD, List.getElem?_eq_getElem h1, List.getElem?_eq_getElem h2] at this
  exact this
end Rou
end Go.Proofs.Ytgncngpgodfijaa
