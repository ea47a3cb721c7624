/-
  Package route: what a good way of any numbers costs, and what the example's table is. Plain.
-/
import Derived.Test.YtgncngpgodfijaaRouC
namespace Go.Proofs.Ytgncngpgodfijaa
set_option linter.unusedVariables false
namespace Rou
def okZ (w h : Nat) (C : List Int) (a : Int) : Prop := 0 ≤ a ∧ a.toNat < w * h ∧ 0 ≤ cs C a.toNat
/-- numbers that are a way, or none at all -/
def goodL (w h : Nat) (C : List Int) : List Int → Prop
  | [] => True
  | [a] => okZ w h C a
  | a :: b :: t => okZ w h C a ∧ b.toNat ∈ besideL w h a.toNat ∧ goodL w h C (b :: t)
section
variable {w h : Nat} {C : List Int}
theorem cs_zero (a : Int) (L : List Int) : cs (a :: L) 0 = a := rfl
theorem cs_succ (a : Int) (L : List Int) (j : Nat) : cs (a :: L) (j + 1) = cs L j := rfl
theorem okAt_zero {a : Int} {L : List Int} : okAt w h C (a :: L) 0 = true ↔ okZ w h C a := by
  rw [okAt_iff, cs_zero]
  exact ⟨fun ⟨x, y, z, _⟩ => ⟨x, y, z⟩, fun ⟨x, y, z⟩ => ⟨x, y, z, .inl rfl⟩⟩
theorem okAt_one {a b : Int} {L : List Int} : okAt w h C (a :: b :: L) 1 = true ↔ okZ w h C b ∧ b.toNat ∈ besideL w h a.toNat := by
  rw [okAt_iff, cs_succ, cs_zero, Nat.sub_self, cs_zero]
  exact ⟨fun ⟨x, y, z, u⟩ => ⟨⟨x, y, z⟩, u.resolve_left (by omega)⟩, fun ⟨⟨x, y, z⟩, u⟩ => ⟨x, y, z, .inr u⟩⟩
theorem okAt_two {a : Int} {L : List Int} {j : Nat} : okAt w h C (a :: L) (j + 2) = true ↔ okAt w h C L (j + 1) = true := by
  rw [okAt_iff, okAt_iff, cs_succ]
  have e1 : cs (a :: L) (j + 2 - 1) = cs L (j + 1 - 1) := by rw [show j + 2 - 1 = j + 1 by omega, cs_succ]; rfl
  rw [e1]
  constructor
  · rintro ⟨x, y, z, u⟩
    exact ⟨x, y, z, .inr (u.resolve_left (by omega))⟩
  · rintro ⟨x, y, z, u⟩
    exact ⟨x, y, z, .inr (u.resolve_left (by omega))⟩
theorem good_iff : ∀ L : List Int, (∀ j, j < L.length → okAt w h C L j = true) ↔ goodL w h C L
  | [] => ⟨fun _ => trivial, fun _ j hj => by simp at hj⟩
  | [a] => ⟨fun H => okAt_zero.1 (H 0 (by simp)), fun H j hj => by
      obtain rfl : j = 0 := by simp at hj; omega
      exact okAt_zero.2 H⟩
  | a :: b :: t => by
    have ih := good_iff (b :: t)
    constructor
    · intro H
      refine ⟨okAt_zero.1 (H 0 (by simp)), (okAt_one.1 (H 1 (by simp))).2, ih.1 fun j hj => ?_⟩
      cases j with
      | zero => exact okAt_zero.2 (okAt_one.1 (H 1 (by simp))).1
      | succ j => exact okAt_two.1 (H (j + 2) (by simp at hj ⊢; omega))
    · rintro ⟨h1, h2, h3⟩ j hj
      have h4 := ih.2 h3
      cases j with
      | zero => exact okAt_zero.2 h1
      | succ j =>
        cases j with
        | zero => exact okAt_one.2 ⟨okAt_zero.1 (h4 0 (by simp)), h2⟩
        | succ j => exact okAt_two.2 (h4 (j + 1) (by simp at hj ⊢; omega))
theorem costZ_good {L : List Int} (H : goodL w h C L) : costZ w h C L = costN C (L.map Int.toNat) := by
  rw [costZ_all ((good_iff L).2 H)]
  unfold sumTo
  rw [List.take_length]
theorem costZ_not {L : List Int} (H : ¬ goodL w h C L) : costZ w h C L = -1 := by
  unfold costZ
  rw [if_neg]
  intro h1
  rw [List.all_eq_true] at h1
  exact H ((good_iff L).1 fun j hj => h1 j (List.mem_range.2 hj))
/-- a way, as numbers -/
def zs (P : List Nat) : List Int := P.map fun (x : Nat) => (x : Int)
theorem zs_back (P : List Nat) : (zs P).map Int.toNat = P := by
  unfold zs
  rw [List.map_map]
  exact (List.map_congr_left fun x _ => rfl).trans (List.map_id P)
theorem zs_len (P : List Nat) : (zs P).length = P.length := by simp [zs]
theorem way_good : ∀ {P : List Nat}, isWay w h C P → goodL w h C (zs P)
  | [], H => H.elim
  | [a], H => ⟨Int.natCast_nonneg a, H.1, H.2⟩
  | a :: b :: t, H => ⟨⟨Int.natCast_nonneg a, H.1.1, H.1.2⟩, H.2.1, way_good H.2.2⟩
theorem good_way : ∀ {P : List Nat}, P ≠ [] → goodL w h C (zs P) → isWay w h C P
  | [], h, _ => absurd rfl h
  | [a], _, H => ⟨H.2.1, H.2.2⟩
  | a :: b :: t, _, H => ⟨⟨H.1.2.1, H.1.2.2⟩, H.2.1, good_way (by simp) H.2.2⟩
theorem costV_way {P : List Nat} (Hk : Ok w h C) (H : isWay w h C P) : costV (w : Int) (h : Int) C (zs P) = costN C P := by
  unfold costV
  rw [if_neg]
  · show costZ w h C (zs P) = _
    rw [costZ_good (way_good H), zs_back]
  · rintro (h | h)
    · exact h (ok_code Hk)
    · cases P with
      | nil => exact H.elim
      | cons a t => cases h
theorem costV_pos {P : List Nat} (Hk : Ok w h C) (hp : P ≠ []) (H : 0 ≤ costV (w : Int) (h : Int) C (zs P)) : isWay w h C P := by
  unfold costV at H
  split at H
  · omega
  · by_cases hg : goodL w h C (zs P)
    · exact good_way hp hg
    · rw [show costZ ((w : Int).toNat) ((h : Int).toNat) C (zs P) = -1 from costZ_not hg] at H
      omega
end
theorem Sol.toFix {w h s : Nat} {C D K : List Int} {r : Nat → Nat} (S : Sol w h C s D K r) : Fix w h C s D := by
  refine ⟨S.lenD, fun i hi => ?_, fun l i hw hh hl => ?_⟩
  · rcases S.rng i hi with h1 | ⟨h1, _⟩
    · exact .inl h1
    · obtain ⟨l, a, b, c, _⟩ := S.some (r i) i (Nat.le_refl _) hi h1
      exact .inr ⟨h1, l, a, b, c⟩
  · obtain ⟨a, t, e⟩ : ∃ a t, l ++ [i] = a :: t := by cases l with
      | nil => exact ⟨i, [], rfl⟩
      | cons x y => exact ⟨x, y ++ [i], rfl⟩
    have hl : (a :: t).getLast (by simp) = i := by
      have : (l ++ [i]).getLast (by simp) = i := by simp
      rw [← this]
      congr 1
      exact e.symm
    have ha : a = s := by
      have : (l ++ [i]).head (by simp) = a := by simp only [e, List.head_cons]
      rw [← this, hh]
    rw [e] at hw ⊢
    have hca := (way_head hw).2
    rw [ha] at hca
    have hs := (S.st hca).1
    have := S.least t a hw (by rw [ha, hs]; exact Int.le_refl _)
    rw [hl, ha, hs] at this
    rw [ha]
    omega
/-- two searches find the same costs -/
theorem Sol.same {w h s : Nat} {C D K D' K' : List Int} {r r' : Nat → Nat} (S : Sol w h C s D K r) (S' : Sol w h C s D' K' r') : D = D' := S'.fix S.toFix

/-- the example -/
def C1 : List Int := [1, 9, 1, 1, 9, 1, 1, 1, 1]
def D1 : List Int := [0, 9, 6, 1, 10, 5, 2, 3, 4]
def K1 : List Int := [-1, 0, 5, 0, 3, 8, 3, 6, 7]
def r1 (i : Nat) : Nat := [0, 1, 6, 1, 2, 5, 2, 3, 4].getD i 0
theorem ok1 : Ok 3 3 C1 := ⟨by decide, by decide, by decide, by decide, by decide, by decide⟩
theorem sol1 : Sol 3 3 C1 0 D1 K1 r1 := by
  refine ⟨by decide, by decide, by decide, by decide, by decide, by decide, by decide, ?_⟩
  intro i hi hd
  have : i = 0 ∨ i = 1 ∨ i = 2 ∨ i = 3 ∨ i = 4 ∨ i = 5 ∨ i = 6 ∨ i = 7 ∨ i = 8 := by omega
  refine ⟨by rcases this with rfl | rfl | rfl | rfl | rfl | rfl | rfl | rfl | rfl <;> decide, fun h0 => ?_⟩
  rcases this with rfl | rfl | rfl | rfl | rfl | rfl | rfl | rfl | rfl
  · exact absurd rfl h0
  · exact ⟨0, by decide⟩
  · exact ⟨5, by decide⟩
  · exact ⟨0, by decide⟩
  · exact ⟨3, by decide⟩
  · exact ⟨8, by decide⟩
  · exact ⟨3, by decide⟩
  · exact ⟨6, by decide⟩
  · exact ⟨7, by decide⟩
theorem ex_cs (b : Nat) (h0 : 0 ≤ cs C1 b) : cs C1 b = 1 ∨ cs C1 b = 9 := by
  have hb := cs_in h0
  have hb : b < 9 := hb
  have : b = 0 ∨ b = 1 ∨ b = 2 ∨ b = 3 ∨ b = 4 ∨ b = 5 ∨ b = 6 ∨ b = 7 ∨ b = 8 := by omega
  rcases this with rfl | rfl | rfl | rfl | rfl | rfl | rfl | rfl | rfl <;> decide
theorem ex_len : ∀ (P : List Nat), isWay 3 3 C1 P → costN C1 P < 9 → costN C1 P = (P.length : Int) - 1
  | [], H, _ => H.elim
  | [a], _, _ => by simp [costN]
  | a :: b :: t, H, hc => by
    have hp := cost_pos H.2.2
    have h1 := ex_cs b (way_head H.2.2).2
    simp only [costN] at hc ⊢
    have ih := ex_len (b :: t) H.2.2 (by omega)
    rw [ih]
    simp only [List.length_cons]
    simp only [List.length_cons] at ih
    omega
end Rou
end Go.Proofs.Ytgncngpgodfijaa
