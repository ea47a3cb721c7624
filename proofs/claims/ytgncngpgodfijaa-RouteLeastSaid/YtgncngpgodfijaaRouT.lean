/-
  Package route: the way back that Find takes, as a plain law.
-/
import Derived.Test.YtgncngpgodfijaaRouP
namespace Go.Proofs.Ytgncngpgodfijaa
set_option linter.unusedVariables false
namespace Rou
/-- the way back from t: P is what was walked (t first), x is what comes next (-1: nothing) -/
def Back (w h : Nat) (C : List Int) (s : Nat) (D K : List Int) (r : Nat → Nat) (t : Nat) (P : List Nat) (x : Int) : Prop :=
  (∃ j : Nat, x = (j : Int) ∧ j < w * h ∧ 0 ≤ dd D j ∧ isWay w h C (j :: P.reverse) ∧ (j :: P.reverse).getLast? = some t ∧ dd D j + costN C (j :: P.reverse) = dd D t ∧ P.length + r j ≤ r t) ∨
  (x = -1 ∧ P ≠ [] ∧ isWay w h C P.reverse ∧ P.reverse.head? = some s ∧ P.reverse.getLast? = some t ∧ costN C P.reverse = dd D t ∧ P.length ≤ r t + 1)
section
variable {w h s : Nat} {C D K : List Int} {r : Nat → Nat} {t : Nat}
theorem back_start (S : Sol w h C s D K r) (ht : t < w * h) (hd : 0 ≤ dd D t) : Back w h C s D K r t [] (t : Int) :=
  .inl ⟨t, rfl, ht, hd, ⟨ht, (S.tree t ht hd).1⟩, rfl, by simp [costN], by simp⟩
theorem back_step (S : Sol w h C s D K r) {P : List Nat} {j : Nat} (B : Back w h C s D K r t P (j : Int)) : Back w h C s D K r t (P ++ [j]) (dd K j) := by
  rcases B with ⟨i, e, h1, h2, h3, h4, h5, h6⟩ | ⟨e, _⟩
  · obtain rfl : i = j := by omega
    obtain ⟨t1, t2⟩ := S.tree i h1 h2
    have er : (P ++ [i]).reverse = i :: P.reverse := by simp
    by_cases his : i = s
    · subst his
      obtain ⟨d0, k0⟩ := S.st t1
      refine .inr ⟨k0, by simp, by rw [er]; exact h3, by rw [er]; rfl, by rw [er]; exact h4, by rw [er]; omega, by simp; omega⟩
    · obtain ⟨j, hj, hk, hb, hdj, ed, hr⟩ := t2 his
      have tj := (S.tree j hj hdj).1
      refine .inl ⟨j, hk, hj, hdj, by rw [er]; exact ⟨⟨hj, tj⟩, hb, h3⟩, by rw [er, List.getLast?_cons_cons]; exact h4, ?_, by simp; omega⟩
      rw [er]
      show dd D j + (cs C i + costN C (i :: P.reverse)) = dd D t
      omega
  · omega
theorem back_rng (S : Sol w h C s D K r) {P : List Nat} {x : Int} (B : Back w h C s D K r t P x) (ht : t < w * h) (hd : 0 ≤ dd D t) : (x = -1 ∨ ∃ j : Nat, x = (j : Int) ∧ j < w * h) ∧ P.length ≤ w * h := by
  have hr := S.rk t ht hd
  rcases B with ⟨i, e, h1, h2, h3, h4, h5, h6⟩ | ⟨e, _, _, _, _, _, h6⟩
  · exact ⟨.inr ⟨i, e, h1⟩, by omega⟩
  · exact ⟨.inl e, by omega⟩
/-- what stands at the end -/
theorem back_end {P : List Nat} (B : Back w h C s D K r t P (-1)) : isWay w h C P.reverse ∧ P.reverse.head? = some s ∧ P.reverse.getLast? = some t ∧ costN C P.reverse = dd D t ∧ P.length ≤ r t + 1 := by
  rcases B with ⟨i, e, _⟩ | ⟨e, h0, h⟩
  · omega
  · exact h
end
end Rou
end Go.Proofs.Ytgncngpgodfijaa
