/-
  Package route: a list reversed in place, swap by swap, as a plain law.
-/
import Derived.Test.YtgncngpgodfijaaRouP
namespace Go.Proofs.Ytgncngpgodfijaa
set_option linter.unusedVariables false
namespace Rou
/-- after k swaps -/
def mix (L : List Nat) (k : Nat) : List Nat := (List.range L.length).map fun i => if i < k ∨ L.length - k ≤ i then L.getD (L.length - 1 - i) 0 else L.getD i 0
theorem mix_len (L : List Nat) (k : Nat) : (mix L k).length = L.length := by simp [mix]
theorem mix_get (L : List Nat) (k i : Nat) (h : i < (mix L k).length) : (mix L k)[i] = if i < k ∨ L.length - k ≤ i then L.getD (L.length - 1 - i) 0 else L.getD i 0 := by simp [mix]
theorem getD_lt (L : List Nat) {i : Nat} (h : i < L.length) : L.getD i 0 = L[i] := by rw [List.getD_eq_getElem?_getD, List.getElem?_eq_getElem h]; rfl
theorem mix_0 (L : List Nat) : mix L 0 = L := by
  refine List.ext_getElem (mix_len _ _) fun i h1 h2 => ?_
  rw [mix_get, if_neg (by omega), getD_lt _ h2]
theorem mix_end (L : List Nat) {k : Nat} (h : L.length ≤ 2 * k + 1) : mix L k = L.reverse := by
  refine List.ext_getElem (by rw [mix_len, List.length_reverse]) fun i h1 h2 => ?_
  rw [mix_len] at h1
  rw [mix_get, List.getElem_reverse]
  split
  · exact getD_lt _ (by omega)
  · rename_i hn
    have e : L.length - 1 - i = i := by omega
    rw [getD_lt _ h1]
    simp only [e]
theorem mix_step (L : List Nat) {k : Nat} (h : 2 * k + 1 < L.length) : ((mix L k).set k ((mix L k).getD (L.length - 1 - k) 0)).set (L.length - 1 - k) ((mix L k).getD k 0) = mix L (k + 1) := by
  refine List.ext_getElem (by simp [mix_len]) fun i h1 h2 => ?_
  have hl : i < L.length := by rw [mix_len] at h2; exact h2
  rw [List.getElem_set, List.getElem_set, mix_get, mix_get, getD_lt _ (by rw [mix_len]; omega), getD_lt _ (by rw [mix_len]; omega), mix_get, mix_get]
  by_cases e1 : L.length - 1 - k = i
  · rw [if_pos e1, if_neg (by omega), if_pos (by omega)]
    have : L.length - 1 - i = k := by omega
    rw [this]
  · rw [if_neg e1]
    by_cases e2 : k = i
    · subst e2
      rw [if_pos rfl, if_neg (by omega), if_pos (by omega)]
    · rw [if_neg e2]
      by_cases e3 : i < k ∨ L.length - k ≤ i
      · rw [if_pos e3, if_pos (by omega)]
      · rw [if_neg e3, if_neg (by omega)]
end Rou
end Go.Proofs.Ytgncngpgodfijaa
