/-
  The squares of a field: the plain law.
-/
import Derived.Test.YtmiplljcnchjkaaSurA
namespace Go.Proofs.Ytmiplljcnchjkaa
open Go.RowKit
set_option linter.unusedVariables false
namespace Sur
/-- how many squares there are along so many columns -/
def sd (n : Nat) : Nat := (n + 7) / 8
/-- in which square a height lies -/
def blk (W i : Nat) : Nat := i / W / 8 * sd W + i % W / 8
def smT (W : Nat) (Z : List Int) (k : Nat) : Nat → Sm
  | 0 => ⟨0, 0, 0, 0⟩
  | t + 1 => if blk W t = k then (smT W Z k t).add (Z.getD t 0) else smT W Z k t
def allT (W m : Nat) (Z : List Int) (t : Nat) : List Sm := (List.range m).map fun k => smT W Z k t
theorem allT_len (W m : Nat) (Z : List Int) (t : Nat) : (allT W m Z t).length = m := by simp [allT]
theorem allT_get {W m k : Nat} {Z : List Int} {t : Nat} (hk : k < m) : (allT W m Z t)[k]? = some (smT W Z k t) := by simp [allT, hk]
theorem allT_step (W m : Nat) (Z : List Int) (t : Nat) : allT W m Z (t + 1) = (allT W m Z t).set (blk W t) ((smT W Z (blk W t) t).add (Z.getD t 0)) := by
  apply List.ext_getElem?
  intro k
  rw [List.getElem?_set]
  by_cases hk : k < m
  · rw [allT_get hk]
    by_cases e : blk W t = k
    · subst e
      rw [if_pos rfl, if_pos (by rw [allT_len]; exact hk)]
      show some (if blk W t = blk W t then _ else _) = _
      rw [if_pos rfl]
    · rw [if_neg e, allT_get hk]
      show some (if blk W t = k then _ else _) = _
      rw [if_neg e]
  · rw [List.getElem?_eq_none (by rw [allT_len]; omega), List.getElem?_eq_none (by rw [allT_len]; omega)]
    split
    · rw [if_neg (by rw [allT_len]; omega)]
    · rfl
def InZ (Z : List Int) : Prop := ∀ x ∈ Z, -32768 ≤ x ∧ x ≤ 32767
theorem InZ.get {Z : List Int} (h : InZ Z) (i : Nat) : -32768 ≤ Z.getD i 0 ∧ Z.getD i 0 ≤ 32767 := by
  rw [List.getD_eq_getElem?_getD]
  cases he : Z[i]? with
  | none => exact ⟨by decide, by decide⟩
  | some x => exact h x (List.mem_of_getElem? he)
theorem Sm.Small.mono {a : Sm} {k k' : Int} (h : a.Small k) (hk : k ≤ k') : a.Small k' := by
  obtain ⟨a1, a2, a3, a4, a5, a6, a7, a8⟩ := h
  exact ⟨a1, by omega, by omega, by omega, a5, by omega, a7, by omega⟩
theorem smT_small {W : Nat} {Z : List Int} (hz : InZ Z) (k : Nat) : ∀ t, (smT W Z k t).Small (t : Int)
  | 0 => by
    show (⟨0, 0, 0, 0⟩ : Sm).Small ((0 : Nat) : Int)
    exact ⟨by decide, by decide, by decide, by decide, by decide, by decide, by decide, by decide⟩
  | t + 1 => by
    have ih := smT_small (W := W) hz k t
    show (if blk W t = k then _ else _ : Sm).Small _
    split
    · have := ih.add (hz.get t).1 (hz.get t).2
      rw [Int.natCast_add]
      exact this
    · exact ih.mono (by omega)
theorem blk_lt {W H t : Nat} (hW : 0 < W) (ht : t < W * H) : blk W t < sd W * sd H := by
  unfold blk
  have h1 : t / W < H := Nat.div_lt_of_lt_mul ht
  have h2 : t % W < W := Nat.mod_lt _ hW
  have h3 : t / W / 8 < sd H := by unfold sd; omega
  have h4 : t % W / 8 < sd W := by unfold sd; omega
  have h5 : (t / W / 8 + 1) * sd W ≤ sd H * sd W := Nat.mul_le_mul_right _ h3
  rw [Nat.add_mul, Nat.one_mul] at h5
  rw [Nat.mul_comm (sd W)]
  omega
/-- the places of a square, row by row -/
def place (W H k i : Nat) : Option Nat := if 8 * (k % sd W) + i % 8 < W ∧ 8 * (k / sd W) + i / 8 < H then some ((8 * (k / sd W) + i / 8) * W + (8 * (k % sd W) + i % 8)) else none
def places (W H k : Nat) : List Nat := (List.range 64).filterMap (place W H k)
theorem sorted_eq : ∀ {l m : List Nat}, l.Pairwise (· < ·) → m.Pairwise (· < ·) → (∀ x, x ∈ l ↔ x ∈ m) → l = m
  | [], [], _, _, _ => rfl
  | [], b :: m, _, _, h => absurd ((h b).2 (by simp)) (by simp)
  | a :: l, [], _, _, h => absurd ((h a).1 (by simp)) (by simp)
  | a :: l, b :: m, h1, h2, h => by
    obtain ⟨h3, h4⟩ := List.pairwise_cons.1 h1
    obtain ⟨h5, h6⟩ := List.pairwise_cons.1 h2
    have e : a = b := by
      have ha := (h a).1 (by simp)
      have hb := (h b).2 (by simp)
      rcases List.mem_cons.1 ha with e | ha
      · exact e
      · rcases List.mem_cons.1 hb with e | hb
        · exact e.symm
        · have := h5 a ha
          have := h3 b hb
          omega
    subst e
    congr 1
    refine sorted_eq h4 h6 fun x => ⟨fun hx => ?_, fun hx => ?_⟩
    · rcases List.mem_cons.1 ((h x).1 (List.mem_cons_of_mem _ hx)) with e | h'
      · have := h3 x hx
        omega
      · exact h'
    · rcases List.mem_cons.1 ((h x).2 (List.mem_cons_of_mem _ hx)) with e | h'
      · have := h5 x hx
        omega
      · exact h'
theorem blk_iff {W k t : Nat} (hW : 0 < W) : blk W t = k ↔ t / W / 8 = k / sd W ∧ t % W / 8 = k % sd W := by
  have h2 : t % W < W := Nat.mod_lt _ hW
  have h4 : t % W / 8 < sd W := by unfold sd; omega
  unfold blk
  constructor
  · rintro rfl
    rw [Nat.mul_comm, Nat.mul_add_div (by omega), Nat.div_eq_of_lt h4, Nat.add_zero, Nat.mul_add_mod, Nat.mod_eq_of_lt h4]
    exact ⟨rfl, rfl⟩
  · rintro ⟨e1, e2⟩
    rw [e1, e2, Nat.mul_comm]
    exact Nat.div_add_mod k (sd W)
theorem place_lt {W H k i t : Nat} (h : place W H k i = some t) : 8 * (k % sd W) + i % 8 < W ∧ 8 * (k / sd W) + i / 8 < H ∧ t = (8 * (k / sd W) + i / 8) * W + (8 * (k % sd W) + i % 8) := by
  unfold place at h
  split at h
  · rename_i hc
    injection h with h
    exact ⟨hc.1, hc.2, h.symm⟩
  · cases h
theorem places_eq {W H k : Nat} (hW : 0 < W) : (List.range (W * H)).filter (fun t => blk W t == k) = places W H k := by
  refine sorted_eq (List.Pairwise.filter _ List.pairwise_lt_range) ?_ ?_
  · unfold places
    rw [List.pairwise_filterMap]
    refine List.Pairwise.imp ?_ List.pairwise_lt_range
    intro i j hij a ha b hb
    obtain ⟨a1, a2, rfl⟩ := place_lt ha
    obtain ⟨b1, b2, rfl⟩ := place_lt hb
    by_cases h : i / 8 = j / 8
    · rw [h]
      omega
    · have h1 : (8 * (k / sd W) + i / 8 + 1) * W ≤ (8 * (k / sd W) + j / 8) * W := Nat.mul_le_mul_right _ (by omega)
      rw [Nat.add_mul, Nat.one_mul] at h1
      omega
  · intro t
    rw [List.mem_filter, List.mem_range, beq_iff_eq, blk_iff hW]
    unfold places
    rw [List.mem_filterMap]
    constructor
    · rintro ⟨h1, h2, h3⟩
      have h4 : t / W < H := Nat.div_lt_of_lt_mul h1
      have h5 : t % W < W := Nat.mod_lt _ hW
      refine ⟨t / W % 8 * 8 + t % W % 8, List.mem_range.2 (by omega), ?_⟩
      have e1 : (t / W % 8 * 8 + t % W % 8) % 8 = t % W % 8 := by omega
      have e2 : (t / W % 8 * 8 + t % W % 8) / 8 = t / W % 8 := by omega
      unfold place
      rw [e1, e2, ← h2, ← h3]
      have e3 : 8 * (t % W / 8) + t % W % 8 = t % W := by omega
      have e4 : 8 * (t / W / 8) + t / W % 8 = t / W := by omega
      rw [e3, e4, if_pos ⟨h5, h4⟩, Nat.mul_comm, Nat.div_add_mod]
    · rintro ⟨i, hi, h⟩
      rw [List.mem_range] at hi
      obtain ⟨a1, a2, rfl⟩ := place_lt h
      have e1 : ((8 * (k / sd W) + i / 8) * W + (8 * (k % sd W) + i % 8)) / W = 8 * (k / sd W) + i / 8 := by
        rw [Nat.mul_comm, Nat.mul_add_div hW, Nat.div_eq_of_lt a1, Nat.add_zero]
      have e2 : ((8 * (k / sd W) + i / 8) * W + (8 * (k % sd W) + i % 8)) % W = 8 * (k % sd W) + i % 8 := by
        rw [Nat.mul_comm, Nat.mul_add_mod, Nat.mod_eq_of_lt a1]
      rw [e1, e2]
      refine ⟨?_, by omega, by omega⟩
      have h1 : (8 * (k / sd W) + i / 8 + 1) * W ≤ H * W := Nat.mul_le_mul_right _ a2
      rw [Nat.add_mul, Nat.one_mul] at h1
      rw [Nat.mul_comm W H]
      omega
theorem smT_fold (W : Nat) (Z : List Int) (k : Nat) : ∀ t, smT W Z k t = ((List.range t).filter (fun t => blk W t == k)).foldl (fun a i => a.add (Z.getD i 0)) ⟨0, 0, 0, 0⟩
  | 0 => rfl
  | t + 1 => by
    rw [List.range_succ, List.filter_append, List.foldl_append, ← smT_fold W Z k t]
    show (if blk W t = k then _ else _ : Sm) = _
    by_cases h : blk W t = k
    · rw [if_pos h, List.filter_cons_of_pos (by simpa using h)]
      rfl
    · rw [if_neg h, List.filter_cons_of_neg (by simpa using h)]
      rfl
theorem fold_small {Z : List Int} (hz : InZ Z) : ∀ (l : List Nat) (a : Sm) (k : Int), a.Small k → (l.foldl (fun a i => a.add (Z.getD i 0)) a).Small (k + (l.length : Int))
  | [], a, k, h => by simpa using h
  | i :: l, a, k, h => by
    have := fold_small hz l _ _ (h.add (hz.get i).1 (hz.get i).2)
    rw [List.foldl_cons, List.length_cons]
    exact this.mono (by omega)
theorem smT_places {W H : Nat} {Z : List Int} (hW : 0 < W) (k : Nat) : smT W Z k (W * H) = (places W H k).foldl (fun a i => a.add (Z.getD i 0)) ⟨0, 0, 0, 0⟩ := by
  rw [smT_fold, places_eq hW]
theorem smT_end {W H : Nat} {Z : List Int} (hW : 0 < W) (hz : InZ Z) (k : Nat) : (smT W Z k (W * H)).Small 64 := by
  rw [smT_places hW]
  have h := fold_small hz (places W H k) ⟨0, 0, 0, 0⟩ 0 ⟨by decide, by decide, by decide, by decide, by decide, by decide, by decide, by decide⟩
  refine h.mono ?_
  have : (places W H k).length ≤ 64 := by
    unfold places
    have := List.length_filterMap_le (place W H k) (List.range 64)
    rwa [List.length_range] at this
  omega
/-- the square of a place -/
def sqOf (W H : Nat) (Z : List Int) (k : Nat) : Sq := ⟨((k % sd W : Nat) : Int), ((k / sd W : Nat) : Int), roughZ (smT W Z k (W * H)), (smT W Z k (W * H)).n, (smT W Z k (W * H)).v⟩
def blocksL (W H : Nat) (Z : List Int) : List Sq := (List.range (sd W * sd H)).map (sqOf W H Z)
end Sur
end Go.Proofs.Ytmiplljcnchjkaa
