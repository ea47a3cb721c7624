/-
  Numbers of 129 bits and a sign, as the reference keeps them: the plain law. No program in sight.
-/
import Derived.Test.YtmiplljcnchjkaaRow
import Derived.Deep.MidRow
namespace Go.Proofs.Ytmiplljcnchjkaa
open Go.RowKit
set_option linter.unusedVariables false
namespace Num

def bitN (X i : Nat) : Nat := X / 2 ^ i % 2
theorem bitN_lt (X i : Nat) : bitN X i < 2 := Nat.mod_lt _ (by decide)
theorem bitN_mod (Z i j : Nat) : bitN (Z % 2 ^ i) j = if j < i then bitN Z j else 0 := by
  unfold bitN
  rw [← Nat.toNat_testBit, Nat.testBit_mod_two_pow, ← Nat.toNat_testBit]
  by_cases h : j < i
  · simp [h]
  · simp [h]
/-- the bits of a number, the lowest first -/
def bt (X : Nat) : List Value := (List.range 129).map fun i => .int .i64 (bitN X i : Int)
theorem bt_len (X : Nat) : (bt X).length = 129 := by simp [bt]
theorem bt_at (X i : Nat) (h : i < 129) : (bt X)[i]? = some (.int .i64 (bitN X i : Int)) := by simp [bt, h]
theorem bt_one (X : Nat) : ∀ u ∈ bt X, u.oneCell' = true := by
  intro u hu
  obtain ⟨c, _, rfl⟩ := List.mem_map.1 hu
  rfl
theorem bt_set (Z Z' i v : Nat) (hi : i < 129) (h : ∀ j, j < 129 → bitN Z' j = if j = i then v else bitN Z j) : (bt Z).set i (.int .i64 (v : Int)) = bt Z' := by
  apply List.ext_getElem?
  intro j
  rw [List.getElem?_set]
  by_cases hj : j < 129
  · rw [bt_at Z' j hj, h j hj]
    by_cases e : i = j
    · subst e
      rw [if_pos rfl, if_pos (by rw [bt_len]; exact hi), if_pos rfl]
    · rw [if_neg e, if_neg (Ne.symm e), bt_at Z j hj]
  · rw [List.getElem?_eq_none (by rw [bt_len]; omega), List.getElem?_eq_none (by rw [bt_len]; omega)]
    split
    · rw [if_neg (by rw [bt_len]; omega)]
    · rfl
theorem bt_step (Z i : Nat) (hi : i < 129) : (bt (Z % 2 ^ i)).set i (.int .i64 (bitN Z i : Int)) = bt (Z % 2 ^ (i + 1)) := by
  refine bt_set _ _ i _ hi fun j hj => ?_
  rw [bitN_mod, bitN_mod]
  by_cases e : j = i
  · subst e
    rw [if_pos (by omega), if_pos rfl]
  · rw [if_neg e]
    by_cases h : j < i
    · rw [if_pos h, if_pos (by omega)]
    · rw [if_neg h, if_neg (by omega)]
/-- what is carried into a bit -/
def carry (X Y i : Nat) : Nat := (X % 2 ^ i + Y % 2 ^ i) / 2 ^ i
theorem mod_next (X i : Nat) : X % 2 ^ (i + 1) = X % 2 ^ i + 2 ^ i * bitN X i := by
  rw [Nat.pow_succ, Nat.mod_mul]
  rfl
theorem carry_step (X Y i : Nat) : (bitN X i + bitN Y i + carry X Y i) % 2 = bitN (X + Y) i ∧ (bitN X i + bitN Y i + carry X Y i) / 2 = carry X Y (i + 1) ∧ carry X Y i ≤ 1 := by
  have hp : 0 < 2 ^ i := Nat.two_pow_pos i
  refine ⟨?_, ?_, ?_⟩
  · have e : (X + Y) / 2 ^ i = X / 2 ^ i + Y / 2 ^ i + carry X Y i := by
      have h1 := Nat.div_add_mod X (2 ^ i)
      have h2 := Nat.div_add_mod Y (2 ^ i)
      have h3 : X + Y = (X % 2 ^ i + Y % 2 ^ i) + 2 ^ i * (X / 2 ^ i + Y / 2 ^ i) := by rw [Nat.mul_add]; omega
      rw [h3, Nat.add_mul_div_left _ _ hp]
      unfold carry
      have e1 : ((X % 2 ^ i + Y % 2 ^ i) + 2 ^ i * (X / 2 ^ i + Y / 2 ^ i)) = X + Y := h3.symm
      omega
    unfold bitN
    rw [e]
    omega
  · unfold carry
    rw [mod_next X i, mod_next Y i, Nat.pow_succ, ← Nat.div_div_eq_div_mul]
    have e : X % 2 ^ i + 2 ^ i * bitN X i + (Y % 2 ^ i + 2 ^ i * bitN Y i) = (X % 2 ^ i + Y % 2 ^ i) + 2 ^ i * (bitN X i + bitN Y i) := by rw [Nat.mul_add]; omega
    rw [e, Nat.add_mul_div_left _ _ hp]
    congr 1
    omega
  · unfold carry
    have h1 := Nat.mod_lt X hp
    have h2 := Nat.mod_lt Y hp
    have : (X % 2 ^ i + Y % 2 ^ i) / 2 ^ i < 2 := Nat.div_lt_of_lt_mul (by omega)
    omega
theorem zero_of_bits {X : Nat} (hX : X < 2 ^ 129) (h : ∀ i, i < 129 → bitN X i = 0) : X = 0 := by
  have : ∀ n, n ≤ 129 → X % 2 ^ n = 0 := by
    intro n
    induction n with
    | zero => intro _; exact Nat.mod_one X
    | succ n ih =>
      intro hn
      rw [mod_next, ih (by omega), h n (by omega), Nat.mul_zero]
  have h2 := this 129 (Nat.le_refl _)
  rwa [Nat.mod_eq_of_lt hX] at h2
theorem bitN_zero (i : Nat) : bitN 0 i = 0 := by unfold bitN; rw [Nat.zero_div]
theorem div_next (X i : Nat) : X / 2 ^ i = 2 * (X / 2 ^ (i + 1)) + bitN X i := by
  unfold bitN
  rw [Nat.pow_succ, ← Nat.div_div_eq_div_mul]
  omega
theorem lt_of_div {X Y i : Nat} (h : X / 2 ^ i < Y / 2 ^ i) : X < Y := by
  apply Classical.byContradiction
  intro hn
  have := Nat.div_le_div_right (c := 2 ^ i) (show Y ≤ X by omega)
  omega
theorem word_step (X k i : Nat) : 2 * (X / 2 ^ (i + 1) % 2 ^ k) + bitN X i = X / 2 ^ i % 2 ^ (k + 1) := by
  have e : X / 2 ^ i % 2 ^ (k + 1) = X / 2 ^ i % 2 + 2 * (X / 2 ^ i / 2 % 2 ^ k) := by
    rw [Nat.pow_succ, Nat.mul_comm, Nat.mod_mul]
  have e2 : X / 2 ^ i / 2 = X / 2 ^ (i + 1) := by rw [Nat.pow_succ, Nat.div_div_eq_div_mul]
  rw [e, e2]
  unfold bitN
  omega
/-- the cells of a number -/
def num (m : Bool) (X : Nat) : List Value := .bool m :: bt X
theorem num_len (m : Bool) (X : Nat) : (num m X).length = 130 := by simp [num, bt_len]
theorem num_at (m : Bool) (X i : Nat) (h : i < 129) : (num m X)[1 + i]? = some (.int .i64 (bitN X i : Int)) := by
  unfold num
  rw [Nat.add_comm, List.getElem?_cons_succ]
  exact bt_at X i h
theorem num_one (m : Bool) (X : Nat) : ∀ u ∈ num m X, u.oneCell' = true := by
  intro u hu
  rcases List.mem_cons.1 hu with rfl | hu
  · rfl
  · exact bt_one X u hu
theorem num_set (m : Bool) (Z Z' i v : Nat) (h : (bt Z).set i (.int .i64 (v : Int)) = bt Z') : (num m Z).set (1 + i) (.int .i64 (v : Int)) = num m Z' := by
  unfold num
  rw [Nat.add_comm, List.set_cons_succ, h]
def av (X : Nat) : Value := .agg (bt X).toArray
def nv (m : Bool) (X : Nat) : Value := .agg (num m X).toArray
section
variable {w w' : World} {g : Nat} {t : TypeId} {L : List Value}
theorem blk_range (h : Blk w g t L) (o : Nat) : w.rangeAt g o (L.drop o) := fun j v hv => by
  rw [List.getElem?_drop] at hv
  exact (h.cell _).trans hv
theorem blk_there (h : Blk w g t L) (o n : Nat) (hn : o + n ≤ L.length) : w.there g o n := fun j hj => ⟨by rw [h.cell, List.getElem?_eq_getElem (by omega)]; rfl, h.free _⟩
theorem num_range {m : Bool} {X : Nat} (h : Blk w g t (num m X)) : w.rangeAt g 1 (bt X) := blk_range h 1
theorem arr_range {X : Nat} (h : Blk w g t (bt X)) : w.rangeAt g 0 (bt X) := blk_range h 0
theorem nums_range {m : Bool} {X : Nat} (h : Blk w g t (num m X)) : w.rangeAt g 0 (num m X) := blk_range h 0
end
theorem set_cells_at : ∀ (vs : List Value) (w : World) (g o : Nat) (t : TypeId) (L : List Value), Blk w g t L → Blk (w.setCells g o vs) g t (L.take o ++ vs ++ L.drop (o + vs.length)) ∨ L.length < o + vs.length
  | [], w, g, o, t, L, h => by
    by_cases hl : L.length < o
    · right; simpa using hl
    · left
      simpa [World.setCells] using h
  | v :: vs, w, g, o, t, L, h => by
    by_cases hl : L.length < o + (v :: vs).length
    · exact .inr hl
    · left
      have h1 := h.put o v
      rcases set_cells_at vs (w.setCell ⟨g, o, none⟩ v) g (o + 1) t (L.set o v) h1 with h2 | h2
      · have e : (L.set o v).take (o + 1) ++ vs ++ (L.set o v).drop (o + 1 + vs.length) = L.take o ++ (v :: vs) ++ L.drop (o + (v :: vs).length) := by
          have ho : o < L.length := by simp at hl; omega
          rw [List.take_succ_eq_append_getElem (by simpa using ho), List.take_set_of_le (Nat.le_refl _), List.getElem_set_self, List.drop_set_of_lt (by omega)]
          simp [Nat.add_assoc, Nat.add_comm 1]
        rw [e] at h2
        exact h2
      · rw [List.length_set] at h2
        simp at hl
        omega
theorem blk_mid {w : World} {g o : Nat} {t : TypeId} {L : List Value} (h : Blk w g t L) (vs : List Value) (hl : o + vs.length ≤ L.length) : Blk (w.setCells g o vs) g t (L.take o ++ vs ++ L.drop (o + vs.length)) := by
  rcases set_cells_at vs w g o t L h with h | h
  · exact h
  · omega
theorem num_mid {w : World} {g : Nat} {t : TypeId} {m : Bool} {X : Nat} (h : Blk w g t (num m X)) (Y : Nat) : Blk (w.setCells g 1 (bt Y)) g t (num m Y) := by
  have := blk_mid (o := 1) h (bt Y) (by rw [num_len, bt_len]; decide)
  rw [bt_len, List.drop_eq_nil_of_le (by rw [num_len]; decide), List.append_nil] at this
  exact this
theorem full_mid {w : World} {g : Nat} {t : TypeId} {L : List Value} (h : Blk w g t L) (vs : List Value) (hl : vs.length = L.length) : Blk (w.setCells g 0 vs) g t vs := by
  have := blk_mid (o := 0) h vs (by omega)
  rw [Nat.zero_add, List.drop_eq_nil_of_le (by omega), List.append_nil, List.take_zero, List.nil_append] at this
  exact this
theorem below_cells {a : World} {B : Nat} : ∀ (vs : List Value) (w : World) (g o : Nat), Below B a w → B ≤ g → Below B a (w.setCells g o vs)
  | [], w, g, o, h, _ => by simpa [World.setCells] using h
  | v :: vs, w, g, o, h, hg => below_cells vs (w.setCell ⟨g, o, none⟩ v) g (o + 1) (h.setCell hg v) hg
theorem _root_.Go.Proofs.Ytmiplljcnchjkaa.Blk.next {w w' : World} {g : Nat} {t : TypeId} {L : List Value} (h : Blk w g t L) (hb : Below w.heap.size w w') : Blk w' g t L := h.below hb h.lt
theorem blk_apart {t : TypeId} {L : List Value} {b : Nat} : ∀ (vs : List Value) (w : World) (g o : Nat), Blk w b t L → b ≠ g → Blk (w.setCells g o vs) b t L
  | [], w, g, o, h, _ => by simpa [World.setCells] using h
  | v :: vs, w, g, o, h, hg => blk_apart vs (w.setCell ⟨g, o, none⟩ v) g (o + 1) (h.far (p := ⟨g, o, none⟩) hg v) hg
theorem size_cells : ∀ (vs : List Value) (w : World) (g o : Nat), (w.setCells g o vs).heap.size = w.heap.size
  | [], w, g, o => by simp [World.setCells]
  | v :: vs, w, g, o => by
    have := size_cells vs (w.setCell ⟨g, o, none⟩ v) g (o + 1)
    simpa [World.setCells] using this
end Num
end Go.Proofs.Ytmiplljcnchjkaa
