/-
  Bytes in pieces: what stands in them, the pieces taken one behind the other.
-/
import Derived.Test.YtijijfggppnbpaaFrmJ
namespace Go.Proofs.Ytijijfggppnbpaa
open Go.RowKit
set_option linter.unusedVariables false
namespace Frm
open Txt (kind_cases bv bv_one GotB leB leB_len leB_succ leVal leVal_lt tx tx_list)

theorem take_app (P M : List UInt8) (k : Nat) (h : k ≤ P.length) : (P ++ M).take k = P.take k := by
  rw [List.take_append_of_le_length h]
theorem drop_take_app (P M : List UInt8) (a k : Nat) (h : a + k ≤ P.length) : ((P ++ M).drop a).take k = (P.drop a).take k := by
  rw [List.drop_append_of_le_length (by omega), List.take_append_of_le_length (by rw [List.length_drop]; omega)]
theorem leVal_app (P M : List UInt8) (a : Nat) : ∀ j, a + j ≤ P.length → leVal (P ++ M) a j = leVal P a j
  | 0, _ => rfl
  | j + 1, h => by
    rw [leVal, leVal, leVal_app P M a j (by omega)]
    congr 3
    rw [List.getD_eq_getElem?_getD, List.getD_eq_getElem?_getD, List.getElem?_append_left (by omega)]
/-- more bytes behind do not change what bytes begin with, where no more were waited for -/
theorem first_app (P M : List UInt8) (h : (firstL P).2.2 ≠ 5) : firstL (P ++ M) = firstL P := by
  match P with
  | [] => exact absurd rfl h
  | [c] =>
    by_cases hc : c = 126
    · subst hc; exact absurd rfl h
    · have e : firstL [c] = (zeroF, 0, 3) := by rw [firstL, if_pos hc]
      rw [e]
      match M with
      | [] => show firstL [c] = _; rw [e]
      | m :: M => show firstL (c :: m :: M) = _; rw [firstL, if_pos hc]
  | c :: k :: s =>
    show firstL (c :: k :: (s ++ M)) = _
    by_cases hc : c = 126
    · have hc' : ¬ (c ≠ 126) := by simp [hc]
      by_cases hn : numN k.toNat < 0
      · rw [firstL, if_neg hc', if_pos hn, firstL, if_neg hc', if_pos hn]
      · by_cases hl : (c :: k :: s).length < 12 + 4 * (numN k.toNat).toNat
        · exfalso
          apply h
          rw [firstL, if_neg hc', if_neg hn, if_pos hl]
        · have hl2 : ¬ (c :: k :: (s ++ M)).length < 12 + 4 * (numN k.toNat).toNat := by
            simp only [List.length_cons, List.length_append] at hl ⊢
            omega
          have hle : 12 + 4 * (numN k.toNat).toNat ≤ (c :: k :: s).length := by omega
          have e1 : (c :: k :: (s ++ M)).take (8 + 4 * (numN k.toNat).toNat) = (c :: k :: s).take (8 + 4 * (numN k.toNat).toNat) := take_app (c :: k :: s) M _ (by omega)
          have e2 : ((c :: k :: (s ++ M)).drop (8 + 4 * (numN k.toNat).toNat)).take 4 = ((c :: k :: s).drop (8 + 4 * (numN k.toNat).toNat)).take 4 := drop_take_app (c :: k :: s) M _ _ (by omega)
          have e3 : ∀ a j, a + j ≤ 12 + 4 * (numN k.toNat).toNat → leVal (c :: k :: (s ++ M)) a j = leVal (c :: k :: s) a j := fun a j hj => leVal_app (c :: k :: s) M a j (by omega)
          have e4 : frameOf (c :: k :: (s ++ M)) k.toNat (numN k.toNat).toNat 3 = frameOf (c :: k :: s) k.toNat (numN k.toNat).toNat 3 := by
            unfold frameOf numAt
            rw [e3 2 2 (by omega), e3 4 4 (by omega)]
            have e5 : ∀ j, (if j < 3 ∧ j < (numN k.toNat).toNat then i32of (leVal (c :: k :: (s ++ M)) (8 + 4 * j) 4) else 0) = (if j < 3 ∧ j < (numN k.toNat).toNat then i32of (leVal (c :: k :: s) (8 + 4 * j) 4) else 0) := fun j => by
              split
              · rw [e3 _ _ (by omega)]
              · rfl
            rw [e5 0, e5 1, e5 2]
          rw [firstL, if_neg hc', if_neg hn, if_neg hl2, e1, e2, e4, firstL, if_neg hc', if_neg hn, if_neg hl]
    · rw [firstL, if_pos hc, firstL, if_pos hc]
/-- bytes in two pieces -/
theorem feed_app (P M : List UInt8) : ∀ d i, P.length - i ≤ d → i ≤ P.length → feedL (P ++ M) i = ((feedL P i).1 ++ (feedL (P ++ M) (feedL P i).2.2).1, (feedL P i).2.1 + (feedL (P ++ M) (feedL P i).2.2).2.1, (feedL (P ++ M) (feedL P i).2.2).2.2) ∧ (feedL P i).2.2 ≤ P.length := by
  intro d
  induction d with
  | zero =>
    intro i h hi
    have h5 : (firstL (P.drop i)).2.2 = 5 := first_nil5 (by omega)
    rw [feed_wait h5]
    exact ⟨by simp, hi⟩
  | succ d ih =>
    intro i h hi
    by_cases h5 : (firstL (P.drop i)).2.2 = 5
    · rw [feed_wait h5]
      exact ⟨by simp, hi⟩
    · have hlt := code_lt h5
      have hf : firstL ((P ++ M).drop i) = firstL (P.drop i) := by
        rw [List.drop_append_of_le_length hi]
        exact first_app _ M h5
      by_cases h0 : (firstL (P.drop i)).2.2 = 0
      · obtain ⟨e, h12, hle⟩ := feed_frame h0
        obtain ⟨e2, _, _⟩ := feed_frame (L := P ++ M) (i := i) (by rw [hf]; exact h0)
        rw [hf] at e2
        obtain ⟨e3, hj⟩ := ih (i + (firstL (P.drop i)).2.1) (by omega) (by omega)
        rw [e2, e]
        refine ⟨?_, hj⟩
        rw [e3]
        simp
      · have e := feed_skip h5 h0
        have e2 := feed_skip (L := P ++ M) (i := i) (by rw [hf]; exact h5) (by rw [hf]; exact h0)
        obtain ⟨e3, hj⟩ := ih (i + 1) (by omega) (by omega)
        rw [e2, e]
        refine ⟨?_, hj⟩
        rw [e3]
        simp
        omega
/-- from a place on, or what stands from there on -/
theorem feed_shift (L : List UInt8) (k : Nat) : ∀ d i, (L.drop k).length - i ≤ d → feedL L (k + i) = ((feedL (L.drop k) i).1, (feedL (L.drop k) i).2.1, k + (feedL (L.drop k) i).2.2) := by
  intro d
  induction d with
  | zero =>
    intro i h
    have h5 : (firstL ((L.drop k).drop i)).2.2 = 5 := first_nil5 (by omega)
    rw [feed_wait h5]
    rw [List.drop_drop] at h5
    rw [feed_wait h5]
  | succ d ih =>
    intro i h
    have hd : L.drop (k + i) = (L.drop k).drop i := by rw [List.drop_drop]
    by_cases h5 : (firstL ((L.drop k).drop i)).2.2 = 5
    · rw [feed_wait h5, feed_wait (by rw [hd]; exact h5)]
    · have hlt := code_lt h5
      by_cases h0 : (firstL ((L.drop k).drop i)).2.2 = 0
      · obtain ⟨e, h12, hle⟩ := feed_frame h0
        obtain ⟨e2, _, _⟩ := feed_frame (L := L) (i := k + i) (by rw [hd]; exact h0)
        rw [hd] at e2
        rw [e2, e, Nat.add_assoc, ih (i + (firstL ((L.drop k).drop i)).2.1) (by omega)]
      · have e := feed_skip h5 h0
        have e2 := feed_skip (L := L) (i := k + i) (by rw [hd]; exact h5) (by rw [hd]; exact h0)
        rw [e2, e, Nat.add_assoc, ih (i + 1) (by omega)]
/-- a piece behind what has been taken: what waited, and the piece, are taken as the whole is -/
theorem feed_piece (P M : List UInt8) : feedL (P ++ M) 0 = ((feedL P 0).1 ++ (feedL (P.drop (feedL P 0).2.2 ++ M) 0).1, (feedL P 0).2.1 + (feedL (P.drop (feedL P 0).2.2 ++ M) 0).2.1, (feedL P 0).2.2 + (feedL (P.drop (feedL P 0).2.2 ++ M) 0).2.2) ∧
    (P ++ M).drop (feedL (P ++ M) 0).2.2 = (P.drop (feedL P 0).2.2 ++ M).drop (feedL (P.drop (feedL P 0).2.2 ++ M) 0).2.2 := by
  obtain ⟨e, hle⟩ := feed_app P M (P.length - 0) 0 (Nat.le_refl _) (Nat.zero_le _)
  have hd : (P ++ M).drop (feedL P 0).2.2 = P.drop (feedL P 0).2.2 ++ M := List.drop_append_of_le_length hle
  have e2 := feed_shift (P ++ M) (feedL P 0).2.2 _ 0 (Nat.le_refl _)
  rw [Nat.add_zero, hd] at e2
  rw [e2] at e
  refine ⟨e, ?_⟩
  rw [e, ← hd, List.drop_drop]
end Frm
end Go.Proofs.Ytijijfggppnbpaa
