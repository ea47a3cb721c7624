/-
  The walks of package vote: what a panel tells of its channels.
-/
import Derived.Test.YtoaagemofjddiaaVotM
import Derived.Test.YtoaagemofjddiaaVotQ
import Derived.Deep.QuietTactic
import Derived.BigQuiet
import Derived.IntWalk
namespace Go.Proofs.Ytoaagemofjddiaa
open Go.RowKit
set_option linter.unusedVariables false
namespace Vot

/-- a panel's cells -/
def pac (p : Pa) : List Value := [.int .i64 (p.out.length : Int), .int .i64 p.ap, .int .i64 p.most, .int .i64 (p.sk 0 : Int), .int .i64 (p.sk 1 : Int), .int .i64 (p.sk 2 : Int), .int .i64 (p.sk 3 : Int), .int .i64 (p.sk 4 : Int), .bool (p.is 0), .bool (p.is 1), .bool (p.is 2), .bool (p.is 3), .bool (p.is 4)]
theorem five {i : Nat} (h : i < 5) : i = 0 ∨ i = 1 ∨ i = 2 ∨ i = 3 ∨ i = 4 := by omega
theorem pac_sk (p : Pa) {i : Nat} (h : i < 5) : (pac p)[3 + i]? = some (.int .i64 (p.sk i : Int)) := by
  rcases five h with rfl | rfl | rfl | rfl | rfl <;> rfl
theorem pac_is (p : Pa) {i : Nat} (h : i < 5) : (pac p)[8 + i]? = some (.bool (p.is i)) := by
  rcases five h with rfl | rfl | rfl | rfl | rfl <;> rfl
theorem pac_one (p : Pa) : (pac p).toArray.all (·.oneCell') = true := by simp [pac, Value.oneCell']
theorem pac_set_sk (p : Pa) {i : Nat} (h : i < p.out.length) (hl : p.st.length = p.out.length) (h5 : p.out.length ≤ 5) (s : Nat) : (pac p).set (3 + i) (.int .i64 (s : Int)) = pac (p.put i s (p.is i)) := by
  have e : ∀ j, (p.put i s (p.is i)).is j = p.is j := fun j => by
    rw [put_is]
    split
    · rename_i hh; rw [hh.1]
    · rfl
  have e2 : ∀ j, (p.put i s (p.is i)).sk j = if i = j then s else p.sk j := fun j => by
    rw [put_sk]
    by_cases hj : i = j
    · rw [if_pos ⟨hj, by omega⟩, if_pos hj]
    · rw [if_neg (by omega), if_neg hj]
  unfold pac
  simp only [e, e2, (put_len p i s (p.is i)).2]
  rcases five (show i < 5 by omega) with rfl | rfl | rfl | rfl | rfl <;> simp [Pa.put]
theorem pac_set_is (p : Pa) {i : Nat} (h : i < p.out.length) (hl : p.st.length = p.out.length) (h5 : p.out.length ≤ 5) (b : Bool) : (pac p).set (8 + i) (.bool b) = pac (p.put i (p.sk i) b) := by
  have e : ∀ j, (p.put i (p.sk i) b).sk j = p.sk j := fun j => by
    rw [put_sk]
    split
    · rename_i hh; rw [hh.1]
    · rfl
  have e2 : ∀ j, (p.put i (p.sk i) b).is j = if i = j then b else p.is j := fun j => by
    rw [put_is]
    by_cases hj : i = j
    · rw [if_pos ⟨hj, by omega⟩, if_pos hj]
    · rw [if_neg (by omega), if_neg hj]
  unfold pac
  simp only [e, e2, (put_len p i (p.sk i) b).2]
  rcases five (show i < 5 by omega) with rfl | rfl | rfl | rfl | rfl <;> simp [Pa.put]
theorem put_put (p : Pa) (i s s' : Nat) (b b' : Bool) : (p.put i s b).put i s' b' = p.put i s' b' := by simp [Pa.put]
theorem put_out (p : Pa) {i : Nat} (s : Nat) (b : Bool) (h : i < p.out.length) (hl : p.st.length = p.out.length) : (p.put i s b).is i = b ∧ (p.put i s b).sk i = s := by
  rw [put_is, put_sk, if_pos ⟨rfl, h⟩, if_pos ⟨rfl, by omega⟩]
  exact ⟨rfl, rfl⟩
/-- how many of the first k are not out -/
def ink (o : List Bool) (k : Nat) : Nat := ins (o.take k)
theorem ink_succ (o : List Bool) {k : Nat} (h : k < o.length) : ink o (k + 1) = ink o k + if o.getD k false then 0 else 1 := by
  unfold ink ins
  rw [List.take_add_one, List.getElem?_eq_getElem h, List.getD_eq_getElem?_getD, List.getElem?_eq_getElem h, List.countP_append]
  cases o[k] <;> rfl
theorem ink_all (o : List Bool) : ink o o.length = ins o := by unfold ink; rw [List.take_length]
theorem ink_le (o : List Bool) (k : Nat) : ink o k ≤ k := by
  unfold ink
  have := ins_le (o.take k)
  rw [List.length_take] at this
  omega
set_option maxRecDepth 100000 in
set_option maxHeartbeats 1000000 in
theorem in_any (p : Pa) (h5 : p.out.length ≤ 5) (w : World) : Calls Try.prog 38 #[.agg (pac p).toArray] w fun e w' => e = .returned (.int .i64 (ins p.out : Int)) ∧ Below w.heap.size w w' := by
  have hB := Blk.mk w 69 (pac p)
  have q0 := hB.cell 0
  change _ = some (Value.int .i64 (p.out.length : Int)) at q0
  have HB := Lib.hid hB
  clear hB
  go_enter Try.func38, Try.ntmps38
  go_wp2
  go_loopw [3, 7] (fun o i wr => ∃ j : Nat, j ≤ p.out.length ∧ i = .int .i64 (j : Int) ∧ o = .int .i64 (ink p.out j : Int) ∧ wr = w.alloc (.cells (pac p).toArray 69)) (fun _ i _ => p.out.length - (intOf i).toNat)
  case atStart => exact ⟨0, by omega, rfl, rfl, rfl⟩
  case round =>
    obtain ⟨j, hj, rfl, rfl, rfl⟩ := hrel
    by_cases hlt : j < p.out.length
    · have hltI : (j : Int) < (p.out.length : Int) := by omega
      have hk := ink_le p.out j
      have y1 : IntKind.i64.wrap ((j : Int) + 1) = (j : Int) + 1 := IntWalk.i64_in _ (by omega)
      have y2 : IntKind.i64.wrap ((ink p.out j : Int) + 1) = (ink p.out j : Int) + 1 := IntWalk.i64_in _ (by omega)
      have i5 : (j : Int) < 5 := by omega
      have i0 : (0 : Int) ≤ (j : Int) := by omega
      have q1 := (HB.out.cell (8 + j)).trans (pac_is p (by omega))
      have hs := ink_succ p.out hlt
      cases hb : p.is j with
      | true =>
        rw [hb] at q1
        go_wp2
        go_roundw
        case rel => exact ⟨j + 1, by omega, by go_num, by rw [hs, show p.out.getD j false = true from hb]; rfl, trivial⟩
        case measure => simp [intOf]; omega
      | false =>
        rw [hb] at q1
        go_wp2
        go_roundw
        case rel => exact ⟨j + 1, by omega, by go_num, by rw [hs, show p.out.getD j false = false from hb]; go_num, trivial⟩
        case measure => simp [intOf]; omega
    · obtain rfl : j = p.out.length := by omega
      have hge : ¬ (p.out.length : Int) < (p.out.length : Int) := by omega
      go_wp2
      go_ret
      exact ⟨by rw [ink_all]; rfl, bl _ _⟩
set_option maxRecDepth 100000 in
set_option maxHeartbeats 1000000 in
theorem out_any (p : Pa) (h5 : p.out.length ≤ 5) {i : Int} (w : World) : Calls Try.prog 39 #[.agg (pac p).toArray, .int .i64 i] w fun e w' => e = .returned (.bool (decide (0 ≤ i ∧ i < (p.out.length : Int)) && p.is i.toNat)) ∧ Below w.heap.size w w' := by
  have hB := Blk.mk w 69 (pac p)
  have q0 := hB.cell 0
  change _ = some (Value.int .i64 (p.out.length : Int)) at q0
  by_cases h : 0 ≤ i ∧ i < (p.out.length : Int)
  · rw [decide_eq_true h]
    obtain ⟨j, rfl⟩ : ∃ j : Nat, i = (j : Int) := ⟨i.toNat, by omega⟩
    rw [Int.toNat_natCast]
    have q1 := (hB.cell (8 + j)).trans (pac_is p (by omega))
    generalize p.is j = b at *
    have d1 : decide ((0 : Int) ≤ (j : Int)) = true := decide_eq_true (by omega)
    have d2 : decide ((j : Int) < (p.out.length : Int)) = true := decide_eq_true (by omega)
    have i5 : (j : Int) < 5 := by omega
    have i0 : (0 : Int) ≤ (j : Int) := by omega
    have i1 : (j : Int) < (p.out.length : Int) := by omega
    go_enter Try.func39, Try.ntmps39
    go_wp2
    go_ret
    exact ⟨rfl, bl _ _⟩
  · rw [decide_eq_false h]
    by_cases h0 : 0 ≤ i
    · have h1 : ¬ i < (p.out.length : Int) := fun h' => h ⟨h0, h'⟩
      clear h
      have d1 : decide ((0 : Int) ≤ i) = true := decide_eq_true h0
      have d2 : decide (i < (p.out.length : Int)) = false := decide_eq_false h1
      go_enter Try.func39, Try.ntmps39
      go_wp2
      go_ret
      exact ⟨rfl, bl _ _⟩
    · clear h
      have d1 : decide ((0 : Int) ≤ i) = false := decide_eq_false h0
      go_enter Try.func39, Try.ntmps39
      go_wp2
      go_ret
      exact ⟨rfl, bl _ _⟩
set_option maxRecDepth 100000 in
set_option maxHeartbeats 1000000 in
theorem strikes_any (p : Pa) (h5 : p.out.length ≤ 5) {i : Int} (w : World) : Calls Try.prog 40 #[.agg (pac p).toArray, .int .i64 i] w fun e w' => e = .returned (.int .i64 (if 0 ≤ i ∧ i < (p.out.length : Int) then (p.sk i.toNat : Int) else 0)) ∧ Below w.heap.size w w' := by
  have hB := Blk.mk w 69 (pac p)
  have q0 := hB.cell 0
  change _ = some (Value.int .i64 (p.out.length : Int)) at q0
  by_cases h : 0 ≤ i ∧ i < (p.out.length : Int)
  · rw [if_pos h]
    obtain ⟨j, rfl⟩ : ∃ j : Nat, i = (j : Int) := ⟨i.toNat, by omega⟩
    rw [Int.toNat_natCast]
    have q1 := (hB.cell (3 + j)).trans (pac_sk p (by omega))
    generalize p.sk j = b at *
    have d1 : decide ((j : Int) < 0) = false := decide_eq_false (by omega)
    have d2 : decide (p.out.length ≤ j) = false := decide_eq_false (by omega)
    have i5 : (j : Int) < 5 := by omega
    have i0 : (0 : Int) ≤ (j : Int) := by omega
    have i1 : ¬ (p.out.length : Int) ≤ (j : Int) := by omega
    go_enter Try.func40, Try.ntmps40
    go_wp2
    go_ret
    exact ⟨rfl, bl _ _⟩
  · rw [if_neg h]
    by_cases h0 : i < 0
    · clear h
      have d1 : decide (i < 0) = true := decide_eq_true h0
      go_enter Try.func40, Try.ntmps40
      go_wp2
      go_ret
      exact ⟨rfl, bl _ _⟩
    · have h1 : (p.out.length : Int) ≤ i := by omega
      clear h
      have d1 : decide (i < 0) = false := decide_eq_false h0
      have d2 : decide ((p.out.length : Int) ≤ i) = true := decide_eq_true h1
      go_enter Try.func40, Try.ntmps40
      go_wp2
      go_ret
      exact ⟨rfl, bl _ _⟩
set_option maxRecDepth 100000 in
set_option maxHeartbeats 1000000 in
theorem far_any (p : Pa) {a b : Int} (ha : -1099511627776 ≤ a ∧ a ≤ 1099511627776) (hb : -1099511627776 ≤ b ∧ b ≤ 1099511627776) (w : World) :
    Calls Try.prog 59 #[.agg (pac p).toArray, .int .i64 a, .int .i64 b] w fun e w' => e = .returned (.bool (decide (p.ap < max a b - min a b))) ∧ Below w.heap.size w w' := by
  have hB := Blk.mk w 69 (pac p)
  have q0 := hB.cell 1
  change _ = some (Value.int .i64 p.ap) at q0
  have y1 : IntKind.i64.wrap (max a b - min a b) = max a b - min a b := IntWalk.i64_in _ (by omega)
  go_enter Try.func59, Try.ntmps59
  go_wp2
  go_ret
  exact ⟨rfl, bl _ _⟩
end Vot
end Go.Proofs.Ytoaagemofjddiaa
