/-
  The walks of package text and of its reference: a number's digits.
-/
import Derived.Test.YtijijfggppnbpaaTxtW
import Derived.StillTailTactics
import Derived.Deep.QuietTactic
import Derived.BigQuiet
import Derived.IntWalk
namespace Go.Proofs.Ytijijfggppnbpaa
open Go.RowKit
set_option linter.unusedVariables false
namespace Txt

theorem numL_len (x : Int) (h : x.natAbs < 10 ^ 19) : (numL x).length ≤ 20 := by
  have := digs_len 18 x.natAbs h
  unfold numL
  split
  · simp; omega
  · omega
theorem numL_one {x : Int} (h0 : 0 ≤ x) (h : x < 10) : numL x = [UInt8.ofNat (48 + x.natAbs)] := by
  unfold numL
  rw [if_neg (by omega), digs_one (by omega)]
theorem numL_more {x : Int} (h : 10 ≤ x) : numL x = numL (x / 10) ++ numL (x % 10) := by
  rw [numL_one (x := x % 10) (by omega) (by omega)]
  unfold numL
  rw [if_neg (by omega), if_neg (by omega), digs_more (by omega)]
  congr 2
  · congr 1; omega
  · congr 2; omega
theorem numL_small {x : Int} (h : x < 0) (h2 : -10 < x) : numL x = [45] ++ numL (-x) := by
  unfold numL
  rw [if_pos h, if_neg (by omega), Int.natAbs_neg]
  rfl
theorem numL_neg {x : Int} (h : x ≤ -10) : numL x = numL (-(-x / 10)) ++ numL (-x % 10) := by
  rw [numL_one (x := -x % 10) (by omega) (by omega)]
  unfold numL
  rw [if_pos (by omega), if_pos (by omega), digs_more (by omega), List.cons_append]
  congr 2
  · congr 1; omega
  · congr 2; congr 1; omega
theorem cat_run (a b : List UInt8) (ha : a.length ≤ 4000000000000000000) (hb : b.length ≤ 4000000000000000000) (w : World) : (Op.stringOp .add (tx a) (tx b)).run Try.prog w = .ok (.string (tx (a ++ b))) w := by
  rw [run_string_add_sum (w := w) (a := tx a) (b := tx b) (by rw [tx_size, tx_size]; omega), tx_add]
set_option maxRecDepth 100000 in
set_option maxHeartbeats 1000000 in
theorem yNumber_one (x : Int) (h0 : 0 ≤ x) (h9 : x < 10) (w : World) :
    Calls Try.prog 29 #[.int .i64 x] w fun e w' => e = .returned (.string (tx (numL x))) ∧ Below w.heap.size w w' := by
  rw [numL_one h0 h9]
  have hw1 : IntKind.i64.wrap (48 + x) = 48 + x := IntWalk.i64_in _ (by omega)
  have hw2 : IntKind.u8.wrap (48 + x) = ((UInt8.ofNat (48 + x.natAbs)).toNat : Int) := by rw [ofN _ (by omega), IntKind.wrap_u8]; omega
  have hconv : (convert 26 9 (.slice (some ⟨w.heap.size, 0, none⟩) 1 1)).run Try.prog (w.alloc (.cells #[.int .u8 ((UInt8.ofNat (48 + x.natAbs)).toNat : Int)] 5)) = .ok (.string (tx [UInt8.ofNat (48 + x.natAbs)])) (w.alloc (.cells #[.int .u8 ((UInt8.ofNat (48 + x.natAbs)).toNat : Int)] 5)) :=
    conv_bytes (l := [UInt8.ofNat (48 + x.natAbs)]) (n := 1) (cap := 1) rfl (new_rd w 5 [bv (UInt8.ofNat (48 + x.natAbs))]) (fun h => by cases h)
  generalize UInt8.ofNat (48 + x.natAbs) = c at *
  have d0 : decide (x < 0) = false := decide_eq_false (by omega)
  go_enter Try.func29, Try.ntmps29
  go_wp2_with fail
  go_ret
  exact ⟨rfl, bl _ _⟩
set_option maxRecDepth 100000 in
set_option maxHeartbeats 1000000 in
theorem yNumber_small (x : Int) (h0 : x < 0) (h9 : -10 < x) (w : World) :
    Calls Try.prog 29 #[.int .i64 x] w fun e w' => e = .returned (.string (tx (numL x))) ∧ Below w.heap.size w w' := by
  have h45 : ({ data := #[45] } : ByteArray) = tx [45] := rfl
  have hone := fun w => yNumber_one (-x) (by omega) (by omega) w
  have hcat := fun w => cat_run [45] (numL (-x)) (by decide) (by have := numL_len (-x) (by omega); omega) w
  rw [← numL_small h0 h9] at hcat
  have d0 : decide (x < 0) = true := decide_eq_true h0
  have d1 : decide (-10 < x) = true := decide_eq_true h9
  have hw1 : IntKind.i64.wrap (-x) = -x := IntWalk.i64_in _ (by omega)
  generalize numL (-x) = a at *
  go_enter Try.func29, Try.ntmps29
  go_wp2_with fail
  refine (hone _).mono ?_
  rintro e w2 ⟨rfl, hb⟩
  go_wp2_with fail
  go_ret
  exact ⟨rfl, hb⟩
theorem quo_pos (x : Int) (h : 10 ≤ x) (h2 : x ≤ 9223372036854775807) : x.tdiv 10 = x / 10 ∧ x.tmod 10 = x % 10 ∧ IntKind.i64.wrap (x / 10) = x / 10 ∧ IntKind.i64.wrap (x % 10) = x % 10 :=
  ⟨Int.tdiv_eq_ediv_of_nonneg (by omega), Int.tmod_eq_emod_of_nonneg (by omega), IntWalk.i64_in _ (by omega), IntWalk.i64_in _ (by omega)⟩
theorem quo_neg (x : Int) (h : x ≤ -10) (h2 : -9223372036854775808 ≤ x) : x.tdiv 10 = -(-x / 10) ∧ x.tmod 10 = -(-x % 10) ∧ IntKind.i64.wrap (-(-x / 10)) = -(-x / 10) ∧ IntKind.i64.wrap (-(-x % 10)) = -(-x % 10) ∧ IntKind.i64.wrap (- -(-x % 10)) = -x % 10 := by
  obtain ⟨y, rfl⟩ : ∃ y, x = -y := ⟨-x, by omega⟩
  rw [Int.neg_neg]
  refine ⟨?_, ?_, IntWalk.i64_in _ (by omega), IntWalk.i64_in _ (by omega), ?_⟩
  · rw [Int.neg_tdiv, Int.tdiv_eq_ediv_of_nonneg (by omega)]
  · rw [Int.neg_tmod, Int.tmod_eq_emod_of_nonneg (by omega)]
  · rw [Int.neg_neg]; exact IntWalk.i64_in _ (by omega)
set_option maxRecDepth 100000 in
set_option maxHeartbeats 1000000 in
theorem yNumber_any (k : Nat) : ∀ (x : Int) (w : World), x.natAbs = k → -9223372036854775808 ≤ x → x ≤ 9223372036854775807 →
    Calls Try.prog 29 #[.int .i64 x] w fun e w' => e = .returned (.string (tx (numL x))) ∧ Below w.heap.size w w' := by
  induction k using Nat.strongRecOn with
  | _ k ih =>
    intro x w hx h1 h2
    by_cases hs : -10 < x ∧ x < 10
    · by_cases hn : x < 0
      · exact yNumber_small x hn hs.1 w
      · exact yNumber_one x (by omega) hs.2 w
    by_cases hn : x < 0
    · have hx10 : x ≤ -10 := by omega
      have c1 := fun w => ih (-(-x / 10)).natAbs (by omega) (-(-x / 10)) w rfl (by omega) (by omega)
      have c2 := fun w => yNumber_one (-x % 10) (by omega) (by omega) w
      obtain ⟨e1, e2, e3, e4, e5⟩ := quo_neg x hx10 h1
      have hcat := fun w => cat_run (numL (-(-x / 10))) (numL (-x % 10)) (by have := numL_len (-(-x / 10)) (by omega); omega) (by have := numL_len (-x % 10) (by omega); omega) w
      rw [← numL_neg hx10] at hcat
      have d0 : decide (x < 0) = true := decide_eq_true hn
      have d1 : decide (-10 < x) = false := decide_eq_false (by omega)
      have e6 : wrap64 (-x % 10) = -x % 10 := by unfold wrap64; omega
      clear ih hx h1 h2 hs
      generalize numL (-(-x / 10)) = a at *
      generalize numL (-x % 10) = b at *
      generalize -(-x / 10) = q at *
      generalize -x % 10 = r at *
      go_enter Try.func29, Try.ntmps29
      go_wp2_with fail
      refine (c1 _).mono ?_
      rintro e w2 ⟨rfl, hb2⟩
      go_wp2_with fail
      refine (c2 _).mono ?_
      rintro e w3 ⟨rfl, hb3⟩
      go_wp2_with fail
      go_ret
      exact ⟨rfl, _root_.Go.Proofs.Ytijijfggppnbpaa.bt hb2 hb3⟩
    · have hx10 : 10 ≤ x := by omega
      have c1 := fun w => ih (x / 10).natAbs (by omega) (x / 10) w rfl (by omega) (by omega)
      have c2 := fun w => yNumber_one (x % 10) (by omega) (by omega) w
      obtain ⟨e1, e2, e3, e4⟩ := quo_pos x hx10 h2
      have hcat := fun w => cat_run (numL (x / 10)) (numL (x % 10)) (by have := numL_len (x / 10) (by omega); omega) (by have := numL_len (x % 10) (by omega); omega) w
      rw [← numL_more hx10] at hcat
      have d0 : decide (x < 0) = false := decide_eq_false hn
      have d1 : decide (x < 10) = false := decide_eq_false (by omega)
      clear ih hx h1 h2 hs
      generalize numL (x / 10) = a at *
      generalize numL (x % 10) = b at *
      generalize x / 10 = q at *
      generalize x % 10 = r at *
      go_enter Try.func29, Try.ntmps29
      go_wp2_with fail
      refine (c1 _).mono ?_
      rintro e w2 ⟨rfl, hb2⟩
      go_wp2_with fail
      refine (c2 _).mono ?_
      rintro e w3 ⟨rfl, hb3⟩
      go_wp2_with fail
      go_ret
      exact ⟨rfl, _root_.Go.Proofs.Ytijijfggppnbpaa.bt hb2 hb3⟩
end Txt
end Go.Proofs.Ytijijfggppnbpaa
