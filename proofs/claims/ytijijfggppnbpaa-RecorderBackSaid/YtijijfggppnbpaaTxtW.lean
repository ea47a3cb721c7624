/-
  The walks of package text and of its reference: what kinds are called, digits.
-/
import Derived.Test.YtijijfggppnbpaaTxtQ
import Derived.Test.YtijijfggppnbpaaChecked
import Derived.Laws.IdiomStrings
import Derived.Lib.BufferRead
namespace Go.Proofs.Ytijijfggppnbpaa
open Go.RowKit
set_option linter.unusedVariables false
namespace Txt

theorem infoByte : (Try.prog.info? 5).map (fun i => (i.zero, i.size, i.bytes)) = some (some (.int .u8 0), 1, 1) := by kernel_rfl
def bv (c : UInt8) : Value := .int .u8 (c.toNat : Int)
theorem conv_bytes {w : World} {lo hi n : Nat} {A : Option Addr} {l : List UInt8} {cap : Nat} (hn : l.length = n) (h : RdL w lo hi A (l.map bv)) (hA : A = none → n = 0 ∧ cap = 0) :
    (convert 26 9 (.slice A n cap)).run Try.prog w = .ok (.string (tx l)) w := by
  subst hn
  cases A with
  | none =>
    have h0 := (hA rfl).1
    have : l = [] := List.eq_nil_of_length_eq_zero h0
    subst this
    exact Lib.run_convert_nil_bytes w 26 9 5 cap Try.underlying26 Try.underlying5 Try.underlying9
  | some a =>
    refine run_convert_bytes_back w 26 9 5 a cap l Try.underlying26 Try.underlying5 Try.underlying9 fun j hj => ?_
    exact h.news a rfl j _ (by rw [List.getElem?_map, List.getElem?_eq_getElem hj]; rfl)
def wordN : Nat → List UInt8
  | 1 => [109, 111, 118, 101]
  | 2 => [114, 97, 100, 97, 114]
  | 3 => [98, 97, 114, 111]
  | 4 => [116, 105, 99, 107]
  | 5 => [115, 116, 97, 114, 116]
  | 6 => [99, 111, 114, 114, 101, 99, 116]
  | 7 => [109, 111, 100, 101]
  | _ => []
/-- what a kind is called -/
def wordL (k : Int) : List UInt8 := wordN k.toNat
theorem wordN_none {n : Nat} (h : n < 1 ∨ 7 < n) : wordN n = [] := by
  match n, h with
  | 0, _ => rfl
  | 1, h => omega
  | 2, h => omega
  | 3, h => omega
  | 4, h => omega
  | 5, h => omega
  | 6, h => omega
  | 7, h => omega
  | n + 8, _ => rfl
theorem kind_cases (k : Int) : k = 1 ∨ k = 2 ∨ k = 3 ∨ k = 4 ∨ k = 5 ∨ k = 6 ∨ k = 7 ∨ (k < 1 ∨ 7 < k) := by omega
set_option maxRecDepth 100000 in
set_option maxHeartbeats 1000000 in
theorem xWord_any (k : Int) (w : World) :
    Calls Try.prog 30 #[.int .i64 k] w fun e w' => e = .returned (.string (tx (wordL k))) ∧ w = w' := by
  rcases kind_cases k with rfl | rfl | rfl | rfl | rfl | rfl | rfl | h
  all_goals try
    go_enter Try.func30, Try.ntmps30
    go_wp2
    go_ret
    exact ⟨rfl, rfl⟩
  have hw : wordL k = [] := wordN_none (by omega)
  have h1 : (k == 1) = false := beq_eq_false_iff_ne.2 (by omega)
  have h2 : (k == 2) = false := beq_eq_false_iff_ne.2 (by omega)
  have h3 : (k == 3) = false := beq_eq_false_iff_ne.2 (by omega)
  have h4 : (k == 4) = false := beq_eq_false_iff_ne.2 (by omega)
  have h5 : (k == 5) = false := beq_eq_false_iff_ne.2 (by omega)
  have h6 : (k == 6) = false := beq_eq_false_iff_ne.2 (by omega)
  have h7 : (k == 7) = false := beq_eq_false_iff_ne.2 (by omega)
  have Hw := Lib.hid hw
  clear hw h
  go_enter Try.func30, Try.ntmps30
  go_wp2
  go_ret
  exact ⟨by rw [Hw.out]; rfl, rfl⟩
set_option maxRecDepth 100000 in
set_option maxHeartbeats 1000000 in
theorem yWord_any (k : Int) (w : World) :
    Calls Try.prog 31 #[.int .i64 k] w fun e w' => e = .returned (.string (tx (wordL k))) ∧ Below w.heap.size w w' := by
  rcases kind_cases k with rfl | rfl | rfl | rfl | rfl | rfl | rfl | h
  all_goals try
    go_enter Try.func31, Try.ntmps31
    go_wp2
    go_ret
    exact ⟨rfl, bl _ _⟩
  have hw : wordL k = [] := wordN_none (by omega)
  have Hw := Lib.hid hw
  clear hw
  by_cases h1 : k < 1
  · have d1 : decide (k < 1) = true := decide_eq_true h1
    go_enter Try.func31, Try.ntmps31
    go_wp2
    go_ret
    exact ⟨by rw [Hw.out]; rfl, bl _ _⟩
  · have h2 : 7 < k := by omega
    have d1 : decide (k < 1) = false := decide_eq_false h1
    have d2 : decide (7 < k) = true := decide_eq_true h2
    clear h
    go_enter Try.func31, Try.ntmps31
    go_wp2
    go_ret
    exact ⟨by rw [Hw.out]; rfl, bl _ _⟩
end Txt
end Go.Proofs.Ytijijfggppnbpaa
