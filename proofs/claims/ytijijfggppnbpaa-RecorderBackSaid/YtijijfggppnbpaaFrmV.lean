/-
  What the law of package frame shows by example: the plain facts.
-/
import Derived.Test.YtijijfggppnbpaaFrmI
import Derived.Test.YtijijfggppnbpaaFrmK
namespace Go.Proofs.Ytijijfggppnbpaa
open Go.RowKit
set_option linter.unusedVariables false
namespace Frm
open Txt (kind_cases bv bv_one GotB leB leB_len leB_succ leVal leVal_lt tx tx_list)

def f2 : Fr := ⟨2, 7, 9, -5, 3, 0⟩
def B2 : List UInt8 := [126, 2, 7, 0, 9, 0, 0, 0, 251, 255, 255, 255, 3, 0, 0, 0, 165, 174, 159, 79]
theorem ok2 : f2.Ok := ⟨by decide, by decide, by decide, by decide, by decide, by decide, by decide, by decide, by decide, by decide⟩
theorem code2 : codeF f2 = 0 := by decide
theorem bytes2 : bytesF f2 = B2 := by decide +kernel
theorem first2 : firstL B2 = (f2, 20, 0) := by
  have := (first_bytes f2 ok2 code2).1
  rw [bytes2] at this
  exact this
def X3 : List UInt8 := [1, 126, 9] ++ B2
theorem drop3 : X3.drop 3 = B2 := rfl
theorem all3 : allL X3 0 = [(3, f2)] := by
  have h0 : (firstL (X3.drop 0)).2.2 ≠ 0 := by decide +kernel
  have h1 : (firstL (X3.drop 1)).2.2 ≠ 0 := by decide +kernel
  have h2 : (firstL (X3.drop 2)).2.2 ≠ 0 := by decide +kernel
  have h3 : (firstL (X3.drop 3)).2.2 = 0 := by rw [drop3, first2]
  rw [allL_skip (by decide) h0, allL_skip (by decide) h1, allL_skip (by decide) h2, (allL_frame (by decide) h3).1]
  rw [drop3, first2, allL_end (by decide)]
def Y1 : List UInt8 := [5] ++ B2.take 10
theorem feed1 : feedL Y1 0 = ([], 1, 1) := by
  have h0 : (firstL (Y1.drop 0)).2.2 = 3 := by decide +kernel
  have h1 : (firstL (Y1.drop 1)).2.2 = 5 := by decide +kernel
  rw [feed_skip (by rw [h0]; decide) (by rw [h0]; decide), feed_wait h1]
theorem feed2 : feedL B2 0 = ([f2], 0, 20) := by
  have hd : B2.drop 0 = B2 := rfl
  have h5 : (firstL (B2.drop 20)).2.2 = 5 := by decide +kernel
  have hw := feed_wait h5
  have hc := (feed_frame (L := B2) (i := 0) (by rw [hd, first2])).1
  rw [hd, first2] at hc
  rw [hc]
  have e : (0 : Nat) + ((f2, 20, 0) : Fr × Nat × Int).2.1 = 20 := rfl
  rw [e, hw]
def f4 : Fr := ⟨4, 0, 0, 1, 0, 0⟩
theorem ok4 : f4.Ok := ⟨by decide, by decide, by decide, by decide, by decide, by decide, by decide, by decide, by decide, by decide⟩
theorem code4 : codeF f4 = 1 := by decide
theorem code0 : codeF zeroF = 13 := by decide
set_option maxRecDepth 100000 in
set_option maxHeartbeats 400000 in
theorem lost_any (g : Nat) (v : Value) (l : Nat) (w : World) (h : Blk w g 46 [v, .int .i64 (l : Int)]) : Calls Try.prog 25 #[.pointer (some ⟨g, 0, none⟩)] w fun e w' => e = .returned (.int .i64 (l : Int)) ∧ w = w' := by
  have e1 : w.cell? ⟨g, 1, none⟩ = some (.int .i64 (l : Int)) := h.cell 1
  clear h
  go_enter Try.func25, Try.ntmps25
  go_wp2_with fail
  go_ret
  exact ⟨rfl, rfl⟩
set_option maxRecDepth 100000 in
set_option maxHeartbeats 400000 in
theorem waits_any (g : Nat) (A : Option Addr) (n cap : Nat) (l : Nat) (w : World) (h : Blk w g 46 [.slice A n cap, .int .i64 (l : Int)]) : Calls Try.prog 26 #[.pointer (some ⟨g, 0, none⟩)] w fun e w' => e = .returned (.int .i64 (n : Int)) ∧ w = w' := by
  have e1 : w.cell? ⟨g, 0, none⟩ = some (.slice A n cap) := h.cell 0
  clear h
  go_enter Try.func26, Try.ntmps26
  go_wp2_with fail
  go_ret
  exact ⟨rfl, rfl⟩
end Frm
end Go.Proofs.Ytijijfggppnbpaa
