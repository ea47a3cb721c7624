/-
  The law FrameFinds, joined.
-/
import Derived.Test.YtijijfggppnbpaaFrmD
import Derived.Test.YtijijfggppnbpaaFrmL3
import Derived.Test.YtijijfggppnbpaaFrmV2
namespace Go.Proofs.Ytijijfggppnbpaa
open Go.RowKit Go.Shelf
set_option linter.unusedVariables false
namespace Frm
open Txt (kind_cases bv bv_one)
set_option maxRecDepth 100000 in
set_option maxHeartbeats 1000000 in
theorem lawFinds_long (A : Option Addr) (N cap : Nat) (hN : 400 < N) (hwk : ∀ w, Calls Try.prog 17 #[] w fun e w' => e = .returned (.bool true) ∧ Below w.heap.size w w') (w0 : World) :
    Calls Try.prog 5 #[.slice A N cap] w0 fun e w' => e = .returned (.bool true) ∧ Below w0.heap.size w0 w' := by
  have hI : (400 : Int) < (N : Int) := by omega
  refine callsIn_wide.1 (callsIn_of_wp_marks (n := 9) Try.func5 rfl trivial ?_ rfl)
  simp only [Try.ntmps5, List.size_toArray, List.length_cons, List.length_nil, Nat.reduceAdd, Nat.reduceSub, Array.replicate_succ, Array.replicate_zero, List.push_toArray, List.append_toArray, List.nil_append, List.cons_append]
  refine wpIn_wide.2 ?_
  go_wp2_with fail
  refine (hwk _).mono ?_
  rintro e w3 ⟨rfl, hb⟩
  have hr : Blk w3 w0.heap.size 4 [.bool false] := (Blk.mk w0 4 [.bool false]).next hb
  have r0 : w3.cell? ⟨w0.heap.size, 0, none⟩ = some (.bool false) := hr.cell 0
  have r1 := hr.free 0
  have HB := Lib.hid hb
  clear hb hr
  go_wp2_with fail
  have hc : (w3.setCell ⟨w0.heap.size, 0, none⟩ (.bool true)).cell? ⟨w0.heap.size, 0, none⟩ = some (.bool true) := World.cell?_setCell_same' _ _ _ (by rw [r0]; rfl)
  have hB : Below w0.heap.size w0 (w3.setCell ⟨w0.heap.size, 0, none⟩ (.bool true)) := (_root_.Go.Proofs.Ytijijfggppnbpaa.bt (bl _ _) HB.out).setCell (Nat.le_refl _) _
  refine ⟨.bool true, ?_, rfl, hB⟩
  simp [results, go_sem, hc]
theorem walkFFinds (v0 : Value) (W : World) (h0 : VSat W (.slice (.int .u8)) false v0) :
    Calls Try.prog 5 #[v0] W fun e W' => e = .returned (.bool true) ∧ Below W.heap.size W W' := by
  obtain ⟨A, L, cap, rfl, hr, hc, hm, hA⟩ := open_bytes' h0
  by_cases hl : 400 < L.length
  · exact lawFinds_long A L.length cap hl works12_any W
  · exact lawFinds_core A L L.length cap rfl (by omega) hc hA works12_any W hr
end Frm
end Go.Proofs.Ytijijfggppnbpaa
