/-
  The walk of the reference's Add.
-/
import Derived.Test.YtpnafccedgjaeaaProfW7
namespace Go.Proofs.Ytpnafccedgjaeaa
open Go.RowKit
namespace Prof

theorem near_val (a b gap : Int) (c : Bool) (w : World) (ha : inB a) (hb : inB b) (hc : (decide (a - b < gap) && decide (b - a < gap)) = c) : Calls Try.prog 48 #[.int .i64 a, .int .i64 b, .int .i64 gap] w fun e w' => e = .returned (.bool c) ∧ w' = w := by
  rw [← hc]
  exact (near_any a b gap w ha hb).mono fun _ _ h => ⟨h.1, h.2.symm⟩

set_option maxHeartbeats 1000000 in
/-- near the last one: nothing is done -/
theorem radd_near (A : Option Addr) (L : List Smp) (n cap : Nat) (x y gap z : Int) (w : World) (hx : inB x) (hy : inB y) (hl : L.length = n) (hn : n ≤ 64) (h : RdS w w.heap.size A L) (hs : ∀ s ∈ L, okS s) (hnr : rnear ⟨L, x, y, gap⟩ = true) :
    Calls Try.prog 28 #[rv (.slice A n cap) x y gap, .int .i64 z] w fun e w' => e = .returned (.tuple #[rv (.slice A n cap) x y gap, .bool false]) ∧ Below w.heap.size w w' := by
  unfold rnear at hnr
  rw [Bool.and_eq_true, decide_eq_true_eq] at hnr
  obtain ⟨h0, hnr⟩ := hnr
  obtain ⟨b, rfl, hb, hc⟩ := (h.below (bt (bl w (.cells #[.slice A n cap, .int .i64 x, .int .i64 y, .int .i64 gap] 46)) (bl _ (.cells #[.slice none 0 0, .int .i64 0, .int .i64 0, .int .i64 0] 46)))).at h0
  dsimp only at h0
  obtain ⟨m, rfl⟩ : ∃ m, n = m + 1 := ⟨n - 1, by omega⟩
  have hk : m < L.length := by omega
  obtain ⟨c1, c2, _⟩ := hc m hk
  have hok := hs _ (List.getElem_mem hk)
  have hg : L.getD (L.length - 1) ⟨0, 0, 0⟩ = L[m] := by
    rw [List.getD_eq_getElem?_getD, hl, Nat.add_sub_cancel, List.getElem?_eq_getElem hk]
    rfl
  dsimp only at hnr
  rw [hg] at hnr
  clear hg hs hc
  generalize L[m] = s at *
  unfold nearS at hnr
  rw [Bool.and_eq_true] at hnr
  obtain ⟨n1, n2⟩ := hnr
  have i1 : IntKind.i64.wrap (m : Int) = (m : Int) := IntWalk.i64_in _ (by omega)
  have i2 : (m : Int) < (m : Int) + 1 := by omega
  have i3 : (0 : Int) < (m : Int) + 1 := by omega
  have N1 := Lib.hid n1
  have N2 := Lib.hid n2
  have ok1 := hok.1
  have ok2 := hok.2.1
  clear n1 n2 hok hk h0 h hl
  unfold rv
  go_enter Try.func28, Try.ntmps28
  go_wp2
  go_quiet ((go_at_call 48; exact Calls.quiet_of_same (near_val _ _ _ true _ (by assumption) (by assumption) (by first | exact N1.out | exact N2.out))))
  go_wp2
  exact bodyPost_ret (v := .tuple #[.agg #[.slice (some ⟨b, 0, none⟩) (m + 1) cap, .int .i64 x, .int .i64 y, .int .i64 gap], .bool false]) (by simp [results, Try.results28, go_sem]) rfl ⟨rfl, ((((below_drewN (bt (bl _ _) (bl _ _)) _).setCell (Nat.le_succ _) _).setCell (Nat.le_succ _) _).setCell (Nat.le_succ _) _).setCell (Nat.le_succ _) _⟩

end Prof
end Go.Proofs.Ytpnafccedgjaeaa
