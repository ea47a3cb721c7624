/-
  The walks of the document's answer for votes: a new panel, a channel that is believed again.
-/
import Derived.Test.YtoaagemofjddiaaVotR3
import Derived.Deep.DeepCutAuto
namespace Go.Proofs.Ytoaagemofjddiaa
open Go.RowKit
set_option linter.unusedVariables false
namespace Vot

theorem heap_drew_sz (w : World) : w.drew.heap.size = w.heap.size := rfl
set_option maxRecDepth 100000 in
theorem mk_ints (n : Nat) (h1 : 1 ≤ n) (h5 : n ≤ 5) : ∀ w, (Instr.makeSlice 72 (.int .i64 (n : Int)) (.int .i64 (n : Int))).run Try.prog w = .ok (.slice (some ⟨w.heap.size, 0, none⟩) n n) (w.alloc (.cells (List.replicate n (Value.int .i64 0)).toArray 3)) := by
  have : n = 1 ∨ n = 2 ∨ n = 3 ∨ n = 4 ∨ n = 5 := by omega
  intro w
  rcases this with rfl | rfl | rfl | rfl | rfl <;> kernel_rfl
set_option maxRecDepth 100000 in
theorem mk_bools (n : Nat) (h1 : 1 ≤ n) (h5 : n ≤ 5) : ∀ w, (Instr.makeSlice 58 (.int .i64 (n : Int)) (.int .i64 (n : Int))).run Try.prog w = .ok (.slice (some ⟨w.heap.size, 0, none⟩) n n) (w.alloc (.cells (List.replicate n (Value.bool false)).toArray 4)) := by
  have : n = 1 ∨ n = 2 ∨ n = 3 ∨ n = 4 ∨ n = 5 := by omega
  intro w
  rcases this with rfl | rfl | rfl | rfl | rfl <;> kernel_rfl
theorem new_rdA (w : World) (t : TypeId) (n : Nat) (v : Value) : RdL (w.alloc (.cells (Array.replicate n v) t)) w.heap.size (w.heap.size + 1) (some ⟨w.heap.size, 0, none⟩) (List.replicate n v) := by
  have := new_rd w t (List.replicate n v)
  simpa using this
theorem new_skc (n : Nat) (ap most : Int) : skc (new n ap most) = List.replicate n (.int .i64 0) := by simp [skc, new]
theorem new_isc (n : Nat) (ap most : Int) : isc (new n ap most) = List.replicate n (.bool false) := by simp [isc, new]
set_option maxRecDepth 100000 in
set_option maxHeartbeats 2000000 in
theorem rnew_any (n : Nat) (ap most : Int) (h1 : 1 ≤ n) (h5 : n ≤ 5) (w : World) : Calls Try.prog 32 #[.int .i64 (n : Int), .int .i64 ap, .int .i64 most] w (GotP w (new n ap most)) := by
  have m1 := mk_ints n h1 h5
  have m2 := mk_bools n h1 h5
  have B0 := Blk.mk w 74 [Value.int .i64 0, .int .i64 0, .slice none 0 0, .slice none 0 0]
  have f0 := B0.free 0
  have f1 := B0.free 1
  have f2 := B0.free 2
  have f3 := B0.free 3
  clear B0
  go_enter Try.func32, Try.ntmps32
  go_wp2
  go_region
  all_goals go_wp2
  · refine bodyPost_ret (v := rpv (new n ap most) (some ⟨w.heap.size + 1, 0, none⟩) (some ⟨w.heap.size + 1 + 1, 0, none⟩) n n) (by simp [results, Try.results32, go_sem, rpv, new]) rfl ?_
    refine ⟨_, _, n, n, rfl, ⟨?_, ?_⟩, ?_⟩
    · rw [new_skc]
      have := (new_rdA (w.alloc (.cells #[Value.int .i64 ap, .int .i64 most, .slice (some ⟨w.heap.size + 1, 0, none⟩) n n, .slice (some ⟨w.heap.size + 1 + 1, 0, none⟩) n n] 74)) 3 n (Value.int .i64 0)).alloc (.cells (Array.replicate n (Value.bool false)) 4)
      simp only [heap_alloc_sz] at this
      refine RdL.drew ?_
      refine this.wide ?_ ?_
      · omega
      · simp
    · rw [new_isc]
      have := new_rdA ((w.alloc (.cells #[Value.int .i64 ap, .int .i64 most, .slice (some ⟨w.heap.size + 1, 0, none⟩) n n, .slice (some ⟨w.heap.size + 1 + 1, 0, none⟩) n n] 74)).alloc (.cells (Array.replicate n (Value.int .i64 0)) 3)) 4 n (Value.bool false)
      simp only [heap_alloc_sz] at this
      refine RdL.drew ?_
      refine this.wide ?_ ?_
      · omega
      · simp
    · exact (((bl _ _).alloc (by simp) _).alloc (by simp; omega) _).drew
  · refine bodyPost_ret (v := rpv (new n ap most) (some ⟨w.heap.size + 1 + 1, 0, none⟩) (some ⟨w.heap.size + 1, 0, none⟩) n n) (by simp [results, Try.results32, go_sem, rpv, new]) rfl ?_
    refine ⟨_, _, n, n, rfl, ⟨?_, ?_⟩, ?_⟩
    · rw [new_skc]
      have := new_rdA ((w.alloc (.cells #[Value.int .i64 ap, .int .i64 most, .slice (some ⟨w.heap.size + 1 + 1, 0, none⟩) n n, .slice (some ⟨w.heap.size + 1, 0, none⟩) n n] 74)).alloc (.cells (Array.replicate n (Value.bool false)) 4)) 3 n (Value.int .i64 0)
      simp only [heap_alloc_sz] at this
      refine RdL.drew ?_
      refine this.wide ?_ ?_
      · omega
      · simp
    · rw [new_isc]
      have := (new_rdA (w.alloc (.cells #[Value.int .i64 ap, .int .i64 most, .slice (some ⟨w.heap.size + 1 + 1, 0, none⟩) n n, .slice (some ⟨w.heap.size + 1, 0, none⟩) n n] 74)) 4 n (Value.bool false)).alloc (.cells (Array.replicate n (Value.int .i64 0)) 3)
      simp only [heap_alloc_sz] at this
      refine RdL.drew ?_
      refine this.wide ?_ ?_
      · omega
      · simp
    · exact (((bl _ _).alloc (by simp) _).alloc (by simp; omega) _).drew
/-- what a reset hands back -/
def GotPB (w : World) (p : Pa) (b : Bool) (e : Ending) (w' : World) : Prop := ∃ A1 A2 c1 c2, e = .returned (.tuple #[rpv p A1 A2 c1 c2, .bool b]) ∧ RP w' w.heap.size w'.heap.size p A1 A2 c1 c2 ∧ Below w.heap.size w w'
set_option maxRecDepth 100000 in
set_option maxHeartbeats 2000000 in
theorem rreset_in {w : World} {lo hi c1 c2 : Nat} {p : Pa} {A1 A2 : Option Addr} (S : RP w lo hi p A1 A2 c1 c2) {B : Nat} (hok : p.ok B) (hhi : hi ≤ w.heap.size) {i : Nat} (h : i < p.out.length) :
    Calls Try.prog 33 #[rpv p A1 A2 c1 c2, .int .i64 (i : Int)] w (GotPB w (p.put i 0 false) true) := by
  have S2 := (S.alloc (.cells (rpc p A1 A2 c1 c2).toArray 74)).alloc (.cells [Value.int .i64 0, .int .i64 0, .slice none 0 0, .slice none 0 0].toArray 74)
  have hset := set_any S2 hok (by simp; omega) (s := 0) h false
  have B1 := Blk.mk (w.alloc (.cells (rpc p A1 A2 c1 c2).toArray 74)) 74 [Value.int .i64 0, .int .i64 0, .slice none 0 0, .slice none 0 0]
  rw [heap_alloc_sz] at B1
  have K := (bl w (.cells (rpc p A1 A2 c1 c2).toArray 74)).alloc (by simp) (.cells [Value.int .i64 0, .int .i64 0, .slice none 0 0, .slice none 0 0].toArray 74)
  have H1 := Lib.hid B1
  have HK := Lib.hid K
  have d1 : decide ((i : Int) < 0) = false := decide_eq_false (by omega)
  have d2 : decide (p.out.length ≤ i) = false := decide_eq_false (by omega)
  have i1 : ¬ (p.out.length : Int) ≤ (i : Int) := by omega
  have hl := Lib.hid hok.len
  have hq := put_len p i 0 false
  have HQ := Lib.hid hq
  clear B1 K S2 S h hok hq
  unfold rpv at *
  unfold rpc at *
  go_enter Try.func33, Try.ntmps33
  go_wp2_with fail
  refine hset.mono ?_
  rintro e w1 ⟨A3, A4, c3, c4, rfl, hR, hb⟩
  have X1 := H1.out.next hb
  have z0 := X1.free 0
  have z1 := X1.free 1
  have z2 := X1.free 2
  have z3 := X1.free 3
  have u0 : w1.cell? ⟨w.heap.size + 1, 0, none⟩ = some (.int .i64 0) := X1.cell 0
  have u1 : w1.cell? ⟨w.heap.size + 1, 1, none⟩ = some (.int .i64 0) := X1.cell 1
  have u2 : w1.cell? ⟨w.heap.size + 1, 2, none⟩ = some (.slice none 0 0) := X1.cell 2
  have u3 : w1.cell? ⟨w.heap.size + 1, 3, none⟩ = some (.slice none 0 0) := X1.cell 3
  have HRR := Lib.hid hR
  have HB := Lib.hid (bt HK.out hb)
  clear hR hb X1 hset
  unfold rpv
  go_wp2
  refine bodyPost_ret (v := .tuple #[rpv (p.put i 0 false) A3 A4 c3 c4, .bool true]) (by simp [results, Try.results33, go_sem, rpv, u0, u1, u2, u3]) rfl ?_
  have r0 := HRR.out
  refine ⟨A3, A4, c3, c4, rfl, ?_, ?_⟩
  · have := (((r0.far (q := ⟨w.heap.size + 1, 0, none⟩) (.inl (by show w.heap.size + 1 < _; simp)) (.int .i64 (p.put i 0 false).ap)).far (q := ⟨w.heap.size + 1, 1, none⟩) (.inl (by show w.heap.size + 1 < _; simp)) (.int .i64 (p.put i 0 false).most)).far (q := ⟨w.heap.size + 1, 2, none⟩) (.inl (by show w.heap.size + 1 < _; simp)) (.slice A3 (p.put i 0 false).st.length c3)).far (q := ⟨w.heap.size + 1, 3, none⟩) (.inl (by show w.heap.size + 1 < _; simp)) (.slice A4 (p.put i 0 false).out.length c4)
    refine this.wide ?_ ?_
    · simp; omega
    · simp
  · exact (((HB.out.setCell (by show w.heap.size ≤ w.heap.size + 1; omega) _).setCell (by show w.heap.size ≤ w.heap.size + 1; omega) _).setCell (by show w.heap.size ≤ w.heap.size + 1; omega) _).setCell (by show w.heap.size ≤ w.heap.size + 1; omega) _
set_option maxRecDepth 100000 in
set_option maxHeartbeats 2000000 in
theorem rreset_out {w : World} {lo hi c1 c2 : Nat} {p : Pa} {A1 A2 : Option Addr} (S : RP w lo hi p A1 A2 c1 c2) (hhi : hi ≤ w.heap.size) {i : Int} (h : i < 0 ∨ (p.out.length : Int) ≤ i) :
    Calls Try.prog 33 #[rpv p A1 A2 c1 c2, .int .i64 i] w fun e w' => e = .returned (.tuple #[rpv p A1 A2 c1 c2, .bool false]) ∧ Below w.heap.size w w' := by
  have B1 := Blk.mk (w.alloc (.cells (rpc p A1 A2 c1 c2).toArray 74)) 74 [Value.int .i64 0, .int .i64 0, .slice none 0 0, .slice none 0 0]
  rw [heap_alloc_sz] at B1
  have K := (bl w (.cells (rpc p A1 A2 c1 c2).toArray 74)).alloc (by simp) (.cells [Value.int .i64 0, .int .i64 0, .slice none 0 0, .slice none 0 0].toArray 74)
  have HK := Lib.hid K
  have z0 := B1.free 0
  have z1 := B1.free 1
  have z2 := B1.free 2
  have z3 := B1.free 3
  clear B1 K S
  by_cases h0 : i < 0
  · have d1 : decide (i < 0) = true := decide_eq_true h0
    clear h
    unfold rpv at *
    unfold rpc at *
    go_enter Try.func33, Try.ntmps33
    go_wp2
    refine bodyPost_ret (v := .tuple #[rpv p A1 A2 c1 c2, .bool false]) (by simp [results, Try.results33, go_sem, rpv]) rfl ?_
    exact ⟨rfl, (bl _ _).alloc (by simp) _⟩
  · have d1 : decide (i < 0) = false := decide_eq_false h0
    have h1 : (p.out.length : Int) ≤ i := by omega
    have d2 : decide ((p.out.length : Int) ≤ i) = true := decide_eq_true h1
    clear h
    unfold rpv at *
    unfold rpc at *
    go_enter Try.func33, Try.ntmps33
    go_wp2
    refine bodyPost_ret (v := .tuple #[rpv p A1 A2 c1 c2, .bool false]) (by simp [results, Try.results33, go_sem, rpv]) rfl ?_
    exact ⟨rfl, (bl _ _).alloc (by simp) _⟩
end Vot
end Go.Proofs.Ytoaagemofjddiaa
