/-
  The walks of package recorder: New, Cells, Next, Bytes, cell.
-/
import Derived.Test.YtijijfggppnbpaaRecP
import Derived.Test.YtijijfggppnbpaaRecA
import Derived.Laws.MakeOwn
namespace Go.Proofs.Ytijijfggppnbpaa
open Go.RowKit
set_option linter.unusedVariables false
namespace Rec
open Frm Txt
/-- a recorder, in memory: its bytes' slice and its next number -/
structure RB (w : World) (gr gb cap : Nat) (B : List UInt8) (n : Nat) : Prop where
  box : Blk w gr 108 [.slice (some ⟨gb, 0, none⟩) B.length cap, .int .u64 (n : Int)]
  own : w.ownsRow gb 5 1 (.slice (some ⟨gb, 0, none⟩) B.length cap) B.length (B.map bv)
  ne : gb ≠ gr
theorem RB.next {w w' : World} {gr gb cap : Nat} {B : List UInt8} {n : Nat} (S : RB w gr gb cap B n) (hb : Below w.heap.size w w') : RB w' gr gb cap B n := ⟨S.box.next hb, own_next S.own hb, S.ne⟩
theorem RB.cells {w : World} {gr gb cap : Nat} {B : List UInt8} {n : Nat} (S : RB w gr gb cap B n) : w.cell? ⟨gr, 0, none⟩ = some (.slice (some ⟨gb, 0, none⟩) B.length cap) ∧ w.cell? ⟨gr, 1, none⟩ = some (.int .u64 (n : Int)) := ⟨S.box.cell 0, S.box.cell 1⟩
theorem next_any {w : World} {gr gb cap : Nat} {B : List UInt8} {n : Nat} (S : RB w gr gb cap B n) :
    Calls Try.prog 44 #[.pointer (some ⟨gr, 0, none⟩)] w fun e w' => e = .returned (.int .u64 (n : Int)) ∧ w = w' := by
  obtain ⟨c0, c1⟩ := S.cells
  clear S
  go_enter Try.func44, Try.ntmps44
  go_wp2
  go_ret
  exact ⟨rfl, rfl⟩
theorem cells_any {w : World} {gr gb cap : Nat} {B : List UInt8} {n k : Nat} (S : RB w gr gb cap B n) (hk : B.length = 40 * k) (hk2 : k ≤ 1024) :
    Calls Try.prog 45 #[.pointer (some ⟨gr, 0, none⟩)] w fun e w' => e = .returned (.int .i64 (k : Int)) ∧ w = w' := by
  obtain ⟨c0, c1⟩ := S.cells
  rw [hk] at c0
  have t : ((40 * k : Nat) : Int).tdiv 40 = (k : Int) := by rw [Int.tdiv_eq_ediv_of_nonneg (by omega)]; omega
  have w1 : IntKind.i64.wrap (k : Int) = (k : Int) := IntWalk.i64_in _ (by omega)
  obtain ⟨m, hm⟩ : ∃ m, m = 40 * k := ⟨_, rfl⟩
  rw [← hm] at c0 t
  have HM := Lib.hid hm
  clear S hk hm
  go_enter Try.func45, Try.ntmps45
  go_wp2
  go_ret
  exact ⟨rfl, rfl⟩
theorem mk_row {P : Program} (t e : TypeId) (i : TypeInfo) (z : Value) (ht : P.underlying t = some (.slice e)) (hi : P.info? e = some i) (hz : i.zero = some z) (hone : z.cells = #[z]) (h1 : i.size = 1) (hb : i.bytes ≤ 8) (n : Nat) (hn : n ≤ 100000) (w : World) :
    (Instr.makeSlice t (.int .i64 (n : Int)) (.int .i64 (n : Int))).run P w = .ok (.slice (some ⟨w.heap.size, 0, none⟩) n n) (w.alloc (.cells (List.replicate n z).toArray e)) := by
  have hm : i.bytes * n ≤ 8 * 100000 := Nat.mul_le_mul hb hn
  have hb' : (i.bytes : Int) * (n : Int) ≤ 281474976710656 := by
    have h : ((i.bytes * n : Nat) : Int) ≤ 281474976710656 := by omega
    rwa [Int.natCast_mul] at h
  have hr := run_make (P := P) w t e i z ht hi hz .i64 .i64 n n (by omega) (Int.le_refl _) hb' (by omega)
  rw [hone, h1, Nat.mul_one, Int.toNat_natCast] at hr
  rw [hr]
  have : madeCells #[z] n = (List.replicate n z).toArray := by
    apply Array.toList_inj.1
    rw [toList_madeCells_one]
  rw [this]
theorem own_of_blk {w : World} {g base : Nat} {t : TypeId} {l : List Value} (h : Blk w g t l) (hb : base ≤ g) (hl : l.length ≤ maxLen) : w.ownsRow base t 1 (.slice (some ⟨g, 0, none⟩) l.length l.length) l.length l :=
  ⟨by simp, .inr ⟨g, l.length, l.toArray, rfl, hb, h, Nat.le_refl _, hl, by simp, by simp⟩⟩
/-- a new recorder is handed back -/
def GotR (w : World) (B : List UInt8) (n : Nat) (e : Ending) (w' : World) : Prop :=
  ∃ gr gb cap, e = .returned (.tuple #[.pointer (some ⟨gr, 0, none⟩), .int .i64 0]) ∧ RB w' gr gb cap B n ∧ w.heap.size ≤ gr ∧ w.heap.size ≤ gb ∧ Below w.heap.size w w'
theorem new_ok {k : Nat} (h1 : 1 ≤ k) (h2 : k ≤ 1024) (w : World) : Calls Try.prog 51 #[.int .i64 (k : Int)] w (GotR w (List.replicate (40 * k) 0) 1) := by
  obtain ⟨i0, hi', hz0, hz1, hz2⟩ := info_parts infoByte
  have hmk := mk_row (P := Try.prog) 26 5 i0 _ Try.underlying26 hi' hz0 rfl hz1 (by omega) (40 * k) (by omega) w
  have d1 : decide ((k : Int) < 1) = false := decide_eq_false (by omega)
  have d2 : decide (1024 < (k : Int)) = false := decide_eq_false (by omega)
  have y1 : IntKind.i64.wrap ((k : Int) * 40) = ((40 * k : Nat) : Int) := by rw [IntWalk.i64_in _ (by omega)]; omega
  obtain ⟨m, hm⟩ : ∃ m, m = 40 * k := ⟨_, rfl⟩
  rw [← hm] at hmk y1 ⊢
  have hb1 := Blk.mk w 5 (List.replicate m (Value.int .u8 0))
  have hbz : List.replicate m (Value.int .u8 0) = (List.replicate m (0 : UInt8)).map bv := by rw [List.map_replicate]; rfl
  have hm3 : m ≤ 100000 := by omega
  have HM := Lib.hid hm
  have HB1 := Lib.hid hb1
  have HBZ := Lib.hid hbz
  clear hm hb1 hbz
  go_enter Try.func51, Try.ntmps51
  go_wp2
  go_ret2
  have hs : (w.alloc (.cells (List.replicate m (Value.int .u8 0)).toArray 5)).heap.size = w.heap.size + 1 := by simp
  refine ⟨w.heap.size + 1, w.heap.size, m, rfl, ⟨?_, ?_, by omega⟩, by omega, Nat.le_refl _, (bl _ _).alloc (by simp) _⟩
  · have := Blk.mk (w.alloc (.cells (List.replicate m (Value.int .u8 0)).toArray 5)) 108 [.slice (some ⟨w.heap.size, 0, none⟩) m m, .int .u64 1]
    rw [hs] at this
    rw [List.length_replicate]
    exact this
  · have := own_of_blk (base := w.heap.size) (HB1.out.alloc (.cells [.slice (some ⟨w.heap.size, 0, none⟩) m m, .int .u64 1].toArray 108)) (Nat.le_refl _) (by rw [List.length_replicate]; simp only [maxLen]; omega)
    rw [List.length_replicate] at this ⊢
    rw [← HBZ.out]
    exact this
theorem new_bad {k : Int} (h : k < 1 ∨ 1024 < k) (w : World) : Calls Try.prog 51 #[.int .i64 k] w fun e w' => e = .returned (.tuple #[.pointer none, .int .i64 2]) ∧ w = w' := by
  by_cases h1 : k < 1
  · have d1 : decide (k < 1) = true := decide_eq_true h1
    clear h
    go_enter Try.func51, Try.ntmps51
    go_wp2
    go_ret2
    exact ⟨rfl, rfl⟩
  · have d1 : decide (k < 1) = false := decide_eq_false h1
    have d2 : decide (1024 < k) = true := decide_eq_true (by omega)
    clear h
    go_enter Try.func51, Try.ntmps51
    go_wp2
    go_ret2
    exact ⟨rfl, rfl⟩
end Rec
end Go.Proofs.Ytijijfggppnbpaa
