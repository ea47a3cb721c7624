/-
  The walks of bits.Writer: a bit is written.
-/
import Derived.Test.YtgncngpgodfijaaChecked
import Derived.Test.YtgncngpgodfijaaRows
import Derived.Test.YtgncngpgodfijaaRow
import Derived.Test.YtgncngpgodfijaaBitsP
import Derived.StillTailTactics
import Derived.IntWalk
import Derived.Deep.DeepCutAuto
import Derived.Outline
namespace Go.Proofs.Ytgncngpgodfijaa
open Go.RowKit
namespace Bits

theorem infoByte : (Try.prog.info? 5).map (fun i => (i.zero, i.size, i.bytes)) = some (some (.int .u8 0), 1, 1) := by kernel_rfl
/-- bytes as values -/
def bv (c : UInt8) : Value := .int .u8 (c.toNat : Int)
theorem bv_one (l : List UInt8) : ∀ u ∈ l.map bv, u.oneCell' = true := by
  intro u hu
  obtain ⟨c, _, rfl⟩ := List.mem_map.1 hu
  rfl
/-- the writer at g holds the bits l, in the slice v -/
structure WB (w : World) (g : Nat) (v : Value) (l : List Bool) : Prop where
  blk : Blk w g 26 [v, .int .i64 (l.length : Int)]
  own : w.ownsRow 0 5 1 v (nb l.length) ((pack l).map bv)
  ne : v.ownBlock ≠ some g
/-- nothing but the writer at g, whose slice is v, has changed -/
structure WF (w : World) (g : Nat) (v : Value) (w' : World) (v' : Value) : Prop where
  os : w'.os = w.os
  tape : w'.tape = w.tape
  output : w'.output = w.output
  size : w.heap.size ≤ w'.heap.size
  block : ∀ i, i < w.heap.size → i ≠ g → v.ownBlock ≠ some i → w'.heap[i]? = w.heap[i]?
  own : v'.ownBlock = v.ownBlock ∨ ∀ b, v'.ownBlock = some b → w.heap.size ≤ b
theorem WF.refl (w : World) (g : Nat) (v : Value) : WF w g v w v := ⟨rfl, rfl, rfl, Nat.le_refl _, fun _ _ _ _ => rfl, .inl rfl⟩
theorem WF.trans {a b c : World} {g : Nat} {u v x : Value} (h : WF a g u b v) (k : WF b g v c x) : WF a g u c x := by
  refine ⟨k.os.trans h.os, k.tape.trans h.tape, k.output.trans h.output, Nat.le_trans h.size k.size, fun i h1 h2 h3 => ?_, ?_⟩
  · refine (k.block i (Nat.lt_of_lt_of_le h1 h.size) h2 ?_).trans (h.block i h1 h2 h3)
    intro e
    rcases h.own with ho | ho
    · rw [ho] at e; exact h3 e
    · have := ho i e; omega
  · rcases k.own with ko | ko
    · rw [ko]; exact h.own
    · exact .inr fun b hb => Nat.le_trans h.size (ko b hb)
theorem WF.set {a w : World} {g : Nat} {u v : Value} (h : WF a g u w v) (i : Nat) (x : Value) : WF a g u (w.setCell ⟨g, i, none⟩ x) v :=
  ⟨h.os, h.tape, h.output, by simpa using h.size, fun k h1 h2 h3 => (Below.heap_setCell w ⟨g, i, none⟩ x k h2).trans (h.block k h1 h2 h3), h.own⟩
theorem WF.alloc {a w : World} {g : Nat} {u v : Value} (h : WF a g u w v) (o : Obj) : WF a g u (w.alloc o) v :=
  ⟨h.os, h.tape, h.output, by have := h.size; simp; omega, fun k h1 h2 h3 => (Below.heap_alloc w o k (Nat.lt_of_lt_of_le h1 h.size)).trans (h.block k h1 h2 h3), h.own⟩
theorem WF.drew {a w : World} {g : Nat} {u v : Value} (h : WF a g u w v) : WF a g u w.drew v := ⟨h.os, h.tape, h.output, h.size, h.block, h.own⟩
theorem WF.grown {w w' : World} {g : Nat} {v v' : Value} (h : w.grownBy w' v.ownBlock) (ho : v'.ownBlock = v.ownBlock ∨ ∀ b, v'.ownBlock = some b → w.heap.size ≤ b) : WF w g v w' v' :=
  ⟨h.os, h.tape, h.output, h.size, fun i h1 _ h3 => h.block i h1 (fun e => h3 e.symm), ho⟩
/-- what lies beside the writer is kept -/
theorem WF.below {w w' : World} {g B : Nat} {v v' : Value} {a : World} (h : WF w g v w' v') (hb : Below B a w) (hB : B ≤ w.heap.size) (hg : B ≤ g) (hv : ∀ b, v.ownBlock = some b → B ≤ b) : Below B a w' :=
  ⟨h.os.trans hb.os, h.tape.trans hb.tape, h.output.trans hb.output, Nat.le_trans hb.size h.size, fun k hk =>
    (h.block k (by omega) (by omega) (fun e => by have := hv k e; omega)).trans (hb.block k hk)⟩
def GotW (w : World) (g : Nat) (v : Value) (l : List Bool) (e : Ending) (w' : World) : Prop :=
  e = .returned (.tuple #[]) ∧ ∃ v', WB w' g v' l ∧ WF w g v w' v'

theorem or_walk (l : List Bool) : Go.bits .or .u8 ((UInt8.ofNat (byteOf l (l.length / 8))).toNat : Int) ((128 : Int) / 2 ^ ((l.length : Int) % 8).toNat) = ((UInt8.ofNat (byteOf (l ++ [true]) (l.length / 8))).toNat : Int) := by
  rw [byte_nat, byte_nat, ← byteOf_or]
  have e : ((l.length : Int) % 8).toNat = l.length % 8 := by omega
  rw [e]
  have hlt := byteOf_lt l (l.length / 8)
  have hr : l.length % 8 < 8 := Nat.mod_lt _ (by decide)
  generalize byteOf l (l.length / 8) = c at *
  generalize l.length % 8 = r at *
  revert c
  have hc : r = 0 ∨ r = 1 ∨ r = 2 ∨ r = 3 ∨ r = 4 ∨ r = 5 ∨ r = 6 ∨ r = 7 := by omega
  rcases hc with rfl | rfl | rfl | rfl | rfl | rfl | rfl | rfl <;> decide +kernel

/-- the writer on the way: its bytes are B -/
structure Mid (w : World) (g : Nat) (v : Value) (n : Nat) (w2 : World) (q m cap : Nat) (B : List UInt8) : Prop where
  blk : Blk w2 g 26 [.slice (some ⟨q, 0, none⟩) m cap, .int .i64 (n : Int)]
  own : w2.ownsRow 0 5 1 (.slice (some ⟨q, 0, none⟩) m cap) m (B.map bv)
  ne : q ≠ g
  wf : WF w g v w2 (.slice (some ⟨q, 0, none⟩) m cap)
theorem Mid.grow {w w1 : World} {g : Nat} {v : Value} {l : List Bool} {q cap : Nat} {x : Value} (h : WB w g v l) (h8 : l.length % 8 = 0)
    (hown : w1.ownsRow 0 5 1 (.slice (some ⟨q, 0, none⟩) (nb l.length + 1) cap) (nb l.length + 1) ((pack l).map bv ++ [.int .u8 0])) (hgrow : (w.alloc (.cells #[x] 5)).grownBy w1 v.ownBlock) (hq : v.ownBlock = some q ∨ q = w.heap.size + 1) :
    Mid w g v l.length (w1.setCell ⟨g, 0, none⟩ (.slice (some ⟨q, 0, none⟩) (nb l.length + 1) cap)) q (nb l.length + 1) cap (packN l (nb (l.length + 1))) ∧ w1.cell? ⟨g, 0, none⟩ = some v ∧ w1.frozen? ⟨g, 0, none⟩ = false := by
  have hgl := h.blk.lt
  have hne : q ≠ g := by
    intro e
    subst e
    rcases hq with hq | hq
    · exact h.ne hq
    · omega
  have hb1 : Blk w1 g 26 [v, .int .i64 (l.length : Int)] := (h.blk.alloc _).grown hgrow (fun e => h.ne e.symm)
  have hm : nb l.length + 1 = nb (l.length + 1) := by unfold nb; omega
  have hf : WF w g v w1 (.slice (some ⟨q, 0, none⟩) (nb l.length + 1) cap) := by
    refine ⟨hgrow.os, hgrow.tape, hgrow.output, ?_, fun i h1 h2 h3 => (hgrow.block i (by simp; omega) (fun e => h3 e.symm)).trans (Below.heap_alloc w _ i h1), ?_⟩
    · have := hgrow.size
      simp at this
      omega
    · rcases hq with hq | hq
      · exact .inl hq.symm
      · exact .inr fun b hb => by injection hb with hb; dsimp only at hb; omega
  refine ⟨⟨hb1.put 0 _, ?_, hne, hf.set 0 _⟩, hb1.cell 0, hb1.free 0⟩
  have e : (packN l (nb (l.length + 1))).map bv = (pack l).map bv ++ [.int .u8 0] := by
    rw [← pack_more l h8, List.map_append]
    rfl
  rw [e]
  refine hown.kept (row := some g) (only_set (only_refl _ _) 0 _) (.inr ?_)
  intro e
  injection e with e
  exact hne e
theorem Mid.keep {w : World} {g : Nat} {v : Value} {l : List Bool} (h : WB w g v l) (h8 : l.length % 8 ≠ 0) : ∃ q cap, v = .slice (some ⟨q, 0, none⟩) (nb l.length) cap ∧ Mid w g v l.length w q (nb l.length) cap (packN l (nb (l.length + 1))) := by
  obtain ⟨q, cap, rfl, _, _⟩ := h.own.form (by unfold nb; omega)
  refine ⟨q, cap, rfl, h.blk, ?_, fun e => h.ne (by rw [e]; rfl), WF.refl _ _ _⟩
  rw [← pack_same l h8]
  exact h.own
section
variable {w w2 : World} {g : Nat} {v : Value} {n q m cap : Nat} {B : List UInt8}
theorem Mid.cell (h : Mid w g v n w2 q m cap B) {i : Nat} {c : UInt8} (hi : B[i]? = some c) : w2.cell? ⟨q, i, none⟩ = some (.int .u8 (c.toNat : Int)) ∧ w2.frozen? ⟨q, i, none⟩ = false := by
  have e : (B.map bv)[i]? = some (bv c) := by rw [List.getElem?_map, hi]; rfl
  have hl : (B.map bv).length = m * 1 := h.own.1
  have hlt : i < (B.map bv).length := (List.getElem?_eq_some_iff.1 e).1
  exact ⟨(h.own.cellAt _ (by omega)).trans e, h.own.frozenAt _⟩
theorem Mid.cells (h : Mid w g v n w2 q m cap B) : w2.cell? ⟨g, 0, none⟩ = some (.slice (some ⟨q, 0, none⟩) m cap) ∧ w2.cell? ⟨g, 1, none⟩ = some (.int .i64 (n : Int)) ∧ w2.frozen? ⟨g, 1, none⟩ = false := ⟨h.blk.cell 0, h.blk.cell 1, h.blk.free 1⟩
theorem Mid.drew (h : Mid w g v n w2 q m cap B) : Mid w g v n w2.drew q m cap B := ⟨h.blk, h.own, h.ne, h.wf.drew⟩
theorem Mid.put (h : Mid w g v n w2 q m cap B) (i : Nat) (c : UInt8) : Mid w g v n (w2.setCell ⟨q, i, none⟩ (.int .u8 (c.toNat : Int))) q m cap (B.set i c) := by
  refine ⟨h.blk.far (fun e => h.ne e.symm) _, ?_, h.ne, ?_⟩
  · rw [List.map_set]
    exact (h.own.stored i _).1
  · refine ⟨h.wf.os, h.wf.tape, h.wf.output, by simpa using h.wf.size, fun k h1 h2 h3 => ?_, h.wf.own⟩
    refine (Below.heap_setCell w2 ⟨q, i, none⟩ _ k ?_).trans (h.wf.block k h1 h2 h3)
    intro e
    dsimp only at e
    subst e
    rcases h.wf.own with ho | ho
    · exact h3 ho.symm
    · have := ho k rfl
      omega
theorem Mid.done (h : Mid w g v n w2 q m cap B) {l : List Bool} (hl : l.length = n + 1) (hm : m = nb l.length) (hB : B = pack l) : ∃ v', WB (w2.setCell ⟨g, 1, none⟩ (.int .i64 ((n : Int) + 1))) g v' l ∧ WF w g v (w2.setCell ⟨g, 1, none⟩ (.int .i64 ((n : Int) + 1))) v' := by
  subst hB
  refine ⟨_, ⟨?_, ?_, fun e => h.ne (by injection e)⟩, h.wf.set 1 _⟩
  · rw [hl]
    exact h.blk.put 1 _
  · have := h.own.kept (row := some g) (only_set (w := w2) (only_refl _ _) 1 (.int .i64 ((n : Int) + 1))) (.inr (fun e => h.ne (by injection e)))
    rw [← hm]
    exact this
end
set_option maxRecDepth 100000 in
set_option maxHeartbeats 400000 in
theorem bit_any (g : Nat) (v : Value) (l : List Bool) (b : Bool) (w : World) (h : WB w g v l) (hl : l.length ≤ 100000) :
    Calls Try.prog 56 #[.pointer (some ⟨g, 0, none⟩), .bool b] w (GotW w g v (l ++ [b])) := by
  obtain ⟨i0, hi, hz0, hz1, hz2⟩ := info_parts infoByte
  have hc0 : w.cell? ⟨g, 0, none⟩ = some v := h.blk.cell 0
  have hc1 : w.cell? ⟨g, 1, none⟩ = some (.int .i64 (l.length : Int)) := h.blk.cell 1
  have hf0 := h.blk.free 0
  have hgl := h.blk.lt
  have H := Lib.hid h
  clear h
  have hq8 : l.length / 8 < nb (l.length + 1) := by unfold nb; omega
  obtain ⟨c, hc⟩ : ∃ c, c = UInt8.ofNat (byteOf l (l.length / 8)) := ⟨_, rfl⟩
  obtain ⟨c', hc'⟩ : ∃ c', c' = UInt8.ofNat (byteOf (l ++ [true]) (l.length / 8)) := ⟨_, rfl⟩
  have hor := or_walk l
  rw [← hc, ← hc'] at hor
  have hget : (packN l (nb (l.length + 1)))[l.length / 8]? = some c := by rw [hc]; exact packN_get l _ _ hq8
  have hset : (packN l (nb (l.length + 1))).set (l.length / 8) c' = pack (l ++ [true]) := by rw [hc']; exact pack_true l
  have Hget := Lib.hid hget
  have Hset := Lib.hid hset
  have Hor := Lib.hid hor
  clear hor hget hset hc hc'
  have n1 : ((l.length : Int) / 8).toNat = l.length / 8 := by omega
  by_cases h8 : l.length % 8 = 0
  · have ht : ((l.length : Int) % 8 == 0) = true := by rw [beq_iff_eq]; omega
    have hm : nb l.length + 1 = nb (l.length + 1) := by unfold nb; omega
    have Hm := Lib.hid hm
    have H8 := Lib.hid h8
    clear h8 hm n1
    go_enter Try.func56, Try.ntmps56
    go_upto_region 2 with (at_builtin; refine wpList_append_lies _ rfl _ _ 24 rfl 0 5 i0 (.int .u8 0) 1 1 Try.underlying24 hi hz0 hz1 hz2 rfl (by decide) _ _ _ rfl (H.out.own.alloc _) ⟨w.heap.size, 0, none⟩ 1 1 [.int .u8 0] rfl rfl (cell_one_new _ _ _) (by simp [Value.oneCell']) (by decide) (by unfold nb maxLen; omega) (by unfold nb; omega) (by omega) (w.heap.size + 1) (by simp) ?_; intro q cap w1 hown hgrow hq hqs; obtain ⟨hmid, hd0, hd1⟩ := Mid.grow H.out H8.out hown hgrow hq; have Hmid := Lib.hid hmid; clear hmid hown hgrow hq hqs hc0 hc1 hf0)
    have Hmd : Hid (Mid w g v l.length (w1.setCell ⟨g, 0, none⟩ (.slice (some ⟨q, 0, none⟩) (nb l.length + 1) cap)) q (nb l.length + 1) cap (packN l (nb (l.length + 1)))) := Hmid
    clear Hmid hd0 hd1
    generalize w1.setCell ⟨g, 0, none⟩ (.slice (some ⟨q, 0, none⟩) (nb l.length + 1) cap) = w2 at *
    have hm := Hm.out
    clear Hm
    generalize nb l.length + 1 = m at *
    have Hm := Lib.hid hm
    clear hm
    obtain ⟨d0, d1, d2⟩ := Hmd.out.cells
    have hlm : (l.length : Int) / 8 < (m : Int) := by have := Hm.out; omega
    have hs0 : (0 : Int) ≤ (l.length : Int) % 8 := by omega
    have hs1 : (l.length : Int) % 8 ≤ 8 := by omega
    have hs2 : (0 : Int) ≤ (l.length : Int) / 8 := by omega
    have n1 : ((l.length : Int) / 8).toNat = l.length / 8 := by omega
    cases b
    · go_wp2
      go_end0
      exact ⟨rfl, Hmd.out.done (by simp) (by rw [List.length_append]; exact Hm.out) (pack_false l)⟩
    · go_wp2_with fail
      obtain ⟨e0, e1⟩ := Hmd.out.cell Hget.out
      have u1 : IntKind.i64.wrap ((l.length : Int) / 8) = (l.length : Int) / 8 := IntWalk.i64_in _ (by omega)
      have u2 : (l.length : Int).tmod 8 = (l.length : Int) % 8 := Int.tmod_eq_emod_of_nonneg (by omega)
      have hor := Hor.out
      go_still_tail 19, (by kernel_rfl)
      change wpList _ _ _ _ _ w2.drew
      have Hmd3 := Lib.hid Hmd.out.drew
      clear d0 d1 d2 e0 e1 Hmd
      generalize w2.drew = w3 at *
      obtain ⟨e0, e1⟩ := Hmd3.out.cell Hget.out
      go_upto_region 4 with (fail)
      have Hmd4 : Hid (Mid w g v l.length (w3.setCell ⟨q, l.length / 8, none⟩ (.int .u8 (c'.toNat : Int))) q m cap (pack (l ++ [true]))) := by
        have := Hmd3.out.put (l.length / 8) c'
        rw [Hset.out] at this
        exact this
      clear e0 e1 Hmd3
      generalize w3.setCell ⟨q, l.length / 8, none⟩ (.int .u8 (c'.toNat : Int)) = w4 at *
      obtain ⟨d0, d1, d2⟩ := Hmd4.out.cells
      go_wp2
      go_end0
      exact ⟨rfl, Hmd4.out.done (by simp) (by rw [List.length_append]; exact Hm.out) rfl⟩
  · have ht : ((l.length : Int) % 8 == 0) = false := by rw [beq_eq_false_iff_ne]; omega
    obtain ⟨q, cap, rfl, hmid⟩ := Mid.keep H.out h8
    have Hmd := Lib.hid hmid
    have hm : nb l.length = nb (l.length + 1) := by unfold nb; omega
    have Hm := Lib.hid hm
    clear h8 hmid hm n1 hc0
    generalize nb l.length = m at *
    generalize hv : Value.slice (some ⟨q, 0, none⟩) m cap = v at Hmd H
    have Hv := Lib.hid hv
    clear hv
    go_enter Try.func56, Try.ntmps56
    go_upto_region 2 with (fail)
    obtain ⟨d0, d1, d2⟩ := Hmd.out.cells
    have hlm : (l.length : Int) / 8 < (m : Int) := by have := Hm.out; omega
    have hs0 : (0 : Int) ≤ (l.length : Int) % 8 := by omega
    have hs1 : (l.length : Int) % 8 ≤ 8 := by omega
    have hs2 : (0 : Int) ≤ (l.length : Int) / 8 := by omega
    have n1 : ((l.length : Int) / 8).toNat = l.length / 8 := by omega
    cases b
    · go_wp2
      go_end0
      exact ⟨rfl, Hmd.out.done (by simp) (by rw [List.length_append]; exact Hm.out) (pack_false l)⟩
    · go_wp2_with fail
      obtain ⟨e0, e1⟩ := Hmd.out.cell Hget.out
      have u1 : IntKind.i64.wrap ((l.length : Int) / 8) = (l.length : Int) / 8 := IntWalk.i64_in _ (by omega)
      have u2 : (l.length : Int).tmod 8 = (l.length : Int) % 8 := Int.tmod_eq_emod_of_nonneg (by omega)
      have hor := Hor.out
      go_still_tail 19, (by kernel_rfl)
      change wpList _ _ _ _ _ w.drew
      have Hmd3 := Lib.hid Hmd.out.drew
      clear d0 d1 d2 e0 e1 Hmd
      generalize w.drew = w3 at *
      obtain ⟨e0, e1⟩ := Hmd3.out.cell Hget.out
      go_upto_region 4 with (fail)
      have Hmd4 : Hid (Mid w g v l.length (w3.setCell ⟨q, l.length / 8, none⟩ (.int .u8 (c'.toNat : Int))) q m cap (pack (l ++ [true]))) := by
        have := Hmd3.out.put (l.length / 8) c'
        rw [Hset.out] at this
        exact this
      clear e0 e1 Hmd3
      generalize w3.setCell ⟨q, l.length / 8, none⟩ (.int .u8 (c'.toNat : Int)) = w4 at *
      obtain ⟨d0, d1, d2⟩ := Hmd4.out.cells
      go_wp2
      go_end0
      exact ⟨rfl, Hmd4.out.done (by simp) (by rw [List.length_append]; exact Hm.out) rfl⟩
end Bits
end Go.Proofs.Ytgncngpgodfijaa
