/- A part of the proof of WholeFaults. -/
import Derived.Test.YtekjehbkmlodmaaGreatChecked
import Derived.Test.YtekjehbkmlodmaaGreatRows
import Derived.Test.YtekjehbkmlodmaaGreatZA
import Derived.StillTailTactics
import Derived.IntWalk
import Derived.Deep.DeepCutAuto
import Derived.Outline
import Derived.Deep.QuietTactic
import Derived.BigQuiet
import Derived.Deep.LoopGhost
import Derived.Deep.RegionHeld3
import Derived.RangeFuncNested
import Derived.RangeFuncBound
import Derived.RangeFuncCalls
import Derived.RangeFuncLeaves
import Derived.Shelf.Abstract
import Derived.Shelf.RegionOpen
import Derived.OwnWalkIn
import Derived.TacticsInMore
import Derived.LoopNIn
import Derived.LoopIn
set_option linter.unusedVariables false
set_option linter.unusedSimpArgs false
section
namespace Go.Proofs.YtekjehbkmlodmaaGreat.Bits
def btv (l : List Bool) (i : Nat) : Nat := (l.getD i false).toNat
theorem bt_le (l : List Bool) (i : Nat) : btv l i ≤ 1 := by unfold btv; cases l.getD i false <;> decide
def byteOf (l : List Bool) (i : Nat) : Nat :=
 128 * btv l (8 * i) + 64 * btv l (8 * i + 1) + 32 * btv l (8 * i + 2) + 16 * btv l (8 * i + 3) + 8 * btv l (8 * i + 4) + 4 * btv l (8 * i + 5) + 2 * btv l (8 * i + 6) + btv l (8 * i + 7)
theorem byteOf_lt (l : List Bool) (i : Nat) : byteOf l i < 256 := by
 have := bt_le l (8 * i); have := bt_le l (8 * i + 1); have := bt_le l (8 * i + 2); have := bt_le l (8 * i + 3)
 have := bt_le l (8 * i + 4); have := bt_le l (8 * i + 5); have := bt_le l (8 * i + 6); have := bt_le l (8 * i + 7)
 unfold byteOf
 omega
def nb (n : Nat) : Nat := (n + 7) / 8
def packN (l : List Bool) (m : Nat) : List UInt8 := (List.range m).map fun i => UInt8.ofNat (byteOf l i)
def pack (l : List Bool) : List UInt8 := packN l (nb l.length)
theorem packN_len (l : List Bool) (m : Nat) : (packN l m).length = m := by simp [packN]
theorem pack_len (l : List Bool) : (pack l).length = nb l.length := packN_len _ _
theorem packN_get (l : List Bool) (m i : Nat) (h : i < m) : (packN l m)[i]? = some (UInt8.ofNat (byteOf l i)) := by simp [packN, h]
theorem byte_nat (l : List Bool) (i : Nat) : (UInt8.ofNat (byteOf l i)).toNat = byteOf l i := by
 rw [UInt8.toNat_ofNat']
 exact Nat.mod_eq_of_lt (byteOf_lt l i)
theorem bt_out (l : List Bool) (i : Nat) (h : l.length ≤ i) : btv l i = 0 := by unfold btv; rw [List.getD_eq_getElem?_getD, List.getElem?_eq_none h]; rfl
theorem byteOf_out (l : List Bool) (i : Nat) (h : l.length ≤ 8 * i) : byteOf l i = 0 := by
 unfold byteOf
 simp only [bt_out l _ (show l.length ≤ 8 * i by omega), bt_out l _ (show l.length ≤ 8 * i + 1 by omega), bt_out l _ (show l.length ≤ 8 * i + 2 by omega), bt_out l _ (show l.length ≤ 8 * i + 3 by omega),
  bt_out l _ (show l.length ≤ 8 * i + 4 by omega), bt_out l _ (show l.length ≤ 8 * i + 5 by omega), bt_out l _ (show l.length ≤ 8 * i + 6 by omega), bt_out l _ (show l.length ≤ 8 * i + 7 by omega)]
theorem bt_snoc (l : List Bool) (b : Bool) (i : Nat) : btv (l ++ [b]) i = if i = l.length then b.toNat else btv l i := by
 unfold btv
 simp only [List.getD_eq_getElem?_getD]
 by_cases h : i < l.length
 ·rw [List.getElem?_append_left h, if_neg (by omega)]
 ·by_cases h' : i = l.length
  ·rw [if_pos h', h']; simp
  ·rw [if_neg h', List.getElem?_eq_none (by simp; omega), List.getElem?_eq_none (by omega)]
theorem pack_more (l : List Bool) (h : l.length % 8 = 0) : pack l ++ [0] = packN l (nb (l.length + 1)) := by
 have e : nb (l.length + 1) = nb l.length + 1 := by unfold nb; omega
 unfold pack
 rw [e]
 unfold packN
 rw [List.range_succ, List.map_append]
 congr 1
 have : byteOf l (nb l.length) = 0 := byteOf_out l _ (by unfold nb; omega)
 simp [this]
theorem pack_same (l : List Bool) (h : l.length % 8 ≠ 0) : pack l = packN l (nb (l.length + 1)) := by
 have e : nb (l.length + 1) = nb l.length := by unfold nb; omega
 unfold pack
 rw [e]
theorem byteOf_false (l : List Bool) (i : Nat) : byteOf (l ++ [false]) i = byteOf l i := by
 have h : ∀ j, btv (l ++ [false]) j = btv l j := by
  intro j
  rw [bt_snoc]
  split
  ·rename_i e; rw [bt_out l j (by omega)]; rfl
  ·rfl
 unfold byteOf
 simp only [h]
theorem byteOf_far (l : List Bool) (i : Nat) (h : i ≠ l.length / 8) : byteOf (l ++ [true]) i = byteOf l i := by
 have h : ∀ j, j < 8 → btv (l ++ [true]) (8 * i + j) = btv l (8 * i + j) := by
  intro j hj
  rw [bt_snoc, if_neg (by omega)]
 unfold byteOf
 rw [h 1 (by omega), h 2 (by omega), h 3 (by omega), h 4 (by omega), h 5 (by omega), h 6 (by omega), h 7 (by omega), show 8 * i = 8 * i + 0 from rfl, h 0 (by omega)]
theorem byteOf_add (l : List Bool) : byteOf (l ++ [true]) (l.length / 8) = byteOf l (l.length / 8) + 128 / 2 ^ (l.length % 8) := by
 have hr : l.length = 8 * (l.length / 8) + l.length % 8 := by omega
 have hlt : l.length % 8 < 8 := Nat.mod_lt _ (by decide)
 generalize l.length / 8 = q at *
 generalize l.length % 8 = r at *
 have h : ∀ j, btv (l ++ [true]) (8 * q + j) = if j = r then 1 else btv l (8 * q + j) := by
  intro j
  rw [bt_snoc]
  by_cases e : j = r
  ·rw [if_pos (by omega), if_pos e]; rfl
  ·rw [if_neg (by omega), if_neg e]
 have ho : ∀ j, r ≤ j → btv l (8 * q + j) = 0 := fun j hj => bt_out l _ (by omega)
 unfold byteOf
 rw [show 8 * q = 8 * q + 0 from rfl]
 simp only [Nat.add_zero]
 rw [show btv (l ++ [true]) (8 * q) = btv (l ++ [true]) (8 * q + 0) from rfl, show btv l (8 * q) = btv l (8 * q + 0) from rfl]
 simp only [h]
 have hc : r = 0 ∨ r = 1 ∨ r = 2 ∨ r = 3 ∨ r = 4 ∨ r = 5 ∨ r = 6 ∨ r = 7 := by omega
 rcases hc with rfl | rfl | rfl | rfl | rfl | rfl | rfl | rfl
 all_goals
  simp (config := { decide := true }) only [if_true, if_false]
  have := ho 0; have := ho 1; have := ho 2; have := ho 3; have := ho 4; have := ho 5; have := ho 6; have := ho 7
  simp only [Nat.reducePow, Nat.reduceDiv]
  omega
theorem byteOf_low (l : List Bool) : byteOf l (l.length / 8) % 2 ^ (8 - l.length % 8) = 0 := by
 have hr : l.length = 8 * (l.length / 8) + l.length % 8 := by omega
 have hlt : l.length % 8 < 8 := Nat.mod_lt _ (by decide)
 generalize l.length / 8 = q at *
 generalize l.length % 8 = r at *
 have ho : ∀ j, r ≤ j → btv l (8 * q + j) = 0 := fun j hj => bt_out l _ (by omega)
 have h0 : r ≤ 0 → btv l (8 * q) = 0 := fun h => ho 0 h
 unfold byteOf
 have hc : r = 0 ∨ r = 1 ∨ r = 2 ∨ r = 3 ∨ r = 4 ∨ r = 5 ∨ r = 6 ∨ r = 7 := by omega
 rcases hc with rfl | rfl | rfl | rfl | rfl | rfl | rfl | rfl
 all_goals
  have := ho 1; have := ho 2; have := ho 3; have := ho 4; have := ho 5; have := ho 6; have := ho 7
  simp only [Nat.reducePow, Nat.reduceSub]
  omega
theorem or_add : ∀ r, r < 8 → ∀ a, a < 256 → a % 2 ^ (8 - r) = 0 → a ||| (128 / 2 ^ r) = a + 128 / 2 ^ r := by decide +kernel
theorem byteOf_or (l : List Bool) : byteOf l (l.length / 8) ||| (128 / 2 ^ (l.length % 8)) = byteOf (l ++ [true]) (l.length / 8) := by
 rw [byteOf_add]
 exact or_add _ (Nat.mod_lt _ (by decide)) _ (byteOf_lt _ _) (byteOf_low l)
theorem pack_true (l : List Bool) : (packN l (nb (l.length + 1))).set (l.length / 8) (UInt8.ofNat (byteOf (l ++ [true]) (l.length / 8))) = pack (l ++ [true]) := by
 apply List.ext_getElem?
 intro i
 unfold pack
 rw [List.length_append, List.getElem?_set, packN_len]
 show (if l.length / 8 = i then if l.length / 8 < nb (l.length + 1) then _ else _ else _) = (packN _ (nb (l.length + 1)))[i]?
 split
 ·rename_i e
  rw [if_pos (by unfold nb; omega), ← e, packN_get _ _ _ (by unfold nb; omega)]
 ·rename_i e
  by_cases hi : i < nb (l.length + 1)
  ·rw [packN_get _ _ _ hi, packN_get _ _ _ hi, byteOf_far l i (by omega)]
  ·rw [List.getElem?_eq_none (by rw [packN_len]; omega), List.getElem?_eq_none (by rw [packN_len]; omega)]
theorem pack_false (l : List Bool) : packN l (nb (l.length + 1)) = pack (l ++ [false]) := by
 unfold pack packN
 rw [List.length_append]
 apply List.map_congr_left
 intro i _
 rw [byteOf_false]
def cb (c : UInt8) (k : Nat) : Bool := c.toNat / 2 ^ (7 - k) % 2 == 1
def rb (B : List UInt8) (i : Nat) : Bool := cb (B.getD (i / 8) 0) (i % 8)
def row (B : List UInt8) : List Bool := (List.range (8 * B.length)).map (rb B)
theorem row_len (B : List UInt8) : (row B).length = 8 * B.length := by simp [row]
theorem row_get (B : List UInt8) (i : Nat) (h : i < 8 * B.length) : (row B)[i]? = some (rb B i) := by simp [row, h]
theorem rest_get (B : List UInt8) (n j : Nat) (h : n + j < 8 * B.length) : ((row B).drop n)[j]? = some (rb B (n + j)) := by rw [List.getElem?_drop, row_get _ _ h]
theorem rest_len (B : List UInt8) (n : Nat) : ((row B).drop n).length = 8 * B.length - n := by rw [List.length_drop, row_len]
theorem rest_take (B : List UInt8) (n j : Nat) (h : n + j < 8 * B.length) : ((row B).drop n).take (j + 1) = ((row B).drop n).take j ++ [rb B (n + j)] := by
 rw [List.take_add_one, rest_get B n j h]
 rfl
def numB (x k : Nat) : List Bool := (List.range k).map fun i => x / 2 ^ (k - 1 - i) % 2 == 1
theorem numB_len (x k : Nat) : (numB x k).length = k := by simp [numB]
theorem numB_take (x k j : Nat) (h : j < k) : (numB x k).take (j + 1) = (numB x k).take j ++ [x / 2 ^ (k - 1 - j) % 2 == 1] := by
 rw [List.take_add_one]
 congr 1
 simp [numB, h]
def valFrom (x : Nat) (l : List Bool) : Nat := l.foldl (fun y b => 2 * y + b.toNat) x
def val (l : List Bool) : Nat := valFrom 0 l
theorem valFrom_snoc (x : Nat) (l : List Bool) (b : Bool) : valFrom x (l ++ [b]) = 2 * valFrom x l + b.toNat := by simp [valFrom]
theorem val_snoc (l : List Bool) (b : Bool) : val (l ++ [b]) = 2 * val l + b.toNat := valFrom_snoc 0 l b
theorem val_lt (l : List Bool) (n : Nat) (h : l.length ≤ n) : val l < 2 ^ n := by
 have : ∀ l : List Bool, val l.reverse < 2 ^ l.length := by
  intro l
  induction l with
  | nil => decide
  | cons b t ih =>
   rw [List.reverse_cons, val_snoc, List.length_cons, Nat.pow_succ]
   cases b <;> simp <;> omega
 have h1 := this l.reverse
 rw [List.reverse_reverse, List.length_reverse] at h1
 exact Nat.lt_of_lt_of_le h1 (Nat.pow_le_pow_right (by decide) h)
def lead : List Bool → Nat
 | true :: l => lead l + 1
 | _ => 0
theorem lead_le : ∀ l : List Bool, lead l ≤ l.length
 | [] => Nat.le_refl _
 | true :: l => by simp only [lead, List.length_cons]; have := lead_le l; omega
 | false :: l => by simp [lead]
theorem lead_get : ∀ (l : List Bool) (i : Nat), i < lead l → l[i]? = some true
 | [], i, h => by simp [lead] at h
 | true :: l, 0, _ => rfl
 | true :: l, i + 1, h => by simp only [lead] at h; rw [List.getElem?_cons_succ]; exact lead_get l i (by omega)
 | false :: l, i, h => by simp [lead] at h
theorem lead_stop : ∀ (l : List Bool), lead l < l.length → l[lead l]? = some false
 | [], h => by simp [lead] at h
 | true :: l, h => by simp only [lead, List.length_cons] at *; rw [List.getElem?_cons_succ]; exact lead_stop l (by omega)
 | false :: l, _ => rfl
end Go.Proofs.YtekjehbkmlodmaaGreat.Bits
end
section
namespace Go.Proofs.YtekjehbkmlodmaaGreat
open Go.RowKit
namespace Bits
theorem infoByte : (Tryz.prog.info? 5).map (fun i => (i.zero, i.size, i.bytes)) = some (some (.int .u8 0), 1, 1) := by kernel_rfl
def bv (c : UInt8) : Value := .int .u8 (c.toNat : Int)
theorem bv_one (l : List UInt8) : ∀ u ∈ l.map bv, u.oneCell' = true := by
 intro u hu
 obtain ⟨c, _, rfl⟩ := List.mem_map.1 hu
 rfl
structure WB (w : World) (g : Nat) (v : Value) (l : List Bool) : Prop where
 blk : Blk w g 139 [v, .int .i64 (l.length : Int)]
 own : w.ownsRow 0 5 1 v (nb l.length) ((pack l).map bv)
 ne : v.ownBlock ≠ some g
structure WF (w : World) (g : Nat) (v : Value) (w' : World) (v' : Value) : Prop where
 os : w'.os = w.os
 tape : w'.tape = w.tape
 output : w'.output = w.output
 size : w.heap.size ≤ w'.heap.size
 block : ∀ i, i < w.heap.size → i ≠ g → v.ownBlock ≠ some i → w'.heap[i]? = w.heap[i]?
 own : v'.ownBlock = v.ownBlock ∨ ∀ b, v'.ownBlock = some b → w.heap.size ≤ b
theorem WF.refl (w : World) (g : Nat) (v : Value) : WF w g v w v := ⟨rfl, rfl, rfl, Nat.le_refl _, fun _ _ _ _ => rfl, .inl rfl⟩
theorem WF.trans {a b c : World} {g : Nat} {u v x : Value} (h : WF a g u b v) (k : WF b g v c x) : WF a g u c x := by
 refine ⟨k.os.trans h.os, k.tape.trans h.tape, k.output.trans h.output, Nat.le_trans h.size k.size, fun i h1 h2 h3 => ?_, ?_⟩
 ·refine (k.block i (Nat.lt_of_lt_of_le h1 h.size) h2 ?_).trans (h.block i h1 h2 h3)
  intro e
  rcases h.own with ho | ho
  ·rw [ho] at e; exact h3 e
  ·have := ho i e; omega
 ·rcases k.own with ko | ko
  ·rw [ko]; exact h.own
  ·exact .inr fun b hb => Nat.le_trans h.size (ko b hb)
theorem WF.set {a w : World} {g : Nat} {u v : Value} (h : WF a g u w v) (i : Nat) (x : Value) : WF a g u (w.setCell ⟨g, i, none⟩ x) v :=
 ⟨h.os, h.tape, h.output, by simpa using h.size, fun k h1 h2 h3 => (Below.heap_setCell w ⟨g, i, none⟩ x k h2).trans (h.block k h1 h2 h3), h.own⟩
theorem WF.drew {a w : World} {g : Nat} {u v : Value} (h : WF a g u w v) : WF a g u w.drew v := ⟨h.os, h.tape, h.output, h.size, h.block, h.own⟩
theorem WF.below {w w' : World} {g B : Nat} {v v' : Value} {a : World} (h : WF w g v w' v') (hb : Below B a w) (hB : B ≤ w.heap.size) (hg : B ≤ g) (hv : ∀ b, v.ownBlock = some b → B ≤ b) : Below B a w' :=
 ⟨h.os.trans hb.os, h.tape.trans hb.tape, h.output.trans hb.output, Nat.le_trans hb.size h.size, fun k hk =>
  (h.block k (by omega) (by omega) (fun e => by have := hv k e; omega)).trans (hb.block k hk)⟩
def GotW (w : World) (g : Nat) (v : Value) (l : List Bool) (e : Ending) (w' : World) : Prop :=
 e = .returned (.tuple #[]) ∧ ∃ v', WB w' g v' l ∧ WF w g v w' v'
theorem or_walk (l : List Bool) : Go.bits .or .u8 ((UInt8.ofNat (byteOf l (l.length / 8))).toNat : Int) ((128 : Int) / 2 ^ ((l.length : Int) % 8).toNat) = ((UInt8.ofNat (byteOf (l ++ [true]) (l.length / 8))).toNat : Int) := by
 rw [byte_nat, byte_nat, ← byteOf_or]
 have e : ((l.length : Int) % 8).toNat = l.length % 8 := by omega
 rw [e]
 have hlt := byteOf_lt l (l.length / 8)
 have hr : l.length % 8 < 8 := Nat.mod_lt _ (by decide)
 generalize byteOf l (l.length / 8) = c at *
 generalize l.length % 8 = r at *
 revert c
 have hc : r = 0 ∨ r = 1 ∨ r = 2 ∨ r = 3 ∨ r = 4 ∨ r = 5 ∨ r = 6 ∨ r = 7 := by omega
 rcases hc with rfl | rfl | rfl | rfl | rfl | rfl | rfl | rfl <;> decide +kernel
structure Mid (w : World) (g : Nat) (v : Value) (n : Nat) (w2 : World) (q m cap : Nat) (B : List UInt8) : Prop where
 blk : Blk w2 g 139 [.slice (some ⟨q, 0, none⟩) m cap, .int .i64 (n : Int)]
 own : w2.ownsRow 0 5 1 (.slice (some ⟨q, 0, none⟩) m cap) m (B.map bv)
 ne : q ≠ g
 wf : WF w g v w2 (.slice (some ⟨q, 0, none⟩) m cap)
theorem Mid.grow {w w1 : World} {g : Nat} {v : Value} {l : List Bool} {q cap : Nat} {x : Value} (h : WB w g v l) (h8 : l.length % 8 = 0)
  (hown : w1.ownsRow 0 5 1 (.slice (some ⟨q, 0, none⟩) (nb l.length + 1) cap) (nb l.length + 1) ((pack l).map bv ++ [.int .u8 0])) (hgrow : (w.alloc (.cells #[x] 5)).grownBy w1 v.ownBlock) (hq : v.ownBlock = some q ∨ q = w.heap.size + 1) :
  Mid w g v l.length (w1.setCell ⟨g, 0, none⟩ (.slice (some ⟨q, 0, none⟩) (nb l.length + 1) cap)) q (nb l.length + 1) cap (packN l (nb (l.length + 1))) ∧ w1.cell? ⟨g, 0, none⟩ = some v ∧ w1.frozen? ⟨g, 0, none⟩ = false := by
 have hgl := h.blk.lt
 have hne : q ≠ g := by
  intro e
  subst e
  rcases hq with hq | hq
  ·exact h.ne hq
  ·omega
 have hb1 : Blk w1 g 139 [v, .int .i64 (l.length : Int)] := (h.blk.alloc _).grown hgrow (fun e => h.ne e.symm)
 have hm : nb l.length + 1 = nb (l.length + 1) := by unfold nb; omega
 have hf : WF w g v w1 (.slice (some ⟨q, 0, none⟩) (nb l.length + 1) cap) := by
  refine ⟨hgrow.os, hgrow.tape, hgrow.output, ?_, fun i h1 h2 h3 => (hgrow.block i (by simp; omega) (fun e => h3 e.symm)).trans (Below.heap_alloc w _ i h1), ?_⟩
  ·have := hgrow.size
   simp at this
   omega
  ·rcases hq with hq | hq
   ·exact .inl hq.symm
   ·exact .inr fun b hb => by injection hb with hb; dsimp only at hb; omega
 refine ⟨⟨hb1.put 0 _, ?_, hne, hf.set 0 _⟩, hb1.cell 0, hb1.free 0⟩
 have e : (packN l (nb (l.length + 1))).map bv = (pack l).map bv ++ [.int .u8 0] := by
  rw [← pack_more l h8, List.map_append]
  rfl
 rw [e]
 refine hown.kept (row := some g) (only_set (only_refl _ _) 0 _) (.inr ?_)
 intro e
 injection e with e
 exact hne e
theorem Mid.keep {w : World} {g : Nat} {v : Value} {l : List Bool} (h : WB w g v l) (h8 : l.length % 8 ≠ 0) : ∃ q cap, v = .slice (some ⟨q, 0, none⟩) (nb l.length) cap ∧ Mid w g v l.length w q (nb l.length) cap (packN l (nb (l.length + 1))) := by
 obtain ⟨q, cap, rfl, _, _⟩ := h.own.form (by unfold nb; omega)
 refine ⟨q, cap, rfl, h.blk, ?_, fun e => h.ne (by rw [e]; rfl), WF.refl _ _ _⟩
 rw [← pack_same l h8]
 exact h.own
section
variable {w w2 : World} {g : Nat} {v : Value} {n q m cap : Nat} {B : List UInt8}
theorem Mid.cell (h : Mid w g v n w2 q m cap B) {i : Nat} {c : UInt8} (hi : B[i]? = some c) : w2.cell? ⟨q, i, none⟩ = some (.int .u8 (c.toNat : Int)) ∧ w2.frozen? ⟨q, i, none⟩ = false := by
 have e : (B.map bv)[i]? = some (bv c) := by rw [List.getElem?_map, hi]; rfl
 have hl : (B.map bv).length = m * 1 := h.own.1
 have hlt : i < (B.map bv).length := (List.getElem?_eq_some_iff.1 e).1
 exact ⟨(h.own.cellAt _ (by omega)).trans e, h.own.frozenAt _⟩
theorem Mid.cells (h : Mid w g v n w2 q m cap B) : w2.cell? ⟨g, 0, none⟩ = some (.slice (some ⟨q, 0, none⟩) m cap) ∧ w2.cell? ⟨g, 1, none⟩ = some (.int .i64 (n : Int)) ∧ w2.frozen? ⟨g, 1, none⟩ = false := ⟨h.blk.cell 0, h.blk.cell 1, h.blk.free 1⟩
theorem Mid.drew (h : Mid w g v n w2 q m cap B) : Mid w g v n w2.drew q m cap B := ⟨h.blk, h.own, h.ne, h.wf.drew⟩
theorem Mid.put (h : Mid w g v n w2 q m cap B) (i : Nat) (c : UInt8) : Mid w g v n (w2.setCell ⟨q, i, none⟩ (.int .u8 (c.toNat : Int))) q m cap (B.set i c) := by
 refine ⟨h.blk.far (fun e => h.ne e.symm) _, ?_, h.ne, ?_⟩
 ·rw [List.map_set]
  exact (h.own.stored i _).1
 ·refine ⟨h.wf.os, h.wf.tape, h.wf.output, by simpa using h.wf.size, fun k h1 h2 h3 => ?_, h.wf.own⟩
  refine (Below.heap_setCell w2 ⟨q, i, none⟩ _ k ?_).trans (h.wf.block k h1 h2 h3)
  intro e
  dsimp only at e
  subst e
  rcases h.wf.own with ho | ho
  ·exact h3 ho.symm
  ·have := ho k rfl
   omega
theorem Mid.done (h : Mid w g v n w2 q m cap B) {l : List Bool} (hl : l.length = n + 1) (hm : m = nb l.length) (hB : B = pack l) : ∃ v', WB (w2.setCell ⟨g, 1, none⟩ (.int .i64 ((n : Int) + 1))) g v' l ∧ WF w g v (w2.setCell ⟨g, 1, none⟩ (.int .i64 ((n : Int) + 1))) v' := by
 subst hB
 refine ⟨_, ⟨?_, ?_, fun e => h.ne (by injection e)⟩, h.wf.set 1 _⟩
 ·rw [hl]
  exact h.blk.put 1 _
 ·have := h.own.kept (row := some g) (only_set (w := w2) (only_refl _ _) 1 (.int .i64 ((n : Int) + 1))) (.inr (fun e => h.ne (by injection e)))
  rw [← hm]
  exact this
end
set_option maxRecDepth 100000 in
set_option maxHeartbeats 400000 in
theorem bit_any (g : Nat) (v : Value) (l : List Bool) (b : Bool) (w : World) (h : WB w g v l) (hl : l.length ≤ 100000) :
  Calls Tryz.prog 88 #[.pointer (some ⟨g, 0, none⟩), .bool b] w (GotW w g v (l ++ [b])) := by
 obtain ⟨i0, hi, hz0, hz1, hz2⟩ := info_parts infoByte
 have hc0 : w.cell? ⟨g, 0, none⟩ = some v := h.blk.cell 0
 have hc1 : w.cell? ⟨g, 1, none⟩ = some (.int .i64 (l.length : Int)) := h.blk.cell 1
 have hf0 := h.blk.free 0
 have hgl := h.blk.lt
 have H := Lib.hid h
 clear h
 have hq8 : l.length / 8 < nb (l.length + 1) := by unfold nb; omega
 obtain ⟨c, hc⟩ : ∃ c, c = UInt8.ofNat (byteOf l (l.length / 8)) := ⟨_, rfl⟩
 obtain ⟨c', hc'⟩ : ∃ c', c' = UInt8.ofNat (byteOf (l ++ [true]) (l.length / 8)) := ⟨_, rfl⟩
 have hor := or_walk l
 rw [← hc, ← hc'] at hor
 have hget : (packN l (nb (l.length + 1)))[l.length / 8]? = some c := by rw [hc]; exact packN_get l _ _ hq8
 have hset : (packN l (nb (l.length + 1))).set (l.length / 8) c' = pack (l ++ [true]) := by rw [hc']; exact pack_true l
 have Hget := Lib.hid hget
 have Hset := Lib.hid hset
 have Hor := Lib.hid hor
 clear hor hget hset hc hc'
 have n1 : ((l.length : Int) / 8).toNat = l.length / 8 := by omega
 by_cases h8 : l.length % 8 = 0
 ·have ht : ((l.length : Int) % 8 == 0) = true := by rw [beq_iff_eq]; omega
  have hm : nb l.length + 1 = nb (l.length + 1) := by unfold nb; omega
  have Hm := Lib.hid hm
  have H8 := Lib.hid h8
  clear h8 hm n1
  go_enter Tryz.func88, Tryz.ntmps88
  go_upto_region 2 with (at_builtin; refine wpList_append_lies _ rfl _ _ 35 rfl 0 5 i0 (.int .u8 0) 1 1 Tryz.underlying35 hi hz0 hz1 hz2 rfl (by decide) _ _ _ rfl (H.out.own.alloc _) ⟨w.heap.size, 0, none⟩ 1 1 [.int .u8 0] rfl rfl (cell_one_new _ _ _) (by simp [Value.oneCell']) (by decide) (by unfold nb maxLen; omega) (by unfold nb; omega) (by omega) (w.heap.size + 1) (by simp) ?_; intro q cap w1 hown hgrow hq hqs; obtain ⟨hmid, hd0, hd1⟩ := Mid.grow H.out H8.out hown hgrow hq; have Hmid := Lib.hid hmid; clear hmid hown hgrow hq hqs hc0 hc1 hf0)
  have Hmd : Hid (Mid w g v l.length (w1.setCell ⟨g, 0, none⟩ (.slice (some ⟨q, 0, none⟩) (nb l.length + 1) cap)) q (nb l.length + 1) cap (packN l (nb (l.length + 1)))) := Hmid
  clear Hmid hd0 hd1
  generalize w1.setCell ⟨g, 0, none⟩ (.slice (some ⟨q, 0, none⟩) (nb l.length + 1) cap) = w2 at *
  have hm := Hm.out
  clear Hm
  generalize nb l.length + 1 = m at *
  have Hm := Lib.hid hm
  clear hm
  obtain ⟨d0, d1, d2⟩ := Hmd.out.cells
  have hlm : (l.length : Int) / 8 < (m : Int) := by have := Hm.out; omega
  have hs0 : (0 : Int) ≤ (l.length : Int) % 8 := by omega
  have hs1 : (l.length : Int) % 8 ≤ 8 := by omega
  have hs2 : (0 : Int) ≤ (l.length : Int) / 8 := by omega
  have n1 : ((l.length : Int) / 8).toNat = l.length / 8 := by omega
  cases b
  ·go_wp2
   go_end0
   exact ⟨rfl, Hmd.out.done (by simp) (by rw [List.length_append]; exact Hm.out) (pack_false l)⟩
  ·go_wp2_with fail
   obtain ⟨e0, e1⟩ := Hmd.out.cell Hget.out
   have u1 : IntKind.i64.wrap ((l.length : Int) / 8) = (l.length : Int) / 8 := IntWalk.i64_in _ (by omega)
   have u2 : (l.length : Int).tmod 8 = (l.length : Int) % 8 := Int.tmod_eq_emod_of_nonneg (by omega)
   have hor := Hor.out
   go_still_tail 19, (by kernel_rfl)
   change wpList _ _ _ _ _ w2.drew
   have Hmd3 := Lib.hid Hmd.out.drew
   clear d0 d1 d2 e0 e1 Hmd
   generalize w2.drew = w3 at *
   obtain ⟨e0, e1⟩ := Hmd3.out.cell Hget.out
   go_upto_region 4 with (fail)
   have Hmd4 : Hid (Mid w g v l.length (w3.setCell ⟨q, l.length / 8, none⟩ (.int .u8 (c'.toNat : Int))) q m cap (pack (l ++ [true]))) := by
    have := Hmd3.out.put (l.length / 8) c'
    rw [Hset.out] at this
    exact this
   clear e0 e1 Hmd3
   generalize w3.setCell ⟨q, l.length / 8, none⟩ (.int .u8 (c'.toNat : Int)) = w4 at *
   obtain ⟨d0, d1, d2⟩ := Hmd4.out.cells
   go_wp2
   go_end0
   exact ⟨rfl, Hmd4.out.done (by simp) (by rw [List.length_append]; exact Hm.out) rfl⟩
 ·have ht : ((l.length : Int) % 8 == 0) = false := by rw [beq_eq_false_iff_ne]; omega
  obtain ⟨q, cap, rfl, hmid⟩ := Mid.keep H.out h8
  have Hmd := Lib.hid hmid
  have hm : nb l.length = nb (l.length + 1) := by unfold nb; omega
  have Hm := Lib.hid hm
  clear h8 hmid hm n1 hc0
  generalize nb l.length = m at *
  generalize hv : Value.slice (some ⟨q, 0, none⟩) m cap = v at Hmd H
  have Hv := Lib.hid hv
  clear hv
  go_enter Tryz.func88, Tryz.ntmps88
  go_upto_region 2 with (fail)
  obtain ⟨d0, d1, d2⟩ := Hmd.out.cells
  have hlm : (l.length : Int) / 8 < (m : Int) := by have := Hm.out; omega
  have hs0 : (0 : Int) ≤ (l.length : Int) % 8 := by omega
  have hs1 : (l.length : Int) % 8 ≤ 8 := by omega
  have hs2 : (0 : Int) ≤ (l.length : Int) / 8 := by omega
  have n1 : ((l.length : Int) / 8).toNat = l.length / 8 := by omega
  cases b
  ·go_wp2
   go_end0
   exact ⟨rfl, Hmd.out.done (by simp) (by rw [List.length_append]; exact Hm.out) (pack_false l)⟩
  ·go_wp2_with fail
   obtain ⟨e0, e1⟩ := Hmd.out.cell Hget.out
   have u1 : IntKind.i64.wrap ((l.length : Int) / 8) = (l.length : Int) / 8 := IntWalk.i64_in _ (by omega)
   have u2 : (l.length : Int).tmod 8 = (l.length : Int) % 8 := Int.tmod_eq_emod_of_nonneg (by omega)
   have hor := Hor.out
   go_still_tail 19, (by kernel_rfl)
   change wpList _ _ _ _ _ w.drew
   have Hmd3 := Lib.hid Hmd.out.drew
   clear d0 d1 d2 e0 e1 Hmd
   generalize w.drew = w3 at *
   obtain ⟨e0, e1⟩ := Hmd3.out.cell Hget.out
   go_upto_region 4 with (fail)
   have Hmd4 : Hid (Mid w g v l.length (w3.setCell ⟨q, l.length / 8, none⟩ (.int .u8 (c'.toNat : Int))) q m cap (pack (l ++ [true]))) := by
    have := Hmd3.out.put (l.length / 8) c'
    rw [Hset.out] at this
    exact this
   clear e0 e1 Hmd3
   generalize w3.setCell ⟨q, l.length / 8, none⟩ (.int .u8 (c'.toNat : Int)) = w4 at *
   obtain ⟨d0, d1, d2⟩ := Hmd4.out.cells
   go_wp2
   go_end0
   exact ⟨rfl, Hmd4.out.done (by simp) (by rw [List.length_append]; exact Hm.out) rfl⟩
end Bits
end Go.Proofs.YtekjehbkmlodmaaGreat
end
section
namespace Go.Proofs.YtekjehbkmlodmaaGreat
open Go.RowKit
namespace Bits
theorem and_one_u64 (m : Nat) (hm : m < 18446744073709551616) : Go.bits .and .u64 (m : Int) 1 = ((m % 2 : Nat) : Int) := by
 unfold Go.bits
 have e : (BitVec.ofInt IntKind.u64.bits (m : Int) &&& BitVec.ofInt IntKind.u64.bits 1).toNat = m % 2 := by
  rw [BitVec.toNat_and]
  have h1 : (BitVec.ofInt IntKind.u64.bits (m : Int)).toNat = m := by
   rw [BitVec.toNat_ofInt]
   show ((m : Int) % ((2 ^ 64 : Nat) : Int)).toNat = m
   omega
  have h2 : (BitVec.ofInt IntKind.u64.bits 1).toNat = 1 := by decide
  rw [h1, h2]
  exact Nat.and_two_pow_sub_one_eq_mod m 1
 show IntKind.u64.wrap (((BitVec.ofInt IntKind.u64.bits (m : Int) &&& BitVec.ofInt IntKind.u64.bits 1).toNat : Nat) : Int) = _
 rw [e, IntKind.wrap_u64]
 omega
theorem num_bit (x e : Nat) (hx : x < 18446744073709551616) : (Go.bits .and .u64 ((x : Int) / 2 ^ e) 1 == 1) = (x / 2 ^ e % 2 == 1) := by
 have h : ((x : Int) / 2 ^ e) = ((x / 2 ^ e : Nat) : Int) := by simp
 rw [h, and_one_u64 _ (Nat.lt_of_le_of_lt (Nat.div_le_self _ _) hx)]
 rw [Bool.eq_iff_iff, beq_iff_eq, beq_iff_eq]
 omega
set_option maxHeartbeats 400000 in
theorem num_any (g : Nat) (v : Value) (l : List Bool) (x k : Nat) (w : World) (h : WB w g v l) (hx : x < 18446744073709551616) (hk : k ≤ 64) (hl : l.length ≤ 99000) :
  Calls Tryz.prog 71 #[.pointer (some ⟨g, 0, none⟩), .int .u64 (x : Int), .int .i64 (k : Int)] w (GotW w g v (l ++ numB x k)) := by
 have H := Lib.hid h
 clear h
 have Hx := Lib.hid hx
 clear hx
 go_enter Tryz.func71, Tryz.ntmps71
 go_wp2
 go_loopw [6, 7, 9] (fun _ _ i wr => ∃ (j : Nat) (v' : Value), j ≤ k ∧ i = .int .i64 (j : Int) ∧ WB wr g v' (l ++ (numB x k).take j) ∧ WF w g v wr v') (fun _ _ i _ => k - (intOf i).toNat)
 case atStart => exact ⟨0, v, by omega, rfl, by simpa using H.out, WF.refl _ _ _⟩
 case round =>
  obtain ⟨j, v', hj, rfl, hwb, hwf⟩ := hrel
  have Hwb := Lib.hid hwb
  have Hwf := Lib.hid hwf
  clear hwb hwf
  by_cases hlt : j < k
  ·have n1 : ((k : Int) - 1 - (j : Int)).toNat = k - 1 - j := by omega
   have hb := num_bit x (k - 1 - j) Hx.out
   have ht := numB_take x k j hlt
   have Ht := Lib.hid ht
   clear ht
   generalize (x / 2 ^ (k - 1 - j) % 2 == 1) = b at *
   have i1 : (k : Int) - 1 - (j : Int) < 64 := by omega
   have i2 : (0 : Int) ≤ (k : Int) - 1 - (j : Int) := by omega
   have hll : (l ++ (numB x k).take j).length ≤ 100000 := by rw [List.length_append, List.length_take]; omega
   go_wp2_with fail
   refine (bit_any g v' _ b _ Hwb.out hll).mono ?_
   rintro e w2 ⟨rfl, v2, hwb2, hwf2⟩
   have hwb3 : WB w2 g v2 (l ++ (numB x k).take (j + 1)) := by rw [Ht.out, ← List.append_assoc]; exact hwb2
   have Hwb3 := Lib.hid hwb3
   have Hwf3 := Lib.hid (Hwf.out.trans hwf2)
   clear hwb2 hwb3 hwf2 hb Hwb Hwf
   go_wp2
   go_roundw
   case rel => exact ⟨j + 1, v2, by omega, by go_num, Hwb3.out, Hwf3.out⟩
   case measure => simp [intOf]; omega
  ·obtain rfl : j = k := by omega
   go_wp2
   go_end0
   have hwb := Hwb.out
   rw [List.take_of_length_le (by rw [numB_len]; exact Nat.le_refl _)] at hwb
   exact ⟨rfl, v', hwb, Hwf.out⟩
set_option maxHeartbeats 400000 in
theorem ones_any (g : Nat) (v : Value) (l : List Bool) (k : Nat) (w : World) (h : WB w g v l) (hk : k ≤ 1000) (hl : l.length ≤ 90000) :
  Calls Tryz.prog 91 #[.pointer (some ⟨g, 0, none⟩), .int .i64 (k : Int)] w (GotW w g v (l ++ (List.replicate k true ++ [false]))) := by
 have H := Lib.hid h
 clear h
 go_enter Tryz.func91, Tryz.ntmps91
 go_wp2
 go_loopw [5] (fun i wr => ∃ (j : Nat) (v' : Value), j ≤ k ∧ i = .int .i64 (j : Int) ∧ WB wr g v' (l ++ List.replicate j true) ∧ WF w g v wr v') (fun i _ => k - (intOf i).toNat)
 case atStart => exact ⟨0, v, by omega, rfl, by simpa using H.out, WF.refl _ _ _⟩
 case round =>
  obtain ⟨j, v', hj, rfl, hwb, hwf⟩ := hrel
  have Hwb := Lib.hid hwb
  have Hwf := Lib.hid hwf
  clear hwb hwf
  by_cases hlt : j < k
  ·go_wp2_with fail
   refine (bit_any g v' _ true _ Hwb.out (by rw [List.length_append, List.length_replicate]; omega)).mono ?_
   rintro e w2 ⟨rfl, v2, hwb2, hwf2⟩
   rw [List.append_assoc, ← List.replicate_succ'] at hwb2
   have Hwb3 := Lib.hid hwb2
   have Hwf3 := Lib.hid (Hwf.out.trans hwf2)
   clear hwb2 hwf2 Hwb Hwf
   go_wp2
   go_roundw
   case rel => exact ⟨j + 1, v2, by omega, by go_num, Hwb3.out, Hwf3.out⟩
   case measure => simp [intOf]; omega
  ·obtain rfl : j = k := by omega
   go_wp2_with fail
   refine (bit_any g v' _ false _ Hwb.out (by rw [List.length_append, List.length_replicate]; omega)).mono ?_
   rintro e w2 ⟨rfl, v2, hwb2, hwf2⟩
   rw [List.append_assoc] at hwb2
   have Hwb3 := Lib.hid hwb2
   have Hwf3 := Lib.hid (Hwf.out.trans hwf2)
   clear hwb2 hwf2 Hwb Hwf
   go_wp2
   go_end0
   exact ⟨rfl, v2, Hwb3.out, Hwf3.out⟩
def GotB (w : World) (B : List UInt8) (e : Ending) (w' : World) : Prop := (∃ v, e = .returned v ∧ w'.ownsRow w.heap.size 5 1 v B.length (B.map bv)) ∧ Below w.heap.size w w'
set_option maxHeartbeats 400000 in
theorem bytes_any (g : Nat) (v : Value) (l : List Bool) (w : World) (h : WB w g v l) (hl : l.length ≤ 100000) :
  Calls Tryz.prog 53 #[.pointer (some ⟨g, 0, none⟩)] w (GotB w (pack l)) := by
 obtain ⟨i0, hi, hz0, hz1, hz2⟩ := info_parts infoByte
 have c0 : w.cell? ⟨g, 0, none⟩ = some v := h.blk.cell 0
 obtain ⟨A, cap, rfl, hrd, _, _, hn⟩ := own_rd h.own
 have hgl := h.blk.lt
 have hpl := pack_len l
 have hsm : nb l.length ≤ 20000 := by unfold nb; omega
 have Hrd := Lib.hid hrd
 have Hpl := Lib.hid hpl
 have Hn := Lib.hid hn
 clear h hrd hpl hn
 generalize nb l.length = m at *
 unfold GotB
 generalize pack l = B at *
 go_enter Tryz.func53, Tryz.ntmps53
 go_wp2_with (at_builtin; refine wpList_append_both rfl _ _ 35 rfl w.heap.size 5 i0 (.int .u8 0) 1 1 Tryz.underlying35 hi hz0 hz1 hz2 rfl (by decide) _ 0 [] rfl (own_new w 5 1) A m cap (B.map bv) rfl (by rw [List.length_map, Hpl.out]; simp) Hn.out (Hrd.out.alloc _).news (bv_one B) (by unfold maxLen; omega) (by omega) (by simp) ?_; intro v' w' hown hgrow; rw [Nat.zero_add, List.nil_append] at hown; have Hown := Lib.hid hown; have Hgrow := Lib.hid hgrow; clear hown hgrow)
 go_ret
 refine ⟨⟨_, rfl, ?_⟩, ?_⟩
 ·rw [Hpl.out]; exact Hown.out
 ·exact (bl w _).grown Hgrow.out (by simp) (fun k hk => by injection hk with hk; dsimp only at hk; omega)
end Bits
end Go.Proofs.YtekjehbkmlodmaaGreat
end
section
namespace Go.Proofs.YtekjehbkmlodmaaGreat
open Go.RowKit
namespace Bits
def RB (w : World) (g : Nat) (B : List UInt8) (n : Nat) (wrong : Bool) : Prop :=
 ∃ A cap, Blk w g 200 [.slice A B.length cap, .int .i64 (n : Int), .bool wrong] ∧ RdL w 0 g A (B.map bv)
section
variable {w w' : World} {g n : Nat} {B : List UInt8} {wrong : Bool}
theorem RB.lt (h : RB w g B n wrong) : g < w.heap.size := by obtain ⟨_, _, h, _⟩ := h; exact h.lt
theorem RB.drewN (h : RB w g B n wrong) (k : Nat) : RB (w.drewN k) g B n wrong := h
theorem RB.drew (h : RB w g B n wrong) : RB w.drew g B n wrong := h
theorem RB.below {b : Nat} (h : RB w g B n wrong) (hb : Below b w w') (hg : g < b) : RB w' g B n wrong := by
 obtain ⟨A, cap, h1, h2⟩ := h
 exact ⟨A, cap, h1.below hb hg, h2.below hb (.inl (by omega))⟩
theorem RB.setN (h : RB w g B n wrong) (m : Nat) : RB (w.setCell ⟨g, 1, none⟩ (.int .i64 (m : Int))) g B m wrong := by
 obtain ⟨A, cap, h1, h2⟩ := h
 exact ⟨A, cap, h1.put 1 _, h2.far (.inr (Nat.le_refl _)) _⟩
theorem RB.setW (h : RB w g B n wrong) (x : Bool) : RB (w.setCell ⟨g, 2, none⟩ (.bool x)) g B n x := by
 obtain ⟨A, cap, h1, h2⟩ := h
 exact ⟨A, cap, h1.put 2 _, h2.far (.inr (Nat.le_refl _)) _⟩
end
set_option maxHeartbeats 400000 in
theorem left_any (g : Nat) (B : List UInt8) (n : Nat) (wrong : Bool) (w : World) (h : RB w g B n wrong) (hn : n ≤ 8 * B.length) (hB : B.length ≤ 100000) :
  Calls Tryz.prog 96 #[.pointer (some ⟨g, 0, none⟩)] w fun e w' => e = .returned (.int .i64 ((8 * B.length - n : Nat) : Int)) ∧ ∃ k, w' = w.drewN k := by
 obtain ⟨A, cap, h1, _⟩ := h
 have c0 : w.cell? ⟨g, 0, none⟩ = some (.slice A B.length cap) := h1.cell 0
 have c1 : w.cell? ⟨g, 1, none⟩ = some (.int .i64 (n : Int)) := h1.cell 1
 clear h1
 have u1 : IntKind.i64.wrap (8 * (B.length : Int)) = 8 * (B.length : Int) := IntWalk.i64_in _ (by omega)
 have u2 : IntKind.i64.wrap (8 * (B.length : Int) - (n : Int)) = ((8 * B.length - n : Nat) : Int) := by rw [IntWalk.i64_in _ (by omega)]; omega
 go_enter Tryz.func96, Tryz.ntmps96
 go_wp2
 go_quiet (fail)
 go_wp2
 go_ret
 exact ⟨rfl, _, rfl⟩
theorem mask_walk (c : UInt8) (n : Nat) : (Go.bits .and .u8 (c.toNat : Int) ((128 : Int) / 2 ^ (n % 8)) == 0) = !cb c (n % 8) := by
 have hlt := c.toNat_lt
 have hr : n % 8 < 8 := Nat.mod_lt _ (by decide)
 unfold cb
 generalize c.toNat = c at *
 generalize n % 8 = r at *
 revert c
 have hc : r = 0 ∨ r = 1 ∨ r = 2 ∨ r = 3 ∨ r = 4 ∨ r = 5 ∨ r = 6 ∨ r = 7 := by omega
 rcases hc with rfl | rfl | rfl | rfl | rfl | rfl | rfl | rfl <;> decide +kernel
set_option maxRecDepth 100000 in
set_option maxHeartbeats 400000 in
theorem rbit_ok (g : Nat) (B : List UInt8) (n : Nat) (w : World) (h : RB w g B n false) (hn : n < 8 * B.length) (hB : B.length ≤ 100000) :
  Calls Tryz.prog 97 #[.pointer (some ⟨g, 0, none⟩)] w fun e w' => e = .returned (.bool (rb B n)) ∧ RB w' g B (n + 1) false ∧ w.grownBy w' (some g) := by
 have H := Lib.hid h
 obtain ⟨A, cap, h1, h2⟩ := h
 have hk : n / 8 < B.length := by omega
 obtain ⟨b, off, rfl, _, hbg, _, hc⟩ := h2.some (by rw [List.length_map]; omega)
 have q0 : w.cell? ⟨b, off + n / 8, none⟩ = some (.int .u8 (B[n / 8].toNat : Int)) := hc _ _ (by rw [List.getElem?_map, List.getElem?_eq_getElem hk]; rfl)
 have hrb : rb B n = cb B[n / 8] (n % 8) := by unfold rb; rw [List.getD_eq_getElem?_getD, List.getElem?_eq_getElem hk]; rfl
 rw [hrb]
 have c0 : w.cell? ⟨g, 0, none⟩ = some (.slice (some ⟨b, off, none⟩) B.length cap) := h1.cell 0
 have c1 : w.cell? ⟨g, 1, none⟩ = some (.int .i64 (n : Int)) := h1.cell 1
 have c2 : w.cell? ⟨g, 2, none⟩ = some (.bool false) := h1.cell 2
 have f1 := h1.free 1
 have hm := mask_walk B[n / 8] n
 clear h1 h2 hc hrb
 generalize B[n / 8] = c at *
 generalize cb c (n % 8) = bb at *
 have hm2 : (Go.bits .and .u8 (c.toNat : Int) ((128 : Int) / 2 ^ (n % 8)) != 0) = bb := by
  rw [bne, hm]; simp
 have i1 : (n : Int) / 8 < (B.length : Int) := by omega
 have i2 : (0 : Int) ≤ (n : Int) / 8 := by omega
 have i3 : ((n : Int) / 8).toNat = n / 8 := by omega
 have i4 : (0 : Int) ≤ (n : Int) % 8 := by omega
 have i5 : (n : Int) % 8 ≤ 8 := by omega
 have u1 : IntKind.i64.wrap ((n : Int) / 8) = (n : Int) / 8 := IntWalk.i64_in _ (by omega)
 have u2 : (n : Int).tmod 8 = (n : Int) % 8 := Int.tmod_eq_emod_of_nonneg (by omega)
 have d1 : 1 ≤ ((8 * B.length - n : Nat) : Int) := by omega
 have Hhn := Lib.hid hn
 have HBl := Lib.hid hB
 clear hk
 go_enter Tryz.func97, Tryz.ntmps97
 go_wp2_with (go_at_call 96; refine (left_any g B n false _ H.out (by have := Hhn.out; omega) HBl.out).mono ?_; rintro e w' ⟨rfl, k, rfl⟩)
 go_quiet (fail)
 go_wp2
 go_ret
 exact ⟨rfl, H.out.setN (n + 1), only_set (only_drewN (only_refl w _) _) 1 _⟩
set_option maxRecDepth 100000 in
set_option maxHeartbeats 400000 in
theorem rbit_no (g : Nat) (B : List UInt8) (n : Nat) (wrong : Bool) (w : World) (h : RB w g B n wrong) (hw : wrong = true ∨ n = 8 * B.length) (hn : n ≤ 8 * B.length) (hB : B.length ≤ 100000) :
  Calls Tryz.prog 97 #[.pointer (some ⟨g, 0, none⟩)] w fun e w' => e = .returned (.bool false) ∧ RB w' g B n true ∧ w.grownBy w' (some g) := by
 have H := Lib.hid h
 obtain ⟨A, cap, h1, h2⟩ := h
 have c2 : w.cell? ⟨g, 2, none⟩ = some (.bool wrong) := h1.cell 2
 have f2 := h1.free 2
 clear h1 h2
 rcases hw with rfl | hw
 ·go_enter Tryz.func97, Tryz.ntmps97
  go_wp2
  go_ret
  exact ⟨rfl, H.out.setW true, only_set (only_refl w _) 2 _⟩
 ·cases wrong
  ·have hz : 8 * B.length - n = 0 := by omega
   have Hz := Lib.hid hz
   clear hz hw
   go_enter Tryz.func97, Tryz.ntmps97
   go_wp2_with (go_at_call 96; refine (left_any g B n false _ H.out hn hB).mono ?_; rintro e w' ⟨rfl, k, rfl⟩; rw [Hz.out])
   go_ret
   exact ⟨rfl, (H.out.drewN _).setW true, only_set (only_drewN (only_refl w _) _) 2 _⟩
  ·clear hw
   go_enter Tryz.func97, Tryz.ntmps97
   go_wp2
   go_ret
   exact ⟨rfl, H.out.setW true, only_set (only_refl w _) 2 _⟩
theorem right_any (g : Nat) (B : List UInt8) (n : Nat) (wrong : Bool) (w : World) (h : RB w g B n wrong) :
  Calls Tryz.prog 93 #[.pointer (some ⟨g, 0, none⟩)] w fun e w' => e = .returned (.bool (!wrong)) ∧ w = w' := by
 obtain ⟨A, cap, h1, _⟩ := h
 have c1 : w.cell? ⟨g, 2, none⟩ = some (.bool wrong) := h1.cell 2
 clear h1
 go_enter Tryz.func93, Tryz.ntmps93
 go_wp2
 go_ret
 exact ⟨rfl, rfl⟩
def GotRd (w : World) (B : List UInt8) (e : Ending) (w' : World) : Prop := ∃ g, e = .returned (.pointer (some ⟨g, 0, none⟩)) ∧ RB w' g B 0 false ∧ w.heap.size ≤ g ∧ Below w.heap.size w w'
set_option maxRecDepth 100000 in
set_option maxHeartbeats 400000 in
theorem read_any (A : Option Addr) (B : List UInt8) (n cap lo hi : Nat) (w : World) (h : RdL w lo hi A (B.map bv)) (hn : B.length = n) (hA : A = none → n = 0 ∧ cap = 0) (hl : n ≤ 100000) :
  Calls Tryz.prog 76 #[.slice A n cap] w (GotRd w B) := by
 obtain ⟨i0, hi', hz0, hz1, hz2⟩ := info_parts infoByte
 have H := Lib.hid h
 have HA := Lib.hid hA
 have Hn := Lib.hid hn
 clear h hA hn
 go_enter Tryz.func76, Tryz.ntmps76
 go_wp2_with (at_builtin; refine wpList_append_both rfl _ _ 35 rfl w.heap.size 5 i0 (.int .u8 0) 1 1 Tryz.underlying35 hi' hz0 hz1 hz2 rfl (by decide) _ 0 [] rfl (own_new w 5 1) A n cap (B.map bv) rfl (by rw [List.length_map, Hn.out]; simp) HA.out (H.out.alloc _).news (bv_one B) (by unfold maxLen; omega) (by omega) (by simp) ?_; intro v' w2 hown hgrow; rw [Nat.zero_add, List.nil_append] at hown; have hown' := hown; obtain ⟨A2, cap2, hv2, hrd2, _, _, _⟩ := own_rd hown'; rw [hv2]; have hsz2 := hgrow.size; simp only [World.size_alloc] at hsz2; have Hrd2 := Lib.hid hrd2; have Hgrow := Lib.hid hgrow; clear hown hown' hv2 hrd2 hgrow)
 go_ret
 refine ⟨_, rfl, ⟨A2, cap2, ?_, ?_⟩, by omega, ?_⟩
 ·rw [Hn.out]; exact Blk.mk _ _ _
 ·exact (Hrd2.out.alloc _).wide (Nat.zero_le _) (Nat.le_refl _)
 ·exact ((bl w _).grown Hgrow.out (by simp) (fun k hk => by injection hk with hk; dsimp only at hk; omega)).alloc (by omega) _
end Bits
end Go.Proofs.YtekjehbkmlodmaaGreat
end
section
namespace Go.Proofs.YtekjehbkmlodmaaGreat
open Go.RowKit
namespace Bits
theorem or_one : ∀ m : Nat, m < 9223372036854775808 → Go.bits .or .u64 ((m : Int) * 2) 1 = (m : Int) * 2 + 1 := by
 intro m hm
 have e0 : ((m : Int) * 2) = ((m * 2 : Nat) : Int) := by omega
 unfold Go.bits
 have e : (BitVec.ofInt IntKind.u64.bits ((m : Int) * 2) ||| BitVec.ofInt IntKind.u64.bits 1).toNat = m * 2 + 1 := by
  rw [e0, BitVec.toNat_or]
  have h1 : (BitVec.ofInt IntKind.u64.bits ((m * 2 : Nat) : Int)).toNat = m * 2 := by
   rw [BitVec.toNat_ofInt]
   show (((m * 2 : Nat) : Int) % ((2 ^ 64 : Nat) : Int)).toNat = m * 2
   omega
  have h2 : (BitVec.ofInt IntKind.u64.bits 1).toNat = 1 := by decide
  rw [h1, h2]
  have := Nat.two_pow_add_eq_or_of_lt (i := 1) (b := 1) (by decide) m
  rw [Nat.mul_comm m 2]
  exact this.symm
 show IntKind.u64.wrap (((BitVec.ofInt IntKind.u64.bits ((m : Int) * 2) ||| BitVec.ofInt IntKind.u64.bits 1).toNat : Nat) : Int) = _
 rw [e, IntKind.wrap_u64]
 omega
set_option maxRecDepth 100000 in
set_option maxHeartbeats 1000000 in
theorem rnum_ok (g : Nat) (B : List UInt8) (n k : Nat) (w : World) (h : RB w g B n false) (hk : k ≤ 64) (hn : n + k ≤ 8 * B.length) (hB : B.length ≤ 100000) :
  Calls Tryz.prog 92 #[.pointer (some ⟨g, 0, none⟩), .int .i64 (k : Int)] w fun e w' => e = .returned (.int .u64 (val (((row B).drop n).take k) : Int)) ∧ RB w' g B (n + k) false ∧ w.grownBy w' (some g) := by
 have H := Lib.hid h
 obtain ⟨A, cap, h1, h2⟩ := h
 have c2 : w.cell? ⟨g, 2, none⟩ = some (.bool false) := h1.cell 2
 clear h1 h2
 have Hn := Lib.hid hn
 have HB := Lib.hid hB
 have i1 : (k : Int) ≤ ((8 * B.length - n : Nat) : Int) := by omega
 have d0 : decide ((k : Int) < 0) = false := decide_eq_false (by omega)
 have d1 : decide (8 * B.length - n < k) = false := decide_eq_false (by omega)
 clear hn hB
 go_enter Tryz.func92, Tryz.ntmps92
 go_wp2_with (go_at_call 96; refine (left_any g B n false _ H.out (by have := Hn.out; omega) HB.out).mono ?_; rintro e w' ⟨rfl, kk, rfl⟩)
 go_loopw [5, 24] (fun x i wr => ∃ j : Nat, j ≤ k ∧ i = .int .i64 (j : Int) ∧ x = .int .u64 (val (((row B).drop n).take j) : Int) ∧ RB wr g B (n + j) false ∧ w.grownBy wr (some g)) (fun _ i _ => k - (intOf i).toNat)
 case atStart => exact ⟨0, by omega, rfl, rfl, H.out, only_drewN (only_refl w _) _⟩
 case round =>
  clear c2
  obtain ⟨j, hj, rfl, rfl, hrb, hg⟩ := hrel
  have Hrb := Lib.hid hrb
  clear hrb
  by_cases hlt : j < k
  ·have hlt2 := val_lt (((row B).drop n).take j) j (by rw [List.length_take]; omega)
   have hp : 2 ^ j ≤ 2 ^ 63 := Nat.pow_le_pow_right (by decide) (by omega)
   have ht := rest_take B n j (by have := Hn.out; omega)
   have hv := val_snoc (((row B).drop n).take j) (rb B (n + j))
   rw [← ht] at hv
   have Hv := Lib.hid hv
   clear hv ht
   have hx : val (((row B).drop n).take j) < 9223372036854775808 := by omega
   clear hlt2 hp
   generalize val (((row B).drop n).take j) = x at *
   have hor := or_one x hx
   have hw : IntKind.u64.wrap ((x : Int) * 2) = (x : Int) * 2 := by rw [IntKind.wrap_u64]; omega
   go_wp2_with fail
   refine (rbit_ok g B (n + j) _ Hrb.out (by have := Hn.out; omega) HB.out).mono ?_
   rintro e w2 ⟨rfl, hrb2, hg2⟩
   have Hrb2 := Lib.hid hrb2
   have Hg2 := Lib.hid (only_trans hg hg2)
   clear hrb2 hg2
   generalize rb B (n + j) = bb at *
   cases bb
   ·go_wp2
    go_roundw
    case rel => exact ⟨j + 1, by omega, by go_num, by rw [Hv.out]; simp [Int.mul_comm], Hrb2.out, Hg2.out⟩
    case measure => simp [intOf]; omega
   ·go_wp2
    go_roundw
    case rel => exact ⟨j + 1, by omega, by go_num, by rw [Hv.out]; simp [Int.mul_comm], Hrb2.out, Hg2.out⟩
    case measure => simp [intOf]; omega
  ·obtain rfl : j = k := by omega
   go_wp2
   go_ret
   exact ⟨rfl, Hrb.out, hg⟩
set_option maxRecDepth 100000 in
set_option maxHeartbeats 400000 in
theorem rnum_no (g : Nat) (B : List UInt8) (n k : Nat) (wrong : Bool) (w : World) (h : RB w g B n wrong) (_hk : k ≤ 64) (hno : wrong = true ∨ 8 * B.length < n + k) (hn : n ≤ 8 * B.length) (hB : B.length ≤ 100000) :
  Calls Tryz.prog 92 #[.pointer (some ⟨g, 0, none⟩), .int .i64 (k : Int)] w fun e w' => e = .returned (.int .u64 0) ∧ RB w' g B n true ∧ w.grownBy w' (some g) := by
 have H := Lib.hid h
 obtain ⟨A, cap, h1, h2⟩ := h
 have c2 : w.cell? ⟨g, 2, none⟩ = some (.bool wrong) := h1.cell 2
 have f2 := h1.free 2
 clear h1 h2
 by_cases hgt : 8 * B.length - n < k
 ·have i1 : ((8 * B.length - n : Nat) : Int) < (k : Int) := by omega
  clear hno
  go_enter Tryz.func92, Tryz.ntmps92
  go_wp2_with (go_at_call 96; refine (left_any g B n wrong _ H.out hn hB).mono ?_; rintro e w' ⟨rfl, kk, rfl⟩)
  go_ret
  exact ⟨rfl, (H.out.drewN _).setW true, only_set (only_drewN (only_refl w _) _) 2 _⟩
 ·obtain rfl : wrong = true := by
   rcases hno with h | h
   ·exact h
   ·omega
  have i1 : (k : Int) ≤ ((8 * B.length - n : Nat) : Int) := by omega
  clear hgt hno
  go_enter Tryz.func92, Tryz.ntmps92
  go_wp2_with (go_at_call 96; refine (left_any g B n true _ H.out hn hB).mono ?_; rintro e w' ⟨rfl, kk, rfl⟩)
  go_ret
  exact ⟨rfl, (H.out.drewN _).setW true, only_set (only_drewN (only_refl w _) _) 2 _⟩
def onesOk (l : List Bool) (most : Nat) : Bool := decide (lead l < l.length) && decide (lead l ≤ most)
def GotO (w : World) (g : Nat) (B : List UInt8) (n most : Nat) (e : Ending) (w' : World) : Prop :=
 match onesOk ((row B).drop n) most with
 | true => e = .returned (.int .i64 (lead ((row B).drop n) : Int)) ∧ RB w' g B (n + lead ((row B).drop n) + 1) false ∧ w.grownBy w' (some g)
 | false => e = .returned (.int .i64 0) ∧ (∃ n', n' ≤ 8 * B.length ∧ RB w' g B n' true) ∧ w.grownBy w' (some g)
set_option maxRecDepth 100000 in
set_option maxHeartbeats 1000000 in
theorem rones_any (g : Nat) (B : List UInt8) (n most : Nat) (w : World) (h : RB w g B n false) (hm : most ≤ 1000) (hn : n ≤ 8 * B.length) (hB : B.length ≤ 100000) :
  Calls Tryz.prog 117 #[.pointer (some ⟨g, 0, none⟩), .int .i64 (most : Int)] w (GotO w g B n most) := by
 have H := Lib.hid h
 clear h
 have Hn := Lib.hid hn
 have HB := Lib.hid hB
 have hrl := rest_len B n
 have Hrl := Lib.hid hrl
 clear hn hB hrl
 go_enter Tryz.func117, Tryz.ntmps117
 go_wp2
 go_loopw [5] (fun x wr => ∃ j : Nat, j ≤ lead ((row B).drop n) ∧ j ≤ most ∧ x = .int .i64 (j : Int) ∧ RB wr g B (n + j) false ∧ w.grownBy wr (some g)) (fun x _ => most + 1 - (intOf x).toNat)
 case atStart => exact ⟨0, by omega, by omega, rfl, H.out, only_refl w _⟩
 case round =>
  obtain ⟨j, hj, hjm, rfl, hrb, hg⟩ := hrel
  have Hrb := Lib.hid hrb
  clear hrb
  have hle := lead_le ((row B).drop n)
  rw [Hrl.out] at hle
  by_cases hlt : n + j < 8 * B.length
  ·have hget := rest_get B n j hlt
   by_cases hjl : j < lead ((row B).drop n)
   ·have e : rb B (n + j) = true := by have := lead_get _ j hjl; rw [hget] at this; injection this
    have E := Lib.hid e
    clear e hget
    go_wp2_with fail
    refine (rbit_ok g B (n + j) _ Hrb.out hlt HB.out).mono ?_
    rintro e w2 ⟨rfl, hrb2, hg2⟩
    rw [E.out]
    have Hrb2 := Lib.hid hrb2
    have f2 : w2.frozen? ⟨g, 2, none⟩ = false := by obtain ⟨_, _, hh, _⟩ := hrb2; exact hh.free 2
    have c2 : w2.cell? ⟨g, 2, none⟩ = some (.bool false) := by obtain ⟨_, _, hh, _⟩ := hrb2; exact hh.cell 2
    have Hg2 := Lib.hid (only_trans hg hg2)
    clear hrb2 hg2
    by_cases hmm : j + 1 ≤ most
    ·go_wp2
     go_roundw
     case rel => exact ⟨j + 1, by omega, by omega, by go_num, Hrb2.out, Hg2.out⟩
     case measure => simp [intOf]; omega
    ·have hno : onesOk ((row B).drop n) most = false := by
      unfold onesOk
      rw [Bool.and_eq_false_iff]
      right
      simp only [decide_eq_false_iff_not]
      omega
     have Hno := Lib.hid hno
     clear hno
     go_wp2
     go_ret
     unfold GotO
     rw [Hno.out]
     exact ⟨rfl, ⟨_, by omega, Hrb2.out.setW true⟩, only_set Hg2.out 2 _⟩
   ·obtain rfl : j = lead ((row B).drop n) := by omega
    have hlen : lead ((row B).drop n) < ((row B).drop n).length := by rw [Hrl.out]; omega
    have e : rb B (n + lead ((row B).drop n)) = false := by have := lead_stop _ hlen; rw [hget] at this; injection this
    have hok : onesOk ((row B).drop n) most = true := by unfold onesOk; rw [decide_eq_true hlen, decide_eq_true hjm]; rfl
    have E := Lib.hid e
    have Hok := Lib.hid hok
    clear e hget hok hlen
    go_wp2_with fail
    refine (rbit_ok g B _ _ Hrb.out hlt HB.out).mono ?_
    rintro e w2 ⟨rfl, hrb2, hg2⟩
    rw [E.out]
    have Hrb2 := Lib.hid hrb2
    have c2 : w2.cell? ⟨g, 2, none⟩ = some (.bool false) := by obtain ⟨_, _, hh, _⟩ := hrb2; exact hh.cell 2
    have Hg2 := Lib.hid (only_trans hg hg2)
    clear hrb2 hg2
    go_wp2
    go_ret
    unfold GotO
    rw [Hok.out]
    exact ⟨rfl, Hrb2.out, Hg2.out⟩
  ·have hno : onesOk ((row B).drop n) most = false := by
    unfold onesOk
    rw [Bool.and_eq_false_iff]
    left
    simp only [decide_eq_false_iff_not]
    rw [Hrl.out]
    omega
   have Hno := Lib.hid hno
   clear hno
   have hn' := Hn.out
   go_wp2_with fail
   refine (rbit_no g B (n + j) false _ Hrb.out (.inr (by omega)) (by omega) HB.out).mono ?_
   rintro e w2 ⟨rfl, hrb2, hg2⟩
   have Hrb2 := Lib.hid hrb2
   have c2 : w2.cell? ⟨g, 2, none⟩ = some (.bool true) := by obtain ⟨_, _, hh, _⟩ := hrb2; exact hh.cell 2
   have Hg2 := Lib.hid (only_trans hg hg2)
   clear hrb2 hg2
   go_wp2
   go_ret
   unfold GotO
   rw [Hno.out]
   exact ⟨rfl, ⟨_, by omega, Hrb2.out⟩, Hg2.out⟩
def clean (l : List Bool) : Bool := decide (l.length < 8) && l.all (fun b => !b)
set_option maxRecDepth 100000 in
set_option maxHeartbeats 1000000 in
theorem rclose_any (g : Nat) (B : List UInt8) (n : Nat) (w : World) (h : RB w g B n false) (hn : n ≤ 8 * B.length) (hB : B.length ≤ 100000) :
  Calls Tryz.prog 78 #[.pointer (some ⟨g, 0, none⟩)] w fun e w' => e = .returned (.bool (clean ((row B).drop n))) ∧ w.grownBy w' (some g) ∧ ∃ n', RB w' g B n' false := by
 have H := Lib.hid h
 have c2 : w.cell? ⟨g, 2, none⟩ = some (.bool false) := by obtain ⟨_, _, hh, _⟩ := h; exact hh.cell 2
 clear h
 have Hn := Lib.hid hn
 have HB := Lib.hid hB
 have hrl := rest_len B n
 have Hrl := Lib.hid hrl
 clear hB hrl hn
 by_cases h8 : 8 * B.length - n < 8
 ·have i1 : ¬ ((8 : Int) ≤ ((8 * B.length - n : Nat) : Int)) := by omega
  have i2 : ((8 * B.length - n : Nat) : Int) ≤ 7 := by omega
  go_enter Tryz.func78, Tryz.ntmps78
  go_wp2_with (go_at_call 96; refine (left_any g B n false _ H.out Hn.out HB.out).mono ?_; rintro e w' ⟨rfl, kk, rfl⟩)
  go_loopg [14] (8 * B.length - n) (fun k _ wr => ∃ j : Nat, k = 8 * B.length - n - j ∧ n + j ≤ 8 * B.length ∧ (∀ i, i < j → rb B (n + i) = false) ∧ RB wr g B (n + j) false ∧ w.grownBy wr (some g))
  case atStart => exact ⟨0, rfl, Hn.out, fun i hi => by omega, H.out, only_drewN (only_refl w _) _⟩
  case round =>
   clear c2
   obtain ⟨j, hgk, hj, hall, hrb, hg⟩ := hrel
   have Hrb := Lib.hid hrb
   have Hgk := Lib.hid hgk
   have Hall := Lib.hid hall
   clear hrb hgk hall
   by_cases hlt : n + j < 8 * B.length
   ·have i3 : (0 : Int) < ((8 * B.length - (n + j) : Nat) : Int) := by omega
    go_wp2_with fail
    refine (left_any g B (n + j) false _ Hrb.out hj HB.out).mono ?_
    rintro e w2 ⟨rfl, kk, rfl⟩
    go_wp2_with fail
    refine (rbit_ok g B (n + j) _ (Hrb.out.drewN kk) hlt HB.out).mono ?_
    rintro e w3 ⟨rfl, hrb3, hg3⟩
    have Hrb3 := Lib.hid hrb3
    have Hg3 := Lib.hid (only_trans (only_drewN hg kk) hg3)
    clear hrb3 hg3
    have hget := rest_get B n j hlt
    obtain ⟨bb, hbb⟩ : ∃ bb, bb = rb B (n + j) := ⟨_, rfl⟩
    rw [← hbb] at hget ⊢
    have Hbb := Lib.hid hbb
    have Hget := Lib.hid hget
    clear hbb hget
    cases bb
    ·go_wp2
     go_roundg (8 * B.length - n - (j + 1))
     case rel =>
      refine ⟨j + 1, rfl, by omega, fun i hi => ?_, Hrb3.out, Hg3.out⟩
      by_cases e : i = j
      ·subst e; exact Hbb.out.symm
      ·exact Hall.out i (by omega)
     case measure => have := Hgk.out; omega
    ·have hcl : clean ((row B).drop n) = false := by
      unfold clean
      rw [Bool.and_eq_false_iff]
      right
      rw [List.all_eq_false]
      exact ⟨true, List.mem_of_getElem? Hget.out, by decide⟩
     have Hcl := Lib.hid hcl
     clear hcl
     go_wp2
     go_ret
     exact ⟨by rw [Hcl.out]; rfl, Hg3.out, _, Hrb3.out⟩
   ·have i3 : ¬ (0 : Int) < ((8 * B.length - (n + j) : Nat) : Int) := by omega
    have hcl : clean ((row B).drop n) = true := by
     unfold clean
     rw [decide_eq_true (by rw [Hrl.out]; exact h8), Bool.true_and, List.all_eq_true]
     intro b hb
     obtain ⟨i, hi, rfl⟩ := List.getElem_of_mem hb
     rw [Hrl.out] at hi
     have h1 := rest_get B n i (by omega)
     rw [List.getElem?_eq_getElem (by rw [Hrl.out]; exact hi)] at h1
     injection h1 with h1
     rw [h1, Hall.out i (by omega)]
     rfl
    have Hcl := Lib.hid hcl
    clear hcl
    go_wp2_with fail
    refine (left_any g B (n + j) false _ Hrb.out hj HB.out).mono ?_
    rintro e w2 ⟨rfl, kk, rfl⟩
    go_wp2
    go_ret
    exact ⟨by rw [Hcl.out]; rfl, only_drewN hg kk, _, Hrb.out.drewN kk⟩
 ·have i1 : (7 : Int) < ((8 * B.length - n : Nat) : Int) := by omega
  have hcl : clean ((row B).drop n) = false := by
   unfold clean
   rw [Bool.and_eq_false_iff]
   left
   rw [decide_eq_false_iff_not, Hrl.out]
   exact h8
  have Hcl := Lib.hid hcl
  clear hcl
  go_enter Tryz.func78, Tryz.ntmps78
  go_wp2_with (go_at_call 96; refine (left_any g B n false _ H.out Hn.out HB.out).mono ?_; rintro e w' ⟨rfl, kk, rfl⟩)
  go_ret
  exact ⟨by rw [Hcl.out]; rfl, only_drewN (only_refl w _) kk, _, H.out.drewN kk⟩
end Bits
end Go.Proofs.YtekjehbkmlodmaaGreat
end
section
namespace Go.Proofs.YtekjehbkmlodmaaGreat
open Go.RowKit
namespace Ric
open Bits
theorem ofInt32_nat (a : Nat) (h : a < 4294967296) : (BitVec.ofInt 32 (a : Int)).toNat = a := by
 rw [BitVec.ofInt_natCast, BitVec.toNat_ofNat]
 exact Nat.mod_eq_of_lt (by omega)
theorem ofInt32_toNat (y : Int) : ((BitVec.ofInt 32 y).toNat : Int) = y % 4294967296 := by
 rw [BitVec.toNat_ofInt]
 show (((y % (4294967296 : Int)).toNat : Nat) : Int) = _
 exact Int.toNat_of_nonneg (Int.emod_nonneg _ (by decide))
theorem xor0_i32 (y : Int) (h : -2147483648 ≤ y ∧ y ≤ 2147483647) : Go.bits .xor .i32 y 0 = y := by
 show IntKind.i32.wrap ((BitVec.ofInt 32 y ^^^ BitVec.ofInt 32 0).toNat : Int) = _
 rw [show BitVec.ofInt 32 0 = 0#32 from rfl, BitVec.xor_zero, ofInt32_toNat, IntKind.wrap_i32]
 omega
theorem xor1_i32 (y : Int) (h : -2147483648 ≤ y ∧ y ≤ 2147483647) : Go.bits .xor .i32 y (-1) = -y - 1 := by
 show IntKind.i32.wrap ((BitVec.ofInt 32 y ^^^ BitVec.ofInt 32 (-1)).toNat : Int) = _
 have e : BitVec.ofInt 32 (-1) = BitVec.allOnes 32 := by decide
 have h2 := ofInt32_toNat y
 have h3 : (BitVec.ofInt 32 y).toNat < 4294967296 := (BitVec.ofInt 32 y).isLt
 rw [e, BitVec.xor_allOnes, BitVec.toNat_not, IntKind.wrap_i32]
 omega
def foldU (x : Int) : Nat := (if 0 ≤ x then 2 * x else -2 * x - 1).toNat
def unfoldZ (n : Nat) : Int := if n % 2 = 0 then ((n / 2 : Nat) : Int) else -((n / 2 : Nat) : Int) - 1
theorem foldU_lt {x : Int} (h : -2147483648 ≤ x ∧ x ≤ 2147483647) : foldU x < 4294967296 := by
 unfold foldU
 split <;> omega
theorem unfoldZ_in {n : Nat} (h : n < 131072) : -65536 ≤ unfoldZ n ∧ unfoldZ n ≤ 65535 := by
 unfold unfoldZ
 split <;> omega
def sizeN (n k : Nat) : Nat := if n / 2 ^ k < 20 then n / 2 ^ k + 1 + k else 38
theorem sizeN_le {n k : Nat} (hk : k ≤ 16) : 1 ≤ sizeN n k ∧ sizeN n k ≤ 38 := by
 unfold sizeN
 generalize n / 2 ^ k = q
 split <;> omega
def sumN (l : List Nat) (k : Nat) : Nat := (l.map fun n => sizeN n k).sum
theorem sumN_snoc (l : List Nat) (n k : Nat) : sumN (l ++ [n]) k = sumN l k + sizeN n k := by simp [sumN]
theorem sumN_le {k : Nat} (hk : k ≤ 16) : ∀ l : List Nat, sumN l k ≤ 38 * l.length
 | [] => Nat.le_refl _
 | n :: l => by
  have h1 := sumN_le hk l
  have h2 := (sizeN_le (n := n) hk).2
  show sizeN n k + sumN l k ≤ 38 * (l.length + 1)
  omega
def bestN (l : List Nat) : Nat → Nat × Int
 | 0 => (0, -1)
 | k + 1 => if (bestN l k).2 < 0 ∨ (sumN l k : Int) < (bestN l k).2 then (k, (sumN l k : Int)) else bestN l k
theorem bestN_le (l : List Nat) : ∀ k, (bestN l k).1 ≤ k - 1 ∧ -1 ≤ (bestN l k).2
 | 0 => ⟨Nat.le_refl _, Int.le_refl _⟩
 | k + 1 => by
  have ih := bestN_le l k
  show (if _ then _ else _ : Nat × Int).1 ≤ _ ∧ -1 ≤ (if _ then _ else _ : Nat × Int).2
  split
  ·dsimp only
   omega
  ·omega
theorem bestN_big (l : List Nat) : ∀ k, k ≤ 17 → (bestN l k).2 ≤ 38 * (l.length : Int)
 | 0, _ => by show (-1 : Int) ≤ _; omega
 | k + 1, hk => by
  have ih := bestN_big l k (by omega)
  have h := sumN_le (k := k) (by omega) l
  show (if _ then _ else _ : Nat × Int).2 ≤ _
  split
  ·dsimp only
   omega
  ·exact ih
def bestK (l : List Nat) : Nat := (bestN l 17).1
theorem bestK_le (l : List Nat) : bestK l ≤ 16 := (bestN_le l 17).1
def codeB (n k : Nat) : List Bool := if n / 2 ^ k < 20 then List.replicate (n / 2 ^ k) true ++ [false] ++ numB n k else List.replicate 20 true ++ [false] ++ numB n 17
theorem codeB_len (n k : Nat) : (codeB n k).length = sizeN n k := by
 unfold codeB sizeN
 generalize n / 2 ^ k = q
 split <;> simp [numB_len]
 omega
def rowB (l : List Nat) : List Bool := numB (bestK l) 5 ++ l.flatMap fun n => codeB n (bestK l)
theorem codes_len {k : Nat} (hk : k ≤ 16) : ∀ l : List Nat, (l.flatMap fun n => codeB n k).length ≤ 38 * l.length
 | [] => Nat.le_refl _
 | n :: l => by
  have h1 := codes_len hk l
  have h2 := (sizeN_le (n := n) hk).2
  rw [List.flatMap_cons, List.length_append, codeB_len, List.length_cons]
  omega
theorem rowB_len (l : List Nat) : (rowB l).length ≤ 5 + 38 * l.length := by
 have := codes_len (bestK_le l) l
 unfold rowB
 rw [List.length_append, numB_len]
 omega
def getN (k : Nat) (l : List Bool) : Option (Nat × Nat) :=
 if onesOk l 20 = true then
  if lead l < 20 then
   if lead l + 1 + k ≤ l.length ∧ lead l * 2 ^ k + val ((l.drop (lead l + 1)).take k) < 131072 then some (lead l * 2 ^ k + val ((l.drop (lead l + 1)).take k), lead l + 1 + k) else none
  else if lead l + 1 + 17 ≤ l.length ∧ 20 ≤ val ((l.drop (lead l + 1)).take 17) / 2 ^ k then some (val ((l.drop (lead l + 1)).take 17), lead l + 1 + 17) else none
 else none
theorem getN_lt {k : Nat} {l : List Bool} {n c : Nat} (h : getN k l = some (n, c)) : n < 131072 ∧ c ≤ l.length := by
 unfold getN at h
 split at h
 ·split at h
  ·split at h
   ·rename_i h1
    injection h with h
    injection h with h2 h3
    subst h2 h3
    exact ⟨h1.2, h1.1⟩
   ·cases h
  ·split at h
   ·rename_i h1
    injection h with h
    injection h with h2 h3
    subst h2 h3
    exact ⟨val_lt _ 17 (by rw [List.length_take]; omega), h1.1⟩
   ·cases h
 ·cases h
def getL (k : Nat) (L : List Bool) : Nat → Nat → Option (List Nat × Nat)
 | 0, p => some ([], p)
 | i + 1, p => match getL k L i p with
  | none => none
  | some (l, q) => match getN k (L.drop q) with
   | none => none
   | some (n, c) => some (l ++ [n], q + c)
def isRow (L : List Bool) (n : Nat) : Option (List Int × Nat) :=
 if 5 ≤ L.length ∧ val (L.take 5) ≤ 16 then
  match getL (val (L.take 5)) L n 5 with
  | none => none
  | some (l, q) => if bestK ((l.map unfoldZ).map foldU) = val (L.take 5) then some (l.map unfoldZ, q) else none
 else none
end Ric
end Go.Proofs.YtekjehbkmlodmaaGreat
end
section
namespace Go.Proofs.YtekjehbkmlodmaaGreat
open Go.RowKit
namespace Ric
open Bits
theorem shl1_i32 (x : Int) (h : -2147483648 ≤ x ∧ x ≤ 2147483647) : IntKind.u32.wrap (Go.bits .xor .i32 (IntKind.i32.wrap (x * 2)) (if 0 ≤ x then 0 else -1)) = (foldU x : Int) := by
 have hw : -2147483648 ≤ IntKind.i32.wrap (x * 2) ∧ IntKind.i32.wrap (x * 2) ≤ 2147483647 := by rw [IntKind.wrap_i32]; omega
 unfold foldU
 by_cases h0 : 0 ≤ x
 ·rw [if_pos h0, if_pos h0, xor0_i32 _ hw, IntKind.wrap_u32', IntKind.wrap_i32]
  omega
 ·rw [if_neg h0, if_neg h0, xor1_i32 _ hw, IntKind.wrap_u32', IntKind.wrap_i32]
  omega
theorem and1_u32 (n : Nat) (h : n < 4294967296) : Go.bits .and .u32 (n : Int) 1 = ((n % 2 : Nat) : Int) := by
 show IntKind.u32.wrap ((BitVec.ofInt 32 (n : Int) &&& BitVec.ofInt 32 1).toNat : Int) = _
 rw [BitVec.toNat_and, ofInt32_nat n h, show (BitVec.ofInt 32 1).toNat = 1 by decide, Nat.and_one_is_mod, IntKind.wrap_u32']
 omega
theorem unfold_is (n : Nat) (hn : n < 131072) : Go.bits .xor .i32 ((n : Int) / 2) (-((n : Int) % 2)) = unfoldZ n := by
 unfold unfoldZ
 rcases Nat.mod_two_eq_zero_or_one n with h | h
 ·rw [if_pos h, show -((n : Int) % 2) = 0 by omega, xor0_i32 _ (by omega)]
  omega
 ·rw [if_neg (by omega), show -((n : Int) % 2) = -1 by omega, xor1_i32 _ (by omega)]
  omega
theorem fold_is (x : Int) (hx : -2147483648 ≤ x ∧ x ≤ 2147483647) : Go.bits .xor .i32 (wrap32 (x * 2)) (x / 2147483648) % 4294967296 = (foldU x : Int) := by
 have h := shl1_i32 x hx
 rw [IntKind.wrap_u32', IntWalk.i32_left] at h
 have e : x / 2147483648 = if 0 ≤ x then 0 else -1 := by split <;> omega
 rw [e]
 exact h
theorem size_any (n k : Nat) (hn : n < 4294967296) (hk : k ≤ 16) (w : World) :
  Calls Tryz.prog 87 #[.int .u32 (n : Int), .int .i64 (k : Int)] w fun e w' => e = .returned (.int .i64 (sizeN n k : Int)) ∧ w = w' := by
 have hq : n / 2 ^ k ≤ n := Nat.div_le_self _ _
 have hd : (n : Int) / (2 ^ k : Int) = ((n / 2 ^ k : Nat) : Int) := by rw [Int.natCast_ediv, Int.natCast_pow]; rfl
 have hs : sizeN n k = if n / 2 ^ k < 20 then n / 2 ^ k + 1 + k else 38 := rfl
 obtain ⟨q, hqe⟩ : ∃ q, q = n / 2 ^ k := ⟨_, rfl⟩
 rw [← hqe] at hq hd hs
 have k0 : ¬ (k : Int) < 0 := by omega
 have kt : (k : Int).toNat = k := Int.toNat_natCast k
 rw [hs]
 clear hs hqe
 by_cases h : q < 20
 ·have d1 : decide ((q : Int) < 20) = true := decide_eq_true (by omega)
  have d2 : decide (q < 20) = true := decide_eq_true h
  rw [if_pos h]
  go_enter Tryz.func87, Tryz.ntmps87
  go_wp2_with fail
  go_ret
  exact ⟨rfl, rfl⟩
 ·have d1 : decide ((q : Int) < 20) = false := decide_eq_false (by omega)
  have d2 : decide (q < 20) = false := decide_eq_false h
  rw [if_neg h]
  go_enter Tryz.func87, Tryz.ntmps87
  go_wp2_with fail
  go_ret
  exact ⟨rfl, rfl⟩
theorem fold_any (x : Int) (hx : -2147483648 ≤ x ∧ x ≤ 2147483647) (w : World) :
  Calls Tryz.prog 90 #[.int .i32 x] w fun e w' => e = .returned (.int .u32 (foldU x : Int)) ∧ w = w' := by
 have h := fold_is x hx
 go_enter Tryz.func90, Tryz.ntmps90
 go_wp2_with fail
 go_ret
 exact ⟨congrArg (fun z => Ending.returned (.int .u32 z)) h, rfl⟩
theorem unfold_any (n : Nat) (hn : n < 131072) (w : World) :
  Calls Tryz.prog 95 #[.int .u32 (n : Int)] w fun e w' => e = .returned (.int .i32 (unfoldZ n)) ∧ w = w' := by
 have h1 := and1_u32 n (by omega)
 have h2 := unfold_is n hn
 go_enter Tryz.func95, Tryz.ntmps95
 go_wp2_with fail
 go_ret
 exact ⟨rfl, rfl⟩
theorem put_any (g : Nat) (v : Value) (l : List Bool) (n k : Nat) (w : World) (h : WB w g v l) (hn : n < 4294967296) (hk : k ≤ 16) (hl : l.length ≤ 80000) :
  Calls Tryz.prog 73 #[.pointer (some ⟨g, 0, none⟩), .int .u32 (n : Int), .int .i64 (k : Int)] w (GotW w g v (l ++ codeB n k)) := by
 have hq : n / 2 ^ k ≤ n := Nat.div_le_self _ _
 have hd : (n : Int) / (2 ^ k : Int) = ((n / 2 ^ k : Nat) : Int) := by rw [Int.natCast_ediv, Int.natCast_pow]; rfl
 have hs : codeB n k = if n / 2 ^ k < 20 then List.replicate (n / 2 ^ k) true ++ [false] ++ numB n k else List.replicate 20 true ++ [false] ++ numB n 17 := rfl
 obtain ⟨q, hqe⟩ : ∃ q, q = n / 2 ^ k := ⟨_, rfl⟩
 rw [← hqe] at hq hd hs
 have k0 : ¬ (k : Int) < 0 := by omega
 have kt : (k : Int).toNat = k := Int.toNat_natCast k
 rw [hs]
 have H := Lib.hid h
 clear hs hqe h
 by_cases h : q < 20
 ·have d1 : decide ((q : Int) < 20) = true := decide_eq_true (by omega)
  have d2 : decide (q < 20) = true := decide_eq_true h
  have ho := ones_any g v l q w H.out (by omega) (by omega)
  rw [if_pos h]
  go_enter Tryz.func73, Tryz.ntmps73
  go_wp2_with fail
  refine ho.mono ?_
  rintro e w1 ⟨rfl, v1, hB1, hF1⟩
  have hm := num_any g v1 _ n k w1 hB1 (by omega) (by omega) (by simp; omega)
  have HF := Lib.hid hF1
  clear ho hB1 hF1
  go_wp2_with fail
  refine hm.mono ?_
  rintro e w2 ⟨rfl, v2, hB2, hF2⟩
  have HF2 := Lib.hid (HF.out.trans hF2)
  have HB2 := Lib.hid hB2
  clear hm hB2 hF2
  go_wp2_with fail
  refine bodyPost_ret (results_none rfl _ _ _) rfl ?_
  exact ⟨rfl, v2, by rw [← List.append_assoc, ← List.append_assoc]; rw [← List.append_assoc] at HB2; exact HB2.out, HF2.out⟩
 ·have d1 : decide ((q : Int) < 20) = false := decide_eq_false (by omega)
  have d2 : decide (q < 20) = false := decide_eq_false h
  have ho := ones_any g v l 20 w H.out (by omega) (by omega)
  rw [if_neg h]
  clear h
  go_enter Tryz.func73, Tryz.ntmps73
  go_wp2_with fail
  refine ho.mono ?_
  rintro e w1 ⟨rfl, v1, hB1, hF1⟩
  have hm := num_any g v1 _ n 17 w1 hB1 (by omega) (by omega) (by simp; omega)
  have HF := Lib.hid hF1
  clear ho hB1 hF1
  go_wp2_with fail
  refine hm.mono ?_
  rintro e w2 ⟨rfl, v2, hB2, hF2⟩
  have HF2 := Lib.hid (HF.out.trans hF2)
  have HB2 := Lib.hid hB2
  clear hm hB2 hF2
  go_wp2_with fail
  go_end0
  exact ⟨rfl, v2, by rw [← List.append_assoc, ← List.append_assoc]; rw [← List.append_assoc] at HB2; exact HB2.out, HF2.out⟩
end Ric
end Go.Proofs.YtekjehbkmlodmaaGreat
end
section
namespace Go.Proofs.YtekjehbkmlodmaaGreat
open Go.RowKit
namespace Ric
open Bits
theorem or_u32_nat (a b : Nat) (ha : a < 4294967296) (hb : b < 4294967296) : Go.bits .or .u32 (a : Int) (b : Int) = ((a ||| b : Nat) : Int) := by
 show IntKind.u32.wrap ((BitVec.ofInt 32 (a : Int) ||| BitVec.ofInt 32 (b : Int)).toNat : Int) = _
 have h : a ||| b < 2 ^ 32 := Nat.or_lt_two_pow ha hb
 rw [BitVec.toNat_or, ofInt32_nat a ha, ofInt32_nat b hb, IntKind.wrap_u32']
 omega
theorem or_add (q v k : Nat) (hv : v < 2 ^ k) : q * 2 ^ k ||| v = q * 2 ^ k + v := by
 rw [← Nat.shiftLeft_eq, Nat.shiftLeft_add_eq_or_of_lt hv]
theorem gb_trans {a b c : World} {r : Option Nat} (h : a.grownBy b r) (k : b.grownBy c r) : a.grownBy c r :=
 ⟨k.os.trans h.os, k.tape.trans h.tape, k.output.trans h.output, Nat.le_trans h.size k.size, fun i hi hr => (k.block i (Nat.lt_of_lt_of_le hi h.size) hr).trans (h.block i hi hr)⟩
theorem gb_drew {a b : World} {r : Option Nat} (h : a.grownBy b r) : a.grownBy b.drew r := ⟨h.os, h.tape, h.output, h.size, h.block⟩
theorem gb_drewN {a b : World} {r : Option Nat} (h : a.grownBy b r) (n : Nat) : a.grownBy (b.drewN n) r := ⟨h.os, h.tape, h.output, h.size, h.block⟩
theorem quiet_eq {P : Program} {f : FuncId} {args : Array Value} {w : World} {n : Nat} {v : Value} (h : Calls P f args (w.drewN n) fun e w' => e = .returned v ∧ w.drewN n = w') : Calls P f args (w.drewN n) fun e w'' => e = .returned v ∧ ∃ m, w'' = w.drewN m :=
 h.mono fun e w' ⟨h1, h2⟩ => ⟨h1, n, h2.symm⟩
def GotN (w : World) (g : Nat) (B : List UInt8) (n k : Nat) (e : Ending) (w' : World) : Prop :=
 w.grownBy w' (some g) ∧ ((∃ v c, getN k ((row B).drop n) = some (v, c) ∧ e = .returned (.tuple #[.int .u32 (v : Int), .bool true]) ∧ RB w' g B (n + c) false) ∨
  (getN k ((row B).drop n) = none ∧ ∃ m : Int, e = .returned (.tuple #[.int .u32 m, .bool false])))
theorem pow_le16 {k : Nat} (hk : k ≤ 16) : 2 ^ k ≤ 65536 := Nat.pow_le_pow_right (by decide) hk
set_option maxRecDepth 100000 in
set_option maxHeartbeats 1000000 in
theorem get_any (g : Nat) (B : List UInt8) (n k : Nat) (w : World) (h : RB w g B n false) (hk : k ≤ 16) (hn : n ≤ 8 * B.length) (hB : B.length ≤ 100000) :
  Calls Tryz.prog 94 #[.pointer (some ⟨g, 0, none⟩), .int .i64 (k : Int)] w (GotN w g B n k) := by
 have ho := rones_any g B n 20 w h (by decide) hn hB
 have hlen : ((row B).drop n).length = 8 * B.length - n := rest_len B n
 have hll := lead_le ((row B).drop n)
 unfold GotN
 obtain ⟨r, hr0⟩ : ∃ r, r = getN k ((row B).drop n) := ⟨_, rfl⟩
 rw [← hr0]
 unfold getN at hr0
 unfold GotO at ho
 by_cases h1 : onesOk ((row B).drop n) 20 = true
 ·rw [h1] at ho
  dsimp only at ho
  rw [if_pos h1] at hr0
  unfold onesOk at h1
  rw [Bool.and_eq_true, decide_eq_true_eq, decide_eq_true_eq] at h1
  obtain ⟨q, hq⟩ : ∃ q, q = lead ((row B).drop n) := ⟨_, rfl⟩
  rw [← hq] at ho h1 hll hr0
  have hdd : ((row B).drop n).drop (q + 1) = (row B).drop (n + q + 1) := by rw [List.drop_drop]; rfl
  rw [hdd, hlen] at hr0
  rw [hlen] at h1 hll
  clear hq hdd h
  by_cases hq20 : q < 20
  ·rw [if_pos hq20] at hr0
   have d1 : decide ((q : Int) < 20) = true := decide_eq_true (by omega)
   have d1' : decide (q < 20) = true := decide_eq_true hq20
   have hp := pow_le16 hk
   have hqp : q * 2 ^ k ≤ 20 * 65536 := Nat.mul_le_mul (by omega) hp
   by_cases hle : q + 1 + k ≤ 8 * B.length - n
   ·have hr := fun X hX => rnum_ok g B (n + q + 1) k X hX (by omega) (by omega) hB
    have hv := val_lt (((row B).drop (n + q + 1)).take k) k (by rw [List.length_take]; omega)
    obtain ⟨v, hve⟩ : ∃ v, v = val (((row B).drop (n + q + 1)).take k) := ⟨_, rfl⟩
    rw [← hve] at hr hv hr0
    have hor := or_u32_nat (q * 2 ^ k) v (by omega) (by omega)
    rw [or_add q v k hv] at hor
    obtain ⟨p, hpe⟩ : ∃ p, p = q * 2 ^ k := ⟨_, rfl⟩
    have hpi : (q : Int) * (2 ^ k : Int) = (p : Int) := by rw [hpe, Int.natCast_mul, Int.natCast_pow]; rfl
    rw [← hpe] at hor hqp hr0
    have kt : (k : Int).toNat = k := Int.toNat_natCast k
    have k0 : ¬ (k : Int) < 0 := by omega
    have u1 : IntKind.u32.wrap (p : Int) = (p : Int) := IntWalk.u32_in _ (by omega)
    have u2 : IntKind.u32.wrap (v : Int) = (v : Int) := IntWalk.u32_in _ (by omega)
    have u3 : IntKind.u32.wrap (q : Int) = (q : Int) := IntWalk.u32_in _ (by omega)
    clear hve hpe
    have HR0 := Lib.hid hr0
    clear hr0
    go_enter Tryz.func94, Tryz.ntmps94
    go_wp2_with fail
    refine ho.mono ?_
    rintro e w1 ⟨rfl, hb1, hg1⟩
    have hrt := right_any g B (n + q + 1) false w1 hb1
    have HB1 := Lib.hid hb1
    have HG1 := Lib.hid hg1
    clear ho hb1 hg1
    go_wp2_with fail
    refine hrt.mono ?_
    rintro e w2 ⟨rfl, rfl⟩
    clear hrt
    go_wp2_with fail
    go_region_held3 (fun X => w.grownBy X (some g))
     (first | exact gb_drew HG1.out | assumption | exact gb_trans ‹World.grownBy _ _ _› ‹World.grownBy _ _ _›)
     (first
      | (go_at_call 92; (with_reducible refine (hr _ HB1.out.drew).mono ?_); rintro e w' ⟨rfl, hb2, hg2⟩; have hg3 := gb_trans (gb_drew HG1.out) hg2))
    have HB2 := Lib.hid hb2
    have HG2 := Lib.hid hg3
    clear hb2 hg2 hg3 hr HG1
    have hrt := right_any g B (n + q + 1 + k) false _ HB2.out
    by_cases hlt : p + v < 131072
    ·have e1 : decide (((p : Int) + (v : Int)) < 131072) = true := decide_eq_true (by omega)
     have e2 : decide (p + v < 131072) = true := decide_eq_true hlt
     have hr0 := HR0.out
     rw [if_pos ⟨hle, hlt⟩] at hr0
     have HR := Lib.hid hr0
     clear hr0
     go_wp2_with fail
     refine hrt.mono ?_
     rintro e w3 ⟨rfl, rfl⟩
     clear hrt
     go_wp2_with fail
     go_ret2
     exact ⟨HG2.out, .inl ⟨_, _, HR.out, by simp, by rw [show n + (q + 1 + k) = n + q + 1 + k by omega]; exact HB2.out⟩⟩
    ·have e1 : decide (((p : Int) + (v : Int)) < 131072) = false := decide_eq_false (by omega)
     have e2 : decide (p + v < 131072) = false := decide_eq_false hlt
     have hr0 := HR0.out
     rw [if_neg (fun h => hlt h.2)] at hr0
     have HR := Lib.hid hr0
     clear hr0
     go_wp2_with fail
     refine hrt.mono ?_
     rintro e w3 ⟨rfl, rfl⟩
     clear hrt
     go_wp2_with fail
     go_ret2
     exact ⟨HG2.out, .inr ⟨HR.out, _, rfl⟩⟩
   ·have hr := fun X hX => rnum_no g B (n + q + 1) k false X hX (by omega) (.inr (by omega)) (by omega) hB
    rw [if_neg (fun h => hle h.1)] at hr0
    have HR := Lib.hid hr0
    clear hr0
    have kt : (k : Int).toNat = k := Int.toNat_natCast k
    have k0 : ¬ (k : Int) < 0 := by omega
    go_enter Tryz.func94, Tryz.ntmps94
    go_wp2_with fail
    refine ho.mono ?_
    rintro e w1 ⟨rfl, hb1, hg1⟩
    have hrt := right_any g B (n + q + 1) false w1 hb1
    have HB1 := Lib.hid hb1
    have HG1 := Lib.hid hg1
    clear ho hb1 hg1
    go_wp2_with fail
    refine hrt.mono ?_
    rintro e w2 ⟨rfl, rfl⟩
    clear hrt
    go_wp2_with fail
    go_region_held3 (fun X => w.grownBy X (some g))
     (first | exact gb_drew HG1.out | assumption | exact gb_trans ‹World.grownBy _ _ _› ‹World.grownBy _ _ _›)
     (first
      | (go_at_call 92; (with_reducible refine (hr _ HB1.out.drew).mono ?_); rintro e w' ⟨rfl, hb2, hg2⟩; have hg3 := gb_trans (gb_drew HG1.out) hg2))
    have HB2 := Lib.hid hb2
    have HG2 := Lib.hid hg3
    clear hb2 hg2 hg3 hr HG1
    have hrt := right_any g B (n + q + 1) true _ HB2.out
    go_wp2_with fail
    refine hrt.mono ?_
    rintro e w3 ⟨rfl, rfl⟩
    clear hrt
    go_wp2_with fail
    go_ret2
    exact ⟨HG2.out, .inr ⟨HR.out, _, rfl⟩⟩
  ·have hq2 : q = 20 := by omega
   subst hq2
   rw [if_neg (by decide)] at hr0
   by_cases hle : 20 + 1 + 17 ≤ 8 * B.length - n
   ·have hr := fun X hX => rnum_ok g B (n + 20 + 1) 17 X hX (by omega) (by omega) hB
    have hv := val_lt (((row B).drop (n + 20 + 1)).take 17) 17 (by rw [List.length_take]; omega)
    obtain ⟨v, hve⟩ : ∃ v, v = val (((row B).drop (n + 20 + 1)).take 17) := ⟨_, rfl⟩
    rw [← hve] at hr hv hr0
    have hq : v / 2 ^ k ≤ v := Nat.div_le_self _ _
    have hd : (v : Int) / (2 ^ k : Int) = ((v / 2 ^ k : Nat) : Int) := by rw [Int.natCast_ediv, Int.natCast_pow]; rfl
    obtain ⟨z, hze⟩ : ∃ z, z = v / 2 ^ k := ⟨_, rfl⟩
    rw [← hze] at hq hd hr0
    have kt : (k : Int).toNat = k := Int.toNat_natCast k
    have k0 : ¬ (k : Int) < 0 := by omega
    have u2 : IntKind.u32.wrap (v : Int) = (v : Int) := IntWalk.u32_in _ (by omega)
    clear hve hze
    have HR0 := Lib.hid hr0
    clear hr0
    go_enter Tryz.func94, Tryz.ntmps94
    go_wp2_with fail
    refine ho.mono ?_
    rintro e w1 ⟨rfl, hb1, hg1⟩
    have hrt := right_any g B (n + 20 + 1) false w1 hb1
    have HB1 := Lib.hid hb1
    have HG1 := Lib.hid hg1
    clear ho hb1 hg1
    go_wp2_with fail
    refine hrt.mono ?_
    rintro e w2 ⟨rfl, rfl⟩
    clear hrt
    go_wp2_with fail
    refine (hr _ HB1.out).mono ?_
    rintro e w3 ⟨rfl, hb3, hg3⟩
    have hrt := fun j => right_any g B (n + 20 + 1 + 17) false (w3.drewN j) (hb3.drewN j)
    have HB3 := Lib.hid hb3
    have HG3 := Lib.hid (gb_trans HG1.out hg3)
    clear hb3 hg3 HB1 HG1 hr
    go_wp2_with fail
    by_cases hlt : 20 ≤ z
    ·have e1 : decide ((20 : Int) ≤ (z : Int)) = true := decide_eq_true (by omega)
     have e2 : decide (20 ≤ z) = true := decide_eq_true hlt
     have hr0 := HR0.out
     rw [if_pos ⟨hle, hlt⟩] at hr0
     have HR := Lib.hid hr0
     clear hr0
     go_quiet ((go_at_call 93; with_reducible exact quiet_eq (hrt _)))
     go_wp2_with fail
     go_ret2
     exact ⟨gb_drewN HG3.out _, .inl ⟨_, _, HR.out, rfl, by rw [show n + (20 + 1 + 17) = n + 20 + 1 + 17 by omega]; exact HB3.out.drewN _⟩⟩
    ·have e1 : decide ((20 : Int) ≤ (z : Int)) = false := decide_eq_false (by omega)
     have e2 : decide (20 ≤ z) = false := decide_eq_false hlt
     have hr0 := HR0.out
     rw [if_neg (fun h => hlt h.2)] at hr0
     have HR := Lib.hid hr0
     clear hr0
     go_quiet ((go_at_call 93; with_reducible exact quiet_eq (hrt _)))
     go_wp2_with fail
     go_ret2
     exact ⟨gb_drewN HG3.out _, .inr ⟨HR.out, _, rfl⟩⟩
   ·have hr := fun X hX => rnum_no g B (n + 20 + 1) 17 false X hX (by omega) (.inr (by omega)) (by omega) hB
    rw [if_neg (fun h => hle h.1)] at hr0
    have HR := Lib.hid hr0
    clear hr0
    go_enter Tryz.func94, Tryz.ntmps94
    go_wp2_with fail
    refine ho.mono ?_
    rintro e w1 ⟨rfl, hb1, hg1⟩
    have hrt := right_any g B (n + 20 + 1) false w1 hb1
    have HB1 := Lib.hid hb1
    have HG1 := Lib.hid hg1
    clear ho hb1 hg1
    go_wp2_with fail
    refine hrt.mono ?_
    rintro e w2 ⟨rfl, rfl⟩
    clear hrt
    go_wp2_with fail
    refine (hr _ HB1.out).mono ?_
    rintro e w3 ⟨rfl, hb3, hg3⟩
    have hrt := fun j => right_any g B (n + 20 + 1) true (w3.drewN j) (hb3.drewN j)
    have HG3 := Lib.hid (gb_trans HG1.out hg3)
    clear hb3 hg3 HB1 HG1 hr
    go_wp2_with fail
    go_quiet ((go_at_call 93; with_reducible exact quiet_eq (hrt _)))
    go_wp2_with fail
    go_ret2
    exact ⟨gb_drewN HG3.out _, .inr ⟨HR.out, _, rfl⟩⟩
 ·have h1' : onesOk ((row B).drop n) 20 = false := by simpa using h1
  rw [h1'] at ho
  dsimp only at ho
  rw [if_neg h1] at hr0
  have HR := Lib.hid hr0
  clear hr0
  go_enter Tryz.func94, Tryz.ntmps94
  go_wp2_with fail
  refine ho.mono ?_
  rintro e w1 ⟨rfl, ⟨n', hn', hb1⟩, hg1⟩
  have hrt := right_any g B n' true w1 hb1
  have HG1 := Lib.hid hg1
  clear ho hb1 hg1
  go_wp2_with fail
  refine hrt.mono ?_
  rintro e w2 ⟨rfl, rfl⟩
  clear hrt
  go_wp2_with fail
  go_ret2
  exact ⟨HG1.out, .inr ⟨HR.out, _, rfl⟩⟩
end Ric
end Go.Proofs.YtekjehbkmlodmaaGreat
end
section
namespace Go.Proofs.YtekjehbkmlodmaaGreat
open Go.RowKit Go.Shelf
namespace Ric
open Bits
attribute [local go_sem] Oper.semAt_some
def z32 (x : Int) : Value := .int .i32 x
structure U32 where
 n : Nat
 h : n < 4294967296
def In32 (L : List Int) : Prop := ∀ x ∈ L, -2147483648 ≤ x ∧ x ≤ 2147483647
def foldX (x : Int) : U32 := if h : -2147483648 ≤ x ∧ x ≤ 2147483647 then ⟨foldU x, foldU_lt h⟩ else ⟨0, by decide⟩
theorem foldX_n {x : Int} (h : -2147483648 ≤ x ∧ x ≤ 2147483647) : (foldX x).n = foldU x := by unfold foldX; rw [dif_pos h]
def foldsX (L : List Int) : List U32 := L.map foldX
theorem foldsX_n {L : List Int} (h : In32 L) : (foldsX L).map U32.n = L.map foldU := by
 unfold foldsX
 rw [List.map_map]
 exact List.map_congr_left fun x hx => foldX_n (h x hx)
def encF (x : U32) : Array Value := #[.int .u32 (x.n : Int)]
structure FX (Bs : Nat) (A : Option Addr) (N cap lo hi : Nat) (L : List Int) (W : World) : Prop where
 box : W.cell? ⟨Bs, 0, none⟩ = some (.slice A N cap)
 rd : RdL W lo hi A (L.map z32)
 sz : hi ≤ W.heap.size
theorem FX.next {Bs : Nat} {A : Option Addr} {N cap lo hi : Nat} {L : List Int} {W W' : World} (S : FX Bs A N cap lo hi L W) (hb : Below W.heap.size W W') : FX Bs A N cap lo hi L W' :=
 ⟨(hb.cell (p := ⟨Bs, 0, none⟩) (block_lt_of_cell S.box)).trans S.box, S.rd.next hb, Nat.le_trans S.sz hb.size⟩
def FoldPost (L : List Int) (J Jx : List U32 → World → Prop) (e : Ending) (W' : World) : Prop := (∃ v, e = .returned v) ∧
      ((∃ ys, ys = foldsX L ∧ J ys W') ∨ (∃ pre, pre <+: foldsX L ∧ Jx pre W'))
set_option maxRecDepth 100000 in
set_option maxHeartbeats 2000000 in
theorem folded1_in (n : Nat) (hn : 1 ≤ n) (l Bs : Nat) (A : Option Addr) (N cap lo hi : Nat) (L : List Int) (hL : L.length = N) (hl : N ≤ 1000000) (hz : In32 L) (J Jx : List U32 → World → Prop) (W : World) (hJ : AbidesFrom W.heap.size J)
  (hY : ∀ pre x W1, J pre W1 → pre.length < N → YieldAt Fence.wide (n - 1) Tryz.prog l (encF x) W1 fun e W' =>
   (e = .returned (.bool true) ∧ J (pre ++ [x]) W' ∧ (FX Bs A N cap lo hi L W1 → FX Bs A N cap lo hi L W')) ∨ (e = .returned (.bool false) ∧ Jx (pre ++ [x]) W'))
  (hbx : FX Bs A N cap lo hi L W) (h0 : J [] W) :
  CallsIn Fence.wide n Tryz.prog 89 #[.func (.yield l) #[] #[], .pointer (some ⟨Bs, 0, none⟩)] W (FoldPost L J Jx) := by
 have HL := Lib.hid hL
 have HZ := Lib.hid hz
 have e0 := hbx.box
 have HB0 := Lib.hid hbx
 have H0 := Lib.hid h0
 clear hL hz hbx h0
 refine callsIn_of_wp Tryz.func89 rfl trivial ?_ rfl
 simp only [Tryz.ntmps89, List.size_toArray, List.length_cons, List.length_nil, Nat.reduceAdd, Nat.reduceSub, Array.replicate_succ, Array.replicate_zero, List.push_toArray, List.append_toArray, List.nil_append, List.cons_append]
 gi_wp2
 gi_loopw [4, 7] (fun _ u wr => ∃ (i : Nat), u = .int .i64 (i : Int) ∧ i ≤ N ∧ J ((foldsX L).take i) wr ∧ FX Bs A N cap lo hi L wr) (fun _ u _ => N - (intOf u).toNat)
 case atStart => exact ⟨0, rfl, Nat.zero_le _, by rw [List.take_zero]; exact H0.out, HB0.out⟩
 case round =>
  obtain ⟨i, rfl, hiN, hJs, hb⟩ := hrel
  have HB := Lib.hid hb
  have HJs := Lib.hid hJs
  clear hb hJs HB0 H0 e0
  by_cases hlt : i < N
  ·have hltI : (i : Int) < (N : Int) := by omega
   have h0i : (0 : Int) ≤ (i : Int) := by omega
   have di : decide (i < N) = true := decide_eq_true hlt
   have hiL : i < L.length := by rw [HL.out]; exact hlt
   obtain ⟨b, off, rfl, _, _, _, hc⟩ := HB.out.rd.some (by rw [List.length_map]; omega)
   have c0 : wr.cell? ⟨b, off + i, none⟩ = some (.int .i32 L[i]) := hc i _ (by rw [List.getElem?_map, List.getElem?_eq_getElem hiL]; rfl)
   have hx := HZ.out _ (List.getElem_mem hiL)
   have hf := fold_any L[i] hx wr
   have hfx := foldX_n hx
   have hlen : ((foldsX L).take i).length < N := by rw [List.length_take]; omega
   have HT : Hid ((foldsX L).take (i + 1) = (foldsX L).take i ++ [foldX L[i]]) := Lib.hid (by
    unfold foldsX
    rw [List.take_succ_eq_append_getElem (by rw [List.length_map]; exact hiL), List.getElem_map])
   have hy := hY _ (foldX L[i]) wr HJs.out hlen
   obtain ⟨x, hxe⟩ : ∃ x, x = L[i] := ⟨_, rfl⟩
   obtain ⟨u, hue⟩ : ∃ u, u = foldX L[i] := ⟨_, rfl⟩
   rw [← hue] at hfx HT hy
   rw [← hxe] at c0 hf hfx
   rw [← hfx] at hf
   obtain ⟨fn, tmps, assign, body, hy, hR⟩ := hy
   dsimp only [encF] at hy
   clear hxe hue hc hx hfx
   gi_wp2_with ((refine ⟨trivial, ?_⟩; gi_at_call 90; refine (callsIn_wide.2 hf).mono ?_; rintro e w1 ⟨rfl, rfl⟩))
   refine hR.mono ?_
   rintro e W3 (⟨rfl, hJ3, hk3⟩ | ⟨rfl, hJx3⟩)
   ·have HB3 := Lib.hid (hk3 HB.out)
    have HJ3 := Lib.hid hJ3
    clear hk3 hJ3 hR hy hf
    gi_wp2
    go_roundw
    case rel => exact ⟨i + 1, by go_num, by omega, by rw [HT.out]; exact HJ3.out, HB3.out⟩
    case measure => first | (simp [intOf]; done) | (simp [intOf]; omega)
   ·clear hR hy hf
    have HJx := Lib.hid hJx3
    clear hJx3
    gi_wp2
    refine bodyPost_ret (results_none rfl _ _ _) rfl ?_
    exact ⟨⟨_, rfl⟩, .inr ⟨_, by rw [← HT.out]; exact List.take_prefix _ _, HJx.out⟩⟩
  ·obtain rfl : i = N := by omega
   have di : decide (i < i) = false := decide_eq_false hlt
   have hall : (foldsX L).take i = foldsX L := List.take_of_length_le (by unfold foldsX; rw [List.length_map, HL.out]; exact Nat.le_refl _)
   have HJ := HJs.out
   rw [hall] at HJ
   have HJd := Lib.hid HJ
   clear HJ hall
   gi_wp2
   go_end0
   exact ⟨⟨_, rfl⟩, .inl ⟨_, rfl, HJd.out⟩⟩
theorem folded_any (A : Option Addr) (N cap : Nat) (w : World) :
  Calls Tryz.prog 72 #[.slice A N cap] w fun e w' => e = .returned (.func (.func 89) #[] #[.pointer (some ⟨w.heap.size, 0, none⟩)]) ∧ w.alloc (.cells #[.slice A N cap] 140) = w' := by
 go_enter Tryz.func72, Tryz.ntmps72
 go_wp2_with fail
 go_ret
 exact ⟨rfl, rfl⟩
theorem folded_stops (n : Nat) (hn : 1 ≤ n) (Bs : Nat) (A : Option Addr) (N cap lo hi : Nat) (L : List Int) (hL : L.length = N) (hl : N ≤ 1000000) (hz : In32 L) (w : World) (hbx : FX Bs A N cap lo hi L w) :
  SeqStopsK Fence.wide n Tryz.prog 89 #[.pointer (some ⟨Bs, 0, none⟩)] encF (fun W W' => FX Bs A N cap lo hi L W → FX Bs A N cap lo hi L W') (fun ys => ys = foldsX L) (fun pre => pre <+: foldsX L) N w := fun l J Jx W hW hJ _ hY h0 =>
 folded1_in n hn l Bs A N cap lo hi L hL hl hz J Jx W hJ hY (hbx.next hW) h0
theorem cell_putObj {W : World} {l : Nat} {o o' : Obj} (hl : W.heap[l]? = some o) (ho : o.isCells = false) {b i : Nat} {v : Value} (hc : W.cell? ⟨b, i, none⟩ = some v) : (W.putObj l o').cell? ⟨b, i, none⟩ = some v := by
 have hne : b ≠ l := fun e => by
  subst e
  unfold World.cell? at hc
  simp only [hl] at hc
  cases o <;> simp_all [Obj.isCells]
 rw [← hc]
 unfold World.cell?
 rw [World.putObj_heap_other hne]
theorem rd_putObj {W : World} {l lo hi : Nat} {A : Option Addr} {L : List Value} {o o' : Obj} (hl : W.heap[l]? = some o) (ho : o.isCells = false) (h : RdL W lo hi A L) : RdL (W.putObj l o') lo hi A L := by
 have hsz : (W.putObj l o').heap.size = W.heap.size := by simp [World.putObj]
 rcases h with h | ⟨b, off, e, h1, h2, h3, hc⟩
 ·exact .inl h
 ·exact .inr ⟨b, off, e, h1, h2, by rw [hsz]; exact h3, fun j u hu => cell_putObj hl ho (hc j u hu)⟩
theorem fx_putObj {Bs : Nat} {A : Option Addr} {N cap lo hi : Nat} {L : List Int} (W : World) (l : Nat) (o o' : Obj) (hl : W.heap[l]? = some o) (ho : o.isCells = false) : FX Bs A N cap lo hi L W → FX Bs A N cap lo hi L (W.putObj l o') := fun h =>
 ⟨cell_putObj hl ho h.box, rd_putObj hl ho h.rd, by simpa [World.putObj] using h.sz⟩
def TF (a : Act) (q s : Tmp) (x : U32) : Act := { tmps := (a.tmps.setIfInBounds q (.int .u32 (x.n : Int))).setIfInBounds s (.int .u32 (x.n : Int)), defers := [] }
theorem range_folded {g : Operand} {q s : Tmp} {assign body : Code} {Q : Exit → Act → World → Prop} {a : Act} {W0 : World} {Bs : Nat} {A : Option Addr} {N cap lo hi : Nat} {L : List Int}
  (hg : a.eval g = .func (.func 89) #[] #[.pointer (some ⟨Bs, 0, none⟩)]) (hL : L.length = N) (hl : N ≤ 1000000) (hz : In32 L) (hbx : FX Bs A N cap lo hi L W0)
  (I : List U32 → World → Prop) (hI : OwnFrom W0.heap.size I) (h0 : I [] W0)
  (hassign : ∀ (l : Nat) (x : U32) (W : World) (K : Act → World → Prop), K (TF a q s x) W →
   assign.wpIn (Fence.wide.inRound l) 7 Tryz.prog (Exit.then K (fun _ _ _ => False)) { tmps := a.tmps.setIfInBounds q (.int .u32 (x.n : Int)), defers := [] } W)
  (hbody : ∀ (l : Nat) (pre : List U32) (x : U32) (W : World), W0.heap.size ≤ l → I pre W → pre.length < N →
   body.wpIn (Fence.wide.inRound l) 7 Tryz.prog (ownPostG W0.heap.size (fun W W' => FX Bs A N cap lo hi L W → FX Bs A N cap lo hi L W') I (fun _ _ _ => False) (pre ++ [x]) W) (TF a q s x) W)
  (hdone : ∀ (D : Nat) (W : World), W0.heap.size ≤ D → I (foldsX L) W → W.heap[D]? = some (.deferred (some [])) → Q .normal { a with defers := { target := .collected D, args := #[] } :: a.defers } W) :
  (Code.rangeFunc g #[q] assign body).wp Tryz.prog Q a W0 := by
 refine (wpIn_wide (n := 9)).1 ?_
 refine wpIn_rangeFunc_ownH rfl (by decide) (gf := 89) (lb := #[.pointer (some ⟨Bs, 0, none⟩)]) hg trivial (enters_of Tryz.func89 (by kernel_rfl) rfl)
  (folded_stops 8 (by decide) Bs A N cap lo hi L hL hl hz W0 hbx) (fun h k x => k (h x)) (fun W l o o' _ hl ho _ => fx_putObj W l o o' hl ho) (Below.refl _ _) (fun _ => rfl) I (fun _ _ _ => False) hI (fun _ _ _ _ _ h _ _ => h) h0
  (fun x a' W => a' = TF a q s x) ?_ ?_ ?_ ?_ ?_
 ·intro x a' s A' B' row hs hgr hr
  exact hs
 ·intro l pre x W K hi hK
  have e : ((#[q] : Array Tmp).zip (encF x)).foldl (fun t (pv : Tmp × Value) => t.setIfInBounds pv.1 pv.2) a.tmps = a.tmps.setIfInBounds q (.int .u32 (x.n : Int)) := by simp [encF]
  have e2 := hassign l x W K (hK _ _ ((KeepsOthers.refl W).from _) (fun h => h) hi rfl)
  rw [← e] at e2
  exact e2
 ·rintro l pre x a' W hl' _ hi rfl hlen
  exact hbody l pre x W hl' hi hlen
 ·rintro D xs W hD rfl hi hK
  exact hdone D W hD hi hK
 ·rintro D c pre W hD hpre hi hK
  exact hi.elim
end Ric
end Go.Proofs.YtekjehbkmlodmaaGreat
end
