/-
  The search of package route, in memory: the field's box, the three tables and the heap. No walk yet.
-/
import Derived.Test.YtgncngpgodfijaaRouW4
import Derived.Laws.MakeOwn
namespace Go.Proofs.Ytgncngpgodfijaa
open Go.RowKit
set_option linter.unusedVariables false
namespace Rou

def iv (x : Int) : Value := .int .i64 x
/-- the tables and the heap, in memory -/
structure SD (w : World) (W H : Int) (A : Option Addr) (n cap lo hi : Nat) (C : List Int) (gc gb gd gh : Nat) (D K : List Int) (N : List Bool) (u : Value) (Q : List It) (wr : World) : Prop where
  box : Blk wr w.heap.size 82 (fdc W H A n cap)
  rd : RdL wr lo hi A (C.map iv)
  keep : Below w.heap.size w wr
  hi : hi ≤ w.heap.size
  c : Blk wr gc 2 (D.map iv)
  b : Blk wr gb 3 (K.map iv)
  d : Blk wr gd 4 (N.map Value.bool)
  blk : Blk wr gh 120 [u]
  own : wr.ownsRow 0 117 2 u Q.length (Q.flatMap itc)
  ne : u.ownBlock ≠ some gh
  ap : ∀ k, u.ownBlock = some k → w.heap.size < k ∧ k ≠ gc ∧ k ≠ gb ∧ k ≠ gd
  g1 : w.heap.size < gc
  g2 : w.heap.size < gb
  g3 : w.heap.size < gd
  g4 : w.heap.size < gh
  n1 : gc ≠ gb
  n2 : gc ≠ gd
  n3 : gc ≠ gh
  n4 : gb ≠ gd
  n5 : gb ≠ gh
  n6 : gd ≠ gh
section
variable {w wr w' : World} {W H : Int} {A : Option Addr} {n cap lo hi : Nat} {C : List Int} {gc gb gd gh : Nat} {D K : List Int} {N : List Bool} {u u' : Value} {Q Q' : List It}
theorem SD.next (S : SD w W H A n cap lo hi C gc gb gd gh D K N u Q wr) (hb : Below wr.heap.size wr w') : SD w W H A n cap lo hi C gc gb gd gh D K N u Q w' :=
  ⟨S.box.next hb, S.rd.next hb, bt S.keep hb, S.hi, S.c.next hb, S.b.next hb, S.d.next hb, S.blk.next hb, own_next S.own hb, S.ne, S.ap, S.g1, S.g2, S.g3, S.g4, S.n1, S.n2, S.n3, S.n4, S.n5, S.n6⟩
theorem SD.drewN (S : SD w W H A n cap lo hi C gc gb gd gh D K N u Q wr) (k : Nat) : SD w W H A n cap lo hi C gc gb gd gh D K N u Q (wr.drewN k) := S.next (below_drewN (Below.refl _ _) k)
theorem SD.qb (S : SD w W H A n cap lo hi C gc gb gd gh D K N u Q wr) : QB wr gh u Q wr u := ⟨S.blk, S.own, S.ne, WF.refl _ _ _⟩
/-- the heap has turned -/
theorem SD.heap (S : SD w W H A n cap lo hi C gc gb gd gh D K N u Q wr) (q : QB wr gh u Q' w' u') : SD w W H A n cap lo hi C gc gb gd gh D K N u' Q' w' := by
  have hw := q.wf
  have hk : ∀ i, i < wr.heap.size → i ≠ gh → u.ownBlock ≠ some i → w'.heap[i]? = wr.heap[i]? := hw.block
  have hl : ∀ i, i ≤ w.heap.size → i ≠ gh ∧ u.ownBlock ≠ some i := fun i hi => ⟨by have := S.g4; omega, fun e => by have := (S.ap i e).1; omega⟩
  have hs := S.keep.size
  have hsb := S.box.lt
  refine ⟨(hk _ hsb (hl _ (Nat.le_refl _)).1 (hl _ (Nat.le_refl _)).2).trans S.box, ?_, ?_, S.hi, (hk _ S.c.lt S.n3 (fun e => (S.ap _ e).2.1 rfl)).trans S.c, (hk _ S.b.lt S.n5 (fun e => (S.ap _ e).2.2.1 rfl)).trans S.b, (hk _ S.d.lt S.n6 (fun e => (S.ap _ e).2.2.2 rfl)).trans S.d,
    q.blk, q.own, q.ne, fun k e => ?_, S.g1, S.g2, S.g3, S.g4, S.n1, S.n2, S.n3, S.n4, S.n5, S.n6⟩
  · have h0 := S.hi
    exact S.rd.keep hw.size fun b _ h2 h3 => hk b h3 (hl b (by omega)).1 (hl b (by omega)).2
  · exact ⟨hw.os.trans S.keep.os, hw.tape.trans S.keep.tape, hw.output.trans S.keep.output, Nat.le_trans hs hw.size, fun k h => (hk k (by omega) (hl k (by omega)).1 (hl k (by omega)).2).trans (S.keep.block k h)⟩
  · rcases hw.own with ho | ho
    · rw [ho] at e
      exact S.ap k e
    · have h1 := ho k e
      have c1 := S.c.lt
      have c2 := S.b.lt
      have c3 := S.d.lt
      exact ⟨by omega, by omega, by omega, by omega⟩
/-- a cell of a table turns -/
theorem SD.setc (S : SD w W H A n cap lo hi C gc gb gd gh D K N u Q wr) (i : Nat) (x : Int) : SD w W H A n cap lo hi C gc gb gd gh (D.set i x) K N u Q (wr.setCell ⟨gc, i, none⟩ (.int .i64 x)) := by
  have g1 := S.g1
  refine ⟨S.box.far (p := ⟨gc, i, none⟩) (by show w.heap.size ≠ gc; omega) _, S.rd.far (p := ⟨gc, i, none⟩) (.inr (by have := S.hi; show hi ≤ gc; omega)) _, S.keep.setCell (by show w.heap.size ≤ gc; omega) _, S.hi, ?_, S.b.far (p := ⟨gc, i, none⟩) (Ne.symm S.n1) _, S.d.far (p := ⟨gc, i, none⟩) (Ne.symm S.n2) _,
    S.blk.far (p := ⟨gc, i, none⟩) (Ne.symm S.n3) _, ownsRow_setCell_other S.own (a := ⟨gc, i, none⟩) (fun e => (S.ap _ e).2.1 rfl) _, S.ne, S.ap, S.g1, S.g2, S.g3, S.g4, S.n1, S.n2, S.n3, S.n4, S.n5, S.n6⟩
  have := S.c.put i (.int .i64 x)
  rw [List.map_set]
  exact this
theorem SD.setb (S : SD w W H A n cap lo hi C gc gb gd gh D K N u Q wr) (i : Nat) (x : Int) : SD w W H A n cap lo hi C gc gb gd gh D (K.set i x) N u Q (wr.setCell ⟨gb, i, none⟩ (.int .i64 x)) := by
  have g1 := S.g2
  refine ⟨S.box.far (p := ⟨gb, i, none⟩) (by show w.heap.size ≠ gb; omega) _, S.rd.far (p := ⟨gb, i, none⟩) (.inr (by have := S.hi; show hi ≤ gb; omega)) _, S.keep.setCell (by show w.heap.size ≤ gb; omega) _, S.hi, S.c.far (p := ⟨gb, i, none⟩) S.n1 _, ?_, S.d.far (p := ⟨gb, i, none⟩) (Ne.symm S.n4) _,
    S.blk.far (p := ⟨gb, i, none⟩) (Ne.symm S.n5) _, ownsRow_setCell_other S.own (a := ⟨gb, i, none⟩) (fun e => (S.ap _ e).2.2.1 rfl) _, S.ne, S.ap, S.g1, S.g2, S.g3, S.g4, S.n1, S.n2, S.n3, S.n4, S.n5, S.n6⟩
  have := S.b.put i (.int .i64 x)
  rw [List.map_set]
  exact this
theorem SD.setd (S : SD w W H A n cap lo hi C gc gb gd gh D K N u Q wr) (i : Nat) (x : Bool) : SD w W H A n cap lo hi C gc gb gd gh D K (N.set i x) u Q (wr.setCell ⟨gd, i, none⟩ (.bool x)) := by
  have g1 := S.g3
  refine ⟨S.box.far (p := ⟨gd, i, none⟩) (by show w.heap.size ≠ gd; omega) _, S.rd.far (p := ⟨gd, i, none⟩) (.inr (by have := S.hi; show hi ≤ gd; omega)) _, S.keep.setCell (by show w.heap.size ≤ gd; omega) _, S.hi, S.c.far (p := ⟨gd, i, none⟩) S.n2 _, S.b.far (p := ⟨gd, i, none⟩) S.n4 _, ?_,
    S.blk.far (p := ⟨gd, i, none⟩) (Ne.symm S.n6) _, ownsRow_setCell_other S.own (a := ⟨gd, i, none⟩) (fun e => (S.ap _ e).2.2.2 rfl) _, S.ne, S.ap, S.g1, S.g2, S.g3, S.g4, S.n1, S.n2, S.n3, S.n4, S.n5, S.n6⟩
  have := S.d.put i (.bool x)
  rw [List.map_set]
  exact this
theorem cell_iv {w : World} {g : Nat} {t : TypeId} {D : List Int} (h : Blk w g t (D.map iv)) {i : Nat} (hi : i < D.length) : w.cell? ⟨g, i, none⟩ = some (.int .i64 (dd D i)) := by
  rw [h.cell, List.getElem?_map, List.getElem?_eq_getElem hi]
  unfold dd
  rw [List.getD_eq_getElem?_getD, List.getElem?_eq_getElem hi]
  rfl
theorem cell_bv {w : World} {g : Nat} {t : TypeId} {N : List Bool} (h : Blk w g t (N.map Value.bool)) {i : Nat} (hi : i < N.length) : w.cell? ⟨g, i, none⟩ = some (.bool (bb N i)) := by
  rw [h.cell, List.getElem?_map, List.getElem?_eq_getElem hi]
  unfold bb
  rw [List.getD_eq_getElem?_getD, List.getElem?_eq_getElem hi]
  rfl
theorem cell_cs {w : World} {lo hi b off : Nat} {C : List Int} (h : RdL w lo hi (some ⟨b, off, none⟩) (C.map iv)) {i : Nat} (hi : i < C.length) : w.cell? ⟨b, off + i, none⟩ = some (.int .i64 (cs C i)) := by
  obtain ⟨b', o', e, _, _, _, hc⟩ := h.some (by rw [List.length_map]; omega)
  injection e with e
  injection e with e1 e2
  subst e1 e2
  refine hc i _ ?_
  rw [List.getElem?_map, List.getElem?_eq_getElem hi]
  unfold cs
  rw [List.getD_eq_getElem?_getD, List.getElem?_eq_getElem hi]
  rfl
end
/-- a block that is known whole is a row of the call's own -/
theorem own_of_blk {w : World} {g base : Nat} {t : TypeId} {l : List Value} (h : Blk w g t l) (hb : base ≤ g) (hl : l.length ≤ maxLen) : w.ownsRow base t 1 (.slice (some ⟨g, 0, none⟩) l.length l.length) l.length l :=
  ⟨by simp, .inr ⟨g, l.length, l.toArray, rfl, hb, h, Nat.le_refl _, hl, by simp, by simp⟩⟩
end Rou
end Go.Proofs.Ytgncngpgodfijaa
