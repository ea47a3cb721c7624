/-
  A plan in memory, on the way; two rows are appended to.
-/
import Derived.Test.YtgncngpgodfijaaSchW6
import Derived.Test.YtgncngpgodfijaaHead
import Derived.Deep.RegionHeld3
import Derived.Deep.AppendLies
import Derived.Outline
import Derived.Deep.DeepCutAuto
namespace Go.Proofs.Ytgncngpgodfijaa
open Go.RowKit
set_option linter.unusedVariables false
namespace Sch

/-- the plan at g on the way: slots are as full as ld says -/
structure PX (w : World) (g : Nat) (vt vp : Value) (ld : Nat → Nat) (ts : List Tk) (ks : List Nat) (room : Nat) : Prop where
  blk : Blk w g 107 (pcells vt vp ld room)
  own1 : w.ownsRow (g + 1) 72 2 vt ts.length (ts.flatMap tkc)
  own2 : w.ownsRow (g + 1) 3 1 vp ks.length (iv ks)
  ap : Apart vt vp
section
variable {w w' : World} {g : Nat} {vt vp : Value} {ld : Nat → Nat} {ts : List Tk} {ks : List Nat} {room : Nat}
theorem PX.next (h : PX w g vt vp ld ts ks room) (hb : Below w.heap.size w w') : PX w' g vt vp ld ts ks room :=
  ⟨h.blk.below hb h.blk.lt, own_next h.own1 hb, own_next h.own2 hb, h.ap⟩
theorem PX.ne (h : PX w g vt vp ld ts ks room) : vt.ownBlock ≠ some g ∧ vp.ownBlock ≠ some g :=
  ⟨fun e => by have := (own_lt h.own1 e).1; omega, fun e => by have := (own_lt h.own2 e).1; omega⟩
theorem PX.put (h : PX w g vt vp ld ts ks room) (a x : Nat) (ha : a < 64) : PX (w.setCell ⟨g, 2 + a, none⟩ (.int .i64 (x : Int))) g vt vp (fun b => if b = a then x else ld b) ts ks room := by
  have hg := only_set (w := w) (g := g) (only_refl _ _) (2 + a) (.int .i64 (x : Int))
  refine ⟨?_, h.own1.kept hg (.inr h.ne.1), h.own2.kept hg (.inr h.ne.2), h.ap⟩
  have := h.blk.put (2 + a) (.int .i64 (x : Int))
  rw [pcells_set _ _ _ _ _ _ ha] at this
  exact this
theorem PX.ext (h : PX w g vt vp ld ts ks room) {ld' : Nat → Nat} (he : ∀ a, a < 64 → ld a = ld' a) : PX w g vt vp ld' ts ks room :=
  ⟨by rw [← pcells_ext vt vp room he]; exact h.blk, h.own1, h.own2, h.ap⟩
end

theorem PX.both {wd wa w1 wb w2 : World} {g : Nat} {vt vp vt' vp' : Value} {ts : List Tk} {ks : List Nat} {t : Tk} {k room n m : Nat} (h : PX wd g vt vp (load (ts ++ [t]) (ks ++ [k])) ts ks room)
    (hb1 : Below wd.heap.size wd wa) (g1 : wa.grownBy w1 vt.ownBlock) (o1 : w1.ownsRow (g + 1) 72 2 vt' n (ts.flatMap tkc ++ tkc t)) (hn : n = ts.length + 1) (n1 : vt'.ownBlock = vt.ownBlock ∨ ∀ b, vt'.ownBlock = some b → wd.heap.size ≤ b)
    (hb2 : Below w1.heap.size w1 wb) (g2 : wb.grownBy w2 vp.ownBlock) (o2 : w2.ownsRow (g + 1) 3 1 vp' m (iv ks ++ iv [k])) (hm : m = ks.length + 1) (n2 : vp'.ownBlock = vp.ownBlock ∨ ∀ b, vp'.ownBlock = some b → w1.heap.size ≤ b) :
    w2.frozen? ⟨g, 0, none⟩ = false ∧ (w2.setCell ⟨g, 0, none⟩ vt').frozen? ⟨g, 1, none⟩ = false ∧
    PB ((w2.setCell ⟨g, 0, none⟩ vt').setCell ⟨g, 1, none⟩ vp') g vt' vp' (ts ++ [t]) (ks ++ [k]) room ∧ Below g wd ((w2.setCell ⟨g, 0, none⟩ vt').setCell ⟨g, 1, none⟩ vp') := by
  subst hn hm
  obtain ⟨ne1, ne2⟩ := h.ne
  have ha := h.next hb1
  have hbk1 := ha.blk.grown g1 (fun e => ne1 e.symm)
  have hbk2 := hbk1.below hb2 hbk1.lt
  have hbk3 := hbk2.grown g2 (fun e => ne2 e.symm)
  have ho2 := own_next (own_kept ha.own2 g1 h.ap) hb2
  have hap1 : Apart vt' vp := h.ap.step h.own2 n1
  have ho1 := own_kept (own_next o1 hb2) g2 hap1.symm
  have hap2 : Apart vp' vt' := hap1.symm.step o1 n2
  have e1 : vt'.ownBlock ≠ some g := fun e => by have := (own_lt o1 e).1; omega
  have e2 : vp'.ownBlock ≠ some g := fun e => by have := (own_lt o2 e).1; omega
  have b0 : Below g wd w2 := by
    have s1 := hb1.size
    have s2 := g1.size
    have s3 := hb2.size
    have hg := h.blk.lt
    have x1 : Below g wd w1 := (hb1.mono (by omega)).grown g1 (by omega) (fun k hk => by have := (own_lt h.own1 hk).1; omega)
    have x2 : Below g wd wb := x1.trans (hb2.mono (by omega))
    exact x2.grown g2 (by omega) (fun k hk => by have := (own_lt h.own2 hk).1; omega)
  have k1 := hbk3.put 0 vt'
  have k2 := k1.put 1 vp'
  refine ⟨hbk3.free 0, k1.free 1, ⟨k2, ?_, ?_, hap2.symm⟩, (b0.setCell (Nat.le_refl _) _).setCell (Nat.le_refl _) _⟩
  · have := (ho1.kept (only_set (w := w2) (g := g) (only_refl _ _) 0 vt') (.inr e1)).kept (only_set (g := g) (only_refl _ _) 1 vp') (.inr e1)
    rw [List.length_append, List.flatMap_append]
    simpa [List.flatMap] using this
  · have := (o2.kept (only_set (w := w2) (g := g) (only_refl _ _) 0 vt') (.inr e2)).kept (only_set (g := g) (only_refl _ _) 1 vp') (.inr e2)
    rw [List.length_append, iv_append]
    exact this

/-- what put hands back -/
def GotPut (g : Nat) (ts : List Tk) (ks : List Nat) (t : Tk) (room : Nat) (w : World) (e : Ending) (w' : World) : Prop :=
  (if first (fits ts ks t room) t.p < t.p then e = .returned (.bool true) ∧ ∃ vt' vp', PB w' g vt' vp' (ts ++ [t]) (ks ++ [first (fits ts ks t room) t.p]) room
    else e = .returned (.bool false)) ∧ Below g w w'
end Sch
end Go.Proofs.Ytgncngpgodfijaa
