/-
  What the laws of package bits have in hand: the parts that they are given, a writer and a row side by side.
-/
import Derived.Test.YtgncngpgodfijaaBitsV
namespace Go.Proofs.Ytgncngpgodfijaa
open Go.RowKit
set_option linter.unusedVariables false
namespace Bits

structure Pt where
  sz : Nat
  x : Nat
def ptc (p : Pt) : List Value := [.int .u8 (p.sz : Int), .int .u64 (p.x : Int)]
theorem ptc_len (p : Pt) : (ptc p).length = 2 := rfl
def okPt (p : Pt) : Prop := p.sz ≤ 255 ∧ p.x < 18446744073709551616
def PtSh : Sh := .cat (.int .u8) (.cat (.int .u64) .unit)
theorem open_pt {W : World} {cs : List Value} (h : PtSh.Sat W cs) : ∃ p : Pt, cs = ptc p ∧ okPt p := by
  obtain ⟨_, _, rfl, ⟨a, rfl, ha⟩, _, _, rfl, ⟨b, rfl, hb⟩, h0⟩ := h
  simp only [Sh.Sat] at h0
  subst h0
  have h1 := bounds_u8 ha
  have h2 := bounds_u64 hb
  obtain ⟨a', rfl⟩ : ∃ n : Nat, a = (n : Int) := ⟨a.toNat, by omega⟩
  obtain ⟨b', rfl⟩ : ∃ n : Nat, b = (n : Int) := ⟨b.toNat, by omega⟩
  exact ⟨⟨a', b'⟩, rfl, by show a' ≤ 255; omega, by show b' < 18446744073709551616; omega⟩
theorem open_pts {W : World} {v : Value} (h : VSat W (.slice PtSh) false v) :
    ∃ A L cap, v = .slice A (List.length L) cap ∧ RdL W 0 W.heap.size A (L.flatMap ptc) ∧ (∀ p ∈ L, okPt p) ∧ L.length ≤ cap ∧ cap ≤ maxLen ∧ (A = none → L.length = 0 ∧ cap = 0) :=
  open_slice_of ptc okPt PtSh 2 rfl ptc_len (by decide) (fun cs h => open_pt h) h
/-- the bits of a part -/
def partB (p : Pt) : List Bool := if p.sz % 66 < 65 then numB p.x (p.sz % 66) else List.replicate (p.x % 50) true ++ [false]
def bitsOf (L : List Pt) : List Bool := L.flatMap partB
theorem partB_len (p : Pt) : (partB p).length ≤ 65 := by
  unfold partB
  split
  · rw [numB_len]; omega
  · rw [List.length_append, List.length_replicate]; simp; omega
theorem bitsOf_len (L : List Pt) : (bitsOf L).length ≤ 65 * L.length := by
  induction L with
  | nil => simp [bitsOf]
  | cons p t ih =>
    have := partB_len p
    unfold bitsOf at *
    rw [List.flatMap_cons, List.length_append, List.length_cons]
    omega
theorem bitsOf_take (L : List Pt) (k : Nat) (h : k < L.length) : bitsOf (L.take (k + 1)) = bitsOf (L.take k) ++ partB L[k] := by
  unfold bitsOf
  rw [List.take_add_one, List.getElem?_eq_getElem h, List.flatMap_append]
  simp

/-- a writer with the bits l and a row with the bits r, of the call's own -/
structure LS (w0 : World) (g : Nat) (v vr : Value) (l r : List Bool) (w : World) : Prop where
  wb : WB w g v l
  row : w.ownsRow w0.heap.size 4 1 vr r.length (lv r)
  bel : Below w0.heap.size w0 w
  hv : ∀ b, v.ownBlock = some b → w0.heap.size ≤ b
  hg : w0.heap.size ≤ g
  ne : vr.ownBlock ≠ some g
  ap : Apart v vr
section
variable {w0 w w' : World} {g : Nat} {v v' vr vr' : Value} {l l' r r' : List Bool}
theorem LS.next (h : LS w0 g v vr l r w) (hb : Below w.heap.size w w') : LS w0 g v vr l r w' :=
  ⟨h.wb.next hb, own_next h.row hb, _root_.Go.Proofs.Ytgncngpgodfijaa.bt h.bel hb, h.hv, h.hg, h.ne, h.ap⟩
theorem LS.write (h : LS w0 g v vr l r w) (hw : WB w' g v' l') (hf : WF w g v w' v') : LS w0 g v' vr l' r w' := by
  obtain ⟨b1, b2⟩ := hf.new h.bel h.hg h.hv
  refine ⟨hw, own_same h.row fun b hb => hf.block b (own_lt h.row hb).2 (fun e => h.ne (e ▸ hb)) (fun e => h.ap b e hb), b1, b2, h.hg, h.ne, h.ap.step h.row hf.own⟩
theorem LS.append (h : LS w0 g v vr l r w) (hg : w.grownBy w' vr.ownBlock) (ho : w'.ownsRow w0.heap.size 4 1 vr' r'.length (lv r')) (hn : vr'.ownBlock = vr.ownBlock ∨ ∀ b, vr'.ownBlock = some b → w.heap.size ≤ b) : LS w0 g v vr' l r' w' := by
  have hgl := h.wb.blk.lt
  refine ⟨⟨h.wb.blk.grown hg (fun e => h.ne e.symm), own_kept h.wb.own hg h.ap.symm, h.wb.ne⟩, ho, h.bel.grown hg h.bel.size (fun k hk => (own_lt h.row hk).1), h.hv, h.hg, ?_, (h.ap.symm.step h.wb.own hn).symm⟩
  intro e
  rcases hn with hn | hn
  · exact h.ne (hn ▸ e)
  · have := hn g e
    omega
end
theorem LS.new (w : World) : LS w w.heap.size (.slice none 0 0) (.slice none 0 0) [] [] (w.alloc (.cells #[.slice none 0 0, .int .i64 0] 26)) :=
  ⟨WB.new w, World.ownsRow_nil _ _ _ _, bl w _, by simp [Value.ownBlock], Nat.le_refl _, by simp [Value.ownBlock], by simp [Apart, Value.ownBlock]⟩
end Bits
end Go.Proofs.Ytgncngpgodfijaa
