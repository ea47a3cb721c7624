/-
  A profile and its reference side by side, as the law ProfileDoes holds them; the reference's Add and Move whole.
-/
import Derived.Test.YtpnafccedgjaeaaProfA
import Derived.Test.YtpnafccedgjaeaaProfW8
import Derived.Test.YtpnafccedgjaeaaProfW10z
namespace Go.Proofs.Ytpnafccedgjaeaa
open Go.RowKit
namespace Prof

/-- the slice at A reads as the heights L, in a block above lo -/
def RW (w : World) (lo : Nat) (A : Option Addr) (L : List Smp) : Prop :=
  L = [] ∨ ∃ b, A = some ⟨b, 0, none⟩ ∧ lo < b ∧ b < w.heap.size ∧ ∀ j u, (flat L)[j]? = some u → w.cell? ⟨b, j, none⟩ = some u
section
variable {w w' : World} {lo : Nat} {A : Option Addr} {L : List Smp}
theorem RW.rds (h : RW w lo A L) : RdS w w.heap.size A L := by
  rcases h with h | ⟨b, e, _, hlt, hc⟩
  · exact .inl h
  · exact .inr ⟨b, e, hlt, hc⟩
theorem RW.keep (h : RW w lo A L) (hs : w.heap.size ≤ w'.heap.size) (hk : ∀ b, lo < b → b < w.heap.size → w'.heap[b]? = w.heap[b]?) : RW w' lo A L := by
  rcases h with h | ⟨b, e, hlo, hlt, hc⟩
  · exact .inl h
  · refine .inr ⟨b, e, hlo, by omega, fun j u hu => ?_⟩
    have := hk b hlo hlt
    rw [← hc j u hu]
    unfold World.cell?
    rw [this]
theorem RW.below (h : RW w lo A L) (hb : Below w.heap.size w w') : RW w' lo A L := h.keep hb.size fun b _ hb' => hb.block b hb'
theorem RW.grown {g : Nat} (h : RW w lo A L) (hb : w.grownBy w' (some g)) (hg : g ≤ lo) : RW w' lo A L := h.keep hb.size fun b h1 h2 => hb.block b h2 (by intro e; injection e with e; omega)
theorem RW.alloc (h : RW w lo A L) (o : Obj) : RW (w.alloc o) lo A L := h.below (bl w o)
theorem OwnS.rw {base n : Nat} {v : Value} {L : List Smp} (h : OwnS w base v n L) (hlo : lo < base) : ∃ A cap, v = .slice A n cap ∧ RW w lo A L ∧ L.length = n := by
  have hf := h.1
  obtain ⟨A, cap, rfl, hrd, _, hl⟩ := h.rd
  refine ⟨A, cap, rfl, ?_, hl⟩
  rcases hrd with h | ⟨b, e, hlt, hc⟩
  · exact .inl h
  · exact .inr ⟨b, e, by have := own_ge hf b (by rw [e]; rfl); omega, hlt, hc⟩
end

/-- a value of the reference's is handed back, that reads as r -/
def GotR (w : World) (lo : Nat) (r : Rf) (b : Bool) (e : Ending) (w' : World) : Prop :=
  (∃ A cap, e = .returned (.tuple #[rv (.slice A r.L.length cap) r.x r.y r.gap, .bool b]) ∧ RW w' lo A r.L) ∧ Below w.heap.size w w'
theorem radd_both (A : Option Addr) (L : List Smp) (n cap : Nat) (x y gap z : Int) (w : World) (lo : Nat) (hx : inB x) (hy : inB y) (hl : L.length = n) (hn : n ≤ 64) (h : RW w lo A L) (hlo : lo < w.heap.size) (hs : ∀ s ∈ L, okS s) :
    Calls Try.prog 28 #[rv (.slice A n cap) x y gap, .int .i64 z] w (GotR w lo (radd ⟨L, x, y, gap⟩ z) (!rnear ⟨L, x, y, gap⟩)) := by
  unfold radd
  cases hr : rnear ⟨L, x, y, gap⟩
  · refine (radd_put A L n cap x y gap z w hx hy hl hn h.rds hs hr).mono ?_
    rintro e w' ⟨⟨v, rfl, hown⟩, hb⟩
    obtain ⟨A', cap', rfl, hrw, _⟩ := hown.rw hlo
    exact ⟨⟨A', cap', rfl, hrw⟩, hb⟩
  · refine (radd_near A L n cap x y gap z w hx hy hl hn h.rds hs hr).mono ?_
    rintro e w' ⟨rfl, hb⟩
    subst hl
    exact ⟨⟨A, cap, rfl, h.below hb⟩, hb⟩
theorem rmove_both (A : Option Addr) (L : List Smp) (n cap : Nat) (x y gap dx dy : Int) (w : World) (lo : Nat) (hx : inB x) (hy : inB y) (hl : L.length = n) (h : RW w lo A L) :
    Calls Try.prog 26 #[rv (.slice A n cap) x y gap, .int .i64 dx, .int .i64 dy] w (GotR w lo (rmove ⟨L, x, y, gap⟩ dx dy) (mayMove x y dx dy)) := by
  refine (rmove_any A n cap x y gap dx dy w hx hy).mono ?_
  rintro e w' ⟨rfl, hb⟩
  subst hl
  refine ⟨⟨A, cap, ?_, ?_⟩, hb⟩
  · unfold rmv rmove
    cases mayMove x y dx dy <;> rfl
  · unfold rmove
    split
    · exact h.below hb
    · exact h.below hb

/-- the cells of the reference's variable -/
def rcs (A : Option Addr) (n cap : Nat) (x y gap : Int) : Array Value := #[.slice A n cap, .int .i64 x, .int .i64 y, .int .i64 gap]
/-- both, in a world -/
structure Two (w0 : World) (g g2 : Nat) (p : Pr) (r : Rf) (A : Option Addr) (cap : Nat) (w : World) : Prop where
  pb : PB w g p
  ok : Prof.ok p
  rb : Blk w g2 46 [.slice A r.L.length cap, .int .i64 r.x, .int .i64 r.y, .int .i64 r.gap]
  rw : RW w g2 A r.L
  bel : Below w0.heap.size w0 w
  ord : w0.heap.size ≤ g ∧ g < g2
section
variable {w0 w w' : World} {g g2 : Nat} {p p' : Pr} {r r' : Rf} {A A' : Option Addr} {cap cap' : Nat}
theorem Two.below (h : Two w0 g g2 p r A cap w) (hb : Below w.heap.size w w') : Two w0 g g2 p r A cap w' :=
  ⟨h.pb.below hb h.pb.lt, h.ok, h.rb.below hb h.rb.lt, h.rw.below hb, bt h.bel hb, h.ord⟩
theorem Two.alloc (h : Two w0 g g2 p r A cap w) (o : Obj) : Two w0 g g2 p r A cap (w.alloc o) := h.below (bl w o)
theorem Two.drewN (h : Two w0 g g2 p r A cap w) (n : Nat) : Two w0 g g2 p r A cap (w.drewN n) := h.below (below_drewN (Below.refl _ _) n)
theorem Two.setP (h : Two w0 g g2 p r A cap w) (hp : PB w' g p') (hk : Prof.ok p') (hg : w.grownBy w' (some g)) : Two w0 g g2 p' r A cap w' :=
  ⟨hp, hk, h.rb.grown hg (by intro e; injection e with e; have := h.ord.2; omega), h.rw.grown hg (by have := h.ord.2; omega), bgrow h.bel hg (by have := h.bel.size; omega) h.ord.1, h.ord⟩
theorem Two.setR (h : Two w0 g g2 p r A cap w) (hr : RW w g2 A' r'.L) : Two w0 g g2 p r' A' cap' (w.setRow g2 (rcs A' r'.L.length cap' r'.x r'.y r'.gap)) := by
  have hg : w.grownBy (w.setRow g2 (rcs A' r'.L.length cap' r'.x r'.y r'.gap)) (some g2) := only_row (only_refl w _) _
  obtain ⟨o1, o2⟩ := h.ord
  refine ⟨h.pb.grown hg (by intro e; injection e with e; omega), h.ok, ?_, hr.grown hg (Nat.le_refl _), bgrow h.bel hg (by have := h.bel.size; omega) (by omega), h.ord⟩
  exact setRow_heap w g2 _ _ 46 (0, 0) h.rb
theorem Two.cells (h : Two w0 g g2 p r A cap w) : w.cell? ⟨g2, 0, none⟩ = some (.slice A r.L.length cap) ∧ w.cell? ⟨g2, 1, none⟩ = some (.int .i64 r.x) ∧ w.cell? ⟨g2, 2, none⟩ = some (.int .i64 r.y) ∧ w.cell? ⟨g2, 3, none⟩ = some (.int .i64 r.gap) :=
  ⟨h.rb.cell 0, h.rb.cell 1, h.rb.cell 2, h.rb.cell 3⟩
end
end Prof
end Go.Proofs.Ytpnafccedgjaeaa
