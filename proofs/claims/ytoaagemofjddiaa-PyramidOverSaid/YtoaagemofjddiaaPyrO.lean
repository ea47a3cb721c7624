/-
  Over, on the way: what lies in memory.
-/
import Derived.Test.YtoaagemofjddiaaPyrW7
import Derived.Test.YtoaagemofjddiaaPyrW8
import Derived.Test.YtoaagemofjddiaaPyrS
import Derived.Test.YtoaagemofjddiaaHead
import Derived.Deep.LoopGhost
namespace Go.Proofs.Ytoaagemofjddiaa
open Go.RowKit
set_option linter.unusedVariables false
namespace Pyr

theorem own_take {w : World} {base n size cap m : Nat} {e : TypeId} {A : Option Addr} {l : List Value} (h : w.ownsRow base e size (.slice A n cap) n l) (hm : m ≤ n) : w.ownsRow base e size (.slice A m cap) m (l.take (m * size)) := by
  obtain ⟨hl, h⟩ := h
  have hms : m * size ≤ n * size := Nat.mul_le_mul_right _ hm
  refine ⟨by rw [List.length_take]; omega, ?_⟩
  rcases h with ⟨e1, h0⟩ | ⟨g, cap', cur, e1, hb, hg, hn, hmx, hs, ht⟩
  · injection e1 with e1 e2 e3
    subst e1 e3
    obtain rfl : m = 0 := by omega
    exact .inl ⟨rfl, rfl⟩
  · injection e1 with e1 e2 e3
    subst e1 e3
    refine .inr ⟨g, cap, cur, rfl, hb, hg, by omega, hmx, hs, ?_⟩
    rw [← ht, List.take_take]
    congr 1
    omega
theorem flatMap_take {α : Type} (f : α → List Value) (size : Nat) (hf : ∀ x, (f x).length = size) : ∀ (L : List α) (m : Nat), (L.flatMap f).take (m * size) = (L.take m).flatMap f
  | [], m => by simp
  | x :: t, 0 => by simp
  | x :: t, m + 1 => by
    rw [List.flatMap_cons, Nat.add_mul, Nat.one_mul, Nat.add_comm, List.take_append, List.take_succ_cons, List.flatMap_cons, hf, Nat.add_sub_cancel_left, flatMap_take f size hf t m]
    congr 1
    rw [List.take_of_length_le (by rw [hf]; omega)]
structure OV (w : World) (b : Bo) (bp bl cl sn : Nat) (lvs : List Lv) (out : Ce) (wait : List Pl) (v : Value) (wr : World) : Prop where
  box : Blk wr w.heap.size 46 (boc b)
  res : Blk wr (w.heap.size + 1) 38 (cec zc)
  out : Blk wr (w.heap.size + 1 + 1) 38 (cec out)
  own : wr.ownsRow (w.heap.size + 1 + 1 + 1) 104 3 v wait.length (wait.flatMap plc)
  ps : PS wr bp bl cl lvs sn
  keep : w.grownBy wr (some bp)
section
variable {w wr w' : World} {b : Bo} {bp bl cl sn : Nat} {lvs : List Lv} {out : Ce} {wait : List Pl} {v : Value}
theorem only_next {a w w' : World} {row : Option Nat} (h : a.grownBy w row) (hb : Below w.heap.size w w') : a.grownBy w' row := only_trans h (only_below hb row)
theorem OV.next (S : OV w b bp bl cl sn lvs out wait v wr) (hb : Below wr.heap.size wr w') : OV w b bp bl cl sn lvs out wait v w' :=
  ⟨S.box.next hb, S.res.next hb, S.out.next hb, own_next S.own hb, S.ps.next hb, only_next S.keep hb⟩
theorem OV.drew (S : OV w b bp bl cl sn lvs out wait v wr) : OV w b bp bl cl sn lvs out wait v wr.drew := ⟨S.box.drew, S.res.drew, S.out.drew, S.own, S.ps.drew, only_drew S.keep⟩
theorem OV.pop {p : Pl} {A : Option Addr} {n cap : Nat} (S : OV w b bp bl cl sn lvs out (wait ++ [p]) (.slice A n cap) wr) (hn : n = wait.length + 1) : OV w b bp bl cl sn lvs out wait (.slice A wait.length cap) wr := by
  refine ⟨S.box, S.res, S.out, ?_, S.ps, S.keep⟩
  have ho := S.own
  rw [List.length_append, List.length_singleton] at ho
  subst hn
  have := own_take ho (m := wait.length) (by omega)
  rw [flatMap_take plc 3 plc_len, List.take_left] at this
  exact this
theorem OV.see (S : OV w b bp bl cl sn lvs out wait v wr) (hbp : bp < w.heap.size) (n : Nat) : OV w b bp bl cl n lvs out wait v (wr.setCell ⟨bp, 1, Option.none⟩ (.int .i64 (n : Int))) := by
  have hv := own_ge S.own
  refine ⟨S.box.far (p := ⟨bp, 1, Option.none⟩) (by show w.heap.size ≠ bp; omega) _, S.res.far (p := ⟨bp, 1, Option.none⟩) (by show w.heap.size + 1 ≠ bp; omega) _, S.out.far (p := ⟨bp, 1, Option.none⟩) (by show w.heap.size + 1 + 1 ≠ bp; omega) _, ?_, S.ps.see n, only_set S.keep _ _⟩
  exact S.own.kept (only_set (w := wr) (g := bp) (only_refl _ _) 1 _) (.inr (fun e => by have := hv _ e; omega))
theorem PS.apart_new (S : PS w bp bl cl lvs sn) (hl : 0 < lvs.length) (hp : ∀ l ∈ lvs, 0 < l.L.length) : bl < w.heap.size ∧ ∀ l ∈ lvs, l.b < w.heap.size := by
  refine ⟨S.bl_lt hl, fun l h => ?_⟩
  obtain ⟨h1, _⟩ := S.rows l h
  obtain ⟨b, off, e, h2, h3, h4, _⟩ := h1.some (by rw [flatMap_len cec 3 cec_len]; have := hp l h; omega)
  omega
theorem OV.put (S : OV w b bp bl cl sn lvs out wait v wr) (hbp : bp < w.heap.size) (hbl : bl < w.heap.size) (hlb : ∀ l ∈ lvs, l.b < w.heap.size) (d : Ce) :
    OV w b bp bl cl sn lvs d wait v (((wr.setCell ⟨w.heap.size + 1 + 1, 0, Option.none⟩ (.int .i16 d.lo)).setCell ⟨w.heap.size + 1 + 1, 1, Option.none⟩ (.int .i16 d.hi)).setCell ⟨w.heap.size + 1 + 1, 2, Option.none⟩ (.int .i64 (d.n : Int))) := by
  have hv := own_ge S.own
  have h1 : w.heap.size ≠ w.heap.size + 1 + 1 := by omega
  have h2 : w.heap.size + 1 ≠ w.heap.size + 1 + 1 := by omega
  have ne1 : w.heap.size + 1 + 1 ≠ bp := by omega
  have ne2 : w.heap.size + 1 + 1 ≠ bl := by omega
  have ne3 : ∀ l ∈ lvs, w.heap.size + 1 + 1 ≠ l.b := fun l hl => by have := hlb l hl; omega
  have f : ∀ {X : World} (i : Nat) (u : Value), X.ownsRow (w.heap.size + 1 + 1 + 1) 104 3 v wait.length (wait.flatMap plc) → (X.setCell ⟨w.heap.size + 1 + 1, i, Option.none⟩ u).ownsRow (w.heap.size + 1 + 1 + 1) 104 3 v wait.length (wait.flatMap plc) :=
    fun {X} i u h => h.kept (only_set (w := X) (g := w.heap.size + 1 + 1) (only_refl _ _) i u) (.inr (fun e => by have := hv _ e; omega))
  have k : ∀ {X : World} (i : Nat) (u : Value), w.grownBy X (some bp) → w.heap.size + 1 + 1 < X.heap.size → w.grownBy (X.setCell ⟨w.heap.size + 1 + 1, i, Option.none⟩ u) (some bp) := fun {X} i u h hx =>
    ⟨h.os, h.tape, h.output, by simpa using h.size, fun j hj hr => (Below.heap_setCell X ⟨w.heap.size + 1 + 1, i, Option.none⟩ u j (by show j ≠ w.heap.size + 1 + 1; omega)).trans (h.block j hj hr)⟩
  have hlt := S.out.lt
  refine ⟨((S.box.far (p := ⟨w.heap.size + 1 + 1, 0, Option.none⟩) h1 _).far (p := ⟨w.heap.size + 1 + 1, 1, Option.none⟩) h1 _).far (p := ⟨w.heap.size + 1 + 1, 2, Option.none⟩) h1 _,
    ((S.res.far (p := ⟨w.heap.size + 1 + 1, 0, Option.none⟩) h2 _).far (p := ⟨w.heap.size + 1 + 1, 1, Option.none⟩) h2 _).far (p := ⟨w.heap.size + 1 + 1, 2, Option.none⟩) h2 _, ?_,
    f _ _ (f _ _ (f _ _ S.own)), ((S.ps.far ne1 ne2 ne3 _).far ne1 ne2 ne3 _).far ne1 ne2 ne3 _, k _ _ (k _ _ (k _ _ S.keep (by omega)) (by simpa using hlt)) (by simpa using hlt)⟩
  exact ((S.out.put 0 (.int .i16 d.lo)).put 1 (.int .i16 d.hi)).put 2 (.int .i64 (d.n : Int))
theorem OV.more (S : OV w b bp bl cl sn lvs out wait v wr) (hbp : bp < w.heap.size) (S0 : ∀ k, some k = v.ownBlock → k ≠ bp ∧ k ≠ bl ∧ ∀ l ∈ lvs, k ≠ l.b) {v1 : Value} {q : List Pl} (hg : wr.grownBy w' v.ownBlock) (ho : w'.ownsRow (w.heap.size + 1 + 1 + 1) 104 3 v1 (wait.length + q.length) (wait.flatMap plc ++ q.flatMap plc)) :
    OV w b bp bl cl sn lvs out (wait ++ q) v1 w' := by
  have hv := own_ge S.own
  have n1 : ∀ k, k < w.heap.size + 1 + 1 + 1 → some k ≠ v.ownBlock := fun k hk e => by have := hv k e.symm; omega
  refine ⟨S.box.grown hg (n1 _ (by omega)), S.res.grown hg (n1 _ (by omega)), S.out.grown hg (n1 _ (by omega)), by rw [List.length_append, List.flatMap_append]; exact ho, ?_, ?_⟩
  · refine ⟨S.ps.blk.grown hg (fun e => (S0 _ e).1 rfl), S.ps.rdl.grown hg (fun g hg' => by have := (S0 g hg'.symm).2.1; omega), S.ps.cl, S.ps.ne, fun l hl => ?_⟩
    obtain ⟨a, c⟩ := S.ps.rows l hl
    exact ⟨a.grown hg (fun g hg' => by have := (S0 g hg'.symm).2.2 l hl; omega), c⟩
  · exact ⟨hg.os.trans S.keep.os, hg.tape.trans S.keep.tape, hg.output.trans S.keep.output, Nat.le_trans S.keep.size hg.size, fun j hj hr => (hg.block j (Nat.lt_of_lt_of_le hj S.keep.size) (n1 j (by omega))).trans (S.keep.block j hj hr)⟩
theorem own_pl (w : World) (p : Pl) : (w.alloc (.cells (plc p).toArray 104)).ownsRow w.heap.size 104 3 (.slice (some ⟨w.heap.size, 0, Option.none⟩) 1 1) 1 (plc p) :=
  ⟨rfl, .inr ⟨w.heap.size, 1, (plc p).toArray, rfl, Nat.le_refl _, heap_alloc_new w _, Nat.le_refl _, by simp [maxLen], rfl, rfl⟩⟩
theorem OV.start {seen : Nat} (S : PS w bp bl cl lvs seen) (b : Bo) (p : Pl) :
    OV w b bp bl cl 0 lvs zc [p] (.slice (some ⟨w.heap.size + 1 + 1 + 1, 0, Option.none⟩) 1 1) (((((w.setCell ⟨bp, 1, Option.none⟩ (.int .i64 0)).alloc (.cells (boc b).toArray 46)).alloc (.cells (cec zc).toArray 38)).alloc (.cells (cec zc).toArray 38)).alloc (.cells (plc p).toArray 104)) := by
  have S0 := S.see 0
  have g0 := only_set (w := w) (g := bp) (only_refl _ _) 1 (.int .i64 0)
  have hs : (w.setCell ⟨bp, 1, Option.none⟩ (.int .i64 0)).heap.size = w.heap.size := by simp
  have S0' : PS (w.setCell ⟨bp, 1, Option.none⟩ (.int .i64 0)) bp bl cl lvs 0 := S0
  have g0' : w.grownBy (w.setCell ⟨bp, 1, Option.none⟩ (.int .i64 0)) (some bp) := g0
  generalize w.setCell ⟨bp, 1, Option.none⟩ (.int .i64 0) = w0 at *
  have k1 := (((Blk.mk w0 46 (boc b)).alloc (.cells (cec zc).toArray 38)).alloc (.cells (cec zc).toArray 38)).alloc (.cells (plc p).toArray 104)
  have k2 := ((Blk.mk (w0.alloc (.cells (boc b).toArray 46)) 38 (cec zc)).alloc (.cells (cec zc).toArray 38)).alloc (.cells (plc p).toArray 104)
  have k3 := (Blk.mk ((w0.alloc (.cells (boc b).toArray 46)).alloc (.cells (cec zc).toArray 38)) 38 (cec zc)).alloc (.cells (plc p).toArray 104)
  have k4 := own_pl (((w0.alloc (.cells (boc b).toArray 46)).alloc (.cells (cec zc).toArray 38)).alloc (.cells (cec zc).toArray 38)) p
  simp only [World.size_alloc, hs] at k1 k2 k3 k4
  refine ⟨k1, k2, k3, by simpa using k4, (((S0'.next (_root_.Go.Proofs.Ytoaagemofjddiaa.bl _ _)).next (_root_.Go.Proofs.Ytoaagemofjddiaa.bl _ _)).next (_root_.Go.Proofs.Ytoaagemofjddiaa.bl _ _)).next (_root_.Go.Proofs.Ytoaagemofjddiaa.bl _ _), only_alloc (only_alloc (only_alloc (only_alloc g0' _) _) _) _⟩
end
end Pyr
end Go.Proofs.Ytoaagemofjddiaa
