/-
  The walk of package pyramid's New: the levels of a field.
-/
import Derived.Test.YtoaagemofjddiaaPyrW3
namespace Go.Proofs.Ytoaagemofjddiaa
open Go.RowKit
set_option linter.unusedVariables false
namespace Pyr

def zv (x : Int) : Value := .int .i16 x
theorem zv_one (l : List Int) : ∀ u ∈ l.map zv, u.oneCell' = true := by
  intro u hu
  obtain ⟨t, _, rfl⟩ := List.mem_map.1 hu
  rfl
theorem infoLevel : (Try.prog.info? 96).map (fun i => (i.zero, i.size, i.bytes)) = some (some (.agg #[.int .i64 0, .int .i64 0, .slice Option.none 0 0]), 3, 40) := by kernel_rfl
set_option maxRecDepth 100000 in
set_option maxHeartbeats 1000000 in
theorem new_bad (W H : Int) (A : Option Addr) (n cap : Nat) (w : World) (hn : n ≤ maxLen) (hc : codeH W H n ≠ 0) :
    Calls Try.prog 12 #[.agg #[.int .i64 W, .int .i64 H, .slice A n cap]] w fun e w' => e = .returned (.tuple #[.pointer Option.none, .int .i64 (codeH W H n)]) ∧ Below w.heap.size w w' := by
  have ht := fun W' => tcheck_any W H A n cap W' hn
  generalize codeH W H n = c at *
  have c1 : (c == 0) = false := by rw [beq_eq_false_iff_ne]; exact hc
  have c2 : (c != 0) = true := by rw [bne_iff_ne]; exact hc
  clear hc
  go_enter Try.func12, Try.ntmps12
  go_wp2_with fail
  refine (ht _).mono ?_
  rintro e w1 ⟨rfl, hb⟩
  go_wp2
  go_ret2
  exact ⟨rfl, bt (bl _ _) hb⟩

/-- the lowest level, on the way -/
structure FS (w1 : World) (g gb W H n cap lo hi : Nat) (A : Option Addr) (Z : List Int) (K : List Ce) (v : Value) (wr : World) : Prop where
  box : Blk wr gb 24 [.int .i64 (W : Int), .int .i64 (H : Int), .slice A n cap]
  out : Blk wr g 96 (lvc W H v)
  own : wr.ownsRow (g + 1) 38 3 v K.length (K.flatMap cec)
  rd : RdL wr lo hi A (Z.map zv)
  below : Below g w1 wr
section
variable {w1 wr wa w' : World} {g gb W H n cap lo hi : Nat} {A : Option Addr} {Z : List Int} {K : List Ce} {v : Value}
theorem FS.next (S : FS w1 g gb W H n cap lo hi A Z K v wr) (hb : Below wr.heap.size wr w') : FS w1 g gb W H n cap lo hi A Z K v w' :=
  ⟨S.box.next hb, S.out.next hb, own_next S.own hb, S.rd.next hb, S.below.trans (hb.mono (by have := S.out.lt; omega))⟩
theorem FS.more (S : FS w1 g gb W H n cap lo hi A Z K v wr) (c : Ce) {v1 : Value} (hg : wr.grownBy w' v.ownBlock) (ho : w'.ownsRow (g + 1) 38 3 v1 (K.length + 1) (K.flatMap cec ++ cec c)) (hgb : gb < g) (hhi : hi ≤ g) :
    w'.frozen? ⟨g, 2, Option.none⟩ = false ∧ w'.cell? ⟨g, 2, Option.none⟩ = some v ∧ FS w1 g gb W H n cap lo hi A Z (K ++ [c]) v1 (w'.setCell ⟨g, 2, Option.none⟩ v1) := by
  have hv := own_ge S.own
  have hv1 := own_ge ho
  have n1 : ∀ k, k < g + 1 → some k ≠ v.ownBlock := fun k hk e => by have := hv k e.symm; omega
  have o1 := S.out.grown hg (n1 _ (by omega))
  have b1 := S.below.grown hg (by have := S.out.lt; omega) (fun k hk => by have := hv k hk; omega)
  refine ⟨o1.free 2, o1.cell 2, (S.box.grown hg (n1 _ (by omega))).far (p := ⟨g, 2, Option.none⟩) (by show gb ≠ g; omega) _, o1.put 2 v1, ?_,
    (S.rd.grown hg (fun g' hg' => .inr (by have := hv g' hg'; omega))).far (p := ⟨g, 2, Option.none⟩) (.inr (by show hi ≤ g; omega)) _, b1.setCell (Nat.le_refl _) _⟩
  rw [List.length_append, List.length_singleton, List.flatMap_append]
  have := ho.kept (only_set (w := w') (g := g) (only_refl _ _) 2 v1) (.inr (fun e => by have := hv1 _ e; omega))
  simpa [List.flatMap] using this
end
/-- a level: its columns and rows, its block, and its cells -/
structure Lv where
  wd : Nat
  h : Nat
  b : Nat
  cap : Nat
  L : List Ce
def Lv.v (l : Lv) : Value := .slice (some ⟨l.b, 0, Option.none⟩) l.L.length l.cap
def Lv.cells (l : Lv) : List Value := [.int .i64 (l.wd : Int), .int .i64 (l.h : Int), .slice (some ⟨l.b, 0, Option.none⟩) l.L.length l.cap]
theorem lv_len (l : Lv) : l.cells.length = 3 := rfl
theorem lv_one (l : List Lv) : ∀ u ∈ l.flatMap Lv.cells, u.oneCell' = true := by
  intro u hu
  obtain ⟨t, _, h⟩ := List.mem_flatMap.1 hu
  simp [Lv.cells] at h
  rcases h with rfl | rfl | rfl <;> rfl
/-- a pyramid in memory: its block, its levels' block, its levels -/
structure PS (w : World) (bp bl cl : Nat) (lvs : List Lv) (seen : Nat) : Prop where
  blk : Blk w bp 99 [.slice (some ⟨bl, 0, Option.none⟩) lvs.length cl, .int .i64 (seen : Int)]
  rdl : RdL w bl (bl + 1) (some ⟨bl, 0, Option.none⟩) (lvs.flatMap Lv.cells)
  cl : lvs.length ≤ cl
  ne : bl ≠ bp
  rows : ∀ l ∈ lvs, RdL w l.b (l.b + 1) (some ⟨l.b, 0, Option.none⟩) (l.L.flatMap cec) ∧ l.b ≠ bp ∧ l.L.length ≤ l.cap ∧ l.L.length = l.wd * l.h
theorem PS.next {w w' : World} {bp bl cl : Nat} {lvs : List Lv} {seen : Nat} (S : PS w bp bl cl lvs seen) (hb : Below w.heap.size w w') : PS w' bp bl cl lvs seen :=
  ⟨S.blk.next hb, S.rdl.next hb, S.cl, S.ne, fun l hl => let ⟨h1, h2⟩ := S.rows l hl; ⟨h1.next hb, h2⟩⟩
theorem PS.drew {w : World} {bp bl cl : Nat} {lvs : List Lv} {seen : Nat} (S : PS w bp bl cl lvs seen) : PS w.drew bp bl cl lvs seen := ⟨S.blk, S.rdl, S.cl, S.ne, S.rows⟩
theorem PS.drewN {w : World} {bp bl cl : Nat} {lvs : List Lv} {seen : Nat} (S : PS w bp bl cl lvs seen) (k : Nat) : PS (w.drewN k) bp bl cl lvs seen := ⟨S.blk, S.rdl, S.cl, S.ne, S.rows⟩
theorem PS.see {w : World} {bp bl cl : Nat} {lvs : List Lv} {seen : Nat} (S : PS w bp bl cl lvs seen) (n : Nat) : PS (w.setCell ⟨bp, 1, Option.none⟩ (.int .i64 (n : Int))) bp bl cl lvs n := by
  refine ⟨S.blk.put 1 _, S.rdl.far (p := ⟨bp, 1, Option.none⟩) (by show bp < bl ∨ bl + 1 ≤ bp; have := S.ne; omega) _, S.cl, S.ne, fun l hl => ?_⟩
  obtain ⟨h1, h2, h3⟩ := S.rows l hl
  exact ⟨h1.far (p := ⟨bp, 1, Option.none⟩) (by show bp < l.b ∨ l.b + 1 ≤ bp; omega) _, h2, h3⟩
/-- they are the levels of a field -/
structure IsLv (W H : Nat) (z : Nat → Int) (lvs : List Lv) : Prop where
  wd : ∀ k (h : k < lvs.length), lvs[k].wd = side W k
  h : ∀ k (h : k < lvs.length), lvs[k].h = side H k
  L : ∀ k (h : k < lvs.length), lvs[k].L = lev W H z k
theorem IsLv.snoc {W H : Nat} {z : Nat → Int} {lvs : List Lv} (S : IsLv W H z lvs) {l : Lv} (h1 : l.wd = side W lvs.length) (h2 : l.h = side H lvs.length) (h3 : l.L = lev W H z lvs.length) : IsLv W H z (lvs ++ [l]) := by
  have key : ∀ k (h : k < (lvs ++ [l]).length), (k < lvs.length ∧ ∃ h', (lvs ++ [l])[k] = lvs[k]'h') ∨ (k = lvs.length ∧ (lvs ++ [l])[k] = l) := by
    intro k h
    by_cases hk : k < lvs.length
    · exact .inl ⟨hk, hk, List.getElem_append_left hk⟩
    · have : k = lvs.length := by rw [List.length_append, List.length_singleton] at h; omega
      subst this
      exact .inr ⟨rfl, by simp⟩
  refine ⟨fun k h => ?_, fun k h => ?_, fun k h => ?_⟩
  · rcases key k h with ⟨_, h', e⟩ | ⟨e1, e⟩
    · rw [e]; exact S.wd k h'
    · rw [e, e1]; exact h1
  · rcases key k h with ⟨_, h', e⟩ | ⟨e1, e⟩
    · rw [e]; exact S.h k h'
    · rw [e, e1]; exact h2
  · rcases key k h with ⟨_, h', e⟩ | ⟨e1, e⟩
    · rw [e]; exact S.L k h'
    · rw [e, e1]; exact h3
/-- the top level: the first of one cell alone -/
structure IsTop (W H top : Nat) : Prop where
  w : side W top ≤ 1
  h : side H top ≤ 1
  no : ∀ j, j < top → 1 < side W j ∨ 1 < side H j
theorem IsTop.eq {W H a b : Nat} (h : IsTop W H a) (k : IsTop W H b) : a = b := by
  rcases Nat.lt_trichotomy a b with h' | h' | h'
  · have := k.no a h'
    have := h.w
    have := h.h
    omega
  · exact h'
  · have := h.no b h'
    have := k.w
    have := k.h
    omega
theorem IsTop.le {W H a : Nat} (h : IsTop W H a) (hW : W ≤ 256) (hH : H ≤ 256) : a ≤ 8 := by
  rcases Nat.lt_or_ge 8 a with h' | h'
  · have := h.no 8 h'
    have := side_one (n := W) (k := 8) (by omega)
    have := side_one (n := H) (k := 8) (by omega)
    omega
  · exact h'
theorem rd_exact {w : World} {lo hi g : Nat} {l : List Value} (h : RdL w lo hi (some ⟨g, 0, Option.none⟩) l) : RdL w g (g + 1) (some ⟨g, 0, Option.none⟩) l := by
  rcases h with rfl | ⟨b, off, e, h1, h2, h3, hc⟩
  · exact .inl rfl
  · injection e with e
    injection e with e1 e2
    subst e1 e2
    exact .inr ⟨_, 0, rfl, Nat.le_refl _, by omega, h3, hc⟩
/-- a row of the call's own that is not empty: its block -/
theorem own_block {w : World} {base n size : Nat} {e : TypeId} {v : Value} {l : List Value} (h : w.ownsRow base e size v n l) (hn : 0 < n) : ∃ g cap, v = .slice (some ⟨g, 0, Option.none⟩) n cap ∧ base ≤ g ∧ g < w.heap.size ∧ n ≤ cap ∧ RdL w g (g + 1) (some ⟨g, 0, Option.none⟩) l := by
  obtain ⟨A, cap, rfl, hr, hc, hm, hA⟩ := own_rd h
  obtain ⟨hl, h2⟩ := h
  rcases h2 with ⟨e, h0⟩ | ⟨g, cap', cur, e, hb, hg, _⟩
  · omega
  · injection e with e1 e2 e3
    subst e1
    refine ⟨g, cap, rfl, hb, ?_, hc, rd_exact hr⟩
    rcases Nat.lt_or_ge g w.heap.size with h' | h'
    · exact h'
    · rw [Array.getElem?_eq_none h'] at hg; cases hg
def iC : Option Value → Nat
  | some (.int _ n) => n.toNat
  | _ => 0
/-- the measure of the loop over the levels: the top level's columns and rows -/
def tm (v : Value) (w : World) : Nat :=
  match v with
  | .pointer (some a) => iC (w.cell? a) + iC (w.cell? ⟨a.block, a.off + 1, a.spot⟩)
  | _ => 0
theorem tm_eq {w : World} {tb : Nat} {l : Lv} (h : Blk w tb 96 l.cells) : tm (.pointer (some ⟨tb, 0, Option.none⟩)) w = l.wd + l.h := by
  have h0 : w.cell? ⟨tb, 0, Option.none⟩ = some (.int .i64 (l.wd : Int)) := h.cell 0
  have h1 : w.cell? ⟨tb, 1, Option.none⟩ = some (.int .i64 (l.h : Int)) := h.cell 1
  unfold tm
  simp [h0, h1, iC]
/-- the levels, on the way -/
structure TS (w5 : World) (bp W H : Nat) (z : Nat → Int) (k tb bl cl : Nat) (lvs : List Lv) (l : Lv) (wr : World) : Prop where
  ps : PS wr bp bl cl lvs 0
  own : wr.ownsRow w5.heap.size 96 3 (.slice (some ⟨bl, 0, Option.none⟩) lvs.length cl) lvs.length (lvs.flatMap Lv.cells)
  is : IsLv W H z lvs
  len : lvs.length = k + 1
  no : ∀ j, j < k → 1 < side W j ∨ 1 < side H j
  below : Below w5.heap.size w5 wr
  hbp : w5.heap.size ≤ bp
  rne : ∀ l ∈ lvs, l.b ≠ bl
  rlt : ∀ l ∈ lvs, l.b < wr.heap.size
  at_ : lvs[k]? = some l
  top : Blk wr tb 96 l.cells
  tne : tb ≠ bp ∧ tb ≠ bl ∧ (∀ l ∈ lvs, tb ≠ l.b) ∧ w5.heap.size ≤ tb
section
variable {w5 wr w' : World} {bp W H : Nat} {z : Nat → Int} {k tb bl cl : Nat} {lvs : List Lv} {l : Lv}
theorem TS.lv (S : TS w5 bp W H z k tb bl cl lvs l wr) : l.wd = side W k ∧ l.h = side H k ∧ l.L = lev W H z k ∧ l ∈ lvs := by
  obtain ⟨h, e⟩ := List.getElem?_eq_some_iff.1 S.at_
  rw [← e]
  exact ⟨S.is.wd k h, S.is.h k h, S.is.L k h, List.getElem_mem h⟩
theorem PS.far {w : World} {bp bl cl seen : Nat} {lvs : List Lv} (S : PS w bp bl cl lvs seen) {tb i : Nat} (h1 : tb ≠ bp) (h2 : tb ≠ bl) (h3 : ∀ l ∈ lvs, tb ≠ l.b) (u : Value) : PS (w.setCell ⟨tb, i, Option.none⟩ u) bp bl cl lvs seen :=
  ⟨S.blk.far (p := ⟨tb, i, Option.none⟩) (fun e => h1 e.symm) u, S.rdl.far (p := ⟨tb, i, Option.none⟩) (by show tb < bl ∨ bl + 1 ≤ tb; omega) u, S.cl, S.ne, fun l hl => by
    obtain ⟨a, b⟩ := S.rows l hl
    exact ⟨a.far (p := ⟨tb, i, Option.none⟩) (by show tb < l.b ∨ l.b + 1 ≤ tb; have := h3 l hl; omega) u, b⟩⟩
theorem own_far {w : World} {base n size bl cl tb i : Nat} {e : TypeId} {l : List Value} (h : w.ownsRow base e size (.slice (some ⟨bl, 0, Option.none⟩) n cl) n l) (hne : tb ≠ bl) (u : Value) : (w.setCell ⟨tb, i, Option.none⟩ u).ownsRow base e size (.slice (some ⟨bl, 0, Option.none⟩) n cl) n l :=
  h.kept (only_set (w := w) (g := tb) (only_refl _ _) i u) (.inr (fun e => hne (Option.some.inj e).symm))
/-- what the next level is stored to: the top level's cells -/
theorem TS.put (S : TS w5 bp W H z k tb bl cl lvs l wr) (hb : Below wr.heap.size wr w') (m : Lv) :
    PS (((w'.setCell ⟨tb, 0, Option.none⟩ (.int .i64 (m.wd : Int))).setCell ⟨tb, 1, Option.none⟩ (.int .i64 (m.h : Int))).setCell ⟨tb, 2, Option.none⟩ (.slice (some ⟨m.b, 0, Option.none⟩) m.L.length m.cap)) bp bl cl lvs 0 ∧
    (((w'.setCell ⟨tb, 0, Option.none⟩ (.int .i64 (m.wd : Int))).setCell ⟨tb, 1, Option.none⟩ (.int .i64 (m.h : Int))).setCell ⟨tb, 2, Option.none⟩ (.slice (some ⟨m.b, 0, Option.none⟩) m.L.length m.cap)).ownsRow w5.heap.size 96 3 (.slice (some ⟨bl, 0, Option.none⟩) lvs.length cl) lvs.length (lvs.flatMap Lv.cells) ∧
    Blk (((w'.setCell ⟨tb, 0, Option.none⟩ (.int .i64 (m.wd : Int))).setCell ⟨tb, 1, Option.none⟩ (.int .i64 (m.h : Int))).setCell ⟨tb, 2, Option.none⟩ (.slice (some ⟨m.b, 0, Option.none⟩) m.L.length m.cap)) tb 96 m.cells ∧
    Below w5.heap.size w5 (((w'.setCell ⟨tb, 0, Option.none⟩ (.int .i64 (m.wd : Int))).setCell ⟨tb, 1, Option.none⟩ (.int .i64 (m.h : Int))).setCell ⟨tb, 2, Option.none⟩ (.slice (some ⟨m.b, 0, Option.none⟩) m.L.length m.cap)) := by
  obtain ⟨t1, t2, t3, t4⟩ := S.tne
  refine ⟨(((S.ps.next hb).far t1 t2 t3 _).far t1 t2 t3 _).far t1 t2 t3 _, own_far (own_far (own_far (own_next S.own hb) t2 _) t2 _) t2 _, ?_, (((bt S.below hb).setCell t4 _).setCell t4 _).setCell t4 _⟩
  exact (((S.top.next hb).put 0 (.int .i64 (m.wd : Int))).put 1 (.int .i64 (m.h : Int))).put 2 (.slice (some ⟨m.b, 0, Option.none⟩) m.L.length m.cap)
theorem PS.grow {wA w' : World} {base : Nat} {v' : Value} {m : Lv} (S : PS wA bp bl cl lvs 0) (hm : RdL wA m.b (m.b + 1) (some ⟨m.b, 0, Option.none⟩) (m.L.flatMap cec)) (hmb : m.b ≠ bp) (hml : m.b ≠ bl) (hmc : m.L.length ≤ m.cap) (hmL : m.L.length = m.wd * m.h) (hrne : ∀ l ∈ lvs, l.b ≠ bl) (hmlt : m.b < wA.heap.size) (hrlt : ∀ l ∈ lvs, l.b < wA.heap.size)
    (hg : wA.grownBy w' (some bl)) (ho : w'.ownsRow base 96 3 v' (lvs.length + 1) (lvs.flatMap Lv.cells ++ m.cells)) (hwh : v'.ownBlock = some bl ∨ ∀ b, v'.ownBlock = some b → wA.heap.size ≤ b) :
    ∃ bl' cl', v' = .slice (some ⟨bl', 0, Option.none⟩) (lvs.length + 1) cl' ∧ w'.frozen? ⟨bp, 0, Option.none⟩ = false ∧ w'.cell? ⟨bp, 0, Option.none⟩ = some (.slice (some ⟨bl, 0, Option.none⟩) lvs.length cl) ∧ PS (w'.setCell ⟨bp, 0, Option.none⟩ v') bp bl' cl' (lvs ++ [m]) 0 ∧
      (w'.setCell ⟨bp, 0, Option.none⟩ v').ownsRow base 96 3 (.slice (some ⟨bl', 0, Option.none⟩) (lvs ++ [m]).length cl') (lvs ++ [m]).length ((lvs ++ [m]).flatMap Lv.cells) ∧ (∀ l ∈ lvs ++ [m], l.b ≠ bl') := by
  obtain ⟨bl', cl', rfl, hb1, hb2, hb3, hb4⟩ := own_block ho (by omega)
  have hbl : bl' = bl ∨ wA.heap.size ≤ bl' := hwh.imp (fun e => Option.some.inj e) (fun h => h bl' rfl)
  have hpl := S.blk.lt
  have hne : bl' ≠ bp := by rcases hbl with e | e; · rw [e]; exact S.ne
                            · omega
  have k1 := S.blk.grown hg (fun e => S.ne (Option.some.inj e).symm)
  have e : (lvs ++ [m]).length = lvs.length + 1 := by simp
  have ef : (lvs ++ [m]).flatMap Lv.cells = lvs.flatMap Lv.cells ++ m.cells := by simp [List.flatMap_append]
  have hmem : ∀ l ∈ lvs ++ [m], RdL wA l.b (l.b + 1) (some ⟨l.b, 0, Option.none⟩) (l.L.flatMap cec) ∧ l.b ≠ bp ∧ l.L.length ≤ l.cap ∧ l.L.length = l.wd * l.h ∧ l.b ≠ bl ∧ l.b < wA.heap.size := by
    intro l hl
    rcases List.mem_append.1 hl with hl | hl
    · obtain ⟨a, b, c, d⟩ := S.rows l hl
      exact ⟨a, b, c, d, hrne l hl, hrlt l hl⟩
    · rw [List.mem_singleton] at hl
      subst hl
      exact ⟨hm, hmb, hmc, hmL, hml, hmlt⟩
  refine ⟨bl', cl', rfl, k1.free 0, k1.cell 0, ⟨?_, ?_, by rw [e]; omega, hne, fun l hl => ?_⟩, ?_, fun l hl => ?_⟩
  · rw [e]; exact k1.put 0 _
  · rw [ef]
    exact hb4.far (p := ⟨bp, 0, Option.none⟩) (by show bp < bl' ∨ bl' + 1 ≤ bp; omega) _
  · obtain ⟨a, b, c, d, f, _⟩ := hmem l hl
    exact ⟨(a.grown hg (fun q hq => by have hq' : bl = q := Option.some.inj hq; omega)).far (p := ⟨bp, 0, Option.none⟩) (by show bp < l.b ∨ l.b + 1 ≤ bp; omega) _, b, c, d⟩
  · rw [e, ef]
    exact ho.kept (only_set (w := w') (g := bp) (only_refl _ _) 0 _) (.inr (fun q => hne (Option.some.inj q)))
  · obtain ⟨_, _, _, _, f, g⟩ := hmem l hl
    omega
end
/-- what a slice literal of one level owns -/
theorem own_lit (w : World) (l : Lv) : (w.alloc (.cells l.cells.toArray 96)).ownsRow w.heap.size 96 3 (.slice (some ⟨w.heap.size, 0, Option.none⟩) 1 1) 1 l.cells :=
  ⟨rfl, .inr ⟨w.heap.size, 1, l.cells.toArray, rfl, Nat.le_refl _, heap_alloc_new w _, Nat.le_refl _, by simp [maxLen], rfl, rfl⟩⟩
theorem TS.step {w5 wr Y : World} {bp W H : Nat} {z : Nat → Int} {k tb bl cl bl' cl' : Nat} {lvs : List Lv} {l m : Lv} (S : TS w5 bp W H z k tb bl cl lvs l wr) (hm1 : m.wd = side W (k + 1)) (hm2 : m.h = side H (k + 1)) (hm3 : m.L = lev W H z (k + 1)) (hno : 1 < side W k ∨ 1 < side H k)
    (P : PS Y bp bl' cl' (lvs ++ [m]) 0) (O : Y.ownsRow w5.heap.size 96 3 (.slice (some ⟨bl', 0, Option.none⟩) (lvs ++ [m]).length cl') (lvs ++ [m]).length ((lvs ++ [m]).flatMap Lv.cells)) (R : ∀ l ∈ lvs ++ [m], l.b ≠ bl') (B : Below w5.heap.size w5 Y) (hs : wr.heap.size ≤ Y.heap.size) (hmb : m.b < Y.heap.size) :
    TS w5 bp W H z (k + 1) Y.heap.size bl' cl' (lvs ++ [m]) m (Y.alloc (.cells m.cells.toArray 96)) := by
  have hlt : ∀ l ∈ lvs ++ [m], l.b < Y.heap.size := by
    intro l hl
    rcases List.mem_append.1 hl with hl | hl
    · have := S.rlt l hl; omega
    · rw [List.mem_singleton] at hl
      subst hl
      exact hmb
  have hbl : bl' < Y.heap.size := by
    obtain ⟨b, off, e, h1, h2, h3, _⟩ := P.rdl.some (by rw [flatMap_len Lv.cells 3 lv_len]; simp)
    omega
  have hbp := P.blk.lt
  have e1 : lvs.length = k + 1 := S.len
  refine ⟨P.next (_root_.Go.Proofs.Ytoaagemofjddiaa.bl _ _), own_next O (_root_.Go.Proofs.Ytoaagemofjddiaa.bl _ _), S.is.snoc (by rw [e1]; exact hm1) (by rw [e1]; exact hm2) (by rw [e1]; exact hm3), by simp [e1], fun j hj => ?_, B.trans ((_root_.Go.Proofs.Ytoaagemofjddiaa.bl _ _).mono B.size), S.hbp, R, fun l hl => ?_, ?_, Blk.mk _ _ _, ⟨by omega, by omega, fun l hl => ?_, B.size⟩⟩
  · rcases Nat.lt_or_ge j k with h | h
    · exact S.no j h
    · obtain rfl : j = k := by omega
      exact hno
  · have := hlt l hl
    simp
    omega
  · rw [← e1]; simp
  · have := hlt l hl
    omega
theorem TS.start (w5 : World) (W H : Nat) (z : Nat → Int) (l : Lv) (hr : RdL w5 l.b (l.b + 1) (some ⟨l.b, 0, Option.none⟩) (l.L.flatMap cec)) (hlt : l.b < w5.heap.size) (hc : l.L.length ≤ l.cap) (h1 : l.wd = W) (h2 : l.h = H) (h3 : l.L = lev W H z 0) :
    TS w5 (w5.heap.size + 1) W H z 0 (w5.heap.size + 1 + 1) w5.heap.size 1 [l] l (((w5.alloc (.cells l.cells.toArray 96)).alloc (.cells #[.slice (some ⟨w5.heap.size, 0, Option.none⟩) 1 1, .int .i64 0] 99)).alloc (.cells l.cells.toArray 96)) := by
  have s1 : (w5.alloc (.cells l.cells.toArray 96)).heap.size = w5.heap.size + 1 := by simp
  have s2 : ((w5.alloc (.cells l.cells.toArray 96)).alloc (.cells #[.slice (some ⟨w5.heap.size, 0, Option.none⟩) 1 1, .int .i64 0] 99)).heap.size = w5.heap.size + 1 + 1 := by simp
  have k1 := (Blk.mk (w5.alloc (.cells l.cells.toArray 96)) 99 [.slice (some ⟨w5.heap.size, 0, Option.none⟩) 1 1, .int .i64 0]).alloc (.cells l.cells.toArray 96)
  rw [s1] at k1
  have k2 := Blk.mk ((w5.alloc (.cells l.cells.toArray 96)).alloc (.cells #[.slice (some ⟨w5.heap.size, 0, Option.none⟩) 1 1, .int .i64 0] 99)) 96 l.cells
  rw [s2] at k2
  have n1 := ((new_rd w5 96 l.cells).alloc (.cells #[.slice (some ⟨w5.heap.size, 0, Option.none⟩) 1 1, .int .i64 0] 99)).alloc (.cells l.cells.toArray 96)
  have o1 := own_next (own_next (own_lit w5 l) (bl _ (.cells #[.slice (some ⟨w5.heap.size, 0, Option.none⟩) 1 1, .int .i64 0] 99))) (bl _ (.cells l.cells.toArray 96))
  have hmem : ∀ x ∈ [l], x = l := fun x hx => List.mem_singleton.1 hx
  refine ⟨⟨k1, by simpa using n1, Nat.le_refl _, by omega, fun x hx => ?_⟩, by simpa using o1, ⟨fun k h => ?_, fun k h => ?_, fun k h => ?_⟩, rfl, fun j hj => absurd hj (Nat.not_lt_zero j), bt (bt (bl _ _) (bl _ _)) (bl _ _), by omega, fun x hx => ?_, fun x hx => ?_, rfl, k2, by omega, by omega, fun x hx => ?_, by omega⟩
  · rw [hmem x hx]
    exact ⟨((hr.alloc _).alloc _).alloc _, by omega, hc, by rw [h3, lev_len, h1, h2]; rfl⟩
  all_goals first
    | (rw [hmem x hx]; first | omega | (simp; omega))
    | (simp only [List.length_singleton] at h; obtain rfl : k = 0 := by omega)
  · exact h1
  · exact h2
  · exact h3
end Pyr
end Go.Proofs.Ytoaagemofjddiaa
