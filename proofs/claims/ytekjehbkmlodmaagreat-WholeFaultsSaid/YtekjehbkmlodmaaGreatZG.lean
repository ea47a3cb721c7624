/- A part of the proof of WholeFaults. -/
import Derived.Test.YtekjehbkmlodmaaGreatZB
import Derived.Test.YtekjehbkmlodmaaGreatZA
import Derived.Test.YtekjehbkmlodmaaGreatZF
import Derived.Maps.OwnIn
import Derived.Deep.DeepCutAuto
import Derived.BigRegion
set_option linter.unusedVariables false
set_option linter.unusedSimpArgs false
namespace Go.Proofs.YtekjehbkmlodmaaGreat
section
open Go.RowKit Go.Shelf
namespace Ric
open Bits
attribute [local go_sem] Oper.semAt_some
theorem kept_drewN (W : World) (n : Nat) : KeepsOthers W (W.drewN n) := ⟨Nat.le_refl _, fun _ _ h _ => h⟩
def mark (D : Nat) : Deferred := { target := .collected D, args := #[] }
structure Marks (B : Nat) (Ds : List Nat) (w : World) : Prop where
 hold : ∀ D ∈ Ds, B ≤ D ∧ w.heap[D]? = some (.deferred (some []))
 nd : Ds.Nodup
theorem Marks.nil (B : Nat) (w : World) : Marks B [] w := ⟨fun D h => (by cases h), List.nodup_nil⟩
theorem Marks.lt {B : Nat} {Ds : List Nat} {w : World} (h : Marks B Ds w) {D : Nat} (hD : D ∈ Ds) : D < w.heap.size := by
 have := (h.hold D hD).2
 exact (Array.getElem?_eq_some_iff.1 this).1
theorem Marks.keep {B : Nat} {Ds : List Nat} {w w' : World} (h : Marks B Ds w) (hk : ∀ k, k < w.heap.size → k ∈ Ds → w'.heap[k]? = w.heap[k]?) : Marks B Ds w' :=
 ⟨fun D hD => ⟨(h.hold D hD).1, (hk D (h.lt hD) hD).trans (h.hold D hD).2⟩, h.nd⟩
theorem Marks.add {B : Nat} {Ds : List Nat} {w : World} (h : Marks B Ds w) {D : Nat} (hD : B ≤ D) (hk : w.heap[D]? = some (.deferred (some []))) (hn : D ∉ Ds) : Marks B (D :: Ds) w :=
 ⟨fun k hk' => by
  cases hk' with
  | head => exact ⟨hD, hk⟩
  | tail _ hk' => exact h.hold k hk', List.nodup_cons.2 ⟨hn, h.nd⟩⟩
theorem leaves_marks {F : Fence} {n : Nat} {P : Program} {fn : Func} {tmps : Array Value} {R : Ending → World → Prop} {v : Value} {B : Nat} (hres : ∀ w, (results fn tmps).run P w = .ok v w) : ∀ (Ds : List Nat) (w : World), Marks B Ds w → (∀ w', Below B w w' → R (.returned v) w') → LeavesInM F n P fn tmps R (Ds.map mark) .returning w
 | [], w, _, h => ⟨v, hres w, h w (Below.refl _ _)⟩
 | D :: Ds, w, hm, h => by
  have h1 := (hm.hold D (List.mem_cons_self ..))
  refine ⟨by simp, .inl ⟨D, w.putObj D (.deferred none), rfl, run_takeDeferred h1.2, ?_⟩⟩
  have hnd := List.nodup_cons.1 hm.nd
  have hb : Below B w (w.putObj D (.deferred none)) := ⟨rfl, rfl, rfl, by simp [World.putObj], fun k hk => World.putObj_heap_other (by omega)⟩
  refine leaves_marks hres Ds _ ⟨fun k hk => ⟨(hm.hold k (List.mem_cons_of_mem _ hk)).1, ?_⟩, hnd.2⟩ (fun w' hw' => h w' (hb.trans hw'))
  rw [World.putObj_heap_other (fun e => hnd.1 (by subst e; exact hk))]
  exact (hm.hold k (List.mem_cons_of_mem _ hk)).2
structure LB (W0 : World) (b7 b6 : Nat) (k : Nat) (pre : List U32) (W : World) : Prop where
 keep : Keeps2 W0 W b7 none
 sum : Blk W b7 3 [.int .i64 (sumN (pre.map U32.n) k : Int)]
 par : W.cell? ⟨b6, 0, none⟩ = some (.int .i64 (k : Int))
def GotB (w : World) (L : List Int) (e : Ending) (w' : World) : Prop := e = .returned (.tuple #[.int .i64 (bestK (L.map foldU) : Int), .int .i64 (bestN (L.map foldU) 17).2]) ∧ Below w.heap.size w w'
def BI (w : World) (A : Option Addr) (N cap : Nat) (fl : List Nat) (a : Act) (wr : World) : Prop := ∃ (k b : Nat) (s : Int) (u : Nat → Value) (Ds : List Nat), k ≤ 17 ∧ bestN fl k = (b, s) ∧ Below w.heap.size w wr ∧ Marks w.heap.size Ds wr ∧
 a = { tmps := #[.slice A N cap, undef, .int .i64 0, .int .i64 0, .int .i64 (b : Int), .int .i64 s, u 6, u 7, u 8, .int .i64 (k : Int), u 10, u 11, u 12, u 13, u 14, u 15, u 16, u 17, u 18, u 19, u 20, u 21, u 22, u 23, u 24, u 25, u 26, u 27, u 28, u 29, undef, undef], defers := Ds.map mark }
theorem BI.of {w : World} {A : Option Addr} {N cap : Nat} {fl : List Nat} {t : Array Value} {df : List Deferred} {wr : World} (k b : Nat) (s : Int) (Ds : List Nat) (hk : k ≤ 17) (he : bestN fl k = (b, s)) (hB : Below w.heap.size w wr) (hM : Marks w.heap.size Ds wr) (hd : df = Ds.map mark)
  (ht : t = #[.slice A N cap, undef, .int .i64 0, .int .i64 0, .int .i64 (b : Int), .int .i64 s, t.getD 6 undef, t.getD 7 undef, t.getD 8 undef, .int .i64 (k : Int), t.getD 10 undef, t.getD 11 undef, t.getD 12 undef, t.getD 13 undef, t.getD 14 undef, t.getD 15 undef, t.getD 16 undef, t.getD 17 undef, t.getD 18 undef, t.getD 19 undef, t.getD 20 undef, t.getD 21 undef, t.getD 22 undef, t.getD 23 undef, t.getD 24 undef, t.getD 25 undef, t.getD 26 undef, t.getD 27 undef, t.getD 28 undef, t.getD 29 undef, undef, undef]) : BI w A N cap fl { tmps := t, defers := df } wr :=
 ⟨k, b, s, fun i => t.getD i undef, Ds, hk, he, hB, hM, by subst hd; exact congrArg (fun t => ({ tmps := t, defers := Ds.map mark } : Act)) ht⟩
theorem Marks.drewN {B : Nat} {Ds : List Nat} {w : World} (h : Marks B Ds w) (n : Nat) : Marks B Ds (w.drewN n) := ⟨h.hold, h.nd⟩
set_option maxRecDepth 100000 in
set_option maxHeartbeats 4000000 in
theorem best_any (A : Option Addr) (N cap lo hi : Nat) (L : List Int) (hL : L.length = N) (hl : N ≤ 100000) (hz : In32 L) (w : World) (h : RdL w lo hi A (L.map z32)) (hhi : hi ≤ w.heap.size) :
  Calls Tryz.prog 70 #[.slice A N cap] w (GotB w L) := by
 have HL := Lib.hid hL
 have HZ := Lib.hid hz
 have HR := Lib.hid h
 obtain ⟨fl, hfl⟩ : ∃ fl, fl = L.map foldU := ⟨_, rfl⟩
 have HF := Lib.hid hfl
 unfold GotB
 rw [← hfl]
 have hfln : fl.length = N := by rw [hfl, List.length_map, hL]
 have HFN := Lib.hid hfln
 clear hL hz h hfl hfln
 refine callsIn_wide.1 (callsIn_of_wp_marks (n := 9) Tryz.func70 rfl trivial ?_ rfl)
 simp only [Tryz.ntmps70, List.size_toArray, List.length_cons, List.length_nil, Nat.reduceAdd, Nat.reduceSub, Array.replicate_succ, Array.replicate_zero, List.push_toArray, List.append_toArray, List.nil_append, List.cons_append]
 refine wpIn_wide.2 ?_
 go_wp2_with fail
 refine wp_loop (BI w A N cap fl) (fun a _ => 17 - (intOf (a.tmps.getD 9 undef)).toNat) ⟨0, 0, -1, fun _ => undef, [], by omega, rfl, Below.refl _ _, Marks.nil _ _, rfl⟩ ?_
 rintro a wr ⟨k, b, s, u, Ds, hk, hbs, hB, hM, rfl⟩
 have HB := Lib.hid hB
 have HM := Lib.hid hM
 have HBS := Lib.hid hbs
 have hkb := bestN_le fl k
 have hkB := bestN_big fl k hk
 rw [hbs] at hkb hkB
 dsimp only at hkb hkB
 have hflN := HFN.out
 rw [hflN] at hkB
 clear hB hM hbs
 by_cases hlt : k < 17
 ·have d0 : decide ((k : Int) < 17) = true := decide_eq_true (by omega)
  have d0' : decide (k < 17) = true := decide_eq_true hlt
  go_wp2_with fail
  refine (folded_any A N cap _).mono ?_
  rintro e w1 ⟨rfl, rfl⟩
  go_wp2_with fail
  have h7 : Blk ((wr.alloc (.cells #[.int .i64 (k : Int)] 3)).alloc (.cells #[.int .i64 0] 3)) (wr.heap.size + 1) 3 [.int .i64 0] := by
   have := Blk.mk (wr.alloc (.cells #[.int .i64 (k : Int)] 3)) 3 [.int .i64 0]
   simpa using this
  have h7' := h7.alloc (.cells #[.slice A N cap] 140)
  have h8 := (Blk.mk ((wr.alloc (.cells #[.int .i64 (k : Int)] 3)).alloc (.cells #[.int .i64 0] 3)) 140 [.slice A N cap]).cell 0
  have e8 : ((wr.alloc (.cells #[.int .i64 (k : Int)] 3)).alloc (.cells #[.int .i64 0] 3)).heap.size = wr.heap.size + 1 + 1 := by simp
  rw [e8] at h8
  clear e8
  generalize hW0 : ((wr.alloc (.cells #[.int .i64 (k : Int)] 3)).alloc (.cells #[.int .i64 0] 3)).alloc (.cells #[.slice A N cap] 140) = W0 at *
  have hs0 : W0.heap.size = wr.heap.size + 1 + 1 + 1 := by rw [← hW0]; simp
  have hb0 : Below wr.heap.size wr W0 := by rw [← hW0]; exact bt (bl _ _) (bt (bl _ _) (bl _ _))
  have c6 : W0.cell? ⟨wr.heap.size, 0, none⟩ = some (.int .i64 (k : Int)) := by rw [← hW0]; simp [go_sem, World.cell?_alloc_past]
  have hbx : FX (wr.heap.size + 1 + 1) A N cap lo hi L W0 := ⟨h8, (HR.out.next HB.out).next hb0, by have := HB.out.size; omega⟩
  clear h7
  refine range_folded (q := 14) (s := 8) (Bs := wr.heap.size + 1 + 1) rfl HL.out (by omega) HZ.out hbx (LB W0 (wr.heap.size + 1) wr.heap.size k)
   (fun s W W' row h hg hr => ⟨h.1.grown hg (.inr fun b hb => (hr b hb).1), h.2.grown hg (fun e => by have := (hr _ e.symm).1; omega), ?_⟩) ⟨Keeps2.refl _ _ _, h7', c6⟩ ?assign ?body ?done
  ·have e := hg.block wr.heap.size (by have := h.1.size; omega) (fun e => by have := (hr _ e.symm).1; omega)
   have h3 := h.3
   unfold World.cell? at h3 ⊢
   rw [e]
   exact h3
  case assign =>
   intro l x W K hK
   unfold TF at hK
   simp only [List.setIfInBounds_toArray, List.set_cons_zero, List.set_cons_succ] at hK ⊢
   gi_wp2
   exact hK
  case body =>
   intro l pre x W hl' hI hlen
   obtain ⟨hkp, hsum, hpar⟩ := hI
   have c7 := hsum.cell 0
   unfold TF
   simp only [List.setIfInBounds_toArray, List.set_cons_zero, List.set_cons_succ]
   gi_wp2
   have hsz := size_any x.n k x.h (by omega)
   have hsl := sumN_le (k := k) (by omega) (pre.map U32.n)
   have hxl := (sizeN_le (n := x.n) (k := k) (by omega)).2
   rw [List.length_map] at hsl
   have HS := Lib.hid hsum
   have f7 := hsum.free 0
   have HP := Lib.hid hpar
   have HK := Lib.hid hkp
   have HSN : Hid (sumN ((pre ++ [x]).map U32.n) k = sumN (pre.map U32.n) k + sizeN x.n k) := Lib.hid (by rw [List.map_append, List.map_cons, List.map_nil, sumN_snoc])
   obtain ⟨m, hm⟩ : ∃ m, m = sumN (pre.map U32.n) k := ⟨_, rfl⟩
   obtain ⟨z, hz⟩ : ∃ z, z = sizeN x.n k := ⟨_, rfl⟩
   rw [← hm] at hsl HS HSN c7
   rw [← hz] at hxl HSN hsz
   have wm : IntKind.i64.wrap ((m : Int) + (z : Int)) = (m : Int) + (z : Int) := IntWalk.i64_in _ (by omega)
   clear hsum hkp hm hz
   refine region_round_tailL [_, _, _, _, _] _ (by kernel_rfl) (by kernel_rfl) (by kernel_rfl) (by kernel_rfl) (by kernel_rfl) (by kernel_rfl) ?_
   repeat (go_big_quiet_step (with_reducible exact quiet_eq (hsz _)))
   refine wpQuiet_nil ?_
   rintro _ ⟨nq, rfl⟩
   have f7' : (W.drewN nq).frozen? ⟨wr.heap.size + 1, 0, none⟩ = false := f7
   gi_wp2
   have hk' : Keeps2 W0 (W.drewN nq) (wr.heap.size + 1) none := HK.out.next (below_drewN (Below.refl _ _) nq)
   refine ⟨((kept_drewN W nq).trans (KeepsOthers.setCell _ _ _)).from _, fun h => ⟨(World.cell?_setCell_other (W.drewN nq) ⟨wr.heap.size + 1, 0, none⟩ ⟨wr.heap.size + 1 + 1, 0, none⟩ _ (by simp)).trans h.box, (h.rd.drewN nq).far (p := ⟨wr.heap.size + 1, 0, none⟩) (.inr (by show hi ≤ wr.heap.size + 1; have := HB.out.size; omega)) _, by simpa using h.sz⟩, hk'.set 0 _, ?_, (World.cell?_setCell_other (W.drewN nq) ⟨wr.heap.size + 1, 0, none⟩ ⟨wr.heap.size, 0, none⟩ _ (by simp)).trans HP.out⟩
   have hp := (HS.out.drewN nq).put 0 (.int .i64 ((m : Int) + (z : Int)))
   rw [HSN.out, Int.natCast_add]
   exact hp
  case done =>
   intro D W hD hI hKD
   obtain ⟨hkp, hsum, hpar⟩ := hI
   rw [foldsX_n HZ.out, ← HF.out] at hsum
   have hsl := sumN_le (k := k) (by omega) fl
   obtain ⟨m, hm⟩ : ∃ m, m = sumN fl k := ⟨_, rfl⟩
   have HBK : Hid (bestN fl (k + 1) = if s < 0 ∨ (m : Int) < s then (k, (m : Int)) else (b, s)) := Lib.hid (by
    show (if (bestN fl k).2 < 0 ∨ (sumN fl k : Int) < (bestN fl k).2 then (k, (sumN fl k : Int)) else bestN fl k) = _
    rw [HBS.out, ← hm])
   rw [← hm] at hsum hsl
   have c7 := hsum.cell 0
   have HBW : Hid (Below w.heap.size w W) := Lib.hid ⟨hkp.os.trans (hb0.os.trans HB.out.os), hkp.tape.trans (hb0.tape.trans HB.out.tape), hkp.output.trans (hb0.output.trans HB.out.output), by have h1 := hkp.size; have h2 := HB.out.size; omega, fun i hi => by
    have h2 := HB.out.size
    exact (hkp.block i (by omega) (by omega) (by simp)).trans ((hb0.block i (by omega)).trans (HB.out.block i hi))⟩
   have HMW : Hid (Marks w.heap.size (D :: Ds) W) := Lib.hid (Marks.add (HM.out.keep fun i hi hm' => (hkp.block i (by omega) (by omega) (by simp)).trans (hb0.block i hi)) (by have h2 := HB.out.size; omega) hKD (fun h => by have := HM.out.lt h; omega))
   have wk : IntKind.i64.wrap ((k : Int) + 1) = (k : Int) + 1 := IntWalk.i64_in _ (by omega)
   clear hkp hsum hKD h7' hbx hm c6 h8
   by_cases h1 : s < 0
   ·have d1 : decide (s < 0) = true := decide_eq_true h1
    have HE : Hid (bestN fl (k + 1) = (k, (m : Int))) := Lib.hid (by rw [HBK.out, if_pos (.inl h1)])
    go_wp2_with fail
    go_quiet (fail)
    go_wp2_with fail
    exact ⟨BI.of (k + 1) k m (D :: Ds) (by omega) HE.out (below_drewN HBW.out _) (HMW.out.drewN _) rfl rfl, by simp [intOf]; omega⟩
   ·have d1 : decide (s < 0) = false := decide_eq_false h1
    by_cases h2 : (m : Int) < s
    ·have d2 : decide ((m : Int) < s) = true := decide_eq_true h2
     have HE : Hid (bestN fl (k + 1) = (k, (m : Int))) := Lib.hid (by rw [HBK.out, if_pos (.inr h2)])
     go_wp2_with fail
     go_quiet (fail)
     go_wp2_with fail
     exact ⟨BI.of (k + 1) k m (D :: Ds) (by omega) HE.out (below_drewN HBW.out _) (HMW.out.drewN _) rfl rfl, by simp [intOf]; omega⟩
    ·have d2 : decide ((m : Int) < s) = false := decide_eq_false h2
     have HE : Hid (bestN fl (k + 1) = (b, s)) := Lib.hid (by rw [HBK.out, if_neg (by omega)])
     go_wp2_with fail
     exact ⟨BI.of (k + 1) b s (D :: Ds) (by omega) HE.out HBW.out HMW.out rfl rfl, by simp [intOf]; omega⟩
 ·obtain rfl : k = 17 := by omega
  have hk17 : ((17 : Nat) : Int) = 17 := rfl
  go_wp2_with fail
  refine leaves_marks (B := w.heap.size) (v := .tuple #[.int .i64 (b : Int), .int .i64 s]) (fun w' => by simp [results, Tryz.results70, go_sem]) Ds wr HM.out (fun w' hw' => ⟨?_, HB.out.trans hw'⟩)
  unfold bestK
  rw [HBS.out]
end Ric
end
section
open Go.RowKit Go.Shelf
namespace Ric
open Bits
attribute [local go_sem] Oper.semAt_some
theorem _root_.Go.Proofs.YtekjehbkmlodmaaGreat.Bits.WB.keep {W W' : World} {g : Nat} {v : Value} {l : List Bool} (h : WB W g v l) (hk : ∀ b, (b = g ∨ v.ownBlock = some b) → b < W.heap.size → W'.heap[b]? = W.heap[b]?) : WB W' g v l := by
 refine ⟨(hk g (.inl rfl) h.blk.lt).trans h.blk, ⟨h.own.1, ?_⟩, h.ne⟩
 rcases h.own.2 with h2 | ⟨b, c, cur, e1, e2, e3, r⟩
 ·exact .inl h2
 ·exact .inr ⟨b, c, cur, e1, e2, (hk b (.inr (by rw [e1]; rfl)) (Array.getElem?_eq_some_iff.1 e3).1).trans e3, r⟩
theorem _root_.Go.Proofs.YtekjehbkmlodmaaGreat.Bits.WB.cells {W : World} {g : Nat} {v : Value} {l : List Bool} (h : WB W g v l) {b : Nat} (hb : b = g ∨ v.ownBlock = some b) : ∃ o, W.heap[b]? = some o ∧ o.isCells = true := by
 rcases hb with rfl | hb
 ·exact ⟨_, h.blk, rfl⟩
 ·rcases h.own.2 with ⟨h2, _⟩ | ⟨b', c, cur, e1, e2, e3, r⟩
  ·rw [h2] at hb; cases hb
  ·rw [e1] at hb
   injection hb with hb
   subst hb
   exact ⟨_, e3, rfl⟩
theorem cell_of {W W' : World} {b i : Nat} (h : W'.heap[b]? = W.heap[b]?) : W'.cell? ⟨b, i, none⟩ = W.cell? ⟨b, i, none⟩ := by
 unfold World.cell?
 rw [h]
structure LR (W0 : World) (g : Nat) (v0 : Value) (b2 b4 K : Nat) (L0 : List Bool) (pre : List U32) (W : World) : Prop where
 wr : ∃ v, WB W g v (L0 ++ (pre.map U32.n).flatMap (fun n => codeB n K)) ∧ WF W0 g v0 W v
 box : W.cell? ⟨b2, 0, none⟩ = some (.pointer (some ⟨g, 0, none⟩))
 par : W.cell? ⟨b4, 0, none⟩ = some (.int .i64 (K : Int))
set_option maxRecDepth 100000 in
set_option maxHeartbeats 4000000 in
theorem row_any (g : Nat) (v : Value) (l : List Bool) (A : Option Addr) (N cap lo hi : Nat) (L : List Int) (hL : L.length = N) (hl : N ≤ 1500) (hz : In32 L) (w : World) (hw : WB w g v l) (hll : l.length ≤ 1000) (h : RdL w lo hi A (L.map z32)) (hhi : hi ≤ w.heap.size)
  (hg : g < lo ∨ hi ≤ g) (hv : ∀ b, v.ownBlock = some b → b < lo ∨ hi ≤ b) :
  Calls Tryz.prog 52 #[.pointer (some ⟨g, 0, none⟩), .slice A N cap] w (GotW w g v (l ++ rowB (L.map foldU))) := by
 have hb := best_any A N cap lo hi L hL (by omega) hz (w.alloc (.cells #[.pointer (some ⟨g, 0, none⟩)] 143)) (h.next (bl _ _)) (by simp; omega)
 unfold GotB at hb
 obtain ⟨fl, hfl⟩ : ∃ fl, fl = L.map foldU := ⟨_, rfl⟩
 have hfn := foldsX_n hz
 rw [← hfl] at hb hfn ⊢
 have hK := bestK_le fl
 have hR0 : rowB fl = numB (bestK fl) 5 ++ fl.flatMap fun n => codeB n (bestK fl) := rfl
 obtain ⟨K, hKe⟩ : ∃ K, K = bestK fl := ⟨_, rfl⟩
 obtain ⟨z, hze⟩ : ∃ z, z = (bestN fl 17).2 := ⟨_, rfl⟩
 rw [← hKe] at hb hK hR0
 rw [← hze] at hb
 have HL := Lib.hid hL
 have HZ := Lib.hid hz
 have HR := Lib.hid h
 have HW := Lib.hid hw
 have HFN := Lib.hid hfn
 have HR0 := Lib.hid hR0
 have hgl := hw.blk.lt
 clear hL hz h hw hfl hfn hR0 hKe hze
 refine callsIn_wide.1 (callsIn_of_wp_marks (n := 9) Tryz.func52 rfl trivial ?_ rfl)
 simp only [Tryz.ntmps52, List.size_toArray, List.length_cons, List.length_nil, Nat.reduceAdd, Nat.reduceSub, Array.replicate_succ, Array.replicate_zero, List.push_toArray, List.append_toArray, List.nil_append, List.cons_append]
 refine wpIn_wide.2 ?_
 go_wp2_with fail
 refine hb.mono ?_
 rintro e w1 ⟨rfl, hb1⟩
 have hs1 : w.heap.size + 1 ≤ w1.heap.size := by have := hb1.size; simpa using this
 have hbw1 : Below w.heap.size w w1 := bt (bl _ _) hb1
 have hk2 := ((Blk.mk w 143 [.pointer (some ⟨g, 0, none⟩)]).next hb1).alloc (.cells #[.int .i64 (K : Int)] 3)
 have hk4 := Blk.mk w1 3 [.int .i64 (K : Int)]
 have c2 := hk2.cell 0
 have c4 := hk4.cell 0
 have hvl : ∀ b, v.ownBlock = some b → b < w.heap.size := fun b hb' => by obtain ⟨o, ho, _⟩ := WB.cells HW.out (.inr hb'); exact (Array.getElem?_eq_some_iff.1 ho).1
 have hWB2 : WB (w1.alloc (.cells #[.int .i64 (K : Int)] 3)) g v l := HW.out.keep fun b hb' hlt => (Below.heap_alloc w1 _ b (by omega)).trans (hbw1.block b hlt)
 have hnum := num_any g v l K 5 _ hWB2 (by omega) (by omega) (by omega)
 have HWB2 := Lib.hid hWB2
 have wK : IntKind.u64.wrap (K : Int) = (K : Int) := IntWalk.u64_in _ (by omega)
 generalize hW2 : w1.alloc (.cells #[.int .i64 (K : Int)] 3) = w2 at *
 have hs2 : w2.heap.size = w1.heap.size + 1 := by rw [← hW2]; simp
 have HB2 : Hid (Below w.heap.size w w2) := Lib.hid (by rw [← hW2]; exact bt hbw1 (bl _ _))
 clear hb1 hbw1 hWB2
 go_wp2_with fail
 refine hnum.mono ?_
 rintro e w3 ⟨rfl, v3, hB3, hF3⟩
 have hk2' : Blk w3 w.heap.size 143 [.pointer (some ⟨g, 0, none⟩)] := (hF3.block w.heap.size (by omega) (by omega) (fun e => by have := hvl _ e; omega)).trans hk2
 have hk4' : Blk w3 w1.heap.size 3 [.int .i64 (K : Int)] := (hF3.block w1.heap.size (by omega) (by omega) (fun e => by have := hvl _ e; omega)).trans hk4
 have HF3 := Lib.hid hF3
 have HB3 := Lib.hid hB3
 have hs3 := hF3.size
 clear hnum hF3 hB3 hk2 hk4 c2 c4
 go_wp2_with fail
 refine (folded_any A N cap _).mono ?_
 rintro e w4 ⟨rfl, rfl⟩
 go_wp2_with fail
 have h2' := hk2'.alloc (.cells #[.slice A N cap] 140)
 have h4' := hk4'.alloc (.cells #[.slice A N cap] 140)
 have h8 := (Blk.mk w3 140 [.slice A N cap]).cell 0
 have hrd3 : RdL w3 lo hi A (L.map z32) := ((HR.out.next HB2.out).keep hs3 fun b h1 h2 h3 => HF3.out.block b h3 (by omega) (fun e => by have := hv b e; omega))
 have hWB4 : WB (w3.alloc (.cells #[.slice A N cap] 140)) g v3 (l ++ numB K 5) := HB3.out.keep fun b _ hlt => Below.heap_alloc _ _ _ hlt
 generalize hW0 : w3.alloc (.cells #[.slice A N cap] 140) = W0 at *
 have hs0 : W0.heap.size = w3.heap.size + 1 := by rw [← hW0]; simp
 have hb0 : Below w3.heap.size w3 W0 := by rw [← hW0]; exact bl _ _
 have hbx : FX w3.heap.size A N cap lo hi L W0 := ⟨h8, hrd3.next hb0, by have := HB2.out.size; omega⟩
 have hv3 : ∀ b, v3.ownBlock = some b → b ≠ w.heap.size ∧ b ≠ w1.heap.size ∧ b ≠ w3.heap.size ∧ (b < lo ∨ hi ≤ b) := fun b hb' => by
  have h2 := HB2.out.size
  rcases HF3.out.own with ho | ho
  ·rw [ho] at hb'; have h1 := hvl b hb'; have h3 := hv b hb'; omega
  ·have h1 := ho b hb'
   obtain ⟨o, ho', _⟩ := WB.cells HB3.out (.inr hb')
   have := (Array.getElem?_eq_some_iff.1 ho').1
   omega
 have hle4 : (l ++ numB K 5).length ≤ 1005 := by rw [List.length_append, numB_len]; omega
 refine range_folded (q := 18) (s := 6) (Bs := w3.heap.size) rfl HL.out (by omega) HZ.out hbx (LR W0 g v3 w.heap.size w1.heap.size K (l ++ numB K 5))
  (fun s W W' row h hg' hr => ?_) ⟨⟨v3, by simpa using hWB4, WF.refl _ _ _⟩, h2'.cell 0, h4'.cell 0⟩ ?assign ?body ?done
 ·obtain ⟨⟨v5, q1, q2⟩, q3, q4⟩ := h
  have far : ∀ b, b < W.heap.size → (∃ o, W.heap[b]? = some o ∧ o.isCells = true) → W'.heap[b]? = W.heap[b]? := fun b hlt ⟨o, ho, hc⟩ => hg'.block b hlt (fun e => by
   obtain ⟨_, o', ho', hc'⟩ := hr b e.symm
   rw [ho] at ho'
   injection ho' with ho'
   subst ho'
   rw [hc] at hc'
   cases hc')
  have hq2 := q2.size
  have row' : ∀ b, b < W0.heap.size → W'.heap[b]? = W.heap[b]? := fun b hlt => hg'.block b (by omega) (fun e => by have := (hr b e.symm).1; omega)
  exact ⟨⟨v5, q1.keep fun b hb' hlt => far b hlt (WB.cells q1 hb'), ⟨hg'.os.trans q2.os, hg'.tape.trans q2.tape, hg'.output.trans q2.output, Nat.le_trans q2.size hg'.size, fun i h1 h2 h3 => (row' i h1).trans (q2.block i h1 h2 h3), q2.own⟩⟩, (cell_of (row' _ (by omega))).trans q3, (cell_of (row' _ (by omega))).trans q4⟩
 case assign =>
  intro l x W K hK
  unfold TF at hK
  simp only [List.setIfInBounds_toArray, List.set_cons_zero, List.set_cons_succ] at hK ⊢
  gi_wp2
  exact hK
 case body =>
  intro l' pre x W hl' hI hlen
  obtain ⟨⟨v5, q1, q2⟩, q3, q4⟩ := hI
  unfold TF
  simp only [List.setIfInBounds_toArray, List.set_cons_zero, List.set_cons_succ]
  have hq2 := q2.size
  have hcl := codes_len hK (pre.map U32.n)
  rw [List.length_map] at hcl
  have hput := put_any g v5 _ x.n K W q1 x.h hK (by rw [List.length_append]; omega)
  have hv5 : ∀ b, v5.ownBlock = some b → b ≠ w.heap.size ∧ b ≠ w1.heap.size ∧ b ≠ w3.heap.size ∧ (b < lo ∨ hi ≤ b) := fun b hb' => by
   rcases q2.own with ho | ho
   ·exact hv3 b (by rw [← ho]; exact hb')
   ·have := ho b hb'
    have := HB2.out.size
    omega
  have HQ1 := Lib.hid q1
  have HQ2 := Lib.hid q2
  clear q1 q2
  gi_wp2
  refine ⟨trivial, ?_⟩
  refine (callsIn_wide.2 hput).mono ?_
  rintro e W2 ⟨rfl, v6, r1, r2⟩
  have hr2 := r2.size
  have same : ∀ b, b < W.heap.size → b ≠ g → v5.ownBlock ≠ some b → W2.heap[b]? = W.heap[b]? := r2.block
  gi_wp2
  refine ⟨⟨hr2, fun b o hB hb' hc => ?_⟩, fun h => ⟨?_, ?_, by have := h.sz; omega⟩, ⟨v6, ?_, HQ2.out.trans r2⟩, ?_, ?_⟩
  ·have hlt := (Array.getElem?_eq_some_iff.1 hb').1
   refine (same b hlt (by omega) (fun e => ?_)).trans hb'
   obtain ⟨o', ho', hc'⟩ := WB.cells HQ1.out (.inr e)
   rw [hb'] at ho'
   injection ho' with ho'
   subst ho'
   rw [hc] at hc'
   cases hc'
  ·exact (cell_of (same _ (by omega) (by omega) (fun e => by have := hv5 _ e; omega))).trans h.box
  ·exact h.rd.keep hr2 fun b h1 h2 h3 => same b h3 (by omega) (fun e => by have := hv5 b e; omega)
  ·rw [List.map_append, List.map_cons, List.map_nil, List.flatMap_append, List.flatMap_cons, List.flatMap_nil, List.append_nil, ← List.append_assoc]
   exact r1
  ·exact (cell_of (same _ (by omega) (by omega) (fun e => by have := hv5 _ e; omega))).trans q3
  ·exact (cell_of (same _ (by omega) (by omega) (fun e => by have := hv5 _ e; omega))).trans q4
 case done =>
  intro D W hD hI hKD
  obtain ⟨⟨v5, q1, q2⟩, q3, q4⟩ := hI
  rw [HFN.out] at q1
  have hDl : ∀ b, (b = g ∨ v5.ownBlock = some b) → b ≠ D := fun b hb' e => by
   obtain ⟨o, ho, hc⟩ := WB.cells q1 hb'
   rw [e, hKD] at ho
   injection ho with ho
   subst ho
   cases hc
  have hq2 := q2.size
  have h2s := HB2.out.size
  refine ⟨by simp, .inl ⟨D, W.putObj D (.deferred none), rfl, run_takeDeferred hKD, ?_⟩⟩
  refine ⟨.tuple #[], results_none rfl _ _ _, rfl, v5, ?_, ?_⟩
  ·rw [HR0.out, ← List.append_assoc]
   exact q1.keep fun b hb' _ => World.putObj_heap_other (hDl b hb')
  ·refine ⟨q2.os.trans (hb0.os.trans (HF3.out.os.trans HB2.out.os)), q2.tape.trans (hb0.tape.trans (HF3.out.tape.trans HB2.out.tape)), q2.output.trans (hb0.output.trans (HF3.out.output.trans HB2.out.output)), by simp [World.putObj]; omega, fun i h1 h2 h3 => ?_, ?_⟩
   ·have hne : v3.ownBlock ≠ some i := fun e => by
     rcases HF3.out.own with ho | ho
     ·rw [ho] at e; exact h3 e
     ·have := ho i e; omega
    exact (World.putObj_heap_other (by omega)).trans ((q2.block i (by omega) h2 hne).trans ((hb0.block i (by omega)).trans ((HF3.out.block i (by omega) h2 h3).trans (HB2.out.block i h1))))
   ·rcases q2.own with ho | ho
    ·rcases HF3.out.own with ho3 | ho3
     ·exact .inl (ho.trans ho3)
     ·exact .inr fun b hb' => by have := ho3 b (by rw [← ho]; exact hb'); omega
    ·exact .inr fun b hb' => by have := ho b hb'; omega
end Ric
end
section
open Go.RowKit
namespace Til
open Ric (z32 foldU In32 rowB foldsX)
open Bits (WB WF pack)
def z16 (x : Int) : Value := .int .i16 x
def In16 (L : List Int) : Prop := ∀ x ∈ L, -32768 ≤ x ∧ x ≤ 32767
def guessZ (Z : List Int) (W i : Nat) : Int := if 0 < i % W then Z.getD (i - 1) 0 else if 0 < i then Z.getD (i - W) 0 else 0
theorem getD_in {Z : List Int} (h : In16 Z) (i : Nat) : -32768 ≤ Z.getD i 0 ∧ Z.getD i 0 ≤ 32767 := by
 rw [List.getD_eq_getElem?_getD]
 cases hi : Z[i]? with
 | none => simp
 | some x => exact h x (List.mem_of_getElem? hi)
theorem guess_in {Z : List Int} (h : In16 Z) (W i : Nat) : -32768 ≤ guessZ Z W i ∧ guessZ Z W i ≤ 32767 := by
 unfold guessZ
 split
 ·exact getD_in h _
 ·split
  ·exact getD_in h _
  ·omega
theorem right_any (W H : Nat) (hW1 : 1 ≤ W) (hW : W ≤ 16) (hH1 : 1 ≤ H) (hH : H ≤ 16) (w : World) :
  Calls Tryz.prog 50 #[.int .i64 (W : Int), .int .i64 (H : Int)] w fun e w' => e = .returned (.bool true) ∧ w = w' := by
 have d1 : decide ((W : Int) ≥ 1) = true := decide_eq_true (by omega)
 have d2 : decide ((H : Int) ≥ 1) = true := decide_eq_true (by omega)
 have d3 : decide ((W : Int) ≤ 16) = true := decide_eq_true (by omega)
 have d4 : decide ((H : Int) ≤ 16) = true := decide_eq_true (by omega)
 have d1' : decide (1 ≤ W) = true := decide_eq_true hW1
 have d2' : decide (1 ≤ H) = true := decide_eq_true hH1
 have d3' : decide (W ≤ 16) = true := decide_eq_true hW
 have d4' : decide (H ≤ 16) = true := decide_eq_true hH
 have d5 : decide ((1 : Int) ≤ (W : Int)) = true := decide_eq_true (by omega)
 have d6 : decide ((1 : Int) ≤ (H : Int)) = true := decide_eq_true (by omega)
 go_enter Tryz.func50, Tryz.ntmps50
 go_wp2_with fail
 go_ret
 exact ⟨rfl, rfl⟩
set_option maxRecDepth 100000 in
set_option maxHeartbeats 1000000 in
theorem guess_any (A : Option Addr) (Z : List Int) (N cap lo hi W i : Nat) (w : World) (h : RdL w lo hi A (Z.map z16)) (hN : Z.length = N) (hl : N ≤ 100000) (hz : In16 Z) (hW : 1 ≤ W) (hW2 : W ≤ 1000) (hi' : i < N) :
  Calls Tryz.prog 51 #[.slice A N cap, .int .i64 (W : Int), .int .i64 (i : Int)] w fun e w' => e = .returned (.int .i32 (guessZ Z W i)) ∧ w = w' := by
 obtain ⟨b, off, rfl, _, _, _, hc⟩ := h.some (by rw [List.length_map]; omega)
 have cell : ∀ j, j < N → w.cell? ⟨b, off + j, none⟩ = some (.int .i16 (Z.getD j 0)) := fun j hj => by
  have hj' : j < Z.length := by omega
  refine hc j _ ?_
  rw [List.getElem?_map, List.getElem?_eq_getElem hj', List.getD_eq_getElem?_getD, List.getElem?_eq_getElem hj']
  rfl
 have m1 : (i : Int).tmod (W : Int) = ((i % W : Nat) : Int) := by rw [Int.tmod_eq_emod_of_nonneg (by omega)]; rfl
 obtain ⟨x, hx⟩ : ∃ x, x = i % W := ⟨_, rfl⟩
 have hxl : x < W := by rw [hx]; exact Nat.mod_lt _ (by omega)
 have hxi : x ≤ i := by rw [hx]; exact Nat.mod_le _ _
 have hdm := Nat.div_add_mod i W
 rw [← hx] at m1 hdm
 have w1 : IntKind.i64.wrap ((i : Int).tmod (W : Int)) = (x : Int) := by rw [m1]; exact IntWalk.i64_in _ (by omega)
 have w0 : ((W : Int) == 0) = false := by rw [beq_eq_false_iff_ne]; omega
 have w0' : ¬ (W : Int) = 0 := by omega
 have hg : guessZ Z W i = if 0 < x then Z.getD (i - 1) 0 else if 0 < i then Z.getD (i - W) 0 else 0 := by unfold guessZ; rw [← hx]
 rw [hg]
 clear hg hc h hx
 by_cases h0 : 0 < x
 ·have d0 : decide ((x : Int) > 0) = true := decide_eq_true (by omega)
  have d0' : decide ((0 : Int) < (x : Int)) = true := decide_eq_true (by omega)
  have d0n : decide (0 < x) = true := decide_eq_true h0
  have hw : IntKind.i64.wrap ((i : Int) - 1) = ((i - 1 : Nat) : Int) := by rw [show (i : Int) - 1 = ((i - 1 : Nat) : Int) by omega]; exact IntWalk.i64_in _ (by omega)
  have hlt : ((i - 1 : Nat) : Int) < (N : Int) := by omega
  have hge : (0 : Int) ≤ ((i - 1 : Nat) : Int) := by omega
  have c0 := cell (i - 1) (by omega)
  have hin := getD_in hz (i - 1)
  rw [if_pos h0]
  generalize Z.getD (i - 1) 0 = u at *
  have wu : IntKind.i32.wrap u = u := IntWalk.i32_in _ (by omega)
  generalize i - 1 = k at *
  clear cell hdm
  go_enter Tryz.func51, Tryz.ntmps51
  go_wp2_with fail
  go_ret
  exact ⟨rfl, rfl⟩
 ·have hx0 : x = 0 := by omega
  subst hx0
  have d0 : decide (((0 : Nat) : Int) > 0) = false := by decide
  rw [if_neg h0]
  by_cases hi0 : 0 < i
  ·have hWi : W ≤ i := by
    rcases Nat.lt_or_ge i W with h1 | h1
    ·rw [Nat.div_eq_of_lt h1] at hdm; omega
    ·exact h1
   have d1 : decide ((i : Int) > 0) = true := decide_eq_true (by omega)
   have d1' : decide ((0 : Int) < (i : Int)) = true := decide_eq_true (by omega)
   have d1n : decide (0 < i) = true := decide_eq_true hi0
   have hw : IntKind.i64.wrap ((i : Int) - (W : Int)) = ((i - W : Nat) : Int) := by rw [show (i : Int) - (W : Int) = ((i - W : Nat) : Int) by omega]; exact IntWalk.i64_in _ (by omega)
   have hlt : ((i - W : Nat) : Int) < (N : Int) := by omega
   have hge : (0 : Int) ≤ ((i - W : Nat) : Int) := by omega
   have c0 := cell (i - W) (by omega)
   have hin := getD_in hz (i - W)
   rw [if_pos hi0]
   generalize Z.getD (i - W) 0 = u at *
   have wu : IntKind.i32.wrap u = u := IntWalk.i32_in _ (by omega)
   generalize i - W = k at *
   clear cell hdm
   go_enter Tryz.func51, Tryz.ntmps51
   go_wp2_with fail
   go_ret
   exact ⟨rfl, rfl⟩
  ·have hi0' : i = 0 := by omega
   subst hi0'
   have d1 : decide (((0 : Nat) : Int) > 0) = false := by decide
   rw [if_neg hi0]
   clear cell hdm
   go_enter Tryz.func51, Tryz.ntmps51
   go_wp2_with fail
   go_ret
   exact ⟨rfl, rfl⟩
end Til
end
section
open Go.RowKit
namespace Til
open Ric (z32 foldU In32 rowB)
open Bits (WB WF pack)
theorem mk_row {P : Program} (t e : TypeId) (i : TypeInfo) (z : Value) (ht : P.underlying t = some (.slice e)) (hi : P.info? e = some i) (hz : i.zero = some z) (hone : z.cells = #[z]) (h1 : i.size = 1) (hb : i.bytes ≤ 8) (n : Nat) (hn : n ≤ 4096) (w : World) :
  (Instr.makeSlice t (.int .i64 (n : Int)) (.int .i64 (n : Int))).run P w = .ok (.slice (some ⟨w.heap.size, 0, none⟩) n n) (w.alloc (.cells (List.replicate n z).toArray e)) := by
 have hm : i.bytes * n ≤ 8 * 4096 := Nat.mul_le_mul hb hn
 have hb' : (i.bytes : Int) * (n : Int) ≤ 281474976710656 := by
  have h : ((i.bytes * n : Nat) : Int) ≤ 281474976710656 := by omega
  rwa [Int.natCast_mul] at h
 have hr := run_make (P := P) w t e i z ht hi hz .i64 .i64 n n (by omega) (Int.le_refl _) hb' (by omega)
 rw [hone, h1, Nat.mul_one, Int.toNat_natCast] at hr
 rw [hr]
 have : madeCells #[z] n = (List.replicate n z).toArray := by
  apply Array.toList_inj.1
  rw [toList_madeCells_one]
 rw [this]
theorem info32 : (Tryz.prog.info? 21).map (fun i => (i.zero, i.size, i.bytes)) = some (some (.int .i32 0), 1, 4) := by kernel_rfl
theorem info16 : (Tryz.prog.info? 62).map (fun i => (i.zero, i.size, i.bytes)) = some (some (.int .i16 0), 1, 2) := by kernel_rfl
def diffs (Z : List Int) (W : Nat) : List Int := (List.range Z.length).map fun i => Z.getD i 0 - guessZ Z W i
theorem diffs_len (Z : List Int) (W : Nat) : (diffs Z W).length = Z.length := by simp [diffs]
theorem diffs_get {Z : List Int} {W i : Nat} (h : i < Z.length) : (diffs Z W)[i]? = some (Z.getD i 0 - guessZ Z W i) := by simp [diffs, h]
theorem diffs_in {Z : List Int} (h : In16 Z) (W : Nat) : In32 (diffs Z W) := by
 intro x hx
 unfold diffs at hx
 obtain ⟨i, _, rfl⟩ := List.mem_map.1 hx
 have h1 := getD_in h i
 have h2 := guess_in h W i
 omega
def part (D : List Int) (n i : Nat) : List Int := D.take i ++ List.replicate (n - i) 0
theorem part_set {D : List Int} {n i : Nat} (h : i < n) (hD : D.length = n) {x : Int} (hx : D[i]? = some x) : (part D n i).set i x = part D n (i + 1) := by
 unfold part
 have hi : i < D.length := by omega
 obtain ⟨k, hk⟩ : ∃ k, n - i = k + 1 := ⟨n - i - 1, by omega⟩
 rw [hk, List.set_append_right _ _ (by simp; omega)]
 have e : n - (i + 1) = k := by omega
 have e2 : (List.take i D).length = i := by rw [List.length_take]; omega
 rw [e, e2, Nat.sub_self, List.replicate_succ (n := k), List.set_cons_zero, List.take_succ_eq_append_getElem hi]
 rw [List.getElem?_eq_getElem hi] at hx
 injection hx with hx
 rw [hx, List.append_assoc]
 rfl
theorem part_all {D : List Int} {n : Nat} (hD : D.length = n) : part D n n = D := by simp [part, ← hD]
theorem part_0 (D : List Int) (n : Nat) : part D n 0 = List.replicate n 0 := by simp [part]
structure TS (w : World) (A : Option Addr) (Z D : List Int) (n lo hi i : Nat) (wr : World) : Prop where
 keep : Below w.heap.size w wr
 out : Blk wr w.heap.size 139 [.slice none 0 0, .int .i64 0]
 row : Blk wr (w.heap.size + 1) 21 ((part D n i).map z32)
 rd : RdL wr lo hi A (Z.map z16)
def GotP (w : World) (B : List UInt8) (e : Ending) (w' : World) : Prop := (∃ v, e = .returned (.tuple #[v, .int .i64 0]) ∧ w'.ownsRow w.heap.size 5 1 v B.length (B.map Bits.bv)) ∧ Below w.heap.size w w'
set_option maxRecDepth 100000 in
set_option maxHeartbeats 2000000 in
theorem tput_any (A : Option Addr) (Z : List Int) (W H N cap lo hi : Nat) (w : World) (h : RdL w lo hi A (Z.map z16)) (hhi : hi ≤ w.heap.size) (hZ : Z.length = N) (hN : W * H = N) (hz : In16 Z) (hW1 : 1 ≤ W) (hW : W ≤ 16) (hH1 : 1 ≤ H) (hH : H ≤ 16) :
  Calls Tryz.prog 27 #[.int .i64 (W : Int), .int .i64 (H : Int), .slice A N cap] w (GotP w (pack (rowB ((diffs Z W).map foldU)))) := by
 have hNl : N ≤ 256 := by rw [← hN]; exact Nat.mul_le_mul hW hH
 have hr := right_any W H hW1 hW hH1 hH w
 have hDl := diffs_len Z W
 have hDi := diffs_in hz W
 obtain ⟨D, hD⟩ : ∃ D, D = diffs Z W := ⟨_, rfl⟩
 have hmul : IntKind.i64.wrap ((W : Int) * (H : Int)) = (N : Int) := by rw [← Int.natCast_mul, hN]; exact IntWalk.i64_in _ (by omega)
 have wN : IntKind.i64.wrap (N : Int) = (N : Int) := IntWalk.i64_in _ (by omega)
 obtain ⟨i0, hi0⟩ : ∃ i, Tryz.prog.info? 21 = some i := by
  have := info32
  cases hh : Tryz.prog.info? 21 with
  | none => rw [hh] at this; cases this
  | some i => exact ⟨i, rfl⟩
 have hinf := info32
 rw [hi0] at hinf
 simp only [Option.map_some, Option.some.injEq, Prod.mk.injEq] at hinf
 have hmk := fun w => mk_row (P := Tryz.prog) 140 21 i0 (.int .i32 0) Tryz.underlying140 hi0 hinf.1 rfl hinf.2.1 (by rw [hinf.2.2]; decide) N (by omega) w
 rw [← hD] at hDl hDi ⊢
 have HR := Lib.hid h
 have HZ := Lib.hid hZ
 have HZI := Lib.hid hz
 have HD := Lib.hid hD
 have HDL := Lib.hid (hDl.trans hZ)
 have HDI := Lib.hid hDi
 clear h hZ hz hD hDl hDi hN hinf hi0
 go_enter Tryz.func27, Tryz.ntmps27
 go_wp2_with fail
 refine hr.mono ?_
 rintro e w' ⟨rfl, rfl⟩
 go_wp2_with fail
 have S0 : TS w A Z D N lo hi 0 ((w.alloc (.cells #[.slice none 0 0, .int .i64 0] 139)).alloc (.cells (Array.replicate N (.int .i32 0)) 21)) := by
  have h2 := Blk.mk (w.alloc (.cells #[.slice none 0 0, .int .i64 0] 139)) 21 (List.replicate N (.int .i32 0))
  rw [List.toArray_replicate] at h2
  have e : (w.alloc (.cells #[.slice none 0 0, .int .i64 0] 139)).heap.size = w.heap.size + 1 := by simp
  rw [e] at h2
  refine ⟨bt (bl _ _) (bl _ _), (Blk.mk w 139 [.slice none 0 0, .int .i64 0]).alloc _, ?_, (HR.out.alloc _).alloc _⟩
  rw [part_0, List.map_replicate]
  exact h2
 go_loopw [29] (fun u wr => ∃ i : Nat, u = .int .i64 (i : Int) ∧ i ≤ N ∧ TS w A Z D N lo hi i wr) (fun u _ => N - (intOf u).toNat)
 case atStart => exact ⟨0, rfl, Nat.zero_le _, S0⟩
 case round =>
  obtain ⟨i, rfl, hiN, S⟩ := hrel
  clear S0 hr
  have HS := Lib.hid S
  by_cases hlt : i < N
  ·have hltI : (i : Int) < (N : Int) := by omega
   have h0i : (0 : Int) ≤ (i : Int) := by omega
   have di : decide (i < N) = true := decide_eq_true hlt
   obtain ⟨b, off, rfl, _, _, _, hc⟩ := S.rd.some (by rw [List.length_map, HZ.out]; omega)
   have hiZ : i < Z.length := by rw [HZ.out]; exact hlt
   have c0 : wr.cell? ⟨b, off + i, none⟩ = some (.int .i16 (Z.getD i 0)) := hc i _ (by
    rw [List.getElem?_map, List.getElem?_eq_getElem hiZ, List.getD_eq_getElem?_getD, List.getElem?_eq_getElem hiZ]
    rfl)
   have hgs := guess_any (some ⟨b, off, none⟩) Z N cap lo hi W i wr S.rd HZ.out (by omega) HZI.out hW1 (by omega) hlt
   have hdg := diffs_get (W := W) hiZ
   have hin1 := getD_in HZI.out i
   have hin2 := guess_in HZI.out W i
   have hrow := S.row
   have r1 := hrow.cell i
   have r2 := hrow.free i
   have hrl : ((part D N i).map z32)[i]? = some (.int .i32 0) := by
    rw [List.getElem?_map]
    unfold part
    rw [List.getElem?_append_right (by rw [List.length_take]; omega), List.length_take, HDL.out, Nat.min_eq_left hiN, Nat.sub_self, List.getElem?_replicate, if_pos (by omega)]
    rfl
   rw [hrl] at r1
   rw [← HD.out] at hdg
   generalize Z.getD i 0 = x at *
   generalize guessZ Z W i = y at *
   have wx : IntKind.i32.wrap x = x := IntWalk.i32_in _ (by omega)
   have wxy : IntKind.i32.wrap (x - y) = x - y := IntWalk.i32_in _ (by omega)
   have HDG := Lib.hid hdg
   clear hc hrl hdg S hrow
   go_wp2_with fail
   refine hgs.mono ?_
   rintro e w' ⟨rfl, rfl⟩
   go_wp2_with fail
   have hk := HS.out.keep.size
   refine ⟨⟨i + 1, by simp, by omega, ⟨HS.out.keep.setCell (by show w.heap.size ≤ w.heap.size + 1; omega) _, HS.out.out.far (p := ⟨w.heap.size + 1, i, none⟩) (by show w.heap.size ≠ w.heap.size + 1; omega) _, ?_, HS.out.rd.far (p := ⟨w.heap.size + 1, i, none⟩) (.inr (by show hi ≤ w.heap.size + 1; omega)) _⟩⟩, by simp [intOf]; omega⟩
   have hp := HS.out.row.put i (z32 (x - y))
   rw [← part_set hlt HDL.out HDG.out, List.map_set]
   exact hp
  ·obtain rfl : i = N := by omega
   have di : decide (i < i) = false := decide_eq_false hlt
   have hrow := S.row
   rw [part_all HDL.out] at hrow
   have hrd : RdL wr (w.heap.size + 1) (w.heap.size + 1 + 1) (some ⟨w.heap.size + 1, 0, none⟩) (D.map z32) := .inr ⟨w.heap.size + 1, 0, rfl, Nat.le_refl _, by omega, hrow.lt, fun j u hu => by
    rw [Nat.zero_add, ← hu]
    exact hrow.cell j⟩
   have hwb : WB wr w.heap.size (.slice none 0 0) [] := ⟨S.out, World.ownsRow_nil _ _ _ _, by simp [Value.ownBlock]⟩
   have hrw := Ric.row_any w.heap.size (.slice none 0 0) [] (some ⟨w.heap.size + 1, 0, none⟩) i i (w.heap.size + 1) (w.heap.size + 1 + 1) D HDL.out (by omega) HDI.out wr hwb (by simp) hrd (by have := hrow.lt; omega) (.inl (by omega)) (fun b hb => by simp [Value.ownBlock] at hb)
   rw [List.nil_append] at hrw
   have hrl := Ric.rowB_len (D.map foldU)
   rw [List.length_map, HDL.out] at hrl
   obtain ⟨M, hM⟩ : ∃ M, M = rowB (D.map foldU) := ⟨_, rfl⟩
   rw [← hM] at hrw hrl ⊢
   have HK := Lib.hid S.keep
   have HM := Lib.hid hM
   clear hrow hrd hwb S HS hM
   go_wp2_with fail
   refine hrw.mono ?_
   rintro e w2 ⟨rfl, v2, hB2, hF2⟩
   have HB : Hid (Below w.heap.size w w2) := Lib.hid (hF2.below HK.out HK.out.size (Nat.le_refl _) (fun b hb => by simp [Value.ownBlock] at hb))
   have hby := Bits.bytes_any w.heap.size v2 M w2 hB2 (by omega)
   clear hrw hF2 hB2 HK
   go_wp2_with fail
   refine hby.mono ?_
   rintro e w3 ⟨⟨v3, rfl, ho⟩, hb3⟩
   have HB3 := Lib.hid (HB.out.trans (hb3.mono HB.out.size))
   have HO := Lib.hid (own_down ho HB.out.size)
   clear hby ho hb3
   go_wp2_with fail
   go_ret2
   rw [← HM.out]
   exact ⟨⟨v3, rfl, HO.out⟩, HB3.out⟩
end Til
end
section
open Go.RowKit
namespace Til
theorem quiet_eq {P : Program} {f : FuncId} {args : Array Value} {w : World} {n : Nat} {v : Value} (h : Calls P f args (w.drewN n) fun e w' => e = .returned v ∧ w.drewN n = w') : Calls P f args (w.drewN n) fun e w'' => e = .returned v ∧ ∃ m, w'' = w.drewN m :=
 h.mono fun e w' ⟨h1, h2⟩ => ⟨h1, n, h2.symm⟩
def cntT (n : Nat) : Nat := (n + 15) / 16
theorem cntT_le {n : Nat} (h : n ≤ 256) : cntT n ≤ 16 := by unfold cntT; omega
theorem count_any (n : Nat) (hn : n ≤ 1000) (w : World) : Calls Tryz.prog 49 #[.int .i64 (n : Int)] w fun e w' => e = .returned (.int .i64 (cntT n : Int)) ∧ w = w' := by
 have w1 : IntKind.i64.wrap ((n : Int) + 16) = (n : Int) + 16 := IntWalk.i64_in _ (by omega)
 have w2 : IntKind.i64.wrap ((n : Int) + 16 - 1) = ((n + 15 : Nat) : Int) := by rw [show (n : Int) + 16 - 1 = ((n + 15 : Nat) : Int) by omega]; exact IntWalk.i64_in _ (by omega)
 have d1 : ((n + 15 : Nat) : Int).tdiv 16 = (cntT n : Int) := by rw [Int.tdiv_eq_ediv_of_nonneg (by omega)]; rfl
 have w3 : IntKind.i64.wrap (((n + 15 : Nat) : Int).tdiv 16) = (cntT n : Int) := by rw [d1]; exact IntWalk.i64_in _ (by unfold cntT; omega)
 have hcl : cntT n ≤ 70 := by unfold cntT; omega
 generalize cntT n = c at *
 have w4 : IntKind.i64.wrap (c : Int) = (c : Int) := IntWalk.i64_in _ (by omega)
 generalize hk : n + 15 = k at *
 go_enter Tryz.func49, Tryz.ntmps49
 go_wp2_with fail
 go_ret
 exact ⟨rfl, rfl⟩
def minN16 (a : Nat) : Nat := min 16 a
set_option maxRecDepth 100000 in
set_option maxHeartbeats 1000000 in
theorem box_any (W H X Y : Nat) (hW : W ≤ 256) (hH : H ≤ 256) (hX : X < cntT W) (hY : Y < cntT H) (w : World) :
  Calls Tryz.prog 26 #[.int .i64 (W : Int), .int .i64 (H : Int), .agg #[.int .i64 (X : Int), .int .i64 (Y : Int)]] w fun e w' =>
   e = .returned (.tuple #[.int .i64 ((16 * X : Nat) : Int), .int .i64 ((16 * Y : Nat) : Int), .int .i64 (minN16 (W - 16 * X) : Int), .int .i64 (minN16 (H - 16 * Y) : Int)]) ∧ Below w.heap.size w w' := by
 have hXW : 16 * X < W := by unfold cntT at hX; omega
 have hYH : 16 * Y < H := by unfold cntT at hY; omega
 have c1 := fun w => count_any W (by omega) w
 have c2 := fun w => count_any H (by omega) w
 have x0 : decide ((X : Int) < 0) = false := decide_eq_false (by omega)
 have y0 : decide ((Y : Int) < 0) = false := decide_eq_false (by omega)
 have x1 : decide ((X : Int) ≥ (cntT W : Int)) = false := decide_eq_false (by omega)
 have y1 : decide ((Y : Int) ≥ (cntT H : Int)) = false := decide_eq_false (by omega)
 have x2 : decide ((cntT W : Int) ≤ (X : Int)) = false := decide_eq_false (by omega)
 have y2 : decide ((cntT H : Int) ≤ (Y : Int)) = false := decide_eq_false (by omega)
 have x3 : decide (cntT W ≤ X) = false := decide_eq_false (by omega)
 have y3 : decide (cntT H ≤ Y) = false := decide_eq_false (by omega)
 have wx : IntKind.i64.wrap ((X : Int) * 16) = ((16 * X : Nat) : Int) := by rw [show (X : Int) * 16 = ((16 * X : Nat) : Int) by omega]; exact IntWalk.i64_in _ (by omega)
 have wy : IntKind.i64.wrap ((Y : Int) * 16) = ((16 * Y : Nat) : Int) := by rw [show (Y : Int) * 16 = ((16 * Y : Nat) : Int) by omega]; exact IntWalk.i64_in _ (by omega)
 generalize cntT W = cw at *
 generalize cntT H = ch at *
 generalize hx : 16 * X = x at *
 generalize hy : 16 * Y = y at *
 have wd : IntKind.i64.wrap ((W : Int) - (x : Int)) = ((W - x : Nat) : Int) := by rw [show (W : Int) - (x : Int) = ((W - x : Nat) : Int) by omega]; exact IntWalk.i64_in _ (by omega)
 have we : IntKind.i64.wrap ((H : Int) - (y : Int)) = ((H - y : Nat) : Int) := by rw [show (H : Int) - (y : Int) = ((H - y : Nat) : Int) by omega]; exact IntWalk.i64_in _ (by omega)
 have m1 : minN16 (W - x) = if W - x < 16 then W - x else 16 := by unfold minN16; rw [Nat.min_def]; split <;> split <;> omega
 have m2 : minN16 (H - y) = if H - y < 16 then H - y else 16 := by unfold minN16; rw [Nat.min_def]; split <;> split <;> omega
 generalize W - x = p at *
 generalize H - y = q at *
 have hB := Blk.mk w 77 [.int .i64 (X : Int), .int .i64 (Y : Int)]
 have b0 := hB.cell 0
 have b1 := hB.cell 1
 have hbl := bl w (.cells #[.int .i64 (X : Int), .int .i64 (Y : Int)] 77)
 have key : ∀ p' q' : Nat, ((p < 16 ∧ p' = p) ∨ (¬ p < 16 ∧ p' = 16)) → ((q < 16 ∧ q' = q) ∨ (¬ q < 16 ∧ q' = 16)) → Calls Tryz.prog 26 #[.int .i64 (W : Int), .int .i64 (H : Int), .agg #[.int .i64 (X : Int), .int .i64 (Y : Int)]] w fun e w' =>
   e = .returned (.tuple #[.int .i64 (x : Int), .int .i64 (y : Int), .int .i64 (p' : Int), .int .i64 (q' : Int)]) ∧ Below w.heap.size w w' := by
  intro p' q' hp hq
  clear m1 m2
  rcases hp with ⟨hp, rfl⟩ | ⟨hp, rfl⟩ <;> rcases hq with ⟨hq, rfl⟩ | ⟨hq, rfl⟩
  all_goals
   first | have dp : decide ((p' : Int) < 16) = true := decide_eq_true (by omega) | have dp : decide ((p : Int) < 16) = false := decide_eq_false (by omega)
   first | have dq : decide ((q' : Int) < 16) = true := decide_eq_true (by omega) | have dq : decide ((q : Int) < 16) = false := decide_eq_false (by omega)
   go_enter Tryz.func26, Tryz.ntmps26
   go_wp2_with fail
   go_quiet (first | with_reducible exact quiet_eq (c1 _) | with_reducible exact quiet_eq (c2 _))
   go_wp2_with fail
   go_quiet (fail)
   go_wp2_with fail
   simp [bodyPost, results, Tryz.results26, go_sem]
   exact below_drewN hbl _
 exact key _ _ (by rw [m1]; split <;> omega) (by rw [m2]; split <;> omega)
end Til
end
section
open Go.RowKit
namespace Til
def plc (cw i : Nat) : List Value := [.int .i64 ((i % cw : Nat) : Int), .int .i64 ((i / cw : Nat) : Int)]
def plL (cw n : Nat) : List Value := (List.range n).flatMap (plc cw)
theorem plL_succ (cw n : Nat) : plL cw (n + 1) = plL cw n ++ plc cw n := by simp [plL, List.range_succ]
theorem plL_len (cw n : Nat) : (plL cw n).length = n * 2 := by
 induction n with
 | zero => rfl
 | succ n ih => rw [plL_succ, List.length_append, ih]; simp [plc]; omega
theorem plL_get {cw n i : Nat} (h : i < n) : (plL cw n)[i * 2]? = some (.int .i64 ((i % cw : Nat) : Int)) ∧ (plL cw n)[i * 2 + 1]? = some (.int .i64 ((i / cw : Nat) : Int)) := by
 induction n with
 | zero => omega
 | succ n ih =>
  rw [plL_succ]
  rcases Nat.lt_or_ge i n with h1 | h1
  ·have := ih h1
   rw [List.getElem?_append_left (by rw [plL_len]; omega), List.getElem?_append_left (by rw [plL_len]; omega)]
   exact this
  ·obtain rfl : i = n := by omega
   rw [List.getElem?_append_right (by rw [plL_len]; omega), List.getElem?_append_right (by rw [plL_len]; omega), plL_len, Nat.sub_self, show i * 2 + 1 - i * 2 = 1 by omega]
   exact ⟨rfl, rfl⟩
theorem plc_at {cw x y : Nat} (h : x < cw) : plc cw (y * cw + x) = [.int .i64 (x : Int), .int .i64 (y : Int)] := by
 have h1 : (y * cw + x) % cw = x := by rw [Nat.mul_comm, Nat.mul_add_mod, Nat.mod_eq_of_lt h]
 have h2 : (y * cw + x) / cw = y := by rw [Nat.mul_comm, Nat.mul_add_div (by omega), Nat.div_eq_of_lt h, Nat.add_zero]
 unfold plc
 rw [h1, h2]
theorem infoPlace : (Tryz.prog.info? 77).map (fun i => (i.zero, i.size, i.bytes)) = some (some (.agg #[.int .i64 0, .int .i64 0]), 2, 16) := by kernel_rfl
theorem app_place {wr : World} {base : Nat} {v : Value} {n : Nat} {xs news : List Value} {ops : Array Oper} {rest : List Oper} {o : Oper} {a : Act} {Q : Exit → Act → World → Prop} (hown : wr.ownsRow base 77 2 v n xs) (hgd : o.guard = none) (s x : Operand)
  (ho : o.op = .call { callee := .builtin .append, args := #[s, x], argTypes := #[74, 74] }) (hs : a.eval s = v) (g : Nat) (hx : a.eval x = .slice (some ⟨g, 0, none⟩) 1 1) (hb : Blk wr g 77 news) (hl : news.length = 2) (h1 : ∀ u ∈ news, u.oneCell' = true) (hlen : n ≤ 100000) (hbase : base ≤ wr.heap.size)
  (h : ∀ v' w', w'.ownsRow base 77 2 v' (n + 1) (xs ++ news) → wr.grownBy w' v.ownBlock → (v'.ownBlock = v.ownBlock ∨ ∀ b, v'.ownBlock = some b → wr.heap.size ≤ b) → wpList Tryz.prog ops Q rest (a.put o.dst v') w') : wpList Tryz.prog ops Q (o :: rest) a wr := by
 obtain ⟨i0, hi, hz0, hz1, hz2⟩ := info_parts infoPlace
 exact wpList_append_mine hgd s x 74 ho base 77 i0 _ 2 16 Tryz.underlying74 hi hz0 hz1 hz2 rfl (by decide) v n xs hs hown (some ⟨g, 0, none⟩) 1 1 news hx (by omega) (fun h => by cases h) hb.news h1 (by unfold maxLen; omega) (by omega) hbase h
structure PS (w : World) (cw n : Nat) (v : Value) (wr : World) : Prop where
 own : wr.ownsRow w.heap.size 77 2 v n (plL cw n)
 keep : Below w.heap.size w wr
def GotPl (w : World) (cw n : Nat) (e : Ending) (w' : World) : Prop := ∃ v, e = .returned v ∧ PS w cw n v w'
theorem PS.cast {w wr : World} {cw n m : Nat} {v : Value} (h : PS w cw n v wr) (e : n = m) : PS w cw m v wr := by rw [← e]; exact h
set_option maxRecDepth 100000 in
set_option maxHeartbeats 2000000 in
theorem places_any (W H : Nat) (hW : W ≤ 256) (hH : H ≤ 256) (w : World) : Calls Tryz.prog 25 #[.int .i64 (W : Int), .int .i64 (H : Int)] w (GotPl w (cntT W) (cntT W * cntT H)) := by
 have c1 := fun w => count_any W (by omega) w
 have c2 := fun w => count_any H (by omega) w
 have l1 := cntT_le hW
 have l2 := cntT_le hH
 generalize cntT W = cw at *
 generalize cntT H = ch at *
 go_enter Tryz.func25, Tryz.ntmps25
 go_wp2_with fail
 refine (c2 _).mono ?_
 rintro e w' ⟨rfl, rfl⟩
 go_wp2_with fail
 go_loopw [5, 10] (fun v u wr => ∃ y : Nat, u = .int .i64 (y : Int) ∧ y ≤ ch ∧ PS w cw (y * cw) v wr) (fun _ u _ => ch - (intOf u).toNat)
 case atStart => exact ⟨0, rfl, Nat.zero_le _, by rw [Nat.zero_mul]; exact ⟨World.ownsRow_nil _ _ _ _, Below.refl _ _⟩⟩
 case round =>
  obtain ⟨y, rfl, hy, S⟩ := hrel
  have HS := Lib.hid S
  clear S
  by_cases hlt : y < ch
  ·have d0 : decide ((y : Int) < (ch : Int)) = true := decide_eq_true (by omega)
   have d0' : decide (y < ch) = true := decide_eq_true hlt
   have hym : y * cw ≤ 16 * 16 := Nat.mul_le_mul (by omega) l1
   go_wp2_with fail
   refine (c1 _).mono ?_
   rintro e w' ⟨rfl, rfl⟩
   go_wp2_with fail
   go_loopw [5, 15] (fun v u wr => ∃ x : Nat, u = .int .i64 (x : Int) ∧ x ≤ cw ∧ PS w cw (y * cw + x) v wr) (fun _ u _ => cw - (intOf u).toNat)
   case atStart => exact ⟨0, rfl, Nat.zero_le _, HS.out⟩
   case round =>
    obtain ⟨x, rfl, hx, S⟩ := hrel
    clear HS
    have HS := Lib.hid S
    by_cases hxl : x < cw
    ·have d1 : decide ((x : Int) < (cw : Int)) = true := decide_eq_true (by omega)
     have d1' : decide (x < cw) = true := decide_eq_true hxl
     have HO := Lib.hid (own_next S.own (bl wr (.cells #[.int .i64 (x : Int), .int .i64 (y : Int)] 77)))
     have HN := Lib.hid (Blk.mk wr 77 [.int .i64 (x : Int), .int .i64 (y : Int)])
     have hk := S.keep.size
     clear S
     go_wp2_with (at_builtin; refine app_place HO.out rfl (.tmp 18) (.tmp 22) rfl rfl wr.heap.size rfl HN.out rfl (by intro u hu; simp at hu; rcases hu with rfl | rfl <;> rfl) (by omega) (by simp; omega) ?_; intro v2 w2 hown2 hgrow2 hown3)
     have hsz := hgrow2.size
     rw [show (wr.alloc (.cells #[.int .i64 (x : Int), .int .i64 (y : Int)] 77)).heap.size = wr.heap.size + 1 by simp] at hsz
     refine ⟨⟨x + 1, by simp, by omega, ⟨?_, ?_⟩⟩, by simp [intOf]; omega⟩
     ·rw [← Nat.add_assoc, plL_succ, plc_at hxl]
      exact hown2
     ·have hk2 := bt HS.out.keep (bl wr (.cells #[.int .i64 (x : Int), .int .i64 (y : Int)] 77))
      exact ⟨hgrow2.os.trans hk2.os, hgrow2.tape.trans hk2.tape, hgrow2.output.trans hk2.output, by omega, fun i hi => (hgrow2.block i (by simp; omega) (fun e => by have := own_ge HS.out.own _ e.symm; omega)).trans (hk2.block i hi)⟩
    ·obtain rfl : x = cw := by omega
     have d1 : decide ((x : Int) < (x : Int)) = false := decide_eq_false (by omega)
     have d1' : decide (x < x) = false := decide_eq_false hxl
     go_wp2_with fail
     exact ⟨⟨y + 1, by simp, by omega, HS.out.cast (by rw [Nat.add_mul]; omega)⟩, by simp [intOf]; omega⟩
  ·obtain rfl : y = ch := by omega
   have d0 : decide ((y : Int) < (y : Int)) = false := decide_eq_false (by omega)
   have d0' : decide (y < y) = false := decide_eq_false hlt
   go_wp2_with fail
   go_ret
   exact ⟨_, rfl, HS.out.cast (Nat.mul_comm _ _)⟩
end Til
end
section
open Go.RowKit
namespace Til
set_option maxRecDepth 100000 in
set_option maxHeartbeats 1000000 in
theorem tcheck_any (A : Option Addr) (W H N cap : Nat) (hW1 : 2 ≤ W) (hW : W ≤ 256) (hH1 : 2 ≤ H) (hH : H ≤ 256) (hN : W * H = N) (w : World) :
  Calls Tryz.prog 48 #[.agg #[.int .i64 (W : Int), .int .i64 (H : Int), .slice A N cap]] w fun e w' => e = .returned (.int .i64 0) ∧ Below w.heap.size w w' := by
 have hNl : N ≤ 65536 := by rw [← hN]; exact Nat.mul_le_mul hW hH
 have d1 : decide ((W : Int) < 2) = false := decide_eq_false (by omega)
 have d2 : decide ((H : Int) < 2) = false := decide_eq_false (by omega)
 have d3 : decide ((W : Int) > 256) = false := decide_eq_false (by omega)
 have d4 : decide ((H : Int) > 256) = false := decide_eq_false (by omega)
 have d1' : decide (W < 2) = false := decide_eq_false (by omega)
 have d2' : decide (H < 2) = false := decide_eq_false (by omega)
 have d3' : decide ((256 : Int) < (W : Int)) = false := decide_eq_false (by omega)
 have d4' : decide ((256 : Int) < (H : Int)) = false := decide_eq_false (by omega)
 have d3'' : decide (256 < W) = false := decide_eq_false (by omega)
 have d4'' : decide (256 < H) = false := decide_eq_false (by omega)
 have hmul : IntKind.i64.wrap ((W : Int) * (H : Int)) = (N : Int) := by rw [← Int.natCast_mul, hN]; exact IntWalk.i64_in _ (by omega)
 have wN : IntKind.i64.wrap (N : Int) = (N : Int) := IntWalk.i64_in _ (by omega)
 have hB := Blk.mk w 42 [.int .i64 (W : Int), .int .i64 (H : Int), .slice A N cap]
 have b0 := hB.cell 0
 have b1 := hB.cell 1
 have b2 := hB.cell 2
 have hbl := bl w (.cells #[.int .i64 (W : Int), .int .i64 (H : Int), .slice A N cap] 42)
 clear hN hB
 go_enter Tryz.func48, Tryz.ntmps48
 go_wp2_with fail
 go_ret
 exact ⟨rfl, hbl⟩
set_option maxRecDepth 100000 in
set_option maxHeartbeats 1000000 in
theorem ccheck_any (A : Option Addr) (W H N cap : Nat) (C x y : Int) (hW1 : 2 ≤ W) (hW : W ≤ 256) (hH1 : 2 ≤ H) (hH : H ≤ 256) (hN : W * H = N) (hC1 : 1 ≤ C) (hC : C ≤ 1000) (w : World) :
  Calls Tryz.prog 22 #[.agg #[.int .i64 (W : Int), .int .i64 (H : Int), .slice A N cap, .int .i64 C, .int .i32 x, .int .i32 y]] w fun e w' => e = .returned (.int .i64 0) ∧ Below w.heap.size w w' := by
 have ht := fun w => tcheck_any A W H N cap hW1 hW hH1 hH hN w
 have d1 : decide (C < 1) = false := decide_eq_false (by omega)
 have d2 : decide (C > 1000) = false := decide_eq_false (by omega)
 have d2' : decide (1000 < C) = false := decide_eq_false (by omega)
 have hB := Blk.mk w 44 [.int .i64 (W : Int), .int .i64 (H : Int), .slice A N cap, .int .i64 C, .int .i32 x, .int .i32 y]
 have b0 := hB.cell 0
 have b1 := hB.cell 1
 have b2 := hB.cell 2
 have b3 := hB.cell 3
 have HB := Lib.hid hB
 have hbl := bl w (.cells #[.int .i64 (W : Int), .int .i64 (H : Int), .slice A N cap, .int .i64 C, .int .i32 x, .int .i32 y] 44)
 clear hB hN
 go_enter Tryz.func22, Tryz.ntmps22
 go_wp2_with fail
 refine (ht _).mono ?_
 rintro e w' ⟨rfl, hb⟩
 have b3' := (HB.out.next hb).cell 3
 have hbl2 := bt hbl hb
 clear b0 b1 b2 b3 hbl hb ht
 go_wp2_with fail
 go_ret
 exact ⟨rfl, hbl2⟩
theorem head_any (W H : Nat) (hW : W ≤ 256) (hH : H ≤ 256) (w : World) : Calls Tryz.prog 24 #[.int .i64 (W : Int), .int .i64 (H : Int)] w fun e w' => e = .returned (.int .i64 ((22 + 6 * (cntT W * cntT H) : Nat) : Int)) ∧ w = w' := by
 have c1 := fun w => count_any W (by omega) w
 have c2 := fun w => count_any H (by omega) w
 have l1 := cntT_le hW
 have l2 := cntT_le hH
 generalize cntT W = a at *
 generalize cntT H = b at *
 obtain ⟨m, hm⟩ : ∃ m, m = a * b := ⟨_, rfl⟩
 have hml : m ≤ 256 := by rw [hm]; exact Nat.mul_le_mul l1 l2
 have e1 : (6 : Int) * (a : Int) * (b : Int) = ((6 * m : Nat) : Int) := by rw [hm, Int.natCast_mul, Int.natCast_mul, Int.mul_assoc]; rfl
 have w0 : IntKind.i64.wrap ((6 : Int) * (a : Int)) = (6 : Int) * (a : Int) := IntWalk.i64_in _ (by omega)
 have w1 : IntKind.i64.wrap ((6 : Int) * (a : Int) * (b : Int)) = ((6 * m : Nat) : Int) := by rw [e1]; exact IntWalk.i64_in _ (by omega)
 have w2 : IntKind.i64.wrap ((18 : Int) + ((6 * m : Nat) : Int)) = ((18 + 6 * m : Nat) : Int) := by rw [show (18 : Int) + ((6 * m : Nat) : Int) = ((18 + 6 * m : Nat) : Int) by omega]; exact IntWalk.i64_in _ (by omega)
 have w3 : IntKind.i64.wrap (((18 + 6 * m : Nat) : Int) + 4) = ((22 + 6 * m : Nat) : Int) := by rw [show ((18 + 6 * m : Nat) : Int) + 4 = ((22 + 6 * m : Nat) : Int) by omega]; exact IntWalk.i64_in _ (by omega)
 rw [← hm]
 have e5 : ∀ k : Nat, k = 6 * m → ((22 + 6 * m : Nat) : Int) = ((22 + k : Nat) : Int) := fun k hk => by rw [hk]
 generalize 22 + 6 * m = z at *
 generalize 18 + 6 * m = y at *
 generalize 6 * m = x at *
 clear e1 hm e5
 go_enter Tryz.func24, Tryz.ntmps24
 go_wp2_with fail
 refine (c1 _).mono ?_
 rintro e w' ⟨rfl, rfl⟩
 go_wp2_with fail
 refine (c2 _).mono ?_
 rintro e w' ⟨rfl, rfl⟩
 go_wp2_with fail
 go_ret
 exact ⟨rfl, rfl⟩
end Til
end
section
open Go.RowKit
namespace Til
def cutR (Z : List Int) (W x y tw : Nat) (n : Nat) : List Int := (List.range n).flatMap fun r => (Z.drop ((y + r) * W + x)).take tw
theorem cutR_succ (Z : List Int) (W x y tw n : Nat) : cutR Z W x y tw (n + 1) = cutR Z W x y tw n ++ (Z.drop ((y + n) * W + x)).take tw := by simp [cutR, List.range_succ]
theorem cutR_in {Z : List Int} (h : In16 Z) (W x y tw n : Nat) : In16 (cutR Z W x y tw n) := by
 intro z hz
 unfold cutR at hz
 obtain ⟨r, _, hr⟩ := List.mem_flatMap.1 hz
 exact h z (List.mem_of_mem_drop (List.mem_of_mem_take hr))
theorem row_fits {W H N x y tw th r : Nat} (hN : W * H = N) (hx : x + tw ≤ W) (hy : y + th ≤ H) (hr : r < th) : (y + r) * W + x + tw ≤ N := by
 have h1 : (y + r + 1) * W ≤ H * W := Nat.mul_le_mul_right W (by omega)
 rw [Nat.mul_comm H W, hN, Nat.add_mul, Nat.one_mul] at h1
 omega
theorem cutR_len {Z : List Int} {W H N x y tw th : Nat} (hZ : Z.length = N) (hN : W * H = N) (hx : x + tw ≤ W) (hy : y + th ≤ H) : ∀ n, n ≤ th → (cutR Z W x y tw n).length = n * tw
 | 0, _ => by simp [cutR]
 | n + 1, h => by
  have := row_fits (r := n) hN hx hy (by omega)
  rw [cutR_succ, List.length_append, cutR_len hZ hN hx hy n (by omega), List.length_take, List.length_drop, hZ]
  generalize (y + n) * W = m at *
  rw [Nat.min_eq_left (by omega), Nat.succ_mul]
structure CS (w : World) (vals p : List Value) (A : Option Addr) (Z : List Int) (lo hi W x y tw n : Nat) (v : Value) (wr : World) : Prop where
 b0 : Blk wr w.heap.size 42 vals
 b1 : Blk wr (w.heap.size + 1) 77 p
 own : wr.ownsRow (w.heap.size + 2) 62 1 v (n * tw) ((cutR Z W x y tw n).map z16)
 keep : Below w.heap.size w wr
 rd : RdL wr lo hi A (Z.map z16)
def GotC (w : World) (L : List Int) (e : Ending) (w' : World) : Prop := (∃ v, e = .returned v ∧ w'.ownsRow w.heap.size 62 1 v L.length (L.map z16)) ∧ Below w.heap.size w w'
set_option maxRecDepth 100000 in
set_option maxHeartbeats 2000000 in
theorem cut_any (A : Option Addr) (Z : List Int) (W H X Y N cap lo hi : Nat) (w : World) (h : RdL w lo hi A (Z.map z16)) (hhi : hi ≤ w.heap.size) (hZ : Z.length = N) (hNc : N ≤ cap) (hN : W * H = N) (hz : In16 Z) (hW1 : 1 ≤ W) (hW : W ≤ 256) (hH1 : 1 ≤ H) (hH : H ≤ 256) (hX : X < cntT W) (hY : Y < cntT H) :
  Calls Tryz.prog 28 #[.agg #[.int .i64 (W : Int), .int .i64 (H : Int), .slice A N cap], .agg #[.int .i64 (X : Int), .int .i64 (Y : Int)]] w (GotC w (cutR Z W (16 * X) (16 * Y) (minN16 (W - 16 * X)) (minN16 (H - 16 * Y)))) := by
 have hNl : N ≤ 65536 := by rw [← hN]; exact Nat.mul_le_mul hW hH
 have hbx := fun w => box_any W H X Y hW hH hX hY w
 have hXW : 16 * X < W := by unfold cntT at hX; omega
 have hYH : 16 * Y < H := by unfold cntT at hY; omega
 obtain ⟨x, hx⟩ : ∃ x, x = 16 * X := ⟨_, rfl⟩
 obtain ⟨y, hy⟩ : ∃ y, y = 16 * Y := ⟨_, rfl⟩
 rw [← hx, ← hy] at hbx ⊢
 rw [← hx] at hXW
 rw [← hy] at hYH
 have htw1 : 1 ≤ minN16 (W - x) ∧ minN16 (W - x) ≤ 16 ∧ x + minN16 (W - x) ≤ W := by unfold minN16; omega
 have hth1 : 1 ≤ minN16 (H - y) ∧ minN16 (H - y) ≤ 16 ∧ y + minN16 (H - y) ≤ H := by unfold minN16; omega
 generalize minN16 (W - x) = tw at *
 generalize minN16 (H - y) = th at *
 have hlen := fun n hn => cutR_len (Z := Z) (x := x) (y := y) (tw := tw) (th := th) hZ hN htw1.2.2 hth1.2.2 n hn
 have hfit := fun r hr => row_fits (r := r) hN htw1.2.2 hth1.2.2 hr
 have HR := Lib.hid h
 have HZ := Lib.hid hZ
 have hk0 := bt (bl w (.cells #[.int .i64 (W : Int), .int .i64 (H : Int), .slice A N cap] 42)) (bl _ (.cells #[.int .i64 (X : Int), .int .i64 (Y : Int)] 77))
 have hb0 := (Blk.mk w 42 [.int .i64 (W : Int), .int .i64 (H : Int), .slice A N cap]).alloc (.cells #[.int .i64 (X : Int), .int .i64 (Y : Int)] 77)
 have hb1 := Blk.mk (w.alloc (.cells #[.int .i64 (W : Int), .int .i64 (H : Int), .slice A N cap] 42)) 77 [.int .i64 (X : Int), .int .i64 (Y : Int)]
 have e1 : (w.alloc (.cells #[.int .i64 (W : Int), .int .i64 (H : Int), .slice A N cap] 42)).heap.size = w.heap.size + 1 := by simp
 rw [e1] at hb1
 have c0 := hb0.cell 0
 have c1 := hb0.cell 1
 have p0 := hb1.cell 0
 have p1 := hb1.cell 1
 have HB0 := Lib.hid hb0
 have HB1 := Lib.hid hb1
 have HK0 := Lib.hid hk0
 have Hlen := Lib.hid hlen
 have Hfit := Lib.hid hfit
 clear h hZ hb0 hb1 hk0 hlen hfit hN hX hY hx hy e1
 go_enter Tryz.func28, Tryz.ntmps28
 go_wp2_with fail
 refine (hbx _).mono ?_
 rintro e w1 ⟨rfl, hw1⟩
 have hs1 := hw1.size
 have e2 : ((w.alloc (.cells #[.int .i64 (W : Int), .int .i64 (H : Int), .slice A N cap] 42)).alloc (.cells #[.int .i64 (X : Int), .int .i64 (Y : Int)] 77)).heap.size = w.heap.size + 1 + 1 := by simp
 rw [e2] at hs1
 have S0 : CS w [.int .i64 (W : Int), .int .i64 (H : Int), .slice A N cap] [.int .i64 (X : Int), .int .i64 (Y : Int)] A Z lo hi W x y tw 0 (.slice none 0 0) w1 :=
  ⟨HB0.out.next hw1, HB1.out.next hw1, by rw [Nat.zero_mul]; exact World.ownsRow_nil _ _ _ _, bt HK0.out hw1, (HR.out.next HK0.out).next hw1⟩
 clear hbx c0 c1 p0 p1 hw1 hs1 e2
 go_wp2_with fail
 go_loopw [9, 24] (fun v u wr => ∃ r : Nat, u = .int .i64 (r : Int) ∧ r ≤ th ∧ CS w [.int .i64 (W : Int), .int .i64 (H : Int), .slice A N cap] [.int .i64 (X : Int), .int .i64 (Y : Int)] A Z lo hi W x y tw r v wr) (fun _ u _ => th - (intOf u).toNat)
 case atStart => exact ⟨0, rfl, Nat.zero_le _, S0⟩
 case round =>
  obtain ⟨r, rfl, hr, S⟩ := hrel
  clear S0
  have HS := Lib.hid S
  by_cases hlt : r < th
  ·have d0 : decide ((r : Int) < (th : Int)) = true := decide_eq_true (by omega)
   have d0' : decide (r < th) = true := decide_eq_true hlt
   have hft := Hfit.out r hlt
   obtain ⟨m, hm⟩ : ∃ m, m = (y + r) * W := ⟨_, rfl⟩
   rw [← hm] at hft
   have hm' : ((y : Int) + (r : Int)) * (W : Int) = (m : Int) := by rw [hm, Int.natCast_mul, Int.natCast_add]
   obtain ⟨q, hq⟩ : ∃ q, q = m + x := ⟨_, rfl⟩
   rw [← hq] at hft
   obtain ⟨q2, hq2⟩ : ∃ q2, q2 = q + tw := ⟨_, rfl⟩
   rw [← hq2] at hft
   have w1 : IntKind.i64.wrap ((y : Int) + (r : Int)) = (y : Int) + (r : Int) := IntWalk.i64_in _ (by omega)
   have w2 : IntKind.i64.wrap (((y : Int) + (r : Int)) * (W : Int)) = (m : Int) := by rw [hm']; exact IntWalk.i64_in _ (by omega)
   have w3 : IntKind.i64.wrap ((m : Int) + (x : Int)) = (q : Int) := by rw [hq, ← Int.natCast_add]; exact IntWalk.i64_in _ (by omega)
   have w4 : IntKind.i64.wrap ((q : Int) + (tw : Int)) = (q2 : Int) := by rw [hq2, ← Int.natCast_add]; exact IntWalk.i64_in _ (by omega)
   have c0 := S.b0.cell 0
   have c2 := S.b0.cell 2
   obtain ⟨b, off, rfl, g1, g2, g3, hc⟩ := S.rd.some (by rw [List.length_map, HZ.out]; omega)
   have HC := Lib.hid hc
   have HM := Lib.hid hm
   have hqc : cap ≠ q := by omega
   have hqq : q ≤ q2 := by omega
   have hqi : (0 : Int) ≤ (q : Int) := by omega
   have hqj : (q : Int) ≤ (q2 : Int) := by omega
   have hqk : (q2 : Int) ≤ (cap : Int) := by omega
   have HQ := Lib.hid hq
   have HQ2 := Lib.hid hq2
   clear hc hm hm' hq hq2 S
   obtain ⟨i0, hi0, hz0, hz1, hz2⟩ := info_parts info16
   have hqtw : q2 - q = tw := by have := HQ2.out; omega
   have hnl : (((Z.drop q).take tw).map z16).length = tw * 1 := by
    rw [List.length_map, List.length_take, List.length_drop, HZ.out, Nat.mul_one]
    have := HQ2.out
    omega
   have hnews : ∀ ad, (some ⟨b, off + q, none⟩ : Option Addr) = some ad → ∀ j u, (((Z.drop q).take tw).map z16)[j]? = some u → wr.cell? (ad.add j) = some u := fun ad had j u hu => by
    injection had with had
    subst had
    rw [Addr.add_mid, Nat.add_assoc]
    refine HC.out (q + j) u ?_
    rw [List.getElem?_map] at hu ⊢
    rw [List.getElem?_take] at hu
    split at hu
    ·rw [List.getElem?_drop] at hu
     exact hu
    ·cases hu
   have hone : ∀ u ∈ ((Z.drop q).take tw).map z16, u.oneCell' = true := fun u hu => by
    obtain ⟨z, _, rfl⟩ := List.mem_map.1 hu
    rfl
   have hrt : r * tw ≤ 16 * 16 := Nat.mul_le_mul (by omega) htw1.2.1
   have hsz := HS.out.keep.size
   have hlb := HS.out.b1.lt
   have HN1 := Lib.hid hnl
   have HN2 := Lib.hid hnews
   have HN3 := Lib.hid hone
   clear hnl hnews hone
   go_wp2_with (at_builtin; refine wpList_append_mine rfl (.tmp 35) (.tmp 42) 22 rfl (w.heap.size + 2) 62 i0 (.int .i16 0) 1 2 Tryz.underlying22 hi0 hz0 hz1 hz2 rfl (by decide) _ _ _ rfl HS.out.own (some ⟨b, off + q, none⟩) tw (cap - q) _ rfl HN1.out (fun h => by cases h) HN2.out HN3.out (by unfold maxLen; omega) (by omega) (by omega) ?_; intro v2 w2 hown2 hgrow2 hown3)
   have hge := own_ge HS.out.own
   refine ⟨⟨r + 1, by simp, by omega, ⟨HS.out.b0.grown hgrow2 (fun e => by have := hge _ e.symm; omega), HS.out.b1.grown hgrow2 (fun e => by have := hge _ e.symm; omega), ?_, ?_, HS.out.rd.grown hgrow2 (fun g e => by have := hge g e; omega)⟩⟩, by simp [intOf]; omega⟩
   ·rw [cutR_succ, Nat.succ_mul, List.map_append, ← HM.out, ← HQ.out]
    exact hown2
   ·exact ⟨hgrow2.os.trans HS.out.keep.os, hgrow2.tape.trans HS.out.keep.tape, hgrow2.output.trans HS.out.keep.output, by have := hgrow2.size; omega, fun i hi => (hgrow2.block i (by omega) (fun e => by have := hge _ e.symm; omega)).trans (HS.out.keep.block i hi)⟩
  ·obtain rfl : r = th := by omega
   have d0 : decide ((r : Int) < (r : Int)) = false := decide_eq_false (by omega)
   have d0' : decide (r < r) = false := decide_eq_false hlt
   go_wp2_with fail
   go_ret
   have hl := Hlen.out r (Nat.le_refl _)
   refine ⟨⟨_, rfl, ?_⟩, HS.out.keep⟩
   rw [hl]
   exact own_down HS.out.own (by omega)
end Til
end
section
open Go.RowKit
namespace Ric
open Bits
theorem getL_none {k : Nat} {L : List Bool} {p i : Nat} (h : getL k L i p = none) : ∀ j, getL k L (i + j) p = none
 | 0 => h
 | j + 1 => by
  show getL k L (i + j + 1) p = none
  rw [getL, getL_none h j]
theorem getL_step {k : Nat} {L : List Bool} {p i : Nat} {l : List Nat} {q : Nat} (h : getL k L i p = some (l, q)) : getL k L (i + 1) p = (match getN k (L.drop q) with
      | none => none
      | some (n, c) => some (l ++ [n], q + c)) := by rw [getL, h]; rfl
theorem isRow_no {L : List Bool} {n : Nat} (h : ¬ (5 ≤ L.length ∧ val (L.take 5) ≤ 16)) : isRow L n = none := by unfold isRow; rw [if_neg h]
theorem isRow_get {L : List Bool} {n : Nat} (h : 5 ≤ L.length ∧ val (L.take 5) ≤ 16) : isRow L n = (match getL (val (L.take 5)) L n 5 with
  | none => none
  | some (l, q) => if bestK ((l.map unfoldZ).map foldU) = val (L.take 5) then some (l.map unfoldZ, q) else none) := by unfold isRow; rw [if_pos h]; rfl
theorem own_gk {w w' : World} {base n size g : Nat} {e : TypeId} {u : Value} {l : List Value} (h : w.ownsRow base e size u n l) (hg : w.grownBy w' (some g)) (hb : g < base) : w'.ownsRow base e size u n l :=
 h.kept hg (by
  cases hu : u.ownBlock with
  | none => exact .inl rfl
  | some b => exact .inr (fun e => by have := (own_lt h hu).1; injection e with e; omega))
theorem gb_up {a b c : World} {g : Nat} {r : Option Nat} (h : a.grownBy b (some g)) (k : b.grownBy c r) (hr : ∀ q, r = some q → a.heap.size ≤ q) : a.grownBy c (some g) :=
 ⟨k.os.trans h.os, k.tape.trans h.tape, k.output.trans h.output, Nat.le_trans h.size k.size, fun i hi hi2 => (k.block i (Nat.lt_of_lt_of_le hi h.size) (fun e => by have := hr i e.symm; omega)).trans (h.block i hi hi2)⟩
theorem info32' : (Tryz.prog.info? 21).map (fun i => (i.zero, i.size, i.bytes)) = some (some (.int .i32 0), 1, 4) := by kernel_rfl
theorem app_i32 {wr : World} {base : Nat} {v : Value} {n : Nat} {xs : List Value} {x' : Value} {ops : Array Oper} {rest : List Oper} {o : Oper} {a : Act} {Q : Exit → Act → World → Prop} (hown : wr.ownsRow base 21 1 v n xs) (hgd : o.guard = none) (s x : Operand)
  (ho : o.op = .call { callee := .builtin .append, args := #[s, x], argTypes := #[140, 140] }) (hs : a.eval s = v) (g : Nat) (hx : a.eval x = .slice (some ⟨g, 0, none⟩) 1 1) (hb : Blk wr g 21 [x']) (h1 : x'.oneCell' = true) (hlen : n ≤ 100000) (hbase : base ≤ wr.heap.size)
  (h : ∀ v' w', w'.ownsRow base 21 1 v' (n + 1) (xs ++ [x']) → wr.grownBy w' v.ownBlock → (v'.ownBlock = v.ownBlock ∨ ∀ b, v'.ownBlock = some b → wr.heap.size ≤ b) → wpList Tryz.prog ops Q rest (a.put o.dst v') w') : wpList Tryz.prog ops Q (o :: rest) a wr := by
 obtain ⟨i0, hi, hz0, hz1, hz2⟩ := info_parts info32'
 exact wpList_append_mine hgd s x 140 ho base 21 i0 _ 1 4 Tryz.underlying140 hi hz0 hz1 hz2 rfl (by decide) v n xs hs hown (some ⟨g, 0, none⟩) 1 1 [x'] hx rfl (fun h => by cases h) hb.news (by intro u hu; rw [List.mem_singleton] at hu; rw [hu]; exact h1) (by unfold maxLen; omega) (by omega) hbase h
theorem _root_.Go.Proofs.YtekjehbkmlodmaaGreat.Bits.RB.grown {w w' : World} {g n B0 : Nat} {B : List UInt8} {wrong : Bool} {r : Option Nat} (h : RB w g B n wrong) (hg : w.grownBy w' r) (hr : some g ≠ r) (hb : ∀ b, r = some b → B0 ≤ b) (hB : g < B0) : RB w' g B n wrong := by
 obtain ⟨A, cap, h1, h2⟩ := h
 exact ⟨A, cap, h1.grown hg hr, h2.grown hg (fun b e => .inr (by have := hb b e; omega))⟩
def GotIR (w : World) (g : Nat) (B : List UInt8) (m : Nat) (e : Ending) (w' : World) : Prop :=
 w.grownBy w' (some g) ∧ ((∃ L q v, isRow (row B) m = some (L, q) ∧ e = .returned (.tuple #[v, .bool true]) ∧ L.length = m ∧ In32 L ∧ (∀ x ∈ L, -65536 ≤ x ∧ x ≤ 65535) ∧ w'.ownsRow w.heap.size 21 1 v m (L.map z32) ∧ RB w' g B q false ∧ q ≤ 8 * B.length) ∨
  (isRow (row B) m = none ∧ ∃ v, e = .returned (.tuple #[v, .bool false])))
structure IS (w : World) (g : Nat) (B : List UInt8) (k i : Nat) (l : List Nat) (q : Nat) (v : Value) (wr : World) : Prop where
 get : getL k (row B) i 5 = some (l, q)
 len : l.length = i
 lt : ∀ n ∈ l, n < 131072
 rb : RB wr g B q false
 hq : q ≤ 8 * B.length
 own : wr.ownsRow w.heap.size 21 1 v i ((l.map unfoldZ).map z32)
 keep : w.grownBy wr (some g)
set_option maxRecDepth 100000 in
set_option maxHeartbeats 4000000 in
theorem isRow_any (g : Nat) (B : List UInt8) (m : Nat) (w : World) (h : RB w g B 0 false) (hm : m ≤ 1000) (hB : B.length ≤ 100000) :
  Calls Tryz.prog 77 #[.pointer (some ⟨g, 0, none⟩), .int .i64 (m : Int)] w (GotIR w g B m) := by
 have hglt := h.lt
 have hrl := row_len B
 by_cases h5 : 5 ≤ 8 * B.length
 ·have hn := rnum_ok g B 0 5 w h (by decide) (by omega) hB
  rw [List.drop_zero] at hn
  have hvl := val_lt ((row B).take 5) 5 (by rw [List.length_take]; omega)
  obtain ⟨k, hk⟩ : ∃ k, k = val ((row B).take 5) := ⟨_, rfl⟩
  rw [← hk] at hn hvl
  have wk : IntKind.i64.wrap (k : Int) = (k : Int) := IntWalk.i64_in _ (by omega)
  by_cases hk16 : k ≤ 16
  ·have d0 : decide ((16 : Int) < (k : Int)) = false := decide_eq_false (by omega)
   have d0' : decide (16 < k) = false := decide_eq_false (by omega)
   have dm : decide ((m : Int) < 0) = false := decide_eq_false (by omega)
   have hisr := isRow_get (L := row B) (n := m) ⟨by omega, by omega⟩
   rw [← hk] at hisr
   have HIS := Lib.hid hisr
   have HK := Lib.hid hk
   have HRL := Lib.hid hrl
   clear hisr hk hrl h
   go_enter Tryz.func77, Tryz.ntmps77
   go_wp2_with fail
   refine hn.mono ?_
   rintro e w1 ⟨rfl, hb1, hg1⟩
   have hrt := right_any g B (0 + 5) false w1 hb1
   have HB1 := Lib.hid hb1
   have HG1 := Lib.hid hg1
   clear hn hb1 hg1
   go_wp2_with fail
   refine hrt.mono ?_
   rintro e w2 ⟨rfl, rfl⟩
   clear hrt
   go_wp2_with fail
   go_loopw [7, 27] (fun v u wr => ∃ (i : Nat) (l : List Nat) (q : Nat), u = .int .i64 (i : Int) ∧ i ≤ m ∧ IS w g B k i l q v wr) (fun _ u _ => m - (intOf u).toNat)
   case atStart => exact ⟨0, [], 5, rfl, Nat.zero_le _, rfl, rfl, (fun n hn => by cases hn), HB1.out, by omega, World.ownsRow_nil _ _ _ _, HG1.out⟩
   case round =>
    clear HB1 HG1
    obtain ⟨i, l, q, rfl, him, S⟩ := hrel
    have HS := Lib.hid S
    have hgt := get_any g B q k wr S.rb hk16 S.hq hB
    have hst := getL_step S.get
    have hks := S.keep.size
    by_cases hlt : i < m
    ·have e0 : decide ((i : Int) < (m : Int)) = true := decide_eq_true (by omega)
     have e0' : decide (i < m) = true := decide_eq_true hlt
     have HST := Lib.hid hst
     clear S hst
     go_wp2_with fail
     refine hgt.mono ?_
     rintro e w1 ⟨hg1, ⟨n, c, hgn, rfl, hb1⟩ | ⟨hgn, x, rfl⟩⟩
     ·have hst := HST.out
      rw [hgn] at hst
      obtain ⟨hn1, hc1⟩ := getN_lt hgn
      rw [List.length_drop, HRL.out] at hc1
      have hun := unfold_any n hn1 w1
      have hq := HS.out.hq
      have HST2 := Lib.hid hst
      have HB1 := Lib.hid hb1
      have HG1 := Lib.hid hg1
      have HO1 := Lib.hid (own_gk HS.out.own hg1 hglt)
      clear hgt hst hgn hg1 hb1
      go_wp2_with fail
      refine hun.mono ?_
      rintro e w2 ⟨rfl, rfl⟩
      clear hun
      have hg1s := HG1.out.size
      have HN := Lib.hid (Blk.mk w1 21 [.int .i32 (unfoldZ n)])
      have HO2 := Lib.hid (own_next HO1.out (bl w1 (.cells #[.int .i32 (unfoldZ n)] 21)))
      have HB2 := Lib.hid (HB1.out.below (bl w1 (.cells #[.int .i32 (unfoldZ n)] 21)) (by omega))
      go_wp2_with (at_builtin; refine app_i32 HO2.out rfl _ _ rfl rfl w1.heap.size rfl HN.out rfl (by omega) (by simp; omega) ?_; intro v2 w2 hown2 hgrow2 hown3)
      have hsz2 := hgrow2.size
      have hne : some g ≠ u7.ownBlock := fun e => by have := (own_lt HS.out.own e.symm).1; omega
      have hge := own_ge HS.out.own
      refine ⟨⟨i + 1, l ++ [n], q + c, by simp, by omega, ⟨HST2.out, by rw [List.length_append, HS.out.len]; rfl, ?_, HB2.out.grown hgrow2 hne hge hglt, by omega, ?_, ?_⟩⟩, by simp [intOf]; omega⟩
      ·intro x hx
       rcases List.mem_append.1 hx with hx | hx
       ·exact HS.out.lt x hx
       ·rw [List.mem_singleton] at hx
        rw [hx]; exact hn1
      ·rw [List.map_append, List.map_append]
       exact hown2
      ·exact gb_up (gb_up (gb_trans HS.out.keep HG1.out) (only_below (bl w1 (.cells #[.int .i32 (unfoldZ n)] 21)) none) (fun q h => by cases h)) hgrow2 hge
     ·have hst := HST.out
      rw [hgn] at hst
      have hnone : isRow (row B) m = none := by
       rw [HIS.out]
       have := getL_none hst (m - (i + 1))
       rw [show i + 1 + (m - (i + 1)) = m by omega] at this
       rw [this]
      have HNO := Lib.hid hnone
      clear hst hnone hgt
      go_wp2_with fail
      go_ret2
      exact ⟨gb_trans HS.out.keep hg1, .inr ⟨HNO.out, _, rfl⟩⟩
    ·obtain rfl : i = m := by omega
     have e0 : decide ((i : Int) < (i : Int)) = false := decide_eq_false (by omega)
     have e0' : decide (i < i) = false := decide_eq_false hlt
     obtain ⟨A, cap, rfl, hrd, _, _, _⟩ := own_rd S.own
     have hin : ∀ x ∈ l.map unfoldZ, -65536 ≤ x ∧ x ≤ 65535 := by
      intro x hx
      obtain ⟨n, hn, rfl⟩ := List.mem_map.1 hx
      exact unfoldZ_in (S.lt n hn)
     have hin2 : In32 (l.map unfoldZ) := fun x hx => by have := hin x hx; omega
     have hbe := best_any A i cap w.heap.size wr.heap.size (l.map unfoldZ) (by rw [List.length_map, S.len]) (by omega) hin2 wr hrd (Nat.le_refl _)
     have hget := S.get
     have hi2 := HIS.out
     rw [hget] at hi2
     dsimp only at hi2
     have HI2 := Lib.hid hi2
     have HIN := Lib.hid hin
     have HIN2 := Lib.hid hin2
     unfold GotB at hbe
     obtain ⟨bk, hbk⟩ : ∃ bk, bk = bestK ((l.map unfoldZ).map foldU) := ⟨_, rfl⟩
     rw [← hbk] at hbe
     have hi2 := HI2.out
     rw [← hbk] at hi2
     have HBK := Lib.hid hbk
     have HI3 := Lib.hid hi2
     clear S hrd hin hin2 hget hi2 hbk hst hgt
     generalize (bestN ((l.map unfoldZ).map foldU) 17).2 = sz at *
     go_wp2_with fail
     refine hbe.mono ?_
     rintro e w1 ⟨rfl, hb1⟩
     by_cases hkb : bk = k
     ·have hq1 : ((bk : Int) == (k : Int)) = true := by rw [hkb]; simp
      have hq2 : (bk == k) = true := by rw [hkb]; simp
      go_wp2_with fail
      go_ret2
      refine ⟨gb_up HS.out.keep (only_below hb1 none) (fun q h => by cases h), .inl ⟨l.map unfoldZ, q, .slice A i cap, ?_, by simp, by rw [List.length_map, HS.out.len], HIN2.out, HIN.out, own_next HS.out.own hb1, HS.out.rb.below hb1 (by omega), HS.out.hq⟩⟩
      have := HI3.out
      rw [if_pos hkb] at this
      exact this
     ·have hq1 : ((bk : Int) == (k : Int)) = false := by simp; omega
      have hq2 : (bk == k) = false := by simp; omega
      go_wp2_with fail
      go_ret2
      refine ⟨gb_up HS.out.keep (only_below hb1 none) (fun q h => by cases h), .inr ⟨?_, .slice A i cap, by simp⟩⟩
      have := HI3.out
      rw [if_neg hkb] at this
      exact this
  ·have d0 : decide ((16 : Int) < (k : Int)) = true := decide_eq_true (by omega)
   have d0' : decide (16 < k) = true := decide_eq_true (by omega)
   have hisr := isRow_no (L := row B) (n := m) (by rw [← hk]; omega)
   have HIS := Lib.hid hisr
   clear hisr hk hrl h
   go_enter Tryz.func77, Tryz.ntmps77
   go_wp2_with fail
   refine hn.mono ?_
   rintro e w1 ⟨rfl, hb1, hg1⟩
   have hrt := right_any g B (0 + 5) false w1 hb1
   clear hn
   go_wp2_with fail
   refine hrt.mono ?_
   rintro e w2 ⟨rfl, rfl⟩
   clear hrt
   go_wp2_with fail
   go_ret2
   exact ⟨hg1, .inr ⟨HIS.out, _, rfl⟩⟩
 ·have hn := rnum_no g B 0 5 false w h (by decide) (.inr (by omega)) (by omega) hB
  have hisr := isRow_no (L := row B) (n := m) (by omega)
  have HIS := Lib.hid hisr
  clear hisr hrl h
  go_enter Tryz.func77, Tryz.ntmps77
  go_wp2_with fail
  refine hn.mono ?_
  rintro e w1 ⟨rfl, hb1, hg1⟩
  have hrt := right_any g B 0 true w1 hb1
  clear hn
  go_wp2_with fail
  refine hrt.mono ?_
  rintro e w2 ⟨rfl, rfl⟩
  clear hrt
  go_wp2_with fail
  go_ret2
  exact ⟨hg1, .inr ⟨HIS.out, _, rfl⟩⟩
end Ric
end
section
open Go.RowKit
namespace Til
open Ric (z32 In32 isRow isRow_any gb_up)
open Bits (row clean RB)
def undo (W : Nat) (D : List Int) : Nat → Option (List Int)
 | 0 => some (List.replicate D.length 0)
 | i + 1 => match undo W D i with
  | none => none
  | some Z => if -32768 ≤ guessZ Z W i + D.getD i 0 ∧ guessZ Z W i + D.getD i 0 < 32768 then some (Z.set i (guessZ Z W i + D.getD i 0)) else none
theorem undo_none {W : Nat} {D : List Int} {i : Nat} (h : undo W D i = none) : ∀ j, undo W D (i + j) = none
 | 0 => h
 | j + 1 => by
  show undo W D (i + j + 1) = none
  rw [undo, undo_none h j]
theorem undo_in {W : Nat} {D : List Int} : ∀ {i : Nat} {Z : List Int}, undo W D i = some Z → Z.length = D.length ∧ In16 Z
 | 0, Z, h => by
  injection h with h
  subst h
  exact ⟨by simp, fun x hx => by rw [(List.mem_replicate.1 hx).2]; omega⟩
 | i + 1, Z, h => by
  rw [undo] at h
  cases hu : undo W D i with
  | none => rw [hu] at h; cases h
  | some Z' =>
   rw [hu] at h
   dsimp only at h
   obtain ⟨h1, h2⟩ := undo_in hu
   split at h
   ·rename_i hc
    injection h with h
    subst h
    refine ⟨by simp [h1], fun x hx => ?_⟩
    rcases List.mem_or_eq_of_mem_set hx with hx | rfl
    ·exact h2 x hx
    ·omega
   ·cases h
def tcode (W H : Nat) (B : List UInt8) : Int :=
 match isRow (row B) (W * H) with
 | none => 3
 | some (L, q) => if clean ((row B).drop q) = true then (match undo W L L.length with | none => 2 | some _ => 0) else 3
def OkN (c : Int) (n m : Nat) : Prop := c = 0 → n = m
def GotT (w : World) (W H : Nat) (B : List UInt8) (e : Ending) (w' : World) : Prop :=
 (∃ (A : Option Addr) (n cap : Nat) (Z : List Int), e = .returned (.tuple #[.slice A n cap, .int .i64 (tcode W H B)]) ∧ Z.length = n ∧ n ≤ cap ∧ OkN (tcode W H B) n (W * H) ∧ RdL w' w.heap.size w'.heap.size A (Z.map z16)) ∧ Below w.heap.size w w'
structure US (w : World) (g : Nat) (A : Option Addr) (W N : Nat) (D : List Int) (lo hi i : Nat) (Z : List Int) (wr : World) : Prop where
 keep : Below w.heap.size w wr
 und : undo W D i = some Z
 row : Blk wr g 62 (Z.map z16)
 rd : RdL wr lo hi A (D.map z32)
set_option maxRecDepth 100000 in
set_option maxHeartbeats 4000000 in
theorem tget_any (A : Option Addr) (B : List UInt8) (W H n cap lo hi : Nat) (w : World) (h : RdL w lo hi A (B.map Bits.bv)) (hn : B.length = n) (hA : A = none → n = 0 ∧ cap = 0) (hl : n ≤ 100000) (hW1 : 1 ≤ W) (hW : W ≤ 16) (hH1 : 1 ≤ H) (hH : H ≤ 16) :
  Calls Tryz.prog 62 #[.int .i64 (W : Int), .int .i64 (H : Int), .slice A n cap] w (GotT w W H B) := by
 have hr := fun w => right_any W H hW1 hW hH1 hH w
 have hrd := fun w h => Bits.read_any A B n cap lo hi w h hn hA hl
 obtain ⟨N, hN⟩ : ∃ N, N = W * H := ⟨_, rfl⟩
 have hNl : N ≤ 256 := by rw [hN]; exact Nat.mul_le_mul hW hH
 have hmul : IntKind.i64.wrap ((W : Int) * (H : Int)) = (N : Int) := by rw [← Int.natCast_mul, ← hN]; exact IntWalk.i64_in _ (by omega)
 unfold GotT
 obtain ⟨c, hc⟩ : ∃ c, c = tcode W H B := ⟨_, rfl⟩
 rw [← hc, ← hN]
 unfold tcode at hc
 rw [← hN] at hc
 obtain ⟨i0, hi0⟩ : ∃ i, Tryz.prog.info? 62 = some i := by
  have := info16
  cases hh : Tryz.prog.info? 62 with
  | none => rw [hh] at this; cases this
  | some i => exact ⟨i, rfl⟩
 have hinf := info16
 rw [hi0] at hinf
 simp only [Option.map_some, Option.some.injEq, Prod.mk.injEq] at hinf
 have hmk := fun w => mk_row (P := Tryz.prog) 22 62 i0 (.int .i16 0) Tryz.underlying22 hi0 hinf.1 rfl hinf.2.1 (by rw [hinf.2.2]; decide) N (by omega) w
 have HR := Lib.hid h
 have HC := Lib.hid hc
 have HN := Lib.hid hN
 have HBL := Lib.hid hn
 clear h hn hc hN hinf hi0
 go_enter Tryz.func62, Tryz.ntmps62
 go_wp2_with fail
 refine (hr _).mono ?_
 rintro e w' ⟨rfl, rfl⟩
 go_wp2_with fail
 refine (hrd _ HR.out).mono ?_
 rintro e w1 ⟨g, rfl, hb1, hg1, hB1⟩
 have hir := isRow_any g B N w1 hb1 (by omega) (by rw [HBL.out]; exact hl)
 have HB1 := Lib.hid hB1
 have HR1 := Lib.hid (HR.out.next hB1)
 have hs1 := hB1.size
 have hglt := hb1.lt
 clear hr hrd hb1 hB1
 go_wp2_with fail
 refine hir.mono ?_
 rintro e w2 ⟨hg2, ⟨L, q, v, hir2, rfl, hLN, hL32, hL16, ho2, hb2, hq⟩ | ⟨hno, v, rfl⟩⟩
 ·have hcl := Bits.rclose_any g B q w2 hb2 hq (by rw [HBL.out]; exact hl)
  have hc := HC.out
  rw [hir2] at hc
  dsimp only at hc
  rw [hLN] at hc
  have HB2 : Hid (Below w.heap.size w w2) := Lib.hid (bgrow HB1.out hg2 hs1 hg1)
  have HO2 := Lib.hid ho2
  have HLN := Lib.hid hLN
  have HL16 := Lib.hid hL16
  have hs2 := hg2.size
  obtain ⟨cb, hcb⟩ : ∃ cb, cb = clean ((row B).drop q) := ⟨_, rfl⟩
  rw [← hcb] at hc hcl
  have HC2 := Lib.hid hc
  clear hir hir2 hLN hL32 hL16 ho2 hb2 hg2 hq hc hcb
  cases cb
  ·go_wp2_with fail
   refine hcl.mono ?_
   rintro e w3 ⟨rfl, hg3, _⟩
   have HB3 : Hid (Below w.heap.size w w3) := Lib.hid (bgrow HB2.out hg3 (by omega) hg1)
   have hc2 := HC2.out
   rw [if_neg (by decide)] at hc2
   subst hc2
   clear hcl hg3
   go_wp2_with fail
   go_ret2
   exact ⟨⟨none, 0, 0, [], rfl, rfl, Nat.le_refl _, (fun h => absurd h (by decide)), .inl rfl⟩, HB3.out⟩
  ·have hc2 := HC2.out
   rw [if_pos rfl] at hc2
   have HC3 := Lib.hid hc2
   clear hc2 HC2
   obtain ⟨A2, cap2, rfl, _, _, _, _⟩ := own_rd HO2.out
   go_wp2_with fail
   refine hcl.mono ?_
   rintro e w3 ⟨rfl, hg3, _⟩
   have HB3 : Hid (Below w.heap.size w w3) := Lib.hid (bgrow HB2.out hg3 (by omega) hg1)
   have ho3 := Ric.own_gk HO2.out hg3 hglt
   obtain ⟨_, _, eq3, hrd3, _, _, _⟩ := own_rd ho3
   injection eq3 with eq3 _ eq4
   subst eq3 eq4
   have HRD3 := Lib.hid hrd3
   have hs3 := hg3.size
   have HU0 : Hid (undo W L 0 = some (List.replicate N 0)) := Lib.hid (by rw [undo, HLN.out])
   clear hcl hg3 ho3 hrd3
   go_wp2_with fail
   have S0 : US w w3.heap.size A2 W N L w1.heap.size w3.heap.size 0 (List.replicate N 0) (w3.alloc (.cells (Array.replicate N (.int .i16 0)) 62)) := by
    have h2 := Blk.mk w3 62 (List.replicate N (.int .i16 0))
    rw [List.toArray_replicate] at h2
    refine ⟨HB3.out.alloc HB3.out.size _, HU0.out, ?_, HRD3.out.alloc _⟩
    rw [List.map_replicate]
    exact h2
   go_loopw [41] (fun u wr => ∃ (i : Nat) (Z : List Int), u = .int .i64 (i : Int) ∧ i ≤ N ∧ US w w3.heap.size A2 W N L w1.heap.size w3.heap.size i Z wr) (fun u _ => N - (intOf u).toNat)
   case atStart => exact ⟨0, _, rfl, Nat.zero_le _, S0⟩
   case round =>
    obtain ⟨i, Z, rfl, hiN, S⟩ := hrel
    clear S0
    have HS := Lib.hid S
    obtain ⟨hZl, hZi⟩ := undo_in S.und
    have HZL := Lib.hid (hZl.trans HLN.out)
    have HZI := Lib.hid hZi
    by_cases hlt : i < N
    ·have hltI : (i : Int) < (N : Int) := by omega
     have h0i : (0 : Int) ≤ (i : Int) := by omega
     have di : decide (i < N) = true := decide_eq_true hlt
     obtain ⟨b, off, rfl, _, _, _, hc⟩ := S.rd.some (by rw [List.length_map, HLN.out]; omega)
     have hiL : i < L.length := by rw [HLN.out]; exact hlt
     have c0 : wr.cell? ⟨b, off + i, none⟩ = some (.int .i32 (L.getD i 0)) := hc i _ (by
      rw [List.getElem?_map, List.getElem?_eq_getElem hiL, List.getD_eq_getElem?_getD, List.getElem?_eq_getElem hiL]
      rfl)
     have hzr : RdL wr w3.heap.size (w3.heap.size + 1) (some ⟨w3.heap.size, 0, none⟩) (Z.map z16) := .inr ⟨w3.heap.size, 0, rfl, Nat.le_refl _, by omega, S.row.lt, fun j u hu => by
      rw [Nat.zero_add, ← hu]
      exact S.row.cell j⟩
     have hgs := guess_any (some ⟨w3.heap.size, 0, none⟩) Z N N w3.heap.size (w3.heap.size + 1) W i wr hzr HZL.out (by omega) HZI.out hW1 (by omega) hlt
     have hin1 : -65536 ≤ L.getD i 0 ∧ L.getD i 0 ≤ 65535 := by
      rw [List.getD_eq_getElem?_getD, List.getElem?_eq_getElem hiL]
      exact HL16.out _ (List.getElem_mem hiL)
     have hin2 := guess_in HZI.out W i
     have hrow := S.row
     have r1 := hrow.cell i
     have r2 := hrow.free i
     have hiZ : i < Z.length := by rw [HZL.out]; exact hlt
     have hrl : (Z.map z16)[i]? = some (.int .i16 (Z.getD i 0)) := by
      rw [List.getElem?_map, List.getElem?_eq_getElem hiZ, List.getD_eq_getElem?_getD, List.getElem?_eq_getElem hiZ]
      rfl
     rw [hrl] at r1
     have hun : undo W L (i + 1) = (if -32768 ≤ guessZ Z W i + L.getD i 0 ∧ guessZ Z W i + L.getD i 0 < 32768 then some (Z.set i (guessZ Z W i + L.getD i 0)) else none) := by rw [undo, S.und]
     generalize L.getD i 0 = x at *
     generalize guessZ Z W i = y at *
     generalize Z.getD i 0 = z0 at *
     obtain ⟨s, hs⟩ : ∃ s, s = y + x := ⟨_, rfl⟩
     rw [← hs] at hun
     have wxy : IntKind.i32.wrap (y + x) = s := by rw [hs]; exact IntWalk.i32_in _ (by omega)
     have HUN := Lib.hid hun
     clear hc hrl hun S hrow hzr hs
     by_cases h1 : s < -32768
     ·have d1 : decide (s < -32768) = true := decide_eq_true h1
      have hc3 := HC3.out
      have hun := HUN.out
      rw [if_neg (by omega)] at hun
      have hnn := undo_none hun (N - (i + 1))
      rw [show i + 1 + (N - (i + 1)) = N by omega] at hnn
      rw [hnn] at hc3
      dsimp only at hc3
      subst hc3
      clear hun hnn
      go_wp2_with fail
      refine hgs.mono ?_
      rintro e w' ⟨rfl, rfl⟩
      go_wp2_with fail
      go_ret2
      exact ⟨⟨none, 0, 0, [], rfl, rfl, Nat.le_refl _, (fun h => absurd h (by decide)), .inl rfl⟩, HS.out.keep⟩
     ·have d1 : decide (s < -32768) = false := decide_eq_false h1
      by_cases h2 : 32768 ≤ s
      ·have d2 : decide (s ≥ 32768) = true := decide_eq_true h2
       have d2' : decide (32768 ≤ s) = true := decide_eq_true h2
       have hc3 := HC3.out
       have hun := HUN.out
       rw [if_neg (by omega)] at hun
       have hnn := undo_none hun (N - (i + 1))
       rw [show i + 1 + (N - (i + 1)) = N by omega] at hnn
       rw [hnn] at hc3
       dsimp only at hc3
       subst hc3
       clear hun hnn
       go_wp2_with fail
       refine hgs.mono ?_
       rintro e w' ⟨rfl, rfl⟩
       go_wp2_with fail
       go_ret2
       exact ⟨⟨none, 0, 0, [], rfl, rfl, Nat.le_refl _, (fun h => absurd h (by decide)), .inl rfl⟩, HS.out.keep⟩
      ·have d2 : decide (s ≥ 32768) = false := decide_eq_false h2
       have d2' : decide (32768 ≤ s) = false := decide_eq_false h2
       have w16 : IntKind.i16.wrap s = s := IntWalk.i16_in _ (by omega)
       have hun := HUN.out
       rw [if_pos (by omega)] at hun
       have HUN2 := Lib.hid hun
       clear hun
       go_wp2_with fail
       refine hgs.mono ?_
       rintro e w' ⟨rfl, rfl⟩
       go_wp2_with fail
       have hk := HS.out.keep.size
       refine ⟨⟨i + 1, Z.set i s, by simp, by omega, ⟨HS.out.keep.setCell (by show w.heap.size ≤ w3.heap.size; omega) _, HUN2.out, ?_, HS.out.rd.far (p := ⟨w3.heap.size, i, none⟩) (.inr (Nat.le_refl _)) _⟩⟩, by simp [intOf]; omega⟩
       have hp := HS.out.row.put i (z16 s)
       rw [List.map_set]
       exact hp
    ·obtain rfl : i = N := by omega
     have di : decide (i < i) = false := decide_eq_false hlt
     have hc3 := HC3.out
     rw [S.und] at hc3
     dsimp only at hc3
     subst hc3
     clear S
     go_wp2_with fail
     go_ret2
     refine ⟨⟨some ⟨w3.heap.size, 0, none⟩, i, i, Z, rfl, HZL.out, Nat.le_refl _, (fun _ => rfl), .inr ⟨w3.heap.size, 0, rfl, by omega, HS.out.row.lt, HS.out.row.lt, fun j u hu => ?_⟩⟩, HS.out.keep⟩
     rw [Nat.zero_add, ← hu]
     exact HS.out.row.cell j
 ·have hc := HC.out
  rw [hno] at hc
  dsimp only at hc
  subst hc
  have HB2 : Hid (Below w.heap.size w w2) := Lib.hid (bgrow HB1.out hg2 hs1 hg1)
  clear hir hno hg2
  go_wp2_with fail
  go_ret2
  exact ⟨⟨none, 0, 0, [], rfl, rfl, Nat.le_refl _, (fun h => absurd h (by decide)), .inl rfl⟩, HB2.out⟩
end Til
end
end Go.Proofs.YtekjehbkmlodmaaGreat
