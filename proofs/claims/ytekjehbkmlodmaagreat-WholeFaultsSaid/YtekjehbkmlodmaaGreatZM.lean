/- A part of the proof of WholeFaults. -/
import Derived.Test.YtekjehbkmlodmaaGreatZL
import Derived.Test.YtekjehbkmlodmaaGreatZF
import Derived.StillTailTactics
import Derived.Deep.DeepCutAuto
import Derived.BigRegion
import Derived.Test.YtekjehbkmlodmaaGreatZA
import Derived.Deep.AppendLies
import Derived.Deep.RegionHeld3
set_option linter.unusedVariables false
set_option linter.unusedSimpArgs false
namespace Go.Proofs.YtekjehbkmlodmaaGreat
section
open Go.RowKit
namespace Nav
open Frm (Fr bytesF codeF put_any GotF)
open Top (mF mF_good)
def nextS (s : Nat) : Nat := (s + 1) % 65536
def GotTell (w : World) (g s : Nat) (e : Ending) (w' : World) : Prop :=
 ∃ b, e = .returned (.slice (some ⟨b, 0, none⟩) 1 1) ∧ Blk w' b 59 (mF (nextS s)).cells ∧ w.heap.size ≤ b ∧ NS w' g 4 (nextS s) ∧ w.grownBy w' (some g)
set_option maxRecDepth 100000 in
set_option maxHeartbeats 1000000 in
theorem tell_any (g s : Nat) (hs : s < 65536) (w : World) (h : NS w g 4 s) : Calls Tryz.prog 79 #[.pointer (some ⟨g, 0, none⟩)] w (GotTell w g s) := by
 have hf := flags_any g s w h
 have H := Lib.hid h
 have hw : IntKind.u16.wrap ((s : Int) + 1) = (nextS s : Int) := by rw [IntKind.wrap_u16]; unfold nextS; omega
 have hv := fun w => valid_any w
 clear h
 go_enter Tryz.func79, Tryz.ntmps79
 go_wp2_with fail
 refine hf.mono ?_
 rintro e w1 ⟨rfl, hb1⟩
 have H1 := Lib.hid (H.out.next hb1)
 have HB1 := Lib.hid hb1
 obtain ⟨c0, _, c2, _, c4⟩ := H1.out.cells
 have H2 := Lib.hid (H1.out.put (nextS s))
 have hk := Lib.hid ((only_below hb1 (some g)))
 have HK2 := Lib.hid (only_set (g := g) hk.out 303 (.int .u16 (nextS s : Int)))
 clear hf hb1 hk
 go_upto_region 3 with fail
 go_cut [4] (fun s4 wx => ∃ b, s4 = .slice (some ⟨b, 0, none⟩) 1 1 ∧ Blk wx b 59 (mF (nextS s)).cells ∧ w.heap.size ≤ b ∧ NS wx g 4 (nextS s) ∧ w.grownBy wx (some g))
 case first =>
  go_wp2_with fail
  obtain ⟨e0, e1, e2, e3, e4⟩ := H2.out.cells
  have ht := fun w => tell1_any (nextS s) w
  have hsz : Hid (w.heap.size ≤ (w1.setCell ⟨g, 303, none⟩ (.int .u16 (nextS s : Int))).heap.size) := Lib.hid HK2.out.size
  generalize w1.setCell ⟨g, 303, none⟩ (.int .u16 (nextS s : Int)) = w2 at *
  clear c0 c2 c4 hw hv H1 HB1 H
  generalize nextS s = s' at *
  unfold modeF at ht
  refine wp_region_held_drew (S := fun w' => w'.cell? ⟨g, 285, none⟩ = some (.int .i64 4) ∧ w'.cell? ⟨g, 303, none⟩ = some (.int .u16 (s' : Int)) ∧ w'.cell? ⟨g, 304, none⟩ = some (.int .u32 0)) (by kernel_rfl) ⟨e0, e2, e3⟩ (fun hHeld => ?_)
  refine wpAnyH_take (i := 0) (oi := ⟨some 16, _, _, _, _, _⟩) (v := ?_) rfl (by kernel_rfl) (by kernel_rfl) (by kernel_rfl) (fun _ _ _ h => h) (Or.inl ⟨by rfl, ?_⟩) (by assumption) ?_
  rotate_left
  ·(intro w hSw; (try dsimp only at hSw); go_simp; try (with_reducible rfl))
  try simp only [Act.put, List.setIfInBounds_toArray, List.set_cons_zero, List.set_cons_succ]
  refine wpAnyH_take (i := 1) (oi := ⟨some 17, _, _, _, _, _⟩) (v := ?_) rfl (by kernel_rfl) (by kernel_rfl) (by kernel_rfl) (fun _ _ _ h => h) (Or.inl ⟨by rfl, ?_⟩) (by assumption) ?_
  rotate_left
  ·(intro w hSw; (try dsimp only at hSw); go_simp; try (with_reducible rfl))
  try simp only [Act.put, List.setIfInBounds_toArray, List.set_cons_zero, List.set_cons_succ]
  refine wpAnyH_take (i := 2) (oi := ⟨some 18, _, _, _, _, _⟩) (v := ?_) rfl (by kernel_rfl) (by kernel_rfl) (by kernel_rfl) (fun _ _ _ h => h) (Or.inl ⟨by rfl, ?_⟩) (by assumption) ?_
  rotate_left
  ·(intro w hSw; (try dsimp only at hSw); go_simp; try (with_reducible rfl))
  try simp only [Act.put, List.setIfInBounds_toArray, List.set_cons_zero, List.set_cons_succ]
  refine wpAnyH_take (i := 3) (oi := ⟨some 19, _, _, _, _, _⟩) (v := ?_) rfl (by kernel_rfl) (by kernel_rfl) (by kernel_rfl) (fun _ _ _ h => h) (Or.inl ⟨by rfl, ?_⟩) (by assumption) ?_
  rotate_left
  ·(intro w hSw; (try dsimp only at hSw); go_simp; try (with_reducible rfl))
  try simp only [Act.put, List.setIfInBounds_toArray, List.set_cons_zero, List.set_cons_succ]
  refine wpAnyH_take (i := 4) (oi := ⟨some 20, _, _, _, _, _⟩) (v := ?_) rfl (by kernel_rfl) (by kernel_rfl) (by kernel_rfl) (fun _ _ _ h => h) (Or.inl ⟨by rfl, ?_⟩) (by assumption) ?_
  rotate_left
  ·(intro w hSw; (try dsimp only at hSw); go_simp; try (with_reducible rfl))
  try simp only [Act.put, List.setIfInBounds_toArray, List.set_cons_zero, List.set_cons_succ]
  refine wpAnyH_take (i := 5) (oi := ⟨some 21, _, _, _, _, _⟩) (v := ?_) rfl (by kernel_rfl) (by kernel_rfl) (by kernel_rfl) (fun _ _ _ h => h) (Or.inl ⟨by rfl, ?_⟩) (by assumption) ?_
  rotate_left
  ·(intro w hSw; (try dsimp only at hSw); go_simp; try (with_reducible rfl))
  try simp only [Act.put, List.setIfInBounds_toArray, List.set_cons_zero, List.set_cons_succ]
  refine wpAnyH_take (i := 6) (oi := ⟨some 22, _, _, _, _, _⟩) (v := ?_) rfl (by kernel_rfl) (by kernel_rfl) (by kernel_rfl) (fun _ _ _ h => h) (Or.inl ⟨by rfl, ?_⟩) (by assumption) ?_
  rotate_left
  ·(intro w hSw; (try dsimp only at hSw); go_simp; try (with_reducible rfl))
  try simp only [Act.put, List.setIfInBounds_toArray, List.set_cons_zero, List.set_cons_succ]
  refine wpAnyH_take (i := 7) (oi := ⟨some 23, _, _, _, _, _⟩) (v := ?_) rfl (by kernel_rfl) (by kernel_rfl) (by kernel_rfl) (fun _ _ _ h => h) (Or.inl ⟨by rfl, ?_⟩) (by assumption) ?_
  rotate_left
  ·(intro w hSw; (try dsimp only at hSw); go_simp; try (with_reducible rfl))
  try simp only [Act.put, List.setIfInBounds_toArray, List.set_cons_zero, List.set_cons_succ]
  refine wpAnyH_take (i := 8) (oi := ⟨some 24, _, _, _, _, _⟩) (v := ?_) rfl (by kernel_rfl) (by kernel_rfl) (by kernel_rfl) (fun _ _ _ h => h) (Or.inl ⟨by rfl, ?_⟩) (by assumption) ?_
  rotate_left
  ·(intro w hSw; (try dsimp only at hSw); go_simp; try (with_reducible rfl))
  try simp only [Act.put, List.setIfInBounds_toArray, List.set_cons_zero, List.set_cons_succ]
  refine wpAnyH_take (i := 9) (oi := ⟨some 25, _, _, _, _, _⟩) (v := ?_) rfl (by kernel_rfl) (by kernel_rfl) (by kernel_rfl) (fun _ _ _ h => h) (Or.inl ⟨by rfl, ?_⟩) (by assumption) ?_
  rotate_left
  ·(intro w hSw; (try dsimp only at hSw); go_simp; try (with_reducible rfl))
  try simp only [Act.put, List.setIfInBounds_toArray, List.set_cons_zero, List.set_cons_succ]
  refine wpAnyH_take (i := 10) (oi := ⟨some 26, _, _, _, _, _⟩) (v := ?_) rfl (by kernel_rfl) (by kernel_rfl) (by kernel_rfl) (fun _ _ _ h => h) (Or.inl ⟨by rfl, ?_⟩) (by assumption) ?_
  rotate_left
  ·(intro w hSw; (try dsimp only at hSw); go_simp; try (with_reducible rfl))
  try simp only [Act.put, List.setIfInBounds_toArray, List.set_cons_zero, List.set_cons_succ]
  refine wpAnyH_take (i := 11) (oi := ⟨some 27, _, _, _, _, _⟩) (v := ?_) rfl (by kernel_rfl) (by kernel_rfl) (by kernel_rfl) (fun _ _ _ h => h) (Or.inl ⟨by rfl, ?_⟩) (by assumption) ?_
  rotate_left
  ·(intro w hSw; (try dsimp only at hSw); go_simp; try (with_reducible rfl))
  try simp only [Act.put, List.setIfInBounds_toArray, List.set_cons_zero, List.set_cons_succ]
  refine wpAnyH_take (i := 12) (oi := ⟨some 28, _, _, _, _, _⟩) (v := ?_) rfl (by kernel_rfl) (by kernel_rfl) (by kernel_rfl) (fun _ _ _ h => h) (Or.inl ⟨by rfl, ?_⟩) (by assumption) ?_
  rotate_left
  ·(intro w hSw; (try dsimp only at hSw); go_simp; try (with_reducible rfl))
  try simp only [Act.put, List.setIfInBounds_toArray, List.set_cons_zero, List.set_cons_succ]
  refine wpAnyH_ready (rs := [13]) (by kernel_rfl) (by simp) ?_
  refine AllReadyH.cons (o := ⟨some 29, _, _, _, _, _⟩) rfl (fun K hK => ?_) AllReadyH.nil
  go_simp
  refine (ht _).mono ?_
  rintro e w3 ⟨rfl, hb3⟩
  have H3 := Lib.hid ((H2.out.drewN 1).next hb3)
  have HB3 := Lib.hid hb3
  clear hb3
  go_wp2_with fail
  refine hK.out _ _ ⟨H3.out.cells.1, H3.out.cells.2.2.1, H3.out.cells.2.2.2.1⟩ (fun hHeld => ?_)
  clear hK K
  try simp only [Act.put, List.setIfInBounds_toArray, List.set_cons_zero, List.set_cons_succ]
  refine wpAnyH_ready (rs := [14]) (by kernel_rfl) (by simp) ?_
  refine AllReadyH.cons (o := ⟨some 30, _, _, _, _, _⟩) rfl (fun K hK => ?_) AllReadyH.nil
  go_simp
  have H4 := Lib.hid (H3.out.next (bl w3 (.cells (modeF s').toArray 59)))
  refine hK.out _ _ ⟨H4.out.cells.1, H4.out.cells.2.2.1, H4.out.cells.2.2.2.1⟩ (fun hHeld => ?_)
  clear hK K
  try simp only [Act.put, List.setIfInBounds_toArray, List.set_cons_zero, List.set_cons_succ]
  refine wpAnyH_take (i := 15) (oi := ⟨some 4, _, _, _, _, _⟩) (v := ?_) rfl (by kernel_rfl) (by kernel_rfl) (by kernel_rfl) (fun _ _ _ h => h) (Or.inl ⟨by rfl, ?_⟩) (by assumption) ?_
  rotate_left
  ·(intro w hSw; (try dsimp only at hSw); go_simp; try (with_reducible rfl))
  try simp only [Act.put, List.setIfInBounds_toArray, List.set_cons_zero, List.set_cons_succ]
  refine wpAnyH_done (by kernel_rfl) ?_ _
  go_wp2_with fail
  go_meet
  refine ⟨_, rfl, Blk.mk w3 59 (mF s').cells, ?_, H4.out, ?_⟩
  ·have := HB3.out.size
   have := hsz.out
   exact Nat.le_trans this HB3.out.size
  ·exact Ric.gb_up (r := none) (only_drew HK2.out) (only_below (bt HB3.out (bl _ _)) none) (fun q hq => by cases hq)
 obtain ⟨b, rfl, hb, hle, hns, hgr⟩ := hcut
 have HBb := Lib.hid hb
 have HN := Lib.hid hns
 have HG := Lib.hid hgr
 obtain ⟨e0, _⟩ := hns.cells
 clear hb hns hgr
 go_wp2_with fail
 refine (hv _).mono ?_
 rintro e w' ⟨rfl, rfl⟩
 go_wp2_with fail
 go_ret
 exact ⟨b, rfl, HBb.out, hle, HN.out, HG.out⟩
end Nav
end
section
open Go.RowKit
namespace Nav
open Frm (Fr bytesF codeF put_any GotF infoFrame)
open Top (mF mF_good)
open Txt (bv bv_one)
set_option maxHeartbeats 1000000 in
theorem ntake_any (g s : Nat) (hs : s < 65536) (f : Fr) (w : World) (h : NS w g 4 s) : Calls Tryz.prog 65 #[.pointer (some ⟨g, 0, none⟩), f.v] w (GotTell w g s) := by
 have H := Lib.hid (h.next (bl w (.cells f.cells.toArray 59)))
 clear h
 change Calls _ _ #[_, .agg #[.int .i64 f.k, .int .u16 (f.q : Int), .int .u32 (f.t : Int), .int .i32 f.a, .int .i32 f.b, .int .i32 f.c]] _ _
 change Hid (NS (w.alloc (.cells #[.int .i64 f.k, .int .u16 (f.q : Int), .int .u32 (f.t : Int), .int .i32 f.a, .int .i32 f.b, .int .i32 f.c] 59)) g 4 s) at H
 obtain ⟨c0, _⟩ := H.out.cells
 have ht := tell_any g s hs _ H.out
 go_enter Tryz.func65, Tryz.ntmps65
 go_wp2_with fail
 refine ht.mono ?_
 rintro e w' ⟨b, rfl, hb, hle, hns, hg⟩
 have HF := Lib.hid (show GotTell w g s (.returned (.slice (some ⟨b, 0, none⟩) 1 1)) w' from ⟨b, rfl, hb, Nat.le_trans (by simp) hle, hns, only_trans (only_below (bl w _) _) hg⟩)
 clear hb hle hns hg
 go_wp2_with fail
 go_ret
 exact HF.out
structure DS (w : World) (g n : Nat) : Prop where
 ex : ∃ cs : List Value, Blk w g 91 cs ∧ cs.length = 13 ∧ cs[0]? = some (.pointer (some ⟨n, 0, none⟩)) ∧ ∀ i, 2 ≤ i → i < 13 → ∃ x : Int, cs[i]? = some (.int .i64 x)
theorem DS.lt {w : World} {g n : Nat} (h : DS w g n) : g < w.heap.size := by obtain ⟨cs, h, _⟩ := h.ex; exact h.lt
theorem DS.keep {w w' : World} {g n : Nat} (h : DS w g n) (hk : w'.heap[g]? = w.heap[g]?) : DS w' g n := by
 obtain ⟨cs, h, hr⟩ := h.ex
 exact ⟨cs, hk.trans h, hr⟩
theorem DS.next {w w' : World} {g n : Nat} (h : DS w g n) (hb : Below w.heap.size w w') : DS w' g n := h.keep (hb.block g h.lt)
theorem DS.grown {w w' : World} {g n : Nat} {r : Option Nat} (h : DS w g n) (hb : w.grownBy w' r) (hr : some g ≠ r) : DS w' g n := h.keep (hb.block g h.lt hr)
theorem DS.nav {w : World} {g n : Nat} (h : DS w g n) : w.cell? ⟨g, 0, none⟩ = some (.pointer (some ⟨n, 0, none⟩)) := by
 obtain ⟨cs, h, _, h0, _⟩ := h.ex
 exact (h.cell 0).trans h0
theorem DS.num {w : World} {g n : Nat} (h : DS w g n) (i : Nat) (h1 : 2 ≤ i) (h2 : i < 13) : (∃ x : Int, w.cell? ⟨g, i, none⟩ = some (.int .i64 x)) ∧ w.frozen? ⟨g, i, none⟩ = false := by
 obtain ⟨cs, h, _, _, h3⟩ := h.ex
 obtain ⟨x, hx⟩ := h3 i h1 h2
 exact ⟨⟨x, (h.cell i).trans hx⟩, h.free i⟩
theorem DS.put {w : World} {g n : Nat} (h : DS w g n) (i : Nat) (h1 : 2 ≤ i) (x : Int) : DS (w.setCell ⟨g, i, none⟩ (.int .i64 x)) g n := by
 obtain ⟨cs, h, hl, h0, h3⟩ := h.ex
 refine ⟨_, h.put i _, by rw [List.length_set]; exact hl, by rw [List.getElem?_set_ne (by omega)]; exact h0, fun j j1 j2 => ?_⟩
 by_cases e : i = j
 ·subst e
  exact ⟨x, by rw [List.getElem?_set_self (by omega)]⟩
 ·rw [List.getElem?_set_ne e]
  exact h3 j j1 j2
end Nav
end
section
open Go.RowKit
namespace Nav
open Frm (Fr bytesF codeF put_any GotF infoFrame)
open Top (mF mF_good mF_len)
open Txt (bv bv_one)
structure TS (w : World) (gd gn s gf : Nat) (cs : List Value) (wr : World) : Prop where
 ds : DS wr gd gn
 ns : NS wr gn 4 s
 bf : Blk wr gf 59 cs
 keep : Keeps2 w wr gd (some gn)
 ne : gd ≠ gn
 lt : w.heap.size ≤ gf
 gdl : gd < w.heap.size
theorem TS.next {w wr w' : World} {gd gn s gf : Nat} {cs : List Value} (h : TS w gd gn s gf cs wr) (hb : Below wr.heap.size wr w') : TS w gd gn s gf cs w' := ⟨h.ds.next hb, h.ns.next hb, h.bf.next hb, h.keep.next hb, h.ne, h.lt, h.gdl⟩
theorem TS.put {w wr : World} {gd gn s gf : Nat} {cs : List Value} (h : TS w gd gn s gf cs wr) (i : Nat) (h1 : 2 ≤ i) (x : Int) : TS w gd gn s gf cs (wr.setCell ⟨gd, i, none⟩ (.int .i64 x)) :=
 ⟨h.ds.put i h1 x, h.ns.far (p := ⟨gd, i, none⟩) (fun e => h.ne e.symm) _, h.bf.far (p := ⟨gd, i, none⟩) (by have := h.lt; have := h.gdl; show gf ≠ gd; omega) _, h.keep.set i _, h.ne, h.lt, h.gdl⟩
theorem TS.nav {w wr w' : World} {gd gn s s' gf b : Nat} {cs cs' : List Value} (h : TS w gd gn s gf cs wr) (hn : NS w' gn 4 s') (hg : wr.grownBy w' (some gn)) (hb : Blk w' b 59 cs') (hl : wr.heap.size ≤ b) : TS w gd gn s' b cs' w' :=
 ⟨h.ds.grown hg (fun e => h.ne (by injection e)), hn, hb, h.keep.grown hg (.inl rfl), h.ne, Nat.le_trans h.keep.size hl, h.gdl⟩
def GotTake (w : World) (gd gn s : Nat) (e : Ending) (w' : World) : Prop :=
 ∃ v, e = .returned v ∧ w'.ownsRow w.heap.size 5 1 v 20 ((bytesF (mF (nextS s))).map bv) ∧ DS w' gd gn ∧ NS w' gn 4 (nextS s) ∧ Keeps2 w w' gd (some gn)
theorem below_none {w w' : World} (h : w.grownBy w' none) : Below w.heap.size w w' := ⟨h.os, h.tape, h.output, h.size, fun k hk => h.block k hk (by simp)⟩
set_option maxRecDepth 100000 in
set_option maxHeartbeats 1000000 in
theorem take_any (gd gn s kk q t : Nat) (a b c : Int) (hs : s < 65536) (hk1 : 1 ≤ kk) (hk7 : kk ≤ 7) (w : World) (hd : DS w gd gn) (hn : NS w gn 4 s) (hne : gd ≠ gn) :
  Calls Tryz.prog 38 #[.pointer (some ⟨gd, 0, none⟩), .agg #[.int .i64 (kk : Int), .int .u16 (q : Int), .int .u32 (t : Int), .int .i32 a, .int .i32 b, .int .i32 c]] w (GotTake w gd gn s) := by
 have hT0 : TS w gd gn s w.heap.size [.int .i64 (kk : Int), .int .u16 (q : Int), .int .u32 (t : Int), .int .i32 a, .int .i32 b, .int .i32 c] (w.alloc (.cells ([.int .i64 (kk : Int), .int .u16 (q : Int), .int .u32 (t : Int), .int .i32 a, .int .i32 b, .int .i32 c] : List Value).toArray 59)) := ⟨hd.next (bl _ _), hn.next (bl _ _), Blk.mk _ _ _, (Keeps2.refl _ _ _).next (bl _ _), hne, Nat.le_refl _, hd.lt⟩
 obtain ⟨⟨x3, e3⟩, f3⟩ := hT0.ds.num 3 (by decide) (by decide)
 obtain ⟨y, hy⟩ : ∃ y, y = IntKind.i64.wrap (x3 + 1) := ⟨_, rfl⟩
 have HT1 := Lib.hid (hT0.put 3 (by decide) y)
 have hyy : IntKind.i64.wrap (x3 + 1) = y := hy.symm
 have hnt := fun (wz : World) (hz : NS wz gn 4 s) => ntake_any gn s hs ⟨kk, q, t, a, b, c⟩ wz hz
 change ∀ (wz : World) (hz : NS wz gn 4 s), Calls _ _ #[_, .agg #[.int .i64 (kk : Int), .int .u16 (q : Int), .int .u32 (t : Int), .int .i32 a, .int .i32 b, .int .i32 c]] _ _ at hnt
 clear hT0 hd hn hy
 go_enter Tryz.func38, Tryz.ntmps38
 go_wp2_with fail
 generalize (w.alloc _).setCell _ _ = w1 at *
 clear e3 f3 hyy
 have c0 := HT1.out.bf.cell 0
 obtain ⟨⟨x5, e5⟩, f5⟩ := HT1.out.ds.num (5 + kk) (by omega) (by omega)
 obtain ⟨y5, hy5⟩ : ∃ y, y = IntKind.i64.wrap (x5 + 1) := ⟨_, rfl⟩
 have HT2 := Lib.hid (HT1.out.put (5 + kk) (by omega) y5)
 have hyy : IntKind.i64.wrap (x5 + 1) = y5 := hy5.symm
 have l1 : (kk : Int) < 8 := by omega
 have l2 : kk < 8 := by omega
 clear hy5
 go_still_tail 11, (by kernel_rfl)
 change wpList _ _ _ _ _ w1.drew
 go_wp2_with fail
 have HT3 := Lib.hid (HT2.out.next (Below.refl _ _).drew)
 generalize (w1.setCell _ _).drew = w3 at *
 clear HT2 HT1 e5 f5 c0 hyy l1 l2
 have c0 := HT3.out.bf.cell 0
 have c1 := HT3.out.bf.cell 1
 have c2 := HT3.out.bf.cell 2
 have c3 := HT3.out.bf.cell 3
 have c4 := HT3.out.bf.cell 4
 have c5 := HT3.out.bf.cell 5
 have e0 := HT3.out.ds.nav
 go_upto_region 4 with fail
 go_cut [33, 34, 35] (fun s33 s34 s35 wx => ∃ bb, s33 = .slice (some ⟨bb, 0, none⟩) 1 1 ∧ s34 = .int .i64 1 ∧ s35 = .int .i64 0 ∧ TS w gd gn (nextS s) bb (mF (nextS s)).cells wx)
 case first =>
  have HT4 := Lib.hid (HT3.out.next (Below.refl _ _).drew)
  go_region_with (go_at_call 65; (with_reducible refine (hnt _ HT4.out.ns).mono ?_); rintro e w4 ⟨bb, rfl, hb4, hl4, hn4, hg4⟩)
  all_goals
   go_wp2_with fail
   go_meet
   exact ⟨bb, rfl, rfl, rfl, HT4.out.nav hn4 hg4 hb4 hl4⟩
 obtain ⟨bb, rfl, rfl, rfl, hx⟩ := hcut
 have HX := Lib.hid hx
 clear hx HT3 c0 c1 c2 c3 c4 c5 e0 hnt
 have hs' : nextS s < 65536 := Nat.mod_lt _ (by decide)
 obtain ⟨s', hse⟩ : ∃ x, x = nextS s := ⟨_, rfl⟩
 rw [← hse] at hs' HX
 have HSE := Lib.hid hse
 clear hse
 obtain ⟨i0, hi', hz0, hz1, hz2⟩ := info_parts Txt.infoByte
 obtain ⟨B, hB⟩ : ∃ B, B = bytesF (mF s') := ⟨_, rfl⟩
 have hBl : B.length = 20 := by rw [hB]; exact mF_len hs'
 have hput : ∀ wz : World, Calls Tryz.prog 66 #[.agg #[.int .i64 7, .int .u16 (s' : Int), .int .u32 0, .int .i32 4, .int .i32 0, .int .i32 0]] wz fun e w' => ∃ A c, e = .returned (.tuple #[.slice A 20 c, .int .i64 0]) ∧ (A = none → 20 = 0 ∧ c = 0) ∧ RdL w' wz.heap.size w'.heap.size A (B.map bv) ∧ Below wz.heap.size wz w' := fun wz => by
  refine (put_any (mF s') (mF_good hs').1 wz).mono ?_
  rintro e w' ⟨⟨v, rfl, ho, _⟩, hb⟩
  have ho' := ho (mF_good hs').2
  rw [← hB] at ho'
  obtain ⟨A, c, rfl, hr, _, _, hA⟩ := own_rd ho'
  rw [hBl] at hA ⊢
  exact ⟨A, c, by rw [(mF_good hs').2], hA, hr, hb⟩
 have HBl := Lib.hid hBl
 have HB := Lib.hid hB
 clear hB hBl
 go_wp2_with fail
 go_loopw [5, 35] (fun v u wr => ∃ i : Nat, i ≤ 1 ∧ u = .int .i64 (i : Int) ∧ TS w gd gn s' bb (mF s').cells wr ∧ (i = 0 → v = .slice none 0 0) ∧ (i = 1 → wr.ownsRow w.heap.size 5 1 v 20 (B.map bv))) (fun _ u _ => 1 - (intOf u).toNat)
 case atStart => exact ⟨0, by decide, rfl, HX.out, fun _ => rfl, fun h => absurd h (by decide)⟩
 case round =>
  clear HX
  obtain ⟨i, hi, rfl, hx, h0, h1⟩ := hrel
  have HX := Lib.hid hx
  have hc : i = 0 ∨ i = 1 := by omega
  rcases hc with rfl | rfl
  ·obtain rfl := h0 rfl
   clear h0 h1 hi
   have c0 : wr.cell? ⟨bb, 0, none⟩ = some (.int .i64 7) := hx.bf.cell 0
   have c1 : wr.cell? ⟨bb, 1, none⟩ = some (.int .u16 (s' : Int)) := hx.bf.cell 1
   have c2 : wr.cell? ⟨bb, 2, none⟩ = some (.int .u32 0) := hx.bf.cell 2
   have c3 : wr.cell? ⟨bb, 3, none⟩ = some (.int .i32 4) := hx.bf.cell 3
   have c4 : wr.cell? ⟨bb, 4, none⟩ = some (.int .i32 0) := hx.bf.cell 4
   have c5 : wr.cell? ⟨bb, 5, none⟩ = some (.int .i32 0) := hx.bf.cell 5
   clear hx
   go_wp2_with fail
   have HX1 := Lib.hid (HX.out.next (bl wr (.cells #[.int .i64 7, .int .u16 (s' : Int), .int .u32 0, .int .i32 4, .int .i32 0, .int .i32 0] 59)))
   refine (hput _).mono ?_
   rintro e w5 ⟨A5, cap5, rfl, hA5, hr5, hb5⟩
   have HX2 := Lib.hid (HX1.out.next hb5)
   have HR5 := Lib.hid hr5
   have HA5 := Lib.hid hA5
   clear hb5 hr5 hA5 HX1 c0 c1 c2 c3 c4 c5 hput
   go_wp2_with (at_builtin; refine wpList_append_mine rfl (.tmp 46) (.tmp 47) 35 rfl w.heap.size 5 i0 (.int .u8 0) 1 1 Tryz.underlying35 hi' hz0 hz1 hz2 rfl (by decide) (.slice none 0 0) 0 [] rfl (World.ownsRow_nil _ _ _ _) A5 20 cap5 (B.map bv) rfl (by rw [List.length_map, HBl.out]) HA5.out HR5.out.news (bv_one _) (by decide) (by decide) HX2.out.keep.size ?_; intro v6 w6 hown6 hgrow6 _; rw [Nat.zero_add, List.nil_append] at hown6; have HX6 := Lib.hid (HX2.out.next (below_none hgrow6)); have HO6 := Lib.hid hown6; obtain ⟨⟨x4, e4⟩, f4⟩ := HX6.out.ds.num 4 (by decide) (by decide); clear hown6 hgrow6)
   exact ⟨⟨1, by decide, rfl, HX6.out.put 4 (by decide) _, fun h => absurd h (by decide), fun _ => own_same HO6.out (fun k hk => Below.heap_setCell w6 ⟨gd, 4, none⟩ _ k (fun e => by have := (own_lt HO6.out hk).1; have := HX6.out.gdl; have e' : k = gd := e; omega))⟩, by simp [intOf]⟩
  ·have H1 := Lib.hid (h1 rfl)
   clear h0 h1 hi hx
   go_wp2_with fail
   go_ret
   have hfin : ∀ v, wr.ownsRow w.heap.size 5 1 v 20 (B.map bv) → GotTake w gd gn s (.returned v) wr := fun v hv => ⟨v, rfl, by rw [← HSE.out, ← HB.out]; exact hv, HX.out.ds, by rw [← HSE.out]; exact HX.out.ns, HX.out.keep⟩
   exact hfin _ H1.out
end Nav
end
section
open Go.RowKit
namespace Nav
open Frm (Fr bytesF codeF put_any GotF infoFrame FeedD pushd_any GotPushD frs feedL)
open Top (mF mF_good mF_len tellB tellB_len tellB_succ Good feed_good)
open Txt (bv bv_one)
structure PS (W Wf : World) (gd gn n : Nat) (v : Value) (wr : World) : Prop where
 ds : DS wr gd gn
 ns : NS wr gn 4 (n % 65536)
 bd : Blk wr W.heap.size 46 [.pointer (some ⟨gd, 0, none⟩)]
 bo : Blk wr (W.heap.size + 1) 35 [v]
 own : wr.ownsRow Wf.heap.size 5 1 v (20 * n) ((tellB n).map bv)
 sz : Wf.heap.size ≤ wr.heap.size
 hB : W.heap.size + 2 ≤ Wf.heap.size
 mid : ∀ k, W.heap.size + 2 ≤ k → k < Wf.heap.size → wr.heap[k]? = Wf.heap[k]?
 keep : Keeps2 W wr gd (some gn)
 ne : gd ≠ gn
 gdl : gd < W.heap.size
 gnl : gn < W.heap.size
theorem PS.next {W Wf wr w' : World} {gd gn n : Nat} {v : Value} (h : PS W Wf gd gn n v wr) (hb : Below wr.heap.size wr w') : PS W Wf gd gn n v w' :=
 ⟨h.ds.next hb, h.ns.next hb, h.bd.next hb, h.bo.next hb, own_next h.own hb, Nat.le_trans h.sz hb.size, h.hB, fun k h1 h2 => (hb.block k (Nat.lt_of_lt_of_le h2 h.sz)).trans (h.mid k h1 h2), h.keep.next hb, h.ne, h.gdl, h.gnl⟩
theorem keeps2_trans {a b c : World} {g : Nat} {r : Option Nat} (h : Keeps2 a b g r) (k : Keeps2 b c g r) : Keeps2 a c g r :=
 ⟨k.os.trans h.os, k.tape.trans h.tape, k.output.trans h.output, Nat.le_trans h.size k.size, fun i h1 h2 h3 => (k.block i (Nat.lt_of_lt_of_le h1 h.size) h2 h3).trans (h.block i h1 h2 h3)⟩
theorem PS.took {W Wf wr w' : World} {gd gn n s : Nat} {v : Value} (h : PS W Wf gd gn n v wr) (hd : DS w' gd gn) (hn : NS w' gn 4 s) (hs : s = nextS (n % 65536)) (hk : Keeps2 wr w' gd (some gn)) :
  NS w' gn 4 ((n + 1) % 65536) ∧ w'.heap[W.heap.size]? = wr.heap[W.heap.size]? ∧ w'.heap[W.heap.size + 1]? = wr.heap[W.heap.size + 1]? ∧ w'.ownsRow Wf.heap.size 5 1 v (20 * n) ((tellB n).map bv) ∧ (∀ k, W.heap.size + 2 ≤ k → k < Wf.heap.size → w'.heap[k]? = Wf.heap[k]?) ∧ Keeps2 W w' gd (some gn) := by
 have b1 := h.bd.lt
 have b2 := h.bo.lt
 have g1 := h.gdl
 have g2 := h.gnl
 have g3 := h.hB
 have g4 := h.sz
 refine ⟨by rw [hs] at hn; unfold nextS at hn; rwa [show (n % 65536 + 1) % 65536 = (n + 1) % 65536 by omega] at hn, hk.block _ b1 (by omega) (fun e => by injection e with e; omega), hk.block _ b2 (by omega) (fun e => by injection e with e; omega), ?_, fun k h1 h2 => (hk.block k (by omega) (by omega) (fun e => by injection e with e; omega)).trans (h.mid k h1 h2), keeps2_trans h.keep hk⟩
 exact own_same h.own (fun k hq => by
  obtain ⟨l1, l2⟩ := own_lt h.own hq
  exact hk.block k l2 (by omega) (fun e => by injection e with e; omega))
def GotEach (W Wf : World) (gd gn n : Nat) (e : Ending) (w' : World) : Prop := e = .returned (.tuple #[]) ∧ ∃ v, PS W Wf gd gn n v w'
set_option maxRecDepth 100000 in
set_option maxHeartbeats 1000000 in
theorem push1_any (W Wf : World) (gd gn n kk q t : Nat) (a b c : Int) (hk1 : 1 ≤ kk) (hk7 : kk ≤ 7) (hn : n ≤ 10000) (v : Value) (w : World) (h : PS W Wf gd gn n v w) :
  Calls Tryz.prog 37 #[.agg #[.int .i64 (kk : Int), .int .u16 (q : Int), .int .u32 (t : Int), .int .i32 a, .int .i32 b, .int .i32 c], .pointer (some ⟨W.heap.size + 1, 0, none⟩), .pointer (some ⟨W.heap.size, 0, none⟩)] w (GotEach W Wf gd gn (n + 1)) := by
 obtain ⟨i0, hi', hz0, hz1, hz2⟩ := info_parts Txt.infoByte
 have HP := Lib.hid (h.next (bl w (.cells #[.int .i64 (kk : Int), .int .u16 (q : Int), .int .u32 (t : Int), .int .i32 a, .int .i32 b, .int .i32 c] 59)))
 have HB := Lib.hid (Blk.mk w 59 [.int .i64 (kk : Int), .int .u16 (q : Int), .int .u32 (t : Int), .int .i32 a, .int .i32 b, .int .i32 c])
 have htk := fun (wz : World) (hd : DS wz gd gn) (hz : NS wz gn 4 (n % 65536)) => take_any gd gn (n % 65536) kk q t a b c (Nat.mod_lt _ (by decide)) hk1 hk7 wz hd hz h.ne
 have HW : Hid (W.heap.size + 1 < w.heap.size) := Lib.hid h.bo.lt
 have HOW := Lib.hid h.own
 have HSZ := Lib.hid h.sz
 clear h
 go_enter Tryz.func37, Tryz.ntmps37
 go_wp2_with fail
 generalize w.alloc _ = w1 at *
 have HPd := Lib.hid (HP.out.next (Below.refl _ _).drew)
 have HBd : Hid (Blk w1.drew _ _ _) := Lib.hid HB.out.drew
 refine wp_region_any (by kernel_rfl) ?_
 change wpAny _ _ _ _ _ _ _ w1.drew
 refine wpAny_split 5 (L := #[false, false, false, false, false]) (f := 5) (S := fun w' => w'.cell? ⟨W.heap.size + 1, 0, none⟩ = some v ∧ w'.cell? ⟨W.heap.size, 0, none⟩ = some (.pointer (some ⟨gd, 0, none⟩)) ∧ w'.cell? ⟨w.heap.size, 0, none⟩ = some (.int .i64 (kk : Int)) ∧ w'.cell? ⟨w.heap.size, 1, none⟩ = some (.int .u16 (q : Int)) ∧ w'.cell? ⟨w.heap.size, 2, none⟩ = some (.int .u32 (t : Int)) ∧ w'.cell? ⟨w.heap.size, 3, none⟩ = some (.int .i32 a) ∧ w'.cell? ⟨w.heap.size, 4, none⟩ = some (.int .i32 b) ∧ w'.cell? ⟨w.heap.size, 5, none⟩ = some (.int .i32 c)) (by kernel_rfl) ⟨HPd.out.bo.cell 0, HPd.out.bd.cell 0, HBd.out.cell 0, HBd.out.cell 1, HBd.out.cell 2, HBd.out.cell 3, HBd.out.cell 4, HBd.out.cell 5⟩ (fun hHeld => ?_)
 simp only [List.take_succ_cons, List.take_zero, List.drop_succ_cons, List.drop_zero]
 refine wpAnyH_take (i := 0) (oi := ⟨some 4, _, _, _, _, _⟩) (v := ?_) rfl (by kernel_rfl) (by kernel_rfl) (by kernel_rfl) (fun _ _ _ h => h) (Or.inl ⟨by rfl, ?_⟩) (by assumption) ?_
 rotate_left
 ·(intro w hSw; (try dsimp only at hSw); go_simp; try (with_reducible rfl))
 try simp only [Act.put, List.setIfInBounds_toArray, List.set_cons_zero, List.set_cons_succ]
 refine wpAnyH_take (i := 1) (oi := ⟨some 5, _, _, _, _, _⟩) (v := ?_) rfl (by kernel_rfl) (by kernel_rfl) (by kernel_rfl) (fun _ _ _ h => h) (Or.inl ⟨by rfl, ?_⟩) (by assumption) ?_
 rotate_left
 ·(intro w hSw; (try dsimp only at hSw); go_simp; try (with_reducible rfl))
 try simp only [Act.put, List.setIfInBounds_toArray, List.set_cons_zero, List.set_cons_succ]
 refine wpAnyH_take (i := 2) (oi := ⟨some 6, _, _, _, _, _⟩) (v := ?_) rfl (by kernel_rfl) (by kernel_rfl) (by kernel_rfl) (fun _ _ _ h => h) (Or.inl ⟨by rfl, ?_⟩) (by assumption) ?_
 rotate_left
 ·(intro w hSw; (try dsimp only at hSw); go_simp; try (with_reducible rfl))
 try simp only [Act.put, List.setIfInBounds_toArray, List.set_cons_zero, List.set_cons_succ]
 refine wpAnyH_ready (rs := [3]) (by kernel_rfl) (by simp) ?_
 refine AllReadyH.cons (o := ⟨some 7, _, _, _, _, _⟩) rfl (fun K hK => ?_) AllReadyH.nil
 go_simp
 refine (htk _ HPd.out.ds HPd.out.ns).mono ?_
 rintro e w3 ⟨v3, rfl, ho3, hd3, hn3, hk3⟩
 have hml : (bytesF (mF (nextS (n % 65536)))).length = 20 := mF_len (Nat.mod_lt _ (by decide))
 have hsuc : tellB (n + 1) = tellB n ++ bytesF (mF (nextS (n % 65536))) := by rw [tellB_succ]; unfold nextS; rw [show (n % 65536 + 1) % 65536 = (n + 1) % 65536 by omega]
 obtain ⟨hn', hbd', hbo', hown', hmid', hkeep'⟩ := HPd.out.took hd3 hn3 rfl hk3
 generalize bytesF (mF (nextS (n % 65536))) = B at *
 obtain ⟨A3, c3, rfl, hr3, _, _, _⟩ := own_rd ho3
 obtain ⟨b3, o3, rfl, hb3, hb3', hb3'', _⟩ := hr3.some (by rw [List.length_map, hml]; decide)
 have hWw : W.heap.size ≤ w1.drew.heap.size := HPd.out.keep.size
 have hgl := HPd.out.gdl
 have hgn := HPd.out.gnl
 have hf1 := HBd.out.lt
 have hWf : W.heap.size + 1 < w1.drew.heap.size := HPd.out.bo.lt
 have hwf : W.heap.size + 1 < w.heap.size := HW.out
 have hbf := hk3.block w.heap.size hf1 (by omega) (fun e => by injection e with e; omega)
 have Hd3 := Lib.hid hd3
 have Hn3 := Lib.hid hn'
 have Hown := Lib.hid hown'
 have Hkeep := Lib.hid hkeep'
 have Hbd := Lib.hid (show Blk w3 W.heap.size 46 [.pointer (some ⟨gd, 0, none⟩)] from hbd'.trans HPd.out.bd)
 have Hbo := Lib.hid (show Blk w3 (W.heap.size + 1) 35 [v] from hbo'.trans HPd.out.bo)
 have Hr3 := Lib.hid hr3
 have hWB := HPd.out.hB
 have hWs : Wf.heap.size ≤ w.heap.size := HSZ.out
 have Hmid := Lib.hid hmid'
 have hvl : ∀ k, v.ownBlock = some k → Wf.heap.size ≤ k ∧ k < w.heap.size := fun k hk => ⟨(own_lt hown' hk).1, (own_lt HOW.out hk).2⟩
 have hsz3 : Wf.heap.size ≤ w3.heap.size := Nat.le_trans HPd.out.sz hk3.size
 clear hd3 hn3 hown' hkeep' hr3 ho3 hmid'
 go_wp2_with fail
 refine hK.out _ _ ⟨(Ric.cell_of hbo').trans hHeld.1, (Ric.cell_of hbd').trans hHeld.2.1, (Ric.cell_of hbf).trans hHeld.2.2.1, (Ric.cell_of hbf).trans hHeld.2.2.2.1, (Ric.cell_of hbf).trans hHeld.2.2.2.2.1, (Ric.cell_of hbf).trans hHeld.2.2.2.2.2.1, (Ric.cell_of hbf).trans hHeld.2.2.2.2.2.2.1, (Ric.cell_of hbf).trans hHeld.2.2.2.2.2.2.2⟩ (fun hHeld => ?_)
 clear hK K
 try simp only [Act.put, List.setIfInBounds_toArray, List.set_cons_zero, List.set_cons_succ]
 have hf3 : w.heap.size < w3.heap.size := Nat.lt_of_lt_of_le hf1 hk3.size
 clear hbo' hbd' hbf hk3
 refine wpAnyH_ready (rs := [4]) (by kernel_rfl) (by simp) ?_
 refine AllReadyH.cons (o := ⟨some 8, _, _, _, _, _⟩) rfl (fun K hK => ?_) AllReadyH.nil
 refine step_append_lies _ (by rfl) _ _ _ (by rfl) Wf.heap.size 5 i0 _ 1 1 (by kernel_rfl) hi' hz0 hz1 hz2 rfl (by omega) v (20 * n) ((tellB n).map bv) (by rfl) Hown.out ⟨b3, o3, none⟩ 20 c3 (B.map bv) (by rfl) (by rw [List.length_map, hml]) (Hr3.out.news _ rfl) (bv_one _) (by decide) (by simp only [maxLen]; omega) (by omega) hsz3 _ rfl ?_
 intro gg cc w4 hown4 hgrow4 hat4 hlt4
 have kb : ∀ k, k < w3.heap.size → (k < Wf.heap.size ∨ w.heap.size ≤ k) → w4.heap[k]? = w3.heap[k]? := fun k h1 h2 => hgrow4.block k h1 (fun e => by have := hvl k e.symm; omega)
 have q1 := kb (W.heap.size + 1) (by omega) (.inl (by omega))
 have q0 := kb W.heap.size (by omega) (.inl (by omega))
 have qf := kb w.heap.size hf3 (.inr (Nat.le_refl _))
 refine hK.out _ _ ⟨(Ric.cell_of q1).trans hHeld.1, (Ric.cell_of q0).trans hHeld.2.1, (Ric.cell_of qf).trans hHeld.2.2.1, (Ric.cell_of qf).trans hHeld.2.2.2.1, (Ric.cell_of qf).trans hHeld.2.2.2.2.1, (Ric.cell_of qf).trans hHeld.2.2.2.2.2.1, (Ric.cell_of qf).trans hHeld.2.2.2.2.2.2.1, (Ric.cell_of qf).trans hHeld.2.2.2.2.2.2.2⟩ (fun hHeld => ?_)
 clear hK K
 try simp only [Act.put, List.setIfInBounds_toArray, List.set_cons_zero, List.set_cons_succ]
 have hgg : Wf.heap.size ≤ gg := by
  rcases hat4 with e | e
  ·exact (hvl gg e).1
  ·omega
 have hb4 : Blk w4 (W.heap.size + 1) 35 [v] := q1.trans Hbo.out
 have f4 := hb4.free 0
 have e4 : w4.cell? ⟨W.heap.size + 1, 0, none⟩ = some v := hb4.cell 0
 have gd4 := Hd3.out.lt
 have gn4 := Hn3.out.lt
 have hfin : ∃ v', PS W Wf gd gn (n + 1) v' (w4.setCell ⟨W.heap.size + 1, 0, none⟩ (.slice (some ⟨gg, 0, none⟩) (20 * n + 20) cc)) := by
  refine ⟨.slice (some ⟨gg, 0, none⟩) (20 * n + 20) cc, (Hd3.out.keep (kb gd gd4 (.inl (by omega)))).keep (Below.heap_setCell w4 ⟨W.heap.size + 1, 0, none⟩ _ gd (by show gd ≠ W.heap.size + 1; omega)), (Hn3.out.keep (kb gn gn4 (.inl (by omega)))).far (p := ⟨W.heap.size + 1, 0, none⟩) (by show gn ≠ W.heap.size + 1; omega) _,
   (show Blk w4 W.heap.size _ _ from q0.trans Hbd.out).far (p := ⟨W.heap.size + 1, 0, none⟩) (by show W.heap.size ≠ W.heap.size + 1; omega) _, hb4.put 0 _, ?_, by have := hgrow4.size; simp; omega, hWB, fun k h1 h2 => (Below.heap_setCell w4 ⟨W.heap.size + 1, 0, none⟩ _ k (by show k ≠ W.heap.size + 1; omega)).trans ((kb k (by omega) (.inl h2)).trans (Hmid.out k h1 h2)), ?_, HPd.out.ne, hgl, hgn⟩
  ·rw [hsuc, List.map_append, show 20 * (n + 1) = 20 * n + 20 by omega]
   exact own_same hown4 (fun k hk => Below.heap_setCell w4 ⟨W.heap.size + 1, 0, none⟩ _ k (fun e => by have := (own_lt hown4 hk).1; have e' : k = W.heap.size + 1 := e; omega))
  ·have := Hkeep.out.grown hgrow4 (.inr fun k hk => by have := (hvl k hk).1; omega)
   exact ⟨this.os, this.tape, this.output, by simpa using this.size, fun k h1 h2 h3 => (Below.heap_setCell w4 ⟨W.heap.size + 1, 0, none⟩ _ k (by show k ≠ W.heap.size + 1; omega)).trans (this.block k h1 h2 h3)⟩
 have HFIN := Lib.hid hfin
 clear hfin hown4 hgrow4 q1 q0 qf kb hb4 Hd3 Hn3 Hown Hkeep Hbd Hbo Hr3 hHeld
 refine wpAnyH_done (by kernel_rfl) ?_ _
 change wpList _ _ _ _ _ _
 go_wp2_with fail
 go_end0
 exact ⟨rfl, HFIN.out⟩
end Nav
end
section
open Go.RowKit
namespace Nav
open Frm (Fr bytesF codeF put_any GotF infoFrame FeedD pushd_any GotPushD frs feedL)
open Top (mF mF_good mF_len tellB tellB_len tellB_succ Good feed_good)
open Txt (bv bv_one)
set_option maxRecDepth 100000 in
set_option maxHeartbeats 1000000 in
theorem each_any (W Wf : World) (gd gn N cap lo : Nat) (A : Option Addr) (fs : List Fr) (hN : fs.length = N) (hl : N ≤ 10000) (hfs : ∀ f ∈ fs, 1 ≤ f.k ∧ f.k ≤ 7) (hlo : W.heap.size + 2 ≤ lo) (hrd : RdL Wf lo Wf.heap.size A (frs fs)) (v0 : Value) (w : World) (h : PS W Wf gd gn 0 v0 w) :
  Calls Tryz.prog 39 #[.slice A N cap, .func (.func 37) #[] #[.pointer (some ⟨W.heap.size + 1, 0, none⟩), .pointer (some ⟨W.heap.size, 0, none⟩)]] w (GotEach W Wf gd gn N) := by
 have H := Lib.hid h
 have HN := Lib.hid hN
 have HF := Lib.hid hfs
 have HR := Lib.hid hrd
 clear h hN hfs hrd
 go_enter Tryz.func39, Tryz.ntmps39
 go_wp2_with fail
 go_loopw [8] (fun u wr => ∃ (i : Nat) (v : Value), i ≤ N ∧ u = .int .i64 (i : Int) ∧ PS W Wf gd gn i v wr) (fun u _ => N - (intOf u).toNat)
 case atStart => exact ⟨0, v0, Nat.zero_le _, rfl, H.out⟩
 case round =>
  clear H
  obtain ⟨i, v, hi, rfl, S⟩ := hrel
  have HS := Lib.hid S
  by_cases hlt : i < N
  ·have d0 : decide ((i : Int) < (N : Int)) = true := decide_eq_true (by omega)
   have d0' : decide (i < N) = true := decide_eq_true hlt
   have hltI : (i : Int) < (N : Int) := by omega
   have hil : i < fs.length := by rw [HN.out]; exact hlt
   have hr : RdL wr lo Wf.heap.size A (frs fs) := HR.out.keep S.sz (fun b h1 h2 _ => S.mid b (by omega) h2)
   obtain ⟨b, off, rfl, _, _, _, _⟩ := hr.some (by rw [Frm.frs_len]; omega)
   have he := RdL.elem Fr.cells 6 (fun _ => rfl) hr hil
   obtain ⟨hk1, hk7⟩ := HF.out _ (List.getElem_mem hil)
   generalize fs[i] = f at *
   obtain ⟨k, q, t, a, b', c⟩ := f
   dsimp only at hk1 hk7
   obtain ⟨kk, rfl⟩ : ∃ kk : Nat, k = (kk : Int) := ⟨k.toNat, by omega⟩
   have e0 : wr.cell? ⟨b, off + i * 6 + 0, none⟩ = some (.int .i64 (kk : Int)) := he 0 _ (by decide) rfl
   have e1 : wr.cell? ⟨b, off + i * 6 + 1, none⟩ = some (.int .u16 (q : Int)) := he 1 _ (by decide) rfl
   have e2 : wr.cell? ⟨b, off + i * 6 + 2, none⟩ = some (.int .u32 (t : Int)) := he 2 _ (by decide) rfl
   have e3 : wr.cell? ⟨b, off + i * 6 + 3, none⟩ = some (.int .i32 a) := he 3 _ (by decide) rfl
   have e4 : wr.cell? ⟨b, off + i * 6 + 4, none⟩ = some (.int .i32 b') := he 4 _ (by decide) rfl
   have e5 : wr.cell? ⟨b, off + i * 6 + 5, none⟩ = some (.int .i32 c) := he 5 _ (by decide) rfl
   have HP := Lib.hid (S.next (bl wr (.cells #[.int .i64 (kk : Int), .int .u16 (q : Int), .int .u32 (t : Int), .int .i32 a, .int .i32 b', .int .i32 c] 59)))
   rw [Nat.add_zero] at e0
   have hp1 := push1_any W Wf gd gn i kk q t a b' c (by omega) (by omega) (by omega) v _ HP.out
   clear he hr S hil
   go_wp2_with fail
   refine hp1.mono ?_
   rintro e w' ⟨rfl, v', hps⟩
   have HPS := Lib.hid hps
   clear hps hp1 HP HS e0 e1 e2 e3 e4 e5
   go_wp2_with fail
   exact ⟨⟨i + 1, v', by omega, by go_num, HPS.out⟩, by simp [intOf]; omega⟩
  ·obtain rfl : i = N := by omega
   have d0 : decide ((i : Int) < (i : Int)) = false := decide_eq_false (by omega)
   have d0' : decide (i < i) = false := decide_eq_false hlt
   clear S
   go_wp2_with fail
   go_end0
   exact ⟨rfl, v, HS.out⟩
def tl0 : List Value := List.replicate 10 (.int .i64 0)
theorem ds_of {w : World} {gd gn : Nat} {v : Value} {x : Int} (h : Blk w gd 91 (.pointer (some ⟨gn, 0, none⟩) :: v :: .int .i64 x :: tl0)) : DS w gd gn := by
 refine ⟨_, h, by simp [tl0], rfl, fun i h1 h2 => ?_⟩
 match i, h1 with
 | 2, _ => exact ⟨x, rfl⟩
 | j + 3, _ => exact ⟨0, (by show tl0[j]? = _; unfold tl0; rw [List.getElem?_replicate, if_pos (by omega)])⟩
def GotDP (w : World) (gd gn : Nat) (M : List UInt8) (e : Ending) (w' : World) : Prop :=
 ∃ v, e = .returned v ∧ w'.ownsRow w.heap.size 5 1 v (20 * (feedL M 0).1.length) ((tellB (feedL M 0).1.length).map bv) ∧ DS w' gd gn ∧ NS w' gn 4 ((feedL M 0).1.length % 65536) ∧ Keeps2 w w' gd (some gn)
set_option maxRecDepth 100000 in
set_option maxHeartbeats 1000000 in
theorem dpush_any (gd gn : Nat) (A : Option Addr) (M : List UInt8) (m cap lo hi : Nat) (w : World) (hb : Blk w gd 91 (.pointer (some ⟨gn, 0, none⟩) :: .slice none 0 0 :: .int .i64 0 :: tl0)) (hns : NS w gn 4 0) (hne : gd ≠ gn)
  (h : RdL w lo hi A (M.map bv)) (hm : M.length = m) (hA : A = none → m = 0 ∧ cap = 0) (hlen : m ≤ 2000) :
  Calls Tryz.prog 13 #[.pointer (some ⟨gd, 0, none⟩), .slice A m cap] w (GotDP w gd gn M) := by
 have hgl := hb.lt
 have hnl := hns.lt
 have hbd0 := Blk.mk w 46 [.pointer (some ⟨gd, 0, none⟩)]
 have hbo0 := Blk.mk (w.alloc (.cells #[.pointer (some ⟨gd, 0, none⟩)] 46)) 35 [.slice none 0 0]
 rw [World.size_alloc] at hbo0
 have hk2 : Below w.heap.size w ((w.alloc (.cells #[.pointer (some ⟨gd, 0, none⟩)] 46)).alloc (.cells #[.slice none 0 0] 35)) := bt (bl _ _) (bl _ _)
 have hbd2 := hbd0.alloc (.cells #[.slice none 0 0] 35)
 have hb2 := hb.next hk2
 have hns2 := hns.next hk2
 have hr2 := h.next hk2
 have hsz2 : ((w.alloc (.cells #[.pointer (some ⟨gd, 0, none⟩)] 46)).alloc (.cells #[.slice none 0 0] 35)).heap.size = w.heap.size + 2 := by simp
 have hfeed : FeedD (.pointer (some ⟨gn, 0, none⟩)) tl0 ((w.alloc (.cells #[.pointer (some ⟨gd, 0, none⟩)] 46)).alloc (.cells #[.slice none 0 0] 35)) gd (.slice none 0 0) [] 0 := ⟨hb2, World.ownsRow_nil _ _ _ _⟩
 have hpu := pushd_any (.pointer (some ⟨gn, 0, none⟩)) tl0 gd (.slice none 0 0) [] 0 A M m cap lo hi _ hfeed hr2 hm hA (by simp; omega) (by decide)
 have HBD := Lib.hid hbd2
 have HBO := Lib.hid hbo0
 have HNS := Lib.hid hns2
 have HK2 := Lib.hid hk2
 have HSZ := Lib.hid hsz2
 have HM := Lib.hid hm
 have c0 := hbd2.cell 0
 clear hb hns h hbd0 hbo0 hk2 hbd2 hb2 hns2 hr2 hsz2 hfeed hm
 go_enter Tryz.func13, Tryz.ntmps13
 go_wp2_with fail
 refine hpu.mono ?_
 rintro e w3 ⟨out, v', rfl, hout, hfd, _, _, hke⟩
 rw [List.nil_append] at hout hfd
 obtain ⟨hgood, hlenf⟩ := feed_good M _ 0 (Nat.le_refl _)
 obtain ⟨fs, hfs⟩ : ∃ fs, fs = (feedL M 0).1 := ⟨_, rfl⟩
 rw [← hfs] at hout hgood hlenf
 have HFS := Lib.hid hfs
 obtain ⟨A3, c3, rfl, hr3, _, _, _⟩ := own_rd hout
 have hps : PS w w3 gd gn 0 (.slice none 0 0) w3 := by
  have kb : ∀ k, k < w.heap.size + 2 → k ≠ gd → w3.heap[k]? = _ := fun k h1 h2 => hke.block k (by rw [HSZ.out]; exact h1) h2 (by simp [Value.ownBlock])
  exact ⟨ds_of hfd.blk, HNS.out.keep (kb gn (by omega) (fun e => hne e.symm)), (kb w.heap.size (by omega) (by omega)).trans HBD.out, (kb (w.heap.size + 1) (by omega) (by omega)).trans HBO.out, World.ownsRow_nil _ _ _ _, Nat.le_refl _, by have := hke.size; rw [HSZ.out] at this; exact this, fun k h1 h2 => rfl,
   ⟨hke.os.trans HK2.out.os, hke.tape.trans HK2.out.tape, hke.output.trans HK2.out.output, Nat.le_trans HK2.out.size hke.size, fun k h1 h2 h3 => (kb k (by omega) h2).trans (HK2.out.block k h1)⟩, hne, hgl, hnl⟩
 have hsz3 : w.heap.size + 2 ≤ w3.heap.size := hps.hB
 have hea := each_any w w3 gd gn fs.length c3 (w.heap.size + 2) A3 fs rfl (by rw [HM.out] at hlenf; omega) (fun f hf => (hgood f hf).2) (Nat.le_refl _) (by rw [HSZ.out] at hr3; exact hr3) _ w3 hps
 clear hps hr3 hout hfd hke hpu c0 hfs
 go_wp2_with fail
 refine hea.mono ?_
 rintro e w4 ⟨rfl, v4, hps⟩
 have HPS := Lib.hid hps
 have c1 := hps.bo.cell 0
 clear hea hps
 go_wp2_with fail
 go_ret
 refine ⟨v4, rfl, ?_, HPS.out.ds, ?_, HPS.out.keep⟩
 ·rw [← HFS.out]; exact own_down HPS.out.own (by omega)
 ·rw [← HFS.out]; exact HPS.out.ns
end Nav
end
section
open Go.RowKit
namespace Nav
open Cht (getC)
open Txt (bv bv_one)
def GotDN (w : World) (L : List UInt8) (x y : Int) (e : Ending) (w' : World) : Prop :=
 ∃ gd gn, e = .returned (.tuple #[.pointer (some ⟨gd, 0, none⟩), .int .i64 0]) ∧ Blk w' gd 91 (.pointer (some ⟨gn, 0, none⟩) :: .slice none 0 0 :: .int .i64 0 :: tl0) ∧ NS w' gn (modeN L x y) 0 ∧ gd ≠ gn ∧ w.heap.size ≤ gd ∧ w.heap.size ≤ gn ∧ Below w.heap.size w w'
set_option maxRecDepth 100000 in
set_option maxHeartbeats 4000000 in
theorem dnew_any (r0 r1 r2 r3 m0 m1 m2 m3 m4 m5 n0 n1 n2 far stp gap need meas away num den tms spr x y : Int) (hck : ∀ w, Calls Tryz.prog 14 #[.agg (cfL r0 r1 r2 r3 m0 m1 m2 m3 m4 m5 n0 n1 n2 far stp gap need meas away num den tms spr).toArray] w fun e w' => e = .returned (.int .i64 0) ∧ Below w.heap.size w w')
  (A : Option Addr) (L : List UInt8) (n cap lo hi : Nat) (w : World) (h : RdL w lo hi A (L.map bv)) (hhi : hi ≤ w.heap.size) (hn : L.length = n) (hl : n ≤ 100000) (hcap : n ≤ cap) (hA : A = none → n = 0 ∧ cap = 0) :
  Calls Tryz.prog 8 #[.slice A n cap, .agg (cfL r0 r1 r2 r3 m0 m1 m2 m3 m4 m5 n0 n1 n2 far stp gap need meas away num den tms spr).toArray, .agg #[.int .i64 x, .int .i64 y]] w (GotDN w L x y) := by
 have hnn := fun (w1 : World) (h1 : RdL w1 lo hi A (L.map bv)) (h2 : hi ≤ w1.heap.size) => nnew_any r0 r1 r2 r3 m0 m1 m2 m3 m4 m5 n0 n1 n2 far stp gap need meas away num den tms spr x y hck A L n cap lo hi w1 h1 h2 hn hl hcap hA
 unfold cfL at hnn ⊢
 have hb1 := Blk.mk (w.alloc (.cells #[.int .u32 r0, .int .i64 r1, .int .i64 r2, .int .i64 r3, .int .i64 m0, .int .i64 m1, .int .i64 m2, .int .i64 m3, .int .i64 m4, .int .i64 m5, .int .i64 n0, .int .i64 n1, .int .i64 n2, .int .i64 far, .int .i64 stp, .int .i64 gap, .int .i64 need, .int .i64 meas, .int .i64 away, .int .i64 num, .int .i64 den, .int .i64 tms, .int .i64 spr] 32)) 34 [.int .i64 x, .int .i64 y]
 rw [World.size_alloc] at hb1
 have HB0 := Lib.hid ((Blk.mk w 32 [.int .u32 r0, .int .i64 r1, .int .i64 r2, .int .i64 r3, .int .i64 m0, .int .i64 m1, .int .i64 m2, .int .i64 m3, .int .i64 m4, .int .i64 m5, .int .i64 n0, .int .i64 n1, .int .i64 n2, .int .i64 far, .int .i64 stp, .int .i64 gap, .int .i64 need, .int .i64 meas, .int .i64 away, .int .i64 num, .int .i64 den, .int .i64 tms, .int .i64 spr]).alloc (.cells #[.int .i64 x, .int .i64 y] 34))
 have hk2 : Below w.heap.size w ((w.alloc (.cells #[.int .u32 r0, .int .i64 r1, .int .i64 r2, .int .i64 r3, .int .i64 m0, .int .i64 m1, .int .i64 m2, .int .i64 m3, .int .i64 m4, .int .i64 m5, .int .i64 n0, .int .i64 n1, .int .i64 n2, .int .i64 far, .int .i64 stp, .int .i64 gap, .int .i64 need, .int .i64 meas, .int .i64 away, .int .i64 num, .int .i64 den, .int .i64 tms, .int .i64 spr] 32)).alloc (.cells #[.int .i64 x, .int .i64 y] 34)) := bt (bl _ _) (bl _ _)
 have HK2 := Lib.hid hk2
 have hca := hnn _ (h.next hk2) (Nat.le_trans hhi hk2.size)
 have s0 := hb1.cell 0
 have s1 := hb1.cell 1
 clear hnn hck h hn hb1 hk2
 go_enter Tryz.func8, Tryz.ntmps8
 go_upto_region 1 with fail
 refine wp_region_list ?_
 go_wp2_with (refine wpList_load_mid rfl 32 _ rfl w.heap.size 0 rfl ([.int .u32 r0, .int .i64 r1, .int .i64 r2, .int .i64 r3, .int .i64 m0, .int .i64 m1, .int .i64 m2, .int .i64 m3, .int .i64 m4, .int .i64 m5, .int .i64 n0, .int .i64 n1, .int .i64 n2, .int .i64 far, .int .i64 stp, .int .i64 gap, .int .i64 need, .int .i64 meas, .int .i64 away, .int .i64 num, .int .i64 den, .int .i64 tms, .int .i64 spr] : List Value) _ (range_of HB0.out) Tryz.underlying32 rfl (by kernel_rfl) ?_)
 refine hca.mono ?_
 rintro e w2 ⟨gn, rfl, hns, hg, hb2⟩
 have HNS := Lib.hid hns
 have HB2 := Lib.hid (bt HK2.out hb2)
 have hgl := hns.lt
 have hgw : w.heap.size ≤ gn := Nat.le_trans HK2.out.size hg
 clear hca hns hb2 s0 s1 hg
 go_wp2_with fail
 refine bodyPost_ret (results_tmp2 rfl _ _ _) rfl ?_
 refine ⟨w2.heap.size, gn, rfl, Blk.mk w2 91 (.pointer (some ⟨gn, 0, none⟩) :: .slice none 0 0 :: .int .i64 0 :: tl0), HNS.out.next (bl _ _), by omega, HB2.out.size, hgw, bt HB2.out (bl _ _)⟩
end Nav
end
end Go.Proofs.YtekjehbkmlodmaaGreat
