/-
  The walk of package route's heap: one more item.
-/
import Derived.Test.YtgncngpgodfijaaRouW2
import Derived.Test.YtgncngpgodfijaaHead
import Derived.Deep.RegionHeld3
import Derived.BigRegion
namespace Go.Proofs.Ytgncngpgodfijaa
open Go.RowKit
set_option linter.unusedVariables false
namespace Rou

/-- nothing but block g, and the row v, has changed -/
structure WF (w : World) (g : Nat) (v : Value) (w' : World) (v' : Value) : Prop where
  os : w'.os = w.os
  tape : w'.tape = w.tape
  output : w'.output = w.output
  size : w.heap.size ≤ w'.heap.size
  block : ∀ i, i < w.heap.size → i ≠ g → v.ownBlock ≠ some i → w'.heap[i]? = w.heap[i]?
  own : v'.ownBlock = v.ownBlock ∨ ∀ b, v'.ownBlock = some b → w.heap.size ≤ b
theorem WF.refl (w : World) (g : Nat) (v : Value) : WF w g v w v := ⟨rfl, rfl, rfl, Nat.le_refl _, fun _ _ _ _ => rfl, .inl rfl⟩
theorem WF.trans {a b c : World} {g : Nat} {u v x : Value} (h : WF a g u b v) (k : WF b g v c x) : WF a g u c x := by
  refine ⟨k.os.trans h.os, k.tape.trans h.tape, k.output.trans h.output, Nat.le_trans h.size k.size, fun i h1 h2 h3 => ?_, ?_⟩
  · refine (k.block i (Nat.lt_of_lt_of_le h1 h.size) h2 ?_).trans (h.block i h1 h2 h3)
    intro e
    rcases h.own with ho | ho
    · rw [ho] at e; exact h3 e
    · have := ho i e; omega
  · rcases k.own with ko | ko
    · rw [ko]; exact h.own
    · exact .inr fun b hb => Nat.le_trans h.size (ko b hb)
theorem WF.set {a w : World} {g : Nat} {u v : Value} (h : WF a g u w v) (i : Nat) (x : Value) : WF a g u (w.setCell ⟨g, i, none⟩ x) v :=
  ⟨h.os, h.tape, h.output, by simpa using h.size, fun k h1 h2 h3 => (Below.heap_setCell w ⟨g, i, none⟩ x k h2).trans (h.block k h1 h2 h3), h.own⟩
/-- a cell of the row -/
theorem WF.put {a w : World} {g q : Nat} {u v : Value} (h : WF a g u w v) (hq : v.ownBlock = some q) (i : Nat) (x : Value) : WF a g u (w.setCell ⟨q, i, none⟩ x) v :=
  ⟨h.os, h.tape, h.output, by simpa using h.size, fun k h1 h2 h3 => (Below.heap_setCell w ⟨q, i, none⟩ x k (fun e => by
    have e : k = q := e
    subst e
    rcases h.own with ho | ho
    · rw [ho] at hq; exact h3 hq
    · have := ho k hq; omega)).trans (h.block k h1 h2 h3), h.own⟩
theorem WF.next {a w w' : World} {g : Nat} {u v : Value} (h : WF a g u w v) (hb : Below w.heap.size w w') : WF a g u w' v :=
  ⟨hb.os.trans h.os, hb.tape.trans h.tape, hb.output.trans h.output, Nat.le_trans h.size hb.size, fun k h1 h2 h3 => (hb.block k (Nat.lt_of_lt_of_le h1 h.size)).trans (h.block k h1 h2 h3), h.own⟩
theorem WF.grown {a w w' : World} {g : Nat} {u v v' : Value} (h : WF a g u w v) (hg : w.grownBy w' v.ownBlock) (ho : v'.ownBlock = v.ownBlock ∨ ∀ b, v'.ownBlock = some b → w.heap.size ≤ b) : WF a g u w' v' :=
  h.trans ⟨hg.os, hg.tape, hg.output, hg.size, fun i h1 _ h3 => hg.block i h1 (fun e => h3 e.symm), ho⟩
theorem infoItem : (Try.prog.info? 117).map (fun i => (i.zero, i.size, i.bytes)) = some (some (.agg #[.int .i64 0, .int .i64 0]), 2, 16) := by kernel_rfl
/-- the heap at g holds the items l, in the row v -/
structure QB (w : World) (g : Nat) (v : Value) (l : List It) (wr : World) (u : Value) : Prop where
  blk : Blk wr g 120 [u]
  own : wr.ownsRow 0 117 2 u l.length (l.flatMap itc)
  ne : u.ownBlock ≠ some g
  wf : WF w g v wr u
section
variable {w wr w' : World} {g : Nat} {v u : Value} {l : List It}
theorem QB.next (S : QB w g v l wr u) (hb : Below wr.heap.size wr w') : QB w g v l w' u := ⟨S.blk.next hb, own_next S.own hb, S.ne, S.wf.next hb⟩
/-- where its items stand -/
theorem QB.form (S : QB w g v l wr u) (h : 0 < l.length) : ∃ q cap, u = .slice (some ⟨q, 0, none⟩) l.length cap ∧ q ≠ g ∧ q < wr.heap.size := by
  obtain ⟨q, cap, rfl, h1, h2⟩ := S.own.form h
  exact ⟨q, cap, rfl, fun e => S.ne (by rw [e]; rfl), (own_lt S.own rfl).2⟩
theorem flat_set : ∀ (l : List It) (i : Nat) (b : It), i < l.length → ((l.flatMap itc).set (i * 2) (.int .i64 (b.1 : Int))).set (i * 2 + 1) (.int .i64 b.2) = (l.set i b).flatMap itc
  | [], i, b, h => by simp at h
  | a :: t, 0, b, h => by simp [itc]
  | a :: t, i + 1, b, h => by
    have ih := flat_set t i b (by simpa using h)
    have e : (i + 1) * 2 = i * 2 + 1 + 1 := by omega
    simp only [List.flatMap_cons, itc, List.cons_append, List.nil_append, e, List.set_cons_succ]
    rw [← ih]
theorem QB.free {q cap n : Nat} (S : QB w g v l wr (.slice (some ⟨q, 0, none⟩) n cap)) (hn : n = l.length) (i : Nat) : wr.frozen? ⟨q, i, none⟩ = false := by
  have := S.own
  rw [← hn] at this
  exact this.frozenAt i
theorem QB.put {q cap n : Nat} (S : QB w g v l wr (.slice (some ⟨q, 0, none⟩) n cap)) (hn : n = l.length) {i : Nat} (hi : i < l.length) (b : It) :
    QB w g v (l.set i b) ((wr.setCell ⟨q, i * 2, none⟩ (.int .i64 (b.1 : Int))).setCell ⟨q, i * 2 + 1, none⟩ (.int .i64 b.2)) (.slice (some ⟨q, 0, none⟩) n cap) := by
  have hne : q ≠ g := fun e => S.ne (by rw [e]; rfl)
  have ho := S.own
  rw [← hn] at ho
  refine ⟨(S.blk.far (p := ⟨q, i * 2, none⟩) (Ne.symm hne) _).far (p := ⟨q, i * 2 + 1, none⟩) (Ne.symm hne) _, ?_, S.ne, (S.wf.put rfl _ _).put rfl _ _⟩
  rw [List.length_set, ← hn, ← flat_set l i b hi]
  exact ((ho.stored (i * 2) _).1.stored (i * 2 + 1) _).1
theorem QB.item {q cap : Nat} {n : Nat} (S : QB w g v l wr (.slice (some ⟨q, 0, none⟩) n cap)) {i : Nat} (hi : i < l.length) : wr.cell? ⟨q, i * 2, none⟩ = some (.int .i64 ((at' l i).1 : Int)) ∧ wr.cell? ⟨q, i * 2 + 1, none⟩ = some (.int .i64 (at' l i).2) := by
  obtain ⟨A, c, e, hr, _, _, _⟩ := own_rd S.own
  injection e with e1 e2 e3
  subst e1
  have hc := hr.elem itc 2 itc_len hi
  rw [at_eq hi]
  have c0 := hc 0 _ (by decide) rfl
  have c1 := hc 1 _ (by decide) rfl
  simp only [Nat.zero_add, Nat.add_zero] at c0 c1
  exact ⟨c0, c1⟩
end
set_option maxRecDepth 100000 in
set_option maxHeartbeats 1000000 in
theorem push_any {w : World} {g : Nat} {v : Value} {l : List It} (S : QB w g v l w v) (H : HeapP l) (hl : l.length ≤ 20000) (x : It) :
    Calls Try.prog 66 #[.pointer (some ⟨g, 0, none⟩), .agg #[.int .i64 (x.1 : Int), .int .i64 x.2]] w fun e w' => e = .returned (.tuple #[]) ∧ ∃ u l', QB w g v l' w' u ∧ HeapP l' ∧ List.Perm (x :: l) l' := by
  obtain ⟨i0, hi0, hz0, hz1, hz2⟩ := info_parts infoItem
  have HS := Lib.hid (S.next (bl w (.cells (itc x).toArray 117)))
  have q0 : (w.alloc (.cells (itc x).toArray 117)).cell? ⟨g, 0, none⟩ = some v := HS.out.blk.cell 0
  have f0 := HS.out.blk.free 0
  have hB := Blk.mk w 117 (itc x)
  have x0 : (w.alloc (.cells (itc x).toArray 117)).cell? ⟨w.heap.size, 0, none⟩ = some (.int .i64 (x.1 : Int)) := hB.cell 0
  have x1 : (w.alloc (.cells (itc x).toArray 117)).cell? ⟨w.heap.size, 1, none⟩ = some (.int .i64 x.2) := hB.cell 1
  have hgl := S.blk.lt
  have HB := Lib.hid hB
  have hnb : v.ownBlock ≠ some w.heap.size := fun e => by have := (own_lt S.own e).2; omega
  clear S hB
  unfold itc at HS HB q0 f0 x0 x1
  go_enter Try.func66, Try.ntmps66
  go_upto_region 2 with fail
  refine wp_region_any (by kernel_rfl) ?_
  change wpAny _ _ _ _ _ _ _ ((w.alloc (.cells #[.int .i64 (x.1 : Int), .int .i64 x.2] 117)).drewN 1)
  have HS1 := Lib.hid (HS.out.next (below_drewN (Below.refl _ _) 1))
  have HB1 := Lib.hid (HB.out.next (below_drewN (Below.refl _ _) 1))
  have hWs : ((w.alloc (.cells #[.int .i64 (x.1 : Int), .int .i64 x.2] 117)).drewN 1).heap.size = w.heap.size + 1 := by rw [show ((w.alloc (.cells #[.int .i64 (x.1 : Int), .int .i64 x.2] 117)).drewN 1).heap.size = (w.alloc (.cells #[.int .i64 (x.1 : Int), .int .i64 x.2] 117)).heap.size from rfl]; simp
  have HWs := Lib.hid hWs
  clear HS HB q0 x0 x1 f0 hWs
  generalize (w.alloc (.cells #[.int .i64 (x.1 : Int), .int .i64 x.2] 117)).drewN 1 = W1 at *
  have q0 : W1.cell? ⟨g, 0, none⟩ = some v := HS1.out.blk.cell 0
  have x0 : W1.cell? ⟨w.heap.size, 0, none⟩ = some (.int .i64 (x.1 : Int)) := HB1.out.cell 0
  have x1 : W1.cell? ⟨w.heap.size, 1, none⟩ = some (.int .i64 x.2) := HB1.out.cell 1
  have HS2 := Lib.hid (HS1.out.next (bl W1 (.cells #[.int .i64 (x.1 : Int), .int .i64 x.2] 117)))
  have HB2 := Lib.hid (HB1.out.next (bl W1 (.cells #[.int .i64 (x.1 : Int), .int .i64 x.2] 117)))
  refine wpAny_split 8 (L := #[false, false, false, false, false, false, false, false]) (f := 8) (S := fun w' => w'.cell? ⟨g, 0, none⟩ = some v ∧ w'.cell? ⟨w.heap.size, 0, none⟩ = some (.int .i64 (x.1 : Int)) ∧ w'.cell? ⟨w.heap.size, 1, none⟩ = some (.int .i64 x.2)) (by kernel_rfl) ⟨q0, x0, x1⟩ (fun hHeld => ?_)
  simp only [List.take_succ_cons, List.take_zero, List.drop_succ_cons, List.drop_zero]
  refine wpAnyH_take (i := 0) (oi := ⟨some 7, _, _, _, _, _⟩) (v := ?_) rfl (by kernel_rfl) (by kernel_rfl) (by kernel_rfl) (fun _ _ _ h => h) (Or.inl ⟨by rfl, ?_⟩) (by assumption) ?_
  rotate_left
  · (intro w hSw; (try dsimp only at hSw); go_simp; try (with_reducible rfl))
  try simp only [Act.put, List.setIfInBounds_toArray, List.set_cons_zero, List.set_cons_succ]
  refine wpAnyH_take (i := 1) (oi := ⟨some 8, _, _, _, _, _⟩) (v := ?_) rfl (by kernel_rfl) (by kernel_rfl) (by kernel_rfl) (fun _ _ _ h => h) (Or.inl ⟨by rfl, ?_⟩) (by assumption) ?_
  rotate_left
  · (intro w hSw; (try dsimp only at hSw); go_simp; try (with_reducible rfl))
  try simp only [Act.put, List.setIfInBounds_toArray, List.set_cons_zero, List.set_cons_succ]
  refine wpAnyH_take (i := 2) (oi := ⟨some 9, _, _, _, _, _⟩) (v := ?_) rfl (by kernel_rfl) (by kernel_rfl) (by kernel_rfl) (fun _ _ _ h => h) (Or.inl ⟨by rfl, ?_⟩) (by assumption) ?_
  rotate_left
  · (intro w hSw; (try dsimp only at hSw); go_simp; try (with_reducible rfl))
  try simp only [Act.put, List.setIfInBounds_toArray, List.set_cons_zero, List.set_cons_succ]
  refine wpAnyH_take (i := 3) (oi := ⟨some 10, _, _, _, _, _⟩) (v := ?_) rfl (by kernel_rfl) (by kernel_rfl) (by kernel_rfl) (fun _ _ _ h => h) (Or.inl ⟨by rfl, ?_⟩) (by assumption) ?_
  rotate_left
  · (intro w hSw; (try dsimp only at hSw); go_simp; try (with_reducible rfl))
  try simp only [Act.put, List.setIfInBounds_toArray, List.set_cons_zero, List.set_cons_succ]
  refine wpAnyH_take (i := 4) (oi := ⟨some 11, _, _, _, _, _⟩) (v := ?_) rfl (by kernel_rfl) (by kernel_rfl) (by kernel_rfl) (fun _ _ _ h => h) (Or.inl ⟨by rfl, ?_⟩) (by assumption) ?_
  rotate_left
  · (intro w hSw; (try dsimp only at hSw); go_simp; try (with_reducible rfl))
  try simp only [Act.put, List.setIfInBounds_toArray, List.set_cons_zero, List.set_cons_succ]
  refine wpAnyH_take (i := 5) (oi := ⟨some 12, _, _, _, _, _⟩) (v := ?_) rfl (by kernel_rfl) (by kernel_rfl) (by kernel_rfl) (fun _ _ _ h => h) (Or.inl ⟨by rfl, ?_⟩) (by assumption) ?_
  rotate_left
  · (intro w hSw; (try dsimp only at hSw); go_simp; try (with_reducible rfl))
  try simp only [Act.put, List.setIfInBounds_toArray, List.set_cons_zero, List.set_cons_succ]
  refine wpAnyH_ready (rs := [6]) (by kernel_rfl) (by simp) ?_
  refine AllReadyH.cons (o := ⟨some 13, _, _, _, _, _⟩) rfl (fun K hK => ?_) AllReadyH.nil
  go_simp
  refine hK.out _ _ (⟨HS2.out.blk.cell 0, HB2.out.cell 0, HB2.out.cell 1⟩) (fun hHeld => ?_)
  clear hK K
  try simp only [Act.put, List.setIfInBounds_toArray, List.set_cons_zero, List.set_cons_succ]
  refine wpAnyH_ready (rs := [7]) (by kernel_rfl) (by simp) ?_
  refine AllReadyH.cons (o := ⟨some 14, _, _, _, _, _⟩) rfl (fun K hK => ?_) AllReadyH.nil
  refine step_append_lies _ (by rfl) _ _ _ (by rfl) 0 117 i0 _ 2 16 (by kernel_rfl) hi0 hz0 hz1 hz2 rfl (by omega) v l.length (l.flatMap itc) (by rfl) HS2.out.own ⟨W1.heap.size, 0, none⟩ 1 1 [.int .i64 (x.1 : Int), .int .i64 x.2] (by rfl) (by rfl) (World.news_of_block (cs := #[.int .i64 (x.1 : Int), .int .i64 x.2]) (t := 117) (fr := (0, 0)) (heap_alloc_new W1 _)) (by simp [Value.oneCell']) (by omega) (by unfold maxLen; omega) (by omega) (by simp) (W1.heap.size + 1) (by simp) ?_
  intro gg capg w1 hown1 hgrow hat hlt2
  refine hK.out _ _ (⟨(hgrow.cell_far _ (World.block_lt_of_cell? _ _ hHeld.1) (Ne.symm HS1.out.ne)).trans hHeld.1, (hgrow.cell_far _ (World.block_lt_of_cell? _ _ hHeld.2.1) (Ne.symm hnb)).trans hHeld.2.1, (hgrow.cell_far _ (World.block_lt_of_cell? _ _ hHeld.2.2) (Ne.symm hnb)).trans hHeld.2.2⟩) (fun hHeld => ?_)
  clear hK K
  try simp only [Act.put, List.setIfInBounds_toArray, List.set_cons_zero, List.set_cons_succ]
  refine wpAnyH_done (by kernel_rfl) ?_ _
  change wpList _ _ _ _ _ _
  have hb1 := HS2.out.blk.grown hgrow (Ne.symm HS1.out.ne)
  have c1 : w1.cell? ⟨g, 0, none⟩ = some v := hb1.cell 0
  have f1 := hb1.free 0
  have hgg : gg ≠ g := by
    have := HWs.out
    rcases hat with e | e
    · intro e2
      exact HS1.out.ne (by rw [e, e2])
    · omega
  have hSx : QB w g v (l ++ [x]) (w1.setCell ⟨g, 0, none⟩ (.slice (some ⟨gg, 0, none⟩) (l.length + 1) capg)) (.slice (some ⟨gg, 0, none⟩) (l.length + 1) capg) := by
    refine ⟨hb1.put 0 _, ?_, fun e => hgg (Option.some.inj e), (HS2.out.wf.grown hgrow ?_).set 0 _⟩
    · have e : (l ++ [x]).flatMap itc = l.flatMap itc ++ [.int .i64 (x.1 : Int), .int .i64 x.2] := by simp [itc]
      rw [e, List.length_append, List.length_singleton]
      refine hown1.kept (row := some g) (only_set (only_refl _ _) 0 _) (.inr ?_)
      intro e
      injection e with e
      exact hgg e
    · rcases hat with e | e
      · exact .inl e.symm
      · refine .inr fun b hb => ?_
        have hb : gg = b := Option.some.inj hb
        simp
        omega
  have HSx := Lib.hid hSx
  have hU := up_new H x
  have HL := Lib.hid (show (l ++ [x]).length = l.length + 1 by simp)
  have hperm : List.Perm (x :: l) (l ++ [x]) := List.perm_append_comm (l₁ := [x]) (l₂ := l)
  clear hown1 hgrow hat hb1 hSx HS2 HB2 HS1 HB1 q0 x0 x1 H
  go_upto_region 3 with fail
  clear c1 f1
  generalize w1.setCell ⟨g, 0, none⟩ (.slice (some ⟨gg, 0, none⟩) (l.length + 1) capg) = w2 at *
  obtain ⟨n, hn⟩ : ∃ n, n = l.length := ⟨_, rfl⟩
  rw [← hn] at HSx hU HL hl ⊢
  have c0 : w2.cell? ⟨g, 0, none⟩ = some (.slice (some ⟨gg, 0, none⟩) (n + 1) capg) := HSx.out.blk.cell 0
  have y0 : IntKind.i64.wrap ((n : Int) + 1 - 1) = (n : Int) := by rw [IntWalk.i64_in _ (by omega)]; omega
  have HN := Lib.hid hn
  clear hn hlt2
  go_wp2_with fail
  go_loopw [5] (fun u wr => ∃ (i : Nat) (L : List It), u = .int .i64 (i : Int) ∧ QB w g v L wr (.slice (some ⟨gg, 0, none⟩) (n + 1) capg) ∧ UpI L i ∧ List.Perm (x :: l) L ∧ L.length = n + 1) (fun u _ => (intOf u).toNat)
  case atStart => exact ⟨n, l ++ [x], rfl, HSx.out, hU, hperm, HL.out⟩
  case round =>
    clear HSx hU hperm HL c0
    obtain ⟨i, L, rfl, hS, hU, hperm, hL⟩ := hrel
    have HS := Lib.hid hS
    have HU := Lib.hid hU
    have HP := Lib.hid hperm
    have HL := Lib.hid hL
    have hi : i < n + 1 := by rw [← hL]; exact hU.lt
    clear hS hU hperm hL
    by_cases h0 : 0 < i
    · have hI : (0 : Int) < (i : Int) := by omega
      obtain ⟨k, hk⟩ : ∃ k, k = (i - 1) / 2 := ⟨_, rfl⟩
      have hki : k < i := by omega
      have y1 : IntKind.i64.wrap ((i : Int) - 1) = (i : Int) - 1 := IntWalk.i64_in _ (by omega)
      have y2 : ((i : Int) - 1).tdiv 2 = (k : Int) := by
        rw [Int.tdiv_eq_ediv_of_nonneg (by omega)]
        omega
      have y3 : IntKind.i64.wrap (k : Int) = (k : Int) := IntWalk.i64_in _ (by omega)
      have HK := Lib.hid hk
      have i1 : (i : Int) < (n : Int) + 1 := by omega
      have i2 : (k : Int) < (n : Int) + 1 := by omega
      have i3 : (0 : Int) ≤ (i : Int) := by omega
      have i4 : (0 : Int) ≤ (k : Int) := by omega
      clear hk
      go_wp2_with fail
      have hs : ∀ w', QB w g v L w' (.slice (some ⟨gg, 0, none⟩) (n + 1) capg) → QB w g v L w' (.slice (some ⟨gg, 0, none⟩) (n + 1) capg) ∧ w'.cell? ⟨g, 0, none⟩ = some (.slice (some ⟨gg, 0, none⟩) (n + 1) capg) ∧ w'.cell? ⟨gg, i * 2, none⟩ = some (.int .i64 ((at' L i).1 : Int)) ∧ w'.cell? ⟨gg, i * 2 + 1, none⟩ = some (.int .i64 (at' L i).2) ∧ w'.cell? ⟨gg, k * 2, none⟩ = some (.int .i64 ((at' L k).1 : Int)) ∧ w'.cell? ⟨gg, k * 2 + 1, none⟩ = some (.int .i64 (at' L k).2) := fun w' X =>
        ⟨X, X.blk.cell 0, (X.item (by rw [HL.out]; omega)).1, (X.item (by rw [HL.out]; omega)).2, (X.item (by rw [HL.out]; omega)).1, (X.item (by rw [HL.out]; omega)).2⟩
      have hbf := fun X => before_any (at' L i) (at' L k) X
      have hb0 := fun h => up_stop HU.out (.inr h)
      have hb1 := fun h => up_swap HU.out h0 h
      rw [← HK.out] at hb0 hb1
      have hsp := swap_perm (l := L) (i := i) (j := k) (by rw [HL.out]; omega) (by rw [HL.out]; omega)
      have HSP := Lib.hid hsp
      have HS0 := Lib.hid hb0
      have HS1 := Lib.hid hb1
      have Hs := Lib.hid hs
      have HSW := Lib.hid (show swap L i k = (L.set i (at' L k)).set k (at' L i) from rfl)
      clear hs hb0 hb1 hsp
      generalize ha : at' L i = a at *
      generalize hb : at' L k = b at *
      have HA := Lib.hid ha
      have HB := Lib.hid hb
      clear ha hb
      obtain ⟨a1, a2⟩ := a
      obtain ⟨b1, b2⟩ := b
      dsimp only at Hs hbf
      cases hbb : bef (a1, a2) (b1, b2) with
      | false =>
        rw [hbb] at hbf
        have HB0 := Lib.hid (HS0.out hbb)
        clear hbb
        go_region_held3 (fun w' => QB w g v L w' (.slice (some ⟨gg, 0, none⟩) (n + 1) capg) ∧ w'.cell? ⟨g, 0, none⟩ = some (.slice (some ⟨gg, 0, none⟩) (n + 1) capg) ∧ w'.cell? ⟨gg, i * 2, none⟩ = some (.int .i64 (a1 : Int)) ∧ w'.cell? ⟨gg, i * 2 + 1, none⟩ = some (.int .i64 a2) ∧ w'.cell? ⟨gg, k * 2, none⟩ = some (.int .i64 (b1 : Int)) ∧ w'.cell? ⟨gg, k * 2 + 1, none⟩ = some (.int .i64 b2))
          (first
            | exact Hs.out _ (HS.out.next (below_drewN (Below.refl _ _) 1))
            | assumption
            | exact Hs.out _ (QB.next (And.left ‹QB _ _ _ _ _ _ ∧ _›) (by assumption)))
          ((go_at_call 67; (with_reducible refine (hbf _).mono ?_); rintro e w' ⟨rfl, hb⟩))
        have hX := And.left ‹QB _ _ _ _ _ _ ∧ _›
        go_wp2
        refine bodyPost_ret (results_none rfl _ _ _) rfl ?_
        exact ⟨rfl, _, L, hX, HB0.out, HP.out⟩
      | true =>
        rw [hbb] at hbf
        have HB1 := Lib.hid (HS1.out hbb)
        clear hbb
        go_region_held3 (fun w' => QB w g v L w' (.slice (some ⟨gg, 0, none⟩) (n + 1) capg) ∧ w'.cell? ⟨g, 0, none⟩ = some (.slice (some ⟨gg, 0, none⟩) (n + 1) capg) ∧ w'.cell? ⟨gg, i * 2, none⟩ = some (.int .i64 (a1 : Int)) ∧ w'.cell? ⟨gg, i * 2 + 1, none⟩ = some (.int .i64 a2) ∧ w'.cell? ⟨gg, k * 2, none⟩ = some (.int .i64 (b1 : Int)) ∧ w'.cell? ⟨gg, k * 2 + 1, none⟩ = some (.int .i64 b2))
          (first
            | exact Hs.out _ (HS.out.next (below_drewN (Below.refl _ _) 1))
            | assumption
            | exact Hs.out _ (QB.next (And.left ‹QB _ _ _ _ _ _ ∧ _›) (by assumption)))
          ((go_at_call 67; (with_reducible refine (hbf _).mono ?_); rintro e w' ⟨rfl, hb⟩))
        have hX0 := And.left ‹QB _ _ _ _ _ _ ∧ _›
        have HX := Lib.hid (hX0.next (below_drewN (Below.refl _ _) 1))
        clear hX0
        go_upto_region 7 with fail
        have hh : (World.drewN w' 1).cell? ⟨g, 0, none⟩ = some (Value.slice (some ⟨gg, 0, none⟩) (n + 1) capg) := HX.out.blk.cell 0
        refine wp_region_held_drew (S := fun w' => w'.cell? ⟨g, 0, none⟩ = some (Value.slice (some ⟨gg, 0, none⟩) (n + 1) capg)) (by kernel_rfl) hh (fun hHeld => ?_)
        change wpAnyH _ _ _ _ _ _ _ _ (World.drewN w' 1)
        generalize World.drewN w' 1 = wd at *
        refine wpAnyH_take (i := 0) (oi := ⟨some 45, _, _, _, _, _⟩) (v := ?_) rfl (by kernel_rfl) (by kernel_rfl) (by kernel_rfl) (fun _ _ _ h => h) (Or.inl ⟨by rfl, ?_⟩) (by assumption) ?_
        rotate_left
        · (intro w hSw; (try dsimp only at hSw); go_simp; try (with_reducible rfl))
        try simp only [Act.put, List.setIfInBounds_toArray, List.set_cons_zero, List.set_cons_succ]
        refine wpAnyH_take (i := 1) (oi := ⟨some 46, _, _, _, _, _⟩) (v := ?_) rfl (by kernel_rfl) (by kernel_rfl) (by kernel_rfl) (fun _ _ _ h => h) (Or.inl ⟨by rfl, ?_⟩) (by assumption) ?_
        rotate_left
        · (intro w hSw; (try dsimp only at hSw); go_simp; try (with_reducible rfl))
        try simp only [Act.put, List.setIfInBounds_toArray, List.set_cons_zero, List.set_cons_succ]
        refine wpAnyH_take (i := 2) (oi := ⟨some 47, _, _, _, _, _⟩) (v := ?_) rfl (by kernel_rfl) (by kernel_rfl) (by kernel_rfl) (fun _ _ _ h => h) (Or.inl ⟨by rfl, ?_⟩) (by assumption) ?_
        rotate_left
        · (intro w hSw; (try dsimp only at hSw); go_simp; try (with_reducible rfl))
        try simp only [Act.put, List.setIfInBounds_toArray, List.set_cons_zero, List.set_cons_succ]
        refine wpAnyH_take (i := 3) (oi := ⟨some 48, _, _, _, _, _⟩) (v := ?_) rfl (by kernel_rfl) (by kernel_rfl) (by kernel_rfl) (fun _ _ _ h => h) (Or.inl ⟨by rfl, ?_⟩) (by assumption) ?_
        rotate_left
        · (intro w hSw; (try dsimp only at hSw); go_simp; try (with_reducible rfl))
        try simp only [Act.put, List.setIfInBounds_toArray, List.set_cons_zero, List.set_cons_succ]
        refine wpAnyH_take (i := 4) (oi := ⟨some 49, _, _, _, _, _⟩) (v := ?_) rfl (by kernel_rfl) (by kernel_rfl) (by kernel_rfl) (fun _ _ _ h => h) (Or.inl ⟨by rfl, ?_⟩) (by assumption) ?_
        rotate_left
        · (intro w hSw; (try dsimp only at hSw); go_simp; try (with_reducible rfl))
        try simp only [Act.put, List.setIfInBounds_toArray, List.set_cons_zero, List.set_cons_succ]
        refine wpAnyH_take (i := 5) (oi := ⟨some 50, _, _, _, _, _⟩) (v := ?_) rfl (by kernel_rfl) (by kernel_rfl) (by kernel_rfl) (fun _ _ _ h => h) (Or.inl ⟨by rfl, ?_⟩) (by assumption) ?_
        rotate_left
        · (intro w hSw; (try dsimp only at hSw); go_simp; try (with_reducible rfl))
        try simp only [Act.put, List.setIfInBounds_toArray, List.set_cons_zero, List.set_cons_succ]
        refine wpAnyH_take (i := 6) (oi := ⟨some 51, _, _, _, _, _⟩) (v := ?_) rfl (by kernel_rfl) (by kernel_rfl) (by kernel_rfl) (fun _ _ _ h => h) (Or.inl ⟨by rfl, ?_⟩) (by assumption) ?_
        rotate_left
        · (intro w hSw; (try dsimp only at hSw); go_simp; try (with_reducible rfl))
        try simp only [Act.put, List.setIfInBounds_toArray, List.set_cons_zero, List.set_cons_succ]
        refine wpAnyH_take (i := 7) (oi := ⟨some 52, _, _, _, _, _⟩) (v := ?_) rfl (by kernel_rfl) (by kernel_rfl) (by kernel_rfl) (fun _ _ _ h => h) (Or.inl ⟨by rfl, ?_⟩) (by assumption) ?_
        rotate_left
        · (intro w hSw; (try dsimp only at hSw); go_simp; try (with_reducible rfl))
        try simp only [Act.put, List.setIfInBounds_toArray, List.set_cons_zero, List.set_cons_succ]
        refine wpAnyH_take (i := 8) (oi := ⟨some 53, _, _, _, _, _⟩) (v := ?_) rfl (by kernel_rfl) (by kernel_rfl) (by kernel_rfl) (fun _ _ _ h => h) (Or.inl ⟨by rfl, ?_⟩) (by assumption) ?_
        rotate_left
        · (intro w hSw; (try dsimp only at hSw); go_simp; try (with_reducible rfl))
        try simp only [Act.put, List.setIfInBounds_toArray, List.set_cons_zero, List.set_cons_succ]
        refine wpAnyH_take (i := 9) (oi := ⟨some 54, _, _, _, _, _⟩) (v := ?_) rfl (by kernel_rfl) (by kernel_rfl) (by kernel_rfl) (fun _ _ _ h => h) (Or.inl ⟨by rfl, ?_⟩) (by assumption) ?_
        rotate_left
        · (intro w hSw; (try dsimp only at hSw); go_simp; try (with_reducible rfl))
        try simp only [Act.put, List.setIfInBounds_toArray, List.set_cons_zero, List.set_cons_succ]
        refine wpAnyH_take (i := 10) (oi := ⟨some 55, _, _, _, _, _⟩) (v := ?_) rfl (by kernel_rfl) (by kernel_rfl) (by kernel_rfl) (fun _ _ _ h => h) (Or.inl ⟨by rfl, ?_⟩) (by assumption) ?_
        rotate_left
        · (intro w hSw; (try dsimp only at hSw); go_simp; try (with_reducible rfl))
        try simp only [Act.put, List.setIfInBounds_toArray, List.set_cons_zero, List.set_cons_succ]
        refine wpAnyH_take (i := 11) (oi := ⟨some 56, _, _, _, _, _⟩) (v := ?_) rfl (by kernel_rfl) (by kernel_rfl) (by kernel_rfl) (fun _ _ _ h => h) (Or.inl ⟨by rfl, ?_⟩) (by assumption) ?_
        rotate_left
        · (intro w hSw; (try dsimp only at hSw); go_simp; try (with_reducible rfl))
        try simp only [Act.put, List.setIfInBounds_toArray, List.set_cons_zero, List.set_cons_succ]
        refine wpAnyH_take (i := 12) (oi := ⟨some 57, _, _, _, _, _⟩) (v := ?_) rfl (by kernel_rfl) (by kernel_rfl) (by kernel_rfl) (fun _ _ _ h => h) (Or.inl ⟨by rfl, ?_⟩) (by assumption) ?_
        rotate_left
        · (intro w hSw; (try dsimp only at hSw); go_simp; try (with_reducible rfl))
        try simp only [Act.put, List.setIfInBounds_toArray, List.set_cons_zero, List.set_cons_succ]
        refine wpAnyH_take (i := 13) (oi := ⟨some 58, _, _, _, _, _⟩) (v := ?_) rfl (by kernel_rfl) (by kernel_rfl) (by kernel_rfl) (fun _ _ _ h => h) (Or.inl ⟨by rfl, ?_⟩) (by assumption) ?_
        rotate_left
        · (intro w hSw; (try dsimp only at hSw); go_simp; try (with_reducible rfl))
        try simp only [Act.put, List.setIfInBounds_toArray, List.set_cons_zero, List.set_cons_succ]
        refine wpAnyH_take (i := 14) (oi := ⟨some 59, _, _, _, _, _⟩) (v := ?_) rfl (by kernel_rfl) (by kernel_rfl) (by kernel_rfl) (fun _ _ _ h => h) (Or.inl ⟨by rfl, ?_⟩) (by assumption) ?_
        rotate_left
        · (intro w hSw; (try dsimp only at hSw); go_simp; try (with_reducible rfl))
        try simp only [Act.put, List.setIfInBounds_toArray, List.set_cons_zero, List.set_cons_succ]
        refine wpAnyH_take (i := 15) (oi := ⟨some 60, _, _, _, _, _⟩) (v := ?_) rfl (by kernel_rfl) (by kernel_rfl) (by kernel_rfl) (fun _ _ _ h => h) (Or.inl ⟨by rfl, ?_⟩) (by assumption) ?_
        rotate_left
        · (intro w hSw; (try dsimp only at hSw); go_simp; try (with_reducible rfl))
        try simp only [Act.put, List.setIfInBounds_toArray, List.set_cons_zero, List.set_cons_succ]
        refine wpAnyH_take (i := 17) (oi := ⟨some 62, _, _, _, _, _⟩) (v := ?_) rfl (by kernel_rfl) (by kernel_rfl) (by kernel_rfl) (fun _ _ _ h => h) (Or.inl ⟨by rfl, ?_⟩) (by assumption) ?_
        rotate_left
        · (intro w hSw; (try dsimp only at hSw); go_simp; try (with_reducible rfl))
        try simp only [Act.put, List.setIfInBounds_toArray, List.set_cons_zero, List.set_cons_succ]
        refine wpAnyH_take (i := 18) (oi := ⟨some 63, _, _, _, _, _⟩) (v := ?_) rfl (by kernel_rfl) (by kernel_rfl) (by kernel_rfl) (fun _ _ _ h => h) (Or.inl ⟨by rfl, ?_⟩) (by assumption) ?_
        rotate_left
        · (intro w hSw; (try dsimp only at hSw); go_simp; try (with_reducible rfl))
        try simp only [Act.put, List.setIfInBounds_toArray, List.set_cons_zero, List.set_cons_succ]
        refine wpAnyH_take (i := 19) (oi := ⟨some 64, _, _, _, _, _⟩) (v := ?_) rfl (by kernel_rfl) (by kernel_rfl) (by kernel_rfl) (fun _ _ _ h => h) (Or.inl ⟨by rfl, ?_⟩) (by assumption) ?_
        rotate_left
        · (intro w hSw; (try dsimp only at hSw); go_simp; try (with_reducible rfl))
        try simp only [Act.put, List.setIfInBounds_toArray, List.set_cons_zero, List.set_cons_succ]
        refine wpAnyH_take (i := 20) (oi := ⟨some 65, _, _, _, _, _⟩) (v := ?_) rfl (by kernel_rfl) (by kernel_rfl) (by kernel_rfl) (fun _ _ _ h => h) (Or.inl ⟨by rfl, ?_⟩) (by assumption) ?_
        rotate_left
        · (intro w hSw; (try dsimp only at hSw); go_simp; try (with_reducible rfl))
        try simp only [Act.put, List.setIfInBounds_toArray, List.set_cons_zero, List.set_cons_succ]
        refine wpAnyH_take (i := 21) (oi := ⟨some 66, _, _, _, _, _⟩) (v := ?_) rfl (by kernel_rfl) (by kernel_rfl) (by kernel_rfl) (fun _ _ _ h => h) (Or.inl ⟨by rfl, ?_⟩) (by assumption) ?_
        rotate_left
        · (intro w hSw; (try dsimp only at hSw); go_simp; try (with_reducible rfl))
        try simp only [Act.put, List.setIfInBounds_toArray, List.set_cons_zero, List.set_cons_succ]
        refine wpAnyH_take (i := 22) (oi := ⟨some 67, _, _, _, _, _⟩) (v := ?_) rfl (by kernel_rfl) (by kernel_rfl) (by kernel_rfl) (fun _ _ _ h => h) (Or.inl ⟨by rfl, ?_⟩) (by assumption) ?_
        rotate_left
        · (intro w hSw; (try dsimp only at hSw); go_simp; try (with_reducible rfl))
        try simp only [Act.put, List.setIfInBounds_toArray, List.set_cons_zero, List.set_cons_succ]
        have ⟨e0, e1⟩ := HX.out.item (i := i) (by rw [HL.out]; omega)
        have ⟨e2, e3⟩ := HX.out.item (i := k) (by rw [HL.out]; omega)
        rw [HA.out] at e0 e1
        rw [HB.out] at e2 e3
        dsimp only at e0 e1 e2 e3
        refine wpAnyH_ready (rs := [16, 23]) (by kernel_rfl) (by simp) ?_
        refine AllReadyH.cons (o := ⟨some 61, _, _, _, _, _⟩) rfl (fun K hK => ?_) ?_
        · go_simp
          refine hK.out _ _ hh (fun hHeld => ?_)
          clear hK K
          try simp only [List.setIfInBounds_toArray, List.set_cons_zero, List.set_cons_succ]
          refine wpAnyH_ready (rs := [23]) (by kernel_rfl) (by simp) ?_
          refine AllReadyH.cons (o := ⟨some 68, _, _, _, _, _⟩) rfl (fun K hK => ?_) ?_
          · go_simp
            refine hK.out _ _ hh (fun hHeld => ?_)
            clear hK K
            try simp only [List.setIfInBounds_toArray, List.set_cons_zero, List.set_cons_succ]
            refine wpAnyH_take (i := 24) (oi := ⟨some 69, _, _, _, _, _⟩) (v := ?_) rfl (by kernel_rfl) (by kernel_rfl) (by kernel_rfl) (fun _ _ _ h => h) (Or.inl ⟨by rfl, ?_⟩) (by assumption) ?_
            rotate_left
            · (intro w hSw; (try dsimp only at hSw); go_simp; try (with_reducible rfl))
            try simp only [Act.put, List.setIfInBounds_toArray, List.set_cons_zero, List.set_cons_succ]
            have f0 := HX.out.free HL.out.symm (i * 2)
            have f1 := HX.out.free HL.out.symm (i * 2 + 1)
            refine wpAnyH_ready (rs := [25]) (by kernel_rfl) (by simp) ?_
            refine AllReadyH.cons (o := ⟨none, _, _, _, _, _⟩) rfl (fun K hK => ?_) ?_
            · go_simp
              have HY := Lib.hid (HX.out.put HL.out.symm (i := i) (by rw [HL.out]; omega) (b1, b2))
              refine hK.out _ _ (HY.out.blk.cell 0) (fun hHeld => ?_)
              clear hK K
              try simp only [List.setIfInBounds_toArray, List.set_cons_zero, List.set_cons_succ]
              dsimp only at HY
              clear e0 e1 e2 e3 f0 f1 hHeld
              generalize (wd.setCell ⟨_, i * 2, none⟩ (.int .i64 (b1 : Int))).setCell ⟨_, i * 2 + 1, none⟩ (.int .i64 b2) = we at *
              have HL2 := Lib.hid (show (L.set i (b1, b2)).length = n + 1 by rw [List.length_set]; exact HL.out)
              have ⟨e2, e3⟩ := HY.out.item (i := k) (by rw [HL2.out]; omega)
              have f0 := HY.out.free HL2.out.symm (k * 2)
              have f1 := HY.out.free HL2.out.symm (k * 2 + 1)
              have hHeld : we.cell? ⟨g, 0, none⟩ = some (Value.slice (some ⟨gg, 0, none⟩) (n + 1) capg) := HY.out.blk.cell 0
              refine wpAnyH_take (i := 26) (oi := ⟨some 70, _, _, _, _, _⟩) (v := ?_) rfl (by kernel_rfl) (by kernel_rfl) (by kernel_rfl) (fun _ _ _ h => h) (Or.inl ⟨by rfl, ?_⟩) (by assumption) ?_
              rotate_left
              · (intro w hSw; (try dsimp only at hSw); go_simp; try (with_reducible rfl))
              try simp only [Act.put, List.setIfInBounds_toArray, List.set_cons_zero, List.set_cons_succ]
              refine wpAnyH_ready (rs := [27]) (by kernel_rfl) (by simp) ?_
              refine AllReadyH.cons (o := ⟨none, _, _, _, _, _⟩) rfl (fun K hK => ?_) ?_
              · go_simp
                have HZ := Lib.hid (HY.out.put HL2.out.symm (i := k) (by rw [HL2.out]; omega) (a1, a2))
                refine hK.out _ _ (HZ.out.blk.cell 0) (fun hHeld => ?_)
                clear hK K
                try simp only [List.setIfInBounds_toArray, List.set_cons_zero, List.set_cons_succ]
                dsimp only at HZ
                clear e2 e3 f0 f1 hHeld HY
                generalize (we.setCell ⟨_, k * 2, none⟩ (.int .i64 (a1 : Int))).setCell ⟨_, k * 2 + 1, none⟩ (.int .i64 a2) = wf at *
                refine wpAnyH_done (by kernel_rfl) ?_ _
                rw [← HSW.out] at HZ
                go_wp2_with fail
                go_roundw
                case rel => exact ⟨k, swap L i k, rfl, HZ.out, HB1.out, HP.out.trans HSP.out.symm, by rw [swap_len]; exact HL.out⟩
                case measure => simp [intOf]; omega
              exact AllReadyH.nil
            exact AllReadyH.nil
          exact AllReadyH.nil
        refine AllReadyH.cons (o := ⟨some 68, _, _, _, _, _⟩) rfl (fun K hK => ?_) ?_
        · go_simp
          refine hK.out _ _ hh (fun hHeld => ?_)
          clear hK K
          try simp only [List.setIfInBounds_toArray, List.set_cons_zero, List.set_cons_succ]
          refine wpAnyH_ready (rs := [16]) (by kernel_rfl) (by simp) ?_
          refine AllReadyH.cons (o := ⟨some 61, _, _, _, _, _⟩) rfl (fun K hK => ?_) ?_
          · go_simp
            refine hK.out _ _ hh (fun hHeld => ?_)
            clear hK K
            try simp only [List.setIfInBounds_toArray, List.set_cons_zero, List.set_cons_succ]
            refine wpAnyH_take (i := 24) (oi := ⟨some 69, _, _, _, _, _⟩) (v := ?_) rfl (by kernel_rfl) (by kernel_rfl) (by kernel_rfl) (fun _ _ _ h => h) (Or.inl ⟨by rfl, ?_⟩) (by assumption) ?_
            rotate_left
            · (intro w hSw; (try dsimp only at hSw); go_simp; try (with_reducible rfl))
            try simp only [Act.put, List.setIfInBounds_toArray, List.set_cons_zero, List.set_cons_succ]
            have f0 := HX.out.free HL.out.symm (i * 2)
            have f1 := HX.out.free HL.out.symm (i * 2 + 1)
            refine wpAnyH_ready (rs := [25]) (by kernel_rfl) (by simp) ?_
            refine AllReadyH.cons (o := ⟨none, _, _, _, _, _⟩) rfl (fun K hK => ?_) ?_
            · go_simp
              have HY := Lib.hid (HX.out.put HL.out.symm (i := i) (by rw [HL.out]; omega) (b1, b2))
              refine hK.out _ _ (HY.out.blk.cell 0) (fun hHeld => ?_)
              clear hK K
              try simp only [List.setIfInBounds_toArray, List.set_cons_zero, List.set_cons_succ]
              dsimp only at HY
              clear e0 e1 e2 e3 f0 f1 hHeld
              generalize (wd.setCell ⟨_, i * 2, none⟩ (.int .i64 (b1 : Int))).setCell ⟨_, i * 2 + 1, none⟩ (.int .i64 b2) = we at *
              have HL2 := Lib.hid (show (L.set i (b1, b2)).length = n + 1 by rw [List.length_set]; exact HL.out)
              have ⟨e2, e3⟩ := HY.out.item (i := k) (by rw [HL2.out]; omega)
              have f0 := HY.out.free HL2.out.symm (k * 2)
              have f1 := HY.out.free HL2.out.symm (k * 2 + 1)
              have hHeld : we.cell? ⟨g, 0, none⟩ = some (Value.slice (some ⟨gg, 0, none⟩) (n + 1) capg) := HY.out.blk.cell 0
              refine wpAnyH_take (i := 26) (oi := ⟨some 70, _, _, _, _, _⟩) (v := ?_) rfl (by kernel_rfl) (by kernel_rfl) (by kernel_rfl) (fun _ _ _ h => h) (Or.inl ⟨by rfl, ?_⟩) (by assumption) ?_
              rotate_left
              · (intro w hSw; (try dsimp only at hSw); go_simp; try (with_reducible rfl))
              try simp only [Act.put, List.setIfInBounds_toArray, List.set_cons_zero, List.set_cons_succ]
              refine wpAnyH_ready (rs := [27]) (by kernel_rfl) (by simp) ?_
              refine AllReadyH.cons (o := ⟨none, _, _, _, _, _⟩) rfl (fun K hK => ?_) ?_
              · go_simp
                have HZ := Lib.hid (HY.out.put HL2.out.symm (i := k) (by rw [HL2.out]; omega) (a1, a2))
                refine hK.out _ _ (HZ.out.blk.cell 0) (fun hHeld => ?_)
                clear hK K
                try simp only [List.setIfInBounds_toArray, List.set_cons_zero, List.set_cons_succ]
                dsimp only at HZ
                clear e2 e3 f0 f1 hHeld HY
                generalize (we.setCell ⟨_, k * 2, none⟩ (.int .i64 (a1 : Int))).setCell ⟨_, k * 2 + 1, none⟩ (.int .i64 a2) = wf at *
                refine wpAnyH_done (by kernel_rfl) ?_ _
                rw [← HSW.out] at HZ
                go_wp2_with fail
                go_roundw
                case rel => exact ⟨k, swap L i k, rfl, HZ.out, HB1.out, HP.out.trans HSP.out.symm, by rw [swap_len]; exact HL.out⟩
                case measure => simp [intOf]; omega
              exact AllReadyH.nil
            exact AllReadyH.nil
          exact AllReadyH.nil
        exact AllReadyH.nil
    · obtain rfl : i = 0 := by omega
      have hH := up_stop HU.out (.inl rfl)
      go_wp2
      go_end0
      exact ⟨rfl, _, L, HS.out, hH, HP.out⟩
end Rou
end Go.Proofs.Ytgncngpgodfijaa
