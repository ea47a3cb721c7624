/-
  The law FrameFinds, walked.
-/
import Derived.Test.YtijijfggppnbpaaFrmA
import Derived.Test.YtijijfggppnbpaaFrmVe
import Derived.Test.YtijijfggppnbpaaFrmR
import Derived.Test.YtijijfggppnbpaaRndQ
import Derived.Outline
namespace Go.Proofs.Ytijijfggppnbpaa
open Go.RowKit Go.Shelf
set_option linter.unusedVariables false
namespace Frm
open Txt (kind_cases bv bv_one GotB leB leB_len leB_succ leVal leVal_lt tx tx_list)
attribute [local go_sem] Oper.semAt_some

set_option maxRecDepth 100000 in
set_option maxHeartbeats 400000 in
theorem frame_neq_ne (f g : Fr) (h : f ≠ g) (w : World) : (binOp .neq 25 (.agg #[.int .i64 f.k, .int .u16 (f.q : Int), .int .u32 (f.t : Int), .int .i32 f.a, .int .i32 f.b, .int .i32 f.c]) (.agg #[.int .i64 g.k, .int .u16 (g.q : Int), .int .u32 (g.t : Int), .int .i32 g.a, .int .i32 g.b, .int .i32 g.c])).run Try.prog w = .ok (.bool true) w := by
  obtain ⟨k, q, t, a, b, c⟩ := f
  obtain ⟨k', q', t', a', b', c'⟩ := g
  simp [go_sem]
  intro h1 h2 h3 h4 h5 h6
  have h2' : q = q' := by omega
  have h3' : t = t' := by omega
  exact h (by subst h1 h2' h3' h4 h5 h6; rfl)
set_option maxRecDepth 100000 in
set_option maxHeartbeats 400000 in
theorem frame_neq_eq (f : Fr) (w : World) : (binOp .neq 25 (.agg #[.int .i64 f.k, .int .u16 (f.q : Int), .int .u32 (f.t : Int), .int .i32 f.a, .int .i32 f.b, .int .i32 f.c]) (.agg #[.int .i64 f.k, .int .u16 (f.q : Int), .int .u32 (f.t : Int), .int .i32 f.a, .int .i32 f.b, .int .i32 f.c])).run Try.prog w = .ok (.bool false) w := by
  simp [go_sem]
theorem keeps_drewN (W : World) (n : Nat) : KeepsOthers W (W.drewN n) := ⟨Nat.le_refl _, fun _ _ h _ => h⟩
theorem prefix_snoc {α : Type} {l pre : List α} {x : α} (h : pre <+: l) (hM : pre.length < l.length) : pre ++ [x] <+: l ↔ l[pre.length] = x := by
  obtain ⟨r, rfl⟩ := h
  cases r with
  | nil => simp at hM
  | cons y r =>
    have e : (pre ++ y :: r)[pre.length] = y := by simp
    rw [e]
    constructor
    · intro h
      have h2 := (List.prefix_append_right_inj pre).1 h
      have h3 : x = y := by simpa using h2
      exact h3.symm
    · rintro rfl
      exact (List.prefix_append_right_inj pre).2 (by simp)

set_option maxRecDepth 100000 in
set_option maxHeartbeats 2000000 in
theorem lawFinds_core (A : Option Addr) (L : List UInt8) (N cap : Nat) (hLN : L.length = N) (hN : N ≤ 400) (hcap : N ≤ cap) (hA : A = none → N = 0 ∧ cap = 0)
    (hwk : ∀ w, Calls Try.prog 17 #[] w fun e w' => e = .returned (.bool true) ∧ Below w.heap.size w w') (w0 : World) (hrd : RdL w0 0 w0.heap.size A (L.map bv)) :
    Calls Try.prog 5 #[.slice A N cap] w0 fun e w' => e = .returned (.bool true) ∧ Below w0.heap.size w0 w' := by
  have hI : ¬ (400 : Int) < (N : Int) := by omega
  have hnf : ∀ w g, (binOp .eql 43 (.func (.func 63) #[] #[.pointer (some ⟨g, 0, none⟩)]) .nilFunc).run Try.prog w = .ok (.bool false) w := fun _ _ => by kernel_rfl
  have HLN := Lib.hid hLN
  have HA := Lib.hid hA
  have HR := Lib.hid hrd
  have hall := yall_any A L N cap 0 w0.heap.size (w0.alloc (.cells #[.bool false] 4)) (hrd.alloc _) (by simp) hLN (by omega) hcap
  unfold GotAll at hall
  have hyl : (allL L 0).length ≤ N := by have := allL_len L N 0 (by omega); omega
  have HYl := Lib.hid hyl
  clear hLN hA hrd hyl
  refine callsIn_wide.1 (callsIn_of_wp_marks (n := 9) Try.func5 rfl trivial ?_ rfl)
  simp only [Try.ntmps5, List.size_toArray, List.length_cons, List.length_nil, Nat.reduceAdd, Nat.reduceSub, Array.replicate_succ, Array.replicate_zero, List.push_toArray, List.append_toArray, List.nil_append, List.cons_append]
  refine wpIn_wide.2 ?_
  go_wp2_with fail
  refine hall.mono ?_
  rintro e w1 ⟨v, x, rfl, hv, hx, hb⟩
  rw [List.length_map] at hv hx
  obtain ⟨Af, cf, rfl, hrf, hcf, hmf, hAf⟩ := own_rd hv
  obtain ⟨Ai, ci, rfl, hri, hci, hmi, hAi⟩ := own_rd hx
  go_wp2_with fail
  refine (all_any A N cap _).mono ?_
  rintro e w6 ⟨rfl, rfl⟩
  go_wp2_with fail
  generalize hW0 : (((w1.alloc (.cells #[.slice Af (allL L 0).length cf] 38)).alloc (.cells #[.slice Ai (allL L 0).length ci] 39)).alloc (.cells #[.int .i64 0] 3)).alloc (.cells #[.slice A N cap] 26) = W0 at *
  have hs0 : W0.heap.size = w1.heap.size + 1 + 1 + 1 + 1 := by rw [← hW0]; simp
  have hib : Blk W0 (w1.heap.size + 1 + 1) 3 [.int .i64 0] := by
    rw [← hW0]
    have := (Blk.mk ((w1.alloc (.cells #[.slice Af (allL L 0).length cf] 38)).alloc (.cells #[.slice Ai (allL L 0).length ci] 39)) 3 [.int .i64 0]).alloc (.cells #[.slice A N cap] 26)
    simpa using this
  have hbb : Blk W0 (w1.heap.size + 1 + 1 + 1) 26 [.slice A N cap] := by
    rw [← hW0]
    have := Blk.mk (((w1.alloc (.cells #[.slice Af (allL L 0).length cf] 38)).alloc (.cells #[.slice Ai (allL L 0).length ci] 39)).alloc (.cells #[.int .i64 0] 3)) 26 [.slice A N cap]
    simpa using this
  have hfb : Blk W0 w1.heap.size 38 [.slice Af (allL L 0).length cf] := by
    rw [← hW0]
    have := (((Blk.mk w1 38 [.slice Af (allL L 0).length cf]).alloc (.cells #[.slice Ai (allL L 0).length ci] 39)).alloc (.cells #[.int .i64 0] 3)).alloc (.cells #[.slice A N cap] 26)
    exact this
  have hab : Blk W0 (w1.heap.size + 1) 39 [.slice Ai (allL L 0).length ci] := by
    rw [← hW0]
    have := ((Blk.mk (w1.alloc (.cells #[.slice Af (allL L 0).length cf] 38)) 39 [.slice Ai (allL L 0).length ci]).alloc (.cells #[.int .i64 0] 3)).alloc (.cells #[.slice A N cap] 26)
    simpa using this
  have hb0 : Below w1.heap.size w1 W0 := by rw [← hW0]; exact _root_.Go.Proofs.Ytijijfggppnbpaa.bt (_root_.Go.Proofs.Ytijijfggppnbpaa.bt (_root_.Go.Proofs.Ytijijfggppnbpaa.bt (bl _ _) (bl _ _)) (bl _ _)) (bl _ _)
  refine range_frames (s1 := 7) (s2 := 8) (Bs := w1.heap.size + 1 + 1 + 1) (A := A) (N := N) (cap := cap) (hi := w0.heap.size) (L := L) rfl HLN.out (by omega) hcap HA.out ?bx
    (fun pre W => Keeps2 W0 W (w1.heap.size + 1 + 1) none ∧ Blk W (w1.heap.size + 1 + 1) 3 [.int .i64 (pre.length : Int)] ∧ pre <+: allL L 0) (fun _ pre _ => ¬ (pre <+: allL L 0))
    ?own ?ownx ?start (fun _ _ h => h.1.size) ?assign ?body ?done ?stop
  case own =>
    exact fun s W W' row h hg hr => ⟨h.1.grown hg (.inr fun b hb => (hr b hb).1), h.2.1.grown hg (fun e => by have := (hr _ e.symm).1; omega), h.2.2⟩
  case ownx => exact fun _ _ _ _ _ hs _ _ => hs
  case bx => exact ⟨hbb.cell 0, ((HR.out.alloc _).next hb).next hb0, by have := hb.size; simp at this; omega⟩
  case start => exact ⟨Keeps2.refl _ _ _, hib, List.nil_prefix⟩
  case stop => exact fun D c pre W _ hpre h _ => absurd hpre h
  case assign =>
    rintro l ⟨i, k, q, t, a, b, c⟩ W K hK
    unfold TT Fr.v Fr.cells at hK
    unfold Fr.v Fr.cells
    simp only [List.setIfInBounds_toArray, List.set_cons_zero, List.set_cons_succ] at hK ⊢
    gi_wp2
    exact hK
  case done =>
    rintro D W hD ⟨hk, hbi, _⟩ hKD
    have hrb : Blk W w0.heap.size 4 [.bool false] := ((hk.block w0.heap.size (by have := hb.size; simp at this; omega) (by have := hb.size; simp at this; omega) (by simp)).trans (((Blk.mk w0 4 [.bool false]).next hb).next hb0))
    have e3 : W.cell? ⟨w1.heap.size, 0, none⟩ = some (.slice Af (allL L 0).length cf) := Blk.cell ((hk.block w1.heap.size (by omega) (by omega) (by simp)).trans hfb) 0
    have e5 : W.cell? ⟨w1.heap.size + 1 + 1, 0, none⟩ = some (.int .i64 ((allL L 0).length : Int)) := hbi.cell 0
    have HRB := Lib.hid hrb
    have HKD := Lib.hid hKD
    have HK := Lib.hid hk
    clear hrb hKD hk hbi
    go_wp2_with fail
    refine (hwk _).mono ?_
    rintro e w7 ⟨rfl, hb7⟩
    have hr7 := Blk.next HRB.out hb7
    have c7 : w7.cell? ⟨w0.heap.size, 0, none⟩ = some (.bool false) := Blk.cell hr7 0
    have d7 := Blk.free hr7 0
    go_wp2_with fail
    have hs1 := hb.size
    simp at hs1
    have hK7 : (w7.setCell ⟨w0.heap.size, 0, none⟩ (.bool true)).heap[D]? = some (.deferred (some [])) := (Below.heap_setCell w7 ⟨w0.heap.size, 0, none⟩ _ D (by show D ≠ w0.heap.size; omega)).trans ((hb7.block D (Array.getElem?_eq_some_iff.1 HKD.out).1).trans HKD.out)
    have hc : (w7.setCell ⟨w0.heap.size, 0, none⟩ (.bool true)).cell? ⟨w0.heap.size, 0, none⟩ = some (.bool true) := World.cell?_setCell_same' _ _ _ (by rw [c7]; rfl)
    have hk5 := cell_kept hc (grownBy_putObj' _ D (.deferred none)) (fun r e => by cases e; exact ⟨_, hK7, rfl⟩)
    have hB : Below w0.heap.size w0 w7 := by
      have h1 : Below w0.heap.size w0 W0 := _root_.Go.Proofs.Ytijijfggppnbpaa.bt (_root_.Go.Proofs.Ytijijfggppnbpaa.bt (bl _ _) hb) hb0
      have h2 : Below w0.heap.size w0 W := ⟨HK.out.os.trans h1.os, HK.out.tape.trans h1.tape, HK.out.output.trans h1.output, Nat.le_trans h1.size HK.out.size, fun k h => (HK.out.block k (by have := h1.size; omega) (by omega) (by simp)).trans (h1.block k h)⟩
      exact _root_.Go.Proofs.Ytijijfggppnbpaa.bt h2 hb7
    have hB2 : Below w0.heap.size w0 (w7.setCell ⟨w0.heap.size, 0, none⟩ (.bool true)) := ⟨hB.os, hB.tape, hB.output, by simpa using hB.size, fun k h => (Below.heap_setCell w7 ⟨w0.heap.size, 0, none⟩ _ k (by show k ≠ w0.heap.size; omega)).trans (hB.block k h)⟩
    refine ⟨by simp, .inl ⟨_, _, rfl, run_takeDeferred hK7, ?_⟩⟩
    refine ⟨.bool true, ?_, rfl, hB2.trans (belowK_b (w := w0) (Nat.le_refl _) _ D _ _ (by omega) hK7 rfl rfl)⟩
    simp [results, go_sem, hk5]
  case body =>
    rintro l pre ⟨i, k, q, t, a, b, c⟩ B W hl' ⟨hk, hbi, hpre⟩ hB hBx hlen
    have x0 : W.cell? ⟨B, 0, none⟩ = some (.int .i64 k) := hBx.cell 0
    have x1 : W.cell? ⟨B, 1, none⟩ = some (.int .u16 (q : Int)) := hBx.cell 1
    have x2 : W.cell? ⟨B, 2, none⟩ = some (.int .u32 (t : Int)) := hBx.cell 2
    have x3 : W.cell? ⟨B, 3, none⟩ = some (.int .i32 a) := hBx.cell 3
    have x4 : W.cell? ⟨B, 4, none⟩ = some (.int .i32 b) := hBx.cell 4
    have x5 : W.cell? ⟨B, 5, none⟩ = some (.int .i32 c) := hBx.cell 5
    have e3 : W.cell? ⟨w1.heap.size, 0, none⟩ = some (.slice Af (allL L 0).length cf) := Blk.cell ((hk.block w1.heap.size (by omega) (by omega) (by simp)).trans hfb) 0
    have e4 : W.cell? ⟨w1.heap.size + 1, 0, none⟩ = some (.slice Ai (allL L 0).length ci) := Blk.cell ((hk.block (w1.heap.size + 1) (by omega) (by omega) (by simp)).trans hab) 0
    have e5 : W.cell? ⟨w1.heap.size + 1 + 1, 0, none⟩ = some (.int .i64 (pre.length : Int)) := hbi.cell 0
    have d5 := hbi.free 0
    have hrb : Blk W w0.heap.size 4 [.bool false] := ((hk.block w0.heap.size (by have := hb.size; simp at this; omega) (by have := hb.size; simp at this; omega) (by simp)).trans (((Blk.mk w0 4 [.bool false]).next hb).next hb0))
    have r0 : W.cell? ⟨w0.heap.size, 0, none⟩ = some (.bool false) := hrb.cell 0
    have r1 := hrb.free 0
    clear hrb
    have HK := Lib.hid hk
    have HBi := Lib.hid hbi
    have HP := Lib.hid hpre
    clear hk hbi hpre hBx
    have hri' : RdL W (w0.alloc (.cells #[.bool false] 4)).heap.size w1.heap.size Ai ((allL L 0).map iv) := hri.keep (by have := HK.out.size; omega) (fun k' h1 h2 h3 => (HK.out.block k' (by omega) (by omega) (by simp)).trans (hb0.block k' h3))
    have hrf' : RdL W (w0.alloc (.cells #[.bool false] 4)).heap.size w1.heap.size Af (((allL L 0).map Prod.snd).flatMap Fr.cells) := hrf.keep (by have := HK.out.size; omega) (fun k' h1 h2 h3 => (HK.out.block k' (by omega) (by omega) (by simp)).trans (hb0.block k' h3))
    have HRi := Lib.hid hri'
    have HRf := Lib.hid hrf'
    clear hri' hrf'
    by_cases hM : pre.length < (allL L 0).length
    · have hsn := prefix_snoc (x := (i, (⟨k, q, t, a, b, c⟩ : Fr))) HP.out hM
      have HSn := Lib.hid hsn
      clear hsn
      obtain ⟨bi, oi, rfl, _, _, _, hci'⟩ := HRi.out.some (by rw [List.length_map]; omega)
      obtain ⟨bf, of, rfl, _, _, _, _⟩ := HRf.out.some (by rw [flatMap_len Fr.cells 6 (fun _ => rfl), List.length_map]; omega)
      have hcf' := HRf.out.elem Fr.cells 6 (fun _ => rfl) (i := pre.length) (by rw [List.length_map]; exact hM)
      have i0 : W.cell? ⟨bi, oi + pre.length, none⟩ = some (.int .i64 (((allL L 0)[pre.length]).1 : Int)) := hci' _ _ (by rw [List.getElem?_map, List.getElem?_eq_getElem hM]; rfl)
      have HSn' := HSn.out
      rw [List.getElem_map] at hcf'
      generalize (allL L 0)[pre.length] = y at *
      obtain ⟨i', k', q', t', a', b', c'⟩ := y
      dsimp only at i0 hcf'
      have f0 : W.cell? ⟨bf, of + pre.length * 6, none⟩ = some (.int .i64 k') := hcf' 0 _ (by decide) rfl
      have f1 : W.cell? ⟨bf, of + pre.length * 6 + 1, none⟩ = some (.int .u16 (q' : Int)) := hcf' 1 _ (by decide) rfl
      have f2 : W.cell? ⟨bf, of + pre.length * 6 + 2, none⟩ = some (.int .u32 (t' : Int)) := hcf' 2 _ (by decide) rfl
      have f3 : W.cell? ⟨bf, of + pre.length * 6 + 3, none⟩ = some (.int .i32 a') := hcf' 3 _ (by decide) rfl
      have f4 : W.cell? ⟨bf, of + pre.length * 6 + 4, none⟩ = some (.int .i32 b') := hcf' 4 _ (by decide) rfl
      have f5 : W.cell? ⟨bf, of + pre.length * 6 + 5, none⟩ = some (.int .i32 c') := hcf' 5 _ (by decide) rfl
      have hMI : ¬ ((allL L 0).length : Int) ≤ (pre.length : Int) := by omega
      have hMI2 : decide ((allL L 0).length ≤ pre.length) = false := decide_eq_false (by omega)
      have hMl : (pre.length : Int) < ((allL L 0).length : Int) := by omega
      have hyl := HYl.out
      have hpl : (pre.length : Int) ≤ 400 := by omega
      have HS2 := Lib.hid HSn'
      clear HSn' hci' hcf' HSn
      by_cases hi : i = i'
      · subst hi
        by_cases hf : (⟨k, q, t, a, b, c⟩ : Fr) = ⟨k', q', t', a', b', c'⟩
        · have hpx := HS2.out.2 (by rw [hf])
          have HPX := Lib.hid hpx
          injection hf with h1 h2 h3 h4 h5 h6
          subst h1 h2 h3 h4 h5 h6
          have hfe := fun w => frame_neq_eq ⟨k, q, t, a, b, c⟩ w
          dsimp only at hfe
          clear hpx
          unfold TT Fr.v Fr.cells
          simp only [List.setIfInBounds_toArray, List.set_cons_zero, List.set_cons_succ]
          gi_wp2
          refine region_round_quiet (by kernel_rfl) (by kernel_rfl) (by kernel_rfl) ?_
          repeat (go_big_quiet_step (fail))
          refine wpQuiet_nil ?_
          rintro _ ⟨nq, rfl⟩
          gi_wp2
          have hk' : Keeps2 W0 (W.drewN nq) (w1.heap.size + 1 + 1) none := HK.out.next (below_drewN (Below.refl _ _) nq)
          refine ⟨((keeps_drewN W nq).trans (KeepsOthers.setCell _ _ _)).from _, fun h => ?_, hk'.set 0 _, ?_, HPX.out⟩
          · refine ⟨?_, (h.rd.drewN nq).far (p := ⟨w1.heap.size + 1 + 1, 0, none⟩) (.inr (by show w0.heap.size ≤ w1.heap.size + 1 + 1; have := hb.size; simp at this; omega)) _, by simpa using h.sz⟩
            exact (World.cell?_setCell_other (W.drewN nq) ⟨w1.heap.size + 1 + 1, 0, none⟩ ⟨w1.heap.size + 1 + 1 + 1, 0, none⟩ _ (by simp)).trans h.box
          · have hp := (HBi.out.drewN nq).put 0 (.int .i64 ((pre.length : Int) + 1))
            rw [List.length_append, List.length_singleton, Int.natCast_add]
            exact hp
        · have hnp : ¬ (pre ++ [(i, ⟨k, q, t, a, b, c⟩)]) <+: allL L 0 := fun h => hf (by have := HS2.out.1 h; injection this with _ h; exact h.symm)
          have HNP := Lib.hid hnp
          have hfe := fun w => frame_neq_ne ⟨k, q, t, a, b, c⟩ ⟨k', q', t', a', b', c'⟩ hf w
          dsimp only at hfe
          clear hnp hf
          unfold TT Fr.v Fr.cells
          simp only [List.setIfInBounds_toArray, List.set_cons_zero, List.set_cons_succ]
          gi_wp2
          refine region_round_quiet (by kernel_rfl) (by kernel_rfl) (by kernel_rfl) ?_
          repeat (go_big_quiet_step (fail))
          refine wpQuiet_nil ?_
          rintro _ ⟨nq, rfl⟩
          gi_wp2
          exact ⟨((keeps_drewN W nq).trans (KeepsOthers.setCell _ _ _)).from _, HNP.out⟩
      · have hnp : ¬ (pre ++ [(i, ⟨k, q, t, a, b, c⟩)]) <+: allL L 0 := fun h => hi (by have := HS2.out.1 h; injection this with h _; exact h.symm)
        have HNP := Lib.hid hnp
        have hi1 : ((i : Int) == (i' : Int)) = false := by rw [beq_eq_false_iff_ne]; omega
        have hi2 : ((i : Int) != (i' : Int)) = true := by rw [bne_iff_ne]; omega
        have hi3 : (i == i') = false := by rw [beq_eq_false_iff_ne]; omega
        have hi4 : (i != i') = true := by rw [bne_iff_ne]; omega
        clear hnp
        unfold TT Fr.v Fr.cells
        simp only [List.setIfInBounds_toArray, List.set_cons_zero, List.set_cons_succ]
        gi_wp2
        refine region_round_quiet (by kernel_rfl) (by kernel_rfl) (by kernel_rfl) ?_
        repeat (go_big_quiet_step (fail))
        refine wpQuiet_nil ?_
        rintro _ ⟨nq, rfl⟩
        gi_wp2
        exact ⟨((keeps_drewN W nq).trans (KeepsOthers.setCell _ _ _)).from _, HNP.out⟩
    · have hMI : ((allL L 0).length : Int) ≤ (pre.length : Int) := by omega
      have hMI2 : decide ((allL L 0).length ≤ pre.length) = true := decide_eq_true (by omega)
      have hnp : ¬ (pre ++ [(i, ⟨k, q, t, a, b, c⟩)]) <+: allL L 0 := fun h => by
        have := h.length_le
        rw [List.length_append, List.length_singleton] at this
        omega
      have HNP := Lib.hid hnp
      clear hnp
      unfold TT Fr.v Fr.cells
      simp only [List.setIfInBounds_toArray, List.set_cons_zero, List.set_cons_succ]
      gi_wp2
      refine region_round_quiet (by kernel_rfl) (by kernel_rfl) (by kernel_rfl) ?_
      repeat (go_big_quiet_step (fail))
      refine wpQuiet_nil ?_
      rintro _ ⟨nq, rfl⟩
      gi_wp2
      exact ⟨((keeps_drewN W nq).trans (KeepsOthers.setCell _ _ _)).from _, HNP.out⟩
end Frm
end Go.Proofs.Ytijijfggppnbpaa
