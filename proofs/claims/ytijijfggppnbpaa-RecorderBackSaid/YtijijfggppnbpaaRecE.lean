/-
  The walk of what the laws of layer 30 ask: are.
-/
import Derived.Test.YtijijfggppnbpaaRecT
import Derived.Test.YtijijfggppnbpaaRndQ
namespace Go.Proofs.Ytijijfggppnbpaa
open Go.RowKit Go.Shelf
set_option linter.unusedVariables false
namespace Rec
open Frm Txt
attribute [local go_sem] Oper.semAt_some
def bo (b : Bool) : Value := .bool b
/-- what is to stand in the cells, by rising numbers: the frames that are not lost -/
def exp (fs : List Fr) (lo : List Bool) (n : Nat) : Option (Nat × Fr) := if lo.getD (n % lo.length) false = true then none else (fs[n - 1]?).map (fun f => (n, f))
def expF (fs : List Fr) (lo : List Bool) (n d : Nat) : List (Nat × Fr) := (List.range' n d).filterMap (exp fs lo)
theorem expF_succ (fs : List Fr) (lo : List Bool) (n d : Nat) : expF fs lo n (d + 1) = (exp fs lo n).toList ++ expF fs lo (n + 1) d := by
  unfold expF
  rw [List.range'_succ]
  cases h : exp fs lo n with
  | none => rw [List.filterMap_cons_none h]; rfl
  | some x => rw [List.filterMap_cons_some h]; rfl
theorem expF_zero (fs : List Fr) (lo : List Bool) (n : Nat) : expF fs lo n 0 = [] := rfl
/-- one block alone may have changed -/
structure Same1 (g : Nat) (W W' : World) : Prop where
  os : W'.os = W.os
  tape : W'.tape = W.tape
  output : W'.output = W.output
  size : W'.heap.size = W.heap.size
  block : ∀ b, b ≠ g → W'.heap[b]? = W.heap[b]?
theorem Same1.refl (g : Nat) (W : World) : Same1 g W W := ⟨rfl, rfl, rfl, rfl, fun _ _ => rfl⟩
theorem Same1.set {g : Nat} {W W' : World} (S : Same1 g W W') (i : Nat) (u : Value) : Same1 g W (W'.setCell ⟨g, i, none⟩ u) :=
  ⟨S.os, S.tape, S.output, by simpa using S.size, fun b hb => (Below.heap_setCell W' ⟨g, i, none⟩ u b hb).trans (S.block b hb)⟩
theorem Same1.drewN {g : Nat} {W W' : World} (S : Same1 g W W') (n : Nat) : Same1 g W (W'.drewN n) := ⟨S.os, S.tape, S.output, S.size, S.block⟩
set_option maxRecDepth 100000 in
set_option maxHeartbeats 400000 in
theorem fr_neq_ne (f g : Fr) (h : f ≠ g) (w : World) : (binOp .neq 25 (.agg #[.int .i64 f.k, .int .u16 (f.q : Int), .int .u32 (f.t : Int), .int .i32 f.a, .int .i32 f.b, .int .i32 f.c]) (.agg #[.int .i64 g.k, .int .u16 (g.q : Int), .int .u32 (g.t : Int), .int .i32 g.a, .int .i32 g.b, .int .i32 g.c])).run Try.prog w = .ok (.bool true) w := by
  obtain ⟨k, q, t, a, b, c⟩ := f
  obtain ⟨k', q', t', a', b', c'⟩ := g
  simp [go_sem]
  intro h1 h2 h3 h4 h5 h6
  have h2' : q = q' := by omega
  have h3' : t = t' := by omega
  exact h (by subst h1 h2' h3' h4 h5 h6; rfl)
set_option maxRecDepth 100000 in
set_option maxHeartbeats 400000 in
theorem fr_neq_eq (f : Fr) (w : World) : (binOp .neq 25 (.agg #[.int .i64 f.k, .int .u16 (f.q : Int), .int .u32 (f.t : Int), .int .i32 f.a, .int .i32 f.b, .int .i32 f.c]) (.agg #[.int .i64 f.k, .int .u16 (f.q : Int), .int .u32 (f.t : Int), .int .i32 f.a, .int .i32 f.b, .int .i32 f.c])).run Try.prog w = .ok (.bool false) w := by
  simp [go_sem]
/-- what are reads, in the world ahead of its loop -/
structure AW (b : Nat) (Al : Option Addr) (fs : List Fr) (m cl : Nat) (Lo : Option Addr) (lo : List Bool) (ll c2 : Nat) (W : World) : Prop where
  b0 : Blk W b 38 [.slice Al m cl]
  b1 : Blk W (b + 1) 75 [.slice Lo ll c2]
  b2 : Blk W (b + 2) 4 [.bool false]
  fr : RdL W 0 b Al (frs fs)
  lo : RdL W 0 b Lo (lo.map bo)
theorem AW.keep {b : Nat} {Al : Option Addr} {fs : List Fr} {m cl : Nat} {Lo : Option Addr} {lo : List Bool} {ll c2 : Nat} {W W' : World} (S : AW b Al fs m cl Lo lo ll c2 W) (hs : W.heap.size ≤ W'.heap.size) (hk : ∀ k, k ≤ b + 2 → k < W.heap.size → W'.heap[k]? = W.heap[k]?) : AW b Al fs m cl Lo lo ll c2 W' :=
  ⟨(hk b (by omega) S.b0.lt).trans S.b0, (hk (b + 1) (by omega) S.b1.lt).trans S.b1, (hk (b + 2) (by omega) S.b2.lt).trans S.b2, S.fr.keep hs (fun k _ h2 h3 => hk k (by omega) h3), S.lo.keep hs (fun k _ h2 h3 => hk k (by omega) h3)⟩
theorem AW.next {b : Nat} {Al : Option Addr} {fs : List Fr} {m cl : Nat} {Lo : Option Addr} {lo : List Bool} {ll c2 : Nat} {W W' : World} (S : AW b Al fs m cl Lo lo ll c2 W) (hb : Below W.heap.size W W') : AW b Al fs m cl Lo lo ll c2 W' := S.keep hb.size (fun k _ h => hb.block k h)
theorem not_pre {α : Type} {pre rest : List α} {x y : α} (h : x ≠ y) : ¬ (pre ++ [x] <+: pre ++ (y :: rest)) := fun hp => by
  have h2 := (List.prefix_append_right_inj pre).1 hp
  have h3 : x = y := by simpa using h2
  exact h h3
theorem not_pre0 {α : Type} {pre : List α} {x : α} : ¬ (pre ++ [x] <+: pre) := fun hp => by
  have := hp.length_le
  simp at this
  omega
theorem expF_lost {fs : List Fr} {lo : List Bool} {n d : Nat} (h : lo.getD (n % lo.length) false = true) (hd : 1 ≤ d) : expF fs lo n d = expF fs lo (n + 1) (d - 1) := by
  obtain ⟨d', rfl⟩ : ∃ d', d = d' + 1 := ⟨d - 1, by omega⟩
  rw [expF_succ, exp, if_pos h]
  rfl
theorem expF_kept {fs : List Fr} {lo : List Bool} {n d : Nat} (h : lo.getD (n % lo.length) false = false) (hd : 1 ≤ d) (hn : n - 1 < fs.length) : expF fs lo n d = (n, fs[n - 1]) :: expF fs lo (n + 1) (d - 1) := by
  obtain ⟨d', rfl⟩ : ∃ d', d = d' + 1 := ⟨d - 1, by omega⟩
  rw [expF_succ, exp, if_neg (by rw [h]; decide), List.getElem?_eq_getElem hn]
  rfl
theorem keeps_set2 {g : Nat} {W W' : World} (S : Same1 g W W') (hg : ∃ o, W.heap[g]? = some o ∧ o.isCells = true) (n1 : Nat) (a : Addr) (u : Value) : KeepsOthers W ((W'.drewN n1).setCell a u) := by
  have h1 : KeepsOthers W W' := ⟨by rw [S.size]; exact Nat.le_refl _, fun k o hk ho => (S.block k (fun e => by
    obtain ⟨o', h2, h3⟩ := hg
    rw [e, h2] at hk
    injection hk with hk
    subst hk
    rw [h3] at ho
    cases ho)).trans hk⟩
  have h2 : KeepsOthers W' (W'.drewN n1) := ⟨Nat.le_refl _, fun _ _ h _ => h⟩
  exact (h1.trans h2).trans (KeepsOthers.setCell _ _ _)
def numV : Option Value → Nat
  | some (.int _ n) => n.toNat
  | _ => 0
set_option maxRecDepth 100000 in
set_option maxHeartbeats 2000000 in
theorem are_any {w : World} {gr gb cap k nx : Nat} {B : List UInt8} (S : RB w gr gb cap B nx) (hB : B.length = 40 * k) (hk1 : 1 ≤ k) (hk2 : k ≤ 1024) (hn1 : 1 ≤ nx) (hn2 : nx ≤ 9223372036854775808)
    (Al : Option Addr) (fs : List Fr) (m cl : Nat) (hf : RdL w 0 w.heap.size Al (frs fs)) (hm : fs.length = m) (hm2 : m ≤ 1000) (fr : Nat) (hfr : 1 ≤ fr) (hfr2 : fr ≤ m + 1)
    (Lo : Option Addr) (lo : List Bool) (ll c2 : Nat) (hlo : RdL w 0 w.heap.size Lo (lo.map bo)) (hll : lo.length = ll) (hl1 : 1 ≤ ll) (hl2 : ll ≤ 1000) (hall : allE B k nx = expF fs lo fr (m + 1 - fr)) :
    Calls Try.prog 48 #[.pointer (some ⟨gr, 0, none⟩), .slice Al m cl, .int .i64 (fr : Int), .slice Lo ll c2] w (fun e w' => e = .returned (.bool true) ∧ Below w.heap.size w w') := by
  have hgr := S.box.lt
  have hgb := (own_lt S.own (b := gb) rfl).2
  have hnf : ∀ w g, (binOp .eql 103 (.func (.func 73) #[] #[.pointer (some ⟨g, 0, none⟩)]) .nilFunc).run Try.prog w = .ok (.bool false) w := fun _ _ => by kernel_rfl
  have HM := Lib.hid hm
  have HLL := Lib.hid hll
  have HALL := Lib.hid hall
  have hcall := allR_any (some ⟨gr, 0, none⟩) (((w.alloc (.cells #[.slice Al m cl] 38)).alloc (.cells #[.slice Lo ll c2] 75)).alloc (.cells #[.bool false] 4))
  have HS := Lib.hid S
  have HF := Lib.hid hf
  have HLO := Lib.hid hlo
  clear S hf hlo hm hll hall
  refine callsIn_wide.1 (callsIn_of_wp_marks (n := 9) Try.func48 rfl trivial ?_ rfl)
  simp only [Try.ntmps48, List.size_toArray, List.length_cons, List.length_nil, Nat.reduceAdd, Nat.reduceSub, Array.replicate_succ, Array.replicate_zero, List.push_toArray, List.append_toArray, List.nil_append, List.cons_append]
  refine wpIn_wide.2 ?_
  go_wp2_with fail
  refine hcall.mono ?_
  rintro e w1 ⟨rfl, rfl⟩
  go_wp2_with fail
  generalize hW0 : (((((w.alloc (.cells #[.slice Al m cl] 38)).alloc (.cells #[.slice Lo ll c2] 75)).alloc (.cells #[.bool false] 4)).alloc (.cells #[.pointer (some ⟨gr, 0, none⟩)] 65)).alloc (.cells #[.int .i64 (fr : Int)] 3)) = W0 at *
  have hs0 : W0.heap.size = w.heap.size + 1 + 1 + 1 + 1 + 1 := by rw [← hW0]; simp
  have hb0 : Below w.heap.size w W0 := by rw [← hW0]; exact bt (bt (bt (bt (bl _ _) (bl _ _)) (bl _ _)) (bl _ _)) (bl _ _)
  have haw : AW w.heap.size Al fs m cl Lo lo ll c2 W0 := by
    refine ⟨?_, ?_, ?_, HF.out.next hb0, HLO.out.next hb0⟩
    · rw [← hW0]; exact ((((Blk.mk w 38 [.slice Al m cl]).alloc _).alloc _).alloc _).alloc _
    · rw [← hW0]
      have h := (((Blk.mk (w.alloc (.cells #[.slice Al m cl] 38)) 75 [.slice Lo ll c2]).alloc (.cells #[.bool false] 4)).alloc (.cells #[.pointer (some ⟨gr, 0, none⟩)] 65)).alloc (.cells #[.int .i64 (fr : Int)] 3)
      simpa using h
    · rw [← hW0]
      have h := ((Blk.mk ((w.alloc (.cells #[.slice Al m cl] 38)).alloc (.cells #[.slice Lo ll c2] 75)) 4 [.bool false]).alloc (.cells #[.pointer (some ⟨gr, 0, none⟩)] 65)).alloc (.cells #[.int .i64 (fr : Int)] 3)
      simpa using h
  have hb4 : Blk W0 (w.heap.size + 4) 3 [.int .i64 (fr : Int)] := by
    rw [← hW0]
    have h := Blk.mk ((((w.alloc (.cells #[.slice Al m cl] 38)).alloc (.cells #[.slice Lo ll c2] 75)).alloc (.cells #[.bool false] 4)).alloc (.cells #[.pointer (some ⟨gr, 0, none⟩)] 65)) 3 [.int .i64 (fr : Int)]
    simpa using h
  have hbx : RX (w.heap.size + 3) gr gb cap B nx W0 := ⟨by
    have h := ((Blk.mk (((w.alloc (.cells #[.slice Al m cl] 38)).alloc (.cells #[.slice Lo ll c2] 75)).alloc (.cells #[.bool false] 4)) 65 [.pointer (some ⟨gr, 0, none⟩)]).alloc (.cells #[.int .i64 (fr : Int)] 3)).cell 0
    rw [hW0] at h
    simpa using h, HS.out.next hb0⟩
  clear hW0 hcall HS HF HLO
  refine range_entries (s := 11) (Bs := w.heap.size + 3) rfl hB hk1 hk2 hn1 hn2 hbx
    (fun pre W => Keeps2 W0 W (w.heap.size + 4) none ∧ ∃ n d : Nat, Blk W (w.heap.size + 4) 3 [.int .i64 (n : Int)] ∧ 1 ≤ n ∧ n + d = m + 1 ∧ allE B k nx = pre ++ expF fs lo n d) (fun _ pre _ => ¬ (pre <+: allE B k nx))
    ?own ?ownx ?start (fun _ _ h => h.1.size) ?assign ?body ?done ?stop
  case own =>
    rintro s W W' row ⟨h, n, d, h1, h2⟩ hg hr
    exact ⟨h.grown hg (.inr fun b hb => (hr b hb).1), n, d, h1.grown hg (fun e => by have := (hr _ e.symm).1; omega), h2⟩
  case ownx => exact fun _ _ _ _ _ hs _ _ => hs
  case start => exact ⟨Keeps2.refl _ _ _, fr, m + 1 - fr, hb4, hfr, by omega, HALL.out⟩
  case stop => exact fun D c pre W _ hpre h _ => absurd hpre h
  case assign =>
    rintro l ⟨i, k, q, t, a, b, c⟩ W K hK
    unfold TE entC Fr.cells at hK
    unfold entC Fr.cells
    simp only [List.setIfInBounds_toArray, List.set_cons_zero, List.set_cons_succ] at hK ⊢
    gi_wp2
    exact hK
  case done =>
    rintro D W hD ⟨hkp, n0, d0, hbn, hn01, hnd, hal⟩ hKD
    have hws := hkp.size
    have haw2 : AW w.heap.size Al fs m cl Lo lo ll c2 W := haw.keep hkp.size (fun k' h1 h2 => hkp.block k' h2 (by omega) (by simp))
    have hex0 : expF fs lo n0 d0 = [] := by simpa using hal
    have HKP := Lib.hid hkp
    have HAW := Lib.hid haw2
    have HBN := Lib.hid hbn
    have HND := Lib.hid hnd
    have HB : Hid (Below w.heap.size w W) := Lib.hid ⟨hkp.os.trans hb0.os, hkp.tape.trans hb0.tape, hkp.output.trans hb0.output, Nat.le_trans hb0.size hkp.size, fun b hb => (hkp.block b (by omega) (by omega) (by simp)).trans (hb0.block b hb)⟩
    have HKD := Lib.hid hKD
    have HE0 := Lib.hid hex0
    clear hkp hbn hal hnd hbx haw hb4 haw2 hb0 HALL hex0 hKD
    go_wp2_with fail
    go_loopw [] (fun wr => ∃ n d : Nat, 1 ≤ n ∧ n + d = m + 1 ∧ expF fs lo n d = [] ∧ Same1 (w.heap.size + 4) W wr ∧ Blk wr (w.heap.size + 4) 3 [.int .i64 (n : Int)]) (fun wr => m + 1 - numV (wr.cell? ⟨w.heap.size + 4, 0, none⟩))
    case atStart => exact ⟨n0, d0, hn01, HND.out, HE0.out, Same1.refl _ _, HBN.out⟩
    case round =>
      obtain ⟨n, d, hn, hnd, hex, hS1, hbn⟩ := hrel
      have HS1 := Lib.hid hS1
      have HAR := Lib.hid (HAW.out.keep (W' := wr) (by rw [hS1.size]; exact Nat.le_refl _) (fun k' h1 h2 => hS1.block k' (by omega)))
      have HBN2 := Lib.hid hbn
      have HEX := Lib.hid hex
      have HND2 := Lib.hid hnd
      have c5 : wr.cell? ⟨w.heap.size, 0, none⟩ = some (.slice Al m cl) := HAR.out.b0.cell 0
      have c7 : wr.cell? ⟨w.heap.size + 1, 0, none⟩ = some (.slice Lo ll c2) := HAR.out.b1.cell 0
      have c8 : wr.cell? ⟨w.heap.size + 2, 0, none⟩ = some (.bool false) := HAR.out.b2.cell 0
      have f8 := HAR.out.b2.free 0
      have c10 : wr.cell? ⟨w.heap.size + 4, 0, none⟩ = some (.int .i64 (n : Int)) := HBN2.out.cell 0
      have f10 := HBN2.out.free 0
      clear hS1 hbn hex hnd HBN
      have hnm2 : n ≤ m + 1 := by have := HND2.out; omega
      by_cases hnm : n ≤ m
      · have dnm : decide (n ≤ m) = true := decide_eq_true hnm
        have dnmI : decide ((n : Int) ≤ (m : Int)) = true := decide_eq_true (by omega)
        have tk : (n : Int).tmod (ll : Int) = ((n % ll : Nat) : Int) := by rw [Int.tmod_eq_emod_of_nonneg (by omega)]; rfl
        obtain ⟨q, hq⟩ : ∃ q, q = n % ll := ⟨_, rfl⟩
        rw [← hq] at tk
        have hql : q < ll := by rw [hq]; exact Nat.mod_lt _ hl1
        obtain ⟨bL, oL, rfl, _, _, _, hcL⟩ := HAR.out.lo.some (by rw [List.length_map, HLL.out]; omega)
        have hql' : q < lo.length := by rw [HLL.out]; exact hql
        have hlv : lo.getD (n % lo.length) false = true := by
          rw [← Bool.not_eq_false]
          intro h
          have := HEX.out
          rw [expF_kept h (by have := HND2.out; omega) (by rw [HM.out]; omega)] at this
          cases this
        have cL : wr.cell? ⟨bL, oL + q, none⟩ = some (.bool true) := by
          refine hcL q _ ?_
          rw [HLL.out, ← hq, List.getD_eq_getElem?_getD, List.getElem?_eq_getElem hql'] at hlv
          rw [List.getElem?_map, List.getElem?_eq_getElem hql']
          exact congrArg (fun x => some (bo x)) hlv
        have HLV := Lib.hid hlv
        have nz : ((ll : Int) == 0) = false := by rw [beq_eq_false_iff_ne]; omega
        have nz2 : (ll : Int) ≠ 0 := by omega
        have nz3 : ll ≠ 0 := by omega
        have wq : IntKind.i64.wrap (q : Int) = (q : Int) := IntWalk.i64_in _ (by omega)
        have q0 : (0 : Int) ≤ (q : Int) := by omega
        have q1 : (q : Int) < (ll : Int) := by omega
        have wn1 : IntKind.i64.wrap ((n : Int) + 1) = ((n + 1 : Nat) : Int) := by rw [IntWalk.i64_in _ (by omega)]; rfl
        clear hcL hlv hq hql'
        go_wp2_with fail
        go_quiet (fail)
        go_wp2_with fail
        have hbp := (HBN2.out.drewN nq).put 0 (.int .i64 ((n : Int) + 1))
        refine ⟨⟨n + 1, d - 1, by omega, by have := HND2.out; omega, ?_, (HS1.out.drewN nq).set 0 _, hbp⟩, ?_⟩
        · rw [← HEX.out, expF_lost HLV.out (by have := HND2.out; omega)]
        · have h9 := hbp.cell 0
          rw [show ((wr.drewN nq).setCell ⟨w.heap.size + 1 + 1 + 1 + 1, 0, none⟩ (Value.int .i64 ((n : Int) + 1))).cell? ⟨w.heap.size + 4, 0, none⟩ = some (.int .i64 ((n : Int) + 1)) from h9, c10]
          simp only [numV]
          omega
      · have dnm : decide (n ≤ m) = false := decide_eq_false hnm
        have dnmI : decide ((n : Int) ≤ (m : Int)) = false := decide_eq_false (by omega)
        have wm1 : IntKind.i64.wrap ((m : Int) + 1) = (n : Int) := by rw [IntWalk.i64_in _ (by omega)]; omega
        go_wp2_with fail
        go_quiet (fail)
        go_wp2_with fail
        have hK7 : ((wr.drewN nq).setCell ⟨w.heap.size + 1 + 1, 0, none⟩ (.bool true)).heap[D]? = some (.deferred (some [])) := (Below.heap_setCell (wr.drewN nq) ⟨w.heap.size + 1 + 1, 0, none⟩ _ D (by show D ≠ w.heap.size + 1 + 1; omega)).trans ((HS1.out.block D (by omega)).trans HKD.out)
        have hc : ((wr.drewN nq).setCell ⟨w.heap.size + 1 + 1, 0, none⟩ (.bool true)).cell? ⟨w.heap.size + 1 + 1, 0, none⟩ = some (.bool true) := World.cell?_setCell_same' _ _ _ (by rw [show (wr.drewN nq).cell? ⟨w.heap.size + 1 + 1, 0, none⟩ = some (.bool false) from c8]; rfl)
        have hk5 := cell_kept hc (grownBy_putObj' _ D (.deferred none)) (fun r e => by cases e; exact ⟨_, hK7, rfl⟩)
        have hB2 : Below w.heap.size w ((wr.drewN nq).setCell ⟨w.heap.size + 1 + 1, 0, none⟩ (.bool true)) := ⟨HS1.out.os.trans HB.out.os, HS1.out.tape.trans HB.out.tape, HS1.out.output.trans HB.out.output, by have := HS1.out.size; have := HB.out.size; simp; omega, fun k' h => (Below.heap_setCell (wr.drewN nq) ⟨w.heap.size + 1 + 1, 0, none⟩ _ k' (by show k' ≠ w.heap.size + 1 + 1; omega)).trans ((HS1.out.block k' (by omega)).trans (HB.out.block k' h))⟩
        refine ⟨by simp, .inl ⟨_, _, rfl, run_takeDeferred hK7, ?_⟩⟩
        refine ⟨.bool true, ?_, rfl, hB2.trans (belowK_b (w := w) (Nat.le_refl _) _ D _ _ (by omega) hK7 rfl rfl)⟩
        simp [results, go_sem, hk5]
  case body =>
    rintro l pre ⟨i, x1, x2, x3, x4, x5, x6⟩ B' W hl' ⟨hkp, n0, d0, hbn, hn01, hnd, hal⟩ hB' hBx hlen
    have hws := hkp.size
    have haw2 : AW w.heap.size Al fs m cl Lo lo ll c2 W := haw.keep hkp.size (fun k' h1 h2 => hkp.block k' h2 (by omega) (by simp))
    have HKP := Lib.hid hkp
    have HAL := Lib.hid hal
    have HAW := Lib.hid haw2
    have HBN := Lib.hid hbn
    have HBW := Lib.hid hbn
    have HBX := Lib.hid hBx
    have HND := Lib.hid hnd
    have hB4 : w.heap.size + 4 ≠ B' := by omega
    have HRK : Hid (∀ W', Same1 (w.heap.size + 4) W W' → RX (w.heap.size + 3) gr gb cap B nx W → RX (w.heap.size + 3) gr gb cap B nx W') := Lib.hid (fun W' h hx => hx.keep (fun b hb => h.block b (by rcases hb with rfl | rfl | rfl <;> omega)))
    have HKF : Hid (∀ W', Same1 (w.heap.size + 4) W W' → KeepsFrom W0.heap.size W W') := Lib.hid (fun W' h => ⟨by rw [h.size]; exact Nat.le_refl _, fun k' o hk ho _ => (h.block k' (by omega)).trans ho⟩)
    have HKK : Hid (∀ W', Same1 (w.heap.size + 4) W W' → Keeps2 W0 W' (w.heap.size + 4) none) := Lib.hid (fun W' h => ⟨h.os.trans HKP.out.os, h.tape.trans HKP.out.tape, h.output.trans HKP.out.output, by rw [h.size]; exact HKP.out.size, fun k' h1 h2 h3 => (h.block k' h2).trans (HKP.out.block k' h1 h2 h3)⟩)
    clear hkp hbn hBx hal hnd hbx haw hb4 haw2 hb0 HALL
    unfold TE entC Fr.cells
    simp only [List.setIfInBounds_toArray, List.set_cons_zero, List.set_cons_succ]
    gi_wp2_with fail
    gi_loopw [] (fun wr => ∃ n d : Nat, 1 ≤ n ∧ n + d = m + 1 ∧ expF fs lo n d = expF fs lo n0 d0 ∧ Same1 (w.heap.size + 4) W wr ∧ Blk wr (w.heap.size + 4) 3 [.int .i64 (n : Int)]) (fun wr => m + 1 - numV (wr.cell? ⟨w.heap.size + 4, 0, none⟩))
    case atStart => exact ⟨n0, d0, hn01, HND.out, rfl, Same1.refl _ _, HBN.out⟩
    case round =>
      obtain ⟨n, d, hn, hnd, hex, hS1, hbn⟩ := hrel
      have HS1 := Lib.hid hS1
      have HAR := Lib.hid (HAW.out.keep (W' := wr) (by rw [hS1.size]; exact Nat.le_refl _) (fun k' h1 h2 => hS1.block k' (by omega)))
      have HBR : Hid (Blk wr B' 106 (entC (i, ⟨x1, x2, x3, x4, x5, x6⟩))) := Lib.hid ((hS1.block B' (by omega)).trans HBX.out)
      have HBN2 := Lib.hid hbn
      have HEX := Lib.hid hex
      have HND2 := Lib.hid hnd
      have c5 : wr.cell? ⟨w.heap.size, 0, none⟩ = some (.slice Al m cl) := HAR.out.b0.cell 0
      have c7 : wr.cell? ⟨w.heap.size + 1, 0, none⟩ = some (.slice Lo ll c2) := HAR.out.b1.cell 0
      have c8 : wr.cell? ⟨w.heap.size + 2, 0, none⟩ = some (.bool false) := HAR.out.b2.cell 0
      have f8 := HAR.out.b2.free 0
      have c10 : wr.cell? ⟨w.heap.size + 4, 0, none⟩ = some (.int .i64 (n : Int)) := HBN2.out.cell 0
      have f10 := HBN2.out.free 0
      clear hS1 hbn hex hnd HBN
      have hnm2 : n ≤ m + 1 := by have := HND2.out; omega
      by_cases hnm : n ≤ m
      · have dnm : decide (n ≤ m) = true := decide_eq_true hnm
        have dnmI : decide ((n : Int) ≤ (m : Int)) = true := decide_eq_true (by omega)
        have tk : (n : Int).tmod (ll : Int) = ((n % ll : Nat) : Int) := by rw [Int.tmod_eq_emod_of_nonneg (by omega)]; rfl
        obtain ⟨q, hq⟩ : ∃ q, q = n % ll := ⟨_, rfl⟩
        rw [← hq] at tk
        have hql : q < ll := by rw [hq]; exact Nat.mod_lt _ hl1
        obtain ⟨bL, oL, rfl, _, _, _, hcL⟩ := HAR.out.lo.some (by rw [List.length_map, HLL.out]; omega)
        obtain ⟨lv, hlv⟩ : ∃ lv, lv = lo.getD q false := ⟨_, rfl⟩
        have hql' : q < lo.length := by rw [HLL.out]; exact hql
        have cL : wr.cell? ⟨bL, oL + q, none⟩ = some (.bool lv) := by
          refine hcL q _ ?_
          rw [List.getElem?_map, List.getElem?_eq_getElem hql', hlv, List.getD_eq_getElem?_getD, List.getElem?_eq_getElem hql']
          rfl
        have HLV : Hid (lv = lo.getD (n % lo.length) false) := Lib.hid (by rw [HLL.out, ← hq]; exact hlv)
        have nz : ((ll : Int) == 0) = false := by rw [beq_eq_false_iff_ne]; omega
        have nz2 : (ll : Int) ≠ 0 := by omega
        have nz3 : ll ≠ 0 := by omega
        have wq : IntKind.i64.wrap (q : Int) = (q : Int) := IntWalk.i64_in _ (by omega)
        have q0 : (0 : Int) ≤ (q : Int) := by omega
        have q1 : (q : Int) < (ll : Int) := by omega
        have wn1 : IntKind.i64.wrap ((n : Int) + 1) = ((n + 1 : Nat) : Int) := by rw [IntWalk.i64_in _ (by omega)]; rfl
        clear hcL hlv hq hql'
        gi_wp2
        refine region_round_quiet (by kernel_rfl) (by kernel_rfl) (by kernel_rfl) ?_
        repeat (go_big_quiet_step (fail))
        refine wpQuiet_nil ?_
        rintro _ ⟨nq, rfl⟩
        cases lv with
        | true =>
          gi_wp2
          have hbp := (HBN2.out.drewN nq).put 0 (.int .i64 ((n : Int) + 1))
          refine ⟨⟨n + 1, d - 1, by omega, by have := HND2.out; omega, ?_, (HS1.out.drewN nq).set 0 _, hbp⟩, ?_⟩
          · rw [← HEX.out, expF_lost HLV.out.symm (by have := HND2.out; omega)]
          · have h9 := hbp.cell 0
            rw [show ((wr.drewN nq).setCell ⟨w.heap.size + 1 + 1 + 1 + 1, 0, none⟩ (Value.int .i64 ((n : Int) + 1))).cell? ⟨w.heap.size + 4, 0, none⟩ = some (.int .i64 ((n : Int) + 1)) from h9, c10]
            simp only [numV]
            omega
        | false =>
          gi_wp2
          have hfl : n - 1 < fs.length := by rw [HM.out]; omega
          obtain ⟨bf, of, rfl, _, _, _, _⟩ := HAR.out.fr.some (by rw [frs_len, HM.out]; omega)
          have hel := fr_elem HAR.out.fr hfl
          have HKE := Lib.hid (expF_kept (fs := fs) (d := d) HLV.out.symm (by have := HND2.out; omega) hfl)
          obtain ⟨y, hy⟩ : ∃ y, y = fs[n - 1] := ⟨_, rfl⟩
          rw [← hy] at hel HKE
          obtain ⟨z1, z2, z3, z4, z5, z6⟩ := y
          obtain ⟨p, hp⟩ : ∃ p, p = n - 1 := ⟨_, rfl⟩
          rw [← hp] at hel
          obtain ⟨g0, g1, g2, g3, g4, g5⟩ := hel
          dsimp only at g0 g1 g2 g3 g4 g5
          have wp : IntKind.i64.wrap ((n : Int) - 1) = (p : Int) := by rw [IntWalk.i64_in _ (by omega)]; omega
          have wp2 : (n : Int) - 1 = (p : Int) := by omega
          have p0 : (0 : Int) ≤ (p : Int) := by omega
          have p1 : (p : Int) < (m : Int) := by omega
          have wn : IntKind.u64.wrap (n : Int) = (n : Int) := IntWalk.u64_in _ (by omega)
          have dgt : decide (m < n) = false := decide_eq_false (by omega)
          have dgtI : decide ((m : Int) < (n : Int)) = false := decide_eq_false (by omega)
          have x0 : wr.cell? ⟨B', 0, none⟩ = some (.int .u64 (i : Int)) := HBR.out.cell 0
          have e1 : wr.cell? ⟨B', 1, none⟩ = some (.int .i64 x1) := HBR.out.cell 1
          have e2 : wr.cell? ⟨B', 2, none⟩ = some (.int .u16 (x2 : Int)) := HBR.out.cell 2
          have e3 : wr.cell? ⟨B', 3, none⟩ = some (.int .u32 (x3 : Int)) := HBR.out.cell 3
          have e4 : wr.cell? ⟨B', 4, none⟩ = some (.int .i32 x4) := HBR.out.cell 4
          have e5 : wr.cell? ⟨B', 5, none⟩ = some (.int .i32 x5) := HBR.out.cell 5
          have e6 : wr.cell? ⟨B', 6, none⟩ = some (.int .i32 x6) := HBR.out.cell 6
          clear hy hp hfl nz nz2 nz3 wq q0 q1 tk cL
          by_cases hin : i = n
          · subst hin
            have b1 : ((i : Int) != (i : Int)) = false := by rw [bne_eq_false_iff_eq]
            by_cases hff : (⟨x1, x2, x3, x4, x5, x6⟩ : Fr) = ⟨z1, z2, z3, z4, z5, z6⟩
            · injection hff with h1 h2 h3 h4 h5 h6
              subst h1 h2 h3 h4 h5 h6
              have hfe := fun w => fr_neq_eq ⟨x1, x2, x3, x4, x5, x6⟩ w
              dsimp only at hfe
              refine region_round_quiet (by kernel_rfl) (by kernel_rfl) (by kernel_rfl) ?_
              repeat (go_big_quiet_step (fail))
              refine wpQuiet_nil ?_
              rintro _ ⟨nq2, rfl⟩
              gi_wp2
              have hsame := (HS1.out.drewN (nq + nq2)).set 0 (.int .i64 ((i : Int) + 1))
              exact ⟨HKF.out _ hsame, HRK.out _ hsame, HKK.out _ hsame, i + 1, d - 1, (HBN2.out.drewN (nq + nq2)).put 0 (.int .i64 ((i : Int) + 1)), by omega, by have := HND2.out; omega, by rw [HAL.out, ← HEX.out, HKE.out, List.append_assoc]; rfl⟩
            · have hfe := fun w => fr_neq_ne ⟨x1, x2, x3, x4, x5, x6⟩ ⟨z1, z2, z3, z4, z5, z6⟩ hff w
              dsimp only at hfe
              have hnp : ¬ (pre ++ [(i, ⟨x1, x2, x3, x4, x5, x6⟩)]) <+: allE B k nx := by rw [HAL.out, ← HEX.out, HKE.out]; exact not_pre (by intro e; exact hff (by injection e))
              have HNP := Lib.hid hnp
              clear hnp
              refine region_round_quiet (by kernel_rfl) (by kernel_rfl) (by kernel_rfl) ?_
              repeat (go_big_quiet_step (fail))
              refine wpQuiet_nil ?_
              rintro _ ⟨nq2, rfl⟩
              gi_wp2
              exact ⟨(keeps_set2 HS1.out ⟨_, HBW.out, rfl⟩ (nq + nq2) _ _).from _, HNP.out⟩
          · have b1 : ((i : Int) != (n : Int)) = true := by rw [bne_iff_ne]; omega
            have b2 : (i == n) = false := by rw [beq_eq_false_iff_ne]; exact hin
            have b3 : (i != n) = true := by rw [bne_iff_ne]; exact hin
            have b4 : ((i : Int) == (n : Int)) = false := by rw [beq_eq_false_iff_ne]; omega
            have hnp : ¬ (pre ++ [(i, ⟨x1, x2, x3, x4, x5, x6⟩)]) <+: allE B k nx := by rw [HAL.out, ← HEX.out, HKE.out]; exact not_pre (by intro e; exact hin (by injection e))
            have HNP := Lib.hid hnp
            clear hnp
            refine region_round_quiet (by kernel_rfl) (by kernel_rfl) (by kernel_rfl) ?_
            repeat (go_big_quiet_step (fail))
            refine wpQuiet_nil ?_
            rintro _ ⟨nq2, rfl⟩
            gi_wp2
            exact ⟨(keeps_set2 HS1.out ⟨_, HBW.out, rfl⟩ (nq + nq2) _ _).from _, HNP.out⟩
      · have dnm : decide (n ≤ m) = false := decide_eq_false hnm
        have dnmI : decide ((n : Int) ≤ (m : Int)) = false := decide_eq_false (by omega)
        have dgt : decide (m < n) = true := decide_eq_true (by omega)
        have dgtI : decide ((m : Int) < (n : Int)) = true := decide_eq_true (by omega)
        have hd0 : d = 0 := by have := HND2.out; omega
        have hnp : ¬ (pre ++ [(i, ⟨x1, x2, x3, x4, x5, x6⟩)]) <+: allE B k nx := by rw [HAL.out, ← HEX.out, hd0, expF_zero, List.append_nil]; exact not_pre0
        have HNP := Lib.hid hnp
        clear hnp hd0
        gi_wp2
        refine region_round_quiet (by kernel_rfl) (by kernel_rfl) (by kernel_rfl) ?_
        repeat (go_big_quiet_step (fail))
        refine wpQuiet_nil ?_
        rintro _ ⟨nq, rfl⟩
        gi_wp2
        refine region_round_quiet (by kernel_rfl) (by kernel_rfl) (by kernel_rfl) ?_
        repeat (go_big_quiet_step (fail))
        refine wpQuiet_nil ?_
        rintro _ ⟨nq2, rfl⟩
        gi_wp2
        exact ⟨(keeps_set2 HS1.out ⟨_, HBW.out, rfl⟩ (nq + nq2) _ _).from _, HNP.out⟩
end Rec
end Go.Proofs.Ytijijfggppnbpaa
