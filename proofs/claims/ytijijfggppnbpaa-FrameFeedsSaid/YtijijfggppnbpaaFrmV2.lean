/-
  What the law of package frame shows by example.
-/
import Derived.Test.YtijijfggppnbpaaFrmVe
namespace Go.Proofs.Ytijijfggppnbpaa
open Go.RowKit Go.Shelf
set_option linter.unusedVariables false
namespace Frm
open Txt (kind_cases bv bv_one GotB leB leB_len leB_succ leVal leVal_lt tx tx_list)
attribute [local go_sem] Oper.semAt_some

instance : DecidableEq Fr := fun a b => decidable_of_iff (a.k = b.k ∧ a.q = b.q ∧ a.t = b.t ∧ a.a = b.a ∧ a.b = b.b ∧ a.c = b.c) ⟨fun ⟨h1, h2, h3, h4, h5, h6⟩ => by cases a; cases b; simp_all, fun h => by subst h; simp⟩
def atOf (pre : List (Nat × Fr)) : Nat := pre.foldl (fun a x => if x.2 = f2 then x.1 else a) 0
theorem atOf_snoc (pre : List (Nat × Fr)) (x : Nat × Fr) : atOf (pre ++ [x]) = if x.2 = f2 then x.1 else atOf pre := by simp [atOf]
/-- what stands when the examples are compared -/
structure Vp (w12 : World) (g1 g2 gi gf bo oo : Nat) (v : Value) (wr : World) : Prop where
  t1 : Blk wr g1 25 f2.cells
  t4 : Blk wr g2 25 f2.cells
  i : Blk wr gi 3 [.int .i64 3]
  o : ∀ j u, f2.cells[j]? = some u → wr.cell? ⟨bo, oo + j, none⟩ = some u
  fd : Blk wr gf 46 [v, .int .i64 1]
  below : Below w12.heap.size w12 wr
theorem Vp.next {w12 wr w' : World} {g1 g2 gi gf bo oo : Nat} {v : Value} (S : Vp w12 g1 g2 gi gf bo oo v wr) (hb : Below wr.heap.size wr w') : Vp w12 g1 g2 gi gf bo oo v w' :=
  ⟨S.t1.next hb, S.t4.next hb, S.i.next hb, fun j u hu => (hb.cell (p := ⟨bo, oo + j, none⟩) (block_lt_of_cell (S.o j u hu))).trans (S.o j u hu), S.fd.next hb, _root_.Go.Proofs.Ytijijfggppnbpaa.bt S.below hb⟩
theorem Vp.drew {w12 wr : World} {g1 g2 gi gf bo oo : Nat} {v : Value} (S : Vp w12 g1 g2 gi gf bo oo v wr) : Vp w12 g1 g2 gi gf bo oo v wr.drew := ⟨S.t1.drew, S.t4.drew, S.i.drew, S.o, S.fd.drew, S.below.drew⟩
theorem Vp.s {w12 wr : World} {g1 g2 gi gf bo oo : Nat} {v : Value} (S : Vp w12 g1 g2 gi gf bo oo v wr) : Vp w12 g1 g2 gi gf bo oo v wr ∧ wr.cell? ⟨g1, 0, none⟩ = some (.int .i64 2) ∧ wr.cell? ⟨g1, 1, none⟩ = some (.int .u16 7) ∧ wr.cell? ⟨g1, 2, none⟩ = some (.int .u32 9) ∧ wr.cell? ⟨g1, 3, none⟩ = some (.int .i32 (-5)) ∧ wr.cell? ⟨g1, 4, none⟩ = some (.int .i32 3) ∧ wr.cell? ⟨g1, 5, none⟩ = some (.int .i32 0) ∧ wr.cell? ⟨g2, 0, none⟩ = some (.int .i64 2) ∧ wr.cell? ⟨g2, 1, none⟩ = some (.int .u16 7) ∧ wr.cell? ⟨g2, 2, none⟩ = some (.int .u32 9) ∧ wr.cell? ⟨g2, 3, none⟩ = some (.int .i32 (-5)) ∧ wr.cell? ⟨g2, 4, none⟩ = some (.int .i32 3) ∧ wr.cell? ⟨g2, 5, none⟩ = some (.int .i32 0) ∧ wr.cell? ⟨bo, oo, none⟩ = some (.int .i64 2) ∧ wr.cell? ⟨bo, oo + 1, none⟩ = some (.int .u16 7) ∧ wr.cell? ⟨bo, oo + 2, none⟩ = some (.int .u32 9) ∧ wr.cell? ⟨bo, oo + 3, none⟩ = some (.int .i32 (-5)) ∧ wr.cell? ⟨bo, oo + 4, none⟩ = some (.int .i32 3) ∧ wr.cell? ⟨bo, oo + 5, none⟩ = some (.int .i32 0) ∧ wr.cell? ⟨gi, 0, none⟩ = some (.int .i64 3) :=
  ⟨S, S.t1.cell 0, S.t1.cell 1, S.t1.cell 2, S.t1.cell 3, S.t1.cell 4, S.t1.cell 5, S.t4.cell 0, S.t4.cell 1, S.t4.cell 2, S.t4.cell 3, S.t4.cell 4, S.t4.cell 5, S.o 0 _ rfl, S.o 1 _ rfl, S.o 2 _ rfl, S.o 3 _ rfl, S.o 4 _ rfl, S.o 5 _ rfl, S.i.cell 0⟩
theorem Vp.step {w12 wr w' : World} {g1 g2 gi gf bo oo : Nat} {v : Value} (S : Vp w12 g1 g2 gi gf bo oo v wr ∧ wr.cell? ⟨g1, 0, none⟩ = some (.int .i64 2) ∧ wr.cell? ⟨g1, 1, none⟩ = some (.int .u16 7) ∧ wr.cell? ⟨g1, 2, none⟩ = some (.int .u32 9) ∧ wr.cell? ⟨g1, 3, none⟩ = some (.int .i32 (-5)) ∧ wr.cell? ⟨g1, 4, none⟩ = some (.int .i32 3) ∧ wr.cell? ⟨g1, 5, none⟩ = some (.int .i32 0) ∧ wr.cell? ⟨g2, 0, none⟩ = some (.int .i64 2) ∧ wr.cell? ⟨g2, 1, none⟩ = some (.int .u16 7) ∧ wr.cell? ⟨g2, 2, none⟩ = some (.int .u32 9) ∧ wr.cell? ⟨g2, 3, none⟩ = some (.int .i32 (-5)) ∧ wr.cell? ⟨g2, 4, none⟩ = some (.int .i32 3) ∧ wr.cell? ⟨g2, 5, none⟩ = some (.int .i32 0) ∧ wr.cell? ⟨bo, oo, none⟩ = some (.int .i64 2) ∧ wr.cell? ⟨bo, oo + 1, none⟩ = some (.int .u16 7) ∧ wr.cell? ⟨bo, oo + 2, none⟩ = some (.int .u32 9) ∧ wr.cell? ⟨bo, oo + 3, none⟩ = some (.int .i32 (-5)) ∧ wr.cell? ⟨bo, oo + 4, none⟩ = some (.int .i32 3) ∧ wr.cell? ⟨bo, oo + 5, none⟩ = some (.int .i32 0) ∧ wr.cell? ⟨gi, 0, none⟩ = some (.int .i64 3)) (hb : Below wr.heap.size wr w') : Vp w12 g1 g2 gi gf bo oo v w' ∧ w'.cell? ⟨g1, 0, none⟩ = some (.int .i64 2) ∧ w'.cell? ⟨g1, 1, none⟩ = some (.int .u16 7) ∧ w'.cell? ⟨g1, 2, none⟩ = some (.int .u32 9) ∧ w'.cell? ⟨g1, 3, none⟩ = some (.int .i32 (-5)) ∧ w'.cell? ⟨g1, 4, none⟩ = some (.int .i32 3) ∧ w'.cell? ⟨g1, 5, none⟩ = some (.int .i32 0) ∧ w'.cell? ⟨g2, 0, none⟩ = some (.int .i64 2) ∧ w'.cell? ⟨g2, 1, none⟩ = some (.int .u16 7) ∧ w'.cell? ⟨g2, 2, none⟩ = some (.int .u32 9) ∧ w'.cell? ⟨g2, 3, none⟩ = some (.int .i32 (-5)) ∧ w'.cell? ⟨g2, 4, none⟩ = some (.int .i32 3) ∧ w'.cell? ⟨g2, 5, none⟩ = some (.int .i32 0) ∧ w'.cell? ⟨bo, oo, none⟩ = some (.int .i64 2) ∧ w'.cell? ⟨bo, oo + 1, none⟩ = some (.int .u16 7) ∧ w'.cell? ⟨bo, oo + 2, none⟩ = some (.int .u32 9) ∧ w'.cell? ⟨bo, oo + 3, none⟩ = some (.int .i32 (-5)) ∧ w'.cell? ⟨bo, oo + 4, none⟩ = some (.int .i32 3) ∧ w'.cell? ⟨bo, oo + 5, none⟩ = some (.int .i32 0) ∧ w'.cell? ⟨gi, 0, none⟩ = some (.int .i64 3) := (S.1.next hb).s
set_option maxRecDepth 100000 in
set_option maxHeartbeats 4000000 in
theorem works12_any (w : World) : Calls Try.prog 17 #[] w fun e w' => e = .returned (.bool true) ∧ Below w.heap.size w w' := by
  obtain ⟨i0, hi', hz0, hz1, hz2⟩ := info_parts Txt.infoByte
  have p1 := fun w => put_any f2 ok2 w
  have p2 := fun w => put_any f4 ok4 w
  have p3 := fun w => put_any zeroF zero_ok w
  have F0 := Lib.hid (Blk.mk w 25 f2.cells)
  have B0 := Lib.hid (bl w (.cells f2.cells.toArray 25))
  have hcmp : ∀ w, (binOp .eql 25 (.agg #[.int .i64 2, .int .u16 7, .int .u32 9, .int .i32 (-5), .int .i32 3, .int .i32 0]) (.agg #[.int .i64 2, .int .u16 7, .int .u32 9, .int .i32 (-5), .int .i32 3, .int .i32 0])).run Try.prog w = .ok (.bool true) w := fun _ => by kernel_rfl
  have hnf : ∀ w g, (binOp .eql 43 (.func (.func 63) #[] #[.pointer (some ⟨g, 0, none⟩)]) .nilFunc).run Try.prog w = .ok (.bool false) w := fun _ _ => by kernel_rfl
  refine callsIn_wide.1 (callsIn_of_wp_marks (n := 9) Try.func17 rfl trivial ?_ rfl)
  simp only [Try.ntmps17, List.size_toArray, List.length_nil, Nat.reduceSub, Array.replicate_succ, Array.replicate_zero, List.push_toArray, List.append_toArray, List.nil_append, List.cons_append]
  refine wpIn_wide.2 ?_
  go_wp2_with fail
  refine (p1 _).mono ?_
  rintro e w1 ⟨⟨v1, rfl, hown1, _⟩, hb⟩
  have hown := hown1 code2
  rw [bytes2] at hown
  rw [code2]
  obtain ⟨A1, cap1, rfl, hrd1, hcp1, hcm1, hA1⟩ := own_rd hown
  have R1 := Lib.hid hrd1
  have F1 := Lib.hid (F0.out.next hb)
  have B1 := Lib.hid (_root_.Go.Proofs.Ytijijfggppnbpaa.bt B0.out hb)
  have hf1 := first_any A1 B2 20 cap1 _ _ w1 hrd1 (Nat.le_refl _) rfl (by decide) hcp1
  unfold GotI at hf1
  rw [first2] at hf1
  clear hown hown1 hb hrd1 F0 B0 p1
  change Calls _ _ _ w1 fun e w' => e = .returned (.tuple #[.agg #[.int .i64 2, .int .u16 7, .int .u32 9, .int .i32 (-5), .int .i32 3, .int .i32 0], .int .i64 20, .int .i64 0]) ∧ Below w1.heap.size w1 w' at hf1
  have hl20 : B2.length = 20 := rfl
  rw [hl20] at hcp1 ⊢
  go_wp2_with fail
  refine hf1.mono ?_
  rintro e w2 ⟨rfl, hb⟩
  have R2 := Lib.hid ((R1.out.next hb).alloc (.cells f2.cells.toArray 25))
  have F2 := Lib.hid ((F1.out.next hb).alloc (.cells f2.cells.toArray 25))
  have G2 := Lib.hid (Blk.mk w2 25 f2.cells)
  have B2' := Lib.hid (_root_.Go.Proofs.Ytijijfggppnbpaa.bt (_root_.Go.Proofs.Ytijijfggppnbpaa.bt B1.out hb) (bl w2 (.cells f2.cells.toArray 25)))
  have hs12 := hb.size
  clear hb hf1 R1 F1 B1
  go_wp2_with fail
  refine (p2 _).mono ?_
  rintro e w3 ⟨⟨v3, rfl, _, _⟩, hb⟩
  rw [code4]
  have R3 := Lib.hid (R2.out.next hb)
  have F3 := Lib.hid (F2.out.next hb)
  have G3 := Lib.hid (G2.out.next hb)
  have B3 := Lib.hid (_root_.Go.Proofs.Ytijijfggppnbpaa.bt B2'.out hb)
  clear hb p2 R2 F2 G2 B2'
  go_wp2_with fail
  refine (p3 _).mono ?_
  rintro e w4 ⟨⟨v4, rfl, _, _⟩, hb⟩
  rw [code0]
  have R4 := Lib.hid (R3.out.next hb)
  have F4 := Lib.hid (F3.out.next hb)
  have G4 := Lib.hid (G3.out.next hb)
  have B4 := Lib.hid (_root_.Go.Proofs.Ytijijfggppnbpaa.bt B3.out hb)
  clear hb p3 R3 F3 G3 B3
  have hrow := own_row w4 5 [.int .u8 1, .int .u8 126, .int .u8 9] 3 rfl (by decide)
  have HRow := Lib.hid hrow
  have R5 := Lib.hid (R4.out.alloc (.cells #[.int .u8 1, .int .u8 126, .int .u8 9] 5))
  have hw4 := F4.out.lt
  clear hrow
  go_wp2_with (at_builtin; refine wpList_append_mine rfl (.tmp 43) (.tmp 44) 26 rfl w4.heap.size 5 i0 (.int .u8 0) 1 1 Try.underlying26 hi' hz0 hz1 hz2 rfl (by decide) _ 3 [.int .u8 1, .int .u8 126, .int .u8 9] rfl HRow.out A1 20 cap1 (B2.map bv) rfl rfl hA1 R5.out.news (bv_one B2) (by decide) (by decide) (by simp) ?_; intro v5 w5 hown5 hgrow5 hwh5; clear hwh5; obtain ⟨A5, cap5, rfl, hrd5, hcp5, _, hA5⟩ := own_rd hown5; have HX5 : Hid (RdL w5 w4.heap.size w5.heap.size A5 (X3.map bv)) := Lib.hid hrd5; have hG5 : Below w4.heap.size w4 w5 := (bl w4 _).grown hgrow5 (by simp) (fun q hq => by have hq' : some w4.heap.size = some q := hq; injection hq' with hq'; omega); have R6 := Lib.hid (R4.out.next hG5); have F6 := Lib.hid (F4.out.next hG5); have G6 := Lib.hid (G4.out.next hG5); have B6 := Lib.hid (_root_.Go.Proofs.Ytijijfggppnbpaa.bt B4.out hG5); clear hown5 hgrow5 hrd5 hG5)
  refine (all_any A5 23 cap5 _).mono ?_
  rintro e w6 ⟨rfl, rfl⟩
  go_wp2_with fail
  generalize hW0 : (w5.alloc (.cells #[.slice A5 23 cap5] 26)).alloc (.cells #[.int .i64 0] 3) = W0 at *
  have hs0 : W0.heap.size = w5.heap.size + 1 + 1 := by rw [← hW0]; simp
  have hb0 : Below w5.heap.size w5 W0 := by rw [← hW0]; exact _root_.Go.Proofs.Ytijijfggppnbpaa.bt (bl _ _) (bl _ _)
  have hib : Blk W0 (w5.heap.size + 1) 3 [.int .i64 0] := by
    rw [← hW0]
    have := Blk.mk (w5.alloc (.cells #[.slice A5 23 cap5] 26)) 3 [.int .i64 0]
    simpa using this
  have hbox : Bx w5.heap.size A5 23 cap5 w5.heap.size X3 W0 := by
    rw [← hW0]
    have h1 : Blk ((w5.alloc (.cells #[.slice A5 23 cap5] 26)).alloc (.cells #[.int .i64 0] 3)) w5.heap.size 26 [.slice A5 23 cap5] := (Blk.mk w5 26 [.slice A5 23 cap5]).alloc _
    exact ⟨h1.cell 0, ((HX5.out.alloc _).alloc _).wide (Nat.zero_le _) (Nat.le_refl _), by simp; omega⟩
  have R7 := Lib.hid (R6.out.next hb0)
  have F7 := Lib.hid (F6.out.next hb0)
  have G7 := Lib.hid (G6.out.next hb0)
  have B7 := Lib.hid (_root_.Go.Proofs.Ytijijfggppnbpaa.bt B6.out hb0)
  have hwlt : w.heap.size < w5.heap.size := F6.out.lt
  have hw2lt : w2.heap.size < w5.heap.size := G6.out.lt
  have hR7 := R7.out
  clear hW0 hb0 R6 F6 G6 B6 HX5 HRow R5 R4 F4 G4 B4
  generalize w5.heap.size = bs at *
  refine range_frames (s1 := 13) (s2 := 14) (Bs := bs) (A := A5) (N := 23) (cap := cap5) (hi := bs) (L := X3) rfl rfl (by decide) hcp5 hA5 hbox
    (fun pre W => Keeps2 W0 W (bs + 1) none ∧ Blk W (bs + 1) 3 [.int .i64 (atOf pre : Int)]) (fun _ _ _ => False)
    (fun s W W' row h hg hr => ⟨h.1.grown hg (.inr fun b hb => (hr b hb).1), h.2.grown hg (fun e => by have := (hr _ e.symm).1; omega)⟩) (fun _ _ _ _ _ hs _ _ => hs)
    ⟨Keeps2.refl _ _ _, hib⟩ (fun _ _ h => h.1.size) ?assign ?body ?done ?stop
  case assign =>
    rintro l ⟨i, k, q, t, a, b, c⟩ W K hK
    unfold TT Fr.v Fr.cells at hK
    unfold Fr.v Fr.cells
    simp only [List.setIfInBounds_toArray, List.set_cons_zero, List.set_cons_succ] at hK ⊢
    gi_wp2
    exact hK
  case body =>
    rintro l pre ⟨i, k, q, t, a, b, c⟩ B W hl' ⟨hk, hbi⟩ hB hBx hlen
    have hF : Blk W w.heap.size 25 f2.cells := (hk.block w.heap.size (by omega) (by omega) (by simp)).trans F7.out
    have x0 : W.cell? ⟨B, 0, none⟩ = some (.int .i64 k) := hBx.cell 0
    have x1 : W.cell? ⟨B, 1, none⟩ = some (.int .u16 (q : Int)) := hBx.cell 1
    have x2 : W.cell? ⟨B, 2, none⟩ = some (.int .u32 (t : Int)) := hBx.cell 2
    have x3 : W.cell? ⟨B, 3, none⟩ = some (.int .i32 a) := hBx.cell 3
    have x4 : W.cell? ⟨B, 4, none⟩ = some (.int .i32 b) := hBx.cell 4
    have x5 : W.cell? ⟨B, 5, none⟩ = some (.int .i32 c) := hBx.cell 5
    have g0 : W.cell? ⟨w.heap.size, 0, none⟩ = some (.int .i64 2) := hF.cell 0
    have g1 : W.cell? ⟨w.heap.size, 1, none⟩ = some (.int .u16 7) := hF.cell 1
    have g2 : W.cell? ⟨w.heap.size, 2, none⟩ = some (.int .u32 9) := hF.cell 2
    have g3 : W.cell? ⟨w.heap.size, 3, none⟩ = some (.int .i32 (-5)) := hF.cell 3
    have g4 : W.cell? ⟨w.heap.size, 4, none⟩ = some (.int .i32 3) := hF.cell 4
    have g5 : W.cell? ⟨w.heap.size, 5, none⟩ = some (.int .i32 0) := hF.cell 5
    have c0 : W.cell? ⟨bs + 1, 0, none⟩ = some (.int .i64 (atOf pre : Int)) := hbi.cell 0
    have d0 := hbi.free 0
    have HK := Lib.hid hk
    have HBi := Lib.hid hbi
    have hsn := atOf_snoc pre (i, ⟨k, q, t, a, b, c⟩)
    have HSn := Lib.hid hsn
    clear hF hBx hk hbi hsn
    by_cases he : (⟨k, q, t, a, b, c⟩ : Fr) = f2
    · have HSn2 : Hid (atOf (pre ++ [(i, ⟨k, q, t, a, b, c⟩)]) = i) := Lib.hid (by rw [HSn.out, if_pos he])
      injection he with h1 h2 h3 h4 h5 h6
      subst h1 h2 h3 h4 h5 h6
      have x1' : W.cell? ⟨B, 1, none⟩ = some (.int .u16 7) := x1
      have x2' : W.cell? ⟨B, 2, none⟩ = some (.int .u32 9) := x2
      clear x1 x2
      unfold TT Fr.v Fr.cells
      simp only [List.setIfInBounds_toArray, List.set_cons_zero, List.set_cons_succ]
      gi_wp2
      refine ⟨(KeepsOthers.setCell _ _ _).from _, fun h => ?_, HK.out.set 0 _, ?_⟩
      · refine ⟨?_, h.rd.far (p := ⟨bs + 1, 0, none⟩) (.inr (by show bs ≤ bs + 1; omega)) _, by simpa using h.sz⟩
        exact (World.cell?_setCell_other W ⟨bs + 1, 0, none⟩ ⟨bs, 0, none⟩ _ (by simp)).trans h.box
      · rw [HSn2.out]
        exact HBi.out.put 0 _
    · have HSn2 : Hid (atOf (pre ++ [(i, ⟨k, q, t, a, b, c⟩)]) = atOf pre) := Lib.hid (by rw [HSn.out, if_neg he])
      have hne : ∀ w, (binOp .eql 25 (.agg #[.int .i64 k, .int .u16 (q : Int), .int .u32 (t : Int), .int .i32 a, .int .i32 b, .int .i32 c]) (.agg #[.int .i64 2, .int .u16 7, .int .u32 9, .int .i32 (-5), .int .i32 3, .int .i32 0])).run Try.prog w = .ok (.bool false) w := fun w => by
        exact frame_ne ⟨k, q, t, a, b, c⟩ f2 he w
      unfold TT Fr.v Fr.cells
      simp only [List.setIfInBounds_toArray, List.set_cons_zero, List.set_cons_succ]
      gi_wp2
      exact ⟨(KeepsOthers.refl _).from _, fun h => h, HK.out, by rw [HSn2.out]; exact HBi.out⟩
  case done =>
    rintro D W hD ⟨hk, hbi⟩ hKD
    have hat : (atOf (allL X3 0) : Int) = 3 := by rw [all3]; decide
    rw [hat] at hbi
    have F8 := Lib.hid (((hk.block w.heap.size (by omega) (by omega) (by simp)).trans F7.out : Blk W w.heap.size 25 f2.cells))
    have G8 := Lib.hid (((hk.block w2.heap.size (by omega) (by omega) (by simp)).trans G7.out : Blk W w2.heap.size 25 f2.cells))
    have I8 := Lib.hid hbi
    have hR8 : RdL W (w.heap.size + 1) bs A1 (B2.map bv) := (hR7.wide (by simp) (by omega)).keep hk.size (fun k h1 h2 h3 => hk.block k h3 (by omega) (by simp))
    obtain ⟨ba, oa, rfl, hba1, hba2, hba3, hba4⟩ := hR8.some (by decide)
    have R8 := Lib.hid hR8
    have B8 : Hid (Below w.heap.size w W) := Lib.hid ⟨hk.os.trans B7.out.os, hk.tape.trans B7.out.tape, hk.output.trans B7.out.output, Nat.le_trans B7.out.size hk.size, fun k h => (hk.block k (by omega) (by omega) (by simp)).trans (B7.out.block k h)⟩
    have HKD := Lib.hid hKD
    have hWW := hk.size
    clear hk hbi hKD hR7 hR8 hba4 hat F7 G7 R7 B7 hib
    have h10 : 10 ≤ cap1 := by omega
    have h10I : (10 : Int) ≤ (cap1 : Int) := by omega
    have h10n : cap1 ≠ 10 := by omega
    have hbd : Below W.heap.size W ((W.alloc (.cells #[.slice none 0 0, .int .i64 0] 46)).alloc (.cells #[.int .u8 5] 5)) := _root_.Go.Proofs.Ytijijfggppnbpaa.bt (bl _ _) (bl _ _)
    have hrow2 : ((W.alloc (.cells #[.slice none 0 0, .int .i64 0] 46)).alloc (.cells #[.int .u8 5] 5)).ownsRow (W.heap.size + 1) 5 1 (.slice (some ⟨W.heap.size + 1, 0, none⟩) 1 1) 1 [.int .u8 5] := by
      have := own_row (W.alloc (.cells #[.slice none 0 0, .int .i64 0] 46)) 5 [.int .u8 5] 1 rfl (by decide)
      simpa using this
    have HRow2 := Lib.hid hrow2
    have E9 : Hid (Blk ((W.alloc (.cells #[.slice none 0 0, .int .i64 0] 46)).alloc (.cells #[.int .u8 5] 5)) W.heap.size 46 [.slice none 0 0, .int .i64 0]) := Lib.hid ((Blk.mk W 46 [.slice none 0 0, .int .i64 0]).alloc _)
    have R9 := Lib.hid (R8.out.next hbd)
    have HBd := Lib.hid hbd
    have hWs : w.heap.size < W.heap.size := by omega
    have hw2s : w2.heap.size < W.heap.size := by omega
    have hbss : bs + 1 < W.heap.size := by omega
    have hDs : D < W.heap.size := (Array.getElem?_eq_some_iff.1 HKD.out).1
    clear hbd hrow2
    go_wp2_with (at_builtin; refine wpList_append_mine rfl (.tmp 57) (.tmp 59) 26 rfl (W.heap.size + 1) 5 i0 (.int .u8 0) 1 1 Try.underlying26 hi' hz0 hz1 hz2 rfl (by decide) _ 1 [.int .u8 5] rfl HRow2.out (some ⟨ba, oa, none⟩) 10 cap1 ((B2.take 10).map bv) rfl rfl (fun h => by cases h) (List.map_take ▸ R9.out.take 10).news (bv_one (B2.take 10)) (by decide) (by decide) (by simp) ?_; intro v10 w10 hown10 hgrow10 hwh10; obtain ⟨A10, cap10, rfl, hrd10, hcp10, hcm10, hA10⟩ := own_rd hown10; have HX10 : Hid (RdL w10 (W.heap.size + 1) w10.heap.size A10 (Y1.map bv)) := Lib.hid hrd10; have E10 : Hid (Blk w10 W.heap.size 46 [.slice none 0 0, .int .i64 0]) := Lib.hid (E9.out.grown hgrow10 (fun e => by have e' : some W.heap.size = some (W.heap.size + 1) := e; injection e' with e'; omega)); have hG10 : Below W.heap.size W w10 := HBd.out.grown hgrow10 HBd.out.size (fun q hq => by have hq' : some (W.heap.size + 1) = some q := hq; injection hq' with hq'; omega); have HG10 := Lib.hid hG10; clear hown10 hgrow10 hwh10 hrd10 hG10 hcm10)
    have hs10 := HG10.out.size
    refine (push_any W.heap.size (.slice none 0 0) [] 0 A10 Y1 11 cap10 (W.heap.size + 1) w10.heap.size w10 ⟨E10.out, World.ownsRow_nil _ _ _ _⟩ HX10.out rfl hA10 (by decide) (by decide)).mono ?_
    rintro e w11 hp
    unfold GotPush at hp
    rw [List.nil_append, feed1] at hp
    obtain ⟨out1, v11, rfl, ho11, hS11, hv11, _, hk11⟩ := hp
    obtain ⟨Ao1, co1, rfl, _, _, _, _⟩ := own_rd (n := 0) ho11
    have HG11 : Hid (Below W.heap.size W w11) := Lib.hid ⟨hk11.os.trans HG10.out.os, hk11.tape.trans HG10.out.tape, hk11.output.trans HG10.out.output, Nat.le_trans HG10.out.size hk11.size, fun k h => (hk11.block k (by omega) (by omega) (by intro e; cases e)).trans (HG10.out.block k h)⟩
    have HS11 : Hid (FeedS w11 W.heap.size v11 (B2.take 10) 1) := Lib.hid hS11
    have HV11 : Hid (v11.ownBlock = none ∨ ∃ b, v11.ownBlock = some b ∧ W.heap.size ≤ b) := Lib.hid (hv11.elim .inl fun ⟨b, h1, h2⟩ => .inr ⟨b, h1, by omega⟩)
    have hrd11 : RdL w11 (w.heap.size + 1) bs (some ⟨ba, oa + 10, none⟩) ((B2.drop 10).map bv) := List.map_drop ▸ (R8.out.next (HG11.out)).drop 10
    have HR11 := Lib.hid hrd11
    clear ho11 hS11 hv11 hk11 hs10 hrd11 E10 HX10 HG10 R9 E9 HRow2 HBd
    go_wp2_with fail
    refine (push_any W.heap.size v11 (B2.take 10) 1 (some ⟨ba, oa + 10, none⟩) (B2.drop 10) 10 (cap1 - 10) (w.heap.size + 1) bs w11 HS11.out HR11.out rfl (fun h => by cases h) (by decide) (by decide)).mono ?_
    rintro e w12 hp
    unfold GotPush at hp
    rw [List.take_append_drop, feed2] at hp
    obtain ⟨out2, v12, rfl, ho12, hS12, hv12, _, hk12⟩ := hp
    obtain ⟨Ao2, co2, rfl, hrd12, hc12, _, _⟩ := own_rd (n := 1) ho12
    obtain ⟨bo, oo, rfl, hbo1, hbo2, hbo3, hbo4⟩ := hrd12.some (by decide)
    obtain ⟨A12, c12, rfl, _, _, _, _⟩ := own_rd hS12.own
    have hS12' : FeedS w12 W.heap.size (.slice A12 0 c12) [] 1 := hS12
    have hls := fun w => lost_any W.heap.size (.slice A12 0 c12) 1 w
    have hws := fun w => waits_any W.heap.size A12 0 c12 1 w
    have hG12 : Below W.heap.size W w12 := ⟨hk12.os.trans HG11.out.os, hk12.tape.trans HG11.out.tape, hk12.output.trans HG11.out.output, Nat.le_trans HG11.out.size hk12.size, fun k h => (hk12.block k (by have := HG11.out.size; omega) (by omega) (fun e => by rcases HV11.out with h' | ⟨b, h', h''⟩ <;> rw [h'] at e <;> cases e; omega)).trans (HG11.out.block k h)⟩
    have HG12 := Lib.hid hG12
    have HS12 := Lib.hid hS12'
    have HFo : Hid (∀ j u, f2.cells[j]? = some u → w12.cell? ⟨bo, oo + j, none⟩ = some u) := Lib.hid hbo4
    clear ho12 hS12 hS12' hv12 hk12 hrd12 hbo1 hbo2 hbo4 hG12 HS11 HR11 HG11 HV11
    have HV0 : Hid (Vp w12 w.heap.size w2.heap.size (bs + 1) W.heap.size bo oo (.slice A12 0 c12) w12) := Lib.hid ⟨Blk.below F8.out HG12.out hWs, Blk.below G8.out HG12.out hw2s, Blk.below I8.out HG12.out hbss, HFo.out, HS12.out.blk, Below.refl _ _⟩
    have hls' : ∀ w, Blk w W.heap.size 46 [.slice A12 0 c12, .int .i64 1] → Calls Try.prog 25 #[.pointer (some ⟨W.heap.size, 0, none⟩)] w fun e w' => e = .returned (.int .i64 1) ∧ w = w' := fun w h => lost_any _ _ 1 w h
    have hws' : ∀ w, Blk w W.heap.size 46 [.slice A12 0 c12, .int .i64 1] → Calls Try.prog 26 #[.pointer (some ⟨W.heap.size, 0, none⟩)] w fun e w' => e = .returned (.int .i64 0) ∧ w = w' := fun w h => waits_any _ _ 0 _ 1 w h
    have hnb : ∀ w, Calls Try.prog 15 #[.int .i64 9] w fun e w' => e = .returned (.int .i64 (-1)) ∧ Below w.heap.size w w' := fun w => by
      have := numbers_any 9 w
      rwa [show numK 9 = -1 from by decide] at this
    have hsz : ∀ w, Calls Try.prog 19 #[.int .i64 1] w fun e w' => e = .returned (.int .i64 24) ∧ Below w.heap.size w w' := fun w => by
      have := size_any 1 w
      rwa [show sizeK 1 = 24 from by decide] at this
    clear hls hws F8 G8 I8 R8 HFo HS12
    go_wp2_with fail
    go_region_held3 (fun w' => Vp w12 w.heap.size w2.heap.size (bs + 1) W.heap.size bo oo (.slice A12 0 c12) w' ∧ w'.cell? ⟨w.heap.size, 0, none⟩ = some (.int .i64 2) ∧ w'.cell? ⟨w.heap.size, 1, none⟩ = some (.int .u16 7) ∧ w'.cell? ⟨w.heap.size, 2, none⟩ = some (.int .u32 9) ∧ w'.cell? ⟨w.heap.size, 3, none⟩ = some (.int .i32 (-5)) ∧ w'.cell? ⟨w.heap.size, 4, none⟩ = some (.int .i32 3) ∧ w'.cell? ⟨w.heap.size, 5, none⟩ = some (.int .i32 0) ∧ w'.cell? ⟨w2.heap.size, 0, none⟩ = some (.int .i64 2) ∧ w'.cell? ⟨w2.heap.size, 1, none⟩ = some (.int .u16 7) ∧ w'.cell? ⟨w2.heap.size, 2, none⟩ = some (.int .u32 9) ∧ w'.cell? ⟨w2.heap.size, 3, none⟩ = some (.int .i32 (-5)) ∧ w'.cell? ⟨w2.heap.size, 4, none⟩ = some (.int .i32 3) ∧ w'.cell? ⟨w2.heap.size, 5, none⟩ = some (.int .i32 0) ∧ w'.cell? ⟨bo, oo, none⟩ = some (.int .i64 2) ∧ w'.cell? ⟨bo, oo + 1, none⟩ = some (.int .u16 7) ∧ w'.cell? ⟨bo, oo + 2, none⟩ = some (.int .u32 9) ∧ w'.cell? ⟨bo, oo + 3, none⟩ = some (.int .i32 (-5)) ∧ w'.cell? ⟨bo, oo + 4, none⟩ = some (.int .i32 3) ∧ w'.cell? ⟨bo, oo + 5, none⟩ = some (.int .i32 0) ∧ w'.cell? ⟨(bs + 1), 0, none⟩ = some (.int .i64 3))
      (first
        | exact HV0.out.drew.s
        | assumption
        | exact Vp.step (by assumption) (by assumption))
      (first
        | (go_at_call 25; (with_reducible refine (hls' _ (And.left ‹Vp _ _ _ _ _ _ _ _ _ ∧ _›).fd).mono ?_); rintro e w' ⟨rfl, rfl⟩)
        | (go_at_call 26; (with_reducible refine (hws' _ (And.left ‹Vp _ _ _ _ _ _ _ _ _ ∧ _›).fd).mono ?_); rintro e w' ⟨rfl, rfl⟩)
        | (go_at_call 15; (with_reducible refine (hnb _).mono ?_); rintro e w' ⟨rfl, hb⟩)
        | (go_at_call 19; (with_reducible refine (hsz _).mono ?_); rintro e w' ⟨rfl, hb⟩))
    have hVz := And.left ‹Vp _ _ _ _ _ _ _ _ _ ∧ _›
    have hKz := ((hVz.below.block D (by have := HG12.out.size; omega)).trans (HG12.out.block D hDs)).trans HKD.out
    have HKz := Lib.hid hKz
    have HBz := Lib.hid (_root_.Go.Proofs.Ytijijfggppnbpaa.bt (_root_.Go.Proofs.Ytijijfggppnbpaa.bt B8.out HG12.out) hVz.below)
    clear hVz hKz HKD B8 HG12 HV0
    go_wp2_with fail
    refine ⟨by simp, .inl ⟨_, _, rfl, run_takeDeferred HKz.out, ?_⟩⟩
    exact ⟨_, results_tmp rfl _ _ _, rfl, HBz.out.trans (belowK_b (w := w) (Nat.le_refl _) _ D _ _ (by omega) HKz.out rfl rfl)⟩
  case stop =>
    rintro D c pre W _ _ h _
    exact h.elim
end Frm
end Go.Proofs.Ytijijfggppnbpaa
