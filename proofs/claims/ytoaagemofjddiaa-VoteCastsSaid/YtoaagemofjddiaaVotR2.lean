/-
  The walks of the document's answer for votes: a panel with one channel put; the middle one, by counting.
-/
import Derived.Test.YtoaagemofjddiaaVotR
namespace Go.Proofs.Ytoaagemofjddiaa
open Go.RowKit
set_option linter.unusedVariables false
namespace Vot

theorem infoBool : (Try.prog.info? 4).map (fun i => (i.zero, i.size, i.bytes)) = some (some (.bool false), 1, 1) := by kernel_rfl
theorem infoWPanel : (Try.prog.info? 74).map (·.size) = some 4 := by kernel_rfl
theorem skc_one (p : Pa) : ∀ u ∈ skc p, u.oneCell' = true := by
  intro u hu
  obtain ⟨x, _, rfl⟩ := List.mem_map.1 hu
  rfl
theorem isc_one (p : Pa) : ∀ u ∈ isc p, u.oneCell' = true := by
  intro u hu
  obtain ⟨x, _, rfl⟩ := List.mem_map.1 hu
  rfl
/-- a new panel of the document's is handed back -/
def GotP (w : World) (p : Pa) (e : Ending) (w' : World) : Prop := ∃ A1 A2 c1 c2, e = .returned (rpv p A1 A2 c1 c2) ∧ RP w' w.heap.size w'.heap.size p A1 A2 c1 c2 ∧ Below w.heap.size w w'
theorem skc_at {p : Pa} {i : Nat} (h : i < p.st.length) : (skc p)[i]? = some (.int .i64 (p.sk i : Int)) := by simp [skc, Pa.sk, List.getD_eq_getElem?_getD, List.getElem?_eq_getElem h]
theorem isc_at {p : Pa} {i : Nat} (h : i < p.out.length) : (isc p)[i]? = some (.bool (p.is i)) := by simp [isc, Pa.is, List.getD_eq_getElem?_getD, List.getElem?_eq_getElem h]
theorem own_rdL {w : World} {base n cap m size : Nat} {e : TypeId} {A : Option Addr} {l : List Value} (h : w.ownsRow base e size (.slice A n cap) m l) : RdL w base w.heap.size A l := by
  obtain ⟨A0, cap0, e0, hr, _⟩ := own_rd h
  injection e0 with e1 _ _
  subst e1
  exact hr
theorem heap_alloc_sz (w : World) (o : Obj) : (w.alloc o).heap.size = w.heap.size + 1 := by simp
theorem grown_nil {w w' : World} (h : w.grownBy w' (Value.slice none 0 0).ownBlock) : Below w.heap.size w w' := ⟨h.os, h.tape, h.output, h.size, fun k hk => h.block k hk (by simp [Value.ownBlock])⟩
theorem put_skc (p : Pa) (i s : Nat) (b : Bool) : skc (p.put i s b) = (skc p).set i (.int .i64 (s : Int)) := by simp [skc, Pa.put, List.map_set]
theorem put_isc (p : Pa) (i s : Nat) (b : Bool) : isc (p.put i s b) = (isc p).set i (.bool b) := by simp [isc, Pa.put, List.map_set]
set_option maxRecDepth 100000 in
set_option maxHeartbeats 2000000 in
theorem set_any {w : World} {lo hi c1 c2 : Nat} {p : Pa} {A1 A2 : Option Addr} (S : RP w lo hi p A1 A2 c1 c2) {B : Nat} (hok : p.ok B) (hhi : hi ≤ w.heap.size) {i s : Nat} (h : i < p.out.length) (b : Bool) :
    Calls Try.prog 56 #[rpv p A1 A2 c1 c2, .int .i64 (i : Int), .int .i64 (s : Int), .bool b] w (GotP w (p.put i s b)) := by
  obtain ⟨i0, hi0, hz0, hz1, hz2⟩ := info_parts infoInt
  obtain ⟨j0, hj0, hy0, hy1, hy2⟩ := info_parts infoBool
  have hl := hok.len
  have h5 := hok.five
  obtain ⟨e1, o1, rfl, _, _, _, _⟩ := S.st.some (by simp [skc]; omega)
  obtain ⟨e2, o2, rfl, _, _, _, _⟩ := S.out.some (by simp [isc]; omega)
  have S3 := (((S.alloc (.cells (rpc p (some ⟨e1, o1, none⟩) (some ⟨e2, o2, none⟩) c1 c2).toArray 74)).alloc (.cells [Value.int .i64 0, .int .i64 0, .slice none 0 0, .slice none 0 0].toArray 74)).alloc (.cells [Value.int .i64 p.ap, .int .i64 p.most, .slice none 0 0, .slice none 0 0].toArray 74))
  have B0 := ((Blk.mk w 74 (rpc p (some ⟨e1, o1, none⟩) (some ⟨e2, o2, none⟩) c1 c2)).alloc (.cells [Value.int .i64 0, .int .i64 0, .slice none 0 0, .slice none 0 0].toArray 74)).alloc (.cells [Value.int .i64 p.ap, .int .i64 p.most, .slice none 0 0, .slice none 0 0].toArray 74)
  have B1 := (Blk.mk (w.alloc (.cells (rpc p (some ⟨e1, o1, none⟩) (some ⟨e2, o2, none⟩) c1 c2).toArray 74)) 74 [Value.int .i64 0, .int .i64 0, .slice none 0 0, .slice none 0 0]).alloc (.cells [Value.int .i64 p.ap, .int .i64 p.most, .slice none 0 0, .slice none 0 0].toArray 74)
  have B2 := Blk.mk ((w.alloc (.cells (rpc p (some ⟨e1, o1, none⟩) (some ⟨e2, o2, none⟩) c1 c2).toArray 74)).alloc (.cells [Value.int .i64 0, .int .i64 0, .slice none 0 0, .slice none 0 0].toArray 74)) 74 [Value.int .i64 p.ap, .int .i64 p.most, .slice none 0 0, .slice none 0 0]
  have K := ((bl w (.cells (rpc p (some ⟨e1, o1, none⟩) (some ⟨e2, o2, none⟩) c1 c2).toArray 74)).alloc (by simp) (.cells [Value.int .i64 0, .int .i64 0, .slice none 0 0, .slice none 0 0].toArray 74)).alloc (by simp; omega) (.cells [Value.int .i64 p.ap, .int .i64 p.most, .slice none 0 0, .slice none 0 0].toArray 74)
  rw [heap_alloc_sz] at B1
  rw [heap_alloc_sz, heap_alloc_sz] at B2
  have HS := Lib.hid S3
  have H0 := Lib.hid B0
  have H1 := Lib.hid B1
  have H2 := Lib.hid B2
  have HK := Lib.hid K
  have HL := Lib.hid hl
  have HOK := Lib.hid hok
  have hn := h
  rw [← hl] at hn
  obtain ⟨n, hnn⟩ : ∃ n, n = p.st.length := ⟨_, rfl⟩
  obtain ⟨n', hnn'⟩ : ∃ n, n = p.out.length := ⟨_, rfl⟩
  have hn5 : n ≤ 5 := by omega
  have hn5' : n' ≤ 5 := by omega
  have hni : i < n := by omega
  have hni' : i < n' := by omega
  clear S S3 B0 B1 B2 K hl hok h h5 hn
  unfold rpc at *
  unfold rpv
  rw [← hnn, ← hnn']
  rw [← hnn, ← hnn'] at HS H0 H1 H2 HK
  have HN := Lib.hid hnn
  have HN' := Lib.hid hnn'
  have hni1 : (i : Int) < (n : Int) := by omega
  have hni2 : (i : Int) < (n' : Int) := by omega
  have hni3 : (0 : Int) ≤ (i : Int) := by omega
  clear hnn hnn'
  go_enter Try.func56, Try.ntmps56
  go_wp2_with (first
    | (at_builtin
       refine wpList_append_mine ?_ (.tmp 16) (.tmp 18) 72 ?_ (w.heap.size + 1 + 1 + 1) 3 i0 (.int .i64 0) 1 8 Try.underlying72 hi0 hz0 hz1 hz2 ?_ ?_ (.slice none 0 0) 0 [] ?_ ?_ (some ⟨e1, o1, none⟩) n c1 (skc p) ?_ ?_ ?_ ?_ ?_ ?_ ?_ ?_ ?_
       · rfl
       · rfl
       · rfl
       · decide
       · rfl
       · exact World.ownsRow_nil _ _ _ _
       · rfl
       · simp [skc, HN.out]
       · intro h; cases h
       · exact HS.out.st.news
       · exact skc_one p
       · unfold maxLen; omega
       · omega
       · simp
       intro v1 w1 own1 grow1 hw1
       rw [Nat.zero_add, List.nil_append] at own1
       obtain ⟨g1, k1, rfl, hg1, hg1', hk1, _⟩ := own_block own1 (by omega)
       have b1 := grown_nil grow1
       have X0 := H0.out.next b1
       have X1 := H1.out.next b1
       have X2 := H2.out.next b1
       have XS := Lib.hid (HS.out.next b1)
       have f2 := X2.free 2
       have f3 := X2.free 3
       have q0 := X2.cell 0
       have q1 := X2.cell 1
       have q2 := X2.cell 2
       have q3 := X2.cell 3
       have r3 := X0.cell 3
       have J1 := Lib.hid X1
       have J2 := Lib.hid X2
       have O1 := Lib.hid own1
       have hbs := b1.size
       have KB := Lib.hid (bt HK.out b1)
       clear own1 grow1 hw1 X0 X1 X2 b1)
    | (at_builtin
       refine wpList_append_mine ?_ (.tmp 22) (.tmp 24) 58 ?_ w1.heap.size 4 j0 (.bool false) 1 1 Try.underlying58 hj0 hy0 hy1 hy2 ?_ ?_ (.slice none 0 0) 0 [] ?_ ?_ (some ⟨e2, o2, none⟩) n' c2 (isc p) ?_ ?_ ?_ ?_ ?_ ?_ ?_ ?_ ?_
       · rfl
       · rfl
       · rfl
       · decide
       · rfl
       · exact World.ownsRow_nil _ _ _ _
       · rfl
       · simp [isc, HN'.out]
       · intro h; cases h
       · exact (XS.out.out.far (p := ⟨w.heap.size + 1 + 1, 2, none⟩) (.inr (by show hi ≤ w.heap.size + 1 + 1; omega)) _).news
       · exact isc_one p
       · unfold maxLen; omega
       · omega
       · simp
       intro v2 w2 own2 grow2 hw2
       rw [Nat.zero_add, List.nil_append] at own2
       obtain ⟨g2, k2, rfl, hg2, hg2', hk2, _⟩ := own_block own2 (by omega)
       have b2 := grown_nil grow2
       have Y2 := (J2.out.put 2 (.slice (some ⟨g1, 0, none⟩) n k1)).next b2
       have Y1 := (J1.out.far (p := ⟨w.heap.size + 1 + 1, 2, none⟩) (by show w.heap.size + 1 ≠ w.heap.size + 1 + 1; omega) (.slice (some ⟨g1, 0, none⟩) n k1)).next b2
       have O1b := own_next (ownsRow_setCell_below O1.out (a := ⟨w.heap.size + 1 + 1, 2, none⟩) (by show w.heap.size + 1 + 1 < w.heap.size + 1 + 1 + 1; omega) (.slice (some ⟨g1, 0, none⟩) n k1)) b2
       have KB2 := Lib.hid ((KB.out.setCell (by show w.heap.size ≤ w.heap.size + 1 + 1; omega) _).trans (b2.mono (by simp; omega)))
       have x2 := Y2.free 2
       have x3 := Y2.free 3
       have y0 : w2.cell? ⟨w.heap.size + 1 + 1, 0, none⟩ = some (.int .i64 p.ap) := Y2.cell 0
       have y1 : w2.cell? ⟨w.heap.size + 1 + 1, 1, none⟩ = some (.int .i64 p.most) := Y2.cell 1
       have y2 : w2.cell? ⟨w.heap.size + 1 + 1, 2, none⟩ = some (.slice (some ⟨g1, 0, none⟩) n k1) := Y2.cell 2
       have y3 : w2.cell? ⟨w.heap.size + 1 + 1, 3, none⟩ = some (.slice none 0 0) := Y2.cell 3
       have z0 := Y1.free 0
       have z1 := Y1.free 1
       have z2 := Y1.free 2
       have z3 := Y1.free 3
       have u0 : w2.cell? ⟨w.heap.size + 1, 0, none⟩ = some (.int .i64 0) := Y1.cell 0
       have u1 : w2.cell? ⟨w.heap.size + 1, 1, none⟩ = some (.int .i64 0) := Y1.cell 1
       have u2 : w2.cell? ⟨w.heap.size + 1, 2, none⟩ = some (.slice none 0 0) := Y1.cell 2
       have u3 : w2.cell? ⟨w.heap.size + 1, 3, none⟩ = some (.slice none 0 0) := Y1.cell 3
       have ca1 : w2.cell? ⟨g1, i, none⟩ = some (.int .i64 (p.sk i : Int)) := (O1b.cellAt i (by omega)).trans (skc_at (HN.out ▸ hni))
       have ca2 : w2.cell? ⟨g2, i, none⟩ = some (.bool (p.is i)) := (own2.cellAt i (by omega)).trans (isc_at (HN'.out ▸ hni'))
       have da1 := O1b.frozenAt i
       have da2 := own2.frozenAt i
       have P1 := Lib.hid O1b
       have P2 := Lib.hid own2
       have hbs2 := b2.size
       have m1 : ¬ g1 = g2 := by omega
       have m2 : ¬ g2 = g1 := by omega
       have m3 : ¬ g1 = w.heap.size + 1 + 1 := by omega
       have m4 : ¬ g2 = w.heap.size + 1 + 1 := by omega
       have m5 : ¬ w.heap.size + 1 + 1 = g1 := by omega
       have m6 : ¬ w.heap.size + 1 + 1 = g2 := by omega
       have m7 : ¬ g1 = w.heap.size + 1 := by omega
       have m8 : ¬ g2 = w.heap.size + 1 := by omega
       have m9 : ¬ w.heap.size + 1 = g1 := by omega
       have m10 : ¬ w.heap.size + 1 = g2 := by omega
       clear own2 grow2 hw2 Y2 Y1 O1b b2 q0 q1 q2 q3 r3 f2 f3))
  have a1 := ownsRow_setCell_below P1.out (a := ⟨w.heap.size + 1 + 1, 3, none⟩) (by show w.heap.size + 1 + 1 < w.heap.size + 1 + 1 + 1; omega) (.slice (some ⟨g2, 0, none⟩) n' k2)
  have a2 := (a1.stored i (.int .i64 (s : Int))).1
  have a3 := ownsRow_setCell_other a2 (a := ⟨g2, i, none⟩) (by simp [Value.ownBlock]; exact m1) (.bool b)
  have a4 := ownsRow_setCell_below a3 (a := ⟨w.heap.size + 1, 0, none⟩) (by show w.heap.size + 1 < w.heap.size + 1 + 1 + 1; omega) (.int .i64 p.ap)
  have a5 := ownsRow_setCell_below a4 (a := ⟨w.heap.size + 1, 1, none⟩) (by show w.heap.size + 1 < w.heap.size + 1 + 1 + 1; omega) (.int .i64 p.most)
  have a6 := ownsRow_setCell_below a5 (a := ⟨w.heap.size + 1, 2, none⟩) (by show w.heap.size + 1 < w.heap.size + 1 + 1 + 1; omega) (.slice (some ⟨g1, 0, none⟩) n k1)
  have K1 := ownsRow_setCell_below a6 (a := ⟨w.heap.size + 1, 3, none⟩) (by show w.heap.size + 1 < w.heap.size + 1 + 1 + 1; omega) (.slice (some ⟨g2, 0, none⟩) n' k2)
  have b1 := ownsRow_setCell_below P2.out (a := ⟨w.heap.size + 1 + 1, 3, none⟩) (by show w.heap.size + 1 + 1 < w1.heap.size; omega) (.slice (some ⟨g2, 0, none⟩) n' k2)
  have b2 := ownsRow_setCell_other b1 (a := ⟨g1, i, none⟩) (by simp [Value.ownBlock]; exact m2) (.int .i64 (s : Int))
  have b3 := (b2.stored i (.bool b)).1
  have b4 := ownsRow_setCell_below b3 (a := ⟨w.heap.size + 1, 0, none⟩) (by show w.heap.size + 1 < w1.heap.size; omega) (.int .i64 p.ap)
  have b5 := ownsRow_setCell_below b4 (a := ⟨w.heap.size + 1, 1, none⟩) (by show w.heap.size + 1 < w1.heap.size; omega) (.int .i64 p.most)
  have b6 := ownsRow_setCell_below b5 (a := ⟨w.heap.size + 1, 2, none⟩) (by show w.heap.size + 1 < w1.heap.size; omega) (.slice (some ⟨g1, 0, none⟩) n k1)
  have K2 := ownsRow_setCell_below b6 (a := ⟨w.heap.size + 1, 3, none⟩) (by show w.heap.size + 1 < w1.heap.size; omega) (.slice (some ⟨g2, 0, none⟩) n' k2)
  have l1 : n = (p.put i s b).st.length := by rw [(put_len p i s b).1]; exact HN.out
  have l2 : n' = (p.put i s b).out.length := by rw [(put_len p i s b).2]; exact HN'.out
  refine bodyPost_ret (v := rpv (p.put i s b) (some ⟨g1, 0, none⟩) (some ⟨g2, 0, none⟩) k1 k2) (by unfold rpv; rw [← l1, ← l2]; simp [results, Try.results56, go_sem, Pa.put, u0, u1, u2, u3]) rfl ?_
  refine ⟨_, _, k1, k2, rfl, ⟨?_, ?_⟩, ?_⟩
  · rw [put_skc]
    exact (own_rdL K1).wide (by omega) (Nat.le_refl _)
  · rw [put_isc]
    exact (own_rdL K2).wide (by omega) (Nat.le_refl _)
  · exact ((((((KB2.out.setCell (by show w.heap.size ≤ w.heap.size + 1 + 1; omega) _).setCell (by show w.heap.size ≤ g1; omega) _).setCell (by show w.heap.size ≤ g2; omega) _).setCell (by show w.heap.size ≤ w.heap.size + 1; omega) _).setCell (by show w.heap.size ≤ w.heap.size + 1; omega) _).setCell (by show w.heap.size ≤ w.heap.size + 1; omega) _).setCell (by show w.heap.size ≤ w.heap.size + 1; omega) _
end Vot
end Go.Proofs.Ytoaagemofjddiaa
