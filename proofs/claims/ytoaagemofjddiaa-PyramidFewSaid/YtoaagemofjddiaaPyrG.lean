/-
  The walk of what the laws of package pyramid show by example.
-/
import Derived.Test.YtoaagemofjddiaaPyrI
import Derived.Test.YtoaagemofjddiaaPyrF
import Derived.Test.YtoaagemofjddiaaPyrW5
import Derived.Deep.RegionHeld3
namespace Go.Proofs.Ytoaagemofjddiaa
open Go.RowKit Go.Shelf
set_option linter.unusedVariables false
namespace Pyr
attribute [local go_sem] Oper.semAt_some

def exZ : List Int := [5, -32768, 9, -4, 7, 1]
def exz : Nat → Int := fun i => exZ.getD i 0
theorem ex_top : IsTop 3 2 2 := ⟨by decide, by decide, fun j hj => by
  have : j = 0 ∨ j = 1 := by omega
  rcases this with rfl | rfl <;> decide⟩
theorem ex_code : codeH 3 2 0 = 5 := by decide
theorem ex_c : (lev 3 2 exz 1).getD (0 * 2 + 1) zc = ⟨1, 9, 2⟩ := by decide +kernel
theorem ex_t : (lev 3 2 exz 2).getD (0 * 1 + 0) zc = ⟨-4, 9, 5⟩ := by decide +kernel
theorem ex_over : overC 3 2 exz ⟨1, 0, 9, 9⟩ = ⟨1, 9, 3⟩ := by decide +kernel
theorem ex_seen : visP 3 2 ⟨1, 0, 9, 9⟩ ⟨2, 0, 0⟩ = 7 := by decide +kernel
theorem ex_above : abvP 3 2 exz 4 ⟨2, 0, 0⟩ = [(0, 0), (1, 1), (2, 0)] := by decide +kernel
def atS (l : List (Nat × Nat)) : Int := l.foldl (fun a x => a + 100 + 10 * (x.1 : Int) + (x.2 : Int)) 0
theorem atS_snoc (l : List (Nat × Nat)) (x : Nat × Nat) : atS (l ++ [x]) = atS l + 100 + 10 * (x.1 : Int) + (x.2 : Int) := by simp [atS]
theorem ex_pre {l : List (Nat × Nat)} {x : Nat × Nat} (h : l ++ [x] <+: [(0, 0), (1, 1), (2, 0)]) : l <+: [(0, 0), (1, 1), (2, 0)] ∧ 0 ≤ atS l ∧ atS l ≤ 300 ∧ x.1 ≤ 2 ∧ x.2 ≤ 2 := by
  have hl : l <+: [(0, 0), (1, 1), (2, 0)] := (List.prefix_append l [x]).trans h
  have hx : x ∈ [(0, 0), (1, 1), (2, 0)] := h.subset (by simp)
  have hn := h.length_le
  simp only [List.length_append, List.length_cons, List.length_nil] at hn
  have e := List.prefix_iff_eq_take.1 hl
  have hk : l.length = 0 ∨ l.length = 1 ∨ l.length = 2 := by omega
  refine ⟨hl, ?_⟩
  have hxx : x.1 ≤ 2 ∧ x.2 ≤ 2 := by
    simp only [List.mem_cons, List.not_mem_nil, or_false] at hx
    rcases hx with rfl | rfl | rfl <;> decide
  refine ⟨?_, ?_, hxx.1, hxx.2⟩
  all_goals
    rw [e]
    rcases hk with hk | hk | hk <;> rw [hk] <;> decide
theorem PS.only {w w' : World} {bp bl cl seen tb : Nat} {lvs : List Lv} (S : PS w bp bl cl lvs seen) (h : w.grownBy w' (some tb)) (h1 : bp ≠ tb) (h2 : bl ≠ tb) (h3 : ∀ l ∈ lvs, l.b ≠ tb) : PS w' bp bl cl lvs seen :=
  ⟨S.blk.grown h (fun e => h1 (Option.some.inj e)), S.rdl.grown h (fun g e => by have := Option.some.inj e; omega), S.cl, S.ne, fun l hl => by
    obtain ⟨a, b⟩ := S.rows l hl
    exact ⟨a.grown h (fun g e => by have := Option.some.inj e; have := h3 l hl; omega), b⟩⟩
set_option maxRecDepth 100000 in
set_option maxHeartbeats 4000000 in
theorem works36_any (w : World) : Calls Try.prog 11 #[] w fun e w' => e = .returned (.bool true) ∧ Below w.heap.size w w' := by
  have hnf : ∀ w g h, (binOp .eql 56 (.func (.func 51) #[] #[.pointer (some ⟨g, 0, none⟩), .pointer (some ⟨h, 0, none⟩)]) .nilFunc).run Try.prog w = .ok (.bool false) w := fun _ _ _ => by kernel_rfl
  have hnew := fun X => new_bad 3 2 Option.none 0 0 X (by decide) (by rw [ex_code]; decide)
  rw [ex_code] at hnew
  refine callsIn_wide.1 (callsIn_of_wp_marks (n := 9) Try.func11 rfl trivial ?_ rfl)
  simp only [Try.ntmps11, List.size_toArray, List.length_nil, Nat.reduceSub, Array.replicate_succ, Array.replicate_zero, List.push_toArray, List.append_toArray, List.nil_append, List.cons_append]
  refine wpIn_wide.2 ?_
  go_wp2_with fail
  have hn1 := new_ok 3 2 (some ⟨w.heap.size, 0, Option.none⟩) exZ 6 6 _ _ _ ((new_rd w 36 (exZ.map zv)).alloc (.cells #[.int .i64 3, .int .i64 2, .slice (some ⟨w.heap.size, 0, Option.none⟩) 6 6] 24)) rfl rfl (by decide) (by decide) (by decide) (by decide) (by decide) (by simp)
  refine hn1.mono ?_
  rintro e w1 ⟨top, bp, bl, cl, lvs, rfl, hP, hI, hT, hlen, hbp, hb⟩
  obtain rfl : top = 2 := hT.eq ex_top
  have hI' : IsLv 3 2 exz lvs := hI
  have HI := Lib.hid hI'
  have HP := Lib.hid hP
  have hbp' : w.heap.size < bp := by simp at hbp; omega
  have HB := Lib.hid (bt (bt (_root_.Go.Proofs.Ytoaagemofjddiaa.bl w (.cells (exZ.map zv).toArray 36)) (_root_.Go.Proofs.Ytoaagemofjddiaa.bl _ (.cells #[.int .i64 3, .int .i64 2, .slice (some ⟨w.heap.size, 0, Option.none⟩) 6 6] 24))) hb)
  clear hn1 hI hI' hT hP hb hbp
  go_wp2_with fail
  refine (hnew _).mono ?_
  rintro e w2 ⟨rfl, hb⟩
  have P2 := HP.out.next hb
  have HP2 := Lib.hid P2
  have HB2 := Lib.hid (bt HB.out hb)
  have hk1 : lvs[1]? = some lvs[1] := List.getElem?_eq_getElem (by omega)
  have hk2 : lvs[2]? = some lvs[2] := List.getElem?_eq_getElem (by omega)
  have w1e : lvs[1].wd = 2 := HI.out.wd 1 (by omega)
  have h1e : lvs[1].h = 1 := HI.out.h 1 (by omega)
  have l1e : lvs[1].L = lev 3 2 exz 1 := HI.out.L 1 (by omega)
  have w2e : lvs[2].wd = 1 := HI.out.wd 2 (by omega)
  have h2e : lvs[2].h = 1 := HI.out.h 2 (by omega)
  have l2e : lvs[2].L = lev 3 2 exz 2 := HI.out.L 2 (by omega)
  have hside := side_in P2 hk1
  rw [w1e, h1e] at hside
  have hat1 := fun X (S : PS X bp bl cl lvs 0) => atm_in S hk1 (x := 1) (y := 0) (by omega) (by omega) (by omega) (by omega)
  rw [w1e, l1e, ex_c] at hat1
  have hat2 := fun X (S : PS X bp bl cl lvs 0) => atm_in S hk2 (x := 0) (y := 0) (by omega) (by omega) (by omega) (by omega)
  rw [w2e, l2e, ex_t] at hat2
  have hat3 := fun X (S : PS X bp bl cl lvs 0) => atm_out S (n := 3) (x := 0) (y := 0) (.inr (by omega))
  have hover := fun X (S : PS X bp bl cl lvs 0) => over_any S HI.out ex_top hlen ⟨1, 0, 9, 9⟩ (by decide) (by decide) (by decide) (by decide)
  clear hnew hb P2 hk1 hk2 w1e h1e l1e w2e h2e l2e HP
  go_wp2_with fail
  refine hside.mono ?_
  rintro e w3 ⟨rfl, q, rfl⟩
  go_wp2_with fail
  refine (hat1 _ (HP2.out.drewN q)).mono ?_
  rintro e w4 ⟨rfl, hb⟩
  have hb' : Below w2.heap.size w2 w4 := bt (below_drewN (Below.refl _ _) q) hb
  have P4 := (HP2.out.next hb').next (_root_.Go.Proofs.Ytoaagemofjddiaa.bl w4 (.cells (cec ⟨1, 9, 2⟩).toArray 38))
  have C4 := Lib.hid (Blk.mk w4 38 (cec ⟨1, 9, 2⟩))
  have HB4 := Lib.hid (bt (bt HB2.out hb') (_root_.Go.Proofs.Ytoaagemofjddiaa.bl w4 (.cells (cec ⟨1, 9, 2⟩).toArray 38)))
  have HP4 := Lib.hid P4
  have hbp4 : bp < w4.heap.size := Nat.lt_of_lt_of_le HP2.out.blk.lt hb'.size
  clear hb hb' P4 hat1 HP2 HB2 hside
  unfold cev
  go_wp2_with fail
  refine (hat3 _ HP4.out).mono ?_
  rintro e w5 ⟨rfl, hb⟩
  have P5 := (HP4.out.next hb).next (_root_.Go.Proofs.Ytoaagemofjddiaa.bl w5 (.cells (cec zc).toArray 38))
  have C5 := Lib.hid ((C4.out.next hb).next (_root_.Go.Proofs.Ytoaagemofjddiaa.bl w5 (.cells (cec zc).toArray 38)))
  have HB5 := Lib.hid (bt (bt HB4.out hb) (_root_.Go.Proofs.Ytoaagemofjddiaa.bl w5 (.cells (cec zc).toArray 38)))
  have HP5 := Lib.hid P5
  have s45 : w4.heap.size < w5.heap.size := by have := hb.size; simp at this; omega
  clear hb P5 hat3 HP4 HB4 C4
  unfold cev
  go_wp2_with fail
  refine (hat2 _ HP5.out).mono ?_
  rintro e w6 ⟨rfl, hb⟩
  have P6 := (HP5.out.next hb).next (_root_.Go.Proofs.Ytoaagemofjddiaa.bl w6 (.cells (cec ⟨-4, 9, 5⟩).toArray 38))
  have C6 := Lib.hid ((C5.out.next hb).next (_root_.Go.Proofs.Ytoaagemofjddiaa.bl w6 (.cells (cec ⟨-4, 9, 5⟩).toArray 38)))
  have T6 := Lib.hid (Blk.mk w6 38 (cec ⟨-4, 9, 5⟩))
  have HB6 := Lib.hid (bt (bt HB5.out hb) (_root_.Go.Proofs.Ytoaagemofjddiaa.bl w6 (.cells (cec ⟨-4, 9, 5⟩).toArray 38)))
  have HP6 := Lib.hid P6
  have s56 : w5.heap.size < w6.heap.size := by have := hb.size; simp at this; omega
  clear hb P6 hat2 HP5 HB5 C5
  unfold cev
  go_wp2_with fail
  refine (hover _ HP6.out).mono ?_
  rintro e w7 ⟨rfl, hP7, hg7⟩
  rw [ex_seen] at hP7
  rw [ex_over]
  have P7 := hP7.next (_root_.Go.Proofs.Ytoaagemofjddiaa.bl w7 (.cells (cec ⟨1, 9, 3⟩).toArray 38))
  have C7 := Lib.hid ((C6.out.grown hg7 (fun e => by have := Option.some.inj e; omega)).next (_root_.Go.Proofs.Ytoaagemofjddiaa.bl w7 (.cells (cec ⟨1, 9, 3⟩).toArray 38)))
  have T7 := Lib.hid ((T6.out.grown hg7 (fun e => by have := Option.some.inj e; omega)).next (_root_.Go.Proofs.Ytoaagemofjddiaa.bl w7 (.cells (cec ⟨1, 9, 3⟩).toArray 38)))
  have O7 := Lib.hid (Blk.mk w7 38 (cec ⟨1, 9, 3⟩))
  have HB7 := Lib.hid (bt (HB6.out.grown hg7 HB6.out.size (fun k hk => by have := Option.some.inj hk; omega)) (_root_.Go.Proofs.Ytoaagemofjddiaa.bl w7 (.cells (cec ⟨1, 9, 3⟩).toArray 38)))
  have HP7 := Lib.hid P7
  have s67 : w6.heap.size < w7.heap.size := by have := hg7.size; simp at this; omega
  clear P7 hP7 hg7 hover HP6 HB6 C6 T6
  unfold cev
  go_wp2_with fail
  refine (seen_any HP7.out).mono ?_
  rintro e w8 ⟨rfl, rfl⟩
  go_wp2_with fail
  refine (above_any bp 4 _).mono ?_
  rintro e w8 ⟨rfl, rfl⟩
  go_wp2_with fail
  have hs8 : (w7.alloc (.cells (cec ⟨1, 9, 3⟩).toArray 38)).heap.size = w7.heap.size + 1 := by simp
  have hPL := HP7.out.apart_new (by omega) (fun l hl => by
    obtain ⟨k, hk, rfl⟩ := List.getElem_of_mem hl
    rw [HI.out.L k hk, lev_len]
    exact Nat.mul_pos (side_pos (by decide) k) (side_pos (by decide) k))
  obtain ⟨hbl8, hlb8⟩ := hPL
  have hAI := AI.start HP7.out 4
  rw [hs8] at hAI hbl8 hlb8
  have hAI2 := Lib.hid (hAI.next (_root_.Go.Proofs.Ytoaagemofjddiaa.bl _ (.cells #[.int .i64 0] 3)))
  have hib := Blk.mk (((w7.alloc (.cells (cec ⟨1, 9, 3⟩).toArray 38)).alloc (.cells #[.pointer (some ⟨bp, 0, Option.none⟩)] 26)).alloc (.cells #[.int .i16 4] 36)) 3 [.int .i64 0]
  simp only [World.size_alloc] at hib
  have HIb := Lib.hid hib
  have hbW : Below (w7.alloc (.cells (cec ⟨1, 9, 3⟩).toArray 38)).heap.size (w7.alloc (.cells (cec ⟨1, 9, 3⟩).toArray 38)) ((((w7.alloc (.cells (cec ⟨1, 9, 3⟩).toArray 38)).alloc (.cells #[.pointer (some ⟨bp, 0, Option.none⟩)] 26)).alloc (.cells #[.int .i16 4] 36)).alloc (.cells #[.int .i64 0] 3)) := bt (bt (_root_.Go.Proofs.Ytoaagemofjddiaa.bl _ _) (_root_.Go.Proofs.Ytoaagemofjddiaa.bl _ _)) (_root_.Go.Proofs.Ytoaagemofjddiaa.bl _ _)
  have C8 := Lib.hid (C7.out.next hbW)
  have T8 := Lib.hid (T7.out.next hbW)
  have O8 := Lib.hid (O7.out.next hbW)
  have HB8 := Lib.hid (bt HB7.out hbW)
  have hs0 : ((((w7.alloc (.cells (cec ⟨1, 9, 3⟩).toArray 38)).alloc (.cells #[.pointer (some ⟨bp, 0, Option.none⟩)] 26)).alloc (.cells #[.int .i16 4] 36)).alloc (.cells #[.int .i64 0] 3)).heap.size = w7.heap.size + 1 + 1 + 1 + 1 := by simp
  clear hAI hib hbW C7 T7 O7 HB7 HP7 hs8
  generalize hW0 : ((((w7.alloc (.cells (cec ⟨1, 9, 3⟩).toArray 38)).alloc (.cells #[.pointer (some ⟨bp, 0, Option.none⟩)] 26)).alloc (.cells #[.int .i16 4] 36)).alloc (.cells #[.int .i64 0] 3)) = W0 at *
  clear hW0
  refine range_above (s1 := 18) (s2 := 19) (tb := w7.heap.size + 1 + 1 + 1) rfl HI.out ex_top hlen (by decide) (by decide) (by decide) (by decide) ⟨by omega, by omega, by omega, by omega, fun l hl => by have := hlb8 l hl; omega⟩ (by omega) hAI2.out
    (fun pre W => W0.grownBy W (some (w7.heap.size + 1 + 1 + 1)) ∧ ∃ v : Int, Blk W (w7.heap.size + 1 + 1 + 1) 3 [.int .i64 v] ∧ (pre <+: [(0, 0), (1, 1), (2, 0)] → v = atS pre)) (fun _ _ _ => False)
    (fun s W W' row h hg hr => ?own) (fun _ _ _ _ _ hs _ _ => hs)
    ⟨only_refl _ _, 0, HIb.out, fun _ => rfl⟩ ?assign ?body ?done ?stop
  case own =>
    obtain ⟨h1, v, h2, h3⟩ := h
    have hne : some (w7.heap.size + 1 + 1 + 1) ≠ row := fun e => by have := (hr _ e.symm).1; omega
    exact ⟨⟨hg.os.trans h1.os, hg.tape.trans h1.tape, hg.output.trans h1.output, Nat.le_trans h1.size hg.size, fun j hj hj2 => (hg.block j (Nat.lt_of_lt_of_le hj h1.size) (fun e => by have := (hr _ e.symm).1; omega)).trans (h1.block j hj hj2)⟩, v, h2.grown hg hne, h3⟩
  case assign =>
    rintro l ⟨x, y⟩ W K hK
    unfold TX at hK
    simp only [List.setIfInBounds_toArray, List.set_cons_zero, List.set_cons_succ] at hK ⊢
    gi_wp2
    exact hK
  case body =>
    rintro l pre ⟨x, y⟩ W hl' ⟨hg, v, hbi, hv⟩ hlen'
    have c0 : W.cell? ⟨w7.heap.size + 1 + 1 + 1, 0, none⟩ = some (.int .i64 v) := hbi.cell 0
    have d0 := hbi.free 0
    have HG := Lib.hid hg
    have HBi := Lib.hid hbi
    have HV := Lib.hid hv
    clear hg hbi hv
    have hkp : ∀ u, Kp (w7.heap.size + 1 + 1 + 1) W (W.setCell ⟨w7.heap.size + 1 + 1 + 1, 0, none⟩ u) := fun u => ⟨by simp, fun b o hb ho _ => (Below.heap_setCell W ⟨w7.heap.size + 1 + 1 + 1, 0, none⟩ u b hb).trans ho⟩
    by_cases hp : pre ++ [(x, y)] <+: [(0, 0), (1, 1), (2, 0)]
    · obtain ⟨h1, h2, h3, h4, h5⟩ := ex_pre hp
      obtain rfl : v = atS pre := HV.out h1
      dsimp only at h4 h5
      have hsn := Lib.hid (atS_snoc pre (x, y))
      generalize atS pre = s at *
      have y1 : IntKind.i64.wrap (s + 100) = s + 100 := IntWalk.i64_in _ (by omega)
      have y2 : IntKind.i64.wrap (10 * (x : Int)) = 10 * (x : Int) := IntWalk.i64_in _ (by omega)
      have y3 : IntKind.i64.wrap (s + 100 + 10 * (x : Int)) = s + 100 + 10 * (x : Int) := IntWalk.i64_in _ (by omega)
      have y4 : IntKind.i64.wrap (s + 100 + 10 * (x : Int) + (y : Int)) = s + 100 + 10 * (x : Int) + (y : Int) := IntWalk.i64_in _ (by omega)
      have HKp := Lib.hid hkp
      clear hkp hp
      unfold TX
      simp only [List.setIfInBounds_toArray, List.set_cons_zero, List.set_cons_succ]
      gi_wp2
      exact ⟨(KeepsOthers.setCell _ _ _).from _, HKp.out _, only_set HG.out 0 _, _, HBi.out.put 0 _, fun _ => hsn.out.symm⟩
    · have HKp := Lib.hid hkp
      have HNp := Lib.hid hp
      clear hkp hp
      unfold TX
      simp only [List.setIfInBounds_toArray, List.set_cons_zero, List.set_cons_succ]
      gi_wp2
      exact ⟨(KeepsOthers.setCell _ _ _).from _, HKp.out _, only_set HG.out 0 _, _, HBi.out.put 0 _, fun h => absurd h HNp.out⟩
  case stop =>
    rintro D c pre W _ _ h _
    exact h.elim
  case done =>
    rintro D W hD ⟨hg, v, hbi, hv⟩ hKD
    have hv2 := hv (by rw [show abvP 3 2 exz 4 ⟨2, 0, 0⟩ = _ from ex_above]; exact List.prefix_refl _)
    rw [show abvP 3 2 exz 4 ⟨2, 0, 0⟩ = _ from ex_above] at hv2
    obtain rfl : v = 331 := hv2
    have C9 := Lib.hid (C8.out.grown hg (fun e => by have := Option.some.inj e; omega))
    have T9 := Lib.hid (T8.out.grown hg (fun e => by have := Option.some.inj e; omega))
    have O9 := Lib.hid (O8.out.grown hg (fun e => by have := Option.some.inj e; omega))
    have P9 := Lib.hid (hAI2.out.ps.only hg (by omega) (by omega) (fun l hl => by have := hlb8 l hl; omega))
    have HB9 := Lib.hid (HB8.out.grown hg HB8.out.size (fun k hk => by have := Option.some.inj hk; have := HB8.out.size; omega))
    have I9 := Lib.hid hbi
    have HKD := Lib.hid hKD
    have hj0 := fun X => join_any Option.none [] 0 0 0 0 X (.inl rfl) rfl (Nat.le_refl _) (by decide) (fun c hc => by cases hc)
    have hsW := hg.size
    clear hg hbi hv hKD hAI2 HIb C8 T8 O8 HB8 hlb8 hbl8
    have c0 : W.cell? ⟨w4.heap.size, 0, none⟩ = some (.int .i16 1) := C9.out.cell 0
    have c1 : W.cell? ⟨w4.heap.size, 1, none⟩ = some (.int .i16 9) := C9.out.cell 1
    have c2 : W.cell? ⟨w4.heap.size, 2, none⟩ = some (.int .i64 2) := C9.out.cell 2
    have t0 : W.cell? ⟨w6.heap.size, 0, none⟩ = some (.int .i16 (-4)) := T9.out.cell 0
    have t1 : W.cell? ⟨w6.heap.size, 1, none⟩ = some (.int .i16 9) := T9.out.cell 1
    have t2 : W.cell? ⟨w6.heap.size, 2, none⟩ = some (.int .i64 5) := T9.out.cell 2
    have o0 : W.cell? ⟨w7.heap.size, 0, none⟩ = some (.int .i16 1) := O9.out.cell 0
    have o1 : W.cell? ⟨w7.heap.size, 1, none⟩ = some (.int .i16 9) := O9.out.cell 1
    have o2 : W.cell? ⟨w7.heap.size, 2, none⟩ = some (.int .i64 3) := O9.out.cell 2
    have i0 : W.cell? ⟨w7.heap.size + 1 + 1 + 1, 0, none⟩ = some (.int .i64 331) := I9.out.cell 0
    have m1 : ∀ w, (binOp .eql 38 (.agg #[.int .i16 1, .int .i16 9, .int .i64 2]) (.agg #[.int .i16 1, .int .i16 9, .int .i64 2])).run Try.prog w = .ok (.bool true) w := fun _ => by kernel_rfl
    have m2 : ∀ w, (binOp .eql 38 (.agg #[.int .i16 (-4), .int .i16 9, .int .i64 5]) (.agg #[.int .i16 (-4), .int .i16 9, .int .i64 5])).run Try.prog w = .ok (.bool true) w := fun _ => by kernel_rfl
    have m3 : ∀ w, (binOp .eql 38 (.agg #[.int .i16 1, .int .i16 9, .int .i64 3]) (.agg #[.int .i16 1, .int .i16 9, .int .i64 3])).run Try.prog w = .ok (.bool true) w := fun _ => by kernel_rfl
    have m4 : ∀ w, (binOp .eql 38 (.agg #[.int .i16 0, .int .i16 0, .int .i64 0]) (.agg #[.int .i16 0, .int .i16 0, .int .i64 0])).run Try.prog w = .ok (.bool true) w := fun _ => by kernel_rfl
    have m5 : ∀ w, (binOp .eql 38 (.agg #[.int .i16 (-4), .int .i16 9, .int .i64 7]) (.agg #[.int .i16 (-4), .int .i16 9, .int .i64 7])).run Try.prog w = .ok (.bool true) w := fun _ => by kernel_rfl
    go_wp2_with fail
    refine (levels_any P9.out).mono ?_
    rintro e w9 ⟨rfl, rfl⟩
    rw [hlen]
    go_wp2_with fail
    refine (hj0 _).mono ?_
    rintro e w9 ⟨rfl, hb9⟩
    have C10 := C9.out.next hb9
    have T10 := T9.out.next hb9
    have c0 : w9.cell? ⟨w4.heap.size, 0, none⟩ = some (.int .i16 1) := C10.cell 0
    have c1 : w9.cell? ⟨w4.heap.size, 1, none⟩ = some (.int .i16 9) := C10.cell 1
    have c2 : w9.cell? ⟨w4.heap.size, 2, none⟩ = some (.int .i64 2) := C10.cell 2
    have t0 : w9.cell? ⟨w6.heap.size, 0, none⟩ = some (.int .i16 (-4)) := T10.cell 0
    have t1 : w9.cell? ⟨w6.heap.size, 1, none⟩ = some (.int .i16 9) := T10.cell 1
    have t2 : w9.cell? ⟨w6.heap.size, 2, none⟩ = some (.int .i64 5) := T10.cell 2
    have hjz : cev (joins []) = .agg #[.int .i16 0, .int .i16 0, .int .i64 0] := rfl
    rw [hjz]
    have HB10 := Lib.hid hb9
    clear hb9 C10 T10
    go_wp2_with fail
    have hj2 := join_any (some ⟨w9.heap.size, 0, Option.none⟩) [⟨1, 9, 2⟩, ⟨-4, 9, 5⟩] 2 2 _ _ _ (new_rd w9 38 (cec ⟨1, 9, 2⟩ ++ cec ⟨-4, 9, 5⟩)) rfl (Nat.le_refl _) (by decide) (by decide)
    refine hj2.mono ?_
    rintro e w10 ⟨rfl, hb10⟩
    have hjz : cev (joins [⟨1, 9, 2⟩, ⟨-4, 9, 5⟩]) = .agg #[.int .i16 (-4), .int .i16 9, .int .i64 7] := rfl
    rw [hjz]
    go_wp2_with fail
    have hbE : Below W.heap.size W w10 := bt (bt HB10.out (_root_.Go.Proofs.Ytoaagemofjddiaa.bl _ _)) hb10
    have hDs : D < W.heap.size := (Array.getElem?_eq_some_iff.1 HKD.out).1
    have hKz := (hbE.block D hDs).trans HKD.out
    refine ⟨by simp, .inl ⟨_, _, rfl, run_takeDeferred hKz, ?_⟩⟩
    exact ⟨_, results_tmp rfl _ _ _, rfl, (bt HB9.out hbE).trans (belowK_b (w := w) (Nat.le_refl _) _ D _ _ (by omega) hKz rfl rfl)⟩
end Pyr
end Go.Proofs.Ytoaagemofjddiaa
