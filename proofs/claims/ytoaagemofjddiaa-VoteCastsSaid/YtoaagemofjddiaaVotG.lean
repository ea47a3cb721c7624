/-
  The walk of what the laws of package vote show by example.
-/
import Derived.Test.YtoaagemofjddiaaVotX
namespace Go.Proofs.Ytoaagemofjddiaa
open Go.RowKit Go.Shelf
set_option linter.unusedVariables false
namespace Vot

theorem mid_hit {l : List Int} {x : Int} (h : 0 < l.length) (hx : hit l x = true) : mid l = x := ((hit_iff h x).1 hx).symm
def exL0 : List Sa := [(true, 100), (true, 105), (true, 500)]
def exL1 : List Sa := [(true, 100), (true, 105), (true, 101)]
def exP0 : Pa := ⟨10, 2, [0, 0, 0], [false, false, false]⟩
def exP1 : Pa := ⟨10, 2, [0, 0, 1], [false, false, false]⟩
def exP2 : Pa := ⟨10, 2, [0, 0, 2], [false, false, true]⟩
def exP4 : Pa := ⟨10, 2, [1, 1, 1], [false, false, false]⟩
theorem ex_new : new 3 10 2 = exP0 := rfl
theorem ex_t1 : told0 exP0 exL0 = [100, 105, 500] := by decide
theorem ex_t2 : told0 exP1 exL0 = [100, 105, 500] := by decide
theorem ex_t3 : told0 exP2 exL1 = [100, 105] := by decide
theorem ex_t4 : told0 exP0 [] = [] := by decide
theorem ex_m1 : mid [100, 105, 500] = 105 := mid_hit (by decide) (by decide)
theorem ex_m3 : mid [100, 105] = 100 := mid_hit (by decide) (by decide)
theorem ex_m5 : mid [5, 3, 9, 4] = 4 := mid_hit (by decide) (by decide)
theorem ex_c1 : castAll exP0 exL0 = exP1 := by unfold castAll; rw [ex_t1, ex_m1]; rfl
theorem ex_c2 : castAll exP1 exL0 = exP2 := by unfold castAll; rw [ex_t2, ex_m1]; rfl
theorem ex_c3 : castAll exP2 exL1 = exP2 := by unfold castAll; rw [ex_t3, ex_m3]; rfl
theorem ex_c4 : castAll exP0 [] = exP4 := by unfold castAll; rw [ex_t4, mid_nil]; rfl
theorem ex_o0 : exP0.ok 0 := new_ok (n := 3) (ap := 10) (most := 2) (by decide) (by decide) (by decide) (by decide) (by decide) (by decide)
theorem ex_o1 : exP1.ok 1 := by have := castAll_ok ex_o0 exL0; rw [ex_c1] at this; exact this
theorem ex_o2 : exP2.ok 2 := by have := castAll_ok ex_o1 exL0; rw [ex_c2] at this; exact this
theorem ex_s : ([[98], [97]] : List (List UInt8)).mergeSort (fun x y => decide (x ≤ y)) = [[97], [98]] := by simp [List.mergeSort, List.MergeSort.Internal.splitInTwo, List.merge]; decide
/-- the panel and the samples -/
structure WS (w : World) (gp gl : Nat) (p : Pa) (L : List Sa) (wr : World) : Prop where
  p : Blk wr gp 69 (pac p)
  l : Blk wr gl 92 (L.flatMap sac)
  keep : Below w.heap.size w wr
  np : w.heap.size ≤ gp
  nl : w.heap.size ≤ gl
  ne : gp ≠ gl
theorem pac_cells {wr : World} {g : Nat} {q : Pa} (B : Blk wr g 69 (pac q)) : wr.cell? ⟨g, 0, Option.none⟩ = some (.int .i64 (q.out.length : Int)) ∧ wr.cell? ⟨g, 1, Option.none⟩ = some (.int .i64 q.ap) ∧ wr.cell? ⟨g, 2, Option.none⟩ = some (.int .i64 q.most) ∧
    wr.cell? ⟨g, 3, Option.none⟩ = some (.int .i64 (q.sk 0 : Int)) ∧ wr.cell? ⟨g, 4, Option.none⟩ = some (.int .i64 (q.sk 1 : Int)) ∧ wr.cell? ⟨g, 5, Option.none⟩ = some (.int .i64 (q.sk 2 : Int)) ∧ wr.cell? ⟨g, 6, Option.none⟩ = some (.int .i64 (q.sk 3 : Int)) ∧ wr.cell? ⟨g, 7, Option.none⟩ = some (.int .i64 (q.sk 4 : Int)) ∧
    wr.cell? ⟨g, 8, Option.none⟩ = some (.bool (q.is 0)) ∧ wr.cell? ⟨g, 9, Option.none⟩ = some (.bool (q.is 1)) ∧ wr.cell? ⟨g, 10, Option.none⟩ = some (.bool (q.is 2)) ∧ wr.cell? ⟨g, 11, Option.none⟩ = some (.bool (q.is 3)) ∧ wr.cell? ⟨g, 12, Option.none⟩ = some (.bool (q.is 4)) :=
  ⟨B.cell 0, B.cell 1, B.cell 2, B.cell 3, B.cell 4, B.cell 5, B.cell 6, B.cell 7, B.cell 8, B.cell 9, B.cell 10, B.cell 11, B.cell 12⟩
section
variable {w wr w' : World} {gp gl : Nat} {p q : Pa} {L : List Sa}
theorem WS.next (S : WS w gp gl p L wr) (hb : Below wr.heap.size wr w') : WS w gp gl p L w' := ⟨S.p.next hb, S.l.next hb, bt S.keep hb, S.np, S.nl, S.ne⟩
theorem WS.put (S : WS w gp gl p L wr) (hP : Blk w' gp 69 (pac q)) (hg : wr.grownBy w' (some gp)) : WS w gp gl q L w' :=
  ⟨hP, S.l.grown hg (fun e => S.ne (Option.some.inj e).symm), S.keep.grown hg S.keep.size (fun k e => by have := Option.some.inj e; have := S.np; omega), S.np, S.nl, S.ne⟩
theorem WS.rd (S : WS w gp gl p L wr) : RdL wr gl (gl + 1) (some ⟨gl, 0, none⟩) (L.flatMap sac) :=
  .inr ⟨gl, 0, rfl, Nat.le_refl _, Nat.lt_succ_self _, S.l.lt, fun j u h => by rw [Nat.zero_add]; exact (S.l.cell j).trans h⟩
theorem WS.cast (S : WS w gp gl p L wr) {B : Nat} (hok : p.ok B) (hB : B ≤ 1000) {n : Nat} (hn : n = L.length) {q : Pa} (hq : castAll p L = q) {t : List Int} (ht : told0 p L = t) {m : Int} (hm : mid t = m) {b : Bool} (hb : decide (0 < t.length) = b) :
    Calls Try.prog 36 #[.pointer (some ⟨gp, 0, none⟩), .slice (some ⟨gl, 0, none⟩) n n] wr fun e w' => e = .returned (.tuple #[.int .i64 m, .bool b]) ∧ WS w gp gl q L w' := by
  subst hn
  refine (cast_any (cap := L.length) S.p S.rd hok hB S.l.lt (by have := S.ne; omega)).mono ?_
  rintro e w' ⟨rfl, hP, hg⟩
  rw [ht, hm, hb]
  rw [hq] at hP
  exact ⟨rfl, S.put hP hg⟩
end
set_option maxRecDepth 100000 in
set_option maxHeartbeats 1000000 in
theorem works29_any (w : World) : Calls Try.prog 28 #[] w fun e w' => e = .returned (.bool true) ∧ Below w.heap.size w w' := by
  have hnew1 : ∀ X : World, Calls Try.prog 31 #[.int .i64 3, .int .i64 10, .int .i64 2] X fun e w' => e = .returned (.tuple #[.agg (pac exP0).toArray, .int .i64 0]) ∧ Below X.heap.size X w' := fun X => new_yes 3 10 2 ⟨by decide, by decide, by decide, by decide, by decide, by decide⟩ X
  have hnew2 : ∀ X : World, Calls Try.prog 31 #[.int .i64 0, .int .i64 1, .int .i64 1] X fun e w' => e = .returned (.tuple #[.agg zeroP.toArray, .int .i64 2]) ∧ Below X.heap.size X w' := fun X => new_no 0 1 1 (by unfold right; omega) X
  go_enter Try.func28, Try.ntmps28
  go_wp2_with fail
  refine (hnew1 _).mono ?_
  rintro e w1 ⟨rfl, hb1⟩
  unfold pac
  go_wp2_with fail
  refine (hnew2 _).mono ?_
  rintro e w2 ⟨rfl, hb2⟩
  unfold zeroP
  go_wp2_with fail
  have S0 : WS w w1.heap.size (w2.heap.size + 1) exP0 exL0 ((w2.alloc (.cells zeroP.toArray 69)).alloc (.cells (exL0.flatMap sac).toArray 92)) := by
    have L := Blk.mk (w2.alloc (.cells zeroP.toArray 69)) 92 (exL0.flatMap sac)
    rw [heap_alloc_sz] at L
    have P := (Blk.mk w1 69 (pac exP0)).next hb2
    have K := bt hb1 (bt (bl w1 (.cells (pac exP0).toArray 69)) hb2)
    have h1 := hb1.size
    have h2 := hb2.size
    rw [heap_alloc_sz] at h2
    exact ⟨(P.alloc _).alloc _, L, bt (bt K (bl _ _)) (bl _ _), h1, by omega, by omega⟩
  have H0 := Lib.hid S0
  clear S0 hb1 hb2 hnew1 hnew2
  unfold exL0 zeroP at H0
  simp only [List.flatMap_cons, List.flatMap_nil, sac, List.cons_append, List.nil_append] at H0
  generalize (w2.alloc _).alloc _ = w3 at *
  have H3 := Lib.hid (show WS w w1.heap.size (w2.heap.size + 1) exP0 exL0 w3 from H0.out)
  clear H0
  generalize w1.heap.size = gp at *
  generalize w2.heap.size + 1 = gl at *
  have c1 := H3.out.cast (n := 3) ex_o0 (by decide) rfl ex_c1 ex_t1 ex_m1 (b := true) rfl
  go_wp2_with fail
  refine c1.mono ?_
  rintro e w4 ⟨rfl, S⟩
  have H4 := Lib.hid S
  have c2 := S.cast (n := 3) ex_o1 (by decide) rfl ex_c2 ex_t2 ex_m1 (b := true) rfl
  clear S c1 H3
  go_wp2_with fail
  refine c2.mono ?_
  rintro e w5 ⟨rfl, S⟩
  have H5 := Lib.hid S
  have ho := fun X => out_any exP2 (by decide) (i := 2) X
  have he : (decide ((0 : Int) ≤ 2 ∧ (2 : Int) < (exP2.out.length : Int)) && exP2.is (2 : Int).toNat) = true := by decide
  rw [he] at ho
  unfold pac at ho
  have q5 : w5.cell? ⟨gl, 5, none⟩ = some (.int .i64 500) := S.l.cell 5
  have f5 := S.l.free 5
  have SX : WS w gp gl exP2 exL1 (w5.setCell ⟨gl, 5, none⟩ (.int .i64 101)) := by
    exact ⟨S.p.far (p := ⟨gl, 5, none⟩) S.ne _, S.l.put 5 (.int .i64 101), S.keep.setCell S.nl _, S.np, S.nl, S.ne⟩
  obtain ⟨k0, k1, k2, k3, k4, k5, k6, k7, k8, k9, k10, k11, k12⟩ := pac_cells S.p
  clear S c2 H4 he SX q5 f5
  go_wp2_with fail
  refine (ho _).mono ?_
  rintro e w6 ⟨rfl, hb⟩
  have S := H5.out.next hb
  have q5 : w6.cell? ⟨gl, 5, none⟩ = some (.int .i64 500) := S.l.cell 5
  have f5 := S.l.free 5
  have SX : WS w gp gl exP2 exL1 (w6.setCell ⟨gl, 5, none⟩ (.int .i64 101)) := by
    exact ⟨S.p.far (p := ⟨gl, 5, none⟩) S.ne _, S.l.put 5 (.int .i64 101), S.keep.setCell S.nl _, S.np, S.nl, S.ne⟩
  have H6 := Lib.hid SX
  clear ho S SX k0 k1 k2 k3 k4 k5 k6 k7 k8 k9 k10 k11 k12 H5 hb
  go_wp2_with fail
  clear q5 f5
  generalize w6.setCell ⟨gl, 5, none⟩ (.int .i64 101) = w7 at *
  have c3 := H6.out.cast (n := 3) ex_o2 (by decide) rfl ex_c3 ex_t3 ex_m3 (b := true) rfl
  refine c3.mono ?_
  rintro e w8 ⟨rfl, S⟩
  have H8 := Lib.hid (S.next (bl w8 (.cells #[.int .i64 5, .int .i64 3, .int .i64 9, .int .i64 4] 3)))
  clear S c3 H6
  have hm : ∀ X : World, Calls Try.prog 52 #[.slice (some ⟨X.heap.size, 0, none⟩) 4 4] (X.alloc (.cells #[.int .i64 5, .int .i64 3, .int .i64 9, .int .i64 4] 3)) fun e w' => e = .returned (.tuple #[.int .i64 4, .bool true]) ∧ Below (X.alloc (.cells #[.int .i64 5, .int .i64 3, .int .i64 9, .int .i64 4] 3)).heap.size (X.alloc (.cells #[.int .i64 5, .int .i64 3, .int .i64 9, .int .i64 4] 3)) w' := fun X => by
    have := midInt_any (c := 4) [5, 3, 9, 4] (by decide) (new_rd X 3 [.int .i64 5, .int .i64 3, .int .i64 9, .int .i64 4])
    rw [ex_m5] at this
    exact this
  go_wp2_with fail
  refine (hm _).mono ?_
  rintro e w9 ⟨rfl, hb⟩
  have H9 := Lib.hid ((H8.out.next hb).next (bl w9 (.cells #[.string ⟨#[98]⟩, .string ⟨#[97]⟩] 9)))
  clear hb hm H8
  have hm : ∀ X : World, Calls Try.prog 53 #[.slice (some ⟨X.heap.size, 0, none⟩) 2 2] (X.alloc (.cells #[.string ⟨#[98]⟩, .string ⟨#[97]⟩] 9)) fun e w' => e = .returned (.tuple #[.string ⟨#[97]⟩, .bool true]) ∧ Below (X.alloc (.cells #[.string ⟨#[98]⟩, .string ⟨#[97]⟩] 9)).heap.size (X.alloc (.cells #[.string ⟨#[98]⟩, .string ⟨#[97]⟩] 9)) w' := fun X => by
    have := midStr_some (c := 2) [[98], [97]] (by decide) (by decide) (new_rd X 9 [.string ⟨#[98]⟩, .string ⟨#[97]⟩])
    rw [ex_s] at this
    exact this
  go_wp2_with fail
  refine (hm _).mono ?_
  rintro e w10 ⟨rfl, hb⟩
  have H10 := Lib.hid (H9.out.next hb)
  clear hb hm H9
  go_wp2_with fail
  refine midInt_none.mono ?_
  rintro e w11 ⟨rfl, hb⟩
  have H11 := Lib.hid (H10.out.next hb)
  clear hb H10
  have hr := reset_in H11.out.p ex_o2 (i := 2) (by decide)
  go_wp2_with fail
  refine hr.mono ?_
  rintro e w12 ⟨rfl, hP, hg⟩
  have S : WS w gp gl exP0 exL1 w12 := H11.out.put (q := exP0) hP hg
  have H12 := Lib.hid S
  have c4 := cast_any (cap := 0) (AL := Option.none) (l := []) (lo := 0) (hi := 0) S.p (.inl rfl) ex_o0 (by decide) (Nat.zero_le _) (.inr (Nat.zero_le _))
  clear S hP hg hr H11
  go_wp2_with fail
  refine c4.mono ?_
  rintro e w13 ⟨rfl, hP, hg⟩
  rw [ex_t4, mid_nil]
  rw [ex_c4] at hP
  have S := H12.out.put hP hg
  have H13 := Lib.hid S
  obtain ⟨k0, k1, k2, k3, k4, k5, k6, k7, k8, k9, k10, k11, k12⟩ := pac_cells S.p
  clear hP hg c4 H12 S
  have ho := fun X => out_any exP4 (by decide) (i := 2) X
  have he : (decide ((0 : Int) ≤ 2 ∧ (2 : Int) < (exP4.out.length : Int)) && exP4.is (2 : Int).toNat) = false := by decide
  rw [he] at ho
  unfold pac at ho
  clear he
  go_wp2_with fail
  clear k0 k1 k2 k3 k4 k5 k6 k7 k8 k9 k10 k11 k12
  refine (ho _).mono ?_
  rintro e w14 ⟨rfl, hb⟩
  have S := H13.out.next hb
  have H14 := Lib.hid S
  obtain ⟨k0, k1, k2, k3, k4, k5, k6, k7, k8, k9, k10, k11, k12⟩ := pac_cells S.p
  clear hb S H13 ho
  have hk := fun X => strikes_any exP4 (by decide) (i := 0) X
  have he : (if 0 ≤ (0 : Int) ∧ (0 : Int) < (exP4.out.length : Int) then (exP4.sk (0 : Int).toNat : Int) else 0) = 1 := by decide
  rw [he] at hk
  unfold pac at hk
  clear he
  go_wp2_with fail
  clear k0 k1 k2 k3 k4 k5 k6 k7 k8 k9 k10 k11 k12
  refine (hk _).mono ?_
  rintro e w15 ⟨rfl, hb⟩
  have S := H14.out.next hb
  have H15 := Lib.hid S
  obtain ⟨k0, k1, k2, k3, k4, k5, k6, k7, k8, k9, k10, k11, k12⟩ := pac_cells S.p
  clear hb S H14 hk
  have hi := fun X => in_any exP4 (by decide) X
  have he : (ins exP4.out : Int) = 3 := by decide
  rw [he] at hi
  unfold pac at hi
  clear he
  go_wp2_with fail
  clear k0 k1 k2 k3 k4 k5 k6 k7 k8 k9 k10 k11 k12
  refine (hi _).mono ?_
  rintro e w16 ⟨rfl, hb⟩
  have S := H15.out.next hb
  have H16 := Lib.hid S
  obtain ⟨k0, k1, k2, k3, k4, k5, k6, k7, k8, k9, k10, k11, k12⟩ := pac_cells S.p
  clear hb S H15 hi
  have hk := fun X => strikes_any exP4 (by decide) (i := 9) X
  have he : (if 0 ≤ (9 : Int) ∧ (9 : Int) < (exP4.out.length : Int) then (exP4.sk (9 : Int).toNat : Int) else 0) = 0 := by decide
  rw [he] at hk
  unfold pac at hk
  clear he
  go_wp2_with fail
  clear k0 k1 k2 k3 k4 k5 k6 k7 k8 k9 k10 k11 k12
  refine (hk _).mono ?_
  rintro e w17 ⟨rfl, hb⟩
  have S := H16.out.next hb
  have H17 := Lib.hid S
  obtain ⟨k0, k1, k2, k3, k4, k5, k6, k7, k8, k9, k10, k11, k12⟩ := pac_cells S.p
  clear hb S H16 hk
  have hr := reset_out H17.out.p (i := 3) (.inr (by decide))
  clear k0 k1 k2 k3 k4 k5 k6 k7 k8 k9 k10 k11 k12
  go_wp2_with fail
  refine hr.mono ?_
  rintro e w18 ⟨rfl, rfl⟩
  clear hr
  go_wp2
  go_ret
  exact ⟨rfl, H17.out.keep⟩
end Vot
end Go.Proofs.Ytoaagemofjddiaa
