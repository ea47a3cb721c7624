/-
  The walks of package pyramid: what a pyramid tells of its levels and its cells.
-/
import Derived.Test.YtoaagemofjddiaaPyrW4
namespace Go.Proofs.Ytoaagemofjddiaa
open Go.RowKit
set_option linter.unusedVariables false
namespace Pyr

section
variable {w : World} {bp bl cl seen : Nat} {lvs : List Lv}
theorem PS.p0 (S : PS w bp bl cl lvs seen) : w.cell? ⟨bp, 0, Option.none⟩ = some (.slice (some ⟨bl, 0, Option.none⟩) lvs.length cl) := S.blk.cell 0
theorem PS.p1 (S : PS w bp bl cl lvs seen) : w.cell? ⟨bp, 1, Option.none⟩ = some (.int .i64 (seen : Int)) := S.blk.cell 1
theorem PS.lev (S : PS w bp bl cl lvs seen) {k : Nat} {l : Lv} (h : lvs[k]? = some l) :
    w.cell? ⟨bl, k * 3, Option.none⟩ = some (.int .i64 (l.wd : Int)) ∧ w.cell? ⟨bl, k * 3 + 1, Option.none⟩ = some (.int .i64 (l.h : Int)) ∧ w.cell? ⟨bl, k * 3 + 2, Option.none⟩ = some (.slice (some ⟨l.b, 0, Option.none⟩) l.L.length l.cap) := by
  obtain ⟨hk, rfl⟩ := List.getElem?_eq_some_iff.1 h
  have hc := S.rdl.elem Lv.cells 3 lv_len hk
  simp only [Nat.zero_add] at hc
  exact ⟨hc 0 _ (by decide) rfl, hc 1 _ (by decide) rfl, hc 2 _ (by decide) rfl⟩
theorem PS.bl_lt (S : PS w bp bl cl lvs seen) (h : 0 < lvs.length) : bl < w.heap.size := by
  obtain ⟨b, off, e, h1, h2, h3, _⟩ := S.rdl.some (by rw [flatMap_len Lv.cells 3 lv_len]; omega)
  omega
theorem PS.mem (S : PS w bp bl cl lvs seen) {k : Nat} {l : Lv} (h : lvs[k]? = some l) : RdL w l.b (l.b + 1) (some ⟨l.b, 0, Option.none⟩) (l.L.flatMap cec) ∧ l.b ≠ bp ∧ l.L.length ≤ l.cap ∧ l.L.length = l.wd * l.h := by
  obtain ⟨hk, rfl⟩ := List.getElem?_eq_some_iff.1 h
  exact S.rows _ (List.getElem_mem hk)
end
set_option maxHeartbeats 400000 in
theorem levels_any {w : World} {bp bl cl seen : Nat} {lvs : List Lv} (S : PS w bp bl cl lvs seen) : Calls Try.prog 15 #[.pointer (some ⟨bp, 0, Option.none⟩)] w fun e w' => e = .returned (.int .i64 (lvs.length : Int)) ∧ w = w' := by
  have e0 := S.p0
  go_enter Try.func15, Try.ntmps15
  go_wp2
  go_ret
  exact ⟨rfl, rfl⟩
set_option maxHeartbeats 400000 in
theorem seen_any {w : World} {bp bl cl seen : Nat} {lvs : List Lv} (S : PS w bp bl cl lvs seen) : Calls Try.prog 24 #[.pointer (some ⟨bp, 0, Option.none⟩)] w fun e w' => e = .returned (.int .i64 (seen : Int)) ∧ w = w' := by
  have e0 := S.p1
  go_enter Try.func24, Try.ntmps24
  go_wp2
  go_ret
  exact ⟨rfl, rfl⟩
set_option maxRecDepth 100000 in
set_option maxHeartbeats 400000 in
theorem side_in {w : World} {bp bl cl seen : Nat} {lvs : List Lv} (S : PS w bp bl cl lvs seen) {k : Nat} {l : Lv} (h : lvs[k]? = some l) : Calls Try.prog 17 #[.pointer (some ⟨bp, 0, Option.none⟩), .int .i64 (k : Int)] w fun e w' => e = .returned (.tuple #[.int .i64 (l.wd : Int), .int .i64 (l.h : Int)]) ∧ ∃ q, w' = w.drewN q := by
  have e0 := S.p0
  obtain ⟨l0, l1, l2⟩ := S.lev h
  have hk : k < lvs.length := (List.getElem?_eq_some_iff.1 h).1
  have d1 : decide ((k : Int) < 0) = false := decide_eq_false (by omega)
  have d2 : decide (lvs.length ≤ k) = false := decide_eq_false (by omega)
  have i1 : (k : Int) < (lvs.length : Int) := by omega
  have i2 : (0 : Int) ≤ (k : Int) := by omega
  clear h
  go_enter Try.func17, Try.ntmps17
  go_wp2
  go_quiet (fail)
  go_wp2
  go_ret2
  exact ⟨rfl, _, rfl⟩
set_option maxRecDepth 100000 in
set_option maxHeartbeats 400000 in
theorem side_out {w : World} {bp bl cl seen : Nat} {lvs : List Lv} (S : PS w bp bl cl lvs seen) {n : Int} (h : n < 0 ∨ (lvs.length : Int) ≤ n) : Calls Try.prog 17 #[.pointer (some ⟨bp, 0, Option.none⟩), .int .i64 n] w fun e w' => e = .returned (.tuple #[.int .i64 0, .int .i64 0]) ∧ ∃ q, w' = w.drewN q := by
  have e0 := S.p0
  by_cases h0 : n < 0
  · have d1 : decide (n < 0) = true := decide_eq_true h0
    clear h
    go_enter Try.func17, Try.ntmps17
    go_wp2
    go_ret2
    exact ⟨rfl, 0, rfl⟩
  · have h1 : (lvs.length : Int) ≤ n := by omega
    have d1 : decide (n < 0) = false := decide_eq_false h0
    have d2 : decide ((lvs.length : Int) ≤ n) = true := decide_eq_true h1
    clear h
    go_enter Try.func17, Try.ntmps17
    go_wp2
    go_ret2
    exact ⟨rfl, 0, rfl⟩
/-- what is told of a cell of a level -/
def GotAt (w : World) (c : Ce) (b : Bool) (e : Ending) (w' : World) : Prop := e = .returned (.tuple #[cev c, .bool b]) ∧ Below w.heap.size w w'
set_option maxRecDepth 100000 in
set_option maxHeartbeats 1000000 in
theorem atm_in {w : World} {bp bl cl seen : Nat} {lvs : List Lv} (S : PS w bp bl cl lvs seen) {k x y : Nat} {l : Lv} (h : lvs[k]? = some l) (hw : l.wd ≤ 300) (hh : l.h ≤ 300) (hx : x < l.wd) (hy : y < l.h) :
    Calls Try.prog 19 #[.pointer (some ⟨bp, 0, Option.none⟩), .int .i64 (k : Int), .int .i64 (x : Int), .int .i64 (y : Int)] w (GotAt w (l.L.getD (y * l.wd + x) zc) true) := by
  have S1 := S.next (_root_.Go.Proofs.Ytoaagemofjddiaa.bl w (.cells (cec zc).toArray 38))
  have e0 := S.p0
  obtain ⟨l0, l1, l2⟩ := S.lev h
  have b1 := S.blk.lt
  have b2 := S.bl_lt (by have := (List.getElem?_eq_some_iff.1 h).1; omega)
  obtain ⟨m1, m2, m3, m4⟩ := S1.mem h
  have hk : k < lvs.length := (List.getElem?_eq_some_iff.1 h).1
  have d1 : decide ((k : Int) < 0) = false := decide_eq_false (by omega)
  have d2 : decide (lvs.length ≤ k) = false := decide_eq_false (by omega)
  have d3 : decide ((x : Int) < 0) = false := decide_eq_false (by omega)
  have d4 : decide (l.wd ≤ x) = false := decide_eq_false (by omega)
  have d5 : decide ((y : Int) < 0) = false := decide_eq_false (by omega)
  have d6 : decide (l.h ≤ y) = false := decide_eq_false (by omega)
  have i1 : (k : Int) < (lvs.length : Int) := by omega
  have i2 : (0 : Int) ≤ (k : Int) := by omega
  have ha := at_any l.wd l.h x y (some ⟨l.b, 0, Option.none⟩) l.L l.L.length l.cap l.b (l.b + 1) _ m1 rfl m4 m3 (by omega) (by omega)
  have ec : atL l.wd l.h l.L x y = l.L.getD (y * l.wd + x) zc := by unfold atL; rw [if_pos ⟨hx, hy⟩]
  rw [ec] at ha
  generalize l.L.getD (y * l.wd + x) zc = c at *
  have hr := Blk.mk w 38 (cec zc)
  have HRb := Lib.hid hr
  clear h ec m1 m2 m3 m4 S1 hr
  unfold cev at ha
  go_enter Try.func19, Try.ntmps19
  go_wp2_with fail
  refine ha.mono ?_
  rintro e w2 ⟨rfl, hb⟩
  have hr2 := HRb.out.next hb
  have f0 := hr2.free 0
  have f1 := hr2.free 1
  have f2 := hr2.free 2
  have q0 : w2.cell? ⟨w.heap.size, 0, Option.none⟩ = some (.int .i16 0) := hr2.cell 0
  have q1 : w2.cell? ⟨w.heap.size, 1, Option.none⟩ = some (.int .i16 0) := hr2.cell 1
  have q2 : w2.cell? ⟨w.heap.size, 2, Option.none⟩ = some (.int .i64 0) := hr2.cell 2
  have HB := Lib.hid (bt (_root_.Go.Proofs.Ytoaagemofjddiaa.bl w (.cells (cec zc).toArray 38)) hb)
  clear hr2 hb e0 l0 l1 l2 ha
  go_wp2
  refine bodyPost_ret (v := .tuple #[cev c, .bool true]) (by simp [results, Try.results19, go_sem, cev, q0, q1, q2]) rfl ?_
  exact ⟨rfl, ((HB.out.setCell (Nat.le_refl _) _).setCell (Nat.le_refl _) _).setCell (Nat.le_refl _) _⟩
theorem atm_zero (w : World) : GotAt w zc false (.returned (.tuple #[cev zc, .bool false])) ((w.alloc (.cells (cec zc).toArray 38))) := ⟨rfl, _root_.Go.Proofs.Ytoaagemofjddiaa.bl _ _⟩
set_option maxRecDepth 100000 in
set_option maxHeartbeats 1000000 in
theorem atm_out {w : World} {bp bl cl seen : Nat} {lvs : List Lv} (S : PS w bp bl cl lvs seen) {n x y : Int} (h : n < 0 ∨ (lvs.length : Int) ≤ n) :
    Calls Try.prog 19 #[.pointer (some ⟨bp, 0, Option.none⟩), .int .i64 n, .int .i64 x, .int .i64 y] w (GotAt w zc false) := by
  have e0 := S.p0
  have b1 := S.blk.lt
  by_cases h0 : n < 0
  · have d1 : decide (n < 0) = true := decide_eq_true h0
    clear h
    go_enter Try.func19, Try.ntmps19
    go_wp2
    exact bodyPost_ret (v := .tuple #[cev zc, .bool false]) (by simp [results, Try.results19, go_sem, cev, zc]) rfl (atm_zero w)
  · have h1 : (lvs.length : Int) ≤ n := by omega
    have d1 : decide (n < 0) = false := decide_eq_false h0
    have d2 : decide ((lvs.length : Int) ≤ n) = true := decide_eq_true h1
    clear h
    go_enter Try.func19, Try.ntmps19
    go_wp2
    exact bodyPost_ret (v := .tuple #[cev zc, .bool false]) (by simp [results, Try.results19, go_sem, cev, zc]) rfl (atm_zero w)
set_option maxRecDepth 100000 in
set_option maxHeartbeats 1000000 in
theorem atm_beside {w : World} {bp bl cl seen : Nat} {lvs : List Lv} (S : PS w bp bl cl lvs seen) {k : Nat} {l : Lv} (h : lvs[k]? = some l) {x y : Int} (hxy : x < 0 ∨ (l.wd : Int) ≤ x ∨ y < 0 ∨ (l.h : Int) ≤ y) :
    Calls Try.prog 19 #[.pointer (some ⟨bp, 0, Option.none⟩), .int .i64 (k : Int), .int .i64 x, .int .i64 y] w (GotAt w zc false) := by
  have e0 := S.p0
  obtain ⟨l0, l1, l2⟩ := S.lev h
  have b1 := S.blk.lt
  have hk : k < lvs.length := (List.getElem?_eq_some_iff.1 h).1
  have b2 := S.bl_lt (by omega)
  have d1 : decide ((k : Int) < 0) = false := decide_eq_false (by omega)
  have d2 : decide (lvs.length ≤ k) = false := decide_eq_false (by omega)
  have i1 : (k : Int) < (lvs.length : Int) := by omega
  have i2 : (0 : Int) ≤ (k : Int) := by omega
  clear h
  by_cases h1 : x < 0
  · have d3 : decide (x < 0) = true := decide_eq_true h1
    clear hxy
    go_enter Try.func19, Try.ntmps19
    go_wp2
    exact bodyPost_ret (v := .tuple #[cev zc, .bool false]) (by simp [results, Try.results19, go_sem, cev, zc]) rfl (atm_zero w)
  · have d3 : decide (x < 0) = false := decide_eq_false h1
    by_cases h2 : (l.wd : Int) ≤ x
    · have d4 : decide ((l.wd : Int) ≤ x) = true := decide_eq_true h2
      clear hxy
      go_enter Try.func19, Try.ntmps19
      go_wp2
      exact bodyPost_ret (v := .tuple #[cev zc, .bool false]) (by simp [results, Try.results19, go_sem, cev, zc]) rfl (atm_zero w)
    · have d4 : decide ((l.wd : Int) ≤ x) = false := decide_eq_false h2
      by_cases h3 : y < 0
      · have d5 : decide (y < 0) = true := decide_eq_true h3
        clear hxy
        go_enter Try.func19, Try.ntmps19
        go_wp2
        exact bodyPost_ret (v := .tuple #[cev zc, .bool false]) (by simp [results, Try.results19, go_sem, cev, zc]) rfl (atm_zero w)
      · have d5 : decide (y < 0) = false := decide_eq_false h3
        have h4 : (l.h : Int) ≤ y := by omega
        have d6 : decide ((l.h : Int) ≤ y) = true := decide_eq_true h4
        clear hxy
        go_enter Try.func19, Try.ntmps19
        go_wp2
        exact bodyPost_ret (v := .tuple #[cev zc, .bool false]) (by simp [results, Try.results19, go_sem, cev, zc]) rfl (atm_zero w)
theorem ret_bool {b c : Bool} (h : b = c) : Ending.returned (.bool b) = .returned (.bool c) := by rw [h]
def boc (b : Bo) : List Value := [.int .i64 b.x0, .int .i64 b.y0, .int .i64 b.x1, .int .i64 b.y1]
def bov (b : Bo) : Value := .agg #[.int .i64 b.x0, .int .i64 b.y0, .int .i64 b.x1, .int .i64 b.y1]
def plc (p : Pl) : List Value := [.int .i64 (p.n : Int), .int .i64 (p.x : Int), .int .i64 (p.y : Int)]
def plv (p : Pl) : Value := .agg #[.int .i64 (p.n : Int), .int .i64 (p.x : Int), .int .i64 (p.y : Int)]
theorem plc_len (p : Pl) : (plc p).length = 3 := rfl
set_option maxRecDepth 100000 in
set_option maxHeartbeats 1000000 in
theorem apart_any (a b : Bo) (w : World) : Calls Try.prog 47 #[bov a, bov b] w fun e w' => e = .returned (.bool (apart a b)) ∧ Below w.heap.size w w' := by
  have hp : apart a b = (decide (b.x1 < a.x0) || decide (a.x1 < b.x0) || decide (b.y1 < a.y0) || decide (a.y1 < b.y0)) := by
    unfold apart
    rw [Bool.eq_iff_iff]
    simp
    omega
  have HP := Lib.hid hp
  clear hp
  obtain ⟨a0, a1, a2, a3⟩ := a
  obtain ⟨b0, b1, b2, b3⟩ := b
  unfold bov
  go_enter Try.func47, Try.ntmps47
  go_wp2
  all_goals
    go_ret
    exact ⟨ret_bool (by first | (rw [HP.out]; done) | (rw [HP.out]; simp; done) | (rw [HP.out]; simp; omega)), bt (_root_.Go.Proofs.Ytoaagemofjddiaa.bl _ _) (_root_.Go.Proofs.Ytoaagemofjddiaa.bl _ _)⟩
set_option maxRecDepth 100000 in
set_option maxHeartbeats 1000000 in
theorem inside_any (a b : Bo) (w : World) : Calls Try.prog 48 #[bov a, bov b] w fun e w' => e = .returned (.bool (inside a b)) ∧ Below w.heap.size w w' := by
  have hp : inside a b = (decide (b.x0 ≤ a.x0) && decide (a.x1 ≤ b.x1) && decide (b.y0 ≤ a.y0) && decide (a.y1 ≤ b.y1)) := by
    unfold inside
    rw [Bool.eq_iff_iff]
    simp [and_assoc]
  have HP := Lib.hid hp
  clear hp
  obtain ⟨a0, a1, a2, a3⟩ := a
  obtain ⟨b0, b1, b2, b3⟩ := b
  unfold bov
  go_enter Try.func48, Try.ntmps48
  go_wp2
  all_goals
    go_ret
    exact ⟨ret_bool (by first | (rw [HP.out]; done) | (rw [HP.out]; simp; done) | (rw [HP.out]; simp; omega)), bt (_root_.Go.Proofs.Ytoaagemofjddiaa.bl _ _) (_root_.Go.Proofs.Ytoaagemofjddiaa.bl _ _)⟩
end Pyr
end Go.Proofs.Ytoaagemofjddiaa
