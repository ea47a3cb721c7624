/-
  The walk of package route's heap: the first item is taken away.
-/
import Derived.Test.YtgncngpgodfijaaRouW3
import Derived.WalkSmall
import Derived.WalkMore
import Derived.StillTailTactics
import Derived.Deep.DeepCutAuto
namespace Go.Proofs.Ytgncngpgodfijaa
open Go.RowKit
set_option linter.unusedVariables false
namespace Rou

theorem QB.pop {w wr : World} {g : Nat} {v : Value} {l : List It} {q cap n : Nat} (S : QB w g v l wr (.slice (some ⟨q, 0, none⟩) (n + 1) cap)) (hn : n + 1 = l.length) :
    QB w g v (l.take n) (wr.setCell ⟨g, 0, none⟩ (.slice (some ⟨q, 0, none⟩) n cap)) (.slice (some ⟨q, 0, none⟩) n cap) := by
  have hne : q ≠ g := fun e => S.ne (by rw [e]; rfl)
  have ho := S.own
  rw [← hn] at ho
  have hl : (l.take n).length = n := by rw [List.length_take]; omega
  refine ⟨S.blk.put 0 _, ?_, S.ne, ⟨S.wf.os, S.wf.tape, S.wf.output, by simpa using S.wf.size, fun k h1 h2 h3 => (Below.heap_setCell wr ⟨g, 0, none⟩ _ k h2).trans (S.wf.block k h1 h2 h3), S.wf.own⟩⟩
  rw [hl]
  have e : l.flatMap itc = (l.take n).flatMap itc ++ (l.drop n).flatMap itc := by rw [← List.flatMap_append, List.take_append_drop]
  rw [e] at ho
  have := ownsRow_pop (by rw [flatMap_len itc 2 itc_len, hl]) ho
  refine this.kept (row := some g) (only_set (only_refl _ _) 0 _) (.inr ?_)
  intro e
  injection e with e
  exact hne e
theorem QB.aside {w wr : World} {g : Nat} {v u : Value} {l : List It} (S : QB w g v l wr u) {b : Nat} (hb : w.heap.size ≤ b) (hg : b ≠ g) (hu : u.ownBlock ≠ some b) (i : Nat) (x : Value) : QB w g v l (wr.setCell ⟨b, i, none⟩ x) u :=
  ⟨S.blk.far (p := ⟨b, i, none⟩) (Ne.symm hg) x, ownsRow_setCell_other S.own hu x, S.ne, ⟨S.wf.os, S.wf.tape, S.wf.output, by simpa using S.wf.size, fun k h1 h2 h3 => (Below.heap_setCell wr ⟨b, i, none⟩ x k (by show k ≠ b; omega)).trans (S.wf.block k h1 h2 h3), S.wf.own⟩⟩
/-- the result's cell, and the first item -/
def PR (w : World) (t : It) (wr : World) : Prop := Blk wr w.heap.size 117 [.int .i64 0, .int .i64 0] ∧ Blk wr (w.heap.size + 1) 117 (itc t)
theorem PR.next {w wr w' : World} {t : It} (h : PR w t wr) (hb : Below wr.heap.size wr w') : PR w t w' := ⟨h.1.next hb, h.2.next hb⟩
theorem PR.far {w wr : World} {t : It} (h : PR w t wr) {q : Nat} (hq : q < w.heap.size) (i : Nat) (u : Value) : PR w t (wr.setCell ⟨q, i, none⟩ u) :=
  ⟨h.1.far (p := ⟨q, i, none⟩) (by show w.heap.size ≠ q; omega) u, h.2.far (p := ⟨q, i, none⟩) (by show w.heap.size + 1 ≠ q; omega) u⟩
set_option maxRecDepth 100000 in
set_option maxHeartbeats 2000000 in
theorem pop_any {w : World} {g : Nat} {v : Value} {l : List It} (S : QB w g v l w v) (H : HeapP l) (h0 : 0 < l.length) (hl : l.length ≤ 20000) :
    Calls Try.prog 65 #[.pointer (some ⟨g, 0, none⟩)] w fun e w' => e = .returned (.agg #[.int .i64 ((at' l 0).1 : Int), .int .i64 (at' l 0).2]) ∧ ∃ u l', QB w g v l' w' u ∧ HeapP l' ∧ List.Perm (at' l 0 :: l') l ∧ ∀ y ∈ l, le (at' l 0) y := by
  obtain ⟨gg, capg, rfl, hgg, hggl⟩ := S.form h0
  have hgl := S.blk.lt
  have htop : ∀ y ∈ l, le (at' l 0) y := fun y hy => by
    obtain ⟨j, hj, rfl⟩ := List.getElem_of_mem hy
    rw [← at_eq hj]
    exact heap_top H j hj
  have HT := Lib.hid htop
  have hdn := cut_down H h0
  have hcp := cut_perm h0
  have hcl := cut_len h0
  obtain ⟨n, hn⟩ : ∃ n, n + 1 = l.length := ⟨l.length - 1, by omega⟩
  have hcd : cut l = (l.set 0 (at' l n)).take n := by unfold cut; rw [← hn, Nat.add_sub_cancel]
  have HCD := Lib.hid hcd
  have HDN := Lib.hid hdn
  have HCP := Lib.hid hcp
  have HL := Lib.hid hn.symm
  rw [← hn, Nat.add_sub_cancel] at hcl
  have HCL := Lib.hid hcl
  have hS := S.next (bl w (.cells #[.int .i64 0, .int .i64 0] 117))
  obtain ⟨e0, e1⟩ := hS.item (i := 0) h0
  rw [Nat.zero_mul] at e0 e1
  rw [Nat.zero_add] at e1
  obtain ⟨t, ht⟩ : ∃ t, t = at' l 0 := ⟨_, rfl⟩
  have HTT := Lib.hid ht
  rw [← ht] at e0 e1 HT HCP ⊢
  rw [← hn] at hS hl ⊢
  have c0 : (w.alloc (.cells #[.int .i64 0, .int .i64 0] 117)).cell? ⟨g, 0, none⟩ = some (.slice (some ⟨gg, 0, none⟩) (n + 1) capg) := hS.blk.cell 0
  have HS := Lib.hid hS
  clear S H htop hdn hcp hcd hcl hn h0 hS ht
  obtain ⟨t1, t2⟩ := t
  dsimp only at e0 e1 HT ⊢
  have y0 : IntKind.i64.wrap ((n : Int) + 1 - 1) = (n : Int) := by rw [IntWalk.i64_in _ (by omega)]; omega
  go_enter Try.func65, Try.ntmps65
  go_wp2_with fail
  go_step3
  go_upto_region 4 with fail
  have HX := Lib.hid (HS.out.next (bl _ (.cells #[.int .i64 (t1 : Int), .int .i64 t2] 117)))
  have hR : PR w (t1, t2) ((w.alloc (.cells #[.int .i64 0, .int .i64 0] 117)).alloc (.cells #[.int .i64 (t1 : Int), .int .i64 t2] 117)) := by
    have h2 := Blk.mk (w.alloc (.cells #[.int .i64 0, .int .i64 0] 117)) 117 (itc (t1, t2))
    rw [heap_alloc_sz] at h2
    exact ⟨(Blk.mk w 117 [.int .i64 0, .int .i64 0]).alloc _, h2⟩
  have HR := Lib.hid hR
  clear hR HS c0 e0 e1
  generalize (w.alloc (.cells #[.int .i64 0, .int .i64 0] 117)).alloc (.cells #[.int .i64 (t1 : Int), .int .i64 t2] 117) = W2 at *
  have c0 : W2.cell? ⟨g, 0, none⟩ = some (.slice (some ⟨gg, 0, none⟩) (n + 1) capg) := HX.out.blk.cell 0
  obtain ⟨e0, e1⟩ := HX.out.item (i := n) (by rw [HL.out]; omega)
  obtain ⟨b, hb⟩ : ∃ b, b = at' l n := ⟨_, rfl⟩
  rw [← hb] at e0 e1 HCD
  clear hb
  obtain ⟨b1, b2⟩ := b
  dsimp only at e0 e1
  have i1 : (n : Int) < (n : Int) + 1 := by omega
  have i2 : (0 : Int) ≤ (n : Int) := by omega
  have i3 : (0 : Int) < (n : Int) + 1 := by omega
  go_still_tail 11, (by kernel_rfl)
  change wpList _ _ _ _ _ W2.drew
  clear c0 e0 e1
  have HX1 := Lib.hid (show QB w g (.slice (some ⟨gg, 0, none⟩) (n + 1) capg) l W2.drew (.slice (some ⟨gg, 0, none⟩) (n + 1) capg) from HX.out.next (below_drewN (Below.refl _ _) 1))
  have HR1 := Lib.hid (show PR w (t1, t2) W2.drew from HR.out.next (below_drewN (Below.refl _ _) 1))
  clear HX HR
  generalize W2.drew = W3 at *
  have c0 : W3.cell? ⟨g, 0, none⟩ = some (.slice (some ⟨gg, 0, none⟩) (n + 1) capg) := HX1.out.blk.cell 0
  obtain ⟨e0, e1⟩ := HX1.out.item (i := 0) (by rw [HL.out]; omega)
  rw [Nat.zero_mul] at e0 e1
  rw [Nat.zero_add] at e1
  have f0 := HX1.out.free HL.out.symm 0
  have f1 := HX1.out.free HL.out.symm 1
  go_upto_region 5 with fail
  have hX2 := HX1.out.put HL.out.symm (i := 0) (by rw [HL.out]; omega) (b1, b2)
  rw [Nat.zero_mul, Nat.zero_add] at hX2
  dsimp only at hX2
  have HX2 := Lib.hid hX2
  have HR2 := Lib.hid ((HR1.out.far hggl 0 (.int .i64 (b1 : Int))).far hggl 1 (.int .i64 b2))
  have hcap : n + 1 ≤ capg := by
    obtain ⟨_, c, e, _, h1, _⟩ := own_rd HX1.out.own
    injection e with _ e2 e3
    omega
  clear hX2 c0 e0 e1 f0 f1 HX1 HR1
  generalize (W3.setCell ⟨gg, 0, none⟩ (.int .i64 (b1 : Int))).setCell ⟨gg, 1, none⟩ (.int .i64 b2) = W4 at *
  have c0 : W4.cell? ⟨g, 0, none⟩ = some (.slice (some ⟨gg, 0, none⟩) (n + 1) capg) := HX2.out.blk.cell 0
  have f0 := HX2.out.blk.free 0
  have hcI : (n : Int) ≤ (capg : Int) := by omega
  go_upto_region 6 with fail
  have hX3 := HX2.out.pop (by rw [List.length_set]; exact HL.out.symm)
  rw [← HCD.out] at hX3
  have HX3 := Lib.hid hX3
  have HR3 := Lib.hid (HR2.out.far hgl 0 (.slice (some ⟨gg, 0, none⟩) n capg))
  clear hX3 HX2 HR2 c0 f0
  generalize W4.setCell ⟨g, 0, none⟩ (.slice (some ⟨gg, 0, none⟩) n capg) = W5 at *
  go_wp2_with fail
  go_step3
  go_wp2_with fail
  go_loopw [6] (fun u wr => ∃ (i : Nat) (L : List It), u = .int .i64 (i : Int) ∧ QB w g (.slice (some ⟨gg, 0, none⟩) (n + 1) capg) L wr (.slice (some ⟨gg, 0, none⟩) n capg) ∧ PR w (t1, t2) wr ∧ DownI L i ∧ List.Perm (cut l) L ∧ L.length = n ∧ (i = 0 ∨ i < n)) (fun u _ => n - (intOf u).toNat)
  case atStart => exact ⟨0, cut l, rfl, HX3.out, HR3.out, HDN.out, List.Perm.refl _, HCL.out, .inl rfl⟩
  case round =>
    clear HX3 HR3 HDN HCL
    obtain ⟨i, L, rfl, hS, hR, hD, hP, hL, hi⟩ := hrel
    have HS := Lib.hid hS
    have HR := Lib.hid hR
    have HD := Lib.hid hD
    have HP := Lib.hid hP
    have HL2 := Lib.hid HL.out
    have HL := Lib.hid hL
    clear hS hR hD hP hL
    have y1 : IntKind.i64.wrap (2 * (i : Int)) = 2 * (i : Int) := IntWalk.i64_in _ (by omega)
    have y2 : IntKind.i64.wrap (2 * (i : Int) + 1) = 2 * (i : Int) + 1 := IntWalk.i64_in _ (by omega)
    have y3 : IntKind.i64.wrap (2 * (i : Int) + 2) = 2 * (i : Int) + 2 := IntWalk.i64_in _ (by omega)
    go_wp2_with fail
    go_loopw [7, 8] (fun lst kk wx => ∃ m k : Nat, lst = .int .i64 (m : Int) ∧ kk = .int .i64 (k : Int) ∧ Least L i k m ∧ 2 * i + 1 ≤ k ∧ k ≤ 2 * i + 3 ∧ QB w g (.slice (some ⟨gg, 0, none⟩) (n + 1) capg) L wx (.slice (some ⟨gg, 0, none⟩) n capg) ∧ PR w (t1, t2) wx) (fun _ kk _ => 2 * i + 3 - (intOf kk).toNat)
    case atStart => exact ⟨i, 2 * i + 1, rfl, by go_num, least_0 L i, Nat.le_refl _, by omega, HS.out, HR.out⟩
    case round =>
      clear HS HR
      obtain ⟨m, k, rfl, rfl, hLe, hk1, hk2, hS, hR⟩ := hrel
      have HS := Lib.hid hS
      have HR := Lib.hid hR
      have HLe := Lib.hid hLe
      have hmi : m = i ∨ (m < k ∧ i < m ∧ m < n) := by
        rcases hLe.is with h | ⟨h1, h2, h3, _⟩
        · exact .inl h
        · rw [HL.out] at h3
          exact .inr ⟨h1, by omega, h3⟩
      clear hS hR hLe
      have yk : IntKind.i64.wrap ((k : Int) + 1) = (k : Int) + 1 := IntWalk.i64_in _ (by omega)
      by_cases c1 : k ≤ 2 * i + 2 ∧ k < n
      · obtain ⟨c1, c2⟩ := c1
        have d1 : decide ((k : Int) ≤ 2 * (i : Int) + 2) = true := decide_eq_true (by omega)
        have d1' : (k : Int) ≤ 2 * (i : Int) + 2 := by omega
        have d2 : decide ((k : Int) < (n : Int)) = true := decide_eq_true (by omega)
        have d2' : (k : Int) < (n : Int) := by omega
        have d2N : decide (k < n) = true := decide_eq_true c2
        have k0 : (0 : Int) ≤ (k : Int) := by omega
        have m0 : (0 : Int) ≤ (m : Int) := by omega
        have m1 : (m : Int) < (n : Int) := by omega
        have hs : ∀ w', QB w g (.slice (some ⟨gg, 0, none⟩) (n + 1) capg) L w' (.slice (some ⟨gg, 0, none⟩) n capg) → PR w (t1, t2) w' → QB w g (.slice (some ⟨gg, 0, none⟩) (n + 1) capg) L w' (.slice (some ⟨gg, 0, none⟩) n capg) ∧ PR w (t1, t2) w' ∧ w'.cell? ⟨g, 0, none⟩ = some (.slice (some ⟨gg, 0, none⟩) n capg) ∧ w'.cell? ⟨gg, k * 2, none⟩ = some (.int .i64 ((at' L k).1 : Int)) ∧ w'.cell? ⟨gg, k * 2 + 1, none⟩ = some (.int .i64 (at' L k).2) ∧ w'.cell? ⟨gg, m * 2, none⟩ = some (.int .i64 ((at' L m).1 : Int)) ∧ w'.cell? ⟨gg, m * 2 + 1, none⟩ = some (.int .i64 (at' L m).2) := fun w' X Y =>
          ⟨X, Y, X.blk.cell 0, (X.item (by rw [HL.out]; omega)).1, (X.item (by rw [HL.out]; omega)).2, (X.item (by rw [HL.out]; omega)).1, (X.item (by rw [HL.out]; omega)).2⟩
        have hbf := fun X => before_any (at' L k) (at' L m) X
        have hyes := fun h => least_yes HLe.out hk1 c1 (by rw [HL.out]; exact c2) h
        have hno := fun h => least_no HLe.out hk1 c1 (by rw [HL.out]; exact c2) h
        have Hs := Lib.hid hs
        have HYes := Lib.hid hyes
        have HNo := Lib.hid hno
        clear hs hyes hno
        generalize at' L k = x at *
        generalize at' L m = z at *
        obtain ⟨x1, x2⟩ := x
        obtain ⟨z1, z2⟩ := z
        dsimp only at Hs hbf
        go_wp2_with fail
        cases hbb : bef (x1, x2) (z1, z2) with
        | false =>
          rw [hbb] at hbf
          have HNo2 := Lib.hid (HNo.out hbb)
          clear hbb HNo HYes
          go_region_held3 (fun w' => QB w g (.slice (some ⟨gg, 0, none⟩) (n + 1) capg) L w' (.slice (some ⟨gg, 0, none⟩) n capg) ∧ PR w (t1, t2) w' ∧ w'.cell? ⟨g, 0, none⟩ = some (.slice (some ⟨gg, 0, none⟩) n capg) ∧ w'.cell? ⟨gg, k * 2, none⟩ = some (.int .i64 (x1 : Int)) ∧ w'.cell? ⟨gg, k * 2 + 1, none⟩ = some (.int .i64 x2) ∧ w'.cell? ⟨gg, m * 2, none⟩ = some (.int .i64 (z1 : Int)) ∧ w'.cell? ⟨gg, m * 2 + 1, none⟩ = some (.int .i64 z2))
            (first
              | exact Hs.out _ (HS.out.next (below_drewN (Below.refl _ _) 1)) (HR.out.next (below_drewN (Below.refl _ _) 1))
              | assumption
              | exact (fun X => Hs.out _ (QB.next (And.left X) (by assumption)) (PR.next (And.left (And.right X)) (by assumption))) ‹QB _ _ _ _ _ _ ∧ _›)
            ((go_at_call 67; (with_reducible refine (hbf _).mono ?_); rintro e w' ⟨rfl, hb⟩))
          have hX := ‹QB _ _ _ _ _ _ ∧ _›
          have HX := Lib.hid (And.left hX)
          have HXR := Lib.hid (And.left (And.right hX))
          clear hX
          go_wp2_with fail
          go_roundw
          case rel => exact ⟨m, k + 1, rfl, by go_num, HNo2.out, by omega, by omega, HX.out, HXR.out⟩
          case measure => simp [intOf]; omega
        | true =>
          rw [hbb] at hbf
          have HYes2 := Lib.hid (HYes.out hbb)
          clear hbb HNo HYes
          go_region_held3 (fun w' => QB w g (.slice (some ⟨gg, 0, none⟩) (n + 1) capg) L w' (.slice (some ⟨gg, 0, none⟩) n capg) ∧ PR w (t1, t2) w' ∧ w'.cell? ⟨g, 0, none⟩ = some (.slice (some ⟨gg, 0, none⟩) n capg) ∧ w'.cell? ⟨gg, k * 2, none⟩ = some (.int .i64 (x1 : Int)) ∧ w'.cell? ⟨gg, k * 2 + 1, none⟩ = some (.int .i64 x2) ∧ w'.cell? ⟨gg, m * 2, none⟩ = some (.int .i64 (z1 : Int)) ∧ w'.cell? ⟨gg, m * 2 + 1, none⟩ = some (.int .i64 z2))
            (first
              | exact Hs.out _ (HS.out.next (below_drewN (Below.refl _ _) 1)) (HR.out.next (below_drewN (Below.refl _ _) 1))
              | assumption
              | exact (fun X => Hs.out _ (QB.next (And.left X) (by assumption)) (PR.next (And.left (And.right X)) (by assumption))) ‹QB _ _ _ _ _ _ ∧ _›)
            ((go_at_call 67; (with_reducible refine (hbf _).mono ?_); rintro e w' ⟨rfl, hb⟩))
          have hX := ‹QB _ _ _ _ _ _ ∧ _›
          have HX := Lib.hid (And.left hX)
          have HXR := Lib.hid (And.left (And.right hX))
          clear hX
          go_wp2_with fail
          go_roundw
          case rel => exact ⟨k, k + 1, rfl, by go_num, HYes2.out, by omega, by omega, HX.out, HXR.out⟩
          case measure => simp [intOf]; omega
      · by_cases e1 : k ≤ 2 * i + 2
        · have e2 : ¬ k < n := fun h => c1 ⟨e1, h⟩
          have d1 : decide ((k : Int) ≤ 2 * (i : Int) + 2) = true := decide_eq_true (by omega)
          have d1' : (k : Int) ≤ 2 * (i : Int) + 2 := by omega
          have d2 : decide ((k : Int) < (n : Int)) = false := decide_eq_false (by omega)
          have d2' : ¬ (k : Int) < (n : Int) := by omega
          have d2N : decide (k < n) = false := decide_eq_false e2
          by_cases hm : m = i
          · have hH := down_stop HD.out (hm ▸ HLe.out) (by rw [HL.out]; exact c1)
            have q1 : ((m : Int) == (i : Int)) = true := by rw [beq_iff_eq]; omega
            have q2 : (m == i) = true := by rw [beq_iff_eq]; exact hm
            have o0 : wr.cell? ⟨w.heap.size + 1, 0, none⟩ = some (.int .i64 (t1 : Int)) := HR.out.2.cell 0
            have o1 : wr.cell? ⟨w.heap.size + 1, 1, none⟩ = some (.int .i64 t2) := HR.out.2.cell 1
            have r0 : wr.cell? ⟨w.heap.size, 0, none⟩ = some (.int .i64 0) := HR.out.1.cell 0
            have r1 : wr.cell? ⟨w.heap.size, 1, none⟩ = some (.int .i64 0) := HR.out.1.cell 1
            have f0 := HR.out.1.free 0
            have f1 := HR.out.1.free 1
            have HM := Lib.hid hm
            have HH := Lib.hid hH
            clear hm hH
            go_wp2_with fail
            have hF := (HS.out.aside (b := w.heap.size) (Nat.le_refl _) (by omega) (fun e => by have h : gg = w.heap.size := Option.some.inj e; omega) 0 (.int .i64 (t1 : Int))).aside (b := w.heap.size) (Nat.le_refl _) (by omega) (fun e => by have h : gg = w.heap.size := Option.some.inj e; omega) 1 (.int .i64 t2)
            refine bodyPost_ret (v := .agg #[.int .i64 (t1 : Int), .int .i64 t2]) (by simp [results, Try.results65, go_sem, r0, r1]) rfl ?_
            exact ⟨rfl, _, L, hF, HH.out, ((HP.out.symm.cons (t1, t2)).trans HCP.out), HT.out⟩
          · have hmn : m < n := by omega
            have him : i < m := by omega
            have q1 : ((m : Int) == (i : Int)) = false := by rw [beq_eq_false_iff_ne]; omega
            have q2 : (m == i) = false := by rw [beq_eq_false_iff_ne]; exact hm
            have HDS := Lib.hid (down_swap (by rw [HL.out]; omega) HD.out HLe.out (by rw [HL.out]; exact c1) hm)
            have HSP := Lib.hid (swap_perm (l := L) (i := i) (j := m) (by rw [HL.out]; omega) (by rw [HL.out]; omega))
            have HSW := Lib.hid (show swap L i m = (L.set i (at' L m)).set m (at' L i) from rfl)
            generalize ha : at' L i = a at *
            generalize hb : at' L m = b at *
            have HA := Lib.hid ha
            have HB := Lib.hid hb
            clear ha hb
            obtain ⟨a1, a2⟩ := a
            obtain ⟨b1, b2⟩ := b
            have HX := Lib.hid (HS.out.next (below_drewN (Below.refl _ _) 1))
            have hR := HR.out.next (below_drewN (Below.refl _ _) 1)
            have c0 : wr.cell? ⟨g, 0, none⟩ = some (.slice (some ⟨gg, 0, none⟩) n capg) := HS.out.blk.cell 0
            have i1 : (i : Int) < (n : Int) := by omega
            have i2 : (m : Int) < (n : Int) := by omega
            have i3 : (0 : Int) ≤ (i : Int) := by omega
            have i4 : (0 : Int) ≤ (m : Int) := by omega
            clear hm HS HR
            have HR := Lib.hid hR
            clear hR
            go_upto_region 14 with fail
            have hh : (World.drewN wr 1).cell? ⟨g, 0, none⟩ = some (Value.slice (some ⟨gg, 0, none⟩) n capg) := HX.out.blk.cell 0
            refine wp_region_held_drew (S := fun w' => w'.cell? ⟨g, 0, none⟩ = some (Value.slice (some ⟨gg, 0, none⟩) n capg)) (by kernel_rfl) hh (fun hHeld => ?_)
            change wpAnyH _ _ _ _ _ _ _ _ (World.drewN wr 1)
            generalize World.drewN wr 1 = wd at *
            refine wpAnyH_take (i := 0) (oi := ⟨some 78, _, _, _, _, _⟩) (v := ?_) rfl (by kernel_rfl) (by kernel_rfl) (by kernel_rfl) (fun _ _ _ h => h) (Or.inl ⟨by rfl, ?_⟩) (by assumption) ?_
            rotate_left
            · (intro w hSw; (try dsimp only at hSw); go_simp; try (with_reducible rfl))
            try simp only [Act.put, List.setIfInBounds_toArray, List.set_cons_zero, List.set_cons_succ]
            refine wpAnyH_take (i := 1) (oi := ⟨some 79, _, _, _, _, _⟩) (v := ?_) rfl (by kernel_rfl) (by kernel_rfl) (by kernel_rfl) (fun _ _ _ h => h) (Or.inl ⟨by rfl, ?_⟩) (by assumption) ?_
            rotate_left
            · (intro w hSw; (try dsimp only at hSw); go_simp; try (with_reducible rfl))
            try simp only [Act.put, List.setIfInBounds_toArray, List.set_cons_zero, List.set_cons_succ]
            refine wpAnyH_take (i := 2) (oi := ⟨some 80, _, _, _, _, _⟩) (v := ?_) rfl (by kernel_rfl) (by kernel_rfl) (by kernel_rfl) (fun _ _ _ h => h) (Or.inl ⟨by rfl, ?_⟩) (by assumption) ?_
            rotate_left
            · (intro w hSw; (try dsimp only at hSw); go_simp; try (with_reducible rfl))
            try simp only [Act.put, List.setIfInBounds_toArray, List.set_cons_zero, List.set_cons_succ]
            refine wpAnyH_take (i := 3) (oi := ⟨some 81, _, _, _, _, _⟩) (v := ?_) rfl (by kernel_rfl) (by kernel_rfl) (by kernel_rfl) (fun _ _ _ h => h) (Or.inl ⟨by rfl, ?_⟩) (by assumption) ?_
            rotate_left
            · (intro w hSw; (try dsimp only at hSw); go_simp; try (with_reducible rfl))
            try simp only [Act.put, List.setIfInBounds_toArray, List.set_cons_zero, List.set_cons_succ]
            refine wpAnyH_take (i := 4) (oi := ⟨some 82, _, _, _, _, _⟩) (v := ?_) rfl (by kernel_rfl) (by kernel_rfl) (by kernel_rfl) (fun _ _ _ h => h) (Or.inl ⟨by rfl, ?_⟩) (by assumption) ?_
            rotate_left
            · (intro w hSw; (try dsimp only at hSw); go_simp; try (with_reducible rfl))
            try simp only [Act.put, List.setIfInBounds_toArray, List.set_cons_zero, List.set_cons_succ]
            refine wpAnyH_take (i := 5) (oi := ⟨some 83, _, _, _, _, _⟩) (v := ?_) rfl (by kernel_rfl) (by kernel_rfl) (by kernel_rfl) (fun _ _ _ h => h) (Or.inl ⟨by rfl, ?_⟩) (by assumption) ?_
            rotate_left
            · (intro w hSw; (try dsimp only at hSw); go_simp; try (with_reducible rfl))
            try simp only [Act.put, List.setIfInBounds_toArray, List.set_cons_zero, List.set_cons_succ]
            refine wpAnyH_take (i := 6) (oi := ⟨some 84, _, _, _, _, _⟩) (v := ?_) rfl (by kernel_rfl) (by kernel_rfl) (by kernel_rfl) (fun _ _ _ h => h) (Or.inl ⟨by rfl, ?_⟩) (by assumption) ?_
            rotate_left
            · (intro w hSw; (try dsimp only at hSw); go_simp; try (with_reducible rfl))
            try simp only [Act.put, List.setIfInBounds_toArray, List.set_cons_zero, List.set_cons_succ]
            refine wpAnyH_take (i := 7) (oi := ⟨some 85, _, _, _, _, _⟩) (v := ?_) rfl (by kernel_rfl) (by kernel_rfl) (by kernel_rfl) (fun _ _ _ h => h) (Or.inl ⟨by rfl, ?_⟩) (by assumption) ?_
            rotate_left
            · (intro w hSw; (try dsimp only at hSw); go_simp; try (with_reducible rfl))
            try simp only [Act.put, List.setIfInBounds_toArray, List.set_cons_zero, List.set_cons_succ]
            refine wpAnyH_take (i := 8) (oi := ⟨some 86, _, _, _, _, _⟩) (v := ?_) rfl (by kernel_rfl) (by kernel_rfl) (by kernel_rfl) (fun _ _ _ h => h) (Or.inl ⟨by rfl, ?_⟩) (by assumption) ?_
            rotate_left
            · (intro w hSw; (try dsimp only at hSw); go_simp; try (with_reducible rfl))
            try simp only [Act.put, List.setIfInBounds_toArray, List.set_cons_zero, List.set_cons_succ]
            refine wpAnyH_take (i := 9) (oi := ⟨some 87, _, _, _, _, _⟩) (v := ?_) rfl (by kernel_rfl) (by kernel_rfl) (by kernel_rfl) (fun _ _ _ h => h) (Or.inl ⟨by rfl, ?_⟩) (by assumption) ?_
            rotate_left
            · (intro w hSw; (try dsimp only at hSw); go_simp; try (with_reducible rfl))
            try simp only [Act.put, List.setIfInBounds_toArray, List.set_cons_zero, List.set_cons_succ]
            refine wpAnyH_take (i := 10) (oi := ⟨some 88, _, _, _, _, _⟩) (v := ?_) rfl (by kernel_rfl) (by kernel_rfl) (by kernel_rfl) (fun _ _ _ h => h) (Or.inl ⟨by rfl, ?_⟩) (by assumption) ?_
            rotate_left
            · (intro w hSw; (try dsimp only at hSw); go_simp; try (with_reducible rfl))
            try simp only [Act.put, List.setIfInBounds_toArray, List.set_cons_zero, List.set_cons_succ]
            refine wpAnyH_take (i := 11) (oi := ⟨some 89, _, _, _, _, _⟩) (v := ?_) rfl (by kernel_rfl) (by kernel_rfl) (by kernel_rfl) (fun _ _ _ h => h) (Or.inl ⟨by rfl, ?_⟩) (by assumption) ?_
            rotate_left
            · (intro w hSw; (try dsimp only at hSw); go_simp; try (with_reducible rfl))
            try simp only [Act.put, List.setIfInBounds_toArray, List.set_cons_zero, List.set_cons_succ]
            refine wpAnyH_take (i := 12) (oi := ⟨some 90, _, _, _, _, _⟩) (v := ?_) rfl (by kernel_rfl) (by kernel_rfl) (by kernel_rfl) (fun _ _ _ h => h) (Or.inl ⟨by rfl, ?_⟩) (by assumption) ?_
            rotate_left
            · (intro w hSw; (try dsimp only at hSw); go_simp; try (with_reducible rfl))
            try simp only [Act.put, List.setIfInBounds_toArray, List.set_cons_zero, List.set_cons_succ]
            refine wpAnyH_take (i := 13) (oi := ⟨some 91, _, _, _, _, _⟩) (v := ?_) rfl (by kernel_rfl) (by kernel_rfl) (by kernel_rfl) (fun _ _ _ h => h) (Or.inl ⟨by rfl, ?_⟩) (by assumption) ?_
            rotate_left
            · (intro w hSw; (try dsimp only at hSw); go_simp; try (with_reducible rfl))
            try simp only [Act.put, List.setIfInBounds_toArray, List.set_cons_zero, List.set_cons_succ]
            refine wpAnyH_take (i := 14) (oi := ⟨some 92, _, _, _, _, _⟩) (v := ?_) rfl (by kernel_rfl) (by kernel_rfl) (by kernel_rfl) (fun _ _ _ h => h) (Or.inl ⟨by rfl, ?_⟩) (by assumption) ?_
            rotate_left
            · (intro w hSw; (try dsimp only at hSw); go_simp; try (with_reducible rfl))
            try simp only [Act.put, List.setIfInBounds_toArray, List.set_cons_zero, List.set_cons_succ]
            refine wpAnyH_take (i := 15) (oi := ⟨some 93, _, _, _, _, _⟩) (v := ?_) rfl (by kernel_rfl) (by kernel_rfl) (by kernel_rfl) (fun _ _ _ h => h) (Or.inl ⟨by rfl, ?_⟩) (by assumption) ?_
            rotate_left
            · (intro w hSw; (try dsimp only at hSw); go_simp; try (with_reducible rfl))
            try simp only [Act.put, List.setIfInBounds_toArray, List.set_cons_zero, List.set_cons_succ]
            refine wpAnyH_take (i := 17) (oi := ⟨some 95, _, _, _, _, _⟩) (v := ?_) rfl (by kernel_rfl) (by kernel_rfl) (by kernel_rfl) (fun _ _ _ h => h) (Or.inl ⟨by rfl, ?_⟩) (by assumption) ?_
            rotate_left
            · (intro w hSw; (try dsimp only at hSw); go_simp; try (with_reducible rfl))
            try simp only [Act.put, List.setIfInBounds_toArray, List.set_cons_zero, List.set_cons_succ]
            refine wpAnyH_take (i := 18) (oi := ⟨some 96, _, _, _, _, _⟩) (v := ?_) rfl (by kernel_rfl) (by kernel_rfl) (by kernel_rfl) (fun _ _ _ h => h) (Or.inl ⟨by rfl, ?_⟩) (by assumption) ?_
            rotate_left
            · (intro w hSw; (try dsimp only at hSw); go_simp; try (with_reducible rfl))
            try simp only [Act.put, List.setIfInBounds_toArray, List.set_cons_zero, List.set_cons_succ]
            refine wpAnyH_take (i := 19) (oi := ⟨some 97, _, _, _, _, _⟩) (v := ?_) rfl (by kernel_rfl) (by kernel_rfl) (by kernel_rfl) (fun _ _ _ h => h) (Or.inl ⟨by rfl, ?_⟩) (by assumption) ?_
            rotate_left
            · (intro w hSw; (try dsimp only at hSw); go_simp; try (with_reducible rfl))
            try simp only [Act.put, List.setIfInBounds_toArray, List.set_cons_zero, List.set_cons_succ]
            refine wpAnyH_take (i := 20) (oi := ⟨some 98, _, _, _, _, _⟩) (v := ?_) rfl (by kernel_rfl) (by kernel_rfl) (by kernel_rfl) (fun _ _ _ h => h) (Or.inl ⟨by rfl, ?_⟩) (by assumption) ?_
            rotate_left
            · (intro w hSw; (try dsimp only at hSw); go_simp; try (with_reducible rfl))
            try simp only [Act.put, List.setIfInBounds_toArray, List.set_cons_zero, List.set_cons_succ]
            refine wpAnyH_take (i := 21) (oi := ⟨some 99, _, _, _, _, _⟩) (v := ?_) rfl (by kernel_rfl) (by kernel_rfl) (by kernel_rfl) (fun _ _ _ h => h) (Or.inl ⟨by rfl, ?_⟩) (by assumption) ?_
            rotate_left
            · (intro w hSw; (try dsimp only at hSw); go_simp; try (with_reducible rfl))
            try simp only [Act.put, List.setIfInBounds_toArray, List.set_cons_zero, List.set_cons_succ]
            refine wpAnyH_take (i := 22) (oi := ⟨some 100, _, _, _, _, _⟩) (v := ?_) rfl (by kernel_rfl) (by kernel_rfl) (by kernel_rfl) (fun _ _ _ h => h) (Or.inl ⟨by rfl, ?_⟩) (by assumption) ?_
            rotate_left
            · (intro w hSw; (try dsimp only at hSw); go_simp; try (with_reducible rfl))
            try simp only [Act.put, List.setIfInBounds_toArray, List.set_cons_zero, List.set_cons_succ]
            have ⟨e0, e1⟩ := HX.out.item (i := i) (by rw [HL.out]; omega)
            have ⟨e2, e3⟩ := HX.out.item (i := m) (by rw [HL.out]; omega)
            rw [HA.out] at e0 e1
            rw [HB.out] at e2 e3
            dsimp only at e0 e1 e2 e3
            refine wpAnyH_ready (rs := [16, 23]) (by kernel_rfl) (by simp) ?_
            refine AllReadyH.cons (o := ⟨some 94, _, _, _, _, _⟩) rfl (fun K hK => ?_) ?_
            · go_simp
              refine hK.out _ _ hh (fun hHeld => ?_)
              clear hK K
              try simp only [List.setIfInBounds_toArray, List.set_cons_zero, List.set_cons_succ]
              refine wpAnyH_ready (rs := [23]) (by kernel_rfl) (by simp) ?_
              refine AllReadyH.cons (o := ⟨some 101, _, _, _, _, _⟩) rfl (fun K hK => ?_) ?_
              · go_simp
                refine hK.out _ _ hh (fun hHeld => ?_)
                clear hK K
                try simp only [List.setIfInBounds_toArray, List.set_cons_zero, List.set_cons_succ]
                refine wpAnyH_take (i := 24) (oi := ⟨some 102, _, _, _, _, _⟩) (v := ?_) rfl (by kernel_rfl) (by kernel_rfl) (by kernel_rfl) (fun _ _ _ h => h) (Or.inl ⟨by rfl, ?_⟩) (by assumption) ?_
                rotate_left
                · (intro w hSw; (try dsimp only at hSw); go_simp; try (with_reducible rfl))
                try simp only [Act.put, List.setIfInBounds_toArray, List.set_cons_zero, List.set_cons_succ]
                have f0 := HX.out.free HL.out.symm (i * 2)
                have f1 := HX.out.free HL.out.symm (i * 2 + 1)
                refine wpAnyH_ready (rs := [25]) (by kernel_rfl) (by simp) ?_
                refine AllReadyH.cons (o := ⟨none, _, _, _, _, _⟩) rfl (fun K hK => ?_) ?_
                · go_simp
                  have HY := Lib.hid (HX.out.put HL.out.symm (i := i) (by rw [HL.out]; omega) (b1, b2))
                  have HRy := Lib.hid ((HR.out.far hggl (i * 2) (.int .i64 (b1 : Int))).far hggl (i * 2 + 1) (.int .i64 b2))
                  refine hK.out _ _ (HY.out.blk.cell 0) (fun hHeld => ?_)
                  clear hK K
                  try simp only [List.setIfInBounds_toArray, List.set_cons_zero, List.set_cons_succ]
                  dsimp only at HY
                  clear e0 e1 e2 e3 f0 f1 hHeld
                  generalize (wd.setCell ⟨_, i * 2, none⟩ (.int .i64 (b1 : Int))).setCell ⟨_, i * 2 + 1, none⟩ (.int .i64 b2) = we at *
                  have HL2 := Lib.hid (show (L.set i (b1, b2)).length = n by rw [List.length_set]; exact HL.out)
                  have ⟨e2, e3⟩ := HY.out.item (i := m) (by rw [HL2.out]; omega)
                  have f0 := HY.out.free HL2.out.symm (m * 2)
                  have f1 := HY.out.free HL2.out.symm (m * 2 + 1)
                  have hHeld : we.cell? ⟨g, 0, none⟩ = some (Value.slice (some ⟨gg, 0, none⟩) n capg) := HY.out.blk.cell 0
                  refine wpAnyH_take (i := 26) (oi := ⟨some 103, _, _, _, _, _⟩) (v := ?_) rfl (by kernel_rfl) (by kernel_rfl) (by kernel_rfl) (fun _ _ _ h => h) (Or.inl ⟨by rfl, ?_⟩) (by assumption) ?_
                  rotate_left
                  · (intro w hSw; (try dsimp only at hSw); go_simp; try (with_reducible rfl))
                  try simp only [Act.put, List.setIfInBounds_toArray, List.set_cons_zero, List.set_cons_succ]
                  refine wpAnyH_ready (rs := [27]) (by kernel_rfl) (by simp) ?_
                  refine AllReadyH.cons (o := ⟨none, _, _, _, _, _⟩) rfl (fun K hK => ?_) ?_
                  · go_simp
                    have HZ := Lib.hid (HY.out.put HL2.out.symm (i := m) (by rw [HL2.out]; omega) (a1, a2))
                    have HRz := Lib.hid ((HRy.out.far hggl (m * 2) (.int .i64 (a1 : Int))).far hggl (m * 2 + 1) (.int .i64 a2))
                    refine hK.out _ _ (HZ.out.blk.cell 0) (fun hHeld => ?_)
                    clear hK K
                    try simp only [List.setIfInBounds_toArray, List.set_cons_zero, List.set_cons_succ]
                    dsimp only at HZ
                    clear e2 e3 f0 f1 hHeld HY
                    generalize (we.setCell ⟨_, m * 2, none⟩ (.int .i64 (a1 : Int))).setCell ⟨_, m * 2 + 1, none⟩ (.int .i64 a2) = wf at *
                    refine wpAnyH_done (by kernel_rfl) ?_ _
                    rw [← HSW.out] at HZ
                    go_wp2_with fail
                    go_roundw
                    case rel => exact ⟨m, swap L i m, rfl, HZ.out, HRz.out, HDS.out, HP.out.trans HSP.out.symm, by rw [swap_len]; exact HL.out, .inr hmn⟩
                    case measure => simp [intOf]; omega
                  exact AllReadyH.nil
                exact AllReadyH.nil
              exact AllReadyH.nil
            refine AllReadyH.cons (o := ⟨some 101, _, _, _, _, _⟩) rfl (fun K hK => ?_) ?_
            · go_simp
              refine hK.out _ _ hh (fun hHeld => ?_)
              clear hK K
              try simp only [List.setIfInBounds_toArray, List.set_cons_zero, List.set_cons_succ]
              refine wpAnyH_ready (rs := [16]) (by kernel_rfl) (by simp) ?_
              refine AllReadyH.cons (o := ⟨some 94, _, _, _, _, _⟩) rfl (fun K hK => ?_) ?_
              · go_simp
                refine hK.out _ _ hh (fun hHeld => ?_)
                clear hK K
                try simp only [List.setIfInBounds_toArray, List.set_cons_zero, List.set_cons_succ]
                refine wpAnyH_take (i := 24) (oi := ⟨some 102, _, _, _, _, _⟩) (v := ?_) rfl (by kernel_rfl) (by kernel_rfl) (by kernel_rfl) (fun _ _ _ h => h) (Or.inl ⟨by rfl, ?_⟩) (by assumption) ?_
                rotate_left
                · (intro w hSw; (try dsimp only at hSw); go_simp; try (with_reducible rfl))
                try simp only [Act.put, List.setIfInBounds_toArray, List.set_cons_zero, List.set_cons_succ]
                have f0 := HX.out.free HL.out.symm (i * 2)
                have f1 := HX.out.free HL.out.symm (i * 2 + 1)
                refine wpAnyH_ready (rs := [25]) (by kernel_rfl) (by simp) ?_
                refine AllReadyH.cons (o := ⟨none, _, _, _, _, _⟩) rfl (fun K hK => ?_) ?_
                · go_simp
                  have HY := Lib.hid (HX.out.put HL.out.symm (i := i) (by rw [HL.out]; omega) (b1, b2))
                  have HRy := Lib.hid ((HR.out.far hggl (i * 2) (.int .i64 (b1 : Int))).far hggl (i * 2 + 1) (.int .i64 b2))
                  refine hK.out _ _ (HY.out.blk.cell 0) (fun hHeld => ?_)
                  clear hK K
                  try simp only [List.setIfInBounds_toArray, List.set_cons_zero, List.set_cons_succ]
                  dsimp only at HY
                  clear e0 e1 e2 e3 f0 f1 hHeld
                  generalize (wd.setCell ⟨_, i * 2, none⟩ (.int .i64 (b1 : Int))).setCell ⟨_, i * 2 + 1, none⟩ (.int .i64 b2) = we at *
                  have HL2 := Lib.hid (show (L.set i (b1, b2)).length = n by rw [List.length_set]; exact HL.out)
                  have ⟨e2, e3⟩ := HY.out.item (i := m) (by rw [HL2.out]; omega)
                  have f0 := HY.out.free HL2.out.symm (m * 2)
                  have f1 := HY.out.free HL2.out.symm (m * 2 + 1)
                  have hHeld : we.cell? ⟨g, 0, none⟩ = some (Value.slice (some ⟨gg, 0, none⟩) n capg) := HY.out.blk.cell 0
                  refine wpAnyH_take (i := 26) (oi := ⟨some 103, _, _, _, _, _⟩) (v := ?_) rfl (by kernel_rfl) (by kernel_rfl) (by kernel_rfl) (fun _ _ _ h => h) (Or.inl ⟨by rfl, ?_⟩) (by assumption) ?_
                  rotate_left
                  · (intro w hSw; (try dsimp only at hSw); go_simp; try (with_reducible rfl))
                  try simp only [Act.put, List.setIfInBounds_toArray, List.set_cons_zero, List.set_cons_succ]
                  refine wpAnyH_ready (rs := [27]) (by kernel_rfl) (by simp) ?_
                  refine AllReadyH.cons (o := ⟨none, _, _, _, _, _⟩) rfl (fun K hK => ?_) ?_
                  · go_simp
                    have HZ := Lib.hid (HY.out.put HL2.out.symm (i := m) (by rw [HL2.out]; omega) (a1, a2))
                    have HRz := Lib.hid ((HRy.out.far hggl (m * 2) (.int .i64 (a1 : Int))).far hggl (m * 2 + 1) (.int .i64 a2))
                    refine hK.out _ _ (HZ.out.blk.cell 0) (fun hHeld => ?_)
                    clear hK K
                    try simp only [List.setIfInBounds_toArray, List.set_cons_zero, List.set_cons_succ]
                    dsimp only at HZ
                    clear e2 e3 f0 f1 hHeld HY
                    generalize (we.setCell ⟨_, m * 2, none⟩ (.int .i64 (a1 : Int))).setCell ⟨_, m * 2 + 1, none⟩ (.int .i64 a2) = wf at *
                    refine wpAnyH_done (by kernel_rfl) ?_ _
                    rw [← HSW.out] at HZ
                    go_wp2_with fail
                    go_roundw
                    case rel => exact ⟨m, swap L i m, rfl, HZ.out, HRz.out, HDS.out, HP.out.trans HSP.out.symm, by rw [swap_len]; exact HL.out, .inr hmn⟩
                    case measure => simp [intOf]; omega
                  exact AllReadyH.nil
                exact AllReadyH.nil
              exact AllReadyH.nil
            exact AllReadyH.nil
        · have d1 : decide ((k : Int) ≤ 2 * (i : Int) + 2) = false := decide_eq_false (by omega)
          have d1' : ¬ (k : Int) ≤ 2 * (i : Int) + 2 := by omega
          by_cases hm : m = i
          · have hH := down_stop HD.out (hm ▸ HLe.out) (by rw [HL.out]; exact c1)
            have q1 : ((m : Int) == (i : Int)) = true := by rw [beq_iff_eq]; omega
            have q2 : (m == i) = true := by rw [beq_iff_eq]; exact hm
            have o0 : wr.cell? ⟨w.heap.size + 1, 0, none⟩ = some (.int .i64 (t1 : Int)) := HR.out.2.cell 0
            have o1 : wr.cell? ⟨w.heap.size + 1, 1, none⟩ = some (.int .i64 t2) := HR.out.2.cell 1
            have r0 : wr.cell? ⟨w.heap.size, 0, none⟩ = some (.int .i64 0) := HR.out.1.cell 0
            have r1 : wr.cell? ⟨w.heap.size, 1, none⟩ = some (.int .i64 0) := HR.out.1.cell 1
            have f0 := HR.out.1.free 0
            have f1 := HR.out.1.free 1
            have HM := Lib.hid hm
            have HH := Lib.hid hH
            clear hm hH
            go_wp2_with fail
            have hF := (HS.out.aside (b := w.heap.size) (Nat.le_refl _) (by omega) (fun e => by have h : gg = w.heap.size := Option.some.inj e; omega) 0 (.int .i64 (t1 : Int))).aside (b := w.heap.size) (Nat.le_refl _) (by omega) (fun e => by have h : gg = w.heap.size := Option.some.inj e; omega) 1 (.int .i64 t2)
            refine bodyPost_ret (v := .agg #[.int .i64 (t1 : Int), .int .i64 t2]) (by simp [results, Try.results65, go_sem, r0, r1]) rfl ?_
            exact ⟨rfl, _, L, hF, HH.out, ((HP.out.symm.cons (t1, t2)).trans HCP.out), HT.out⟩
          · have hmn : m < n := by omega
            have him : i < m := by omega
            have q1 : ((m : Int) == (i : Int)) = false := by rw [beq_eq_false_iff_ne]; omega
            have q2 : (m == i) = false := by rw [beq_eq_false_iff_ne]; exact hm
            have HDS := Lib.hid (down_swap (by rw [HL.out]; omega) HD.out HLe.out (by rw [HL.out]; exact c1) hm)
            have HSP := Lib.hid (swap_perm (l := L) (i := i) (j := m) (by rw [HL.out]; omega) (by rw [HL.out]; omega))
            have HSW := Lib.hid (show swap L i m = (L.set i (at' L m)).set m (at' L i) from rfl)
            generalize ha : at' L i = a at *
            generalize hb : at' L m = b at *
            have HA := Lib.hid ha
            have HB := Lib.hid hb
            clear ha hb
            obtain ⟨a1, a2⟩ := a
            obtain ⟨b1, b2⟩ := b
            have HX := Lib.hid (HS.out.next (below_drewN (Below.refl _ _) 1))
            have hR := HR.out.next (below_drewN (Below.refl _ _) 1)
            have c0 : wr.cell? ⟨g, 0, none⟩ = some (.slice (some ⟨gg, 0, none⟩) n capg) := HS.out.blk.cell 0
            have i1 : (i : Int) < (n : Int) := by omega
            have i2 : (m : Int) < (n : Int) := by omega
            have i3 : (0 : Int) ≤ (i : Int) := by omega
            have i4 : (0 : Int) ≤ (m : Int) := by omega
            clear hm HS HR
            have HR := Lib.hid hR
            clear hR
            go_upto_region 14 with fail
            have hh : (World.drewN wr 1).cell? ⟨g, 0, none⟩ = some (Value.slice (some ⟨gg, 0, none⟩) n capg) := HX.out.blk.cell 0
            refine wp_region_held_drew (S := fun w' => w'.cell? ⟨g, 0, none⟩ = some (Value.slice (some ⟨gg, 0, none⟩) n capg)) (by kernel_rfl) hh (fun hHeld => ?_)
            change wpAnyH _ _ _ _ _ _ _ _ (World.drewN wr 1)
            generalize World.drewN wr 1 = wd at *
            refine wpAnyH_take (i := 0) (oi := ⟨some 78, _, _, _, _, _⟩) (v := ?_) rfl (by kernel_rfl) (by kernel_rfl) (by kernel_rfl) (fun _ _ _ h => h) (Or.inl ⟨by rfl, ?_⟩) (by assumption) ?_
            rotate_left
            · (intro w hSw; (try dsimp only at hSw); go_simp; try (with_reducible rfl))
            try simp only [Act.put, List.setIfInBounds_toArray, List.set_cons_zero, List.set_cons_succ]
            refine wpAnyH_take (i := 1) (oi := ⟨some 79, _, _, _, _, _⟩) (v := ?_) rfl (by kernel_rfl) (by kernel_rfl) (by kernel_rfl) (fun _ _ _ h => h) (Or.inl ⟨by rfl, ?_⟩) (by assumption) ?_
            rotate_left
            · (intro w hSw; (try dsimp only at hSw); go_simp; try (with_reducible rfl))
            try simp only [Act.put, List.setIfInBounds_toArray, List.set_cons_zero, List.set_cons_succ]
            refine wpAnyH_take (i := 2) (oi := ⟨some 80, _, _, _, _, _⟩) (v := ?_) rfl (by kernel_rfl) (by kernel_rfl) (by kernel_rfl) (fun _ _ _ h => h) (Or.inl ⟨by rfl, ?_⟩) (by assumption) ?_
            rotate_left
            · (intro w hSw; (try dsimp only at hSw); go_simp; try (with_reducible rfl))
            try simp only [Act.put, List.setIfInBounds_toArray, List.set_cons_zero, List.set_cons_succ]
            refine wpAnyH_take (i := 3) (oi := ⟨some 81, _, _, _, _, _⟩) (v := ?_) rfl (by kernel_rfl) (by kernel_rfl) (by kernel_rfl) (fun _ _ _ h => h) (Or.inl ⟨by rfl, ?_⟩) (by assumption) ?_
            rotate_left
            · (intro w hSw; (try dsimp only at hSw); go_simp; try (with_reducible rfl))
            try simp only [Act.put, List.setIfInBounds_toArray, List.set_cons_zero, List.set_cons_succ]
            refine wpAnyH_take (i := 4) (oi := ⟨some 82, _, _, _, _, _⟩) (v := ?_) rfl (by kernel_rfl) (by kernel_rfl) (by kernel_rfl) (fun _ _ _ h => h) (Or.inl ⟨by rfl, ?_⟩) (by assumption) ?_
            rotate_left
            · (intro w hSw; (try dsimp only at hSw); go_simp; try (with_reducible rfl))
            try simp only [Act.put, List.setIfInBounds_toArray, List.set_cons_zero, List.set_cons_succ]
            refine wpAnyH_take (i := 5) (oi := ⟨some 83, _, _, _, _, _⟩) (v := ?_) rfl (by kernel_rfl) (by kernel_rfl) (by kernel_rfl) (fun _ _ _ h => h) (Or.inl ⟨by rfl, ?_⟩) (by assumption) ?_
            rotate_left
            · (intro w hSw; (try dsimp only at hSw); go_simp; try (with_reducible rfl))
            try simp only [Act.put, List.setIfInBounds_toArray, List.set_cons_zero, List.set_cons_succ]
            refine wpAnyH_take (i := 6) (oi := ⟨some 84, _, _, _, _, _⟩) (v := ?_) rfl (by kernel_rfl) (by kernel_rfl) (by kernel_rfl) (fun _ _ _ h => h) (Or.inl ⟨by rfl, ?_⟩) (by assumption) ?_
            rotate_left
            · (intro w hSw; (try dsimp only at hSw); go_simp; try (with_reducible rfl))
            try simp only [Act.put, List.setIfInBounds_toArray, List.set_cons_zero, List.set_cons_succ]
            refine wpAnyH_take (i := 7) (oi := ⟨some 85, _, _, _, _, _⟩) (v := ?_) rfl (by kernel_rfl) (by kernel_rfl) (by kernel_rfl) (fun _ _ _ h => h) (Or.inl ⟨by rfl, ?_⟩) (by assumption) ?_
            rotate_left
            · (intro w hSw; (try dsimp only at hSw); go_simp; try (with_reducible rfl))
            try simp only [Act.put, List.setIfInBounds_toArray, List.set_cons_zero, List.set_cons_succ]
            refine wpAnyH_take (i := 8) (oi := ⟨some 86, _, _, _, _, _⟩) (v := ?_) rfl (by kernel_rfl) (by kernel_rfl) (by kernel_rfl) (fun _ _ _ h => h) (Or.inl ⟨by rfl, ?_⟩) (by assumption) ?_
            rotate_left
            · (intro w hSw; (try dsimp only at hSw); go_simp; try (with_reducible rfl))
            try simp only [Act.put, List.setIfInBounds_toArray, List.set_cons_zero, List.set_cons_succ]
            refine wpAnyH_take (i := 9) (oi := ⟨some 87, _, _, _, _, _⟩) (v := ?_) rfl (by kernel_rfl) (by kernel_rfl) (by kernel_rfl) (fun _ _ _ h => h) (Or.inl ⟨by rfl, ?_⟩) (by assumption) ?_
            rotate_left
            · (intro w hSw; (try dsimp only at hSw); go_simp; try (with_reducible rfl))
            try simp only [Act.put, List.setIfInBounds_toArray, List.set_cons_zero, List.set_cons_succ]
            refine wpAnyH_take (i := 10) (oi := ⟨some 88, _, _, _, _, _⟩) (v := ?_) rfl (by kernel_rfl) (by kernel_rfl) (by kernel_rfl) (fun _ _ _ h => h) (Or.inl ⟨by rfl, ?_⟩) (by assumption) ?_
            rotate_left
            · (intro w hSw; (try dsimp only at hSw); go_simp; try (with_reducible rfl))
            try simp only [Act.put, List.setIfInBounds_toArray, List.set_cons_zero, List.set_cons_succ]
            refine wpAnyH_take (i := 11) (oi := ⟨some 89, _, _, _, _, _⟩) (v := ?_) rfl (by kernel_rfl) (by kernel_rfl) (by kernel_rfl) (fun _ _ _ h => h) (Or.inl ⟨by rfl, ?_⟩) (by assumption) ?_
            rotate_left
            · (intro w hSw; (try dsimp only at hSw); go_simp; try (with_reducible rfl))
            try simp only [Act.put, List.setIfInBounds_toArray, List.set_cons_zero, List.set_cons_succ]
            refine wpAnyH_take (i := 12) (oi := ⟨some 90, _, _, _, _, _⟩) (v := ?_) rfl (by kernel_rfl) (by kernel_rfl) (by kernel_rfl) (fun _ _ _ h => h) (Or.inl ⟨by rfl, ?_⟩) (by assumption) ?_
            rotate_left
            · (intro w hSw; (try dsimp only at hSw); go_simp; try (with_reducible rfl))
            try simp only [Act.put, List.setIfInBounds_toArray, List.set_cons_zero, List.set_cons_succ]
            refine wpAnyH_take (i := 13) (oi := ⟨some 91, _, _, _, _, _⟩) (v := ?_) rfl (by kernel_rfl) (by kernel_rfl) (by kernel_rfl) (fun _ _ _ h => h) (Or.inl ⟨by rfl, ?_⟩) (by assumption) ?_
            rotate_left
            · (intro w hSw; (try dsimp only at hSw); go_simp; try (with_reducible rfl))
            try simp only [Act.put, List.setIfInBounds_toArray, List.set_cons_zero, List.set_cons_succ]
            refine wpAnyH_take (i := 14) (oi := ⟨some 92, _, _, _, _, _⟩) (v := ?_) rfl (by kernel_rfl) (by kernel_rfl) (by kernel_rfl) (fun _ _ _ h => h) (Or.inl ⟨by rfl, ?_⟩) (by assumption) ?_
            rotate_left
            · (intro w hSw; (try dsimp only at hSw); go_simp; try (with_reducible rfl))
            try simp only [Act.put, List.setIfInBounds_toArray, List.set_cons_zero, List.set_cons_succ]
            refine wpAnyH_take (i := 15) (oi := ⟨some 93, _, _, _, _, _⟩) (v := ?_) rfl (by kernel_rfl) (by kernel_rfl) (by kernel_rfl) (fun _ _ _ h => h) (Or.inl ⟨by rfl, ?_⟩) (by assumption) ?_
            rotate_left
            · (intro w hSw; (try dsimp only at hSw); go_simp; try (with_reducible rfl))
            try simp only [Act.put, List.setIfInBounds_toArray, List.set_cons_zero, List.set_cons_succ]
            refine wpAnyH_take (i := 17) (oi := ⟨some 95, _, _, _, _, _⟩) (v := ?_) rfl (by kernel_rfl) (by kernel_rfl) (by kernel_rfl) (fun _ _ _ h => h) (Or.inl ⟨by rfl, ?_⟩) (by assumption) ?_
            rotate_left
            · (intro w hSw; (try dsimp only at hSw); go_simp; try (with_reducible rfl))
            try simp only [Act.put, List.setIfInBounds_toArray, List.set_cons_zero, List.set_cons_succ]
            refine wpAnyH_take (i := 18) (oi := ⟨some 96, _, _, _, _, _⟩) (v := ?_) rfl (by kernel_rfl) (by kernel_rfl) (by kernel_rfl) (fun _ _ _ h => h) (Or.inl ⟨by rfl, ?_⟩) (by assumption) ?_
            rotate_left
            · (intro w hSw; (try dsimp only at hSw); go_simp; try (with_reducible rfl))
            try simp only [Act.put, List.setIfInBounds_toArray, List.set_cons_zero, List.set_cons_succ]
            refine wpAnyH_take (i := 19) (oi := ⟨some 97, _, _, _, _, _⟩) (v := ?_) rfl (by kernel_rfl) (by kernel_rfl) (by kernel_rfl) (fun _ _ _ h => h) (Or.inl ⟨by rfl, ?_⟩) (by assumption) ?_
            rotate_left
            · (intro w hSw; (try dsimp only at hSw); go_simp; try (with_reducible rfl))
            try simp only [Act.put, List.setIfInBounds_toArray, List.set_cons_zero, List.set_cons_succ]
            refine wpAnyH_take (i := 20) (oi := ⟨some 98, _, _, _, _, _⟩) (v := ?_) rfl (by kernel_rfl) (by kernel_rfl) (by kernel_rfl) (fun _ _ _ h => h) (Or.inl ⟨by rfl, ?_⟩) (by assumption) ?_
            rotate_left
            · (intro w hSw; (try dsimp only at hSw); go_simp; try (with_reducible rfl))
            try simp only [Act.put, List.setIfInBounds_toArray, List.set_cons_zero, List.set_cons_succ]
            refine wpAnyH_take (i := 21) (oi := ⟨some 99, _, _, _, _, _⟩) (v := ?_) rfl (by kernel_rfl) (by kernel_rfl) (by kernel_rfl) (fun _ _ _ h => h) (Or.inl ⟨by rfl, ?_⟩) (by assumption) ?_
            rotate_left
            · (intro w hSw; (try dsimp only at hSw); go_simp; try (with_reducible rfl))
            try simp only [Act.put, List.setIfInBounds_toArray, List.set_cons_zero, List.set_cons_succ]
            refine wpAnyH_take (i := 22) (oi := ⟨some 100, _, _, _, _, _⟩) (v := ?_) rfl (by kernel_rfl) (by kernel_rfl) (by kernel_rfl) (fun _ _ _ h => h) (Or.inl ⟨by rfl, ?_⟩) (by assumption) ?_
            rotate_left
            · (intro w hSw; (try dsimp only at hSw); go_simp; try (with_reducible rfl))
            try simp only [Act.put, List.setIfInBounds_toArray, List.set_cons_zero, List.set_cons_succ]
            have ⟨e0, e1⟩ := HX.out.item (i := i) (by rw [HL.out]; omega)
            have ⟨e2, e3⟩ := HX.out.item (i := m) (by rw [HL.out]; omega)
            rw [HA.out] at e0 e1
            rw [HB.out] at e2 e3
            dsimp only at e0 e1 e2 e3
            refine wpAnyH_ready (rs := [16, 23]) (by kernel_rfl) (by simp) ?_
            refine AllReadyH.cons (o := ⟨some 94, _, _, _, _, _⟩) rfl (fun K hK => ?_) ?_
            · go_simp
              refine hK.out _ _ hh (fun hHeld => ?_)
              clear hK K
              try simp only [List.setIfInBounds_toArray, List.set_cons_zero, List.set_cons_succ]
              refine wpAnyH_ready (rs := [23]) (by kernel_rfl) (by simp) ?_
              refine AllReadyH.cons (o := ⟨some 101, _, _, _, _, _⟩) rfl (fun K hK => ?_) ?_
              · go_simp
                refine hK.out _ _ hh (fun hHeld => ?_)
                clear hK K
                try simp only [List.setIfInBounds_toArray, List.set_cons_zero, List.set_cons_succ]
                refine wpAnyH_take (i := 24) (oi := ⟨some 102, _, _, _, _, _⟩) (v := ?_) rfl (by kernel_rfl) (by kernel_rfl) (by kernel_rfl) (fun _ _ _ h => h) (Or.inl ⟨by rfl, ?_⟩) (by assumption) ?_
                rotate_left
                · (intro w hSw; (try dsimp only at hSw); go_simp; try (with_reducible rfl))
                try simp only [Act.put, List.setIfInBounds_toArray, List.set_cons_zero, List.set_cons_succ]
                have f0 := HX.out.free HL.out.symm (i * 2)
                have f1 := HX.out.free HL.out.symm (i * 2 + 1)
                refine wpAnyH_ready (rs := [25]) (by kernel_rfl) (by simp) ?_
                refine AllReadyH.cons (o := ⟨none, _, _, _, _, _⟩) rfl (fun K hK => ?_) ?_
                · go_simp
                  have HY := Lib.hid (HX.out.put HL.out.symm (i := i) (by rw [HL.out]; omega) (b1, b2))
                  have HRy := Lib.hid ((HR.out.far hggl (i * 2) (.int .i64 (b1 : Int))).far hggl (i * 2 + 1) (.int .i64 b2))
                  refine hK.out _ _ (HY.out.blk.cell 0) (fun hHeld => ?_)
                  clear hK K
                  try simp only [List.setIfInBounds_toArray, List.set_cons_zero, List.set_cons_succ]
                  dsimp only at HY
                  clear e0 e1 e2 e3 f0 f1 hHeld
                  generalize (wd.setCell ⟨_, i * 2, none⟩ (.int .i64 (b1 : Int))).setCell ⟨_, i * 2 + 1, none⟩ (.int .i64 b2) = we at *
                  have HL2 := Lib.hid (show (L.set i (b1, b2)).length = n by rw [List.length_set]; exact HL.out)
                  have ⟨e2, e3⟩ := HY.out.item (i := m) (by rw [HL2.out]; omega)
                  have f0 := HY.out.free HL2.out.symm (m * 2)
                  have f1 := HY.out.free HL2.out.symm (m * 2 + 1)
                  have hHeld : we.cell? ⟨g, 0, none⟩ = some (Value.slice (some ⟨gg, 0, none⟩) n capg) := HY.out.blk.cell 0
                  refine wpAnyH_take (i := 26) (oi := ⟨some 103, _, _, _, _, _⟩) (v := ?_) rfl (by kernel_rfl) (by kernel_rfl) (by kernel_rfl) (fun _ _ _ h => h) (Or.inl ⟨by rfl, ?_⟩) (by assumption) ?_
                  rotate_left
                  · (intro w hSw; (try dsimp only at hSw); go_simp; try (with_reducible rfl))
                  try simp only [Act.put, List.setIfInBounds_toArray, List.set_cons_zero, List.set_cons_succ]
                  refine wpAnyH_ready (rs := [27]) (by kernel_rfl) (by simp) ?_
                  refine AllReadyH.cons (o := ⟨none, _, _, _, _, _⟩) rfl (fun K hK => ?_) ?_
                  · go_simp
                    have HZ := Lib.hid (HY.out.put HL2.out.symm (i := m) (by rw [HL2.out]; omega) (a1, a2))
                    have HRz := Lib.hid ((HRy.out.far hggl (m * 2) (.int .i64 (a1 : Int))).far hggl (m * 2 + 1) (.int .i64 a2))
                    refine hK.out _ _ (HZ.out.blk.cell 0) (fun hHeld => ?_)
                    clear hK K
                    try simp only [List.setIfInBounds_toArray, List.set_cons_zero, List.set_cons_succ]
                    dsimp only at HZ
                    clear e2 e3 f0 f1 hHeld HY
                    generalize (we.setCell ⟨_, m * 2, none⟩ (.int .i64 (a1 : Int))).setCell ⟨_, m * 2 + 1, none⟩ (.int .i64 a2) = wf at *
                    refine wpAnyH_done (by kernel_rfl) ?_ _
                    rw [← HSW.out] at HZ
                    go_wp2_with fail
                    go_roundw
                    case rel => exact ⟨m, swap L i m, rfl, HZ.out, HRz.out, HDS.out, HP.out.trans HSP.out.symm, by rw [swap_len]; exact HL.out, .inr hmn⟩
                    case measure => simp [intOf]; omega
                  exact AllReadyH.nil
                exact AllReadyH.nil
              exact AllReadyH.nil
            refine AllReadyH.cons (o := ⟨some 101, _, _, _, _, _⟩) rfl (fun K hK => ?_) ?_
            · go_simp
              refine hK.out _ _ hh (fun hHeld => ?_)
              clear hK K
              try simp only [List.setIfInBounds_toArray, List.set_cons_zero, List.set_cons_succ]
              refine wpAnyH_ready (rs := [16]) (by kernel_rfl) (by simp) ?_
              refine AllReadyH.cons (o := ⟨some 94, _, _, _, _, _⟩) rfl (fun K hK => ?_) ?_
              · go_simp
                refine hK.out _ _ hh (fun hHeld => ?_)
                clear hK K
                try simp only [List.setIfInBounds_toArray, List.set_cons_zero, List.set_cons_succ]
                refine wpAnyH_take (i := 24) (oi := ⟨some 102, _, _, _, _, _⟩) (v := ?_) rfl (by kernel_rfl) (by kernel_rfl) (by kernel_rfl) (fun _ _ _ h => h) (Or.inl ⟨by rfl, ?_⟩) (by assumption) ?_
                rotate_left
                · (intro w hSw; (try dsimp only at hSw); go_simp; try (with_reducible rfl))
                try simp only [Act.put, List.setIfInBounds_toArray, List.set_cons_zero, List.set_cons_succ]
                have f0 := HX.out.free HL.out.symm (i * 2)
                have f1 := HX.out.free HL.out.symm (i * 2 + 1)
                refine wpAnyH_ready (rs := [25]) (by kernel_rfl) (by simp) ?_
                refine AllReadyH.cons (o := ⟨none, _, _, _, _, _⟩) rfl (fun K hK => ?_) ?_
                · go_simp
                  have HY := Lib.hid (HX.out.put HL.out.symm (i := i) (by rw [HL.out]; omega) (b1, b2))
                  have HRy := Lib.hid ((HR.out.far hggl (i * 2) (.int .i64 (b1 : Int))).far hggl (i * 2 + 1) (.int .i64 b2))
                  refine hK.out _ _ (HY.out.blk.cell 0) (fun hHeld => ?_)
                  clear hK K
                  try simp only [List.setIfInBounds_toArray, List.set_cons_zero, List.set_cons_succ]
                  dsimp only at HY
                  clear e0 e1 e2 e3 f0 f1 hHeld
                  generalize (wd.setCell ⟨_, i * 2, none⟩ (.int .i64 (b1 : Int))).setCell ⟨_, i * 2 + 1, none⟩ (.int .i64 b2) = we at *
                  have HL2 := Lib.hid (show (L.set i (b1, b2)).length = n by rw [List.length_set]; exact HL.out)
                  have ⟨e2, e3⟩ := HY.out.item (i := m) (by rw [HL2.out]; omega)
                  have f0 := HY.out.free HL2.out.symm (m * 2)
                  have f1 := HY.out.free HL2.out.symm (m * 2 + 1)
                  have hHeld : we.cell? ⟨g, 0, none⟩ = some (Value.slice (some ⟨gg, 0, none⟩) n capg) := HY.out.blk.cell 0
                  refine wpAnyH_take (i := 26) (oi := ⟨some 103, _, _, _, _, _⟩) (v := ?_) rfl (by kernel_rfl) (by kernel_rfl) (by kernel_rfl) (fun _ _ _ h => h) (Or.inl ⟨by rfl, ?_⟩) (by assumption) ?_
                  rotate_left
                  · (intro w hSw; (try dsimp only at hSw); go_simp; try (with_reducible rfl))
                  try simp only [Act.put, List.setIfInBounds_toArray, List.set_cons_zero, List.set_cons_succ]
                  refine wpAnyH_ready (rs := [27]) (by kernel_rfl) (by simp) ?_
                  refine AllReadyH.cons (o := ⟨none, _, _, _, _, _⟩) rfl (fun K hK => ?_) ?_
                  · go_simp
                    have HZ := Lib.hid (HY.out.put HL2.out.symm (i := m) (by rw [HL2.out]; omega) (a1, a2))
                    have HRz := Lib.hid ((HRy.out.far hggl (m * 2) (.int .i64 (a1 : Int))).far hggl (m * 2 + 1) (.int .i64 a2))
                    refine hK.out _ _ (HZ.out.blk.cell 0) (fun hHeld => ?_)
                    clear hK K
                    try simp only [List.setIfInBounds_toArray, List.set_cons_zero, List.set_cons_succ]
                    dsimp only at HZ
                    clear e2 e3 f0 f1 hHeld HY
                    generalize (we.setCell ⟨_, m * 2, none⟩ (.int .i64 (a1 : Int))).setCell ⟨_, m * 2 + 1, none⟩ (.int .i64 a2) = wf at *
                    refine wpAnyH_done (by kernel_rfl) ?_ _
                    rw [← HSW.out] at HZ
                    go_wp2_with fail
                    go_roundw
                    case rel => exact ⟨m, swap L i m, rfl, HZ.out, HRz.out, HDS.out, HP.out.trans HSP.out.symm, by rw [swap_len]; exact HL.out, .inr hmn⟩
                    case measure => simp [intOf]; omega
                  exact AllReadyH.nil
                exact AllReadyH.nil
              exact AllReadyH.nil
            exact AllReadyH.nil
end Rou
end Go.Proofs.Ytgncngpgodfijaa
