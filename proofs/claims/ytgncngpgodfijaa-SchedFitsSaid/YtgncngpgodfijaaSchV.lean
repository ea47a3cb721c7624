/-
  The walk of the example of package sched.
-/
import Derived.Test.YtgncngpgodfijaaSchR
namespace Go.Proofs.Ytgncngpgodfijaa
open Go.RowKit
set_option linter.unusedVariables false
namespace Sch

def T3 : List Tk := [⟨2, 3⟩, ⟨1, 2⟩, ⟨2, 3⟩]
def T4 : List Tk := [⟨2, 3⟩, ⟨1, 2⟩, ⟨2, 3⟩, ⟨64, 1⟩]
theorem v1 : phases T3 5 = some [0, 0, 1] := by decide +kernel
theorem v2 : phases T4 5 = none := by decide +kernel
theorem v3 : code [⟨3, 1⟩] 5 = 1 := by decide +kernel
theorem v4 : due T3 [0, 0, 1] 6 3 = [0, 1] := by decide +kernel
theorem v5 : marks [0, 1] 3 (mark T3 [7, 1]) = [2, 1, 0] := by decide +kernel
theorem v6 : usedSum T3 [7, 1] [0, 1] = 4 := by decide +kernel
theorem v7 : need T4 = 321 := by decide +kernel
theorem v8 : code (T4.map ti) 0 = 2 := by decide +kernel
theorem v9 : load T3 [0, 0, 1] (7 % 64) = 5 := by decide +kernel
theorem v10 : nextAt 2 1 8 = 9 := by decide +kernel
theorem ok4 : ∀ t ∈ T4, okK t := by
  intro t ht
  simp only [T4, List.mem_cons, List.not_mem_nil, or_false] at ht
  unfold okK pw
  rcases ht with rfl | rfl | rfl | rfl <;> decide
theorem ok3 : ∀ t ∈ T3, okK t := fun t ht => ok4 t (by simp only [T3, T4, List.mem_cons, List.not_mem_nil, or_false] at ht ⊢; rcases ht with h | h | h <;> simp [h])
set_option maxRecDepth 100000 in
set_option maxHeartbeats 2000000 in
theorem sworks_any (w : World) : Calls Try.prog 33 #[] w fun e w' => e = .returned (.bool true) ∧ Below w.heap.size w w' := by
  go_enter Try.func33, Try.ntmps33
  have hrd0 : RdL (w.alloc (.cells #[.int .i64 2, .int .i64 3, .int .i64 1, .int .i64 2, .int .i64 2, .int .i64 3, .int .i64 64, .int .i64 1] 72)) w.heap.size (w.heap.size + 1) (some ⟨w.heap.size, 0, none⟩) (T4.flatMap tkc) := new_rd w 72 (T4.flatMap tkc)
  have hb0 := bl w (.cells #[.int .i64 2, .int .i64 3, .int .i64 1, .int .i64 2, .int .i64 2, .int .i64 3, .int .i64 64, .int .i64 1] 72)
  have hrd3 := hrd0.take 6
  have hs0 : w.heap.size + 1 ≤ (w.alloc (.cells #[.int .i64 2, .int .i64 3, .int .i64 1, .int .i64 2, .int .i64 2, .int .i64 3, .int .i64 64, .int .i64 1] 72)).heap.size := by simp
  have Hrd0 := Lib.hid hrd0
  have Hrd3 : Hid (RdL (w.alloc (.cells #[.int .i64 2, .int .i64 3, .int .i64 1, .int .i64 2, .int .i64 2, .int .i64 3, .int .i64 64, .int .i64 1] 72)) w.heap.size (w.heap.size + 1) (some ⟨w.heap.size, 0, none⟩) (T3.flatMap tkc)) := Lib.hid hrd3
  have Hb0 := Lib.hid hb0
  clear hrd0 hrd3 hb0
  go_wp2_with fail
  refine (snew_ok (some ⟨w.heap.size, 0, none⟩) T3 3 4 _ _ 5 _ Hrd3.out hs0 rfl (by decide) ok3 (by decide)).mono ?_
  unfold GotNew
  rw [v1]
  rintro e w1 ⟨⟨g, vt, vp, rfl, hg, hpb⟩, hb1⟩
  have Hpb := Lib.hid hpb
  have Hb1 := Lib.hid (Hb0.out.trans (hb1.mono (by omega)))
  have Hrd1 := Lib.hid (Hrd0.out.next hb1)
  have hs1 := hb1.size
  clear hpb hb1 Hrd3 Hrd0 Hb0
  go_wp2_with fail
  refine (snew_ok (some ⟨w.heap.size, 0, none⟩) T4 4 4 _ _ 5 _ Hrd1.out (by omega) rfl (by decide) ok4 (by decide)).mono ?_
  unfold GotNew
  rw [v2]
  rintro e w2 ⟨rfl, hb2⟩
  have Hpb2 := Lib.hid (Hpb.out.next hb2)
  have Hb2 := Lib.hid (Hb1.out.trans (hb2.mono (by omega)))
  have Hrd2 := Lib.hid (Hrd1.out.next hb2)
  have hs2 := hb2.size
  clear hb2 Hpb Hb1 Hrd1
  go_wp2_with fail
  refine (snew_bad (some ⟨w2.heap.size, 0, none⟩) [⟨3, 1⟩] 1 1 _ _ 5 _ (new_rd w2 72 [.int .i64 3, .int .i64 1]) (by simp) rfl (by decide) 1 v3 (by decide)).mono ?_
  rintro e w3 ⟨rfl, hb3⟩
  have hb3' := (bl w2 (.cells #[.int .i64 3, .int .i64 1] 72)).trans (hb3.mono (by simp))
  have Hpb3 := Lib.hid (Hpb2.out.next hb3')
  have Hb3 := Lib.hid (Hb2.out.trans (hb3'.mono (by omega)))
  have Hrd3 := Lib.hid (Hrd2.out.next hb3')
  have hs3 := hb3'.size
  clear hb3 hb3' Hpb2 Hb2 Hrd2
  go_wp2_with fail
  refine (sphase_in g vt vp T3 [0, 0, 1] 5 2 _ Hpb3.out (by decide) (by decide)).mono ?_
  rintro e w4 ⟨rfl, rfl⟩
  go_wp2_with fail
  refine (sphase_out g vt vp T3 [0, 0, 1] 5 3 _ Hpb3.out (by decide) (by decide)).mono ?_
  rintro e w4 ⟨rfl, rfl⟩
  go_wp2_with fail
  refine (snext_any g vt vp T3 [0, 0, 1] 5 8 3 2 _ Hpb3.out rfl (by decide) (by decide) (by decide) ok3 (by decide) (by decide)).mono ?_
  rintro e w4 ⟨rfl, rfl⟩
  go_wp2_with fail
  refine (sdue_any g vt vp T3 [0, 0, 1] 5 6 3 _ Hpb3.out rfl rfl (by decide) ok3 (by decide)).mono ?_
  unfold GotL
  rw [v4]
  rintro e w4 ⟨⟨vd, rfl, hd⟩, hb4⟩
  have Hpb4 := Lib.hid (Hpb3.out.next hb4)
  have Hb4 := Lib.hid (Hb3.out.trans (hb4.mono (by omega)))
  have Hrd4 := Lib.hid (Hrd3.out.next hb4)
  have hs4 := hb4.size
  obtain ⟨Ad, capd, rfl, hdd, _, _, _⟩ := own_rd hd
  have Hdd := Lib.hid hdd
  have ht5 := new_rd w4 3 [.int .i64 7, .int .i64 1]
  have Ht5 : Hid (RdL (w4.alloc (.cells #[.int .i64 7, .int .i64 1] 3)) 0 (w4.alloc (.cells #[.int .i64 7, .int .i64 1] 3)).heap.size (some ⟨w4.heap.size, 0, none⟩) (jv [7, 1])) := Lib.hid (ht5.wide (Nat.zero_le _) (by simp))
  clear hd hb4 hdd ht5 Hpb3 Hb3 Hrd3
  go_wp2_with fail
  refine (srun_any g vt vp T3 [0, 0, 1] 5 6 3 (some ⟨w4.heap.size, 0, none⟩) [7, 1] 2 2 _ (Hpb4.out.next (bl w4 _)) rfl rfl (by decide) ok3 (by decide) Ht5.out rfl (by unfold okI; decide) _ v4).mono ?_
  rw [v5, v6]
  rintro e w5 ⟨⟨vr, rfl, hr⟩, hb5⟩
  have hb5' := (bl w4 (.cells #[.int .i64 7, .int .i64 1] 3)).trans (hb5.mono (by simp))
  have Hpb5 := Lib.hid (Hpb4.out.next hb5')
  have Hb5 := Lib.hid (Hb4.out.trans (hb5'.mono (by omega)))
  have Hrd5 := Lib.hid (Hrd4.out.next hb5')
  have hs5 := hb5'.size
  have hdd5 := Hdd.out.next hb5'
  obtain ⟨bd, offd, rfl, _, _, _, hcd⟩ := hdd5.some (by decide)
  obtain ⟨Ar, capr, rfl, hrr, _, _, _⟩ := own_rd hr
  obtain ⟨br, offr, rfl, _, _, _, hcr⟩ := hrr.some (by decide)
  have d0 : w5.cell? ⟨bd, offd, none⟩ = some (.int .i64 0) := hcd 0 _ rfl
  have d1 : w5.cell? ⟨bd, offd + 1, none⟩ = some (.int .i64 1) := hcd 1 _ rfl
  have r0 : w5.cell? ⟨br, offr, none⟩ = some (.int .i64 2) := hcr 0 _ rfl
  have r1 : w5.cell? ⟨br, offr + 1, none⟩ = some (.int .i64 1) := hcr 1 _ rfl
  have r2 : w5.cell? ⟨br, offr + 2, none⟩ = some (.int .i64 0) := hcr 2 _ rfl
  clear hr hb5 hb5' hdd5 hcd hcr hrr Hpb4 Hb4 Hrd4
  go_wp2_with fail
  refine (sload_any g vt vp T3 [0, 0, 1] 5 7 _ Hpb5.out).mono ?_
  rw [v9]
  rintro e w6 ⟨rfl, rfl⟩
  go_wp2_with fail
  refine (sneed_any (some ⟨w.heap.size, 0, none⟩) T4 4 4 _ _ _ Hrd5.out (by omega) rfl (by decide) ok4).mono ?_
  rw [v7]
  rintro e w6 ⟨rfl, hb6⟩
  have Hrd6 := Lib.hid (Hrd5.out.next hb6)
  have Hb6 := Lib.hid (Hb5.out.trans (hb6.mono (by omega)))
  have hs6 := hb6.size
  clear hb6
  go_wp2_with fail
  refine (scheck_any (some ⟨w.heap.size, 0, none⟩) (T4.map ti) 4 4 _ _ 0 _ (by rw [ti_flat]; exact Hrd6.out) (by omega) rfl (by decide)).mono ?_
  rw [v8]
  rintro e w7 ⟨rfl, hb7⟩
  have Hb7 := Lib.hid (Hb6.out.trans (hb7.mono (by omega)))
  clear hb7
  go_wp2
  go_ret
  exact ⟨rfl, Hb7.out⟩
end Sch
end Go.Proofs.Ytgncngpgodfijaa
