/- A part of the proof of WholeFaults. -/
import Derived.Test.YtekjehbkmlodmaaGreatZA
import Derived.Test.YtekjehbkmlodmaaGreatTopM
set_option linter.unusedVariables false
set_option linter.unusedSimpArgs false
namespace Go.Proofs.YtekjehbkmlodmaaGreat.lawWholeFaults
open Go.ChangeShapes Go.WideShapes Go.ChangeAt Go.RowKit
theorem own : ownKnob Tryz.prog.godebug = none := by kernel_rfl
theorem laidOut : laidOutB Tryz.prog = true := by kernel_rfl
theorem sh0 : shapeOf Tryz.prog 12 5 = some (.int .u8) := by kernel_rfl
theorem ag0 : isAggT Tryz.prog 5 = false := by kernel_rfl
theorem sh1 : shapeOf Tryz.prog 12 5 = some (.int .u8) := by kernel_rfl
theorem ag1 : isAggT Tryz.prog 5 = false := by kernel_rfl
theorem sh2 : shapeOf Tryz.prog 12 22 = some (.slice (.int .i16)) := by kernel_rfl
theorem ag2 : isAggT Tryz.prog 22 = false := by kernel_rfl
theorem sh3 : shapeOf Tryz.prog 12 23 = some (.int .u16) := by kernel_rfl
theorem ag3 : isAggT Tryz.prog 23 = false := by kernel_rfl
theorem sh4 : shapeOf Tryz.prog 12 5 = some (.int .u8) := by kernel_rfl
theorem ag4 : isAggT Tryz.prog 5 = false := by kernel_rfl
theorem sh5 : shapeOf Tryz.prog 12 23 = some (.int .u16) := by kernel_rfl
theorem ag5 : isAggT Tryz.prog 23 = false := by kernel_rfl
theorem sh6 : shapeOf Tryz.prog 40 32 = some (.cat (.cat (.int .u32) (.cat (.int .i64) (.cat (.int .i64) (.cat (.int .i64) .unit)))) (.cat (.cat (.int .i64) (.cat (.int .i64) (.cat (.int .i64) (.cat (.int .i64) (.cat (.int .i64) (.cat (.int .i64) .unit)))))) (.cat (.cat (.int .i64) (.cat (.int .i64) (.cat (.int .i64) .unit))) (.cat (.int .i64) (.cat (.int .i64) (.cat (.int .i64) (.cat (.int .i64) (.cat (.int .i64) (.cat (.int .i64) (.cat (.int .i64) (.cat (.int .i64) (.cat (.int .i64) (.cat (.int .i64) .unit))))))))))))) := by kernel_rfl
theorem ag6 : isAggT Tryz.prog 32 = true := by kernel_rfl
theorem sh7 : shapeOf Tryz.prog 12 34 = some (.cat (.int .i64) (.cat (.int .i64) .unit)) := by kernel_rfl
theorem ag7 : isAggT Tryz.prog 34 = true := by kernel_rfl
theorem sh8 : shapeOf Tryz.prog 12 35 = some (.slice (.int .u8)) := by kernel_rfl
theorem ag8 : isAggT Tryz.prog 35 = false := by kernel_rfl
set_option maxRecDepth 100000 in
theorem lifted (os : Os) (started : os.Started) (H : Type) (enc : TypeId × Value → H) :
  ReturnsInHanded {} Tryz.checked os 3 .any (Rows.wholeFaultsSpec.pre6 enc Tryz.prog Tryz.f3 Rows.wholeFaultsRow.domain false) (Rows.wholeFaultsSpec.post enc Tryz.prog Tryz.f3 false true false false) := by
 refine returnsInHanded_of_change (C := Tryz.checked) own started (by kernel_rfl) Tryz.func3
  (ChangeSpec.witness6 (enc := enc) (C := Tryz.checked) false ⟨#[], #[(.int .u8 0), (.int .u8 0), (.slice none 0 0), (.int .u16 0), (.int .u8 0), (.int .u16 0), (.agg #[.int .u32 0, .int .i64 0, .int .i64 0, .int .i64 0, .int .i64 0, .int .i64 0, .int .i64 0, .int .i64 0, .int .i64 0, .int .i64 0, .int .i64 0, .int .i64 0, .int .i64 0, .int .i64 0, .int .i64 0, .int .i64 0, .int .i64 0, .int .i64 0, .int .i64 0, .int .i64 0, .int .i64 0, .int .i64 0, .int .i64 0]), (.agg #[.int .i64 0, .int .i64 0]), (.slice none 0 0)], []⟩ 8 (by kernel_rfl) (by kernel_rfl) (by kernel_rfl) (by kernel_rfl)) ?_
 intro W base args ds gs before hval0 hW hcnd _
 have hval : ∀ (j : Nat) t v, Tryz.f3.params[j]? = some t → args[j]? = some v → Value.okWide Tryz.prog W .any base t v := hval0
 have hW' := hW
 obtain ⟨p, q, hA0, hV, rfl, hfz, hnd⟩ := hW
 have hA : DataW.TrodAll enc Tryz.prog W 0 (fun _ => true) true Tryz.f3.params.toList args.toList ds p := hA0
 rw [Tryz.params3] at hA hval
 obtain ⟨v0, vs0, d0, ds0, p0, q0, hargs, rfl, rfl, h0, r0⟩ := trodAll_cons hA
 obtain ⟨v1, vs1, d1, ds1, p1, q1, rfl, rfl, rfl, h1, r1⟩ := trodAll_cons r0
 obtain ⟨v2, vs2, d2, ds2, p2, q2, rfl, rfl, rfl, h2, r2⟩ := trodAll_cons r1
 obtain ⟨v3, vs3, d3, ds3, p3, q3, rfl, rfl, rfl, h3, r3⟩ := trodAll_cons r2
 obtain ⟨v4, vs4, d4, ds4, p4, q4, rfl, rfl, rfl, h4, r4⟩ := trodAll_cons r3
 obtain ⟨v5, vs5, d5, ds5, p5, q5, rfl, rfl, rfl, h5, r5⟩ := trodAll_cons r4
 obtain ⟨v6, vs6, d6, ds6, p6, q6, rfl, rfl, rfl, h6, r6⟩ := trodAll_cons r5
 obtain ⟨v7, vs7, d7, ds7, p7, q7, rfl, rfl, rfl, h7, r7⟩ := trodAll_cons r6
 obtain ⟨v8, vs8, d8, ds8, p8, q8, rfl, rfl, rfl, h8, r8⟩ := trodAll_cons r7
 obtain ⟨rfl, rfl, rfl⟩ := trodAll_nil r8
 obtain rfl : args = #[v0, v1, v2, v3, v4, v5, v6, v7, v8] := by cases args; simp_all
 obtain ⟨rfl, rfl⟩ := trodVars_none hV
 have k0 := h0
 have lt0 : ∀ x ∈ p0, x.block < W.heap.size := by obtain ⟨m, hm⟩ := k0; exact DataW.trod_lt m _ _ _ hm
 have s0 := vsat_of sh0 (hval 0 5 v0 rfl rfl) h0
 rw [ag0] at s0
 have k1 := h1
 have lt1 : ∀ x ∈ p1, x.block < W.heap.size := by obtain ⟨m, hm⟩ := k1; exact DataW.trod_lt m _ _ _ hm
 have s1 := vsat_of sh1 (hval 1 5 v1 rfl rfl) h1
 rw [ag1] at s1
 have k2 := h2
 have lt2 : ∀ x ∈ p2, x.block < W.heap.size := by obtain ⟨m, hm⟩ := k2; exact DataW.trod_lt m _ _ _ hm
 have s2 := vsat_of sh2 (hval 2 22 v2 rfl rfl) h2
 rw [ag2] at s2
 have k3 := h3
 have lt3 : ∀ x ∈ p3, x.block < W.heap.size := by obtain ⟨m, hm⟩ := k3; exact DataW.trod_lt m _ _ _ hm
 have s3 := vsat_of sh3 (hval 3 23 v3 rfl rfl) h3
 rw [ag3] at s3
 have k4 := h4
 have lt4 : ∀ x ∈ p4, x.block < W.heap.size := by obtain ⟨m, hm⟩ := k4; exact DataW.trod_lt m _ _ _ hm
 have s4 := vsat_of sh4 (hval 4 5 v4 rfl rfl) h4
 rw [ag4] at s4
 have k5 := h5
 have lt5 : ∀ x ∈ p5, x.block < W.heap.size := by obtain ⟨m, hm⟩ := k5; exact DataW.trod_lt m _ _ _ hm
 have s5 := vsat_of sh5 (hval 5 23 v5 rfl rfl) h5
 rw [ag5] at s5
 have k6 := h6
 have lt6 : ∀ x ∈ p6, x.block < W.heap.size := by obtain ⟨m, hm⟩ := k6; exact DataW.trod_lt m _ _ _ hm
 have s6 := vsat_of sh6 (hval 6 32 v6 rfl rfl) h6
 rw [ag6] at s6
 have k7 := h7
 have lt7 : ∀ x ∈ p7, x.block < W.heap.size := by obtain ⟨m, hm⟩ := k7; exact DataW.trod_lt m _ _ _ hm
 have s7 := vsat_of sh7 (hval 7 34 v7 rfl rfl) h7
 rw [ag7] at s7
 have k8 := h8
 have lt8 : ∀ x ∈ p8, x.block < W.heap.size := by obtain ⟨m, hm⟩ := k8; exact DataW.trod_lt m _ _ _ hm
 have s8 := vsat_of sh8 (hval 8 35 v8 rfl rfl) h8
 rw [ag8] at s8
 clear hA0 hval0
 refine (Top.walkFaults v0 v1 v2 v3 v4 v5 v6 v7 v8 W s0 s1 s2 s3 s4 s5 s6 s7 s8).mono fun e W' ⟨he, bel⟩ => ?_
 subst he
 exact ⟨_, rfl, _, _, _, [], _, [], hW', trodAll_mk1 (shut_bool Tryz.underlying4 _), (trodAll_cons_mk (Below.trod laidOut (by kernel_rfl) (of_decide_eq_true (by kernel_rfl)) k0 bel lt0) (trodAll_cons_mk (Below.trod laidOut (by kernel_rfl) (of_decide_eq_true (by kernel_rfl)) k1 bel lt1) (trodAll_cons_mk (Below.trod laidOut (by kernel_rfl) (of_decide_eq_true (by kernel_rfl)) k2 bel lt2) (trodAll_cons_mk (Below.trod laidOut (by kernel_rfl) (of_decide_eq_true (by kernel_rfl)) k3 bel lt3) (trodAll_cons_mk (Below.trod laidOut (by kernel_rfl) (of_decide_eq_true (by kernel_rfl)) k4 bel lt4) (trodAll_cons_mk (Below.trod laidOut (by kernel_rfl) (of_decide_eq_true (by kernel_rfl)) k5 bel lt5) (trodAll_cons_mk (Below.trod laidOut (by kernel_rfl) (of_decide_eq_true (by kernel_rfl)) k6 bel lt6) (trodAll_cons_mk (Below.trod laidOut (by kernel_rfl) (of_decide_eq_true (by kernel_rfl)) k7 bel lt7) (trodAll_cons_mk (Below.trod laidOut (by kernel_rfl) (of_decide_eq_true (by kernel_rfl)) k8 bel lt8) trodAll_mk0))))))))), rfl, bel.frame _, fun h => by cases h⟩
theorem over : Rows.wholeFaultsRow.holds Tryz.pinned (OpenSpec.ofChange Rows.wholeFaultsSpec) :=
 OpenClaim.holds_of_wide 3 Tryz.f3 rfl rfl rfl rfl rfl rfl rfl ⟨rfl, rfl, rfl, rfl, rfl⟩ rfl rfl rfl rfl rfl (by kernel_rfl) Tryz.func3 (by kernel_rfl)
  (of_decide_eq_true (by kernel_rfl)) (by unfold Func.isWrapper; first | (rw [if_pos (by decide +kernel)]; kernel_rfl) | (rw [if_neg (by decide +kernel)]; exact ⟨rfl, rfl⟩))
  (fun os started H enc _ => lifted os started H enc)
theorem wholeFaults_holds : Rows.WholeFaultsSaid := over
end Go.Proofs.YtekjehbkmlodmaaGreat.lawWholeFaults
