/-
  The walks of the document's answers for a field by halves: how many cells are looked at.
-/
import Derived.Test.YtoaagemofjddiaaPyrR2
namespace Go.Proofs.Ytoaagemofjddiaa
open Go.RowKit
set_option linter.unusedVariables false
namespace Pyr

theorem quiet_eq {P : Program} {f : FuncId} {args : Array Value} {w : World} {n : Nat} {v : Value} (h : Calls P f args (w.drewN n) fun e w' => e = .returned v ∧ w.drewN n = w') : Calls P f args (w.drewN n) fun e w'' => e = .returned v ∧ ∃ m, w'' = w.drewN m :=
  h.mono fun _ _ ⟨he, hm⟩ => ⟨he, n, hm.symm⟩
theorem square_eq {W H k x y s : Nat} (hs : s = 2 ^ k) : square W H ⟨k, x, y⟩ = ⟨(x : Int) * (s : Int), (y : Int) * (s : Int), endv x s W, endv y s H⟩ := by
  subst hs
  rfl
theorem seen_le {W H top : Nat} (b : Bo) (hT : IsTop W H top) (hW : 0 < W) (hH : 0 < H) (hW2 : W ≤ 256) (hH2 : H ≤ 256) : 1 + seenTo W H b top ≤ 390625 := by
  have h1 : side W top = 1 := by have := hT.w; have := side_pos hW top; omega
  have h2 : side H top = 1 := by have := hT.h; have := side_pos hH top; omega
  rw [← vis_top h1 h2]
  exact Nat.le_trans (vis_le W H b top 0 0) (Nat.pow_le_pow_right (by decide) (hT.le hW2 hH2))
theorem seenTo_mono (W H : Nat) (b : Bo) : ∀ {k top : Nat}, k ≤ top → seenTo W H b k ≤ seenTo W H b top
  | k, 0, h => by obtain rfl : k = 0 := by omega
                  exact Nat.le_refl _
  | k, top + 1, h => by
    by_cases e : k = top + 1
    · subst e; exact Nat.le_refl _
    · have := seenTo_mono W H b (k := k) (top := top) (by omega)
      simp only [seenTo]
      omega
/-- the box of the field, on the way -/
structure HB (w : World) (W H n cap : Nat) (A : Option Addr) (wr : World) : Prop where
  box : Blk wr w.heap.size 24 [.int .i64 (W : Int), .int .i64 (H : Int), .slice A n cap]
  below : Below w.heap.size w wr
theorem HB.drewN {w wr : World} {W H n cap : Nat} {A : Option Addr} (S : HB w W H n cap A wr) (q : Nat) : HB w W H n cap A (wr.drewN q) := ⟨S.box.drewN q, below_drewN S.below q⟩
set_option maxRecDepth 100000 in
set_option maxHeartbeats 20000000 in
theorem qseen_any (W H top n cap : Nat) (A : Option Addr) (w : World) (hT : IsTop W H top) (hW : 0 < W) (hH : 0 < H) (hW2 : W ≤ 256) (hH2 : H ≤ 256) (b : Bo) :
    Calls Try.prog 25 #[.agg #[.int .i64 (W : Int), .int .i64 (H : Int), .slice A n cap], .int .i64 b.x0, .int .i64 b.y0, .int .i64 b.x1, .int .i64 b.y1] w fun e w' => e = .returned (.int .i64 ((1 + seenTo W H b top : Nat) : Int)) ∧ Below w.heap.size w w' := by
  have htop := hT.le hW2 hH2
  have hle := seen_le b hT hW hH hW2 hH2
  have hlv := fun X => qlevels_any W H top hT hW2 hH2 X
  have hsd := fun m (hm : m ≤ 256) k (hk : k ≤ 8) => qside_any m k (by omega) (by omega)
  have S0 := Lib.hid (HB.mk (w := w) (A := A) (cap := cap) (n := n) (Blk.mk w 24 [.int .i64 (W : Int), .int .i64 (H : Int), .slice A n cap]) (_root_.Go.Proofs.Ytoaagemofjddiaa.bl _ _))
  have HLe := Lib.hid hle
  have HSd := Lib.hid hsd
  obtain ⟨T, hTt⟩ : ∃ T, T = 1 + seenTo W H b top := ⟨_, rfl⟩
  rw [← hTt]
  have HTt := Lib.hid hTt
  have hTle : T ≤ 390625 := by omega
  clear hT hle hsd hTt
  obtain ⟨pt, hpt⟩ : ∃ pt, pt = partly W H b := ⟨_, rfl⟩
  have hpq : ∀ k x y, pt ⟨k, x, y⟩ = (!(apart (square W H ⟨k, x, y⟩) b) && !(inside (square W H ⟨k, x, y⟩) b)) := fun k x y => by rw [hpt]; rfl
  have hdp : ∀ k x y, dp W H b ⟨k, x, y⟩ = if pt ⟨k, x, y⟩ = true then (subs W H ⟨k, x, y⟩).length else 0 := fun k x y => by rw [hpt]; rfl
  have HPq := Lib.hid hpq
  have HDp := Lib.hid hdp
  clear hpt hpq hdp
  obtain ⟨b0, b1, b2, b3⟩ := b
  have e0 : (w.alloc (.cells #[.int .i64 (W : Int), .int .i64 (H : Int), .slice A n cap] 24)).cell? ⟨w.heap.size, 0, Option.none⟩ = some (.int .i64 (W : Int)) := S0.out.box.cell 0
  have e1 : (w.alloc (.cells #[.int .i64 (W : Int), .int .i64 (H : Int), .slice A n cap] 24)).cell? ⟨w.heap.size, 1, Option.none⟩ = some (.int .i64 (H : Int)) := S0.out.box.cell 1
  go_enter Try.func25, Try.ntmps25
  go_wp2_with fail
  refine (hlv _).mono ?_
  rintro e w1 ⟨rfl, rfl⟩
  clear hlv
  go_wp2
  go_loopw [11, 13] (fun nn l wr => ∃ (N k : Nat), k ≤ top ∧ l = .int .i64 (k : Int) ∧ nn = .int .i64 (N : Int) ∧ N + seenTo W H ⟨b0, b1, b2, b3⟩ k = T ∧ HB w W H n cap A wr) (fun _ l _ => (intOf l).toNat)
  case atStart => exact ⟨1, top, Nat.le_refl _, rfl, rfl, HTt.out.symm, S0.out⟩
  case round =>
    clear S0 e0 e1
    obtain ⟨N, k, hk, rfl, rfl, hN, S⟩ := hrel
    have HN := Lib.hid hN
    have hNl : N ≤ 390625 := by omega
    clear hN
    by_cases hk0 : 0 < k
    · have hk0I : 0 < (k : Int) := by omega
      obtain ⟨s, hs⟩ : ∃ s, s = 2 ^ k := ⟨_, rfl⟩
      have hsl : s ≤ 256 := by rw [hs]; exact Nat.pow_le_pow_right (n := 2) (i := k) (j := 8) (by decide) (by omega)
      have hpow := fun X => qpow_any k s hs (by omega) X
      have hsq := fun x y => square_eq (W := W) (H := H) (k := k) (x := x) (y := y) hs
      have HSq := Lib.hid hsq
      have HPow := Lib.hid hpow
      have HS := Lib.hid S
      have hsW := HSd.out W hW2 k (by omega)
      have hsH := HSd.out H hH2 k (by omega)
      have hsW1 := HSd.out W hW2 (k - 1) (by omega)
      have hsH1 := HSd.out H hH2 (k - 1) (by omega)
      have a1 := side_self2 W k
      have a2 := side_self2 H k
      have a3 := side_self2 W (k - 1)
      have a4 := side_self2 H (k - 1)
      have hokc : ∀ x y i, okP W H (cand ⟨k, x, y⟩ i) = (decide (2 * x + i % 2 < side W (k - 1)) && decide (2 * y + i / 2 < side H (k - 1))) := fun x y i => rfl
      obtain ⟨W0, hW0⟩ : ∃ W0, W0 = side W k := ⟨_, rfl⟩
      obtain ⟨H0, hH0⟩ : ∃ H0, H0 = side H k := ⟨_, rfl⟩
      obtain ⟨W1, hW1⟩ : ∃ W1, W1 = side W (k - 1) := ⟨_, rfl⟩
      obtain ⟨H1, hH1⟩ : ∃ H1, H1 = side H (k - 1) := ⟨_, rfl⟩
      rw [← hW0] at hsW a1
      rw [← hH0] at hsH a2
      rw [← hW1] at hsW1 a3
      rw [← hH1] at hsH1 a4
      rw [← hW1, ← hH1] at hokc
      have hseen : seenTo W H ⟨b0, b1, b2, b3⟩ k = (sm H0 fun y => sm W0 fun x => dp W H ⟨b0, b1, b2, b3⟩ ⟨k, x, y⟩) + seenTo W H ⟨b0, b1, b2, b3⟩ (k - 1) := by
        rw [hW0, hH0]
        obtain ⟨k', rfl⟩ : ∃ k', k = k' + 1 := ⟨k - 1, by omega⟩
        rfl
      have HSeen := Lib.hid hseen
      have HOk := Lib.hid hokc
      obtain ⟨km, hkm⟩ : ∃ km, km = k - 1 := ⟨_, rfl⟩
      rw [← hkm] at hsW1 hsH1 HSeen
      have hkI : (k : Int) - 1 = (km : Int) := by omega
      have ykm : IntKind.i64.wrap ((k : Int) - 1) = (km : Int) := by rw [hkI]; exact IntWalk.i64_in _ (by omega)
      have HSW := Lib.hid hsW
      have HSH := Lib.hid hsH
      have HSW1 := Lib.hid hsW1
      have HSH1 := Lib.hid hsH1
      have hkml : km < k := by omega
      clear S hs hpow hsq hsW hsH hsW1 hsH1 hW0 hH0 hW1 hH1 hokc hseen hkm
      go_wp2_with fail
      refine (HPow.out _).mono ?_
      rintro e w1 ⟨rfl, rfl⟩
      go_wp2
      go_loopw [11, 15] (fun nn l wr' => ∃ (M y : Nat), y ≤ H0 ∧ l = .int .i64 (y : Int) ∧ nn = .int .i64 (M : Int) ∧ M = N + (sm y fun y => sm W0 fun x => dp W H ⟨b0, b1, b2, b3⟩ ⟨k, x, y⟩) ∧ M ≤ 390625 + 1024 * y ∧ HB w W H n cap A wr') (fun _ l _ => H0 - (intOf l).toNat)
      case atStart => exact ⟨N, 0, Nat.zero_le _, rfl, rfl, rfl, by omega, HS.out⟩
      case round =>
        clear HS
        obtain ⟨M, y, hy, rfl, rfl, hM, hMl, S⟩ := hrel
        have HM := Lib.hid hM
        have HS := Lib.hid S
        have e0 : wr.cell? ⟨w.heap.size, 0, Option.none⟩ = some (.int .i64 (W : Int)) := S.box.cell 0
        have e1 : wr.cell? ⟨w.heap.size, 1, Option.none⟩ = some (.int .i64 (H : Int)) := S.box.cell 1
        clear S hM
        by_cases hyl : y < H0
        · have hylI : (y : Int) < (H0 : Int) := by omega
          go_wp2_with fail
          refine (HSH.out _).mono ?_
          rintro e w1 ⟨rfl, rfl⟩
          go_wp2
          go_loopw [11, 16] (fun nn l wr' => ∃ (M2 x : Nat), x ≤ W0 ∧ l = .int .i64 (x : Int) ∧ nn = .int .i64 (M2 : Int) ∧ M2 = M + (sm x fun x => dp W H ⟨b0, b1, b2, b3⟩ ⟨k, x, y⟩) ∧ M2 ≤ 390625 + 1024 * y + 4 * x ∧ HB w W H n cap A wr') (fun _ l _ => W0 - (intOf l).toNat)
          case atStart => exact ⟨M, 0, Nat.zero_le _, rfl, rfl, rfl, by omega, HS.out⟩
          case round =>
            clear HS e0 e1
            obtain ⟨M2, x, hx, rfl, rfl, hM2, hM2l, S⟩ := hrel
            have HM2 := Lib.hid hM2
            have HS := Lib.hid S
            have e0 : wr.cell? ⟨w.heap.size, 0, Option.none⟩ = some (.int .i64 (W : Int)) := S.box.cell 0
            have e1 : wr.cell? ⟨w.heap.size, 1, Option.none⟩ = some (.int .i64 (H : Int)) := S.box.cell 1
            clear S hM2
            by_cases hxl : x < W0
            · have hxlI : (x : Int) < (W0 : Int) := by omega
              have mx : (x : Int) * (s : Int) = ((x * s : Nat) : Int) := (Int.natCast_mul _ _).symm
              have my : (y : Int) * (s : Int) = ((y * s : Nat) : Int) := (Int.natCast_mul _ _).symm
              have mxl : x * s ≤ 256 * 256 := Nat.mul_le_mul (by omega) hsl
              have myl : y * s ≤ 256 * 256 := Nat.mul_le_mul (by omega) hsl
              have hsq := HSq.out x y
              have hpq := HPq.out k x y
              have hdp := HDp.out k x y
              rw [hsq, mx, my] at hpq
              generalize x * s = xs at *
              generalize y * s = ys at *
              have y1 : IntKind.i64.wrap ((x : Int) * (s : Int)) = (xs : Int) := by rw [mx]; exact IntWalk.i64_in _ (by omega)
              have y2 : IntKind.i64.wrap ((y : Int) * (s : Int)) = (ys : Int) := by rw [my]; exact IntWalk.i64_in _ (by omega)
              have y3 : IntKind.i64.wrap (2 * (x : Int)) = 2 * (x : Int) := IntWalk.i64_in _ (by omega)
              have y4 : IntKind.i64.wrap (2 * (y : Int)) = 2 * (y : Int) := IntWalk.i64_in _ (by omega)
              have q1 := fun X => qend_any x s W (by omega) (by omega) (by omega) X
              have q2 := fun X => qend_any y s H (by omega) (by omega) (by omega) X
              have q3 := fun X => qpartly_any ⟨(xs : Int), (ys : Int), endv x s W, endv y s H⟩ ⟨b0, b1, b2, b3⟩ X
              rw [← hpq] at q3
              generalize endv x s W = ex at *
              generalize endv y s H = ey at *
              dsimp only at q3
              have hbnd := subsK_len W H ⟨k, x, y⟩ 4
              rw [subs_K] at hbnd
              clear hsq hpq
              cases hp : pt ⟨k, x, y⟩ with
              | false =>
                rw [hp] at q3 hdp
                rw [if_neg (by simp)] at hdp
                have HDpv := Lib.hid hdp
                clear hdp hp
                go_wp2_with fail
                refine (HSW.out _).mono ?_
                rintro e w1 ⟨rfl, rfl⟩
                go_wp2_with fail
                go_quiet (first | (go_at_call 45; with_reducible exact quiet_eq (q1 _)) | (go_at_call 45; with_reducible exact quiet_eq (q2 _)) | (go_at_call 50; with_reducible exact quiet_eq (q3 _)))
                clear q1 q2 q3
                go_wp2
                go_roundw
                case rel => exact ⟨M2, x + 1, by omega, by go_num, rfl, by rw [HM2.out]; show _ = M + (sm x (fun x => dp W H ⟨b0, b1, b2, b3⟩ ⟨k, x, y⟩) + dp W H ⟨b0, b1, b2, b3⟩ ⟨k, x, y⟩); rw [HDpv.out]; rfl, by omega, HS.out.drewN _⟩
                case measure => simp [intOf]; omega
              | true =>
                rw [hp] at q3 hdp
                rw [if_pos rfl, ← subs_K] at hdp
                have HDpv := Lib.hid hdp
                clear hdp hp
                go_wp2_with fail
                refine (HSW.out _).mono ?_
                rintro e w1 ⟨rfl, rfl⟩
                go_wp2_with fail
                go_quiet (first | (go_at_call 45; with_reducible exact quiet_eq (q1 _)) | (go_at_call 45; with_reducible exact quiet_eq (q2 _)) | (go_at_call 50; with_reducible exact quiet_eq (q3 _)))
                clear q1 q2 q3
                have HS2 := Lib.hid (HS.out.drewN nq)
                go_wp2
                clear HS e0 e1
                go_loopw [11, 17] (fun nn l wr' => ∃ (M3 i : Nat), i ≤ 4 ∧ l = .int .i64 (i : Int) ∧ nn = .int .i64 (M3 : Int) ∧ M3 = M2 + (subsK W H ⟨k, x, y⟩ i).length ∧ M3 ≤ 390625 + 1024 * y + 4 * x + i ∧ HB w W H n cap A wr') (fun _ l _ => 4 - (intOf l).toNat)
                case atStart => exact ⟨M2, 0, Nat.zero_le _, rfl, rfl, rfl, by omega, HS2.out⟩
                case round =>
                  clear HS2
                  obtain ⟨M3, i, hi, rfl, rfl, hM3, hM3l, S⟩ := hrel
                  have HM3 := Lib.hid hM3
                  have HS := Lib.hid S
                  have e0 : wr.cell? ⟨w.heap.size, 0, Option.none⟩ = some (.int .i64 (W : Int)) := S.box.cell 0
                  have e1 : wr.cell? ⟨w.heap.size, 1, Option.none⟩ = some (.int .i64 (H : Int)) := S.box.cell 1
                  clear S hM3
                  by_cases hil : i < 4
                  · have hilI : (i : Int) < 4 := by omega
                    have hsn := subsK_snoc W H ⟨k, x, y⟩ i
                    rw [HOk.out x y i] at hsn
                    obtain ⟨r, hr⟩ : ∃ r, r = i % 2 := ⟨_, rfl⟩
                    obtain ⟨q, hq⟩ : ∃ q, q = i / 2 := ⟨_, rfl⟩
                    rw [← hr, ← hq] at hsn
                    have z1 : (i : Int).tmod 2 = (r : Int) := by rw [Int.tmod_eq_emod_of_nonneg (by omega)]; omega
                    have z2 : (i : Int).tdiv 2 = (q : Int) := by rw [Int.tdiv_eq_ediv_of_nonneg (by omega)]; omega
                    have z3 : (i : Int) % 2 = (r : Int) := by omega
                    have z4 : (i : Int) / 2 = (q : Int) := by omega
                    have z5 : IntKind.i64.wrap (r : Int) = (r : Int) := IntWalk.i64_in _ (by omega)
                    have z6 : IntKind.i64.wrap (q : Int) = (q : Int) := IntWalk.i64_in _ (by omega)
                    have z7 : IntKind.i64.wrap (2 * (x : Int) + (r : Int)) = 2 * (x : Int) + (r : Int) := IntWalk.i64_in _ (by omega)
                    have z8 : IntKind.i64.wrap (2 * (y : Int) + (q : Int)) = 2 * (y : Int) + (q : Int) := IntWalk.i64_in _ (by omega)
                    have HSn := Lib.hid hsn
                    clear hsn hr hq
                    by_cases h1 : 2 * x + r < W1
                    · have d1 : decide (2 * (x : Int) + (r : Int) < (W1 : Int)) = true := decide_eq_true (by omega)
                      by_cases h2 : 2 * y + q < H1
                      · have d2 : decide (2 * (y : Int) + (q : Int) < (H1 : Int)) = true := decide_eq_true (by omega)
                        have hsn2 : (subsK W H ⟨k, x, y⟩ (i + 1)).length = (subsK W H ⟨k, x, y⟩ i).length + 1 := by
                          rw [HSn.out, decide_eq_true h1, decide_eq_true h2]
                          simp
                        have HSn2 := Lib.hid hsn2
                        clear hsn2
                        go_wp2_with fail
                        refine (HSW1.out _).mono ?_
                        rintro e w1 ⟨rfl, rfl⟩
                        go_wp2_with fail
                        refine (HSH1.out _).mono ?_
                        rintro e w1 ⟨rfl, rfl⟩
                        go_wp2
                        go_roundw
                        case rel => exact ⟨M3 + 1, i + 1, by omega, by go_num, by go_num, by rw [HSn2.out, HM3.out]; omega, by omega, HS.out⟩
                        case measure => simp [intOf]; omega
                      · have d2 : decide (2 * (y : Int) + (q : Int) < (H1 : Int)) = false := decide_eq_false (by omega)
                        have hsn2 : (subsK W H ⟨k, x, y⟩ (i + 1)).length = (subsK W H ⟨k, x, y⟩ i).length := by
                          rw [HSn.out, decide_eq_true h1, decide_eq_false h2]
                          simp
                        have HSn2 := Lib.hid hsn2
                        clear hsn2
                        go_wp2_with fail
                        refine (HSW1.out _).mono ?_
                        rintro e w1 ⟨rfl, rfl⟩
                        go_wp2_with fail
                        refine (HSH1.out _).mono ?_
                        rintro e w1 ⟨rfl, rfl⟩
                        go_wp2
                        go_roundw
                        case rel => exact ⟨M3, i + 1, by omega, by go_num, rfl, by rw [HSn2.out, HM3.out], by omega, HS.out⟩
                        case measure => simp [intOf]; omega
                    · have d1 : decide (2 * (x : Int) + (r : Int) < (W1 : Int)) = false := decide_eq_false (by omega)
                      have hsn2 : (subsK W H ⟨k, x, y⟩ (i + 1)).length = (subsK W H ⟨k, x, y⟩ i).length := by
                        rw [HSn.out, decide_eq_false h1]
                        simp
                      have HSn2 := Lib.hid hsn2
                      clear hsn2
                      go_wp2_with fail
                      refine (HSW1.out _).mono ?_
                      rintro e w1 ⟨rfl, rfl⟩
                      go_wp2
                      go_roundw
                      case rel => exact ⟨M3, i + 1, by omega, by go_num, rfl, by rw [HSn2.out, HM3.out], by omega, HS.out⟩
                      case measure => simp [intOf]; omega
                  · obtain rfl : i = 4 := by omega
                    go_wp2
                    go_roundw
                    case rel => exact ⟨M3, x + 1, by omega, by go_num, rfl, by rw [HM3.out, HM2.out, ← HDpv.out]; exact Nat.add_assoc _ _ _, by omega, HS.out⟩
                    case measure => simp [intOf]; omega
            · obtain rfl : x = W0 := by omega
              have hge : ¬ (x : Int) < (x : Int) := by omega
              go_wp2_with fail
              refine (HSW.out _).mono ?_
              rintro e w1 ⟨rfl, rfl⟩
              go_wp2
              go_roundw
              case rel => exact ⟨M2, y + 1, by omega, by go_num, rfl, by rw [HM2.out, HM.out]; exact Nat.add_assoc _ _ _, by omega, HS.out⟩
              case measure => simp [intOf]; omega
        · obtain rfl : y = H0 := by omega
          have hge : ¬ (y : Int) < (y : Int) := by omega
          go_wp2_with fail
          refine (HSH.out _).mono ?_
          rintro e w1 ⟨rfl, rfl⟩
          go_wp2
          go_roundw
          case rel => exact ⟨M, km, by omega, by go_num, rfl, by rw [HM.out, ← HN.out, HSeen.out]; omega, HS.out⟩
          case measure => simp [intOf]; omega
    · obtain rfl : k = 0 := by omega
      have hN : N = T := by have := HN.out; simpa [seenTo] using this
      have HN2 := Lib.hid hN
      have HS := Lib.hid S
      clear S hN
      go_wp2
      go_ret
      exact ⟨by rw [HN2.out]; rfl, HS.out.below⟩
end Pyr
end Go.Proofs.Ytoaagemofjddiaa
