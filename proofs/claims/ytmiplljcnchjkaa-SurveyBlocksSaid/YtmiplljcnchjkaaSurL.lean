/-
  The law SurveyBlocks, walked.
-/
import Derived.Test.YtmiplljcnchjkaaSurH
import Derived.Deep.RegionHeld3
namespace Go.Proofs.Ytmiplljcnchjkaa
open Go.RowKit
set_option linter.unusedVariables false
namespace Sur
theorem lawBlocks_out (a b : Nat) (A A2 : Option Addr) (m cap m2 cap2 : Nat) (gW gH : Int) (h : 2000 < m ∨ 1000 < m2) (w : World) :
    Calls Try.prog 8 #[.int .u8 (a : Int), .int .u8 (b : Int), .slice A m cap, .agg #[.int .i64 gW, .int .i64 gH, .slice A2 m2 cap2]] w fun e w' => e = .returned (.bool true) ∧ Below w.heap.size w w' := by
  by_cases h1 : 2000 < m
  · have d1 : decide (2000 < (m : Int)) = true := decide_eq_true (by omega)
    clear h
    go_enter Try.func8, Try.ntmps8
    go_wp2_with fail
    refine (works38_any _).mono ?_
    rintro e w1 ⟨rfl, hb⟩
    go_wp2_with fail
    go_ret
    exact ⟨rfl, bt (_root_.Go.Proofs.Ytmiplljcnchjkaa.bl _ _) hb⟩
  · have d1 : decide (2000 < (m : Int)) = false := decide_eq_false (by omega)
    have d2 : decide (1000 < (m2 : Int)) = true := decide_eq_true (by omega)
    clear h
    go_enter Try.func8, Try.ntmps8
    go_wp2_with fail
    refine (works38_any _).mono ?_
    rintro e w1 ⟨rfl, hb⟩
    go_wp2_with fail
    go_ret
    exact ⟨rfl, bt (_root_.Go.Proofs.Ytmiplljcnchjkaa.bl _ _) hb⟩
theorem gb_any (gW gH : Int) (A2 : Option Addr) (Z2 : List Int) (m2 cap2 lo hh : Nat) (X : World) (hrd : RdL X lo hh A2 (Z2.map z16)) (hhi : hh ≤ X.heap.size) (hl : Z2.length = m2) (hm : m2 ≤ 1000) (hz : InZ Z2) :
    Calls Try.prog 34 #[.agg #[.int .i64 gW, .int .i64 gH, .slice A2 m2 cap2]] X fun e w' => ∃ v k ck, e = .returned (.tuple #[.slice v k ck, .int .i64 (codeH gW gH m2)]) ∧ (codeH gW gH m2 ≠ 0 → k = 0) ∧ Below X.heap.size X w' := by
  by_cases hc : codeH gW gH m2 = 0
  · obtain ⟨h1, h2, h3, h4, h5⟩ := codeH_zero hc
    obtain ⟨W, rfl⟩ : ∃ W : Nat, gW = (W : Int) := ⟨gW.toNat, by omega⟩
    obtain ⟨H, rfl⟩ : ∃ H : Nat, gH = (H : Int) := ⟨gH.toNat, by omega⟩
    refine (blocks_ok W H (by omega) (by omega) (by omega) (by omega) A2 Z2 m2 cap2 lo hh X hrd hhi hl (by rw [← Int.natCast_mul] at h5; omega) hz).mono ?_
    rintro e w' ⟨hb, v, rfl, ho⟩
    obtain ⟨Av, cv, rfl, _⟩ := own_rd ho
    rw [hc]
    exact ⟨_, _, _, rfl, fun h => absurd rfl h, hb⟩
  · refine (blocks_bad gW gH A2 m2 cap2 X (by unfold maxLen; omega) hc).mono ?_
    rintro e w' ⟨rfl, hb⟩
    exact ⟨_, _, _, rfl, fun _ => rfl, hb⟩
set_option maxRecDepth 100000 in
set_option maxHeartbeats 2000000 in
theorem lawBlocks_core (a b : Nat) (ha : a < 256) (hb : b < 256) (A A2 : Option Addr) (Z Z2 : List Int) (m cap m2 cap2 : Nat) (gW gH : Int) (w : World) (hrd : RdL w 0 w.heap.size A (Z.map z16)) (hl : Z.length = m) (hcap : m ≤ cap) (hz : InZ Z)
    (hrd2 : RdL w 0 w.heap.size A2 (Z2.map z16)) (hl2 : Z2.length = m2) (hz2 : InZ Z2) (h : ¬ (2000 < m ∨ 1000 < m2)) :
    Calls Try.prog 8 #[.int .u8 (a : Int), .int .u8 (b : Int), .slice A m cap, .agg #[.int .i64 gW, .int .i64 gH, .slice A2 m2 cap2]] w fun e w' => e = .returned (.bool true) ∧ Below w.heap.size w w' := by
  have d1 : decide (2000 < (m : Int)) = false := decide_eq_false (by omega)
  have d2 : decide (1000 < (m2 : Int)) = false := decide_eq_false (by omega)
  have hb0 := Blk.mk w 53 [.int .i64 gW, .int .i64 gH, .slice A2 m2 cap2]
  have hbx := _root_.Go.Proofs.Ytmiplljcnchjkaa.bl w (.cells #[.int .i64 gW, .int .i64 gH, .slice A2 m2 cap2] 53)
  have hgb := gb_any gW gH A2 Z2 m2 cap2 0 w.heap.size _ (hrd2.alloc (.cells #[.int .i64 gW, .int .i64 gH, .slice A2 m2 cap2] 53)) hbx.size hl2 (by omega) hz2
  have hck := fun X => hcheck_any gW gH A2 m2 cap2 X (by unfold maxLen; omega)
  have hFl := fun X hX hx => field_any a b ha hb A Z m cap 0 w.heap.size X hX hl (by omega) hcap hz hx
  have hFz := fieldL_in a b hz
  have HCk := Lib.hid hck
  have HB0 := Lib.hid hb0
  have HBx := Lib.hid hbx
  have HRd := Lib.hid hrd
  have hWl := fieldW_le a
  have hHl := fieldW_le b
  have hLl := fieldL_len a b Z
  generalize fieldL a b Z = F at *
  generalize fieldW a = W at *
  generalize fieldW b = H at *
  have HFl := Lib.hid hFl
  have HFz := Lib.hid hFz
  have HLl := Lib.hid hLl
  clear h hrd2 hl2 hck hb0 hbx hrd hl hz hFl hz2 hFz hLl
  go_enter Try.func8, Try.ntmps8
  go_upto_region 3 with fail
  go_cut [9, 10] (fun s9 s10 wx => ∃ c v k ck, c = codeH gW gH m2 ∧ s9 = .slice v k ck ∧ s10 = .int .i64 c ∧ (c ≠ 0 → k = 0) ∧ Blk wx w.heap.size 53 [.int .i64 gW, .int .i64 gH, .slice A2 m2 cap2] ∧ Below w.heap.size w wx)
  case first =>
    go_wp2_with fail
    refine hgb.mono ?_
    rintro e w1 ⟨v, k, ck, rfl, hk, hb⟩
    have h1 := Lib.hid (HB0.out.next hb)
    have h2 := Lib.hid (bt HBx.out hb)
    have h3 := Lib.hid hk
    clear hk hb
    go_wp2_with fail
    go_meet
    exact ⟨_, v, k, ck, rfl, rfl, rfl, h3.out, h1.out, h2.out⟩
  case rest =>
    clear hgb HB0 HBx
    obtain ⟨c, v9, k9, c9, hc, rfl, rfl, hk9, hb1, hk1⟩ := hcut
    have hck := HCk.out wc
    rw [← hc] at hck
    have e0 : wc.cell? ⟨w.heap.size, 0, none⟩ = some (.int .i64 gW) := hb1.cell 0
    have e1 : wc.cell? ⟨w.heap.size, 1, none⟩ = some (.int .i64 gH) := hb1.cell 1
    have e2 : wc.cell? ⟨w.heap.size, 2, none⟩ = some (.slice A2 m2 cap2) := hb1.cell 2
    have HK1 := Lib.hid hk1
    clear hc hb1 hk1 HCk
    go_step
    go_step
    go_cut [] (fun wx => Below w.heap.size w wx)
    case first =>
      have hcc : (c != c) = false := by rw [bne_eq_false_iff_eq]
      by_cases hc0 : c = 0
      · subst hc0
        clear hk9
        go_wp2_with fail
        refine hck.mono ?_
        rintro e w2 ⟨rfl, hb2⟩
        have HB2 := Lib.hid (bt HK1.out hb2)
        clear hb2 hck
        go_wp2_with fail
        go_meet
        exact HB2.out
      · have hcd : (c != 0) = true := by rw [bne_iff_ne]; exact hc0
        have hk0 := hk9 hc0
        subst hk0
        clear hk9 hc0
        go_wp2_with fail
        refine hck.mono ?_
        rintro e w2 ⟨rfl, hb2⟩
        have HB2 := Lib.hid (bt HK1.out hb2)
        clear hb2 hck
        go_wp2_with fail
        go_meet
        exact HB2.out
    case rest =>
      obtain ⟨wp, rfl⟩ : ∃ wp : World, wp = wc := ⟨_, rfl⟩
      clear e0 e1 e2 hck hk9 HK1
      have hrp := HRd.out.next hcut
      have hfd := HFl.out wp hrp hcut.size
      have HKP := Lib.hid hcut
      clear hrp hcut HFl HRd
      unfold GotH at hfd
      obtain ⟨fa, hfa⟩ : ∃ x, x = sd W := ⟨_, rfl⟩
      obtain ⟨fb, hfb⟩ : ∃ x, x = sd H := ⟨_, rfl⟩
      have ha1 : 1 ≤ fa ∧ fa ≤ 5 := by rw [hfa]; unfold sd; omega
      have hb1 : 1 ≤ fb ∧ fb ≤ 5 := by rw [hfb]; unfold sd; omega
      obtain ⟨mm, hmm⟩ : ∃ x, x = fa * fb := ⟨_, rfl⟩
      have hml : mm ≤ 5 * 5 := by rw [hmm]; exact Nat.mul_le_mul ha1.2 hb1.2
      have v9 : IntKind.i64.wrap ((fa : Int) * (fb : Int)) = (mm : Int) := by rw [← Int.natCast_mul, ← hmm]; exact IntWalk.i64_in _ (by omega)
      obtain ⟨n, hn⟩ : ∃ n, n = F.length := ⟨_, rfl⟩
      have hn2 : n = W * H := hn.trans HLl.out
      have hnl : n ≤ 40 * 40 := by rw [hn2]; exact Nat.mul_le_mul hWl.2 hHl.2
      have HN := Lib.hid hn
      have HN2 := Lib.hid hn2
      have HFA := Lib.hid hfa
      have HFB := Lib.hid hfb
      have HMM := Lib.hid hmm
      rw [← hn] at hfd
      clear hfa hfb hmm hn hn2
      go_wp2_with fail
      refine hfd.mono ?_
      clear hfd
      rintro e w1 ⟨v, rfl, hown, hbf⟩
      obtain ⟨Af, cf, rfl, hrf, hcf, hmf, hAf⟩ := own_rd hown
      have hs1 := hbf.size
      have hbk := blocks_ok W H (by omega) (by omega) (by omega) (by omega) Af F n cf wp.heap.size w1.heap.size _ (hrf.alloc (.cells #[.int .i64 (W : Int), .int .i64 (H : Int), .slice Af n cf] 53)) (by simp) HN.out.symm HN2.out HFz.out
      have HRF := Lib.hid hrf
      have HBF := Lib.hid (bt HKP.out hbf)
      clear hown hrf hcf hmf hAf
      have HFX := Lib.hid (Blk.mk w1 53 [.int .i64 (W : Int), .int .i64 (H : Int), .slice Af n cf])
      go_wp2_with fail
      refine hbk.mono ?_
      clear hbk
      rintro e w2 ⟨hb2, vb, rfl, hob⟩
      obtain ⟨Al, cl, rfl, hrl, _, _, _⟩ := own_rd hob
      have hmm2 : sd W * sd H = mm := by rw [HMM.out, HFA.out, HFB.out]
      rw [hmm2]
      have hsq := cntT_end (W := W) (H := H) (by omega) F
      have hin := cntT_in (W := W) (H := H) (by omega) HFz.out
      rw [hmm2, ← HN2.out] at hsq
      rw [← HN2.out] at hin
      have HSQ := Lib.hid hsq
      have HIN := Lib.hid hin
      have hbl : blocksL W H F = (List.range mm).map (sqOf W H F) := by unfold blocksL; rw [hmm2]
      obtain ⟨L, hL⟩ : ∃ L, L = blocksL W H F := ⟨_, rfl⟩
      rw [← hL] at hrl hbl
      have HL := Lib.hid hbl
      have HS : Hid (LB w w1.heap.size wp.heap.size w1.heap.size W H n cf Af F (w1.heap.size + 1 + 1) w2.heap.size Al L w2) := Lib.hid (by
        have hb3 := bt (_root_.Go.Proofs.Ytmiplljcnchjkaa.bl w1 (.cells #[.int .i64 (W : Int), .int .i64 (H : Int), .slice Af n cf] 53)) hb2
        refine ⟨HFX.out.next hb2, HRF.out.next hb3, ?_, bt HBF.out hb3, hb3.size⟩
        simpa using hrl)
      clear hb2 hob hrl hmm2 hsq hin hbl hL HFX HRF HBF HKP HMM hs1 hbf
      go_upto_region 8 with fail
      go_cut [13, 14] (fun s13 s14 wx => s13 = .int .i64 (fa : Int) ∧ s14 = .int .i64 (fb : Int) ∧ ∃ q, wx = w2.drewN q)
      case first =>
        have x0 : w2.cell? ⟨w1.heap.size, 0, none⟩ = some (.int .i64 (W : Int)) := HS.out.box.cell 0
        have x1 : w2.cell? ⟨w1.heap.size, 1, none⟩ = some (.int .i64 (H : Int)) := HS.out.box.cell 1
        clear v9
        go_wp2_with fail
        go_quiet (fail)
        go_wp2_with fail
        go_meet
        have e1 := HFA.out
        have e2 := HFB.out
        unfold sd at e1 e2
        exact ⟨by congr 1; omega, by congr 1; omega, _, rfl⟩
      case rest =>
        obtain ⟨rfl, rfl, q2, hq2⟩ := hcut
        have hq := show Below w2.heap.size w2 wc by rw [hq2]; exact below_drewN (Below.refl _ _) _
        have HS1 := Lib.hid (HS.out.next hq)
        have emm : ((mm : Int) != (mm : Int)) = false := by rw [bne_eq_false_iff_eq]
        clear hq hq2 HS
        go_wp2_with fail
        go_loopw [15, 16] (fun s15 s16 wr => ∃ i : Nat, s16 = .int .i64 (i : Int) ∧ i ≤ mm ∧ s15 = .int .i64 (cntT W F n i) ∧ LB w w1.heap.size wp.heap.size w1.heap.size W H n cf Af F (w1.heap.size + 1 + 1) w2.heap.size Al L wr) (fun _ s16 _ => mm - (intOf s16).toNat)
        case atStart => exact ⟨0, rfl, by omega, rfl, HS1.out⟩
        case round =>
          clear HS1 v9 emm
          obtain ⟨i, rfl, hi0, rfl, hS⟩ := hrel
          have HS2 := Lib.hid hS
          clear hS
          have hcn := HIN.out i
          by_cases hi : i < mm
          · have di : decide (i < mm) = true := decide_eq_true hi
            have i0 : (0 : Int) ≤ (i : Int) := by omega
            have i1 : (i : Int) < (mm : Int) := by omega
            have hiL : i < L.length := by rw [HL.out]; simpa using hi
            have hLi : L[i] = sqOf W H F i := by simp [HL.out]
            obtain ⟨bL, oL, rfl, _, _, _, _⟩ := HS2.out.rl.some (by rw [sqs_len]; omega)
            obtain ⟨ix, hix⟩ : ∃ x, x = i % fa := ⟨_, rfl⟩
            obtain ⟨iy, hiy⟩ : ∃ x, x = i / fa := ⟨_, rfl⟩
            have hixl : ix < fa := by rw [hix]; exact Nat.mod_lt _ (by omega)
            have hiyl : iy ≤ i := by rw [hiy]; exact Nat.div_le_self _ _
            have t1 : (i : Int).tmod (fa : Int) = (ix : Int) := by rw [Int.tmod_eq_emod_of_nonneg (by omega), hix]; rfl
            have t2 : (i : Int).tdiv (fa : Int) = (iy : Int) := by rw [Int.tdiv_eq_ediv_of_nonneg (by omega), hiy]; rfl
            have t3 : IntKind.i64.wrap (ix : Int) = (ix : Int) := IntWalk.i64_in _ (by omega)
            have t4 : IntKind.i64.wrap (iy : Int) = (iy : Int) := IntWalk.i64_in _ (by omega)
            have m0 : ¬ (fa : Int) = 0 := by omega
            have m0' : ((fa : Int) == 0) = false := by rw [beq_eq_false_iff_ne]; omega
            have m0'' : ¬ fa = 0 := by omega
            have hof : ∀ X, LB w w1.heap.size wp.heap.size w1.heap.size W H n cf Af F (w1.heap.size + 1 + 1) w2.heap.size (some ⟨bL, oL, none⟩) L X → Calls Try.prog 38 #[.agg #[.int .i64 (W : Int), .int .i64 (H : Int), .slice Af n cf], .int .i64 (ix : Int), .int .i64 (iy : Int)] X fun e w' => e = .returned (sqOf W H F i).val ∧ Below X.heap.size X w' := fun X hX => of_any W H (by omega) (by omega) (by omega) Af F n cf _ _ HN.out.symm HN2.out HFz.out i ix iy (by rw [hix, HFA.out]) (by rw [hiy, HFA.out]) (by omega) (by omega) X hX.rf hX.s
            have how : ∀ X, Calls Try.prog 37 #[(sqOf W H F i).val] X fun e w' => e = .returned (sqOf W H F i).val ∧ Below X.heap.size X w' := fun X => own_any _ X
            have hnv := HN2.out ▸ sqOf_nv W H F i
            have hkp : ∀ X, LB w w1.heap.size wp.heap.size w1.heap.size W H n cf Af F (w1.heap.size + 1 + 1) w2.heap.size (some ⟨bL, oL, none⟩) L X → X.cell? ⟨bL, oL + i * 5, none⟩ = some (.int .i64 (sqOf W H F i).x) ∧ X.cell? ⟨bL, oL + i * 5 + 1, none⟩ = some (.int .i64 (sqOf W H F i).y) ∧ X.cell? ⟨bL, oL + i * 5 + 2, none⟩ = some (.int .i64 (sqOf W H F i).r) ∧ X.cell? ⟨bL, oL + i * 5 + 3, none⟩ = some (.int .i64 (sqOf W H F i).n) ∧ X.cell? ⟨bL, oL + i * 5 + 4, none⟩ = some (.int .i64 (sqOf W H F i).v) := fun X hX => by
              have h := sq_elem hX.rl hiL
              rw [hLi] at h
              exact h
            have hsm := smT_end (W := W) (H := H) (by omega) HFz.out i
            have hn1 : 0 ≤ (sqOf W H F i).n ∧ (sqOf W H F i).n ≤ 64 := ⟨hsm.1, hsm.2.1⟩
            have hv1 : 0 ≤ (sqOf W H F i).v ∧ (sqOf W H F i).v ≤ 64 := ⟨hsm.2.2.2.2.2.2.1, hsm.2.2.2.2.2.2.2⟩
            obtain ⟨b, hb⟩ : ∃ b, b = sqOf W H F i := ⟨_, rfl⟩
            rw [← hb] at hof how hnv hkp hn1 hv1
            obtain ⟨x1, x2, x3, x4, x5⟩ := b
            unfold Sq.val at hof how
            dsimp only at hof how hnv hkp hn1 hv1
            have hcn2 := HIN.out (i + 1)
            rw [hnv] at hcn2
            have hne := fun X => sq_neq_eq x1 x2 x3 x4 x5 X
            have HNV := Lib.hid hnv
            obtain ⟨cn, hcne⟩ : ∃ c, c = cntT W F n i := ⟨_, rfl⟩
            rw [← hcne] at hcn hcn2 HNV ⊢
            have u1 : IntKind.i64.wrap (cn + x4) = cn + x4 := IntWalk.i64_in _ (by omega)
            have u2 : IntKind.i64.wrap (cn + x4 + x5) = cn + x4 + x5 := IntWalk.i64_in _ (by omega)
            have HK : Hid (∀ X, LB w w1.heap.size wp.heap.size w1.heap.size W H n cf Af F (w1.heap.size + 1 + 1) w2.heap.size (some ⟨bL, oL, none⟩) L X → (LB w w1.heap.size wp.heap.size w1.heap.size W H n cf Af F (w1.heap.size + 1 + 1) w2.heap.size (some ⟨bL, oL, none⟩) L X ∧ X.cell? ⟨bL, oL + i * 5, none⟩ = some (.int .i64 x1) ∧ X.cell? ⟨bL, oL + i * 5 + 1, none⟩ = some (.int .i64 x2) ∧ X.cell? ⟨bL, oL + i * 5 + 2, none⟩ = some (.int .i64 x3) ∧ X.cell? ⟨bL, oL + i * 5 + 3, none⟩ = some (.int .i64 x4) ∧ X.cell? ⟨bL, oL + i * 5 + 4, none⟩ = some (.int .i64 x5) ∧ X.cell? ⟨w1.heap.size, 0, none⟩ = some (.int .i64 (W : Int)) ∧ X.cell? ⟨w1.heap.size, 1, none⟩ = some (.int .i64 (H : Int)) ∧ X.cell? ⟨w1.heap.size, 2, none⟩ = some (.slice Af n cf))) := Lib.hid (fun X hX => by
              obtain ⟨h0, h1, h2, h3, h4⟩ := hkp X hX
              exact ⟨hX, h0, h1, h2, h3, h4, hX.box.cell 0, hX.box.cell 1, hX.box.cell 2⟩)
            have HOF := Lib.hid hof
            have HOW := Lib.hid how
            clear hof how hkp hix hiy hb hnv hsm hcne hLi hiL hixl hiyl hcn hcn2 hn1 hv1
            go_wp2_with fail
            go_region_held3 (fun X => LB w w1.heap.size wp.heap.size w1.heap.size W H n cf Af F (w1.heap.size + 1 + 1) w2.heap.size (some ⟨bL, oL, none⟩) L X ∧ X.cell? ⟨bL, oL + i * 5, none⟩ = some (.int .i64 x1) ∧ X.cell? ⟨bL, oL + i * 5 + 1, none⟩ = some (.int .i64 x2) ∧ X.cell? ⟨bL, oL + i * 5 + 2, none⟩ = some (.int .i64 x3) ∧ X.cell? ⟨bL, oL + i * 5 + 3, none⟩ = some (.int .i64 x4) ∧ X.cell? ⟨bL, oL + i * 5 + 4, none⟩ = some (.int .i64 x5) ∧ X.cell? ⟨w1.heap.size, 0, none⟩ = some (.int .i64 (W : Int)) ∧ X.cell? ⟨w1.heap.size, 1, none⟩ = some (.int .i64 (H : Int)) ∧ X.cell? ⟨w1.heap.size, 2, none⟩ = some (.slice Af n cf))
              (first
                | exact HK.out _ HS2.out.drew
                | assumption
                | exact HK.out _ (LB.next (And.left ‹LB _ _ _ _ _ _ _ _ _ _ _ _ _ _ _ ∧ _›) (by assumption)))
              (first
                | (go_at_call 38; (with_reducible refine (HOF.out _ (And.left ‹LB _ _ _ _ _ _ _ _ _ _ _ _ _ _ _ ∧ _›)).mono ?_); rintro e w' ⟨rfl, hb⟩)
                | (go_at_call 37; (with_reducible refine (HOW.out _).mono ?_); rintro e w' ⟨rfl, hb⟩))
            have hS := And.left ‹LB _ _ _ _ _ _ _ _ _ _ _ _ _ _ _ ∧ _›
            obtain ⟨_, _, _, _, g3, g4, _, _, _⟩ := HK.out _ hS
            have HS3 := Lib.hid hS
            clear hS HK HOF HOW HS2 hne
            go_wp2_with fail
            go_quiet (fail)
            go_wp2_with fail
            go_roundw
            case rel => exact ⟨i + 1, by go_num, by omega, by rw [HNV.out, Int.add_assoc], HS3.out.drewN _⟩
            case measure => simp [intOf]; omega
          · have di : decide (i < mm) = false := decide_eq_false hi
            have him : i = mm := by omega
            subst him
            have x2 : wr.cell? ⟨w1.heap.size, 2, none⟩ = some (.slice Af n cf) := HS2.out.box.cell 2
            have enn : ((n : Int) == (n : Int)) = true := by rw [beq_iff_eq]
            have HB := Lib.hid HS2.out.b
            rw [HSQ.out]
            clear hcn hi hi0 HS2
            go_wp2_with fail
            refine (works38_any _).mono ?_
            rintro e w7 ⟨rfl, hb7⟩
            have HB7 := Lib.hid (bt HB.out hb7)
            clear hb7
            go_wp2_with fail
            go_ret
            exact ⟨rfl, HB7.out⟩
theorem open_u8 {W : World} {v : Value} (h : VSat W (.int .u8) false v) : ∃ m : Nat, v = .int .u8 (m : Int) ∧ m < 256 := by
  obtain ⟨n, e, hw⟩ := h
  injection e with e
  subst e
  have hb := bounds_u8 hw
  obtain ⟨m, rfl⟩ : ∃ m : Nat, n = (m : Int) := ⟨n.toNat, by omega⟩
  exact ⟨m, rfl, by omega⟩
theorem walkBlocks (v0 v1 v2 v3 : Value) (W : World) (h0 : VSat W (.int .u8) false v0) (h1 : VSat W (.int .u8) false v1) (h2 : VSat W (.slice (.int .i16)) false v2) (h3 : VSat W (.cat (.int .i64) (.cat (.int .i64) (.cat (.slice (.int .i16)) .unit))) true v3) :
    Calls Try.prog 8 #[v0, v1, v2, v3] W fun e W' => e = .returned (.bool true) ∧ Below W.heap.size W W' := by
  obtain ⟨a, rfl, ha⟩ := open_u8 h0
  obtain ⟨b, rfl, hb⟩ := open_u8 h1
  obtain ⟨A, Z, cap, rfl, hr, hz, hc, _⟩ := open_i16 h2
  obtain ⟨cs, rfl, _, _, rfl, ⟨fW, rfl, _⟩, _, _, rfl, ⟨fH, rfl, _⟩, asx, _, rfl, h9, rfl⟩ := h3
  have hlen := Sh.Sat.len h9
  obtain ⟨s, rfl⟩ : ∃ s, asx = [s] := by
    match asx, hlen with
    | [s], _ => exact ⟨s, rfl⟩
  obtain ⟨A2, Z2, cap2, rfl, hr2, hz2, hc2, _⟩ := open_i16 (v := s) h9
  by_cases h : 2000 < Z.length ∨ 1000 < Z2.length
  · exact lawBlocks_out a b A A2 Z.length cap Z2.length cap2 fW fH h W
  · exact lawBlocks_core a b ha hb A A2 Z Z2 Z.length cap Z2.length cap2 fW fH W hr rfl hc hz hr2 rfl hz2 h
end Sur
end Go.Proofs.Ytmiplljcnchjkaa
