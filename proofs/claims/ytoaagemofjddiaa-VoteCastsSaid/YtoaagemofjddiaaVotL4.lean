/-
  The law VoteCasts, walked and joined: the walk itself.
-/
import Derived.Test.YtoaagemofjddiaaVotL2
import Derived.Deep.DeepCutAuto
namespace Go.Proofs.Ytoaagemofjddiaa
open Go.RowKit
set_option linter.unusedVariables false
namespace Vot

set_option maxRecDepth 100000 in
set_option maxHeartbeats 4000000 in
theorem lawCasts_core (n : Nat) (ap most : Int) (A : Option Addr) (L : List VO) (cap : Nat) (w : World) (hrd : RdL w 0 w.heap.size A (L.flatMap voc)) (hrds : ∀ x ∈ L, RdL w 0 w.heap.size x.A (x.L.flatMap sac)) (h : ¬ 60 < L.length) (hr : right n ap most) :
    Calls Try.prog 9 #[.int .i64 (n : Int), .int .i64 ap, .int .i64 most, .slice A L.length cap] w fun e w' => e = .returned (.bool true) ∧ Below w.heap.size w w' := by
  have d1 : decide (60 < (L.length : Int)) = false := decide_eq_false (by omega)
  have d1' : decide (60 < L.length) = false := decide_eq_false h
  have hnew := fun X => new_yes n ap most hr X
  obtain ⟨r1, r2, r3, r4, r5, r6⟩ := hr
  have e1 : decide ((1 : Int) ≤ (n : Int)) = true := decide_eq_true r1
  have e1' : decide (1 ≤ n) = true := decide_eq_true (by omega)
  have e2 : decide ((n : Int) ≤ 5) = true := decide_eq_true r2
  have e2' : decide (n ≤ 5) = true := decide_eq_true (by omega)
  have e3 : decide (0 ≤ ap) = true := decide_eq_true r3
  have e4 : decide (ap ≤ 1099511627776) = true := decide_eq_true r4
  have e5 : decide (1 ≤ most) = true := decide_eq_true r5
  have e6 : decide (most ≤ 100) = true := decide_eq_true r6
  have hrn := fun X => rnew_any n ap most (by omega) (by omega) X
  have hok := new_ok (n := n) (ap := ap) (most := most) (by omega) (by omega) r3 r4 r5 r6
  have hpl : (new n ap most).out.length = n := by simp [new]
  have HOK := Lib.hid hok
  have HPL := Lib.hid hpl
  obtain ⟨N, hN⟩ : ∃ N, N = L.length := ⟨_, rfl⟩
  rw [← hN] at d1 d1' h ⊢
  have HN := Lib.hid hN
  have HR := Lib.hid hrd
  have HRS := Lib.hid hrds
  clear hok hpl hrd hrds hN
  generalize new n ap most = p0 at *
  go_enter Try.func9, Try.ntmps9
  go_wp2_with fail
  refine (hnew _).mono ?_
  rintro e w1 ⟨rfl, hb1⟩
  have HB1 := Lib.hid hb1
  have HK1 := Lib.hid (bt hb1 (bl w1 (.cells (pac p0).toArray 69)))
  unfold pac at HK1 ⊢
  clear hnew hb1
  go_wp2_with fail
  refine (hrn _).mono ?_
  rintro e w2 ⟨A1, A2, c1, c2, rfl, hRP, hb2⟩
  have hS : VC w A L w1.heap.size w2.heap.size p0 (w1.heap.size + 1) w2.heap.size A1 A2 c1 c2 (w2.alloc (.cells (rpc p0 A1 A2 c1 c2).toArray 74)) := by
    have hk := HK1.out
    have hh := hb2.size
    rw [heap_alloc_sz] at hh hRP
    have h1 := HB1.out.size
    have k := bt (bt hk hb2) (bl w2 (.cells (rpc p0 A1 A2 c1 c2).toArray 74))
    exact ⟨((Blk.mk w1 69 (pac p0)).next hb2).alloc _, Blk.mk w2 _ _, hRP.alloc _, HR.out.below k (.inl (Nat.le_refl _)), fun x hx => (HRS.out x hx).below k (.inl (Nat.le_refl _)), k, h1, by omega, by omega, by omega, by omega, by simp⟩
  have HS0 := Lib.hid hS
  unfold rpc at HS0
  unfold rpv
  clear hS hRP hb2 HK1 HB1 hrn
  go_wp2_with fail
  generalize w2.alloc (.cells #[.int .i64 p0.ap, .int .i64 p0.most, .slice A1 p0.st.length c1, .slice A2 p0.out.length c2] 74) = w3 at *
  generalize w1.heap.size = gp at *
  generalize w2.heap.size = gr at *
  go_loopw [13] (fun u wr => ∃ (i : Nat) (p : Pa) (lo hi : Nat) (A1 A2 : Option Addr) (c1 c2 : Nat), i ≤ N ∧ u = .int .i64 (i : Int) ∧ p.ok i ∧ p.out.length = n ∧ VC w A L gp gr p lo hi A1 A2 c1 c2 wr) (fun u _ => N - (intOf u).toNat)
  case atStart => exact ⟨0, p0, _, _, A1, A2, c1, c2, Nat.zero_le _, rfl, HOK.out, HPL.out, HS0.out⟩
  case round =>
    clear HS0 HOK HPL
    obtain ⟨i, p, lo, hi, A1, A2, c1, c2, hile, rfl, hok, hlen, hS⟩ := hrel
    have HS := Lib.hid hS
    have HOK := Lib.hid hok
    have HLEN := Lib.hid hlen
    clear hS hok hlen
    by_cases hlt : i < N
    · have hil : i < L.length := by rw [← HN.out]; exact hlt
      have hltI : (i : Int) < (N : Int) := by omega
      have hi0 : (0 : Int) ≤ (i : Int) := by omega
      have y1 : IntKind.i64.wrap ((i : Int) + 1) = (i : Int) + 1 := IntWalk.i64_in _ (by omega)
      obtain ⟨b, off, rfl, hbh, hbs, q0, q1, q2⟩ := vo_cells HS.out.rd hil
      have HX := Lib.hid (show ∀ wz gp gr p lo hi A1 A2 c1 c2, VC w (some ⟨b, off, none⟩) L gp gr p lo hi A1 A2 c1 c2 wz → RdL wz 0 w.heap.size L[i].A (L[i].L.flatMap sac) ∧ wz.cell? ⟨b, off + i * 3, none⟩ = some (.bool L[i].r) ∧ wz.cell? ⟨b, off + i * 3 + 1, none⟩ = some (.int .i64 L[i].i) ∧ wz.cell? ⟨b, off + i * 3 + 2, none⟩ = some (.slice L[i].A L[i].L.length L[i].cap) from fun wz gp gr p lo hi A1 A2 c1 c2 h => by
        obtain ⟨b', o', e, _, _, u0, u1, u2⟩ := vo_cells h.rd hil
        injection e with e
        injection e with e1 e2
        subst e1 e2
        exact ⟨h.rds _ (List.getElem_mem hil), u0, u1, u2⟩)
      generalize L[i] = x at *
      obtain ⟨xr, xi, xA, xL, xc⟩ := x
      dsimp only at HX q0 q1 q2
      by_cases h20 : 20 < xL.length
      · have d2 : decide (20 < (xL.length : Int)) = true := decide_eq_true (by omega)
        have d2' : decide (20 < xL.length) = true := decide_eq_true h20
        clear h20
        go_wp2_with fail
        refine (works29_any _).mono ?_
        rintro e w4 ⟨rfl, hb⟩
        go_wp2
        go_ret
        exact ⟨rfl, bt HS.out.keep hb⟩
      · have d2 : decide (20 < (xL.length : Int)) = false := decide_eq_false (by omega)
        have d2' : decide (20 < xL.length) = false := decide_eq_false h20
        go_upto_if 88 with fail
        go_cut [] (fun wx => ∃ (lo hi : Nat) (A1 A2 : Option Addr) (c1 c2 : Nat), VC w (some ⟨b, off, none⟩) L gp gr (resets p xr xi) lo hi A1 A2 c1 c2 wx)
        case first =>
          cases xr with
          | false =>
            go_wp2_with fail
            go_meet
            exact ⟨lo, hi, A1, A2, c1, c2, HS.out⟩
          | true =>
            by_cases hxi : 0 ≤ xi ∧ xi < (p.out.length : Int)
            · obtain ⟨k, rfl⟩ : ∃ k : Nat, xi = (k : Int) := ⟨xi.toNat, by omega⟩
              have hk : k < p.out.length := by omega
              have hrs : resets p true (k : Int) = p.put k 0 false := by unfold resets; rw [if_pos ⟨rfl, hxi⟩, Int.toNat_natCast]
              have HRE := Lib.hid hrs
              clear hrs hxi
              have hres : ∀ wz, VC w (some ⟨b, off, none⟩) L gp gr p lo hi A1 A2 c1 c2 wz → Calls Try.prog 33 #[rpv p A1 A2 c1 c2, .int .i64 (k : Int)] wz (GotPB wz (p.put k 0 false) true) := fun wz hz => rreset_in hz.rp HOK.out hz.hs hk
              unfold rpv at hres
              have hd := HS.out.drew
              have hz0 := bl wr (.cells #[.int .i64 0, .int .i64 0, .slice none 0 0, .slice none 0 0] 74)
              have hda := (HS.out.next hz0).drew
              have hba := (Blk.mk wr 74 [.int .i64 0, .int .i64 0, .slice none 0 0, .slice none 0 0]).drew
              obtain ⟨z0, z1, z2, z3⟩ := HS.out.rcells
              obtain ⟨za0, za1, za2, za3⟩ := (HS.out.next hz0).rcells
              have qa1 := (HX.out _ _ _ _ _ _ _ _ _ _ (HS.out.next hz0)).2.2.1
              have hhs := HS.out.hs
              go_upto_region 16 with fail
              go_cut [14, 15] (fun s14 s15 wx => s15 = .bool true ∧ PQ wr lo hi (p.put k 0 false) s14 wx)
              case first =>
                go_region_with (first
                  | (go_at_call 33; (with_reducible refine (hres _ hda).mono ?_); rintro e w5 ⟨B1, B2, d1, d2, rfl, hR, hb5⟩; have hbb := hba.next hb5; have u0 := hbb.free 0; have u1 := hbb.free 1; have u2 := hbb.free 2; have u3 := hbb.free 3; obtain ⟨t0, t1, t2, t3⟩ := zcells hbb; have hfin := fin_old (lo := lo) (hi := hi) hbb (below_new1 hb5) hR (Nat.le_refl _) (.inr (by rw [heap_drew_sz, heap_alloc_sz]; exact Nat.le_refl _)); unfold rpv; clear hbb hR hb5)
                  | (go_at_call 33; (with_reducible refine (hres _ hd).mono ?_); rintro e w5 ⟨B1, B2, d1, d2, rfl, hR, hb5⟩; have hfin := fin_new (lo := lo) (hi := hi) (below_drew1 hb5) hR (Nat.le_refl _) (.inr (Nat.le_refl _)); unfold rpv; clear hR hb5))
                all_goals
                  go_wp2_with fail
                  go_meet
                  exact ⟨rfl, hfin⟩
              obtain ⟨rfl, g, lo', hi', B1, B2, d1, d2, rfl, hbx, hbl, hRP, hhx, hll⟩ := hcut
              have S1 := HS.out.next hbx
              clear z0 z1 z2 z3 za0 za1 za2 za3 qa1 hd hda hba hz0 hres q0 q1 q2
              obtain ⟨z0, z1, z2, z3⟩ := S1.rcells
              have f0 := S1.rb.free 0
              have f1 := S1.rb.free 1
              have f2 := S1.rb.free 2
              have f3 := S1.rb.free 3
              obtain ⟨g0, g1, g2, g3⟩ := rpc_cells hbl
              have HS1 := Lib.hid S1
              have HBX := Lib.hid (show Below _ _ _ ∧ _ ∧ _ ∧ _ from ⟨hbx, hRP, hhx, hll⟩)
              clear S1 hbx hbl hRP hhx hll
              go_upto_region 18 with fail
              clear z0 z1 z2 z3 f0 f1 f2 f3 g0 g1 g2 g3
              generalize hw2 : (((wc.setCell ⟨gr, 0, none⟩ (.int .i64 (p.put k 0 false).ap)).setCell ⟨gr, 1, none⟩ (.int .i64 (p.put k 0 false).most)).setCell ⟨gr, 2, none⟩ (.slice B1 (p.put k 0 false).st.length d1)).setCell ⟨gr, 3, none⟩ (.slice B2 (p.put k 0 false).out.length d2) = w2 at *
              have HW := Lib.hid hw2.symm
              clear hw2
              have g3 : wc.grownBy w2 (some gr) := by rw [HW.out]; exact only_set (only_set (only_set (only_set (only_refl _ _) _ _) _ _) _ _) _ _
              have hP2 : Blk w2 gp 69 (pac p) := HS1.out.pb.grown g3 (fun e => HS1.out.ne (Option.some.inj e))
              have hne : b ≠ gr := by have := HS1.out.gr0; omega
              have hbw : b < wc.heap.size := by have := HS1.out.keep.size; omega
              have G3 := Lib.hid g3
              clear g3
              have q1 : w2.cell? ⟨b, off + i * 3 + 1, none⟩ = some (.int .i64 (k : Int)) := by
                rw [G3.out.cell_far ⟨b, off + i * 3 + 1, none⟩ hbw (by simp; omega)]
                exact (HX.out _ _ _ _ _ _ _ _ _ _ HS1.out).2.2.1
              have hre := reset_in hP2 HOK.out hk
              clear hP2
              go_wp2_with fail
              refine hre.mono ?_
              rintro e w6 ⟨rfl, hP6, hg6⟩
              have hV := Lib.hid (HS.out.both HBX.out.1 HBX.out.2.1 HBX.out.2.2.1 HBX.out.2.2.2 HW.out hP6 hg6)
              clear hP6 hg6 hre q1
              go_wp2_with fail
              go_meet
              exact ⟨lo', hi', B1, B2, d1, d2, by rw [HRE.out]; exact hV.out⟩
            · have hxo : xi < 0 ∨ (p.out.length : Int) ≤ xi := by omega
              have hrs : resets p true xi = p := by unfold resets; rw [if_neg (fun hh => hxi hh.2)]
              have HRE := Lib.hid hrs
              have hres : ∀ wz, VC w (some ⟨b, off, none⟩) L gp gr p lo hi A1 A2 c1 c2 wz → Calls Try.prog 33 #[rpv p A1 A2 c1 c2, .int .i64 xi] wz fun e w' => e = .returned (.tuple #[rpv p A1 A2 c1 c2, .bool false]) ∧ Below wz.heap.size wz w' := fun wz hz => rreset_out hz.rp hz.hs hxo
              unfold rpv at hres
              have HXO := Lib.hid hxo
              clear hrs hxi hxo
              have hd := HS.out.drew
              have hz0 := bl wr (.cells #[.int .i64 0, .int .i64 0, .slice none 0 0, .slice none 0 0] 74)
              have hda := (HS.out.next hz0).drew
              have hba := (Blk.mk wr 74 [.int .i64 0, .int .i64 0, .slice none 0 0, .slice none 0 0]).drew
              obtain ⟨z0, z1, z2, z3⟩ := HS.out.rcells
              obtain ⟨za0, za1, za2, za3⟩ := (HS.out.next hz0).rcells
              have qa1 := (HX.out _ _ _ _ _ _ _ _ _ _ (HS.out.next hz0)).2.2.1
              have hhs := HS.out.hs
              go_upto_region 16 with fail
              go_cut [14, 15] (fun s14 s15 wx => s15 = .bool false ∧ PQ wr lo hi p s14 wx)
              case first =>
                go_region_with (first
                  | (go_at_call 33; (with_reducible refine (hres _ hda).mono ?_); rintro e w5 ⟨rfl, hb5⟩; have hbb := hba.next hb5; have u0 := hbb.free 0; have u1 := hbb.free 1; have u2 := hbb.free 2; have u3 := hbb.free 3; obtain ⟨t0, t1, t2, t3⟩ := zcells hbb; have hfin := fin_old (lo := lo) (hi := hi) hbb (below_new1 hb5) (hda.rp.next hb5) (hda.next hb5).hs (.inl ⟨rfl, rfl, hhs⟩); clear hbb hb5)
                  | (go_at_call 33; (with_reducible refine (hres _ hd).mono ?_); rintro e w5 ⟨rfl, hb5⟩; have hfin := fin_new (lo := lo) (hi := hi) (below_drew1 hb5) (hd.rp.next hb5) (hd.next hb5).hs (.inl ⟨rfl, rfl⟩); clear hb5))
                all_goals
                  go_wp2_with fail
                  go_meet
                  exact ⟨rfl, hfin⟩
              obtain ⟨rfl, g, lo', hi', B1, B2, d1, d2, rfl, hbx, hbl, hRP, hhx, hll⟩ := hcut
              have S1 := HS.out.next hbx
              clear z0 z1 z2 z3 za0 za1 za2 za3 qa1 hd hda hba hz0 hres q0 q1 q2
              obtain ⟨z0, z1, z2, z3⟩ := S1.rcells
              have f0 := S1.rb.free 0
              have f1 := S1.rb.free 1
              have f2 := S1.rb.free 2
              have f3 := S1.rb.free 3
              obtain ⟨g0, g1, g2, g3⟩ := rpc_cells hbl
              have HS1 := Lib.hid S1
              have HBX := Lib.hid (show Below _ _ _ ∧ _ ∧ _ ∧ _ from ⟨hbx, hRP, hhx, hll⟩)
              clear S1 hbx hbl hRP hhx hll
              go_upto_region 18 with fail
              clear z0 z1 z2 z3 f0 f1 f2 f3 g0 g1 g2 g3
              generalize hw2 : (((wc.setCell ⟨gr, 0, none⟩ (.int .i64 (p).ap)).setCell ⟨gr, 1, none⟩ (.int .i64 (p).most)).setCell ⟨gr, 2, none⟩ (.slice B1 (p).st.length d1)).setCell ⟨gr, 3, none⟩ (.slice B2 (p).out.length d2) = w2 at *
              have HW := Lib.hid hw2.symm
              clear hw2
              have g3 : wc.grownBy w2 (some gr) := by rw [HW.out]; exact only_set (only_set (only_set (only_set (only_refl _ _) _ _) _ _) _ _) _ _
              have hP2 : Blk w2 gp 69 (pac p) := HS1.out.pb.grown g3 (fun e => HS1.out.ne (Option.some.inj e))
              have hne : b ≠ gr := by have := HS1.out.gr0; omega
              have hbw : b < wc.heap.size := by have := HS1.out.keep.size; omega
              have G3 := Lib.hid g3
              clear g3
              have q1 : w2.cell? ⟨b, off + i * 3 + 1, none⟩ = some (.int .i64 xi) := by
                rw [G3.out.cell_far ⟨b, off + i * 3 + 1, none⟩ hbw (by simp; omega)]
                exact (HX.out _ _ _ _ _ _ _ _ _ _ HS1.out).2.2.1
              have hre := reset_out hP2 HXO.out
              have HP2 := Lib.hid hP2
              clear hP2
              go_wp2_with fail
              refine hre.mono ?_
              rintro e w6 ⟨rfl, rfl⟩
              have hV := Lib.hid (HS.out.both HBX.out.1 HBX.out.2.1 HBX.out.2.2.1 HBX.out.2.2.2 HW.out HP2.out (only_refl _ _))
              clear hre q1
              go_wp2_with fail
              go_meet
              exact ⟨lo', hi', B1, B2, d1, d2, by rw [HRE.out]; exact hV.out⟩
        clear HR HRS q0 q1 q2
        obtain ⟨lo1, hi1, A3, A4, c3, c4, hS2⟩ := hcut
        obtain ⟨hok1, hlen1⟩ := resets_ok HOK.out xr xi
        rw [HLEN.out] at hlen1
        clear HS HOK HLEN
        generalize resets p xr xi = p1 at *
        have HS2 := Lib.hid hS2
        have HOK1 := Lib.hid hok1
        have HLEN1 := Lib.hid hlen1
        have hql := castAll_len hok1 xL
        have hqo := castAll_ok hok1 xL
        rw [hlen1] at hql
        have hcs : ∀ wz, VC w (some ⟨b, off, none⟩) L gp gr p1 lo1 hi1 A3 A4 c3 c4 wz → Calls Try.prog 35 #[rpv p1 A3 A4 c3 c4, .slice xA xL.length xc] wz (GotC wz lo1 hi1 (castAll p1 xL) (mid (told0 p1 xL)) (decide (0 < (told0 p1 xL).length))) := fun wz hz => rcast_any hz.rp (HX.out _ _ _ _ _ _ _ _ _ _ hz).1 HOK1.out (by omega) hz.hs hz.keep.size
        have hmine := fun (wz : World) (cap : Nat) (AL : Option Addr) (lo hi : Nat) (P : Blk wz gp 69 (pac p1)) (R : RdL wz lo hi AL (xL.flatMap sac)) (h1 : hi ≤ wz.heap.size) (h2 : gp < lo ∨ hi ≤ gp) => cast_any (cap := cap) P R HOK1.out (by omega) h1 h2
        unfold GotX at hmine
        have HQ := Lib.hid (show (castAll p1 xL).ok (i + 1) ∧ (castAll p1 xL).out.length = n from ⟨hqo, hql⟩)
        clear hok1 hlen1 hql hqo hS2
        generalize castAll p1 xL = q at *
        generalize mid (told0 p1 xL) = mm at *
        generalize decide (0 < (told0 p1 xL).length) = ok at *
        have HM := Lib.hid hmine
        unfold rpv at hcs
        generalize wc = ws at *
        have hd := HS2.out.drew
        have hz0 := bl ws (.cells #[.int .i64 0, .int .i64 0, .slice none 0 0, .slice none 0 0] 74)
        have hda := (HS2.out.next hz0).drew
        have hba := (Blk.mk ws 74 [.int .i64 0, .int .i64 0, .slice none 0 0, .slice none 0 0]).drew
        obtain ⟨z0, z1, z2, z3⟩ := HS2.out.rcells
        obtain ⟨za0, za1, za2, za3⟩ := (HS2.out.next hz0).rcells
        have q2 := (HX.out _ _ _ _ _ _ _ _ _ _ HS2.out).2.2.2
        have qa2 := (HX.out _ _ _ _ _ _ _ _ _ _ (HS2.out.next hz0)).2.2.2
        have hhs := HS2.out.hs
        have hbs2 : b < ws.heap.size := by have := HS2.out.keep.size; omega
        clear hmine
        go_upto_region 20 with fail
        go_cut [16, 17, 18] (fun s16 s17 s18 wx => s17 = .int .i64 mm ∧ s18 = .bool ok ∧ PQ ws lo1 hi1 q s16 wx)
        case first =>
          go_region_with (first
            | (go_at_call 35; (with_reducible refine (hcs _ hda).mono ?_); rintro e w5 ⟨lo', hi', B1, B2, d1, d2, rfl, hR, hh5, hlq, hb5⟩; have hbb := hba.next hb5; have u0 := hbb.free 0; have u1 := hbb.free 1; have u2 := hbb.free 2; have u3 := hbb.free 3; obtain ⟨t0, t1, t2, t3⟩ := zcells hbb; have hfin := fin_old (lo := lo1) (hi := hi1) hbb (below_new1 hb5) hR hh5 (by rw [heap_drew_sz, heap_alloc_sz] at hlq; omega); unfold rpv; clear hbb hR hb5 hh5 hlq)
            | (go_at_call 35; (with_reducible refine (hcs _ hd).mono ?_); rintro e w5 ⟨lo', hi', B1, B2, d1, d2, rfl, hR, hh5, hlq, hb5⟩; have hfin := fin_new (lo := lo1) (hi := hi1) (below_drew1 hb5) hR hh5 hlq; unfold rpv; clear hR hb5 hh5 hlq))
          all_goals
            go_wp2_with fail
            go_meet
            exact ⟨rfl, rfl, hfin⟩
        obtain ⟨rfl, rfl, g, lo2, hi2, B1, B2, d1, d2, rfl, hbx, hbl, hRP, hhx, hll⟩ := hcut
        have S1 := HS2.out.next hbx
        clear z0 z1 z2 z3 za0 za1 za2 za3 qa2 hd hda hba hz0 hcs q2
        obtain ⟨z0, z1, z2, z3⟩ := S1.rcells
        have f0 := S1.rb.free 0
        have f1 := S1.rb.free 1
        have f2 := S1.rb.free 2
        have f3 := S1.rb.free 3
        obtain ⟨g0, g1, g2, g3⟩ := rpc_cells hbl
        have HS1 := Lib.hid S1
        have HBX := Lib.hid (show Below _ _ _ ∧ _ ∧ _ ∧ _ from ⟨hbx, hRP, hhx, hll⟩)
        clear S1 hbx hbl hRP hhx hll
        go_upto_region 22 with fail
        clear z0 z1 z2 z3 f0 f1 f2 f3 g0 g1 g2 g3
        generalize hw2 : (((wc.setCell ⟨gr, 0, none⟩ (.int .i64 (q).ap)).setCell ⟨gr, 1, none⟩ (.int .i64 (q).most)).setCell ⟨gr, 2, none⟩ (.slice B1 (q).st.length d1)).setCell ⟨gr, 3, none⟩ (.slice B2 (q).out.length d2) = w2 at *
        have HW := Lib.hid hw2.symm
        clear hw2
        have g3 : wc.grownBy w2 (some gr) := by rw [HW.out]; exact only_set (only_set (only_set (only_set (only_refl _ _) _ _) _ _) _ _) _ _
        have hP2 : Blk w2 gp 69 (pac p1) := HS1.out.pb.grown g3 (fun e => HS1.out.ne (Option.some.inj e))
        have hne : b ≠ gr := by have := HS1.out.gr0; omega
        have hbw : b < wc.heap.size := by have := HS1.out.keep.size; omega
        have q2 : w2.cell? ⟨b, off + i * 3 + 2, none⟩ = some (.slice xA xL.length xc) := by
          rw [g3.cell_far ⟨b, off + i * 3 + 2, none⟩ hbw (by simp; omega)]
          exact (HX.out _ _ _ _ _ _ _ _ _ _ HS1.out).2.2.2
        have hxr : RdL w2 0 w.heap.size xA (xL.flatMap sac) := (HX.out _ _ _ _ _ _ _ _ _ _ HS1.out).1.grown g3 (fun g e => by have := Option.some.inj e; have := HS1.out.gr0; omega)
        have hwz : w.heap.size ≤ w2.heap.size := Nat.le_trans HS1.out.keep.size g3.size
        have hgp2 : gp < w2.heap.size := hP2.lt
        have hvo := vown_any xA xL xc 0 w.heap.size w2 hxr hwz (by omega)
        have HP2 := Lib.hid hP2
        clear g3 hP2 hxr
        go_wp2_with fail
        refine hvo.mono ?_
        rintro e w6 ⟨⟨v, rfl, hown⟩, hb6⟩
        obtain ⟨A5, c5, rfl, hr5, _, _, _⟩ := own_rd hown
        have hmy := HM.out w6 c5 A5 _ _ (HP2.out.next hb6) hr5 (Nat.le_refl _) (.inl hgp2)
        have HB6 := Lib.hid hb6
        clear hvo hown hb6 hr5 q2
        go_wp2_with fail
        refine hmy.mono ?_
        rintro e w7 ⟨rfl, hP7, hg7⟩
        have hV := HS2.out.both HBX.out.1 HBX.out.2.1 HBX.out.2.2.1 HBX.out.2.2.2 HW.out hP7 (only_trans (only_below HB6.out _) hg7)
        have HV := Lib.hid hV
        obtain ⟨k0, k1, k2, k3, k4, k5, k6, k7, k8, k9, k10, k11, k12⟩ := pac_cells hP7
        have hin := fun X => in_any q (by rw [HQ.out.2]; omega) X
        unfold pac at hin
        have hone := HQ.out.1.one
        have dI : decide ((ins q.out : Int) < 1) = false := decide_eq_false (by omega)
        have dN : decide (ins q.out < 1) = false := decide_eq_false (by omega)
        clear hmy hP7 hg7 hV HBX HB6
        go_wp2_with fail
        refine (hin _).mono ?_
        rintro e w8 ⟨rfl, hb8⟩
        have HV8 := Lib.hid (HV.out.next hb8)
        clear k0 k1 k2 k3 k4 k5 k6 k7 k8 k9 k10 k11 k12 hin hb8 HV
        go_wp2_with fail
        go_loopw [21] (fun u wx => ∃ k : Nat, k ≤ n ∧ u = .int .i64 (k : Int) ∧ VC w (some ⟨b, off, none⟩) L gp gr q lo2 hi2 B1 B2 d1 d2 wx) (fun u _ => n - (intOf u).toNat)
        case atStart => exact ⟨0, Nat.zero_le _, rfl, HV8.out⟩
        case round =>
          clear HV8
          obtain ⟨k, hk, rfl, hS⟩ := hrel
          have HS9 := Lib.hid hS
          clear hS
          by_cases hkt : k < n
          · have hkI : (k : Int) < (n : Int) := by omega
            have hk0 : (0 : Int) ≤ (k : Int) := by omega
            have yk : IntKind.i64.wrap ((k : Int) + 1) = (k : Int) + 1 := IntWalk.i64_in _ (by omega)
            have hko : k < q.out.length := by rw [HQ.out.2]; exact hkt
            have hks : k < q.st.length := by rw [HQ.out.1.len]; exact hko
            have hkoI : (k : Int) < (q.out.length : Int) := by omega
            have hksI : (k : Int) < (q.st.length : Int) := by omega
            obtain ⟨bs, os, rfl, _, _, _, _⟩ := HS9.out.rp.sk hks
            obtain ⟨bo, oo, rfl, _, _, _, _⟩ := HS9.out.rp.is hko
            have ho := fun X => out_any q (by rw [HQ.out.2]; omega) (i := (k : Int)) X
            have he : (decide ((0 : Int) ≤ (k : Int) ∧ (k : Int) < (q.out.length : Int)) && q.is (k : Int).toNat) = q.is k := by rw [Int.toNat_natCast, decide_eq_true ⟨hk0, hkoI⟩, Bool.true_and]
            rw [he] at ho
            have hst := fun X => strikes_any q (by rw [HQ.out.2]; omega) (i := (k : Int)) X
            have he2 : (if 0 ≤ (k : Int) ∧ (k : Int) < (q.out.length : Int) then (q.sk (k : Int).toNat : Int) else 0) = (q.sk k : Int) := by rw [if_pos ⟨hk0, hkoI⟩, Int.toNat_natCast]
            rw [he2] at hst
            unfold pac at ho hst
            have hs : ∀ w', VC w (some ⟨b, off, none⟩) L gp gr q lo2 hi2 (some ⟨bs, os, none⟩) (some ⟨bo, oo, none⟩) d1 d2 w' → (VC w (some ⟨b, off, none⟩) L gp gr q lo2 hi2 (some ⟨bs, os, none⟩) (some ⟨bo, oo, none⟩) d1 d2 w' ∧ w'.cell? ⟨gr, 2, Option.none⟩ = some (.slice (some ⟨bs, os, none⟩) q.st.length d1) ∧ w'.cell? ⟨gr, 3, Option.none⟩ = some (.slice (some ⟨bo, oo, none⟩) q.out.length d2) ∧ w'.cell? ⟨bs, os + k, Option.none⟩ = some (.int .i64 (q.sk k : Int)) ∧ w'.cell? ⟨bo, oo + k, Option.none⟩ = some (.bool (q.is k)) ∧ w'.cell? ⟨gp, 0, Option.none⟩ = some (.int .i64 (q.out.length : Int)) ∧ w'.cell? ⟨gp, 1, Option.none⟩ = some (.int .i64 q.ap) ∧ w'.cell? ⟨gp, 2, Option.none⟩ = some (.int .i64 q.most) ∧ w'.cell? ⟨gp, 3, Option.none⟩ = some (.int .i64 (q.sk 0 : Int)) ∧ w'.cell? ⟨gp, 4, Option.none⟩ = some (.int .i64 (q.sk 1 : Int)) ∧ w'.cell? ⟨gp, 5, Option.none⟩ = some (.int .i64 (q.sk 2 : Int)) ∧ w'.cell? ⟨gp, 6, Option.none⟩ = some (.int .i64 (q.sk 3 : Int)) ∧ w'.cell? ⟨gp, 7, Option.none⟩ = some (.int .i64 (q.sk 4 : Int)) ∧ w'.cell? ⟨gp, 8, Option.none⟩ = some (.bool (q.is 0)) ∧ w'.cell? ⟨gp, 9, Option.none⟩ = some (.bool (q.is 1)) ∧ w'.cell? ⟨gp, 10, Option.none⟩ = some (.bool (q.is 2)) ∧ w'.cell? ⟨gp, 11, Option.none⟩ = some (.bool (q.is 3)) ∧ w'.cell? ⟨gp, 12, Option.none⟩ = some (.bool (q.is 4))) := fun w' X => by
              obtain ⟨b1, o1, e1, _, _, _, s1⟩ := X.rp.sk hks
              injection e1 with e1
              injection e1 with e2 e3
              subst e2 e3
              obtain ⟨b1, o1, e1, _, _, _, s2⟩ := X.rp.is hko
              injection e1 with e1
              injection e1 with e2 e3
              subst e2 e3
              exact ⟨X, X.rcells.2.2.1, X.rcells.2.2.2, s1, s2, pac_cells X.pb⟩
            have Hs := Lib.hid hs
            clear hs he he2
            go_wp2_with fail
            go_region_held3 (fun w' => VC w (some ⟨b, off, none⟩) L gp gr q lo2 hi2 (some ⟨bs, os, none⟩) (some ⟨bo, oo, none⟩) d1 d2 w' ∧ w'.cell? ⟨gr, 2, Option.none⟩ = some (.slice (some ⟨bs, os, none⟩) q.st.length d1) ∧ w'.cell? ⟨gr, 3, Option.none⟩ = some (.slice (some ⟨bo, oo, none⟩) q.out.length d2) ∧ w'.cell? ⟨bs, os + k, Option.none⟩ = some (.int .i64 (q.sk k : Int)) ∧ w'.cell? ⟨bo, oo + k, Option.none⟩ = some (.bool (q.is k)) ∧ w'.cell? ⟨gp, 0, Option.none⟩ = some (.int .i64 (q.out.length : Int)) ∧ w'.cell? ⟨gp, 1, Option.none⟩ = some (.int .i64 q.ap) ∧ w'.cell? ⟨gp, 2, Option.none⟩ = some (.int .i64 q.most) ∧ w'.cell? ⟨gp, 3, Option.none⟩ = some (.int .i64 (q.sk 0 : Int)) ∧ w'.cell? ⟨gp, 4, Option.none⟩ = some (.int .i64 (q.sk 1 : Int)) ∧ w'.cell? ⟨gp, 5, Option.none⟩ = some (.int .i64 (q.sk 2 : Int)) ∧ w'.cell? ⟨gp, 6, Option.none⟩ = some (.int .i64 (q.sk 3 : Int)) ∧ w'.cell? ⟨gp, 7, Option.none⟩ = some (.int .i64 (q.sk 4 : Int)) ∧ w'.cell? ⟨gp, 8, Option.none⟩ = some (.bool (q.is 0)) ∧ w'.cell? ⟨gp, 9, Option.none⟩ = some (.bool (q.is 1)) ∧ w'.cell? ⟨gp, 10, Option.none⟩ = some (.bool (q.is 2)) ∧ w'.cell? ⟨gp, 11, Option.none⟩ = some (.bool (q.is 3)) ∧ w'.cell? ⟨gp, 12, Option.none⟩ = some (.bool (q.is 4)))
              (first
                | exact Hs.out _ HS9.out.drew
                | assumption
                | exact Hs.out _ (VC.next (And.left ‹VC _ _ _ _ _ _ _ _ _ _ _ _ _ ∧ _›) (by assumption)))
              (first
                | (go_at_call 39; (with_reducible refine (ho _).mono ?_); rintro e w' ⟨rfl, hb⟩)
                | (go_at_call 40; (with_reducible refine (hst _).mono ?_); rintro e w' ⟨rfl, hb⟩))
            have hX := Lib.hid (And.left ‹VC _ _ _ _ _ _ _ _ _ _ _ _ _ ∧ _›)
            go_wp2_with fail
            go_roundw
            case rel => exact ⟨k + 1, by omega, by go_num, hX.out⟩
            case measure => simp [intOf]; omega
          · obtain rfl : k = n := by omega
            go_wp2_with fail
            go_roundw
            case rel => exact ⟨i + 1, q, lo2, hi2, B1, B2, d1, d2, by omega, by go_num, HQ.out.1, HQ.out.2, HS9.out⟩
            case measure => simp [intOf]; omega
    · obtain rfl : i = N := by omega
      go_wp2_with fail
      refine (works29_any _).mono ?_
      rintro e w4 ⟨rfl, hb⟩
      go_wp2
      go_ret
      exact ⟨rfl, bt HS.out.keep hb⟩
theorem walkCasts (v0 v1 v2 v3 : Value) (W : World) (h0 : VSat W (.int .i64) false v0) (h1 : VSat W (.int .i64) false v1) (h2 : VSat W (.int .i64) false v2) (h3 : VSat W (.slice (.cat .bool (.cat (.int .i64) (.cat (.slice (.cat .bool (.cat (.int .i64) .unit))) .unit)))) false v3) :
    Calls Try.prog 9 #[v0, v1, v2, v3] W fun e W' => e = .returned (.bool true) ∧ Below W.heap.size W W' := by
  obtain ⟨n, e0, _⟩ := h0
  injection e0 with e0
  subst e0
  obtain ⟨ap, e0, _⟩ := h1
  injection e0 with e0
  subst e0
  obtain ⟨most, e0, _⟩ := h2
  injection e0 with e0
  subst e0
  obtain ⟨A, L, cap, rfl, hr, hrs⟩ := open_ops h3
  by_cases h : 60 < L.length
  · exact lawCasts_out n ap most A L.length cap h W
  · by_cases hr' : right n ap most
    · obtain ⟨m, rfl⟩ : ∃ m : Nat, n = (m : Int) := ⟨n.toNat, by have := hr'.1; omega⟩
      exact lawCasts_core m ap most A L cap W hr hrs h hr'
    · exact lawCasts_no n ap most A L.length cap h hr' W
end Vot
end Go.Proofs.Ytoaagemofjddiaa
