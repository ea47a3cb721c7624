/- A part of the proof of WholeFaults. -/
import Derived.Test.YtekjehbkmlodmaaGreatZH
import Derived.Deep.DeepCutAuto
set_option linter.unusedVariables false
set_option linter.unusedSimpArgs false
namespace Go.Proofs.YtekjehbkmlodmaaGreat
open Go.RowKit
namespace Cht
open Txt (leVal bv)
open Til (cntT cntT_le head_any places_any)
theorem infoInt : (Tryz.prog.info? 3).map (fun i => (i.zero, i.size, i.bytes)) = some (some (.int .i64 0), 1, 8) := by kernel_rfl
theorem dirV_one (L : List UInt8) (A1 A2 : Option Addr) (n1 c1 n2 c2 : Nat) : ∀ u ∈ dirV L (.slice A1 n1 c1) (.slice A2 n2 c2), u.oneCell' = true := by
 intro u hu
 simp only [dirV, List.mem_cons, List.not_mem_nil, or_false] at hu
 rcases hu with rfl | rfl | rfl | rfl | rfl | rfl | rfl | rfl <;> rfl
theorem all_one {l : List Value} (h : ∀ u ∈ l, u.oneCell' = true) : l.toArray.all (·.oneCell') = true := by simpa using h
set_option maxRecDepth 100000 in
set_option maxHeartbeats 8000000 in
theorem open_any (A : Option Addr) (L : List UInt8) (n cap lo hi : Nat) (w : World) (h : RdL w lo hi A (L.map bv)) (hhi : hi ≤ w.heap.size) (hn : L.length = n) (hl : n ≤ 100000) (hcap : n ≤ cap) :
  Calls Tryz.prog 33 #[.slice A n cap] w (GotO w L) := by
 have hnum := fun (i k : Nat) (xi xk : Int) (wz : World) (hz : RdL wz lo hi A (L.map bv)) hk hi' hxi hxk => num_any A L n cap i k lo hi xi xk wz hz hn (by omega) hk hi' hxi hxk
 have HN := Lib.hid hn
 have HRES := Lib.hid (Blk.mk w 94 zeroD)
 have HK0 := Lib.hid (bl w (.cells zeroD.toArray 94))
 have HR0 := Lib.hid (h.next (bl w (.cells zeroD.toArray 94)))
 have HS0 : Hid ((w.alloc (.cells zeroD.toArray 94)).heap.size = w.heap.size + 1) := Lib.hid (by simp)
 have HNO : Hid (∀ c, openC L = c → c ≠ 0 → GotO w L (.returned (.tuple #[.agg zeroD.toArray, .int .i64 c])) ((w.alloc (.cells zeroD.toArray 94)).setRow w.heap.size zeroD.toArray)) := Lib.hid fun c hc hc0 => GotO.no hc hc0 (Below.row (bl w _) (Nat.le_refl _) _)
 obtain ⟨oc, hoc⟩ : ∃ oc, oc = openC L := ⟨_, rfl⟩
 have hocu := hoc
 unfold openC at hocu
 rw [hn] at hocu
 have HOC := Lib.hid hoc
 have HOU := Lib.hid hocu
 have hb0 := numL_lt L 0 4
 have hb1 := numL_lt L 4 2
 have hb2 := numL_lt L 6 2
 have hb3 := numL_lt L 8 2
 have hb4 := numL_lt L 10 4
 have hb5 := numL_lt L 14 4
 have hH65 : ∀ W, (W = hW L ∨ W = hH L ∨ W = hC L) → W < 65536 := fun W h => by
  unfold hW hH hC at h
  rcases h with rfl | rfl | rfl <;> omega
 clear h hn hoc hocu
 by_cases h18 : n < 18
 ·have i18 : (n : Int) < 18 := by omega
  have hc := HOU.out
  rw [if_pos h18] at hc
  have HC := Lib.hid hc
  clear hc
  go_enter Tryz.func33, Tryz.ntmps33
  go_wp2_with (refine wpList_store_row rfl 94 _ _ rfl w.heap.size zeroD.toArray rfl rfl _ _ HRES.out (by kernel_rfl) rfl (all_one zeroD_one) ?_)
  refine bodyPost_ret (results_cell_tmp_row rfl _ _ w.heap.size 94 _ (0, 0) _ rfl (HRES.out.row zeroD) Tryz.underlying94 rfl (by kernel_rfl)) rfl ?_
  exact HNO.out 5 (HOC.out.symm.trans HC.out) (by decide)
 have i18 : ¬ (n : Int) < 18 := by omega
 have i18' : (18 : Int) ≤ (n : Int) := by omega
 have d18 : decide ((n : Int) < 18) = false := decide_eq_false i18
 have d18' : decide (n < 18) = false := decide_eq_false h18
 have hn0 := hnum 0 4 0 4 (w.alloc (.cells zeroD.toArray 94)) HR0.out (by decide) (by decide) rfl rfl
 by_cases hmg : numL L 0 4 = 1296978516
 ·have m0 : ((numL L 0 4 : Int) != 1296978516) = false := by rw [hmg]; rfl
  have m0' : (numL L 0 4 != 1296978516) = false := by rw [hmg]; rfl
  have hc := HOU.out
  rw [if_neg h18, if_neg (fun h => h hmg)] at hc
  have n1 := hnum 4 2 4 2 (w.alloc (.cells zeroD.toArray 94)) HR0.out (by decide) (by decide) rfl rfl
  have n2 := hnum 6 2 6 2 (w.alloc (.cells zeroD.toArray 94)) HR0.out (by decide) (by decide) rfl rfl
  have n3 := hnum 8 2 8 2 (w.alloc (.cells zeroD.toArray 94)) HR0.out (by decide) (by decide) rfl rfl
  have n4 := hnum 10 4 10 4 (w.alloc (.cells zeroD.toArray 94)) HR0.out (by decide) (by decide) rfl rfl
  have n5 := hnum 14 4 14 4 (w.alloc (.cells zeroD.toArray 94)) HR0.out (by decide) (by decide) rfl rfl
  obtain ⟨W, hWe⟩ : ∃ x, x = hW L := ⟨_, rfl⟩
  obtain ⟨H, hHe⟩ : ∃ x, x = hH L := ⟨_, rfl⟩
  obtain ⟨C, hCe⟩ : ∃ x, x = hC L := ⟨_, rfl⟩
  obtain ⟨ox, hox⟩ : ∃ x, x = hX L := ⟨_, rfl⟩
  obtain ⟨oy, hoy⟩ : ∃ x, x = hY L := ⟨_, rfl⟩
  have lW := hH65 W (.inl hWe)
  have lH := hH65 H (.inr (.inl hHe))
  have lC := hH65 C (.inr (.inr hCe))
  rw [show numL L 4 2 = W from hWe.symm] at n1
  rw [show numL L 6 2 = H from hHe.symm] at n2
  rw [show numL L 8 2 = C from hCe.symm] at n3
  obtain ⟨x4, hx4⟩ : ∃ x, x = numL L 10 4 := ⟨_, rfl⟩
  obtain ⟨x5, hx5⟩ : ∃ x, x = numL L 14 4 := ⟨_, rfl⟩
  have wx : IntKind.i32.wrap (x4 : Int) = ox := by rw [hox, hx4]; rfl
  have wy : IntKind.i32.wrap (x5 : Int) = oy := by rw [hoy, hx5]; rfl
  rw [← hx4] at n4
  rw [← hx5] at n5
  rw [← hWe, ← hHe, ← hCe] at hc
  have hdv : ∀ vA vS, dirV L vA vS = [.int .i64 (W : Int), .int .i64 (H : Int), .slice none 0 0, .int .i64 (C : Int), .int .i32 ox, .int .i32 oy, vA, vS] := fun vA vS => by unfold dirV; rw [hWe, hHe, hCe, hox, hoy]
  have HDV := Lib.hid hdv
  obtain ⟨bad, hbad⟩ : ∃ b, b = decide (W < 2 ∨ H < 2 ∨ 256 < W ∨ 256 < H ∨ C < 1 ∨ 1000 < C) := ⟨_, rfl⟩
  have HBAD := Lib.hid hbad
  have HC := Lib.hid hc
  have HWe := Lib.hid hWe
  have HHe := Lib.hid hHe
  have hbk := Blk.mk (w.alloc (.cells zeroD.toArray 94)) 94 [.int .i64 (W : Int), .int .i64 (H : Int), .slice none 0 0, .int .i64 (C : Int), .int .i32 ox, .int .i32 oy, .slice none 0 0, .slice none 0 0]
  rw [HS0.out] at hbk
  have c0 := hbk.cell 0
  have c1 := hbk.cell 1
  have c3 := hbk.cell 3
  have hox0 : OX w (w.heap.size + 1) (.slice none 0 0) (.slice none 0 0) L 0 lo hi A ((w.alloc (.cells zeroD.toArray 94)).alloc (.cells #[.int .i64 (W : Int), .int .i64 (H : Int), .slice none 0 0, .int .i64 (C : Int), .int .i32 ox, .int .i32 oy, .slice none 0 0, .slice none 0 0] 94)) :=
   ⟨by rw [hdv]; exact hbk, World.ownsRow_nil _ _ _ _, World.ownsRow_nil _ _ _ _, (fun b hb => by simp [Value.ownBlock] at hb), bt HK0.out (bl _ _), HRES.out.alloc _, HR0.out.alloc _, by omega, hhi⟩
  have HX0 := Lib.hid hox0
  clear hox0 hc hbad hWe hHe hCe hox hoy hx4 hx5 hdv hbk hH65 hb0 hb1 hb2 hb3 hb4 hb5 hmg
  generalize numL L 0 4 = mg at *
  go_enter Tryz.func33, Tryz.ntmps33
  go_wp2_with fail
  refine hn0.mono ?_
  rintro e w' ⟨rfl, rfl⟩
  go_wp2_with fail
  refine n1.mono ?_
  rintro e w' ⟨rfl, rfl⟩
  go_wp2_with fail
  refine n2.mono ?_
  rintro e w' ⟨rfl, rfl⟩
  go_wp2_with fail
  refine n3.mono ?_
  rintro e w' ⟨rfl, rfl⟩
  go_wp2_with fail
  refine n4.mono ?_
  rintro e w' ⟨rfl, rfl⟩
  go_wp2_with fail
  refine n5.mono ?_
  rintro e w' ⟨rfl, rfl⟩
  clear hn0 n1 n2 n3 n4 n5
  go_wp2_with fail
  go_quiet (fail)
  go_upto_region 7 with fail
  go_cut [70] (fun s70 wx => s70 = .bool bad ∧ OX w (w.heap.size + 1) (.slice none 0 0) (.slice none 0 0) L 0 lo hi A wx)
  case first =>
   by_cases k0 : (W) < 2
   ·have d0 : decide ((W : Int) < 2) = true := decide_eq_true (by omega)
    have d0' : decide ((W) < 2) = true := decide_eq_true k0
    have hbad : bad = true := by rw [HBAD.out]; exact decide_eq_true (by omega)
    go_wp2_with fail
    go_meet
    exact ⟨by rw [hbad], HX0.out.next (below_drewN (Below.refl _ _) _)⟩
   have d0 : decide ((W : Int) < 2) = false := decide_eq_false (by omega)
   have d0' : decide ((W) < 2) = false := decide_eq_false k0
   by_cases k1 : (H) < 2
   ·have d1 : decide ((H : Int) < 2) = true := decide_eq_true (by omega)
    have d1' : decide ((H) < 2) = true := decide_eq_true k1
    have hbad : bad = true := by rw [HBAD.out]; exact decide_eq_true (by omega)
    go_wp2_with fail
    go_meet
    exact ⟨by rw [hbad], HX0.out.next (below_drewN (Below.refl _ _) _)⟩
   have d1 : decide ((H : Int) < 2) = false := decide_eq_false (by omega)
   have d1' : decide ((H) < 2) = false := decide_eq_false k1
   by_cases k2 : 256 < (W)
   ·have d2 : decide ((256 : Int) < (W : Int)) = true := decide_eq_true (by omega)
    have d2' : decide (256 < (W)) = true := decide_eq_true k2
    have hbad : bad = true := by rw [HBAD.out]; exact decide_eq_true (by omega)
    go_wp2_with fail
    go_meet
    exact ⟨by rw [hbad], HX0.out.next (below_drewN (Below.refl _ _) _)⟩
   have d2 : decide ((256 : Int) < (W : Int)) = false := decide_eq_false (by omega)
   have d2' : decide (256 < (W)) = false := decide_eq_false k2
   by_cases k3 : 256 < (H)
   ·have d3 : decide ((256 : Int) < (H : Int)) = true := decide_eq_true (by omega)
    have d3' : decide (256 < (H)) = true := decide_eq_true k3
    have hbad : bad = true := by rw [HBAD.out]; exact decide_eq_true (by omega)
    go_wp2_with fail
    go_meet
    exact ⟨by rw [hbad], HX0.out.next (below_drewN (Below.refl _ _) _)⟩
   have d3 : decide ((256 : Int) < (H : Int)) = false := decide_eq_false (by omega)
   have d3' : decide (256 < (H)) = false := decide_eq_false k3
   by_cases k4 : (C) < 1
   ·have d4 : decide ((C : Int) < 1) = true := decide_eq_true (by omega)
    have d4' : decide ((C) < 1) = true := decide_eq_true k4
    have hbad : bad = true := by rw [HBAD.out]; exact decide_eq_true (by omega)
    go_wp2_with fail
    go_meet
    exact ⟨by rw [hbad], HX0.out.next (below_drewN (Below.refl _ _) _)⟩
   have d4 : decide ((C : Int) < 1) = false := decide_eq_false (by omega)
   have d4' : decide ((C) < 1) = false := decide_eq_false k4
   by_cases k5 : 1000 < (C)
   ·have d5 : decide ((1000 : Int) < (C : Int)) = true := decide_eq_true (by omega)
    have d5' : decide (1000 < (C)) = true := decide_eq_true k5
    have hbad : bad = true := by rw [HBAD.out]; exact decide_eq_true (by omega)
    go_wp2_with fail
    go_meet
    exact ⟨by rw [hbad], HX0.out.next (below_drewN (Below.refl _ _) _)⟩
   have d5 : decide ((1000 : Int) < (C : Int)) = false := decide_eq_false (by omega)
   have d5' : decide (1000 < (C)) = false := decide_eq_false k5
   have hbad : bad = false := by rw [HBAD.out]; exact decide_eq_false (by omega)
   go_wp2_with fail
   go_meet
   exact ⟨by rw [hbad], HX0.out.next (below_drewN (Below.refl _ _) _)⟩
  obtain ⟨rfl, hx⟩ := hcut
  have HX := Lib.hid hx
  clear hx HX0 c0 c1 c3 HS0 HK0 HR0 HNO
  have hno : ∀ (wr : World) (vA vS : Value) (i : Nat) (c : Int), OX w (w.heap.size + 1) vA vS L i lo hi A wr → openC L = c → c ≠ 0 → GotO w L (.returned (.tuple #[.agg zeroD.toArray, .int .i64 c])) (wr.setRow w.heap.size zeroD.toArray) := fun wr vA vS i c h hc hc0 => GotO.no hc hc0 (Below.row h.keep (Nat.le_refl _) _)
  have HNO := Lib.hid hno
  clear hno
  cases hbb : bad
  ·have hbad := HBAD.out
   rw [hbb] at hbad
   have hgood := of_decide_eq_false hbad.symm
   have hc := HC.out
   rw [if_neg hgood] at hc
   subst hbb
   have HC2 := Lib.hid hc
   have hcnt : cnt L = cntT W * cntT H := by unfold cnt; rw [HWe.out, HHe.out]
   have hW256 : W ≤ 256 := by omega
   have hH256 : H ≤ 256 := by omega
   have hcl : cntT W * cntT H ≤ 256 := Nat.mul_le_mul (cntT_le hW256) (cntT_le hH256)
   have hhe := fun w => head_any W H hW256 hH256 w
   have hpl := fun w => places_any W H hW256 hH256 w
   rw [← hcnt] at hhe hpl hcl
   obtain ⟨N, hN⟩ : ∃ N, N = cnt L := ⟨_, rfl⟩
   obtain ⟨hd, hhd⟩ : ∃ x, x = headN L := ⟨_, rfl⟩
   have hhd2 : 22 + 6 * N = hd := by rw [hhd, hN]; rfl
   rw [← hN] at hhe hpl hcl
   rw [hhd2] at hhe
   rw [← hhd, ← hN] at hc
   have hdl : hd ≤ 1558 := by omega
   have HC3 := Lib.hid hc
   have HHD := Lib.hid hhd
   have HNc := Lib.hid hN
   clear hc hbad hgood HC HC2 HBAD hcnt hN hhd hhd2 hW256 hH256 HOU
   generalize cntT W = cw at *
   generalize cntT H = cy at *
   go_wp2_with fail
   refine (hhe _).mono ?_
   rintro e w' ⟨rfl, rfl⟩
   by_cases hsh : n < hd
   ·have i1 : (n : Int) < (hd : Int) := by omega
    have hc := HC3.out
    rw [if_pos hsh] at hc
    have HC4 := Lib.hid hc
    clear hc
    go_wp2_with (refine wpList_store_row rfl 94 _ _ rfl w.heap.size zeroD.toArray rfl rfl _ _ HX.out.res (by kernel_rfl) rfl (all_one zeroD_one) ?_)
    refine bodyPost_ret (results_cell_tmp_row rfl _ _ w.heap.size 94 _ (0, 0) _ rfl (HX.out.res.row zeroD) Tryz.underlying94 rfl (by kernel_rfl)) rfl ?_
    exact HNO.out _ _ _ _ 5 HX.out (HOC.out.symm.trans HC4.out) (by decide)
   have i1 : ¬ (n : Int) < (hd : Int) := by omega
   have i1' : (hd : Int) ≤ (n : Int) := by omega
   have i2 : decide ((n : Int) < (hd : Int)) = false := decide_eq_false i1
   have i2' : decide (n < hd) = false := decide_eq_false hsh
   have i3 : (hd : Int) ≤ (cap : Int) := by omega
   have i4 : hd ≤ cap := by omega
   have hc := HC3.out
   rw [if_neg hsh] at hc
   have HC4 := Lib.hid hc
   have hcg := fun (wz : World) (hz : RdL wz lo hi A ((L.take hd).map bv)) => cget_any A (L.take hd) hd cap lo hi wz hz (by rw [List.length_take, HN.out]; omega) (by omega) i4
   obtain ⟨ok, hok⟩ : ∃ ok, ok = sumOk (L.take hd) := ⟨_, rfl⟩
   rw [← hok] at hc
   unfold GotC at hcg
   rw [← hok] at hcg
   have HC5 := Lib.hid hc
   clear hc HC4 HC3 hok
   go_wp2_with fail
   refine (hcg _ (by rw [List.map_take]; exact HX.out.rd.take hd)).mono ?_
   rintro e w2 ⟨⟨A2, n2, cap2, rfl, _⟩, hb2⟩
   have HX2 := Lib.hid (HX.out.next hb2)
   clear hcg HX hb2
   cases ok
   ·have hc := HC5.out
    rw [if_pos rfl] at hc
    have HC6 := Lib.hid hc
    clear hc HC5
    go_wp2_with (refine wpList_store_row rfl 94 _ _ rfl w.heap.size zeroD.toArray rfl rfl _ _ HX2.out.res (by kernel_rfl) rfl (all_one zeroD_one) ?_)
    refine bodyPost_ret (results_cell_tmp_row rfl _ _ w.heap.size 94 _ (0, 0) _ rfl (HX2.out.res.row zeroD) Tryz.underlying94 rfl (by kernel_rfl)) rfl ?_
    exact HNO.out _ _ _ _ 4 HX2.out (HOC.out.symm.trans HC6.out) (by decide)
   have hc := HC5.out
   rw [if_neg (by decide)] at hc
   have HC6 := Lib.hid hc
   clear hc HC5
   go_wp2_with fail
   refine (hpl _).mono ?_
   rintro e w3 ⟨vp, rfl, hP⟩
   obtain ⟨Ap, cp, rfl, _, _, _, _⟩ := own_rd hP.own
   have HX3 := Lib.hid (HX2.out.next hP.keep)
   clear hP HX2 hpl hhe
   go_wp2_with fail
   go_loopw [10, 95] (fun v u wr => ∃ (i a : Nat) (vA vS : Value), u = .int .i64 (i : Int) ∧ v = .int .i64 (a : Int) ∧ i ≤ N ∧ dirAt L i = some a ∧ a ≤ 1558 + 65536 * i ∧ OX w (w.heap.size + 1) vA vS L i lo hi A wr) (fun _ u _ => N - (intOf u).toNat)
   case atStart => exact ⟨0, hd, _, _, rfl, rfl, Nat.zero_le _, by rw [HHD.out]; rfl, by omega, HX3.out⟩
   case round =>
    clear HX3
    obtain ⟨i, a, vA, vS, rfl, rfl, hiN, hda, hal, S⟩ := hrel
    have HS := Lib.hid S
    have HDA := Lib.hid hda
    have hrs := S.rd
    have hgs := S.blk.lt
    by_cases hlt : i < N
    ·have e0 : decide ((i : Int) < (N : Int)) = true := decide_eq_true (by omega)
     have e0' : decide (i < N) = true := decide_eq_true hlt
     obtain ⟨k1, hk1⟩ : ∃ x, x = 6 * i := ⟨_, rfl⟩
     obtain ⟨k2, hk2⟩ : ∃ x, x = 18 + k1 := ⟨_, rfl⟩
     obtain ⟨k3, hk3⟩ : ∃ x, x = k2 + 4 := ⟨_, rfl⟩
     have wk1 : IntKind.i64.wrap (6 * (i : Int)) = (k1 : Int) := by rw [IntWalk.i64_in _ (by omega)]; omega
     have wk2 : IntKind.i64.wrap (18 + (k1 : Int)) = (k2 : Int) := by rw [IntWalk.i64_in _ (by omega)]; omega
     have wk3 : IntKind.i64.wrap ((k2 : Int) + 4) = (k3 : Int) := by rw [IntWalk.i64_in _ (by omega)]; omega
     obtain ⟨f, hf⟩ : ∃ x, x = from' L i := ⟨_, rfl⟩
     obtain ⟨z, hz⟩ : ∃ x, x = size' L i := ⟨_, rfl⟩
     have hzl : z < 65536 := by rw [hz]; exact numL_lt L _ 2
     have n1 := hnum k2 4 (k2 : Int) 4 wr hrs (by decide) (by omega) rfl rfl
     have n2 := hnum k3 2 (k3 : Int) 2 wr hrs (by decide) (by omega) rfl rfl
     have hf2 : numL L k2 4 = f := by rw [hf, hk2, hk1]; rfl
     have hz2 : numL L k3 2 = z := by rw [hz, hk3, hk2, hk1]; rfl
     rw [hf2] at n1
     rw [hz2] at n2
     have hds : dirAt L (i + 1) = (if f = a then some (a + z) else none) := by rw [dirAt, hda, hf, hz]
     have HDS := Lib.hid hds
     have HF := Lib.hid hf
     have HZ := Lib.hid hz
     clear hk1 hk2 hk3 hf hz hf2 hz2 hds hda hrs S
     by_cases hfa : f = a
     ·subst hfa
      obtain ⟨q, hq⟩ : ∃ q, q = f + z := ⟨_, rfl⟩
      have wq : IntKind.i64.wrap ((f : Int) + (z : Int)) = (q : Int) := by rw [IntWalk.i64_in _ (by omega)]; omega
      have hds := HDS.out
      rw [if_pos rfl, ← hq] at hds
      have HDS2 := Lib.hid hds
      have b0 : ((f : Int) != (f : Int)) = false := by simp
      have b0' : (f != f) = false := by simp
      have hql : q ≤ 1558 + 65536 * (i + 1) := by omega
      clear hds hq
      go_wp2_with fail
      refine n1.mono ?_
      rintro e w' ⟨rfl, rfl⟩
      go_wp2_with fail
      refine n2.mono ?_
      rintro e w' ⟨rfl, rfl⟩
      clear n1 n2
      go_upto_region 22 with fail
      go_cut [] (fun wx => ∃ vA' vS', OX w (w.heap.size + 1) vA' vS' L (i + 1) lo hi A wx)
      case first =>
       refine wp_region_any (by kernel_rfl) ?_
       change wpAny _ _ _ _ _ _ _ wr.drew
       have Hd := Lib.hid (HS.out.next (Below.refl _ _).drew)
       have e0 : wr.drew.cell? ⟨w.heap.size + 1, 6, none⟩ = some vA := HS.out.blk.cell 6
       have e1 : wr.drew.cell? ⟨w.heap.size + 1, 7, none⟩ = some vS := HS.out.blk.cell 7
       generalize wr.drew = wd at *
       clear HS
       have D1 := Hd.out.own1
       have D2 := Hd.out.own2
       obtain ⟨j0, hj0, hy0, hy1, hy2⟩ := info_parts infoInt
       refine wpAny_split 11 (L := #[false, false, false, false, false, false, false, false, false, false, false]) (f := 11) (S := fun w' => w'.cell? ⟨w.heap.size + 1, 6, none⟩ = some vA ∧ w'.cell? ⟨w.heap.size + 1, 7, none⟩ = some vS) (by kernel_rfl) ⟨e0, e1⟩ (fun hHeld => ?_)
       simp only [List.take_succ_cons, List.take_zero, List.drop_succ_cons, List.drop_zero]
       refine wpAnyH_take (i := 0) (oi := ⟨some 113, _, _, _, _, _⟩) (v := ?_) rfl (by kernel_rfl) (by kernel_rfl) (by kernel_rfl) (fun _ _ _ h => h) (Or.inl ⟨by rfl, ?_⟩) (by assumption) ?_
       rotate_left
       ·(intro w hSw; (try dsimp only at hSw); go_simp; try (with_reducible rfl))
       try simp only [Act.put, List.setIfInBounds_toArray, List.set_cons_zero, List.set_cons_succ]
       refine wpAnyH_take (i := 1) (oi := ⟨some 114, _, _, _, _, _⟩) (v := ?_) rfl (by kernel_rfl) (by kernel_rfl) (by kernel_rfl) (fun _ _ _ h => h) (Or.inl ⟨by rfl, ?_⟩) (by assumption) ?_
       rotate_left
       ·(intro w hSw; (try dsimp only at hSw); go_simp; try (with_reducible rfl))
       try simp only [Act.put, List.setIfInBounds_toArray, List.set_cons_zero, List.set_cons_succ]
       refine wpAnyH_take (i := 2) (oi := ⟨some 115, _, _, _, _, _⟩) (v := ?_) rfl (by kernel_rfl) (by kernel_rfl) (by kernel_rfl) (fun _ _ _ h => h) (Or.inl ⟨by rfl, ?_⟩) (by assumption) ?_
       rotate_left
       ·(intro w hSw; (try dsimp only at hSw); go_simp; try (with_reducible rfl))
       try simp only [Act.put, List.setIfInBounds_toArray, List.set_cons_zero, List.set_cons_succ]
       refine wpAnyH_take (i := 5) (oi := ⟨some 118, _, _, _, _, _⟩) (v := ?_) rfl (by kernel_rfl) (by kernel_rfl) (by kernel_rfl) (fun _ _ _ h => h) (Or.inl ⟨by rfl, ?_⟩) (by assumption) ?_
       rotate_left
       ·(intro w hSw; (try dsimp only at hSw); go_simp; try (with_reducible rfl))
       try simp only [Act.put, List.setIfInBounds_toArray, List.set_cons_zero, List.set_cons_succ]
       refine wpAnyH_take (i := 6) (oi := ⟨some 119, _, _, _, _, _⟩) (v := ?_) rfl (by kernel_rfl) (by kernel_rfl) (by kernel_rfl) (fun _ _ _ h => h) (Or.inl ⟨by rfl, ?_⟩) (by assumption) ?_
       rotate_left
       ·(intro w hSw; (try dsimp only at hSw); go_simp; try (with_reducible rfl))
       try simp only [Act.put, List.setIfInBounds_toArray, List.set_cons_zero, List.set_cons_succ]
       refine wpAnyH_take (i := 7) (oi := ⟨some 120, _, _, _, _, _⟩) (v := ?_) rfl (by kernel_rfl) (by kernel_rfl) (by kernel_rfl) (fun _ _ _ h => h) (Or.inl ⟨by rfl, ?_⟩) (by assumption) ?_
       rotate_left
       ·(intro w hSw; (try dsimp only at hSw); go_simp; try (with_reducible rfl))
       try simp only [Act.put, List.setIfInBounds_toArray, List.set_cons_zero, List.set_cons_succ]
       refine wpAnyH_ready (rs := [3, 8]) (by kernel_rfl) (by simp) ?_
       refine AllReadyH.cons (o := ⟨some 116, _, _, _, _, _⟩) rfl (fun K hK => ?_) ?_
       ·go_simp
        have hswa := new_rd wd 3 (iv [f])
        have hbwa := bl wd (.cells (iv [f]).toArray 3)
        simp only [iv, List.map_cons, List.map_nil] at hswa hbwa
        generalize wd.alloc _ = wa at *
        have NT := hswa
        try replace NI := NI.next hbwa
        try replace D1 := own_next D1 hbwa
        have D2 := own_next D2 hbwa
        have hzwa := hbwa.size
        refine hK.out _ _ ⟨(hbwa.cell (World.block_lt_of_cell? _ _ hHeld.1)).trans hHeld.1, (hbwa.cell (World.block_lt_of_cell? _ _ hHeld.2)).trans hHeld.2⟩ (fun hHeld => ?_)
        clear hK K
        try simp only [List.setIfInBounds_toArray, List.set_cons_zero, List.set_cons_succ]
        refine wpAnyH_ready (rs := [4, 8]) (by kernel_rfl) (by simp) ?_
        refine AllReadyH.cons (o := ⟨some 117, _, _, _, _, _⟩) rfl (fun K hK => ?_) ?_
        ·refine step_append_lies _ (by rfl) _ _ _ (by rfl) (w.heap.size + 1 + 1) 3 j0 _ 1 8 (by kernel_rfl) hj0 hy0 hy1 hy2 rfl (by omega) vA i (iv (froms L i)) (by rfl) D1 _ 1 1 (iv [f]) (by rfl) (by rfl) (NT.news _ rfl) (by simp [iv, Value.oneCell']) (by omega) (by simp only [maxLen]; omega) (by omega) (by have := Hd.out.blk.lt; omega) _ rfl ?_
         intro gg1 cc1 w1 hown1 hgrow1 hat1 hlt1
         have hzw1 := hgrow1.size
         try replace NI := NI.grown hgrow1 (fun b hb => .inl (by have := (own_lt Hd.out.own1 hb).2; omega))
         have D2 := own_kept D2 hgrow1 Hd.out.ap
         refine hK.out _ _ ⟨(hgrow1.cell_far _ (World.block_lt_of_cell? _ _ hHeld.1) (Ne.symm Hd.out.ne.1)).trans hHeld.1, (hgrow1.cell_far _ (World.block_lt_of_cell? _ _ hHeld.2) (Ne.symm Hd.out.ne.1)).trans hHeld.2⟩ (fun hHeld => ?_)
         clear hK K
         try simp only [Act.put, List.setIfInBounds_toArray, List.set_cons_zero, List.set_cons_succ]
         refine wpAnyH_take (i := 10) (oi := ⟨some 123, _, _, _, _, _⟩) (v := ?_) rfl (by kernel_rfl) (by kernel_rfl) (by kernel_rfl) (fun _ _ _ h => h) (Or.inl ⟨by rfl, ?_⟩) (by assumption) ?_
         rotate_left
         ·(intro w hSw; (try dsimp only at hSw); go_simp; try (with_reducible rfl))
         try simp only [Act.put, List.setIfInBounds_toArray, List.set_cons_zero, List.set_cons_succ]
         refine wpAnyH_ready (rs := [8]) (by kernel_rfl) (by simp) ?_
         refine AllReadyH.cons (o := ⟨some 121, _, _, _, _, _⟩) rfl (fun K hK => ?_) ?_
         ·go_simp
          have hswb := new_rd w1 3 (iv [z])
          have hbwb := bl w1 (.cells (iv [z]).toArray 3)
          simp only [iv, List.map_cons, List.map_nil] at hswb hbwb
          generalize w1.alloc _ = wb at *
          have NI := hswb
          try replace NT := NT.next hbwb
          try replace D1 := own_next D1 hbwb
          have D2 := own_next D2 hbwb
          have hzwb := hbwb.size
          refine hK.out _ _ ⟨(hbwb.cell (World.block_lt_of_cell? _ _ hHeld.1)).trans hHeld.1, (hbwb.cell (World.block_lt_of_cell? _ _ hHeld.2)).trans hHeld.2⟩ (fun hHeld => ?_)
          clear hK K
          try simp only [List.setIfInBounds_toArray, List.set_cons_zero, List.set_cons_succ]
          refine wpAnyH_ready (rs := [9]) (by kernel_rfl) (by simp) ?_
          refine AllReadyH.cons (o := ⟨some 122, _, _, _, _, _⟩) rfl (fun K hK => ?_) ?_
          ·refine step_append_lies _ (by rfl) _ _ _ (by rfl) (w.heap.size + 1 + 1) 3 j0 _ 1 8 (by kernel_rfl) hj0 hy0 hy1 hy2 rfl (by omega) vS i (iv (sizes L i)) (by rfl) D2 _ 1 1 (iv [z]) (by rfl) (by rfl) (NI.news _ rfl) (by simp [iv, Value.oneCell']) (by omega) (by simp only [maxLen]; omega) (by omega) (by have := Hd.out.blk.lt; omega) _ rfl ?_
           intro gg2 cc2 w2 hown2 hgrow2 hat2 hlt2
           have hzw2 := hgrow2.size
           refine hK.out _ _ ⟨(hgrow2.cell_far _ (World.block_lt_of_cell? _ _ hHeld.1) (Ne.symm Hd.out.ne.2)).trans hHeld.1, (hgrow2.cell_far _ (World.block_lt_of_cell? _ _ hHeld.2) (Ne.symm Hd.out.ne.2)).trans hHeld.2⟩ (fun hHeld => ?_)
           clear hK K
           try simp only [Act.put, List.setIfInBounds_toArray, List.set_cons_zero, List.set_cons_succ]
           refine wpAnyH_done (by kernel_rfl) ?_ _
           change wpList _ _ _ _ _ _
           have hfin := Hd.out.both hbwa hgrow1 (by rw [← HF.out]; exact hown1) rfl (hat1.imp (fun e => by rw [e]; rfl) (fun e b hb => by have hb' : gg1 = b := Option.some.inj hb; omega)) hbwb hgrow2 (by rw [← HZ.out]; exact hown2) rfl (hat2.imp (fun e => by rw [e]; rfl) (fun e b hb => by have hb' : gg2 = b := Option.some.inj hb; omega))
           obtain ⟨f0, f1, hfin⟩ := hfin
           have Hfin := Lib.hid hfin
           clear hfin hown1 hgrow1 hat1 hown2 hgrow2 hat2 D1 D2 NT NI
           go_wp2_with fail
           go_meet
           exact ⟨_, _, Hfin.out⟩
          exact AllReadyH.nil
         exact AllReadyH.nil
        refine AllReadyH.cons (o := ⟨some 121, _, _, _, _, _⟩) rfl (fun K hK => ?_) ?_
        ·go_simp
         have hswb := new_rd wa 3 (iv [z])
         have hbwb := bl wa (.cells (iv [z]).toArray 3)
         simp only [iv, List.map_cons, List.map_nil] at hswb hbwb
         generalize wa.alloc _ = wb at *
         have NI := hswb
         try replace NT := NT.next hbwb
         try replace D1 := own_next D1 hbwb
         have D2 := own_next D2 hbwb
         have hzwb := hbwb.size
         refine hK.out _ _ ⟨(hbwb.cell (World.block_lt_of_cell? _ _ hHeld.1)).trans hHeld.1, (hbwb.cell (World.block_lt_of_cell? _ _ hHeld.2)).trans hHeld.2⟩ (fun hHeld => ?_)
         clear hK K
         try simp only [List.setIfInBounds_toArray, List.set_cons_zero, List.set_cons_succ]
         refine wpAnyH_ready (rs := [4]) (by kernel_rfl) (by simp) ?_
         refine AllReadyH.cons (o := ⟨some 117, _, _, _, _, _⟩) rfl (fun K hK => ?_) ?_
         ·refine step_append_lies _ (by rfl) _ _ _ (by rfl) (w.heap.size + 1 + 1) 3 j0 _ 1 8 (by kernel_rfl) hj0 hy0 hy1 hy2 rfl (by omega) vA i (iv (froms L i)) (by rfl) D1 _ 1 1 (iv [f]) (by rfl) (by rfl) (NT.news _ rfl) (by simp [iv, Value.oneCell']) (by omega) (by simp only [maxLen]; omega) (by omega) (by have := Hd.out.blk.lt; omega) _ rfl ?_
          intro gg1 cc1 w1 hown1 hgrow1 hat1 hlt1
          have hzw1 := hgrow1.size
          try replace NI := NI.grown hgrow1 (fun b hb => .inl (by have := (own_lt Hd.out.own1 hb).2; omega))
          have D2 := own_kept D2 hgrow1 Hd.out.ap
          refine hK.out _ _ ⟨(hgrow1.cell_far _ (World.block_lt_of_cell? _ _ hHeld.1) (Ne.symm Hd.out.ne.1)).trans hHeld.1, (hgrow1.cell_far _ (World.block_lt_of_cell? _ _ hHeld.2) (Ne.symm Hd.out.ne.1)).trans hHeld.2⟩ (fun hHeld => ?_)
          clear hK K
          try simp only [Act.put, List.setIfInBounds_toArray, List.set_cons_zero, List.set_cons_succ]
          refine wpAnyH_take (i := 10) (oi := ⟨some 123, _, _, _, _, _⟩) (v := ?_) rfl (by kernel_rfl) (by kernel_rfl) (by kernel_rfl) (fun _ _ _ h => h) (Or.inl ⟨by rfl, ?_⟩) (by assumption) ?_
          rotate_left
          ·(intro w hSw; (try dsimp only at hSw); go_simp; try (with_reducible rfl))
          try simp only [Act.put, List.setIfInBounds_toArray, List.set_cons_zero, List.set_cons_succ]
          refine wpAnyH_ready (rs := [9]) (by kernel_rfl) (by simp) ?_
          refine AllReadyH.cons (o := ⟨some 122, _, _, _, _, _⟩) rfl (fun K hK => ?_) ?_
          ·refine step_append_lies _ (by rfl) _ _ _ (by rfl) (w.heap.size + 1 + 1) 3 j0 _ 1 8 (by kernel_rfl) hj0 hy0 hy1 hy2 rfl (by omega) vS i (iv (sizes L i)) (by rfl) D2 _ 1 1 (iv [z]) (by rfl) (by rfl) (NI.news _ rfl) (by simp [iv, Value.oneCell']) (by omega) (by simp only [maxLen]; omega) (by omega) (by have := Hd.out.blk.lt; omega) _ rfl ?_
           intro gg2 cc2 w2 hown2 hgrow2 hat2 hlt2
           have hzw2 := hgrow2.size
           refine hK.out _ _ ⟨(hgrow2.cell_far _ (World.block_lt_of_cell? _ _ hHeld.1) (Ne.symm Hd.out.ne.2)).trans hHeld.1, (hgrow2.cell_far _ (World.block_lt_of_cell? _ _ hHeld.2) (Ne.symm Hd.out.ne.2)).trans hHeld.2⟩ (fun hHeld => ?_)
           clear hK K
           try simp only [Act.put, List.setIfInBounds_toArray, List.set_cons_zero, List.set_cons_succ]
           refine wpAnyH_done (by kernel_rfl) ?_ _
           change wpList _ _ _ _ _ _
           have hfin := Hd.out.both (hbwa.trans (hbwb.mono (by omega))) hgrow1 (by rw [← HF.out]; exact hown1) rfl (hat1.imp (fun e => by rw [e]; rfl) (fun e b hb => by have hb' : gg1 = b := Option.some.inj hb; omega)) (Below.refl _ _) hgrow2 (by rw [← HZ.out]; exact hown2) rfl (hat2.imp (fun e => by rw [e]; rfl) (fun e b hb => by have hb' : gg2 = b := Option.some.inj hb; omega))
           obtain ⟨f0, f1, hfin⟩ := hfin
           have Hfin := Lib.hid hfin
           clear hfin hown1 hgrow1 hat1 hown2 hgrow2 hat2 D1 D2 NT NI
           go_wp2_with fail
           go_meet
           exact ⟨_, _, Hfin.out⟩
          exact AllReadyH.nil
         exact AllReadyH.nil
        exact AllReadyH.nil
       refine AllReadyH.cons (o := ⟨some 121, _, _, _, _, _⟩) rfl (fun K hK => ?_) ?_
       ·go_simp
        have hswa := new_rd wd 3 (iv [z])
        have hbwa := bl wd (.cells (iv [z]).toArray 3)
        simp only [iv, List.map_cons, List.map_nil] at hswa hbwa
        generalize wd.alloc _ = wa at *
        have NI := hswa
        try replace NT := NT.next hbwa
        try replace D1 := own_next D1 hbwa
        have D2 := own_next D2 hbwa
        have hzwa := hbwa.size
        refine hK.out _ _ ⟨(hbwa.cell (World.block_lt_of_cell? _ _ hHeld.1)).trans hHeld.1, (hbwa.cell (World.block_lt_of_cell? _ _ hHeld.2)).trans hHeld.2⟩ (fun hHeld => ?_)
        clear hK K
        try simp only [List.setIfInBounds_toArray, List.set_cons_zero, List.set_cons_succ]
        refine wpAnyH_ready (rs := [3]) (by kernel_rfl) (by simp) ?_
        refine AllReadyH.cons (o := ⟨some 116, _, _, _, _, _⟩) rfl (fun K hK => ?_) ?_
        ·go_simp
         have hswb := new_rd wa 3 (iv [f])
         have hbwb := bl wa (.cells (iv [f]).toArray 3)
         simp only [iv, List.map_cons, List.map_nil] at hswb hbwb
         generalize wa.alloc _ = wb at *
         have NT := hswb
         try replace NI := NI.next hbwb
         try replace D1 := own_next D1 hbwb
         have D2 := own_next D2 hbwb
         have hzwb := hbwb.size
         refine hK.out _ _ ⟨(hbwb.cell (World.block_lt_of_cell? _ _ hHeld.1)).trans hHeld.1, (hbwb.cell (World.block_lt_of_cell? _ _ hHeld.2)).trans hHeld.2⟩ (fun hHeld => ?_)
         clear hK K
         try simp only [List.setIfInBounds_toArray, List.set_cons_zero, List.set_cons_succ]
         refine wpAnyH_ready (rs := [4]) (by kernel_rfl) (by simp) ?_
         refine AllReadyH.cons (o := ⟨some 117, _, _, _, _, _⟩) rfl (fun K hK => ?_) ?_
         ·refine step_append_lies _ (by rfl) _ _ _ (by rfl) (w.heap.size + 1 + 1) 3 j0 _ 1 8 (by kernel_rfl) hj0 hy0 hy1 hy2 rfl (by omega) vA i (iv (froms L i)) (by rfl) D1 _ 1 1 (iv [f]) (by rfl) (by rfl) (NT.news _ rfl) (by simp [iv, Value.oneCell']) (by omega) (by simp only [maxLen]; omega) (by omega) (by have := Hd.out.blk.lt; omega) _ rfl ?_
          intro gg1 cc1 w1 hown1 hgrow1 hat1 hlt1
          have hzw1 := hgrow1.size
          try replace NI := NI.grown hgrow1 (fun b hb => .inl (by have := (own_lt Hd.out.own1 hb).2; omega))
          have D2 := own_kept D2 hgrow1 Hd.out.ap
          refine hK.out _ _ ⟨(hgrow1.cell_far _ (World.block_lt_of_cell? _ _ hHeld.1) (Ne.symm Hd.out.ne.1)).trans hHeld.1, (hgrow1.cell_far _ (World.block_lt_of_cell? _ _ hHeld.2) (Ne.symm Hd.out.ne.1)).trans hHeld.2⟩ (fun hHeld => ?_)
          clear hK K
          try simp only [Act.put, List.setIfInBounds_toArray, List.set_cons_zero, List.set_cons_succ]
          refine wpAnyH_take (i := 10) (oi := ⟨some 123, _, _, _, _, _⟩) (v := ?_) rfl (by kernel_rfl) (by kernel_rfl) (by kernel_rfl) (fun _ _ _ h => h) (Or.inl ⟨by rfl, ?_⟩) (by assumption) ?_
          rotate_left
          ·(intro w hSw; (try dsimp only at hSw); go_simp; try (with_reducible rfl))
          try simp only [Act.put, List.setIfInBounds_toArray, List.set_cons_zero, List.set_cons_succ]
          refine wpAnyH_ready (rs := [9]) (by kernel_rfl) (by simp) ?_
          refine AllReadyH.cons (o := ⟨some 122, _, _, _, _, _⟩) rfl (fun K hK => ?_) ?_
          ·refine step_append_lies _ (by rfl) _ _ _ (by rfl) (w.heap.size + 1 + 1) 3 j0 _ 1 8 (by kernel_rfl) hj0 hy0 hy1 hy2 rfl (by omega) vS i (iv (sizes L i)) (by rfl) D2 _ 1 1 (iv [z]) (by rfl) (by rfl) (NI.news _ rfl) (by simp [iv, Value.oneCell']) (by omega) (by simp only [maxLen]; omega) (by omega) (by have := Hd.out.blk.lt; omega) _ rfl ?_
           intro gg2 cc2 w2 hown2 hgrow2 hat2 hlt2
           have hzw2 := hgrow2.size
           refine hK.out _ _ ⟨(hgrow2.cell_far _ (World.block_lt_of_cell? _ _ hHeld.1) (Ne.symm Hd.out.ne.2)).trans hHeld.1, (hgrow2.cell_far _ (World.block_lt_of_cell? _ _ hHeld.2) (Ne.symm Hd.out.ne.2)).trans hHeld.2⟩ (fun hHeld => ?_)
           clear hK K
           try simp only [Act.put, List.setIfInBounds_toArray, List.set_cons_zero, List.set_cons_succ]
           refine wpAnyH_done (by kernel_rfl) ?_ _
           change wpList _ _ _ _ _ _
           have hfin := Hd.out.both (hbwa.trans (hbwb.mono (by omega))) hgrow1 (by rw [← HF.out]; exact hown1) rfl (hat1.imp (fun e => by rw [e]; rfl) (fun e b hb => by have hb' : gg1 = b := Option.some.inj hb; omega)) (Below.refl _ _) hgrow2 (by rw [← HZ.out]; exact hown2) rfl (hat2.imp (fun e => by rw [e]; rfl) (fun e b hb => by have hb' : gg2 = b := Option.some.inj hb; omega))
           obtain ⟨f0, f1, hfin⟩ := hfin
           have Hfin := Lib.hid hfin
           clear hfin hown1 hgrow1 hat1 hown2 hgrow2 hat2 D1 D2 NT NI
           go_wp2_with fail
           go_meet
           exact ⟨_, _, Hfin.out⟩
          exact AllReadyH.nil
         exact AllReadyH.nil
        exact AllReadyH.nil
       exact AllReadyH.nil
      obtain ⟨vA', vS', hx⟩ := hcut
      have HX4 := Lib.hid hx
      clear hx HS
      go_wp2_with fail
      exact ⟨⟨i + 1, q, vA', vS', by simp, rfl, by omega, HDS2.out, hql, HX4.out⟩, by simp [intOf]; omega⟩
     ·have b0 : ((f : Int) != (a : Int)) = true := by rw [bne_iff_ne]; omega
      have b0' : (f != a) = true := by rw [bne_iff_ne]; exact hfa
      have hds := HDS.out
      rw [if_neg hfa] at hds
      have hnn := dir_none hds (N - (i + 1))
      rw [show i + 1 + (N - (i + 1)) = N by omega] at hnn
      have hc := HC6.out
      rw [hnn] at hc
      have HC7 := Lib.hid hc
      clear hds hnn hc
      go_wp2_with fail
      refine n1.mono ?_
      rintro e w' ⟨rfl, rfl⟩
      go_wp2_with fail
      refine n2.mono ?_
      rintro e w' ⟨rfl, rfl⟩
      go_wp2_with (refine wpList_store_row rfl 94 _ _ rfl w.heap.size zeroD.toArray rfl rfl _ _ HS.out.res (by kernel_rfl) rfl (all_one zeroD_one) ?_)
      refine bodyPost_ret (results_cell_tmp_row rfl _ _ w.heap.size 94 _ (0, 0) _ rfl (HS.out.res.row zeroD) Tryz.underlying94 rfl (by kernel_rfl)) rfl ?_
      exact HNO.out _ _ _ _ 2 HS.out (HOC.out.symm.trans HC7.out) (by decide)
    ·obtain rfl : i = N := by omega
     have e0 : decide ((i : Int) < (i : Int)) = false := decide_eq_false (by omega)
     have e0' : decide (i < i) = false := decide_eq_false hlt
     have hc := HC6.out
     rw [hda] at hc
     dsimp only at hc
     by_cases han : a = n
     ·rw [if_pos han] at hc
      obtain ⟨A1, c1, rfl, hr1, hic1, _, _⟩ := own_rd S.own1
      obtain ⟨A3, c3, rfl, hr3, hic3, _, _⟩ := own_rd S.own2
      have b0 : ((a : Int) != (n : Int)) = false := by rw [han]; simp
      have b0' : (a != n) = false := by rw [han]; simp
      have hbk := S.blk
      rw [HDV.out] at hbk
      have x0 := hbk.cell 0
      have x1 := hbk.cell 1
      have x2 := hbk.cell 2
      have x3 := hbk.cell 3
      have x4 := hbk.cell 4
      have x5 := hbk.cell 5
      have x6 := hbk.cell 6
      have x7 := hbk.cell 7
      have hone := dirV_one L A1 A3 i c1 i c3
      rw [HDV.out] at hone
      have HONE := Lib.hid hone
      have HC7 := Lib.hid hc
      have hks := S.keep.size
      have HFIN : Hid (GotO w L (.returned (.tuple #[.agg (dirV L (.slice A1 i c1) (.slice A3 i c3)).toArray, .int .i64 0])) (wr.setRow w.heap.size (dirV L (.slice A1 i c1) (.slice A3 i c3)).toArray)) := Lib.hid (by
       have hoc : openC L = 0 := HOC.out.symm.trans hc
       have hg : wr.grownBy (wr.setRow w.heap.size (dirV L (.slice A1 i c1) (.slice A3 i c3)).toArray) (some w.heap.size) := ⟨rfl, rfl, rfl, by simp [World.setRow], fun q h1 h2 => setRow_other wr w.heap.size _ q (fun e => h2 (by rw [e]))⟩
       refine ⟨dirV L (.slice A1 i c1) (.slice A3 i c3), by rw [hoc], ⟨rfl, dirV_one _ _ _ _ _ _ _, fun _ => ⟨A1, c1, A3, c3, by rw [← HNc.out], by rw [← HNc.out]; exact hic1, by rw [← HNc.out]; exact hic3, ?_, ?_⟩⟩, Below.row S.keep (Nat.le_refl _) _⟩
       ·rw [← HNc.out]
        exact (hr1.grown hg (fun g e => .inl (by injection e with e; omega))).wide (by omega) (by simp [World.setRow])
       ·rw [← HNc.out]
        exact (hr3.grown hg (fun g e => .inl (by injection e with e; omega))).wide (by omega) (by simp [World.setRow]))
      have hfin := HFIN.out
      rw [HDV.out] at hfin
      have HF2 := Lib.hid hfin
      clear hc S hbk hone hfin hr1 hr3
      go_wp2_with (refine wpList_store_row rfl 94 _ _ rfl w.heap.size _ rfl rfl _ _ HS.out.res (by kernel_rfl) rfl (all_one HONE.out) ?_)
      refine bodyPost_ret (results_cell_tmp_row rfl _ _ w.heap.size 94 _ (0, 0) _ rfl (HS.out.res.row _) Tryz.underlying94 rfl (by kernel_rfl)) rfl ?_
      exact HF2.out
     ·have b0 : ((a : Int) != (n : Int)) = true := by rw [bne_iff_ne]; omega
      have b0' : (a != n) = true := by rw [bne_iff_ne]; exact han
      rw [if_neg han] at hc
      have HC7 := Lib.hid hc
      clear hc
      go_wp2_with (refine wpList_store_row rfl 94 _ _ rfl w.heap.size zeroD.toArray rfl rfl _ _ HS.out.res (by kernel_rfl) rfl (all_one zeroD_one) ?_)
      refine bodyPost_ret (results_cell_tmp_row rfl _ _ w.heap.size 94 _ (0, 0) _ rfl (HS.out.res.row zeroD) Tryz.underlying94 rfl (by kernel_rfl)) rfl ?_
      exact HNO.out _ _ _ _ 5 HS.out (HOC.out.symm.trans HC7.out) (by decide)
  ·have hbad := HBAD.out
   rw [hbb] at hbad
   have hgood := of_decide_eq_true hbad.symm
   have hc := HC.out
   rw [if_pos hgood] at hc
   subst hbb
   have HC2 := Lib.hid hc
   clear hc hbad hgood HC HBAD HOU
   go_wp2_with (refine wpList_store_row rfl 94 _ _ rfl w.heap.size zeroD.toArray rfl rfl _ _ HX.out.res (by kernel_rfl) rfl (all_one zeroD_one) ?_)
   refine bodyPost_ret (results_cell_tmp_row rfl _ _ w.heap.size 94 _ (0, 0) _ rfl (HX.out.res.row zeroD) Tryz.underlying94 rfl (by kernel_rfl)) rfl ?_
   exact HNO.out _ _ _ _ 2 HX.out (HOC.out.symm.trans HC2.out) (by decide)
 ·have m0 : ((numL L 0 4 : Int) != 1296978516) = true := by rw [bne_iff_ne]; omega
  have m0' : (numL L 0 4 != 1296978516) = true := by rw [bne_iff_ne]; exact hmg
  have hc := HOU.out
  rw [if_neg h18, if_pos hmg] at hc
  have HC := Lib.hid hc
  clear hc
  generalize numL L 0 4 = mg at *
  go_enter Tryz.func33, Tryz.ntmps33
  go_wp2_with fail
  refine hn0.mono ?_
  rintro e w' ⟨rfl, rfl⟩
  go_wp2_with (refine wpList_store_row rfl 94 _ _ rfl w.heap.size zeroD.toArray rfl rfl _ _ HRES.out (by kernel_rfl) rfl (all_one zeroD_one) ?_)
  refine bodyPost_ret (results_cell_tmp_row rfl _ _ w.heap.size 94 _ (0, 0) _ rfl (HRES.out.row zeroD) Tryz.underlying94 rfl (by kernel_rfl)) rfl ?_
  exact HNO.out 3 (HOC.out.symm.trans HC.out) (by decide)
end Cht
end Go.Proofs.YtekjehbkmlodmaaGreat
