/-
  The walks of the reference of package wide: magnitudes of 129 bits.
-/
import Derived.Test.YtmiplljcnchjkaaNumP
import Derived.Test.YtmiplljcnchjkaaRootV
namespace Go.Proofs.Ytmiplljcnchjkaa
open Go.RowKit
set_option linter.unusedVariables false
namespace Num

theorem infoA : (Try.prog.info? 30).map (·.size) = some 129 := by kernel_rfl
theorem btA (Z : Nat) : (bt Z).toArray.size = 129 := by rw [List.size_toArray, bt_len]
theorem numA (m : Bool) (Z : Nat) : (num m Z).toArray.size = 130 := by rw [List.size_toArray, num_len]
theorem infoA2 (Z : Nat) : (Try.prog.info? 30).map (·.size) = some (bt Z).toArray.size := by rw [List.size_toArray, bt_len]; exact infoA
theorem infoA3 (Z : Nat) : (Try.prog.info? 30).map (·.size) = some (bt Z).length := by rw [bt_len]; exact infoA
theorem infoN : (Try.prog.info? 32).map (·.size) = some 130 := by kernel_rfl
theorem infoN2 (m : Bool) (Z : Nat) : (Try.prog.info? 32).map (·.size) = some (num m Z).toArray.size := by rw [List.size_toArray, num_len]; exact infoN
theorem infoN3 (m : Bool) (Z : Nat) : (Try.prog.info? 32).map (·.size) = some (num m Z).length := by rw [num_len]; exact infoN
theorem zeroA : ∀ w, (zeroValue 30).run Try.prog w = .ok (.agg (bt 0).toArray) w := fun _ => by kernel_rfl
theorem zeroN : ∀ w, (zeroValue 32).run Try.prog w = .ok (.agg (num false 0).toArray) w := fun _ => by kernel_rfl
set_option maxRecDepth 100000 in
set_option maxHeartbeats 1000000 in
theorem zero_any (m : Bool) (X : Nat) (hX : X < 2 ^ 129) (w : World) :
    Calls Try.prog 49 #[nv m X] w fun e w' => e = .returned (.bool (decide (X = 0))) ∧ Below w.heap.size w w' := by
  have HX := Lib.hid hX
  have hblk := Blk.mk w 32 (num m X)
  have Hblk := Lib.hid hblk
  clear hX hblk
  unfold nv
  generalize hN : (num m X).toArray = aN at *
  have Hblk2 : Hid (Blk (w.alloc (.cells aN 32)) w.heap.size 32 (num m X)) := Lib.hid Hblk.out
  clear hN Hblk
  go_enter Try.func49, Try.ntmps49
  go_wp2
  go_loop [3] (fun i => ∃ j : Nat, j ≤ 129 ∧ i = .int .i64 (j : Int) ∧ ∀ k, k < j → bitN X k = 0) (fun i => 129 - (intOf i).toNat)
  case atStart => exact ⟨0, by omega, rfl, fun k h => by omega⟩
  case round =>
    obtain ⟨j, hj, rfl, hall⟩ := hrel
    have Hall := Lib.hid hall
    clear hall
    by_cases hlt : j < 129
    · have c0 := (Hblk2.out.cell (1 + j)).trans (num_at m X j hlt)
      have hb := bitN_lt X j
      generalize hbb : bitN X j = b at *
      have Hbb := Lib.hid hbb
      clear hbb
      by_cases h0 : b = 0
      · subst h0
        go_wp2
        go_round
        case rel =>
          refine ⟨j + 1, by omega, by go_num, fun k hk => ?_⟩
          by_cases e : k = j
          · subst e; exact Hbb.out
          · exact Hall.out k (by omega)
        case measure => first | (simp [intOf]; done) | (simp [intOf]; omega)
      · obtain rfl : b = 1 := by omega
        have hne : X ≠ 0 := by
          intro e
          have := Hbb.out
          rw [e, bitN_zero] at this
          omega
        have hd : decide (X = 0) = false := decide_eq_false hne
        have Hd := Lib.hid hd
        clear hne hd
        go_wp2
        go_ret
        exact ⟨by rw [Hd.out]; rfl, bl _ _⟩
    · obtain rfl : j = 129 := by omega
      have hd : decide (X = 0) = true := decide_eq_true (zero_of_bits HX.out Hall.out)
      have Hd := Lib.hid hd
      clear hd
      go_wp2
      go_ret
      exact ⟨by rw [Hd.out]; rfl, bl _ _⟩
set_option maxRecDepth 100000 in
set_option maxHeartbeats 1000000 in
theorem word_any (X f : Nat) (hf : f ≤ 64) (w : World) :
    Calls Try.prog 56 #[av X, .int .i64 (f : Int)] w fun e w' => e = .returned (.int .u64 ((X / 2 ^ f % 18446744073709551616 : Nat) : Int)) ∧ Below w.heap.size w w' := by
  have hblk := Blk.mk w 30 (bt X)
  have Hblk := Lib.hid hblk
  clear hblk
  unfold av
  generalize hN : (bt X).toArray = aN at *
  have Hblk2 : Hid (Blk (w.alloc (.cells aN 30)) w.heap.size 30 (bt X)) := Lib.hid Hblk.out
  clear hN Hblk
  go_enter Try.func56, Try.ntmps56
  go_wp2
  go_loop [5, 6] (fun n i => ∃ (j : Int) (k : Nat), -1 ≤ j ∧ j ≤ 63 ∧ i = .int .i64 j ∧ (k : Int) = 63 - j ∧ n = .int .u64 ((X / 2 ^ (f + (64 - k)) % 2 ^ k : Nat) : Int)) (fun _ i => (intOf i + 1).toNat)
  case atStart => exact ⟨63, 0, by omega, by omega, rfl, by omega, by rw [Nat.pow_zero, Nat.mod_one]; rfl⟩
  case round =>
    obtain ⟨j, k, hj1, hj2, rfl, hk, rfl⟩ := hrel
    by_cases h0 : 0 ≤ j
    · obtain ⟨i, rfl⟩ : ∃ i : Nat, j = (i : Int) := ⟨j.toNat, by omega⟩
      have hstep := word_step X k (f + i)
      rw [show f + i + 1 = f + (64 - k) by omega] at hstep
      have hlt : X / 2 ^ (f + (64 - k)) % 2 ^ k < 2 ^ k := Nat.mod_lt _ (Nat.two_pow_pos k)
      have hpk : 2 ^ k ≤ 9223372036854775808 := Nat.le_trans (Nat.pow_le_pow_right (by decide) (show k ≤ 63 by omega)) (by decide)
      have c0 := (Hblk2.out.cell (f + i)).trans (bt_at X (f + i) (by omega))
      have hb := bitN_lt X (f + i)
      have hs2 : X / 2 ^ (f + i) % 2 ^ (k + 1) = X / 2 ^ (f + (64 - (k + 1))) % 2 ^ (k + 1) := by rw [show f + (64 - (k + 1)) = f + i by omega]
      rw [hs2] at hstep
      have Hstep := Lib.hid hstep
      clear hstep hs2
      generalize X / 2 ^ (f + (64 - k)) % 2 ^ k = n at *
      generalize bitN X (f + i) = b at *
      have u1 : IntKind.u64.wrap (2 * (n : Int)) = 2 * (n : Int) := IntWalk.u64_in _ (by omega)
      have u2 : IntKind.u64.wrap (b : Int) = (b : Int) := IntWalk.u64_in _ (by omega)
      have u3 : IntKind.u64.wrap (2 * (n : Int) + (b : Int)) = ((2 * n + b : Nat) : Int) := by rw [IntWalk.u64_in _ (by omega)]; omega
      have u4 : IntKind.i64.wrap ((i : Int) - 1) = (i : Int) - 1 := IntWalk.i64_in _ (by omega)
      have u5 : IntKind.i64.wrap ((f : Int) + (i : Int)) = ((f + i : Nat) : Int) := by rw [IntWalk.i64_in _ (by omega)]; omega
      have i1 : ((f + i : Nat) : Int) < 129 := by omega
      have i0 : (0 : Int) ≤ ((f + i : Nat) : Int) := by omega
      clear hlt hpk
      obtain ⟨fi, hfi⟩ : ∃ fi, fi = f + i := ⟨_, rfl⟩
      rw [← hfi] at c0 u5 i1 i0
      clear hfi
      go_wp2
      go_round
      case rel => exact ⟨(i : Int) - 1, k + 1, by omega, by omega, rfl, by omega, by rw [← Hstep.out]; first | rfl | go_num⟩
      case measure => first | (simp [intOf]; done) | (simp [intOf]; omega)
    · have hje : j = -1 := Int.le_antisymm (by omega) hj1
      have hke : k = 64 := by omega
      subst hje
      subst hke
      go_wp2
      go_ret
      exact ⟨rfl, bl _ _⟩
set_option maxRecDepth 100000 in
set_option maxHeartbeats 1000000 in
theorem less_any (X Y : Nat) (hX : X < 2 ^ 129) (hY : Y < 2 ^ 129) (w : World) :
    Calls Try.prog 50 #[av X, av Y] w fun e w' => e = .returned (.bool (decide (X < Y))) ∧ Below w.heap.size w w' := by
  have hst : X / 2 ^ 129 = Y / 2 ^ 129 := by rw [Nat.div_eq_of_lt hX, Nat.div_eq_of_lt hY]
  have Hst := Lib.hid hst
  have hb1 := (Blk.mk w 30 (bt X)).alloc (.cells (bt Y).toArray 30)
  have hb2 := Blk.mk (w.alloc (.cells (bt X).toArray 30)) 30 (bt Y)
  have hbl := _root_.Go.Proofs.Ytmiplljcnchjkaa.bt (bl w (.cells (bt X).toArray 30)) (bl _ (.cells (bt Y).toArray 30))
  have Hb1 := Lib.hid hb1
  have Hb2 := Lib.hid hb2
  have Hbl := Lib.hid hbl
  clear hst hb1 hb2 hbl hX hY
  unfold av
  generalize (bt X).toArray = aX at *
  generalize (bt Y).toArray = aY at *
  go_enter Try.func50, Try.ntmps50
  go_wp2
  have Hz : Hid ((w.alloc (.cells aX 30)).heap.size = w.heap.size + 1) := Lib.hid (by simp)
  have Hb2' : Hid (Blk ((w.alloc (.cells aX 30)).alloc (.cells aY 30)) (w.heap.size + 1) 30 (bt Y)) := Lib.hid (by have := Hb2.out; rw [Hz.out] at this; exact this)
  clear Hb2 Hz
  generalize (w.alloc (.cells aX 30)).alloc (.cells aY 30) = W at *
  go_loopw [5] (fun i wr => ∃ (j : Int) (q : Nat), -1 ≤ j ∧ j ≤ 128 ∧ i = .int .i64 j ∧ X / 2 ^ (j + 1).toNat = Y / 2 ^ (j + 1).toNat ∧ wr = W.drewN q) (fun i _ => (intOf i + 1).toNat)
  case atStart => exact ⟨128, 0, by omega, by omega, rfl, Hst.out, rfl⟩
  case round =>
    obtain ⟨j, q, hj1, hj2, rfl, hsame, hwr⟩ := hrel
    have Hsame := Lib.hid hsame
    have Hr1 : Hid (Blk wr w.heap.size 30 (bt X)) := Lib.hid (by rw [hwr]; exact Hb1.out.drewN q)
    have Hr2 : Hid (Blk wr (w.heap.size + 1) 30 (bt Y)) := Lib.hid (by rw [hwr]; exact Hb2'.out.drewN q)
    have Hwr := Lib.hid hwr
    clear hsame hwr
    by_cases h0 : 0 ≤ j
    · obtain ⟨i, rfl⟩ : ∃ i : Nat, j = (i : Int) := ⟨j.toNat, by omega⟩
      have hsame := Hsame.out
      rw [show ((i : Int) + 1).toNat = i + 1 by omega] at hsame
      have hdx := div_next X i
      have hdy := div_next Y i
      rw [hsame] at hdx
      have c0 := (Hr1.out.cell i).trans (bt_at X i (by omega))
      have c1 := (Hr2.out.cell i).trans (bt_at Y i (by omega))
      have hbx := bitN_lt X i
      have hby := bitN_lt Y i
      have hlt1 := fun h => lt_of_div (X := X) (Y := Y) (i := i) h
      have hlt2 := fun h => lt_of_div (X := Y) (Y := X) (i := i) h
      generalize bitN X i = bx at *
      generalize bitN Y i = bY at *
      have i1 : (i : Int) < 129 := by omega
      have u4 : IntKind.i64.wrap ((i : Int) - 1) = (i : Int) - 1 := IntWalk.i64_in _ (by omega)
      by_cases he : bx = bY
      · subst he
        have hn : X / 2 ^ i = Y / 2 ^ i := by omega
        have Hn := Lib.hid hn
        clear hn hdx hdy hsame hlt1 hlt2
        go_wp2
        go_quiet (fail)
        go_wp2
        go_roundw
        case rel => exact ⟨(i : Int) - 1, _, by omega, by omega, rfl, by rw [show ((i : Int) - 1 + 1).toNat = i by omega]; exact Hn.out, by rw [Hwr.out, World.drewN_drewN]⟩
        case measure => first | (simp [intOf]; done) | (simp [intOf]; omega)
      · have hcase : (bx = 0 ∧ bY = 1 ∧ decide (X < Y) = true) ∨ (bx = 1 ∧ bY = 0 ∧ decide (X < Y) = false) := by
          have h : (bx = 0 ∧ bY = 1) ∨ (bx = 1 ∧ bY = 0) := by omega
          rcases h with ⟨h1, h2⟩ | ⟨h1, h2⟩
          · exact .inl ⟨h1, h2, decide_eq_true (hlt1 (by omega))⟩
          · have := hlt2 (by omega)
            exact .inr ⟨h1, h2, decide_eq_false (by omega)⟩
        clear hdx hdy hsame hlt1 hlt2 he hbx hby
        rcases hcase with ⟨rfl, rfl, hd⟩ | ⟨rfl, rfl, hd⟩
        all_goals
          have Hd := Lib.hid hd
          clear hd
          go_wp2
          go_quiet (fail)
          go_wp2
          go_quiet (fail)
          go_wp2
          go_ret
          exact ⟨by rw [Hd.out]; rfl, by rw [Hwr.out]; exact below_drewN (below_drewN (below_drewN Hbl.out _) _) _⟩
    · have hje : j = -1 := Int.le_antisymm (by omega) hj1
      subst hje
      have he : X = Y := by
        have := Hsame.out
        rw [show ((-1 : Int) + 1).toNat = 0 by decide, Nat.pow_zero, Nat.div_one, Nat.div_one] at this
        exact this
      have hd : decide (X < Y) = false := decide_eq_false (by omega)
      have Hd := Lib.hid hd
      clear hd he
      go_wp2
      go_ret
      exact ⟨by rw [Hd.out]; rfl, by rw [Hwr.out]; exact below_drewN Hbl.out _⟩
set_option maxRecDepth 100000 in
set_option maxHeartbeats 1000000 in
theorem addBits_any (X Y Z : Nat) (hZ : (X + Y) % 2 ^ 129 = Z) (w : World) :
    Calls Try.prog 52 #[av X, av Y] w fun e w' => e = .returned (av Z) ∧ Below w.heap.size w w' := by
  have HZ := Lib.hid hZ
  clear hZ
  have hzA := zeroA
  have b0 := bl w (.cells (bt X).toArray 30)
  have b1 := bl (w.alloc (.cells (bt X).toArray 30)) (.cells (bt Y).toArray 30)
  have b2 := bl ((w.alloc (.cells (bt X).toArray 30)).alloc (.cells (bt Y).toArray 30)) (.cells (bt 0).toArray 30)
  have b3 := bl (((w.alloc (.cells (bt X).toArray 30)).alloc (.cells (bt Y).toArray 30)).alloc (.cells (bt 0).toArray 30)) (.cells (bt 0).toArray 30)
  have k0 := (((Blk.mk w 30 (bt X)).alloc (.cells (bt Y).toArray 30)).alloc (.cells (bt 0).toArray 30)).alloc (.cells (bt 0).toArray 30)
  have k1 := ((Blk.mk (w.alloc (.cells (bt X).toArray 30)) 30 (bt Y)).alloc (.cells (bt 0).toArray 30)).alloc (.cells (bt 0).toArray 30)
  have k2 := (Blk.mk ((w.alloc (.cells (bt X).toArray 30)).alloc (.cells (bt Y).toArray 30)) 30 (bt 0)).alloc (.cells (bt 0).toArray 30)
  have k3 := Blk.mk (((w.alloc (.cells (bt X).toArray 30)).alloc (.cells (bt Y).toArray 30)).alloc (.cells (bt 0).toArray 30)) 30 (bt 0)
  rw [show (w.alloc (.cells (bt X).toArray 30)).heap.size = w.heap.size + 1 by simp] at k1
  rw [show ((w.alloc (.cells (bt X).toArray 30)).alloc (.cells (bt Y).toArray 30)).heap.size = w.heap.size + 1 + 1 by simp] at k2
  rw [show (((w.alloc (.cells (bt X).toArray 30)).alloc (.cells (bt Y).toArray 30)).alloc (.cells (bt 0).toArray 30)).heap.size = w.heap.size + 1 + 1 + 1 by simp] at k3
  have bb := _root_.Go.Proofs.Ytmiplljcnchjkaa.bt b0 (_root_.Go.Proofs.Ytmiplljcnchjkaa.bt b1 (_root_.Go.Proofs.Ytmiplljcnchjkaa.bt b2 b3))
  have K0 := Lib.hid k0
  have K1 := Lib.hid k1
  have K2 := Lib.hid k2
  have K3 := Lib.hid k3
  have BB := Lib.hid bb
  clear b0 b1 b2 b3 k0 k1 k2 k3 bb
  unfold av
  go_enter Try.func52, Try.ntmps52
  go_wp2
  generalize (((w.alloc (.cells (bt X).toArray 30)).alloc (.cells (bt Y).toArray 30)).alloc (.cells (bt 0).toArray 30)).alloc (.cells (bt 0).toArray 30) = W at *
  clear hzA
  go_loopw [6, 7, 8] (fun c i _ wr => ∃ j : Nat, j ≤ 129 ∧ i = .int .i64 (j : Int) ∧ c = .int .i64 (carry X Y j : Int) ∧ Below w.heap.size w wr ∧ Blk wr w.heap.size 30 (bt X) ∧ Blk wr (w.heap.size + 1) 30 (bt Y) ∧ Blk wr (w.heap.size + 1 + 1) 30 (bt 0) ∧ Blk wr (w.heap.size + 1 + 1 + 1) 30 (bt ((X + Y) % 2 ^ j))) (fun _ i _ _ => 129 - (intOf i).toNat)
  case atStart => exact ⟨0, by omega, rfl, by unfold carry; rw [Nat.pow_zero, Nat.mod_one, Nat.mod_one]; rfl, BB.out, K0.out, K1.out, K2.out, by rw [Nat.pow_zero, Nat.mod_one]; exact K3.out⟩
  case round =>
    clear K0 K1 K2 K3 BB
    obtain ⟨j, hj, rfl, rfl, hb, k0, k1, k2, k3⟩ := hrel
    have K0 := Lib.hid k0
    have K1 := Lib.hid k1
    have K2 := Lib.hid k2
    have K3 := Lib.hid k3
    have Hb := Lib.hid hb
    clear hb k0 k1 k2 k3
    by_cases hlt : j < 129
    · have c0 := (K0.out.cell j).trans (bt_at X j hlt)
      have c1 := (K1.out.cell j).trans (bt_at Y j hlt)
      have c3 := (K3.out.cell j).trans (bt_at _ j hlt)
      have f3 := K3.out.free j
      obtain ⟨s1, s2, s3⟩ := carry_step X Y j
      have hst := bt_step (X + Y) j hlt
      have hbx := bitN_lt X j
      have hby := bitN_lt Y j
      rw [← s1] at hst
      have Hst := Lib.hid hst
      have Hs2 := Lib.hid s2
      clear hst s1 s2
      generalize bitN X j = x at *
      generalize bitN Y j = y at *
      generalize carry X Y j = c at *
      have i1 : (j : Int) < 129 := by omega
      have u1 : IntKind.i64.wrap ((x : Int) + (y : Int)) = (x : Int) + (y : Int) := IntWalk.i64_in _ (by omega)
      obtain ⟨s, hs⟩ : ∃ s, s = x + y + c := ⟨_, rfl⟩
      have u2 : IntKind.i64.wrap ((x : Int) + (y : Int) + (c : Int)) = (s : Int) := by rw [IntWalk.i64_in _ (by omega)]; omega
      rw [← hs] at Hst Hs2
      obtain ⟨r, hr⟩ : ∃ r, r = s % 2 := ⟨_, rfl⟩
      obtain ⟨d, hd⟩ : ∃ d, d = s / 2 := ⟨_, rfl⟩
      have e1 : (s : Int) % 2 = (r : Int) := by omega
      have e2 : (s : Int).tmod 2 = (r : Int) := by rw [Int.tmod_eq_emod_of_nonneg (by omega)]; exact e1
      have e3 : (s : Int) / 2 = (d : Int) := by omega
      have e4 : (s : Int).tdiv 2 = (d : Int) := by rw [Int.tdiv_eq_ediv_of_nonneg (by omega)]; exact e3
      have u3 : IntKind.i64.wrap (r : Int) = (r : Int) := IntWalk.i64_in _ (by omega)
      have u4 : IntKind.i64.wrap (d : Int) = (d : Int) := IntWalk.i64_in _ (by omega)
      rw [← hr] at Hst
      rw [← hd] at Hs2
      clear hs hr hd
      go_wp2
      go_quiet (fail)
      go_wp2
      go_roundw
      case rel =>
        have q3 := K3.out.put j (.int .i64 (r : Int))
        rw [Hst.out] at q3
        exact ⟨j + 1, by omega, by go_num, by rw [← Hs2.out], (below_drewN Hb.out _).setCell (show w.heap.size ≤ w.heap.size + 1 + 1 + 1 by omega) _, (K0.out.drewN _).far (p := ⟨w.heap.size + 1 + 1 + 1, j, none⟩) (show w.heap.size ≠ w.heap.size + 1 + 1 + 1 by omega) _, (K1.out.drewN _).far (p := ⟨w.heap.size + 1 + 1 + 1, j, none⟩) (show w.heap.size + 1 ≠ w.heap.size + 1 + 1 + 1 by omega) _, (K2.out.drewN _).far (p := ⟨w.heap.size + 1 + 1 + 1, j, none⟩) (show w.heap.size + 1 + 1 ≠ w.heap.size + 1 + 1 + 1 by omega) _, q3⟩
      case measure => first | (simp [intOf]; done) | (simp [intOf]; omega)
    · obtain rfl : j = 129 := by omega
      have k3 := K3.out
      rw [HZ.out] at k3
      have r3 := arr_range k3
      have t2 : wr.there (w.heap.size + 1 + 1) 0 (bt Z).toArray.size := by rw [btA]; exact blk_there K2.out 0 129 (by rw [bt_len]; decide)
      clear k3
      go_wp2_with (first
        | (refine wpList_load_mid rfl 30 _ rfl (w.heap.size + 1 + 1 + 1) 0 rfl (bt Z) _ r3 Try.underlying30 rfl (infoA3 _) ?_)
        | (refine wpList_store_mid rfl 30 _ _ rfl (w.heap.size + 1 + 1) 0 (bt Z).toArray rfl rfl t2 (infoA2 Z) (all_oneCell_toArray (bt_one _)) ?_))
      refine bodyPost_ret (results_cell_row rfl _ _ (w.heap.size + 1 + 1) 30 (bt Z).toArray (0, 0) _ rfl (full_mid K2.out _ (by rw [bt_len, bt_len])) Try.underlying30 rfl (infoA2 _)) rfl ?_
      exact ⟨rfl, below_cells _ _ _ _ Hb.out (by omega)⟩
end Num
end Go.Proofs.Ytmiplljcnchjkaa
