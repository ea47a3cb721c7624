/-
  The walks of the reference: the logarithm, and how much ground tells.
-/
import Derived.Test.YtmiplljcnchjkaaSurW
import Derived.Deep.DeepCutAuto
namespace Go.Proofs.Ytmiplljcnchjkaa
open Go.RowKit
set_option linter.unusedVariables false
namespace Sur
open Num (bitN bitN_lt word_step num num_len num_at nv num_one infoN2 infoN3 zeroN numA nums_range full_mid blk_there below_cells of_pos mul_any div0_any)

set_option maxRecDepth 100000 in
set_option maxHeartbeats 1000000 in
theorem shifted_any (X q : Nat) (hq : X / 2 ^ 62 % 2 ^ 64 = q) (w : World) :
    Calls Try.prog 85 #[nv false X, .int .i64 62] w fun e w' => e = .returned (.int .u64 (q : Int)) ∧ Below w.heap.size w w' := by
  have hblk := Blk.mk w 32 (num false X)
  have Hblk := Lib.hid hblk
  have HQ := Lib.hid hq
  clear hblk hq
  unfold nv
  generalize hN : (num false X).toArray = aN at *
  have Hblk2 : Hid (Blk (w.alloc (.cells aN 32)) w.heap.size 32 (num false X)) := Lib.hid Hblk.out
  clear hN Hblk
  go_enter Try.func85, Try.ntmps85
  go_wp2
  go_loop [5, 6] (fun n i => ∃ (j : Int) (k : Nat), -1 ≤ j ∧ j ≤ 63 ∧ i = .int .i64 j ∧ (k : Int) = 63 - j ∧ n = .int .u64 ((X / 2 ^ (62 + (64 - k)) % 2 ^ k : Nat) : Int)) (fun _ i => (intOf i + 1).toNat)
  case atStart => exact ⟨63, 0, by omega, by omega, rfl, by omega, by rw [Nat.pow_zero, Nat.mod_one]; rfl⟩
  case round =>
    obtain ⟨j, k, hj1, hj2, rfl, hk, rfl⟩ := hrel
    by_cases h0 : 0 ≤ j
    · obtain ⟨i, rfl⟩ : ∃ i : Nat, j = (i : Int) := ⟨j.toNat, by omega⟩
      have hstep := word_step X k (62 + i)
      rw [show 62 + i + 1 = 62 + (64 - k) by omega] at hstep
      have hlt : X / 2 ^ (62 + (64 - k)) % 2 ^ k < 2 ^ k := Nat.mod_lt _ (Nat.two_pow_pos k)
      have hpk : 2 ^ k ≤ 9223372036854775808 := Nat.le_trans (Nat.pow_le_pow_right (by decide) (show k ≤ 63 by omega)) (by decide)
      have c0 := (Hblk2.out.cell (1 + (62 + i))).trans (num_at false X (62 + i) (by omega))
      have hb := bitN_lt X (62 + i)
      have hs2 : X / 2 ^ (62 + i) % 2 ^ (k + 1) = X / 2 ^ (62 + (64 - (k + 1))) % 2 ^ (k + 1) := by rw [show 62 + (64 - (k + 1)) = 62 + i by omega]
      rw [hs2] at hstep
      have Hstep := Lib.hid hstep
      clear hstep hs2
      generalize X / 2 ^ (62 + (64 - k)) % 2 ^ k = n at *
      generalize bitN X (62 + i) = b at *
      obtain ⟨n2, hn2⟩ : ∃ n2, n2 = 2 * n := ⟨_, rfl⟩
      have u1 : IntKind.u64.wrap (2 * (n : Int)) = (n2 : Int) := by rw [IntWalk.u64_in _ (by omega)]; omega
      have u3 : IntKind.u64.wrap ((n2 : Int) + 1) = ((n2 + 1 : Nat) : Int) := by rw [IntWalk.u64_in _ (by omega)]; omega
      have u4 : IntKind.i64.wrap ((i : Int) - 1) = (i : Int) - 1 := IntWalk.i64_in _ (by omega)
      obtain ⟨fi, hfi⟩ : ∃ fi, fi = 62 + i := ⟨_, rfl⟩
      have u5 : IntKind.i64.wrap ((i : Int) + 62) = (fi : Int) := by rw [IntWalk.i64_in _ (by omega)]; omega
      have i1 : (fi : Int) < 129 := by omega
      have i0 : (0 : Int) ≤ (fi : Int) := by omega
      rw [← hfi] at c0
      rw [← hn2] at Hstep
      have hb01 : b = 0 ∨ b = 1 := by omega
      clear hlt hpk hfi hn2 hb
      rcases hb01 with rfl | rfl
      · go_wp2
        go_round
        case rel => exact ⟨(i : Int) - 1, k + 1, by omega, by omega, rfl, by omega, by rw [← Hstep.out]; first | rfl | go_num⟩
        case measure => first | (simp [intOf]; done) | (simp [intOf]; omega)
      · go_wp2
        go_round
        case rel => exact ⟨(i : Int) - 1, k + 1, by omega, by omega, rfl, by omega, by rw [← Hstep.out]; first | rfl | go_num⟩
        case measure => first | (simp [intOf]; done) | (simp [intOf]; omega)
    · have hje : j = -1 := Int.le_antisymm (by omega) hj1
      have hke : k = 64 := by omega
      subst hje
      subst hke
      have hqq := HQ.out
      rw [show 62 + (64 - 64) = 62 by rfl, hqq]
      go_wp2
      go_ret
      exact ⟨rfl, bl _ _⟩
set_option maxRecDepth 100000 in
set_option maxHeartbeats 1000000 in
theorem square_any (m q : Nat) (hm : m < 9223372036854775808) (hq : m * m / 2 ^ 62 = q) (hq2 : q < 18446744073709551616) (w : World) :
    Calls Try.prog 76 #[.int .u64 (m : Int)] w fun e w' => e = .returned (.int .u64 (q : Int)) ∧ Below w.heap.size w w' := by
  obtain ⟨P, hP⟩ : ∃ P, m * m = P := ⟨_, rfl⟩
  have hmu := mul_any (m : Int) (m : Int) false m m P (fun w => of_pos m hm w) (fun w => of_pos m hm w) (by omega) (by omega) hP
  rw [hP] at hq
  have hsh := shifted_any P q (by rw [hq]; exact Nat.mod_eq_of_lt (by omega))
  have u1 : IntKind.i64.wrap (m : Int) = (m : Int) := IntWalk.i64_in _ (by omega)
  have hzN := zeroN
  obtain ⟨L0, hL0⟩ : ∃ L0, L0 = num false 0 := ⟨_, rfl⟩
  have hnl : L0.length = 130 := by rw [hL0]; exact num_len _ _
  rw [← hL0] at hzN
  have Hnl := Lib.hid hnl
  clear hL0 hnl hP hq hm
  go_enter Try.func76, Try.ntmps76
  go_wp2_with fail
  refine (hmu _).mono ?_
  rintro e w2 ⟨rfl, hb2⟩
  have K := Lib.hid (full_mid (Blk.mk w2 32 L0) (num false P) (by rw [num_len, Hnl.out]))
  have B := Lib.hid (bt hb2 (below_cells (num false P) _ w2.heap.size 0 (bl w2 (.cells L0.toArray 32)) (Nat.le_refl _)))
  have T : Hid ((w2.alloc (.cells L0.toArray 32)).there w2.heap.size 0 (num false P).toArray.size) := Lib.hid (by rw [numA]; exact blk_there (Blk.mk w2 32 L0) 0 130 (by rw [Hnl.out]; decide))
  have iN := infoN2 false P
  have oN := num_one false P
  clear hb2 hmu
  unfold nv
  go_wp2_with (first
    | (refine wpList_store_mid rfl 32 _ _ rfl w2.heap.size 0 (num false P).toArray rfl rfl ?ht iN (all_oneCell_toArray oN) ?_; (case ht => exact T.out); generalize (w2.alloc (.cells L0.toArray 32)).setCells w2.heap.size 0 (num false P) = w3 at *)
    | (refine wpList_load_mid rfl 32 _ rfl w2.heap.size 0 rfl (num false P) _ ?hr Try.underlying32 rfl (infoN3 _ _) ?_; (case hr => exact nums_range K.out)))
  refine (hsh _).mono ?_
  rintro e w4 ⟨rfl, hb4⟩
  have B4 := Lib.hid (bt B.out hb4)
  clear hb4
  go_wp2_with fail
  go_ret
  exact ⟨rfl, B4.out⟩
theorem log_is {x k : Nat} (h1 : 1 ≤ x) (h : x / 2 ^ k = 1) : x.log2 = k := by
  refine (Nat.log2_eq_iff (by omega)).2 ⟨?_, ?_⟩
  · rcases Nat.lt_or_ge x (2 ^ k) with h' | h'
    · rw [Nat.div_eq_of_lt h'] at h; cases h
    · exact h'
  · have := Nat.lt_div_mul_add (a := x) (b := 2 ^ k) (Nat.two_pow_pos k)
    rw [h] at this
    rw [Nat.pow_succ]
    omega
theorem mant_low {x : Nat} (h : x.log2 ≤ 62) : x * 2 ^ (62 - x.log2) = mant x := by
  unfold mant
  rw [if_neg (by omega)]
theorem mant_high {x : Nat} (h : x.log2 = 63) : x / 2 = mant x := by
  unfold mant
  rw [if_pos h]
set_option maxRecDepth 100000 in
set_option maxHeartbeats 2000000 in
theorem logR_any (x : Nat) (h1 : 1 ≤ x) (hx : x < 18446744073709551616) (w : World) :
    Calls Try.prog 65 #[.int .u64 (x : Int)] w fun e w' => e = .returned (.tuple #[.int .i64 (logL x : Int), .int .i64 0]) ∧ Below w.heap.size w w' := by
  have hl := log_lt h1 hx
  have HM := Lib.hid (fun i => logS_man h1 hx i)
  have HL := Lib.hid (fun i hi => logS_lt h1 hx i hi)
  have HN : Hid (logS x 0 = (x.log2, mant x)) := Lib.hid rfl
  have HB := Lib.hid (log_bounds h1)
  have HX := Lib.hid hx
  have x0 : ((x : Int) == 0) = false := by rw [beq_eq_false_iff_ne]; omega
  clear hx
  go_enter Try.func65, Try.ntmps65
  go_wp2_with fail
  go_loop [4, 5] (fun n y => ∃ k z : Nat, n = .int .i64 (k : Int) ∧ y = .int .u64 (z : Int) ∧ z = x / 2 ^ k ∧ 1 ≤ z) (fun _ y => (intOf y).toNat)
  case atStart => exact ⟨0, x, rfl, rfl, by rw [Nat.pow_zero, Nat.div_one], h1⟩
  case round =>
    obtain ⟨k, z, rfl, rfl, hz, hz1⟩ := hrel
    have HZ := Lib.hid hz
    have hzx : z ≤ x := by rw [hz]; exact Nat.div_le_self _ _
    have hzl : z < 18446744073709551616 := Nat.lt_of_le_of_lt hzx HX.out
    have hkl : k ≤ 63 := by
      rcases Nat.lt_or_ge 63 k with h' | h'
      · have : 2 ^ 64 ≤ 2 ^ k := Nat.pow_le_pow_right (by decide) (by omega)
        have h2 := HX.out
        rw [Nat.div_eq_of_lt (Nat.lt_of_lt_of_le h2 (by omega))] at hz
        omega
      · exact h'
    clear hz hzx
    by_cases hgt : 1 < z
    · obtain ⟨z2, hz2⟩ : ∃ z2, z2 = z / 2 := ⟨_, rfl⟩
      have e1 : (z : Int) / 2 = (z2 : Int) := by omega
      have e2 : (z : Int).tdiv 2 = (z2 : Int) := by rw [Int.tdiv_eq_ediv_of_nonneg (by omega)]; exact e1
      have u1 : IntKind.u64.wrap (z2 : Int) = (z2 : Int) := IntWalk.u64_in _ (by omega)
      have u2 : IntKind.i64.wrap ((k : Int) + 1) = ((k + 1 : Nat) : Int) := by rw [IntWalk.i64_in _ (by omega)]; omega
      have HZ2 : Hid (z2 = x / 2 ^ (k + 1) ∧ 1 ≤ z2 ∧ z2 < z) := Lib.hid ⟨by rw [hz2, HZ.out, Nat.pow_succ, Nat.div_div_eq_div_mul], by omega, by omega⟩
      have d1 : decide ((1 : Int) < (z : Int)) = true := decide_eq_true (by omega)
      clear hz2
      go_wp2_with fail
      go_round
      case rel => exact ⟨k + 1, z2, by go_num, rfl, HZ2.out.1, HZ2.out.2.1⟩
      case measure => have := HZ2.out.2.2; simp [intOf]; omega
    · have hz11 : z = 1 := by omega
      have hlog := log_is h1 (by rw [← HZ.out, hz11])
      have d1 : decide ((1 : Int) < (z : Int)) = false := decide_eq_false (by omega)
      have hm1 : Hid (∃ m1 : Nat, m1 = (if k = 63 then x / 2 else x)) := Lib.hid ⟨_, rfl⟩
      obtain ⟨m1, hm1⟩ := hm1.out
      have HM1 := Lib.hid hm1
      have HK := Lib.hid hlog
      have hm1x : m1 ≤ x := by rw [hm1]; split <;> omega
      have hstart : Hid (∀ i, k ≤ i → i ≤ 62 → m1 * 2 ^ (i - k) = x * 2 ^ (i - k) ∧ x * 2 ^ (i - k) < 2 ^ (i + 1)) := Lib.hid (fun i hi hi2 => by
        refine ⟨by rw [hm1, if_neg (by omega)], ?_⟩
        have h4 := Nat.mul_lt_mul_of_pos_right HB.out.2 (Nat.two_pow_pos (i - k))
        rw [hlog] at h4
        have e2 : 2 ^ (k + 1) * 2 ^ (i - k) = 2 ^ (i + 1) := by rw [← Nat.pow_add]; congr 1; omega
        rwa [e2] at h4)
      have hend : Hid ((k ≤ 62 → m1 * 2 ^ (62 - k) = mant x) ∧ (62 < k → m1 = mant x)) := Lib.hid ⟨fun h => by rw [hm1, if_neg (by omega), ← hlog]; exact mant_low (by omega), fun h => by rw [hm1, if_pos (by omega)]; exact mant_high (by omega)⟩
      clear hm1 hlog hz11 hgt hzl hz1 HZ
      obtain ⟨xh, hxh⟩ : ∃ xh, xh = x / 2 := ⟨_, rfl⟩
      have f1 : (x : Int) / 2 = (xh : Int) := by omega
      have f2 : (x : Int).tdiv 2 = (xh : Int) := by rw [Int.tdiv_eq_ediv_of_nonneg (by omega)]; exact f1
      have f3 : IntKind.u64.wrap (xh : Int) = (xh : Int) := IntWalk.u64_in _ (by have := HX.out; omega)
      have HXH := Lib.hid hxh
      clear hxh
      go_upto_if 21 with fail
      go_cut [4, 6] (fun s4 s6 wx => s4 = .int .i64 (k : Int) ∧ s6 = .int .u64 (m1 : Int) ∧ wx = w)
      case first =>
        by_cases hk63 : k = 63
        · have d2 : ((k : Int) == 63) = true := by rw [beq_iff_eq]; omega
          go_wp2_with fail
          go_meet
          exact ⟨by rw [hk63]; rfl, by rw [HM1.out, if_pos hk63, HXH.out], rfl⟩
        · have d2 : ((k : Int) == 63) = false := by rw [beq_eq_false_iff_ne]; omega
          go_wp2_with fail
          go_meet
          exact ⟨rfl, by rw [HM1.out, if_neg hk63], rfl⟩
      obtain ⟨rfl, rfl, rfl⟩ := hcut
      have hm0 : Hid (k ≤ 62 → m1 = x) := Lib.hid (fun h => by rw [HM1.out, if_neg (by omega)])
      clear f1 f2 f3 HXH d1
      go_wp2_with fail
      go_loop [6, 7] (fun m i => ∃ v j : Nat, m = .int .u64 (v : Int) ∧ i = .int .i64 (j : Int) ∧ k ≤ j ∧ (j ≤ 62 ∨ j = k) ∧ v = m1 * 2 ^ (j - k)) (fun _ i => 62 - (intOf i).toNat)
      case atStart => exact ⟨m1, k, rfl, rfl, Nat.le_refl _, .inr rfl, by rw [Nat.sub_self, Nat.pow_zero, Nat.mul_one]⟩
      case round =>
        obtain ⟨v, j, rfl, rfl, hj1, hj2, hv⟩ := hrel
        have HV := Lib.hid hv
        clear hv
        by_cases hj : j < 62
        · have hb := hstart.out (j + 1) (by omega) (by omega)
          rw [show j + 1 - k = (j - k) + 1 by omega, Nat.pow_succ, ← Nat.mul_assoc, ← Nat.mul_assoc] at hb
          rw [← HV.out] at hb
          have hp : (2 : Nat) ^ (j + 1 + 1) ≤ 2 ^ 63 := Nat.pow_le_pow_right (by decide) (by omega)
          have hv2 : v * 2 < 2 ^ 63 := by rw [hb.1]; exact Nat.lt_of_lt_of_le hb.2 hp
          obtain ⟨v2, hv2e⟩ : ∃ v2, v2 = v * 2 := ⟨_, rfl⟩
          rw [← hv2e] at hv2
          have u1 : IntKind.u64.wrap (2 * (v : Int)) = (v2 : Int) := by rw [IntWalk.u64_in _ (by omega)]; omega
          have HV2 : Hid (v2 = m1 * 2 ^ (j + 1 - k)) := Lib.hid (by rw [hv2e, HV.out, show j + 1 - k = (j - k) + 1 by omega, Nat.pow_succ, Nat.mul_assoc])
          have u2 : IntKind.i64.wrap ((j : Int) + 1) = ((j + 1 : Nat) : Int) := by rw [IntWalk.i64_in _ (by omega)]; omega
          have d1 : decide ((j : Int) < 62) = true := decide_eq_true (by omega)
          clear hb hp hv2 hv2e
          go_wp2_with fail
          go_round
          case rel => exact ⟨v2, j + 1, rfl, by go_num, by omega, .inl (by omega), HV2.out⟩
          case measure => simp [intOf]; omega
        · have d1 : decide ((j : Int) < 62) = false := decide_eq_false (by omega)
          have hvm : v = mant x := by
            by_cases hk62 : k ≤ 62
            · rw [HV.out, show j = 62 by omega]
              exact hend.out.1 hk62
            · rw [HV.out, show j = k by omega, Nat.sub_self, Nat.pow_zero, Nat.mul_one]
              exact hend.out.2 (by omega)
          have HS0 : Hid (logS x 0 = (k, v)) := Lib.hid (by rw [HN.out, hvm, HK.out])
          clear hvm
          go_wp2_with fail
          go_loopw [6, 8, 9] (fun m o i wr => ∃ j : Nat, j ≤ 16 ∧ i = .int .i64 (j : Int) ∧ m = .int .u64 ((logS x j).2 : Int) ∧ o = .int .i64 ((logS x j).1 : Int) ∧ Below wc.heap.size wc wr) (fun _ _ i _ => 16 - (intOf i).toNat)
          case atStart => exact ⟨0, by omega, rfl, by rw [HS0.out], by rw [HS0.out], Below.refl _ _⟩
          case round =>
            obtain ⟨j, hj, rfl, rfl, rfl, hbw⟩ := hrel
            have HBW := Lib.hid hbw
            clear hbw
            by_cases hlt : j < 16
            · have hman := HM.out j
              have ho := HL.out j hj
              have hnx : Hid (logS x (j + 1) = lstep (logS x j)) := Lib.hid rfl
              obtain ⟨⟨o, m⟩, hom⟩ : ∃ p : Nat × Nat, p = logS x j := ⟨_, rfl⟩
              rw [← hom] at hman ho hnx ⊢
              dsimp only at hman ho
              obtain ⟨q1, q2, q3⟩ := sq_bounds hman
              have hsq := square_any m (m * m / 2 ^ 62) (by have := hman.2; omega) rfl q2
              obtain ⟨q, hq⟩ : ∃ q, q = m * m / 2 ^ 62 := ⟨_, rfl⟩
              rw [← hq] at hsq q1 q2
              obtain ⟨o2, ho2⟩ : ∃ o2, o2 = 2 * o := ⟨_, rfl⟩
              obtain ⟨qh, hqh⟩ : ∃ qh, qh = q / 2 := ⟨_, rfl⟩
              have v4 : IntKind.i64.wrap (2 * (o : Int)) = (o2 : Int) := by rw [IntWalk.i64_in _ (by omega)]; omega
              have v5 : IntKind.i64.wrap ((o2 : Int) + 1) = ((o2 + 1 : Nat) : Int) := by rw [IntWalk.i64_in _ (by omega)]; omega
              have v6 : (q : Int) / 2 = (qh : Int) := by omega
              have v7 : (q : Int).tdiv 2 = (qh : Int) := by rw [Int.tdiv_eq_ediv_of_nonneg (by omega)]; exact v6
              have v8 : IntKind.u64.wrap (qh : Int) = (qh : Int) := IntWalk.u64_in _ (by omega)
              have v9 : IntKind.i64.wrap ((j : Int) + 1) = ((j + 1 : Nat) : Int) := by rw [IntWalk.i64_in _ (by omega)]; omega
              have HS : Hid (lstep (o, m) = if 2 ^ 63 ≤ q then (o2 + 1, qh) else (o2, q)) := Lib.hid (by
                unfold lstep
                dsimp only
                rw [← hq, ho2, hqh])
              have i1 : (j : Int) < 16 := by omega
              by_cases hq63 : 9223372036854775808 ≤ q
              · have dq : decide ((9223372036854775808 : Int) ≤ (q : Int)) = true := decide_eq_true (by omega)
                have HS2 : Hid (logS x (j + 1) = (o2 + 1, qh)) := Lib.hid (by rw [hnx.out, HS.out, if_pos (by omega)])
                clear hqh ho2 HS hnx ho hq63 hq q1 q2 q3 hman hom
                go_wp2_with fail
                refine (hsq _).mono ?_
                rintro e' w3 ⟨rfl, hb3⟩
                have HBW3 := Lib.hid (bt HBW.out hb3)
                clear hb3
                go_wp2_with fail
                go_roundw
                case rel => exact ⟨j + 1, by omega, by go_num, by rw [HS2.out], by rw [HS2.out]; simp, HBW3.out⟩
                case measure => simp [intOf]; omega
              · have dq : decide ((9223372036854775808 : Int) ≤ (q : Int)) = false := decide_eq_false (by omega)
                have HS2 : Hid (logS x (j + 1) = (o2, q)) := Lib.hid (by rw [hnx.out, HS.out, if_neg (by omega)])
                clear hqh ho2 HS hnx ho hq63 hq q1 q2 q3 hman hom
                go_wp2_with fail
                refine (hsq _).mono ?_
                rintro e' w3 ⟨rfl, hb3⟩
                have HBW3 := Lib.hid (bt HBW.out hb3)
                clear hb3
                go_wp2_with fail
                go_roundw
                case rel => exact ⟨j + 1, by omega, by go_num, by rw [HS2.out], by rw [HS2.out], HBW3.out⟩
                case measure => simp [intOf]; omega
            · obtain rfl : j = 16 := by omega
              go_wp2_with fail
              go_ret2
              exact ⟨rfl, HBW.out⟩
end Sur
end Go.Proofs.Ytmiplljcnchjkaa
