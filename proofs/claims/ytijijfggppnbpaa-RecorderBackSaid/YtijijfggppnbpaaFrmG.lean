/-
  The walk of the reference's Get of a number.
-/
import Derived.Test.YtijijfggppnbpaaFrmF4
namespace Go.Proofs.Ytijijfggppnbpaa
open Go.RowKit
set_option linter.unusedVariables false
namespace Frm
open Txt (kind_cases bv bv_one GotB leB leB_len leB_succ leVal leVal_lt tx)

theorem leVal_head (B : List UInt8) (a : Nat) : ∀ d, leVal B a (d + 1) = (B.getD a 0).toNat + 256 * leVal B (a + 1) d
  | 0 => by simp [leVal]
  | d + 1 => by
    rw [leVal, leVal_head B a d, leVal, show a + (d + 1) = a + 1 + d by omega, show 8 * (d + 1) = 8 * d + 8 by omega, Nat.pow_add, Nat.mul_add]
    have : (B.getD (a + 1 + d) 0).toNat * (2 ^ (8 * d) * 2 ^ 8) = 256 * ((B.getD (a + 1 + d) 0).toNat * 2 ^ (8 * d)) := by
      rw [show (2 : Nat) ^ 8 = 256 by decide, ← Nat.mul_assoc, Nat.mul_comm]
    rw [this]
    omega
theorem leVal_drop (B : List UInt8) (at' a : Nat) : ∀ k, leVal B (at' + a) k = leVal (B.drop at') a k
  | 0 => rfl
  | k + 1 => by
    rw [leVal, leVal, leVal_drop B at' a k]
    congr 3
    rw [List.getD_eq_getElem?_getD, List.getD_eq_getElem?_getD, List.getElem?_drop, Nat.add_assoc]
set_option maxRecDepth 100000 in
set_option maxHeartbeats 1000000 in
theorem yget_ok (A : Option Addr) (B : List UInt8) (n cap at' k lo hi : Nat) (w : World) (h : RdL w lo hi A (B.map bv)) (hn : B.length = n) (hk : k ≤ 8) (hle : at' + k ≤ n) (hl : n ≤ 1000000) :
    Calls Try.prog 62 #[.slice A n cap, .int .i64 (at' : Int), .int .i64 (k : Int)] w fun e w' => e = .returned (.tuple #[.int .u64 (leVal B at' k : Int), .int .i64 0]) ∧ w = w' := by
  have H := Lib.hid h
  have Hn := Lib.hid hn
  clear h hn
  have d1 : decide ((at' : Int) < 0) = false := decide_eq_false (by omega)
  have d2 : decide ((k : Int) < 0) = false := decide_eq_false (by omega)
  have d3 : decide ((8 : Int) < (k : Int)) = false := decide_eq_false (by omega)
  have d4 : decide (n < at') = false := decide_eq_false (by omega)
  have y0 : IntKind.i64.wrap ((n : Int) - (at' : Int)) = (n : Int) - (at' : Int) := IntWalk.i64_in _ (by omega)
  have d5 : decide ((n : Int) - (at' : Int) < (k : Int)) = false := decide_eq_false (by omega)
  have y1 : IntKind.i64.wrap ((k : Int) - 1) = (k : Int) - 1 := IntWalk.i64_in _ (by omega)
  go_enter Try.func62, Try.ntmps62
  go_wp2_with fail
  go_loop [8, 9] (fun x i => ∃ j : Nat, j ≤ k ∧ i = .int .i64 ((j : Int) - 1) ∧ x = .int .u64 (leVal B (at' + j) (k - j) : Int)) (fun _ i => (intOf i + 1).toNat)
  case atStart => exact ⟨k, by omega, rfl, by rw [Nat.sub_self]; rfl⟩
  case round =>
    obtain ⟨j, hj, rfl, rfl⟩ := hrel
    by_cases h0 : 0 < j
    · obtain ⟨i, rfl⟩ : ∃ i, j = i + 1 := ⟨j - 1, by omega⟩
      have hji : ((i + 1 : Nat) : Int) - 1 = (i : Int) := by omega
      have hjl : at' + i < B.length := by rw [Hn.out]; omega
      obtain ⟨b, off, rfl, _, _, _, hc⟩ := H.out.some (by rw [List.length_map]; omega)
      have c0 : w.cell? ⟨b, off + (at' + i), none⟩ = some (.int .u8 ((B.getD (at' + i) 0).toNat : Int)) := hc _ _ (by rw [List.getElem?_map, List.getD_eq_getElem?_getD, List.getElem?_eq_getElem hjl]; rfl)
      have hh := leVal_head B (at' + i) (k - (i + 1))
      rw [show k - (i + 1) + 1 = k - i by omega, show at' + i + 1 = at' + (i + 1) by omega] at hh
      have hx := leVal_lt B (at' + (i + 1)) (k - (i + 1))
      have hp : 2 ^ (8 * (k - (i + 1))) ≤ 2 ^ 56 := Nat.pow_le_pow_right (by decide) (by omega)
      have hb := (B.getD (at' + i) 0).toNat_lt
      have z1 : IntKind.u64.wrap (256 * (leVal B (at' + (i + 1)) (k - (i + 1)) : Int)) = 256 * (leVal B (at' + (i + 1)) (k - (i + 1)) : Int) := IntWalk.u64_in _ (by omega)
      have z2 : IntKind.u64.wrap ((B.getD (at' + i) 0).toNat : Int) = ((B.getD (at' + i) 0).toNat : Int) := IntWalk.u64_in _ (by omega)
      have z3 : IntKind.u64.wrap (256 * (leVal B (at' + (i + 1)) (k - (i + 1)) : Int) + ((B.getD (at' + i) 0).toNat : Int)) = (leVal B (at' + i) (k - i) : Int) := by rw [IntWalk.u64_in _ (by omega), hh]; omega
      have hge : (0 : Int) ≤ ((i + 1 : Nat) : Int) - 1 := by omega
      rw [hji]
      have s1 : IntKind.i64.wrap ((at' : Int) + (i : Int)) = (at' : Int) + (i : Int) := IntWalk.i64_in _ (by omega)
      have s2 : ((at' : Int) + (i : Int)).toNat = at' + i := by omega
      have s3 : (at' : Int) + (i : Int) < (n : Int) := by omega
      have s4 : 0 ≤ (at' : Int) + (i : Int) := by omega
      have s5 : IntKind.i64.wrap ((i : Int) - 1) = (i : Int) - 1 := IntWalk.i64_in _ (by omega)
      have i0 : (0 : Int) ≤ (i : Int) := by omega
      clear hh hx hp hb hji hge hc
      generalize leVal B (at' + (i + 1)) (k - (i + 1)) = X at *
      obtain ⟨Y, hY⟩ : ∃ y, y = leVal B (at' + i) (k - i) := ⟨_, rfl⟩
      rw [← hY] at z3
      have HY := Lib.hid hY
      clear hY
      generalize (B.getD (at' + i) 0).toNat = c at *
      go_wp2_with fail
      go_round
      case rel => exact ⟨i, by omega, rfl, by rw [HY.out]⟩
      case measure => first | (simp [intOf]; done) | (simp [intOf]; omega)
    · obtain rfl : j = 0 := by omega
      have hneg : ¬ (0 : Int) ≤ ((0 : Nat) : Int) - 1 := by decide
      go_wp2_with fail
      go_ret2
      exact ⟨rfl, rfl⟩
end Frm
end Go.Proofs.Ytijijfggppnbpaa
