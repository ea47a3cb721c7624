/-
  The walks of bits.Get and bits.Put (as in BitsG, for a seat that has no bits.Writer).
-/
import Derived.Test.YtijijfggppnbpaaTxtW8
namespace Go.Proofs.Ytijijfggppnbpaa
open Go.RowKit
set_option linter.unusedVariables false
namespace Txt

theorem bv_one (l : List UInt8) : ∀ u ∈ l.map bv, u.oneCell' = true := by
  intro u hu
  obtain ⟨c, _, rfl⟩ := List.mem_map.1 hu
  rfl
/-- new bytes of the call's own -/
def GotB (w : World) (B : List UInt8) (e : Ending) (w' : World) : Prop := (∃ v, e = .returned v ∧ w'.ownsRow w.heap.size 5 1 v B.length (B.map bv)) ∧ Below w.heap.size w w'
theorem or_u64_nat (a b : Nat) (ha : a < 18446744073709551616) (hb : b < 18446744073709551616) : Go.bits .or .u64 (a : Int) (b : Int) = ((a ||| b : Nat) : Int) := by
  have hlt : a ||| b < 2 ^ 64 := Nat.or_lt_two_pow (by omega) (by omega)
  unfold Go.bits
  have e : (BitVec.ofInt IntKind.u64.bits (a : Int) ||| BitVec.ofInt IntKind.u64.bits (b : Int)).toNat = a ||| b := by
    rw [BitVec.toNat_or]
    have h1 : ∀ c : Nat, c < 18446744073709551616 → (BitVec.ofInt IntKind.u64.bits (c : Int)).toNat = c := by
      intro c hc
      rw [BitVec.toNat_ofInt]
      show ((c : Int) % ((2 ^ 64 : Nat) : Int)).toNat = c
      omega
    rw [h1 a ha, h1 b hb]
  show IntKind.u64.wrap (((BitVec.ofInt IntKind.u64.bits (a : Int) ||| BitVec.ofInt IntKind.u64.bits (b : Int)).toNat : Nat) : Int) = _
  rw [e, IntKind.wrap_u64]
  omega

/-- the number of bytes from one on, the lowest first -/
def leVal (B : List UInt8) (at' : Nat) : Nat → Nat
  | 0 => 0
  | i + 1 => leVal B at' i + (B.getD (at' + i) 0).toNat * 2 ^ (8 * i)
theorem leVal_lt (B : List UInt8) (at' : Nat) : ∀ i, leVal B at' i < 2 ^ (8 * i)
  | 0 => by simp [leVal]
  | i + 1 => by
    have := leVal_lt B at' i
    have hc := (B.getD (at' + i) 0).toNat_lt
    rw [leVal, show 8 * (i + 1) = 8 * i + 8 by omega, Nat.pow_add]
    have : (B.getD (at' + i) 0).toNat * 2 ^ (8 * i) ≤ 255 * 2 ^ (8 * i) := Nat.mul_le_mul_right _ (by omega)
    omega
theorem leVal_or (B : List UInt8) (at' i : Nat) : leVal B at' i ||| (B.getD (at' + i) 0).toNat * 2 ^ (8 * i) = leVal B at' (i + 1) := by
  have := Nat.two_pow_add_eq_or_of_lt (leVal_lt B at' i) (B.getD (at' + i) 0).toNat
  rw [leVal, Nat.or_comm, Nat.mul_comm, ← this]
  omega

set_option maxRecDepth 100000 in
set_option maxHeartbeats 400000 in
theorem get_no (A : Option Addr) (n cap at' k : Nat) (w : World) (hk : k ≤ 8) (hn : n < at' + k) (hl : n ≤ 1000000) (ha : at' ≤ 1000000) :
    Calls Try.prog 60 #[.slice A n cap, .int .i64 (at' : Int), .int .i64 (k : Int)] w fun e w' => e = .returned (.tuple #[.int .u64 0, .int .i64 2]) ∧ w = w' := by
  by_cases h1 : n < at'
  · go_enter Try.func60, Try.ntmps60
    go_wp2
    go_ret2
    exact ⟨rfl, rfl⟩
  · have i1 : (n : Int) - (at' : Int) < (k : Int) := by omega
    go_enter Try.func60, Try.ntmps60
    go_wp2
    go_ret2
    exact ⟨rfl, rfl⟩
set_option maxRecDepth 100000 in
set_option maxHeartbeats 400000 in
theorem get_ok (A : Option Addr) (B : List UInt8) (n cap at' k lo hi : Nat) (w : World) (h : RdL w lo hi A (B.map bv)) (hn : B.length = n) (hk : k ≤ 8) (hle : at' + k ≤ n) (hl : n ≤ 1000000) :
    Calls Try.prog 60 #[.slice A n cap, .int .i64 (at' : Int), .int .i64 (k : Int)] w fun e w' => e = .returned (.tuple #[.int .u64 (leVal B at' k : Int), .int .i64 0]) ∧ w = w' := by
  have H := Lib.hid h
  have Hn := Lib.hid hn
  clear h hn
  have d1 : decide ((at' : Int) < 0) = false := decide_eq_false (by omega)
  have d2 : decide ((k : Int) < 0) = false := decide_eq_false (by omega)
  have d3 : decide ((8 : Int) < (k : Int)) = false := decide_eq_false (by omega)
  have d4 : decide (n < at') = false := decide_eq_false (by omega)
  have d5 : decide ((n : Int) - (at' : Int) < (k : Int)) = false := decide_eq_false (by omega)
  go_enter Try.func60, Try.ntmps60
  go_wp2
  go_loop [8, 35] (fun x i => ∃ j : Nat, j ≤ k ∧ i = .int .i64 (j : Int) ∧ x = .int .u64 (leVal B at' j : Int)) (fun _ i => k - (intOf i).toNat)
  case atStart => exact ⟨0, by omega, rfl, rfl⟩
  case round =>
    obtain ⟨j, hj, rfl, rfl⟩ := hrel
    by_cases hlt : j < k
    · have hjl : at' + j < B.length := by rw [Hn.out]; omega
      obtain ⟨b, off, rfl, _, _, _, hc⟩ := H.out.some (by rw [List.length_map]; omega)
      have c0 : w.cell? ⟨b, off + (at' + j), none⟩ = some (.int .u8 ((B.getD (at' + j) 0).toNat : Int)) := hc _ _ (by rw [List.getElem?_map, List.getD_eq_getElem?_getD, List.getElem?_eq_getElem hjl]; rfl)
      have hor := leVal_or B at' j
      have hx := leVal_lt B at' j
      have hc2 := (B.getD (at' + j) 0).toNat_lt
      have hp : 2 ^ (8 * j) ≤ 2 ^ 56 := Nat.pow_le_pow_right (by decide) (by omega)
      have hm : (B.getD (at' + j) 0).toNat * 2 ^ (8 * j) < 18446744073709551616 := Nat.lt_of_le_of_lt (Nat.mul_le_mul (show _ ≤ 255 by omega) hp) (by decide)
      have ho := or_u64_nat (leVal B at' j) ((B.getD (at' + j) 0).toNat * 2 ^ (8 * j)) (by omega) hm
      rw [hor] at ho
      have hy : ((B.getD (at' + j) 0).toNat : Int) * 2 ^ (8 * j) = ((((B.getD (at' + j) 0).toNat * 2 ^ (8 * j) : Nat)) : Int) := by simp
      have hw : IntKind.u64.wrap (((B.getD (at' + j) 0).toNat : Int) * 2 ^ (8 * j)) = ((((B.getD (at' + j) 0).toNat * 2 ^ (8 * j) : Nat)) : Int) := by
        rw [hy, IntKind.wrap_u64]
        omega
      have hcw : IntKind.u64.wrap ((B.getD (at' + j) 0).toNat : Int) = ((B.getD (at' + j) 0).toNat : Int) := by rw [IntKind.wrap_u64]; omega
      clear hor hy hp hc hx hc2
      generalize (B.getD (at' + j) 0).toNat * 2 ^ (8 * j) = y at *
      generalize (B.getD (at' + j) 0).toNat = c at *
      obtain ⟨z, hz⟩ : ∃ z, z = leVal B at' (j + 1) := ⟨_, rfl⟩
      rw [← hz] at ho
      have Hz := Lib.hid hz
      clear hz
      generalize leVal B at' j = x at *
      have n1 : (8 * (j : Int)).toNat = 8 * j := by omega
      have n2 : ((at' : Int) + (j : Int)).toNat = at' + j := by omega
      have i1 : (at' : Int) + (j : Int) < (n : Int) := by omega
      go_wp2
      go_round
      case rel => exact ⟨j + 1, by omega, by go_num, by rw [← Hz.out]⟩
      case measure => simp [intOf]; omega
    · obtain rfl : j = k := by omega
      go_wp2
      go_ret2
      exact ⟨rfl, rfl⟩

/-- a number in so many bytes, the lowest first -/
def leB (x k : Nat) : List UInt8 := (List.range k).map fun i => UInt8.ofNat (x / 2 ^ (8 * i))
theorem leB_len (x k : Nat) : (leB x k).length = k := by simp [leB]
theorem leB_succ (x k : Nat) : leB x (k + 1) = leB x k ++ [UInt8.ofNat (x / 2 ^ (8 * k))] := by
  unfold leB
  rw [List.range_succ, List.map_append]
  rfl
set_option maxRecDepth 100000 in
set_option maxHeartbeats 400000 in
theorem put_any (A : Option Addr) (B : List UInt8) (n cap x k lo hi : Nat) (w : World) (h : RdL w lo hi A (B.map bv)) (hn : B.length = n) (hA : A = none → n = 0 ∧ cap = 0) (hx : x < 18446744073709551616) (hk : k ≤ 8) (hl : n ≤ 1000000) :
    Calls Try.prog 53 #[.slice A n cap, .int .u64 (x : Int), .int .i64 (k : Int)] w (GotB w (B ++ leB x k)) := by
  obtain ⟨i0, hi', hz0, hz1, hz2⟩ := info_parts infoByte
  have H := Lib.hid h
  have HA := Lib.hid hA
  have Hn := Lib.hid hn
  have Hx := Lib.hid hx
  clear h hA hn hx
  go_enter Try.func53, Try.ntmps53
  go_wp2_with (at_builtin; refine wpList_append_both rfl _ _ 26 rfl w.heap.size 5 i0 (.int .u8 0) 1 1 Try.underlying26 hi' hz0 hz1 hz2 rfl (by decide) _ 0 [] rfl (own_new w 5 1) A n cap (B.map bv) rfl (by rw [List.length_map, Hn.out]; simp) HA.out (H.out.alloc _).news (bv_one B) (by unfold maxLen; omega) (by omega) (by simp) ?_; intro v' w1 hown hgrow; rw [Nat.zero_add, List.nil_append] at hown; have hb1 := (bl w (.cells #[] 5)).grown hgrow (by simp) (fun k hk => by injection hk with hk; dsimp only at hk; omega); have Hown := Lib.hid hown; have Hb1 := Lib.hid hb1; clear hown hgrow hb1)
  go_loopw [7, 8, 9, 14] (fun v _ _ i wr => ∃ j : Nat, j ≤ k ∧ i = .int .i64 (j : Int) ∧ wr.ownsRow w.heap.size 5 1 v (n + j) ((B ++ leB x j).map bv) ∧ Below w.heap.size w wr) (fun _ _ _ i _ => k - (intOf i).toNat)
  case atStart => exact ⟨0, by omega, rfl, by simpa [leB] using Hown.out, Hb1.out⟩
  case round =>
    clear Hown
    obtain ⟨j, hj, rfl, hown, hb⟩ := hrel
    have Hown := Lib.hid hown
    clear hown
    by_cases hlt : j < k
    · have hv : ((x : Int) / 2 ^ (8 * j) % 256) = ((UInt8.ofNat (x / 2 ^ (8 * j))).toNat : Int) := by
        rw [UInt8.toNat_ofNat', show ((x : Int) / 2 ^ (8 * j)) = ((x / 2 ^ (8 * j) : Nat) : Int) by simp]
        omega
      have hs := leB_succ x j
      have Hs := Lib.hid hs
      clear hs
      generalize UInt8.ofNat (x / 2 ^ (8 * j)) = c at *
      have hw : IntKind.u8.wrap ((x : Int) / 2 ^ (8 * j)) = (c.toNat : Int) := by rw [← hv]; simp [IntKind.wrap, IntKind.bits, IntKind.signed]
      have n1 : (8 * (j : Int)).toNat = 8 * j := by omega
      have hsz := hb.size
      go_wp2_with (at_builtin; refine wpList_append_own _ rfl _ _ 26 rfl w.heap.size 5 i0 (.int .u8 0) 1 1 Try.underlying26 hi' hz0 hz1 hz2 rfl (by decide) _ _ _ rfl (Hown.out.alloc _) ⟨wr.heap.size, 0, none⟩ 1 1 [.int .u8 (c.toNat : Int)] rfl rfl (cell_one_new _ _ _) (by simp [Value.oneCell']) (by unfold maxLen; omega) (by omega) (by simp; omega) ?_; intro v2 w2 hown2 hgrow2 _; have Hown2 := Lib.hid hown2; have Hgrow2 := Lib.hid hgrow2; clear hown2 hgrow2)
      go_roundw
      case rel =>
        refine ⟨j + 1, by omega, by go_num, ?_, (hb.alloc hsz _).grown Hgrow2.out (by simp; omega) fun q hq => (own_lt Hown.out hq).1⟩
        rw [Hs.out, ← List.append_assoc, List.map_append]
        exact Hown2.out
      case measure => simp [intOf]; omega
    · obtain rfl : j = k := by omega
      go_wp2
      go_ret
      refine ⟨⟨_, rfl, ?_⟩, hb⟩
      rw [List.length_append, leB_len, Hn.out]
      exact Hown.out
end Txt
end Go.Proofs.Ytijijfggppnbpaa
