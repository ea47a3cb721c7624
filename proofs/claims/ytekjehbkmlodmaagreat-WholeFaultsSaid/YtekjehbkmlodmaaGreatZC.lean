/- A part of the proof of WholeFaults. -/
import Derived.Test.YtekjehbkmlodmaaGreatZA
import Derived.Laws.Strings3
import Derived.Laws.RangeAny
import Derived.Test.YtekjehbkmlodmaaGreatChecked
import Derived.Laws.IdiomStrings
import Derived.Lib.BufferRead
import Derived.StillTailTactics
import Derived.Deep.QuietTactic
import Derived.BigQuiet
import Derived.IntWalk
import Derived.Deep.DeepCutAuto
import Derived.Deep.RegionHeld3
import Derived.Lib.OthersKept
import Derived.WalkSmall
import Derived.Test.YtekjehbkmlodmaaGreatRows
import Derived.Laws.BitsAllLaws
set_option linter.unusedVariables false
set_option linter.unusedSimpArgs false
section
namespace Go.Proofs.YtekjehbkmlodmaaGreat
open Go.RowKit
namespace Txt
def tx (l : List UInt8) : ByteArray := ⟨l.toArray⟩
theorem tx_list (l : List UInt8) : (tx l).toList = l := ByteArray.toList_mk l
end Txt
end Go.Proofs.YtekjehbkmlodmaaGreat
end
section
namespace Go.Proofs.YtekjehbkmlodmaaGreat
open Go.RowKit
namespace Txt
end Txt
end Go.Proofs.YtekjehbkmlodmaaGreat
end
section
namespace Go.Proofs.YtekjehbkmlodmaaGreat
open Go.RowKit
namespace Txt
theorem infoByte : (Tryz.prog.info? 5).map (fun i => (i.zero, i.size, i.bytes)) = some (some (.int .u8 0), 1, 1) := by kernel_rfl
def bv (c : UInt8) : Value := .int .u8 (c.toNat : Int)
theorem conv_bytes {w : World} {lo hi n : Nat} {A : Option Addr} {l : List UInt8} {cap : Nat} (hn : l.length = n) (h : RdL w lo hi A (l.map bv)) (hA : A = none → n = 0 ∧ cap = 0) :
  (convert 35 9 (.slice A n cap)).run Tryz.prog w = .ok (.string (tx l)) w := by
 subst hn
 cases A with
 | none =>
  have h0 := (hA rfl).1
  have : l = [] := List.eq_nil_of_length_eq_zero h0
  subst this
  exact Lib.run_convert_nil_bytes w 35 9 5 cap Tryz.underlying35 Tryz.underlying5 Tryz.underlying9
 | some a =>
  refine run_convert_bytes_back w 35 9 5 a cap l Tryz.underlying35 Tryz.underlying5 Tryz.underlying9 fun j hj => ?_
  exact h.news a rfl j _ (by rw [List.getElem?_map, List.getElem?_eq_getElem hj]; rfl)
theorem kind_cases (k : Int) : k = 1 ∨ k = 2 ∨ k = 3 ∨ k = 4 ∨ k = 5 ∨ k = 6 ∨ k = 7 ∨ (k < 1 ∨ 7 < k) := by omega
end Txt
end Go.Proofs.YtekjehbkmlodmaaGreat
end
section
namespace Go.Proofs.YtekjehbkmlodmaaGreat
open Go.RowKit
namespace Txt
end Txt
end Go.Proofs.YtekjehbkmlodmaaGreat
end
section
namespace Go.Proofs.YtekjehbkmlodmaaGreat
open Go.RowKit
namespace Txt
end Txt
end Go.Proofs.YtekjehbkmlodmaaGreat
end
section
namespace Go.Proofs.YtekjehbkmlodmaaGreat
open Go.RowKit
namespace Txt
end Txt
end Go.Proofs.YtekjehbkmlodmaaGreat
end
section
namespace Go.Proofs.YtekjehbkmlodmaaGreat
open Go.RowKit
namespace Txt
end Txt
end Go.Proofs.YtekjehbkmlodmaaGreat
end
section
namespace Go.Proofs.YtekjehbkmlodmaaGreat
open Go.RowKit
namespace Txt
end Txt
end Go.Proofs.YtekjehbkmlodmaaGreat
end
section
namespace Go.Proofs.YtekjehbkmlodmaaGreat
open Go.RowKit
namespace Txt
end Txt
end Go.Proofs.YtekjehbkmlodmaaGreat
end
section
namespace Go.Proofs.YtekjehbkmlodmaaGreat
open Go.RowKit
namespace Txt
end Txt
end Go.Proofs.YtekjehbkmlodmaaGreat
end
section
namespace Go.Proofs.YtekjehbkmlodmaaGreat
open Go.RowKit
namespace Txt
theorem bv_one (l : List UInt8) : ∀ u ∈ l.map bv, u.oneCell' = true := by
 intro u hu
 obtain ⟨c, _, rfl⟩ := List.mem_map.1 hu
 rfl
def GotB (w : World) (B : List UInt8) (e : Ending) (w' : World) : Prop := (∃ v, e = .returned v ∧ w'.ownsRow w.heap.size 5 1 v B.length (B.map bv)) ∧ Below w.heap.size w w'
theorem or_u64_nat (a b : Nat) (ha : a < 18446744073709551616) (hb : b < 18446744073709551616) : Go.bits .or .u64 (a : Int) (b : Int) = ((a ||| b : Nat) : Int) := by
 have hlt : a ||| b < 2 ^ 64 := Nat.or_lt_two_pow (by omega) (by omega)
 unfold Go.bits
 have e : (BitVec.ofInt IntKind.u64.bits (a : Int) ||| BitVec.ofInt IntKind.u64.bits (b : Int)).toNat = a ||| b := by
  rw [BitVec.toNat_or]
  have h1 : ∀ c : Nat, c < 18446744073709551616 → (BitVec.ofInt IntKind.u64.bits (c : Int)).toNat = c := by
   intro c hc
   rw [BitVec.toNat_ofInt]
   show ((c : Int) % ((2 ^ 64 : Nat) : Int)).toNat = c
   omega
  rw [h1 a ha, h1 b hb]
 show IntKind.u64.wrap (((BitVec.ofInt IntKind.u64.bits (a : Int) ||| BitVec.ofInt IntKind.u64.bits (b : Int)).toNat : Nat) : Int) = _
 rw [e, IntKind.wrap_u64]
 omega
def leVal (B : List UInt8) (at' : Nat) : Nat → Nat
 | 0 => 0
 | i + 1 => leVal B at' i + (B.getD (at' + i) 0).toNat * 2 ^ (8 * i)
theorem leVal_lt (B : List UInt8) (at' : Nat) : ∀ i, leVal B at' i < 2 ^ (8 * i)
 | 0 => by simp [leVal]
 | i + 1 => by
  have := leVal_lt B at' i
  have hc := (B.getD (at' + i) 0).toNat_lt
  rw [leVal, show 8 * (i + 1) = 8 * i + 8 by omega, Nat.pow_add]
  have : (B.getD (at' + i) 0).toNat * 2 ^ (8 * i) ≤ 255 * 2 ^ (8 * i) := Nat.mul_le_mul_right _ (by omega)
  omega
theorem leVal_or (B : List UInt8) (at' i : Nat) : leVal B at' i ||| (B.getD (at' + i) 0).toNat * 2 ^ (8 * i) = leVal B at' (i + 1) := by
 have := Nat.two_pow_add_eq_or_of_lt (leVal_lt B at' i) (B.getD (at' + i) 0).toNat
 rw [leVal, Nat.or_comm, Nat.mul_comm, ← this]
 omega
set_option maxRecDepth 100000 in
set_option maxHeartbeats 400000 in
theorem get_no (A : Option Addr) (n cap at' k : Nat) (w : World) (hk : k ≤ 8) (hn : n < at' + k) (hl : n ≤ 1000000) (ha : at' ≤ 1000000) :
  Calls Tryz.prog 75 #[.slice A n cap, .int .i64 (at' : Int), .int .i64 (k : Int)] w fun e w' => e = .returned (.tuple #[.int .u64 0, .int .i64 2]) ∧ w = w' := by
 by_cases h1 : n < at'
 ·go_enter Tryz.func75, Tryz.ntmps75
  go_wp2
  go_ret2
  exact ⟨rfl, rfl⟩
 ·have i1 : (n : Int) - (at' : Int) < (k : Int) := by omega
  go_enter Tryz.func75, Tryz.ntmps75
  go_wp2
  go_ret2
  exact ⟨rfl, rfl⟩
set_option maxRecDepth 100000 in
set_option maxHeartbeats 400000 in
theorem get_ok (A : Option Addr) (B : List UInt8) (n cap at' k lo hi : Nat) (w : World) (h : RdL w lo hi A (B.map bv)) (hn : B.length = n) (hk : k ≤ 8) (hle : at' + k ≤ n) (hl : n ≤ 1000000) :
  Calls Tryz.prog 75 #[.slice A n cap, .int .i64 (at' : Int), .int .i64 (k : Int)] w fun e w' => e = .returned (.tuple #[.int .u64 (leVal B at' k : Int), .int .i64 0]) ∧ w = w' := by
 have H := Lib.hid h
 have Hn := Lib.hid hn
 clear h hn
 have d1 : decide ((at' : Int) < 0) = false := decide_eq_false (by omega)
 have d2 : decide ((k : Int) < 0) = false := decide_eq_false (by omega)
 have d3 : decide ((8 : Int) < (k : Int)) = false := decide_eq_false (by omega)
 have d4 : decide (n < at') = false := decide_eq_false (by omega)
 have d5 : decide ((n : Int) - (at' : Int) < (k : Int)) = false := decide_eq_false (by omega)
 go_enter Tryz.func75, Tryz.ntmps75
 go_wp2
 go_loop [8, 35] (fun x i => ∃ j : Nat, j ≤ k ∧ i = .int .i64 (j : Int) ∧ x = .int .u64 (leVal B at' j : Int)) (fun _ i => k - (intOf i).toNat)
 case atStart => exact ⟨0, by omega, rfl, rfl⟩
 case round =>
  obtain ⟨j, hj, rfl, rfl⟩ := hrel
  by_cases hlt : j < k
  ·have hjl : at' + j < B.length := by rw [Hn.out]; omega
   obtain ⟨b, off, rfl, _, _, _, hc⟩ := H.out.some (by rw [List.length_map]; omega)
   have c0 : w.cell? ⟨b, off + (at' + j), none⟩ = some (.int .u8 ((B.getD (at' + j) 0).toNat : Int)) := hc _ _ (by rw [List.getElem?_map, List.getD_eq_getElem?_getD, List.getElem?_eq_getElem hjl]; rfl)
   have hor := leVal_or B at' j
   have hx := leVal_lt B at' j
   have hc2 := (B.getD (at' + j) 0).toNat_lt
   have hp : 2 ^ (8 * j) ≤ 2 ^ 56 := Nat.pow_le_pow_right (by decide) (by omega)
   have hm : (B.getD (at' + j) 0).toNat * 2 ^ (8 * j) < 18446744073709551616 := Nat.lt_of_le_of_lt (Nat.mul_le_mul (show _ ≤ 255 by omega) hp) (by decide)
   have ho := or_u64_nat (leVal B at' j) ((B.getD (at' + j) 0).toNat * 2 ^ (8 * j)) (by omega) hm
   rw [hor] at ho
   have hy : ((B.getD (at' + j) 0).toNat : Int) * 2 ^ (8 * j) = ((((B.getD (at' + j) 0).toNat * 2 ^ (8 * j) : Nat)) : Int) := by simp
   have hw : IntKind.u64.wrap (((B.getD (at' + j) 0).toNat : Int) * 2 ^ (8 * j)) = ((((B.getD (at' + j) 0).toNat * 2 ^ (8 * j) : Nat)) : Int) := by
    rw [hy, IntKind.wrap_u64]
    omega
   have hcw : IntKind.u64.wrap ((B.getD (at' + j) 0).toNat : Int) = ((B.getD (at' + j) 0).toNat : Int) := by rw [IntKind.wrap_u64]; omega
   clear hor hy hp hc hx hc2
   generalize (B.getD (at' + j) 0).toNat * 2 ^ (8 * j) = y at *
   generalize (B.getD (at' + j) 0).toNat = c at *
   obtain ⟨z, hz⟩ : ∃ z, z = leVal B at' (j + 1) := ⟨_, rfl⟩
   rw [← hz] at ho
   have Hz := Lib.hid hz
   clear hz
   generalize leVal B at' j = x at *
   have n1 : (8 * (j : Int)).toNat = 8 * j := by omega
   have n2 : ((at' : Int) + (j : Int)).toNat = at' + j := by omega
   have i1 : (at' : Int) + (j : Int) < (n : Int) := by omega
   go_wp2
   go_round
   case rel => exact ⟨j + 1, by omega, by go_num, by rw [← Hz.out]⟩
   case measure => simp [intOf]; omega
  ·obtain rfl : j = k := by omega
   go_wp2
   go_ret2
   exact ⟨rfl, rfl⟩
def leB (x k : Nat) : List UInt8 := (List.range k).map fun i => UInt8.ofNat (x / 2 ^ (8 * i))
theorem leB_len (x k : Nat) : (leB x k).length = k := by simp [leB]
theorem leB_succ (x k : Nat) : leB x (k + 1) = leB x k ++ [UInt8.ofNat (x / 2 ^ (8 * k))] := by
 unfold leB
 rw [List.range_succ, List.map_append]
 rfl
set_option maxRecDepth 100000 in
set_option maxHeartbeats 400000 in
theorem put_any (A : Option Addr) (B : List UInt8) (n cap x k lo hi : Nat) (w : World) (h : RdL w lo hi A (B.map bv)) (hn : B.length = n) (hA : A = none → n = 0 ∧ cap = 0) (hx : x < 18446744073709551616) (hk : k ≤ 8) (hl : n ≤ 1000000) :
  Calls Tryz.prog 30 #[.slice A n cap, .int .u64 (x : Int), .int .i64 (k : Int)] w (GotB w (B ++ leB x k)) := by
 obtain ⟨i0, hi', hz0, hz1, hz2⟩ := info_parts infoByte
 have H := Lib.hid h
 have HA := Lib.hid hA
 have Hn := Lib.hid hn
 have Hx := Lib.hid hx
 clear h hA hn hx
 go_enter Tryz.func30, Tryz.ntmps30
 go_wp2_with (at_builtin; refine wpList_append_both rfl _ _ 35 rfl w.heap.size 5 i0 (.int .u8 0) 1 1 Tryz.underlying35 hi' hz0 hz1 hz2 rfl (by decide) _ 0 [] rfl (own_new w 5 1) A n cap (B.map bv) rfl (by rw [List.length_map, Hn.out]; simp) HA.out (H.out.alloc _).news (bv_one B) (by unfold maxLen; omega) (by omega) (by simp) ?_; intro v' w1 hown hgrow; rw [Nat.zero_add, List.nil_append] at hown; have hb1 := (bl w (.cells #[] 5)).grown hgrow (by simp) (fun k hk => by injection hk with hk; dsimp only at hk; omega); have Hown := Lib.hid hown; have Hb1 := Lib.hid hb1; clear hown hgrow hb1)
 go_loopw [7, 8, 9, 14] (fun v _ _ i wr => ∃ j : Nat, j ≤ k ∧ i = .int .i64 (j : Int) ∧ wr.ownsRow w.heap.size 5 1 v (n + j) ((B ++ leB x j).map bv) ∧ Below w.heap.size w wr) (fun _ _ _ i _ => k - (intOf i).toNat)
 case atStart => exact ⟨0, by omega, rfl, by simpa [leB] using Hown.out, Hb1.out⟩
 case round =>
  clear Hown
  obtain ⟨j, hj, rfl, hown, hb⟩ := hrel
  have Hown := Lib.hid hown
  clear hown
  by_cases hlt : j < k
  ·have hv : ((x : Int) / 2 ^ (8 * j) % 256) = ((UInt8.ofNat (x / 2 ^ (8 * j))).toNat : Int) := by
    rw [UInt8.toNat_ofNat', show ((x : Int) / 2 ^ (8 * j)) = ((x / 2 ^ (8 * j) : Nat) : Int) by simp]
    omega
   have hs := leB_succ x j
   have Hs := Lib.hid hs
   clear hs
   generalize UInt8.ofNat (x / 2 ^ (8 * j)) = c at *
   have hw : IntKind.u8.wrap ((x : Int) / 2 ^ (8 * j)) = (c.toNat : Int) := by rw [← hv]; simp [IntKind.wrap, IntKind.bits, IntKind.signed]
   have n1 : (8 * (j : Int)).toNat = 8 * j := by omega
   have hsz := hb.size
   go_wp2_with (at_builtin; refine wpList_append_own _ rfl _ _ 35 rfl w.heap.size 5 i0 (.int .u8 0) 1 1 Tryz.underlying35 hi' hz0 hz1 hz2 rfl (by decide) _ _ _ rfl (Hown.out.alloc _) ⟨wr.heap.size, 0, none⟩ 1 1 [.int .u8 (c.toNat : Int)] rfl rfl (cell_one_new _ _ _) (by simp [Value.oneCell']) (by unfold maxLen; omega) (by omega) (by simp; omega) ?_; intro v2 w2 hown2 hgrow2 _; have Hown2 := Lib.hid hown2; have Hgrow2 := Lib.hid hgrow2; clear hown2 hgrow2)
   go_roundw
   case rel =>
    refine ⟨j + 1, by omega, by go_num, ?_, (hb.alloc hsz _).grown Hgrow2.out (by simp; omega) fun q hq => (own_lt Hown.out hq).1⟩
    rw [Hs.out, ← List.append_assoc, List.map_append]
    exact Hown2.out
   case measure => simp [intOf]; omega
  ·obtain rfl : j = k := by omega
   go_wp2
   go_ret
   refine ⟨⟨_, rfl, ?_⟩, hb⟩
   rw [List.length_append, leB_len, Hn.out]
   exact Hown.out
end Txt
end Go.Proofs.YtekjehbkmlodmaaGreat
end
section
namespace Go.Proofs.YtekjehbkmlodmaaGreat.Crc
def poly : BitVec 32 := 3988292384#32
def step1 (r : BitVec 32) : BitVec 32 := (r >>> 1) ^^^ (if r.getLsbD 0 then poly else 0#32)
def steps : Nat → BitVec 32 → BitVec 32
 | 0, r => r
 | n + 1, r => step1 (steps n r)
theorem step1_lin (x y : BitVec 32) : step1 (x ^^^ y) = step1 x ^^^ step1 y := by
 unfold step1
 rw [BitVec.getLsbD_xor, BitVec.ushiftRight_xor_distrib]
 cases x.getLsbD 0 <;> cases y.getLsbD 0 <;> simp [BitVec.xor_assoc]
 ·rw [BitVec.xor_comm poly]
 ·rw [← BitVec.xor_assoc poly, BitVec.xor_comm poly, BitVec.xor_assoc (y >>> 1), BitVec.xor_self, BitVec.xor_zero]
def bw (b : Bool) : BitVec 32 := if b then 1#32 else 0#32
def bstep (r : BitVec 32) (b : Bool) : BitVec 32 := step1 (r ^^^ bw b)
def lows (v : BitVec 32) (n : Nat) : List Bool := (List.range n).map fun i => v.getLsbD i
theorem lows_succ (v : BitVec 32) (n : Nat) : lows v (n + 1) = lows v n ++ [v.getLsbD n] := by simp [lows, List.range_succ]
theorem step1_shift (v : BitVec 32) (n : Nat) : step1 ((v >>> n) ^^^ bw (v.getLsbD n)) = v >>> (n + 1) := by
 have h0 : (((v >>> n) ^^^ bw (v.getLsbD n))).getLsbD 0 = false := by
  rw [BitVec.getLsbD_xor, BitVec.getLsbD_ushiftRight, Nat.add_zero]
  cases v.getLsbD n <;> decide
 unfold step1
 rw [h0, BitVec.ushiftRight_xor_distrib]
 have : bw (v.getLsbD n) >>> 1 = 0#32 := by cases v.getLsbD n <;> decide
 rw [this]
 simp [BitVec.shiftRight_add]
theorem fold_lows (r v : BitVec 32) (n : Nat) : (lows v n).foldl bstep r = steps n (r ^^^ v) ^^^ (v >>> n) := by
 induction n with
 | zero => simp [lows, steps, BitVec.xor_assoc]
 | succ n ih =>
  rw [lows_succ, List.foldl_append, ih]
  show step1 (steps n (r ^^^ v) ^^^ v >>> n ^^^ bw (v.getLsbD n)) = _
  rw [BitVec.xor_assoc, step1_lin, step1_shift]
  rfl
def cw (c : UInt8) : BitVec 32 := BitVec.ofNat 32 c.toNat
theorem cw_shift (c : UInt8) : cw c >>> 8 = 0#32 := by
 apply BitVec.eq_of_toNat_eq
 have := c.toNat_lt
 simp [cw, BitVec.toNat_ushiftRight, Nat.shiftRight_eq_div_pow]
 omega
def ones : BitVec 32 := BitVec.allOnes 32
theorem ones_xor (x : BitVec 32) : ones ^^^ x = ~~~ x := BitVec.allOnes_xor
def byteStep (r : BitVec 32) : BitVec 32 := steps 8 r
def cstep (r : BitVec 32) (c : UInt8) : BitVec 32 := byteStep (r ^^^ cw c)
theorem cstep_lows (r : BitVec 32) (c : UInt8) : (lows (cw c) 8).foldl bstep r = cstep r c := by
 rw [fold_lows, cw_shift, BitVec.xor_zero]; rfl
def reg (r : BitVec 32) (l : List UInt8) : BitVec 32 := l.foldl cstep r
def sum (l : List UInt8) : BitVec 32 := ~~~ (reg (ones) l)
theorem reg_append (r : BitVec 32) (a b : List UInt8) : reg r (a ++ b) = reg (reg r a) b := by simp [reg]
def byteAt (s : BitVec 32) (i : Nat) : UInt8 := UInt8.ofNat (s.toNat / 2 ^ (8 * i))
def le4 (s : BitVec 32) : List UInt8 := [byteAt s 0, byteAt s 1, byteAt s 2, byteAt s 3]
end Go.Proofs.YtekjehbkmlodmaaGreat.Crc
end
section
namespace Go.Proofs.YtekjehbkmlodmaaGreat
open Go.RowKit
namespace Crc
abbrev u (x : BitVec 32) : Int := (x.toNat : Int)
theorem u_lt (x : BitVec 32) : u x < 4294967296 := by have := x.isLt; unfold u; omega
theorem u_ge (x : BitVec 32) : 0 ≤ u x := by unfold u; omega
theorem xor_u (x y : BitVec 32) : Go.bits .xor .u32 (u x) (u y) = u (x ^^^ y) := by
 have := u32_xor_nat x.toNat y.toNat x.isLt y.isLt
 unfold u
 rw [this, BitVec.toNat_xor]
theorem and_u (x y : BitVec 32) : Go.bits .and .u32 (u x) (u y) = u (x &&& y) := by
 have := u32_and_nat x.toNat y.toNat x.isLt y.isLt
 unfold u
 rw [this, BitVec.toNat_and]
theorem u_one : (1 : Int) = u 1#32 := rfl
theorem u_half (y : BitVec 32) : (u y) / (2 : Int) = u (y >>> 1) := by
 unfold u
 rw [BitVec.toNat_ushiftRight, Nat.shiftRight_eq_div_pow]
 omega
theorem and_one (y : BitVec 32) : y &&& 1#32 = bw (y.getLsbD 0) := by
 apply BitVec.eq_of_toNat_eq
 have h : y.getLsbD 0 = decide (y.toNat % 2 = 1) := by
  rw [BitVec.getLsbD, Nat.testBit_zero]
 rw [BitVec.toNat_and, h]
 have h1 : y.toNat &&& (1#32).toNat = y.toNat % 2 := Nat.and_two_pow_sub_one_eq_mod y.toNat 1
 rw [h1]
 by_cases h2 : y.toNat % 2 = 1
 ·rw [h2]; rfl
 ·have h3 : y.toNat % 2 = 0 := by omega
  rw [h3]; rfl
theorem poly_u : (3988292384 : Int) = u poly := rfl
theorem step_walk (y : BitVec 32) : Go.bits .xor .u32 (u y / 2) (Go.bits .and .u32 3988292384 (-Go.bits .and .u32 (u y) 1 % 4294967296)) = u (step1 y) := by
 rw [u_one, and_u, and_one, u_half, poly_u]
 unfold step1
 cases y.getLsbD 0
 ·have e : -u (bw false) % 4294967296 = u 0#32 := by decide
  rw [e, and_u, xor_u]
  simp
 ·have e : -u (bw true) % 4294967296 = u (ones) := by decide
  rw [e, and_u, xor_u]
  rw [show poly &&& ones = poly from BitVec.and_allOnes]
  rfl
set_option maxHeartbeats 400000 in
theorem byteStep_any (x : BitVec 32) (w : World) :
  Calls Tryz.prog 74 #[.int .u32 (u x)] w fun e w' => e = .returned (.int .u32 (u (byteStep x))) ∧ w = w' := by
 go_enter Tryz.func74, Tryz.ntmps74
 go_wp2
 go_loop [0, 4] (fun r i => ∃ k : Nat, k ≤ 8 ∧ i = .int .i64 k ∧ r = .int .u32 (u (steps k x))) (fun _ i => 8 - (intOf i).toNat)
 case atStart => exact ⟨0, by omega, rfl, rfl⟩
 case round =>
  obtain ⟨k, hk, rfl, rfl⟩ := hrel
  by_cases hlt : k < 8
  ·generalize hy : steps k x = y at *
   have hs : steps (k + 1) x = step1 y := by rw [← hy]; rfl
   have Hs := Lib.hid hs; clear hs hy
   go_wp2
   go_round
   case rel => exact ⟨k + 1, by omega, by go_num, by rw [step_walk, Hs.out]⟩
   case measure => simp [intOf]; omega
  ·obtain rfl : k = 8 := by omega
   go_wp2
   go_ret
   exact ⟨rfl, rfl⟩
theorem cw_u (c : UInt8) : (c.toNat : Int) = u (cw c) := by
 unfold u cw
 have := c.toNat_lt
 rw [BitVec.toNat_ofNat, Nat.mod_eq_of_lt (by omega)]
def Bytes (w : World) (A : Option Addr) (l : List UInt8) : Prop :=
 l = [] ∨ ∃ b off, A = some ⟨b, off, none⟩ ∧ b < w.heap.size ∧ ∀ i (h : i < l.length), w.cell? ⟨b, off + i, none⟩ = some (.int .u8 (l[i].toNat : Int))
theorem Bytes.below {w w' : World} {A : Option Addr} {l : List UInt8} {B : Nat} (h : Bytes w A l) (hb : Below B w w') (hB : w.heap.size ≤ B) : Bytes w' A l := by
 rcases h with h | ⟨b, off, e, hl, hc⟩
 ·exact .inl h
 ·exact .inr ⟨b, off, e, Nat.lt_of_lt_of_le hl hb.size, fun i hi => by rw [hb.cell (p := ⟨b, off + i, none⟩) (by dsimp only; omega)]; exact hc i hi⟩
theorem reg_snoc (r : BitVec 32) (l : List UInt8) (k : Nat) (h : k < l.length) : reg r (l.take (k + 1)) = byteStep (reg r (l.take k) ^^^ cw l[k]) := by
 rw [List.take_succ_eq_append_getElem h, reg_append]; rfl
set_option maxHeartbeats 400000 in
theorem sum_any (A : Option Addr) (l : List UInt8) (cap : Nat) (w : World) (hA : Bytes w A l) (hl : l.length ≤ maxLen) :
  Calls Tryz.prog 54 #[.slice A l.length cap] w fun e w' => e = .returned (.int .u32 (u (sum l))) ∧ w = w' := by
 unfold maxLen at hl
 go_enter Tryz.func54, Tryz.ntmps54
 go_wp2
 go_loop [3, 8] (fun r i => ∃ k : Nat, k ≤ l.length ∧ i = .int .i64 k ∧ r = .int .u32 (u (reg (ones) (l.take k)))) (fun _ i => l.length - (intOf i).toNat)
 case atStart => exact ⟨0, by omega, rfl, rfl⟩
 case round =>
  obtain ⟨k, hk, rfl, rfl⟩ := hrel
  by_cases hlt : k < l.length
  ·rcases hA with rfl | ⟨b, off, rfl, hb, hc⟩
   ·simp at hlt
   have c0 := hc k hlt
   have hs := reg_snoc (ones) l k hlt
   generalize reg (ones) (l.take k) = y at *
   have Hs := Lib.hid hs; clear hs hc
   rw [cw_u] at c0
   have hm : u (cw l[k]) % 4294967296 = u (cw l[k]) := Int.emod_eq_of_lt (u_ge _) (u_lt _)
   have hx := xor_u y (cw l[k])
   go_wp2_with (go_at_call 74; refine (byteStep_any _ _).mono ?_; rintro e w' ⟨rfl, rfl⟩)
   go_round
   case rel => exact ⟨k + 1, by omega, by go_num, by rw [Hs.out]⟩
   case measure => simp [intOf]; omega
  ·obtain rfl : k = l.length := by omega
   rw [List.take_length]
   have hk1 : IntKind.u32.signed = false := rfl
   have hk2 : IntKind.u32.max = 4294967295 := rfl
   have hx : Go.bits .xor .u32 4294967295 (u (reg ones l)) = u (sum l) := by
    have := xor_u ones (reg ones l)
    rw [ones_xor] at this
    exact this
   go_wp2
   go_ret
   exact ⟨rfl, rfl⟩
end Crc
end Go.Proofs.YtekjehbkmlodmaaGreat
end
section
namespace Go.Proofs.YtekjehbkmlodmaaGreat
open Go.RowKit
namespace Crc
theorem bstep_eq (z : BitVec 32) (b : Bool) : bstep z b = (z >>> 1) ^^^ (if (z.getLsbD 0 != b) then poly else 0#32) := by
 unfold bstep step1
 rw [BitVec.getLsbD_xor, BitVec.ushiftRight_xor_distrib]
 have h1 : bw b >>> 1 = 0#32 := by cases b <;> decide
 have h2 : (bw b).getLsbD 0 = b := by cases b <;> decide
 rw [h1, h2, BitVec.xor_zero]
theorem u_odd (z : BitVec 32) : (u z % 2 == 1) = z.getLsbD 0 := by
 rw [BitVec.getLsbD, Nat.testBit_zero, Bool.eq_iff_iff]
 simp [u]
 omega
theorem bit_odd (c : BitVec 32) (k : Nat) : (u c / 2 ^ k % 2 == 1) = c.getLsbD k := by
 rw [BitVec.getLsbD, Nat.testBit_eq_decide_div_mod_eq, Bool.eq_iff_iff]
 simp [u]
 have : (c.toNat : Int) / 2 ^ k = ((c.toNat / 2 ^ k : Nat) : Int) := by simp
 rw [this]
 omega
theorem lows_fold (v r : BitVec 32) (k : Nat) : (lows v (k + 1)).foldl bstep r = bstep ((lows v k).foldl bstep r) (v.getLsbD k) := by
 rw [lows_succ, List.foldl_append]; rfl
set_option maxHeartbeats 1000000 in
theorem rsum_any (A : Option Addr) (l : List UInt8) (cap : Nat) (w : World) (hA : Bytes w A l) (hl : l.length ≤ maxLen) :
  Calls Tryz.prog 68 #[.slice A l.length cap] w fun e w' => e = .returned (.int .u32 (u (sum l))) ∧ w = w' := by
 unfold maxLen at hl
 go_enter Tryz.func68, Tryz.ntmps68
 go_wp2
 go_loop [3, 4] (fun r i => ∃ k : Nat, k ≤ l.length ∧ i = .int .i64 k ∧ r = .int .u32 (u (reg ones (l.take k)))) (fun _ i => l.length - (intOf i).toNat)
 case atStart => exact ⟨0, by omega, rfl, rfl⟩
 case round =>
  obtain ⟨i, hi, rfl, rfl⟩ := hrel
  by_cases hlt : i < l.length
  ·rcases hA with rfl | ⟨b, off, rfl, hb, hc⟩
   ·simp at hlt
   have c0 := hc i hlt
   have hs := reg_snoc ones l i hlt
   rw [show byteStep (reg ones (l.take i) ^^^ cw l[i]) = (lows (cw l[i]) 8).foldl bstep (reg ones (l.take i)) from (cstep_lows _ _).symm] at hs
   generalize reg ones (l.take i) = y at *
   have Hs := Lib.hid hs; clear hs hc
   rw [cw_u] at c0
   generalize cw l[i] = c at *
   have hm : u c % 4294967296 = u c := Int.emod_eq_of_lt (u_ge _) (u_lt _)
   go_wp2
   go_loop [3, 5] (fun r j => ∃ k : Nat, k ≤ 8 ∧ j = .int .i64 k ∧ r = .int .u32 (u ((lows c k).foldl bstep y))) (fun _ j => 8 - (intOf j).toNat)
   case atStart => exact ⟨0, by omega, rfl, rfl⟩
   case round =>
    obtain ⟨k, hk, rfl, rfl⟩ := hrel
    by_cases hk8 : k < 8
    ·have hf := lows_fold c y k
     generalize hz : (lows c k).foldl bstep y = z at *
     rw [bstep_eq] at hf
     have Hf := Lib.hid hf; clear hf hz
     have hh := u_half z
     have hm2 : u (z >>> 1) % 4294967296 = u (z >>> 1) := Int.emod_eq_of_lt (u_ge _) (u_lt _)
     have hx := xor_u (z >>> 1) poly
     rw [← poly_u] at hx
     have hz0 := u_ge z
     have hc0 : 0 ≤ u c / 2 ^ k := Int.ediv_nonneg (u_ge c) (Int.le_of_lt (Int.pow_pos (by decide)))
     have e1 := u_odd z
     have e2 := bit_odd c k
     generalize z.getLsbD 0 = b1 at *
     generalize c.getLsbD k = b2 at *
     cases b1 <;> cases b2
     all_goals
      go_wp2
      go_round
      case rel =>
       refine ⟨k + 1, by omega, by go_num, ?_⟩
       rw [Hf.out]
       simp
      case measure => simp [intOf]; omega
    ·obtain rfl : k = 8 := by omega
     go_wp2
     go_round
     case rel => exact ⟨i + 1, by omega, by go_num, by rw [Hs.out]⟩
     case measure => simp [intOf]; omega
  ·obtain rfl : i = l.length := by omega
   rw [List.take_length]
   have hs : 4294967295 - u (reg ones l) = u (sum l) := by
    unfold sum
    generalize reg ones l = r
    have := u_lt r
    unfold u
    rw [BitVec.toNat_not]
    have := r.isLt
    omega
   have hg := u_ge (reg ones l)
   have hl' := u_lt (reg ones l)
   go_wp2
   go_ret
   exact ⟨rfl, rfl⟩
end Crc
end Go.Proofs.YtekjehbkmlodmaaGreat
end
section
namespace Go.Proofs.YtekjehbkmlodmaaGreat
open Go.RowKit
namespace Crc
theorem infoByte : (Tryz.prog.info? 5).map (fun i => (i.zero, i.size, i.bytes)) = some (some (.int .u8 0), 1, 1) := by kernel_rfl
def bv (c : UInt8) : Value := .int .u8 (c.toNat : Int)
def Own (w : World) (base : Nat) (v : Value) (l : List UInt8) : Prop := w.ownsRow base 5 1 v l.length (l.map bv)
theorem own_append {w : World} {base : Nat} {v : Value} {a b : List UInt8} (h : w.ownsRow base 5 1 v (a.length + b.length) (a.map bv ++ b.map bv)) : Own w base v (a ++ b) := by
 unfold Own
 rw [List.length_append, List.map_append]
 exact h
theorem Own.bytes {w : World} {base : Nat} {v : Value} {l : List UInt8} (h : Own w base v l) : ∃ A cap, v = .slice A l.length cap ∧ Bytes w A l ∧ cap ≤ maxLen ∧ (A = none → l.length = 0 ∧ cap = 0) := by
 obtain ⟨hl, h⟩ := h
 rcases h with ⟨rfl, h0⟩ | ⟨g, cap, cur, rfl, hb, hg, hn, hm, hs, ht⟩
 ·exact ⟨none, 0, by rw [h0], .inl (List.eq_nil_of_length_eq_zero h0), by simp [maxLen], fun _ => ⟨h0, rfl⟩⟩
 ·refine ⟨_, cap, rfl, ?_, hm, fun h => by cases h⟩
  by_cases h0 : l = []
  ·exact .inl h0
  ·refine .inr ⟨g, 0, rfl, lt_of_block' hg, fun i hi => ?_⟩
   rw [cell_of_row w g (0 + i) cur _ _ hg, ← Array.getElem?_toList, Nat.zero_add]
   have := congrArg (fun x => x[i]?) ht
   simp only [Nat.mul_one, List.getElem?_take, hi, if_true, List.getElem?_map] at this
   rw [this, List.getElem?_eq_getElem hi]
   rfl
where
 lt_of_block' {w : World} {b : Nat} {o : Obj} (h : w.heap[b]? = some o) : b < w.heap.size := by
  rcases Nat.lt_or_ge b w.heap.size with h' | h'
  ·exact h'
  ·rw [Array.getElem?_eq_none h'] at h; cases h
theorem bv_one (l : List UInt8) : ∀ u ∈ l.map bv, u.oneCell' = true := by
 intro u hu
 obtain ⟨c, _, rfl⟩ := List.mem_map.1 hu
 rfl
theorem Bytes.news {w : World} {A : Option Addr} {l : List UInt8} (h : Bytes w A l) : ∀ ad, A = some ad → ∀ j u, (l.map bv)[j]? = some u → w.cell? (ad.add j) = some u := by
 rintro ad rfl j u hu
 rcases h with rfl | ⟨b, off, e, hb, hc⟩
 ·simp at hu
 ·injection e with e
  subst e
  have hj : j < l.length := by
   rcases Nat.lt_or_ge j l.length with h' | h'
   ·exact h'
   ·rw [List.getElem?_eq_none (by simpa using h')] at hu; cases hu
  rw [add_off, hc j hj]
  rw [List.getElem?_map, List.getElem?_eq_getElem hj] at hu
  exact hu
def put (l : List UInt8) : List UInt8 := l ++ le4 (sum l)
theorem byteAt_u (s : BitVec 32) (i : Nat) : u s / 2 ^ (8 * i) % 256 = ((byteAt s i).toNat : Int) := by
 unfold byteAt u
 rw [UInt8.toNat_ofNat']
 have : ((s.toNat : Int)) / 2 ^ (8 * i) = ((s.toNat / 2 ^ (8 * i) : Nat) : Int) := by simp
 rw [this]
 omega
set_option maxHeartbeats 1000000 in
theorem put_any (A : Option Addr) (l : List UInt8) (cap : Nat) (w : World) (hA : Bytes w A l) (hn : A = none → l.length = 0 ∧ cap = 0) (hl : l.length ≤ 1000000) :
  Calls Tryz.prog 29 #[.slice A l.length cap] w fun e w' => ∃ v, e = .returned v ∧ Own w' w.heap.size v (put l) ∧ Below w.heap.size w w' := by
 obtain ⟨i0, hi, hz0, hz1, hz2⟩ := info_parts infoByte
 have hs0 := byteAt_u (sum l) 0
 have hs1 := byteAt_u (sum l) 1
 have hs2 := byteAt_u (sum l) 2
 have hs3 := byteAt_u (sum l) 3
 simp at hs0 hs1 hs2 hs3
 go_enter Tryz.func29, Tryz.ntmps29
 go_wp2_with (first | (go_at_call 54; refine (sum_any _ _ _ _ hA (by unfold maxLen; omega)).mono ?_; rintro e w' ⟨rfl, rfl⟩) | (at_builtin; (refine wpList_append_both rfl (.tmp 6) (.tmp 7) 35 rfl w.heap.size 5 i0 (.int .u8 0) 1 1 Tryz.underlying35 hi hz0 hz1 hz2 rfl (by decide) _ 0 [] rfl ?o1 A l.length cap (l.map bv) rfl (by simp) hn ?n1 (bv_one l) ?b1 ?b2 ?b3 ?_); rotate_right; intro v1 w1 hown1 hg1) | (at_builtin; refine wpList_append_both rfl (.tmp 8) (.tmp 20) 35 rfl w.heap.size 5 i0 (.int .u8 0) 1 1 Tryz.underlying35 hi hz0 hz1 hz2 rfl (by decide) _ l.length (l.map bv) rfl ?o2 _ 4 4 ((le4 (sum l)).map bv) rfl rfl (by simp) ?n2 (bv_one _) ?b4 ?b5 ?b6 ?_; rotate_right; intro v2 w2 hown2 hg2))
 ·go_ret
  have hw1 : Below w.heap.size w w1 := (bl w _).grown hg1 (by simp) (fun k hk => own_ge (own_new w 5 1) k hk)
  exact ⟨v2, rfl, own_append (b := le4 (sum l)) hown2, (hw1.alloc hw1.size _).grown hg2 (by have := hw1.size; simp; omega) (own_ge hown1)⟩
 case o2 => show World.ownsRow _ _ _ _ v1 _ _; simpa using hown1.alloc _
 case n2 => exact (Blk.mk w1 5 ((le4 (sum l)).map bv)).news
 case b4 => simp only [maxLen]; omega
 case b5 => omega
 case b6 => have := hg1.size; simp at this; simp; omega
 case o1 => exact own_new w _ _
 case n1 => exact (hA.below (bl w _) (Nat.le_refl _)).news
 case b1 => simp only [maxLen]; omega
 case b2 => omega
 case b3 => simp
end Crc
end Go.Proofs.YtekjehbkmlodmaaGreat
end
section
namespace Go.Proofs.YtekjehbkmlodmaaGreat
open Go.RowKit
namespace Frm
open Txt (kind_cases bv GotB leB tx)
def numN : Nat → Int
 | 1 => 3
 | 2 => 2
 | 3 => 2
 | 4 => 0
 | 5 => 1
 | 6 => 3
 | 7 => 2
 | _ => -1
def numK (k : Int) : Int := numN k.toNat
theorem numN_none {n : Nat} (h : n < 1 ∨ 7 < n) : numN n = -1 := by
 match n, h with
 | 0, _ => rfl
 | 1, h => omega
 | 2, h => omega
 | 3, h => omega
 | 4, h => omega
 | 5, h => omega
 | 6, h => omega
 | 7, h => omega
 | n + 8, _ => rfl
set_option maxRecDepth 100000 in
set_option maxHeartbeats 1000000 in
theorem counts_any (w : World) :
  Calls Tryz.prog 116 #[] w fun e w' => e = .returned (.agg #[.int .i64 0, .int .i64 3, .int .i64 2, .int .i64 2, .int .i64 0, .int .i64 1, .int .i64 3, .int .i64 2]) ∧ Below w.heap.size w w' := by
 go_enter Tryz.func116, Tryz.ntmps116
 go_wp2
 refine bodyPost_ret (results_cell_row rfl _ _ w.heap.size 89 _ (0, 0) _ rfl (Blk.mk w 89 [.int .i64 0, .int .i64 3, .int .i64 2, .int .i64 2, .int .i64 0, .int .i64 1, .int .i64 3, .int .i64 2]) Tryz.underlying89 rfl (by kernel_rfl)) rfl ?_
 exact ⟨rfl, bl _ _⟩
theorem ix1 (w : World) : (Instr.index 89 (.agg #[.int .i64 0, .int .i64 3, .int .i64 2, .int .i64 2, .int .i64 0, .int .i64 1, .int .i64 3, .int .i64 2]) (.int .i64 1)).run Tryz.prog w = .ok (.int .i64 3) w := by kernel_rfl
theorem ix2 (w : World) : (Instr.index 89 (.agg #[.int .i64 0, .int .i64 3, .int .i64 2, .int .i64 2, .int .i64 0, .int .i64 1, .int .i64 3, .int .i64 2]) (.int .i64 2)).run Tryz.prog w = .ok (.int .i64 2) w := by kernel_rfl
theorem ix3 (w : World) : (Instr.index 89 (.agg #[.int .i64 0, .int .i64 3, .int .i64 2, .int .i64 2, .int .i64 0, .int .i64 1, .int .i64 3, .int .i64 2]) (.int .i64 3)).run Tryz.prog w = .ok (.int .i64 2) w := by kernel_rfl
theorem ix4 (w : World) : (Instr.index 89 (.agg #[.int .i64 0, .int .i64 3, .int .i64 2, .int .i64 2, .int .i64 0, .int .i64 1, .int .i64 3, .int .i64 2]) (.int .i64 4)).run Tryz.prog w = .ok (.int .i64 0) w := by kernel_rfl
theorem ix5 (w : World) : (Instr.index 89 (.agg #[.int .i64 0, .int .i64 3, .int .i64 2, .int .i64 2, .int .i64 0, .int .i64 1, .int .i64 3, .int .i64 2]) (.int .i64 5)).run Tryz.prog w = .ok (.int .i64 1) w := by kernel_rfl
theorem ix6 (w : World) : (Instr.index 89 (.agg #[.int .i64 0, .int .i64 3, .int .i64 2, .int .i64 2, .int .i64 0, .int .i64 1, .int .i64 3, .int .i64 2]) (.int .i64 6)).run Tryz.prog w = .ok (.int .i64 3) w := by kernel_rfl
theorem ix7 (w : World) : (Instr.index 89 (.agg #[.int .i64 0, .int .i64 3, .int .i64 2, .int .i64 2, .int .i64 0, .int .i64 1, .int .i64 3, .int .i64 2]) (.int .i64 7)).run Tryz.prog w = .ok (.int .i64 2) w := by kernel_rfl
set_option maxRecDepth 100000 in
set_option maxHeartbeats 1000000 in
theorem numbers_any (k : Int) (w : World) :
  Calls Tryz.prog 84 #[.int .i64 k] w fun e w' => e = .returned (.int .i64 (numK k)) ∧ Below w.heap.size w w' := by
 rcases kind_cases k with rfl | rfl | rfl | rfl | rfl | rfl | rfl | h
 case inr.inr.inr.inr.inr.inr.inr =>
  have hw : numK k = -1 := numN_none (by omega)
  have Hw := Lib.hid hw
  clear hw
  by_cases h1 : k < 1
  ·have d1 : decide (k < 1) = true := decide_eq_true h1
   go_enter Tryz.func84, Tryz.ntmps84
   go_wp2_with fail
   go_ret
   exact ⟨by rw [Hw.out]; rfl, Below.refl _ _⟩
  ·have h2 : 7 < k := by omega
   have d1 : decide (k < 1) = false := decide_eq_false h1
   have d2 : decide (7 < k) = true := decide_eq_true h2
   clear h
   go_enter Tryz.func84, Tryz.ntmps84
   go_wp2_with fail
   go_ret
   exact ⟨by rw [Hw.out]; rfl, Below.refl _ _⟩
 all_goals
  go_enter Tryz.func84, Tryz.ntmps84
  go_wp2_with fail
  refine (counts_any _).mono ?_
  rintro e w2 ⟨rfl, hb⟩
  go_wp2_with (first | simp only [ix1] | simp only [ix2] | simp only [ix3] | simp only [ix4] | simp only [ix5] | simp only [ix6] | simp only [ix7])
  go_ret
  exact ⟨rfl, hb⟩
end Frm
end Go.Proofs.YtekjehbkmlodmaaGreat
end
section
namespace Go.Proofs.YtekjehbkmlodmaaGreat
open Go.RowKit
namespace Frm
open Txt (kind_cases bv bv_one GotB leB leB_len tx)
theorem _root_.Go.Proofs.YtekjehbkmlodmaaGreat.Blk.next {w w' : World} {g : Nat} {t : TypeId} {L : List Value} (h : Blk w g t L) (hb : Below w.heap.size w w') : Blk w' g t L := h.below hb h.lt
structure Fr where
 k : Int
 q : Nat
 t : Nat
 a : Int
 b : Int
 c : Int
def Fr.cells (f : Fr) : List Value := [.int .i64 f.k, .int .u16 (f.q : Int), .int .u32 (f.t : Int), .int .i32 f.a, .int .i32 f.b, .int .i32 f.c]
def Fr.v (f : Fr) : Value := .agg f.cells.toArray
def Fr.nums (f : Fr) : List Int := [f.a, f.b, f.c]
structure Fr.Ok (f : Fr) : Prop where
 k1 : -9223372036854775808 ≤ f.k
 k2 : f.k ≤ 9223372036854775807
 q : f.q < 65536
 t : f.t < 4294967296
 a1 : -2147483648 ≤ f.a
 a2 : f.a ≤ 2147483647
 b1 : -2147483648 ≤ f.b
 b2 : f.b ≤ 2147483647
 c1 : -2147483648 ≤ f.c
 c2 : f.c ≤ 2147483647
def codeF (f : Fr) : Int := if numK f.k < 0 then 13 else if (f.nums.drop (numK f.k).toNat).all (· == 0) = true then 0 else 1
def low32 (x : Int) : Nat := (x % 4294967296).toNat
def headL (f : Fr) : List UInt8 := [126, UInt8.ofNat f.k.toNat] ++ leB f.q 2 ++ leB f.t 4
def numsL (l : List Int) : List UInt8 := l.flatMap fun x => leB (low32 x) 4
def bytesF (f : Fr) : List UInt8 := Crc.put (headL f ++ numsL (f.nums.take (numK f.k).toNat))
def GotF (w : World) (f : Fr) (e : Ending) (w' : World) : Prop :=
 (∃ v, e = .returned (.tuple #[v, .int .i64 (codeF f)]) ∧ (codeF f = 0 → w'.ownsRow w.heap.size 5 1 v (bytesF f).length ((bytesF f).map bv)) ∧ (codeF f ≠ 0 → v = .slice none 0 0)) ∧ Below w.heap.size w w'
theorem GotF.no {w w' : World} {f : Fr} {x : Int} (h : codeF f = x) (hx : x ≠ 0) (hb : Below w.heap.size w w') : GotF w f (.returned (.tuple #[.slice none 0 0, .int .i64 x])) w' :=
 ⟨⟨_, by rw [h], fun h0 => absurd (h.symm.trans h0) hx, fun _ => rfl⟩, hb⟩
theorem GotF.yes {w w' : World} {f : Fr} {v : Value} {L : List UInt8} (h : codeF f = 0) (hL : bytesF f = L) (ho : w'.ownsRow w.heap.size 5 1 v L.length (L.map bv)) (hb : Below w.heap.size w w') : GotF w f (.returned (.tuple #[v, .int .i64 0])) w' :=
 ⟨⟨_, by rw [h], fun _ => by rw [hL]; exact ho, fun h0 => absurd h h0⟩, hb⟩
theorem numK_cases (k : Int) : (numK k = -1 ∧ (k < 1 ∨ 7 < k)) ∨ (∃ n : Nat, numK k = n ∧ n ≤ 3 ∧ 1 ≤ k ∧ k ≤ 7) := by
 rcases kind_cases k with rfl | rfl | rfl | rfl | rfl | rfl | rfl | h
 case inr.inr.inr.inr.inr.inr.inr => exact .inl ⟨numN_none (by omega), h⟩
 all_goals exact .inr ⟨_, rfl, by decide, by decide, by decide⟩
set_option maxRecDepth 100000 in
set_option maxHeartbeats 1000000 in
theorem put_none (f : Fr) (hf : f.Ok) (hk : numK f.k = -1) (w : World) :
  Calls Tryz.prog 66 #[f.v] w (GotF w f) := by
 obtain ⟨i0, hi, hz0, hz1, hz2⟩ := info_parts Txt.infoByte
 have hnum := fun w => numbers_any f.k w
 have hblk := Lib.hid (Blk.mk w 59 f.cells)
 have hbw := Lib.hid (bl w (.cells f.cells.toArray 59))
 have hf1 := hf
 have HF := Lib.hid hf1
 clear hf hf1
 have hc0 : (w.alloc (.cells f.cells.toArray 59)).cell? ⟨w.heap.size, 0, none⟩ = some (.int .i64 f.k) := hblk.out.cell 0
 unfold Fr.v
 have hcode : codeF f = 13 := by unfold codeF; rw [hk]; rfl
 rw [hk] at hnum
 have Hcode := Lib.hid hcode
 clear hcode hk
 generalize f.cells.toArray = cs at *
 go_enter Tryz.func66, Tryz.ntmps66
 go_wp2_with fail
 refine (hnum _).mono ?_
 rintro e w1 ⟨rfl, hb1⟩
 have P1 := hblk.out.next hb1
 have e3 : w1.cell? ⟨w.heap.size, 3, none⟩ = some (.int .i32 f.a) := P1.cell 3
 have e4 : w1.cell? ⟨w.heap.size, 4, none⟩ = some (.int .i32 f.b) := P1.cell 4
 have e5 : w1.cell? ⟨w.heap.size, 5, none⟩ = some (.int .i32 f.c) := P1.cell 5
 have B1 := Lib.hid (_root_.Go.Proofs.YtekjehbkmlodmaaGreat.bt hbw.out hb1)
 clear P1 hb1 hbw hblk
 go_wp2_with fail
 refine bodyPost_ret (results_tmp2 rfl _ _ _) rfl ?_
 exact GotF.no (x := 13) Hcode.out (by decide) (_root_.Go.Proofs.YtekjehbkmlodmaaGreat.bt B1.out (bl _ _))
set_option maxRecDepth 100000 in
set_option maxHeartbeats 1000000 in
theorem put_0 (f : Fr) (hf : f.Ok) (hk : numK f.k = 0) (hk1 : 1 ≤ f.k) (hk7 : f.k ≤ 7) (w : World) :
  Calls Tryz.prog 66 #[f.v] w (GotF w f) := by
 obtain ⟨i0, hi, hz0, hz1, hz2⟩ := info_parts Txt.infoByte
 have hnum := fun w => numbers_any f.k w
 have hblk := Lib.hid (Blk.mk w 59 f.cells)
 have hbw := Lib.hid (bl w (.cells f.cells.toArray 59))
 have hf1 := hf
 have HF := Lib.hid hf1
 clear hf hf1
 have hc0 : (w.alloc (.cells f.cells.toArray 59)).cell? ⟨w.heap.size, 0, none⟩ = some (.int .i64 f.k) := hblk.out.cell 0
 unfold Fr.v
 have hcode : codeF f = if (f.nums.drop 0).all (· == 0) = true then 0 else 1 := by unfold codeF; rw [hk, if_neg (by omega)]; rfl
 have hby : bytesF f = Crc.put (headL f ++ numsL (f.nums.take 0)) := by unfold bytesF; rw [hk]; rfl
 rw [hk] at hnum
 have Hcode := Lib.hid hcode
 have Hby := Lib.hid hby
 have hw1 : IntKind.u8.wrap f.k = ((UInt8.ofNat f.k.toNat).toNat : Int) := by rw [UInt8.toNat_ofNat', IntKind.wrap_u8]; omega
 obtain ⟨kb, hkb⟩ : ∃ c, c = UInt8.ofNat f.k.toNat := ⟨_, rfl⟩
 rw [← hkb] at hw1
 have hhead : headL f = [126, kb] ++ leB f.q 2 ++ leB f.t 4 := by rw [hkb]; rfl
 have Hhead := Lib.hid hhead
 clear hcode hby hk hkb hhead
 obtain ⟨cs, hcs⟩ : ∃ c, c = f.cells.toArray := ⟨_, rfl⟩
 rw [← hcs] at hblk hbw hc0 ⊢
 clear hcs
 go_enter Tryz.func66, Tryz.ntmps66
 go_wp2_with fail
 refine (hnum _).mono ?_
 rintro e w1 ⟨rfl, hb1⟩
 have P1 := hblk.out.below hb1 (show w.heap.size < (w.alloc (.cells cs 59)).heap.size by simp)
 have e3 : w1.cell? ⟨w.heap.size, 3, none⟩ = some (.int .i32 f.a) := P1.cell 3
 have e4 : w1.cell? ⟨w.heap.size, 4, none⟩ = some (.int .i32 f.b) := P1.cell 4
 have e5 : w1.cell? ⟨w.heap.size, 5, none⟩ = some (.int .i32 f.c) := P1.cell 5
 have hsz1 := (_root_.Go.Proofs.YtekjehbkmlodmaaGreat.bt hbw.out hb1).size
 have B2 := Lib.hid ((_root_.Go.Proofs.YtekjehbkmlodmaaGreat.bt hbw.out hb1).alloc hsz1 (.cells #[.int .i32 f.a, .int .i32 f.b, .int .i32 f.c] 161))
 have PF := Lib.hid (P1.alloc (.cells #[.int .i32 f.a, .int .i32 f.b, .int .i32 f.c] 161))
 have PA := Lib.hid (Blk.mk w1 161 (f.nums.map (.int .i32)))
 clear hb1 hbw hblk P1
 go_wp2_with fail
 generalize hW : w1.alloc (.cells #[.int .i32 f.a, .int .i32 f.b, .int .i32 f.c] 161) = W at *
 have PA2 : Hid (Blk W w1.heap.size 161 (f.nums.map (.int .i32))) := Lib.hid (by rw [← hW]; exact PA.out)
 clear hW e3 e4 e5 PA
 generalize w1.heap.size = g5 at *
 go_loop [26] (fun u => ∃ i : Nat, i ≤ 3 ∧ u = .int .i64 (i : Int) ∧ ∀ j, 0 ≤ j → j < 0 + i → f.nums.getD j 0 = 0) (fun u => 3 - (intOf u).toNat)
 case atStart => exact ⟨0, by omega, rfl, fun j h1 h2 => by omega⟩
 case round =>
  obtain ⟨i, hiM, rfl, hall⟩ := hrel
  have Hall := Lib.hid hall
  clear hall
  by_cases hlt : i < 3
  ·have hltI : (i : Int) < 3 := by omega
   have hc : W.cell? ⟨g5, 0 + i, none⟩ = some (.int .i32 (f.nums.getD (0 + i) 0)) := by
    rw [PA2.out.cell, List.getElem?_map, List.getD_eq_getElem?_getD, List.getElem?_eq_getElem (show 0 + i < f.nums.length from by show 0 + i < 3; omega)]
    rfl
   obtain ⟨x, hx⟩ : ∃ x, f.nums.getD (0 + i) 0 = x := ⟨_, rfl⟩
   rw [hx] at hc
   try rw [Nat.zero_add] at hc
   by_cases h0 : x = 0
   ·subst h0
    have Hx := Lib.hid hx
    clear hx
    go_wp2_with fail
    go_round
    case rel =>
     refine ⟨i + 1, by omega, by go_num, fun j h1 h2 => ?_⟩
     by_cases e : j = 0 + i
     ·rw [e]; exact Hx.out
     ·exact Hall.out j h1 (by omega)
    case measure => first | (simp [intOf]; done) | (simp [intOf]; omega)
   ·have hxb : (x == 0) = false := beq_eq_false_iff_ne.2 h0
    have hcode : codeF f = 1 := by
     rw [Hcode.out, if_neg]
     intro ha
     have hl : 0 + i < f.nums.length := by show 0 + i < 3; omega
     have hm : x ∈ f.nums.drop 0 := by
      rw [← hx, List.getD_eq_getElem?_getD, List.getElem?_eq_getElem hl]
      exact List.mem_drop_iff_getElem.2 ⟨i, by omega, rfl⟩
     exact h0 (by simpa using List.all_eq_true.1 ha x hm)
    have Hc1 := Lib.hid hcode
    clear hx h0 hcode
    go_wp2_with fail
    refine bodyPost_ret (results_tmp2 rfl _ _ _) rfl ?_
    exact GotF.no (x := 1) Hc1.out (by decide) B2.out
  ·obtain rfl : i = 3 := by omega
   have hcode : codeF f = 0 := by
    rw [Hcode.out, if_pos]
    refine List.all_eq_true.2 fun x hx => ?_
    obtain ⟨q, hq, rfl⟩ := List.mem_drop_iff_getElem.1 hx
    have hq3 : q + 0 < 3 := hq
    have := Hall.out (0 + q) (by omega) (by omega)
    rw [List.getD_eq_getElem?_getD, List.getElem?_eq_getElem (by omega)] at this
    simpa using this
   have Hc0 := Lib.hid hcode
   clear hcode Hall Hcode
   have e0 : W.cell? ⟨w.heap.size, 0, none⟩ = some (.int .i64 f.k) := PF.out.cell 0
   have hwW : w.heap.size < W.heap.size := PF.out.lt
   have hgW : g5 < W.heap.size := PA2.out.lt
   have PF2 := Lib.hid (PF.out.alloc (.cells #[.int .u8 126, .int .u8 (kb.toNat : Int)] 5))
   have PA3 := Lib.hid (PA2.out.alloc (.cells #[.int .u8 126, .int .u8 (kb.toNat : Int)] 5))
   have e1 : (W.alloc (.cells #[.int .u8 126, .int .u8 (kb.toNat : Int)] 5)).cell? ⟨w.heap.size, 1, none⟩ = some (.int .u16 (f.q : Int)) := PF2.out.cell 1
   have hq64 : IntKind.u64.wrap (f.q : Int) = (f.q : Int) := IntWalk.u64_in _ (by have := HF.out.q; omega)
   have ht64 : IntKind.u64.wrap (f.t : Int) = (f.t : Int) := IntWalk.u64_in _ (by have := HF.out.t; omega)
   have hrd0 := Lib.hid (new_rd W 5 ([126, kb].map bv))
   have B3 := Lib.hid (B2.out.alloc B2.out.size (.cells #[.int .u8 126, .int .u8 (kb.toNat : Int)] 5))
   have hput1 := fun w' h => Txt.put_any (some ⟨W.heap.size, 0, none⟩) [126, kb] 2 2 f.q 2 W.heap.size (W.heap.size + 1) w' h rfl (fun h => by cases h) (by have := HF.out.q; omega) (by decide) (by decide)
   clear B2 PF PA2
   go_wp2_with fail
   refine (hput1 _ hrd0.out).mono ?_
   rintro e w3 ⟨⟨v3, rfl, hown3⟩, hb3⟩
   have PF3 := Lib.hid (PF2.out.next hb3)
   have PA4 := Lib.hid (PA3.out.next hb3)
   have B4 := Lib.hid (_root_.Go.Proofs.YtekjehbkmlodmaaGreat.bt B3.out hb3)
   have e2 : w3.cell? ⟨w.heap.size, 2, none⟩ = some (.int .u32 (f.t : Int)) := PF3.out.cell 2
   obtain ⟨A3, cap3, rfl, hrd3, _, _, hA3⟩ := own_rd hown3
   have Hrd3 := Lib.hid hrd3
   have hl3 : ([126, kb] ++ leB f.q 2).length = 4 := by rw [List.length_append, leB_len]; rfl
   have hput2 := Txt.put_any A3 ([126, kb] ++ leB f.q 2) _ cap3 f.t 4 _ _ w3 hrd3 rfl hA3 (by have := HF.out.t; omega) (by decide) (by omega)
   rw [hl3] at hput2
   clear hb3 hown3 hrd3 hA3 hput1 PF2 PA3 B3 e0 e1 hrd0
   rw [hl3]
   go_wp2_with fail
   refine hput2.mono ?_
   rintro e w4 ⟨⟨v4, rfl, hown4⟩, hb4⟩
   have PA5 := Lib.hid (PA4.out.next hb4)
   have B5 := Lib.hid (_root_.Go.Proofs.YtekjehbkmlodmaaGreat.bt B4.out hb4)
   rw [← Hhead.out] at hown4
   have Hown4 := Lib.hid (own_down hown4 (show w.heap.size ≤ _ from B4.out.size))
   clear hb4 hown4 PF3 PA4 B4 e2 hput2 hl3
   go_wp2_with fail
   go_loopw [8, 10, 49] (fun v _ u wr => ∃ i : Nat, i ≤ 0 ∧ u = .int .i64 (i : Int) ∧ wr.ownsRow w.heap.size 5 1 v (headL f ++ numsL (f.nums.take i)).length ((headL f ++ numsL (f.nums.take i)).map bv) ∧ Below w.heap.size w wr ∧ Blk wr g5 161 (f.nums.map (.int .i32))) (fun _ _ u _ => 0 - (intOf u).toNat)
   case atStart => exact ⟨0, by omega, rfl, by rw [show numsL (f.nums.take 0) = [] from rfl, List.append_nil]; exact Hown4.out, B5.out, PA5.out⟩
   case round =>
    clear Hown4 B5 PA5
    obtain ⟨i, hiN, rfl, hown, hb, hpa⟩ := hrel
    have Hb := Lib.hid hb
    have Hpa := Lib.hid hpa
    have hL8 : (headL f ++ numsL (f.nums.take i)).length ≤ 1000 := by
     rw [List.length_append, Hhead.out]
     have h1 : ∀ l : List Int, (numsL l).length = 4 * l.length := fun l => by
      unfold numsL
      induction l with
      | nil => rfl
      | cons a l ih => rw [List.flatMap_cons, List.length_append, ih, leB_len, List.length_cons]; omega
     have h2 : (f.nums.take i).length ≤ 3 := List.length_take_le' i f.nums
     rw [h1]
     simp only [List.length_append, leB_len, List.length_cons, List.length_nil]
     omega
    obtain ⟨L, hL⟩ : ∃ L, L = headL f ++ numsL (f.nums.take i) := ⟨_, rfl⟩
    obtain ⟨m, hm⟩ : ∃ m, L.length = m := ⟨_, rfl⟩
    rw [← hL, hm] at hown hL8
    have HM := Lib.hid hm
    obtain ⟨A5, cap5, rfl, hrd5, _, _, hA5⟩ := own_rd hown
    have Hrd5 := Lib.hid hrd5
    by_cases hlt : i < 0
    ·have hltI : (i : Int) < 0 := by omega
     have hi3 : i < f.nums.length := by show i < 3; omega
     have hc : wr.cell? ⟨g5, i, none⟩ = some (.int .i32 f.nums[i]) := by
      rw [Hpa.out.cell, List.getElem?_map, List.getElem?_eq_getElem hi3]
      rfl
     have hu1 : IntKind.u32.wrap f.nums[i] = (low32 f.nums[i] : Int) := by rw [IntKind.wrap_u32]; unfold low32; omega
     have hu0 : low32 f.nums[i] < 4294967296 := by unfold low32; omega
     have hu2 : IntKind.u64.wrap (low32 f.nums[i] : Int) = (low32 f.nums[i] : Int) := IntWalk.u64_in _ (by omega)
     have hnx : headL f ++ numsL (f.nums.take (i + 1)) = L ++ leB (low32 f.nums[i]) 4 := by
      rw [hL, List.take_add_one, List.getElem?_eq_getElem hi3, List.append_assoc]
      unfold numsL
      rw [List.flatMap_append]
      simp
     have hput3 := Txt.put_any A5 L m cap5 (low32 f.nums[i]) 4 _ _ wr hrd5 hm hA5 (by omega) (by decide) (by omega)
     rw [← hnx] at hput3
     clear hnx hrd5 hA5 hown hb hpa hu0 hL hm
     obtain ⟨L2, hL2⟩ : ∃ L2, L2 = headL f ++ numsL (f.nums.take (i + 1)) := ⟨_, rfl⟩
     rw [← hL2] at hput3
     have HL2 := Lib.hid hL2
     clear hL2
     generalize low32 f.nums[i] = y at *
     generalize f.nums[i] = x at *
     go_wp2_with fail
     refine hput3.mono ?_
     rintro e w6 ⟨⟨v6, rfl, hown6⟩, hb6⟩
     have HO := Lib.hid (own_down hown6 (show w.heap.size ≤ _ from Hb.out.size))
     have PA7 := Lib.hid (Hpa.out.next hb6)
     have B7 := Lib.hid (_root_.Go.Proofs.YtekjehbkmlodmaaGreat.bt Hb.out hb6)
     clear hown6 hb6 hput3
     go_wp2_with fail
     go_roundw
     case rel => exact ⟨i + 1, by omega, by go_num, by rw [← HL2.out]; exact HO.out, B7.out, PA7.out⟩
     case measure => first | (simp [intOf]; done) | (simp [intOf]; omega)
    ·obtain rfl : i = 0 := by omega
     have hown' : Crc.Own wr w.heap.size (.slice A5 m cap5) L := by unfold Crc.Own; rw [hm]; exact hown
     obtain ⟨A6, cap6, e6, hby6, _, hn6⟩ := hown'.bytes
     injection e6 with e7 e9 e8
     subst e7 e8
     have hput4 := Crc.put_any A5 L cap5 wr hby6 hn6 (by omega)
     rw [hL, ← Hby.out, ← hL, hm] at hput4
     clear hby6 hn6 hrd5 hA5 hown hb hpa hown' e9 hL hm
     go_wp2_with fail
     refine hput4.mono ?_
     rintro e w6 ⟨v6, rfl, hown6, hb6⟩
     have HO := Lib.hid (own_down hown6 (show w.heap.size ≤ _ from Hb.out.size))
     have B7 := Lib.hid (_root_.Go.Proofs.YtekjehbkmlodmaaGreat.bt Hb.out hb6)
     clear hown6 hb6 hput4
     go_wp2_with fail
     refine bodyPost_ret (results_tmp2 rfl _ _ _) rfl ?_
     exact GotF.yes Hc0.out rfl HO.out B7.out
set_option maxRecDepth 100000 in
set_option maxHeartbeats 1000000 in
theorem put_1 (f : Fr) (hf : f.Ok) (hk : numK f.k = 1) (hk1 : 1 ≤ f.k) (hk7 : f.k ≤ 7) (w : World) :
  Calls Tryz.prog 66 #[f.v] w (GotF w f) := by
 obtain ⟨i0, hi, hz0, hz1, hz2⟩ := info_parts Txt.infoByte
 have hnum := fun w => numbers_any f.k w
 have hblk := Lib.hid (Blk.mk w 59 f.cells)
 have hbw := Lib.hid (bl w (.cells f.cells.toArray 59))
 have hf1 := hf
 have HF := Lib.hid hf1
 clear hf hf1
 have hc0 : (w.alloc (.cells f.cells.toArray 59)).cell? ⟨w.heap.size, 0, none⟩ = some (.int .i64 f.k) := hblk.out.cell 0
 unfold Fr.v
 have hcode : codeF f = if (f.nums.drop 1).all (· == 0) = true then 0 else 1 := by unfold codeF; rw [hk, if_neg (by omega)]; rfl
 have hby : bytesF f = Crc.put (headL f ++ numsL (f.nums.take 1)) := by unfold bytesF; rw [hk]; rfl
 rw [hk] at hnum
 have Hcode := Lib.hid hcode
 have Hby := Lib.hid hby
 have hw1 : IntKind.u8.wrap f.k = ((UInt8.ofNat f.k.toNat).toNat : Int) := by rw [UInt8.toNat_ofNat', IntKind.wrap_u8]; omega
 obtain ⟨kb, hkb⟩ : ∃ c, c = UInt8.ofNat f.k.toNat := ⟨_, rfl⟩
 rw [← hkb] at hw1
 have hhead : headL f = [126, kb] ++ leB f.q 2 ++ leB f.t 4 := by rw [hkb]; rfl
 have Hhead := Lib.hid hhead
 clear hcode hby hk hkb hhead
 obtain ⟨cs, hcs⟩ : ∃ c, c = f.cells.toArray := ⟨_, rfl⟩
 rw [← hcs] at hblk hbw hc0 ⊢
 clear hcs
 go_enter Tryz.func66, Tryz.ntmps66
 go_wp2_with fail
 refine (hnum _).mono ?_
 rintro e w1 ⟨rfl, hb1⟩
 have P1 := hblk.out.below hb1 (show w.heap.size < (w.alloc (.cells cs 59)).heap.size by simp)
 have e3 : w1.cell? ⟨w.heap.size, 3, none⟩ = some (.int .i32 f.a) := P1.cell 3
 have e4 : w1.cell? ⟨w.heap.size, 4, none⟩ = some (.int .i32 f.b) := P1.cell 4
 have e5 : w1.cell? ⟨w.heap.size, 5, none⟩ = some (.int .i32 f.c) := P1.cell 5
 have hsz1 := (_root_.Go.Proofs.YtekjehbkmlodmaaGreat.bt hbw.out hb1).size
 have B2 := Lib.hid ((_root_.Go.Proofs.YtekjehbkmlodmaaGreat.bt hbw.out hb1).alloc hsz1 (.cells #[.int .i32 f.a, .int .i32 f.b, .int .i32 f.c] 161))
 have PF := Lib.hid (P1.alloc (.cells #[.int .i32 f.a, .int .i32 f.b, .int .i32 f.c] 161))
 have PA := Lib.hid (Blk.mk w1 161 (f.nums.map (.int .i32)))
 clear hb1 hbw hblk P1
 go_wp2_with fail
 generalize hW : w1.alloc (.cells #[.int .i32 f.a, .int .i32 f.b, .int .i32 f.c] 161) = W at *
 have PA2 : Hid (Blk W w1.heap.size 161 (f.nums.map (.int .i32))) := Lib.hid (by rw [← hW]; exact PA.out)
 clear hW e3 e4 e5 PA
 generalize w1.heap.size = g5 at *
 go_loop [26] (fun u => ∃ i : Nat, i ≤ 2 ∧ u = .int .i64 (i : Int) ∧ ∀ j, 1 ≤ j → j < 1 + i → f.nums.getD j 0 = 0) (fun u => 2 - (intOf u).toNat)
 case atStart => exact ⟨0, by omega, rfl, fun j h1 h2 => by omega⟩
 case round =>
  obtain ⟨i, hiM, rfl, hall⟩ := hrel
  have Hall := Lib.hid hall
  clear hall
  by_cases hlt : i < 2
  ·have hltI : (i : Int) < 2 := by omega
   have hc : W.cell? ⟨g5, 1 + i, none⟩ = some (.int .i32 (f.nums.getD (1 + i) 0)) := by
    rw [PA2.out.cell, List.getElem?_map, List.getD_eq_getElem?_getD, List.getElem?_eq_getElem (show 1 + i < f.nums.length from by show 1 + i < 3; omega)]
    rfl
   obtain ⟨x, hx⟩ : ∃ x, f.nums.getD (1 + i) 0 = x := ⟨_, rfl⟩
   rw [hx] at hc
   try rw [Nat.zero_add] at hc
   by_cases h0 : x = 0
   ·subst h0
    have Hx := Lib.hid hx
    clear hx
    go_wp2_with fail
    go_round
    case rel =>
     refine ⟨i + 1, by omega, by go_num, fun j h1 h2 => ?_⟩
     by_cases e : j = 1 + i
     ·rw [e]; exact Hx.out
     ·exact Hall.out j h1 (by omega)
    case measure => first | (simp [intOf]; done) | (simp [intOf]; omega)
   ·have hxb : (x == 0) = false := beq_eq_false_iff_ne.2 h0
    have hcode : codeF f = 1 := by
     rw [Hcode.out, if_neg]
     intro ha
     have hl : 1 + i < f.nums.length := by show 1 + i < 3; omega
     have hm : x ∈ f.nums.drop 1 := by
      rw [← hx, List.getD_eq_getElem?_getD, List.getElem?_eq_getElem hl]
      exact List.mem_drop_iff_getElem.2 ⟨i, by omega, rfl⟩
     exact h0 (by simpa using List.all_eq_true.1 ha x hm)
    have Hc1 := Lib.hid hcode
    clear hx h0 hcode
    go_wp2_with fail
    refine bodyPost_ret (results_tmp2 rfl _ _ _) rfl ?_
    exact GotF.no (x := 1) Hc1.out (by decide) B2.out
  ·obtain rfl : i = 2 := by omega
   have hcode : codeF f = 0 := by
    rw [Hcode.out, if_pos]
    refine List.all_eq_true.2 fun x hx => ?_
    obtain ⟨q, hq, rfl⟩ := List.mem_drop_iff_getElem.1 hx
    have hq3 : q + 1 < 3 := hq
    have := Hall.out (1 + q) (by omega) (by omega)
    rw [List.getD_eq_getElem?_getD, List.getElem?_eq_getElem (by omega)] at this
    simpa using this
   have Hc0 := Lib.hid hcode
   clear hcode Hall Hcode
   have e0 : W.cell? ⟨w.heap.size, 0, none⟩ = some (.int .i64 f.k) := PF.out.cell 0
   have hwW : w.heap.size < W.heap.size := PF.out.lt
   have hgW : g5 < W.heap.size := PA2.out.lt
   have PF2 := Lib.hid (PF.out.alloc (.cells #[.int .u8 126, .int .u8 (kb.toNat : Int)] 5))
   have PA3 := Lib.hid (PA2.out.alloc (.cells #[.int .u8 126, .int .u8 (kb.toNat : Int)] 5))
   have e1 : (W.alloc (.cells #[.int .u8 126, .int .u8 (kb.toNat : Int)] 5)).cell? ⟨w.heap.size, 1, none⟩ = some (.int .u16 (f.q : Int)) := PF2.out.cell 1
   have hq64 : IntKind.u64.wrap (f.q : Int) = (f.q : Int) := IntWalk.u64_in _ (by have := HF.out.q; omega)
   have ht64 : IntKind.u64.wrap (f.t : Int) = (f.t : Int) := IntWalk.u64_in _ (by have := HF.out.t; omega)
   have hrd0 := Lib.hid (new_rd W 5 ([126, kb].map bv))
   have B3 := Lib.hid (B2.out.alloc B2.out.size (.cells #[.int .u8 126, .int .u8 (kb.toNat : Int)] 5))
   have hput1 := fun w' h => Txt.put_any (some ⟨W.heap.size, 0, none⟩) [126, kb] 2 2 f.q 2 W.heap.size (W.heap.size + 1) w' h rfl (fun h => by cases h) (by have := HF.out.q; omega) (by decide) (by decide)
   clear B2 PF PA2
   go_wp2_with fail
   refine (hput1 _ hrd0.out).mono ?_
   rintro e w3 ⟨⟨v3, rfl, hown3⟩, hb3⟩
   have PF3 := Lib.hid (PF2.out.next hb3)
   have PA4 := Lib.hid (PA3.out.next hb3)
   have B4 := Lib.hid (_root_.Go.Proofs.YtekjehbkmlodmaaGreat.bt B3.out hb3)
   have e2 : w3.cell? ⟨w.heap.size, 2, none⟩ = some (.int .u32 (f.t : Int)) := PF3.out.cell 2
   obtain ⟨A3, cap3, rfl, hrd3, _, _, hA3⟩ := own_rd hown3
   have Hrd3 := Lib.hid hrd3
   have hl3 : ([126, kb] ++ leB f.q 2).length = 4 := by rw [List.length_append, leB_len]; rfl
   have hput2 := Txt.put_any A3 ([126, kb] ++ leB f.q 2) _ cap3 f.t 4 _ _ w3 hrd3 rfl hA3 (by have := HF.out.t; omega) (by decide) (by omega)
   rw [hl3] at hput2
   clear hb3 hown3 hrd3 hA3 hput1 PF2 PA3 B3 e0 e1 hrd0
   rw [hl3]
   go_wp2_with fail
   refine hput2.mono ?_
   rintro e w4 ⟨⟨v4, rfl, hown4⟩, hb4⟩
   have PA5 := Lib.hid (PA4.out.next hb4)
   have B5 := Lib.hid (_root_.Go.Proofs.YtekjehbkmlodmaaGreat.bt B4.out hb4)
   rw [← Hhead.out] at hown4
   have Hown4 := Lib.hid (own_down hown4 (show w.heap.size ≤ _ from B4.out.size))
   clear hb4 hown4 PF3 PA4 B4 e2 hput2 hl3
   go_wp2_with fail
   go_loopw [8, 10, 49] (fun v _ u wr => ∃ i : Nat, i ≤ 1 ∧ u = .int .i64 (i : Int) ∧ wr.ownsRow w.heap.size 5 1 v (headL f ++ numsL (f.nums.take i)).length ((headL f ++ numsL (f.nums.take i)).map bv) ∧ Below w.heap.size w wr ∧ Blk wr g5 161 (f.nums.map (.int .i32))) (fun _ _ u _ => 1 - (intOf u).toNat)
   case atStart => exact ⟨0, by omega, rfl, by rw [show numsL (f.nums.take 0) = [] from rfl, List.append_nil]; exact Hown4.out, B5.out, PA5.out⟩
   case round =>
    clear Hown4 B5 PA5
    obtain ⟨i, hiN, rfl, hown, hb, hpa⟩ := hrel
    have Hb := Lib.hid hb
    have Hpa := Lib.hid hpa
    have hL8 : (headL f ++ numsL (f.nums.take i)).length ≤ 1000 := by
     rw [List.length_append, Hhead.out]
     have h1 : ∀ l : List Int, (numsL l).length = 4 * l.length := fun l => by
      unfold numsL
      induction l with
      | nil => rfl
      | cons a l ih => rw [List.flatMap_cons, List.length_append, ih, leB_len, List.length_cons]; omega
     have h2 : (f.nums.take i).length ≤ 3 := List.length_take_le' i f.nums
     rw [h1]
     simp only [List.length_append, leB_len, List.length_cons, List.length_nil]
     omega
    obtain ⟨L, hL⟩ : ∃ L, L = headL f ++ numsL (f.nums.take i) := ⟨_, rfl⟩
    obtain ⟨m, hm⟩ : ∃ m, L.length = m := ⟨_, rfl⟩
    rw [← hL, hm] at hown hL8
    have HM := Lib.hid hm
    obtain ⟨A5, cap5, rfl, hrd5, _, _, hA5⟩ := own_rd hown
    have Hrd5 := Lib.hid hrd5
    by_cases hlt : i < 1
    ·have hltI : (i : Int) < 1 := by omega
     have hi3 : i < f.nums.length := by show i < 3; omega
     have hc : wr.cell? ⟨g5, i, none⟩ = some (.int .i32 f.nums[i]) := by
      rw [Hpa.out.cell, List.getElem?_map, List.getElem?_eq_getElem hi3]
      rfl
     have hu1 : IntKind.u32.wrap f.nums[i] = (low32 f.nums[i] : Int) := by rw [IntKind.wrap_u32]; unfold low32; omega
     have hu0 : low32 f.nums[i] < 4294967296 := by unfold low32; omega
     have hu2 : IntKind.u64.wrap (low32 f.nums[i] : Int) = (low32 f.nums[i] : Int) := IntWalk.u64_in _ (by omega)
     have hnx : headL f ++ numsL (f.nums.take (i + 1)) = L ++ leB (low32 f.nums[i]) 4 := by
      rw [hL, List.take_add_one, List.getElem?_eq_getElem hi3, List.append_assoc]
      unfold numsL
      rw [List.flatMap_append]
      simp
     have hput3 := Txt.put_any A5 L m cap5 (low32 f.nums[i]) 4 _ _ wr hrd5 hm hA5 (by omega) (by decide) (by omega)
     rw [← hnx] at hput3
     clear hnx hrd5 hA5 hown hb hpa hu0 hL hm
     obtain ⟨L2, hL2⟩ : ∃ L2, L2 = headL f ++ numsL (f.nums.take (i + 1)) := ⟨_, rfl⟩
     rw [← hL2] at hput3
     have HL2 := Lib.hid hL2
     clear hL2
     generalize low32 f.nums[i] = y at *
     generalize f.nums[i] = x at *
     go_wp2_with fail
     refine hput3.mono ?_
     rintro e w6 ⟨⟨v6, rfl, hown6⟩, hb6⟩
     have HO := Lib.hid (own_down hown6 (show w.heap.size ≤ _ from Hb.out.size))
     have PA7 := Lib.hid (Hpa.out.next hb6)
     have B7 := Lib.hid (_root_.Go.Proofs.YtekjehbkmlodmaaGreat.bt Hb.out hb6)
     clear hown6 hb6 hput3
     go_wp2_with fail
     go_roundw
     case rel => exact ⟨i + 1, by omega, by go_num, by rw [← HL2.out]; exact HO.out, B7.out, PA7.out⟩
     case measure => first | (simp [intOf]; done) | (simp [intOf]; omega)
    ·obtain rfl : i = 1 := by omega
     have hown' : Crc.Own wr w.heap.size (.slice A5 m cap5) L := by unfold Crc.Own; rw [hm]; exact hown
     obtain ⟨A6, cap6, e6, hby6, _, hn6⟩ := hown'.bytes
     injection e6 with e7 e9 e8
     subst e7 e8
     have hput4 := Crc.put_any A5 L cap5 wr hby6 hn6 (by omega)
     rw [hL, ← Hby.out, ← hL, hm] at hput4
     clear hby6 hn6 hrd5 hA5 hown hb hpa hown' e9 hL hm
     go_wp2_with fail
     refine hput4.mono ?_
     rintro e w6 ⟨v6, rfl, hown6, hb6⟩
     have HO := Lib.hid (own_down hown6 (show w.heap.size ≤ _ from Hb.out.size))
     have B7 := Lib.hid (_root_.Go.Proofs.YtekjehbkmlodmaaGreat.bt Hb.out hb6)
     clear hown6 hb6 hput4
     go_wp2_with fail
     refine bodyPost_ret (results_tmp2 rfl _ _ _) rfl ?_
     exact GotF.yes Hc0.out rfl HO.out B7.out
set_option maxRecDepth 100000 in
set_option maxHeartbeats 1000000 in
theorem put_2 (f : Fr) (hf : f.Ok) (hk : numK f.k = 2) (hk1 : 1 ≤ f.k) (hk7 : f.k ≤ 7) (w : World) :
  Calls Tryz.prog 66 #[f.v] w (GotF w f) := by
 obtain ⟨i0, hi, hz0, hz1, hz2⟩ := info_parts Txt.infoByte
 have hnum := fun w => numbers_any f.k w
 have hblk := Lib.hid (Blk.mk w 59 f.cells)
 have hbw := Lib.hid (bl w (.cells f.cells.toArray 59))
 have hf1 := hf
 have HF := Lib.hid hf1
 clear hf hf1
 have hc0 : (w.alloc (.cells f.cells.toArray 59)).cell? ⟨w.heap.size, 0, none⟩ = some (.int .i64 f.k) := hblk.out.cell 0
 unfold Fr.v
 have hcode : codeF f = if (f.nums.drop 2).all (· == 0) = true then 0 else 1 := by unfold codeF; rw [hk, if_neg (by omega)]; rfl
 have hby : bytesF f = Crc.put (headL f ++ numsL (f.nums.take 2)) := by unfold bytesF; rw [hk]; rfl
 rw [hk] at hnum
 have Hcode := Lib.hid hcode
 have Hby := Lib.hid hby
 have hw1 : IntKind.u8.wrap f.k = ((UInt8.ofNat f.k.toNat).toNat : Int) := by rw [UInt8.toNat_ofNat', IntKind.wrap_u8]; omega
 obtain ⟨kb, hkb⟩ : ∃ c, c = UInt8.ofNat f.k.toNat := ⟨_, rfl⟩
 rw [← hkb] at hw1
 have hhead : headL f = [126, kb] ++ leB f.q 2 ++ leB f.t 4 := by rw [hkb]; rfl
 have Hhead := Lib.hid hhead
 clear hcode hby hk hkb hhead
 obtain ⟨cs, hcs⟩ : ∃ c, c = f.cells.toArray := ⟨_, rfl⟩
 rw [← hcs] at hblk hbw hc0 ⊢
 clear hcs
 go_enter Tryz.func66, Tryz.ntmps66
 go_wp2_with fail
 refine (hnum _).mono ?_
 rintro e w1 ⟨rfl, hb1⟩
 have P1 := hblk.out.below hb1 (show w.heap.size < (w.alloc (.cells cs 59)).heap.size by simp)
 have e3 : w1.cell? ⟨w.heap.size, 3, none⟩ = some (.int .i32 f.a) := P1.cell 3
 have e4 : w1.cell? ⟨w.heap.size, 4, none⟩ = some (.int .i32 f.b) := P1.cell 4
 have e5 : w1.cell? ⟨w.heap.size, 5, none⟩ = some (.int .i32 f.c) := P1.cell 5
 have hsz1 := (_root_.Go.Proofs.YtekjehbkmlodmaaGreat.bt hbw.out hb1).size
 have B2 := Lib.hid ((_root_.Go.Proofs.YtekjehbkmlodmaaGreat.bt hbw.out hb1).alloc hsz1 (.cells #[.int .i32 f.a, .int .i32 f.b, .int .i32 f.c] 161))
 have PF := Lib.hid (P1.alloc (.cells #[.int .i32 f.a, .int .i32 f.b, .int .i32 f.c] 161))
 have PA := Lib.hid (Blk.mk w1 161 (f.nums.map (.int .i32)))
 clear hb1 hbw hblk P1
 go_wp2_with fail
 generalize hW : w1.alloc (.cells #[.int .i32 f.a, .int .i32 f.b, .int .i32 f.c] 161) = W at *
 have PA2 : Hid (Blk W w1.heap.size 161 (f.nums.map (.int .i32))) := Lib.hid (by rw [← hW]; exact PA.out)
 clear hW e3 e4 e5 PA
 generalize w1.heap.size = g5 at *
 go_loop [26] (fun u => ∃ i : Nat, i ≤ 1 ∧ u = .int .i64 (i : Int) ∧ ∀ j, 2 ≤ j → j < 2 + i → f.nums.getD j 0 = 0) (fun u => 1 - (intOf u).toNat)
 case atStart => exact ⟨0, by omega, rfl, fun j h1 h2 => by omega⟩
 case round =>
  obtain ⟨i, hiM, rfl, hall⟩ := hrel
  have Hall := Lib.hid hall
  clear hall
  by_cases hlt : i < 1
  ·have hltI : (i : Int) < 1 := by omega
   have hc : W.cell? ⟨g5, 2 + i, none⟩ = some (.int .i32 (f.nums.getD (2 + i) 0)) := by
    rw [PA2.out.cell, List.getElem?_map, List.getD_eq_getElem?_getD, List.getElem?_eq_getElem (show 2 + i < f.nums.length from by show 2 + i < 3; omega)]
    rfl
   obtain ⟨x, hx⟩ : ∃ x, f.nums.getD (2 + i) 0 = x := ⟨_, rfl⟩
   rw [hx] at hc
   try rw [Nat.zero_add] at hc
   by_cases h0 : x = 0
   ·subst h0
    have Hx := Lib.hid hx
    clear hx
    go_wp2_with fail
    go_round
    case rel =>
     refine ⟨i + 1, by omega, by go_num, fun j h1 h2 => ?_⟩
     by_cases e : j = 2 + i
     ·rw [e]; exact Hx.out
     ·exact Hall.out j h1 (by omega)
    case measure => first | (simp [intOf]; done) | (simp [intOf]; omega)
   ·have hxb : (x == 0) = false := beq_eq_false_iff_ne.2 h0
    have hcode : codeF f = 1 := by
     rw [Hcode.out, if_neg]
     intro ha
     have hl : 2 + i < f.nums.length := by show 2 + i < 3; omega
     have hm : x ∈ f.nums.drop 2 := by
      rw [← hx, List.getD_eq_getElem?_getD, List.getElem?_eq_getElem hl]
      exact List.mem_drop_iff_getElem.2 ⟨i, by omega, rfl⟩
     exact h0 (by simpa using List.all_eq_true.1 ha x hm)
    have Hc1 := Lib.hid hcode
    clear hx h0 hcode
    go_wp2_with fail
    refine bodyPost_ret (results_tmp2 rfl _ _ _) rfl ?_
    exact GotF.no (x := 1) Hc1.out (by decide) B2.out
  ·obtain rfl : i = 1 := by omega
   have hcode : codeF f = 0 := by
    rw [Hcode.out, if_pos]
    refine List.all_eq_true.2 fun x hx => ?_
    obtain ⟨q, hq, rfl⟩ := List.mem_drop_iff_getElem.1 hx
    have hq3 : q + 2 < 3 := hq
    have := Hall.out (2 + q) (by omega) (by omega)
    rw [List.getD_eq_getElem?_getD, List.getElem?_eq_getElem (by omega)] at this
    simpa using this
   have Hc0 := Lib.hid hcode
   clear hcode Hall Hcode
   have e0 : W.cell? ⟨w.heap.size, 0, none⟩ = some (.int .i64 f.k) := PF.out.cell 0
   have hwW : w.heap.size < W.heap.size := PF.out.lt
   have hgW : g5 < W.heap.size := PA2.out.lt
   have PF2 := Lib.hid (PF.out.alloc (.cells #[.int .u8 126, .int .u8 (kb.toNat : Int)] 5))
   have PA3 := Lib.hid (PA2.out.alloc (.cells #[.int .u8 126, .int .u8 (kb.toNat : Int)] 5))
   have e1 : (W.alloc (.cells #[.int .u8 126, .int .u8 (kb.toNat : Int)] 5)).cell? ⟨w.heap.size, 1, none⟩ = some (.int .u16 (f.q : Int)) := PF2.out.cell 1
   have hq64 : IntKind.u64.wrap (f.q : Int) = (f.q : Int) := IntWalk.u64_in _ (by have := HF.out.q; omega)
   have ht64 : IntKind.u64.wrap (f.t : Int) = (f.t : Int) := IntWalk.u64_in _ (by have := HF.out.t; omega)
   have hrd0 := Lib.hid (new_rd W 5 ([126, kb].map bv))
   have B3 := Lib.hid (B2.out.alloc B2.out.size (.cells #[.int .u8 126, .int .u8 (kb.toNat : Int)] 5))
   have hput1 := fun w' h => Txt.put_any (some ⟨W.heap.size, 0, none⟩) [126, kb] 2 2 f.q 2 W.heap.size (W.heap.size + 1) w' h rfl (fun h => by cases h) (by have := HF.out.q; omega) (by decide) (by decide)
   clear B2 PF PA2
   go_wp2_with fail
   refine (hput1 _ hrd0.out).mono ?_
   rintro e w3 ⟨⟨v3, rfl, hown3⟩, hb3⟩
   have PF3 := Lib.hid (PF2.out.next hb3)
   have PA4 := Lib.hid (PA3.out.next hb3)
   have B4 := Lib.hid (_root_.Go.Proofs.YtekjehbkmlodmaaGreat.bt B3.out hb3)
   have e2 : w3.cell? ⟨w.heap.size, 2, none⟩ = some (.int .u32 (f.t : Int)) := PF3.out.cell 2
   obtain ⟨A3, cap3, rfl, hrd3, _, _, hA3⟩ := own_rd hown3
   have Hrd3 := Lib.hid hrd3
   have hl3 : ([126, kb] ++ leB f.q 2).length = 4 := by rw [List.length_append, leB_len]; rfl
   have hput2 := Txt.put_any A3 ([126, kb] ++ leB f.q 2) _ cap3 f.t 4 _ _ w3 hrd3 rfl hA3 (by have := HF.out.t; omega) (by decide) (by omega)
   rw [hl3] at hput2
   clear hb3 hown3 hrd3 hA3 hput1 PF2 PA3 B3 e0 e1 hrd0
   rw [hl3]
   go_wp2_with fail
   refine hput2.mono ?_
   rintro e w4 ⟨⟨v4, rfl, hown4⟩, hb4⟩
   have PA5 := Lib.hid (PA4.out.next hb4)
   have B5 := Lib.hid (_root_.Go.Proofs.YtekjehbkmlodmaaGreat.bt B4.out hb4)
   rw [← Hhead.out] at hown4
   have Hown4 := Lib.hid (own_down hown4 (show w.heap.size ≤ _ from B4.out.size))
   clear hb4 hown4 PF3 PA4 B4 e2 hput2 hl3
   go_wp2_with fail
   go_loopw [8, 10, 49] (fun v _ u wr => ∃ i : Nat, i ≤ 2 ∧ u = .int .i64 (i : Int) ∧ wr.ownsRow w.heap.size 5 1 v (headL f ++ numsL (f.nums.take i)).length ((headL f ++ numsL (f.nums.take i)).map bv) ∧ Below w.heap.size w wr ∧ Blk wr g5 161 (f.nums.map (.int .i32))) (fun _ _ u _ => 2 - (intOf u).toNat)
   case atStart => exact ⟨0, by omega, rfl, by rw [show numsL (f.nums.take 0) = [] from rfl, List.append_nil]; exact Hown4.out, B5.out, PA5.out⟩
   case round =>
    clear Hown4 B5 PA5
    obtain ⟨i, hiN, rfl, hown, hb, hpa⟩ := hrel
    have Hb := Lib.hid hb
    have Hpa := Lib.hid hpa
    have hL8 : (headL f ++ numsL (f.nums.take i)).length ≤ 1000 := by
     rw [List.length_append, Hhead.out]
     have h1 : ∀ l : List Int, (numsL l).length = 4 * l.length := fun l => by
      unfold numsL
      induction l with
      | nil => rfl
      | cons a l ih => rw [List.flatMap_cons, List.length_append, ih, leB_len, List.length_cons]; omega
     have h2 : (f.nums.take i).length ≤ 3 := List.length_take_le' i f.nums
     rw [h1]
     simp only [List.length_append, leB_len, List.length_cons, List.length_nil]
     omega
    obtain ⟨L, hL⟩ : ∃ L, L = headL f ++ numsL (f.nums.take i) := ⟨_, rfl⟩
    obtain ⟨m, hm⟩ : ∃ m, L.length = m := ⟨_, rfl⟩
    rw [← hL, hm] at hown hL8
    have HM := Lib.hid hm
    obtain ⟨A5, cap5, rfl, hrd5, _, _, hA5⟩ := own_rd hown
    have Hrd5 := Lib.hid hrd5
    by_cases hlt : i < 2
    ·have hltI : (i : Int) < 2 := by omega
     have hi3 : i < f.nums.length := by show i < 3; omega
     have hc : wr.cell? ⟨g5, i, none⟩ = some (.int .i32 f.nums[i]) := by
      rw [Hpa.out.cell, List.getElem?_map, List.getElem?_eq_getElem hi3]
      rfl
     have hu1 : IntKind.u32.wrap f.nums[i] = (low32 f.nums[i] : Int) := by rw [IntKind.wrap_u32]; unfold low32; omega
     have hu0 : low32 f.nums[i] < 4294967296 := by unfold low32; omega
     have hu2 : IntKind.u64.wrap (low32 f.nums[i] : Int) = (low32 f.nums[i] : Int) := IntWalk.u64_in _ (by omega)
     have hnx : headL f ++ numsL (f.nums.take (i + 1)) = L ++ leB (low32 f.nums[i]) 4 := by
      rw [hL, List.take_add_one, List.getElem?_eq_getElem hi3, List.append_assoc]
      unfold numsL
      rw [List.flatMap_append]
      simp
     have hput3 := Txt.put_any A5 L m cap5 (low32 f.nums[i]) 4 _ _ wr hrd5 hm hA5 (by omega) (by decide) (by omega)
     rw [← hnx] at hput3
     clear hnx hrd5 hA5 hown hb hpa hu0 hL hm
     obtain ⟨L2, hL2⟩ : ∃ L2, L2 = headL f ++ numsL (f.nums.take (i + 1)) := ⟨_, rfl⟩
     rw [← hL2] at hput3
     have HL2 := Lib.hid hL2
     clear hL2
     generalize low32 f.nums[i] = y at *
     generalize f.nums[i] = x at *
     go_wp2_with fail
     refine hput3.mono ?_
     rintro e w6 ⟨⟨v6, rfl, hown6⟩, hb6⟩
     have HO := Lib.hid (own_down hown6 (show w.heap.size ≤ _ from Hb.out.size))
     have PA7 := Lib.hid (Hpa.out.next hb6)
     have B7 := Lib.hid (_root_.Go.Proofs.YtekjehbkmlodmaaGreat.bt Hb.out hb6)
     clear hown6 hb6 hput3
     go_wp2_with fail
     go_roundw
     case rel => exact ⟨i + 1, by omega, by go_num, by rw [← HL2.out]; exact HO.out, B7.out, PA7.out⟩
     case measure => first | (simp [intOf]; done) | (simp [intOf]; omega)
    ·obtain rfl : i = 2 := by omega
     have hown' : Crc.Own wr w.heap.size (.slice A5 m cap5) L := by unfold Crc.Own; rw [hm]; exact hown
     obtain ⟨A6, cap6, e6, hby6, _, hn6⟩ := hown'.bytes
     injection e6 with e7 e9 e8
     subst e7 e8
     have hput4 := Crc.put_any A5 L cap5 wr hby6 hn6 (by omega)
     rw [hL, ← Hby.out, ← hL, hm] at hput4
     clear hby6 hn6 hrd5 hA5 hown hb hpa hown' e9 hL hm
     go_wp2_with fail
     refine hput4.mono ?_
     rintro e w6 ⟨v6, rfl, hown6, hb6⟩
     have HO := Lib.hid (own_down hown6 (show w.heap.size ≤ _ from Hb.out.size))
     have B7 := Lib.hid (_root_.Go.Proofs.YtekjehbkmlodmaaGreat.bt Hb.out hb6)
     clear hown6 hb6 hput4
     go_wp2_with fail
     refine bodyPost_ret (results_tmp2 rfl _ _ _) rfl ?_
     exact GotF.yes Hc0.out rfl HO.out B7.out
set_option maxRecDepth 100000 in
set_option maxHeartbeats 1000000 in
theorem put_3 (f : Fr) (hf : f.Ok) (hk : numK f.k = 3) (hk1 : 1 ≤ f.k) (hk7 : f.k ≤ 7) (w : World) :
  Calls Tryz.prog 66 #[f.v] w (GotF w f) := by
 obtain ⟨i0, hi, hz0, hz1, hz2⟩ := info_parts Txt.infoByte
 have hnum := fun w => numbers_any f.k w
 have hblk := Lib.hid (Blk.mk w 59 f.cells)
 have hbw := Lib.hid (bl w (.cells f.cells.toArray 59))
 have hf1 := hf
 have HF := Lib.hid hf1
 clear hf hf1
 have hc0 : (w.alloc (.cells f.cells.toArray 59)).cell? ⟨w.heap.size, 0, none⟩ = some (.int .i64 f.k) := hblk.out.cell 0
 unfold Fr.v
 have hcode : codeF f = if (f.nums.drop 3).all (· == 0) = true then 0 else 1 := by unfold codeF; rw [hk, if_neg (by omega)]; rfl
 have hby : bytesF f = Crc.put (headL f ++ numsL (f.nums.take 3)) := by unfold bytesF; rw [hk]; rfl
 rw [hk] at hnum
 have Hcode := Lib.hid hcode
 have Hby := Lib.hid hby
 have hw1 : IntKind.u8.wrap f.k = ((UInt8.ofNat f.k.toNat).toNat : Int) := by rw [UInt8.toNat_ofNat', IntKind.wrap_u8]; omega
 obtain ⟨kb, hkb⟩ : ∃ c, c = UInt8.ofNat f.k.toNat := ⟨_, rfl⟩
 rw [← hkb] at hw1
 have hhead : headL f = [126, kb] ++ leB f.q 2 ++ leB f.t 4 := by rw [hkb]; rfl
 have Hhead := Lib.hid hhead
 clear hcode hby hk hkb hhead
 obtain ⟨cs, hcs⟩ : ∃ c, c = f.cells.toArray := ⟨_, rfl⟩
 rw [← hcs] at hblk hbw hc0 ⊢
 clear hcs
 go_enter Tryz.func66, Tryz.ntmps66
 go_wp2_with fail
 refine (hnum _).mono ?_
 rintro e w1 ⟨rfl, hb1⟩
 have P1 := hblk.out.below hb1 (show w.heap.size < (w.alloc (.cells cs 59)).heap.size by simp)
 have e3 : w1.cell? ⟨w.heap.size, 3, none⟩ = some (.int .i32 f.a) := P1.cell 3
 have e4 : w1.cell? ⟨w.heap.size, 4, none⟩ = some (.int .i32 f.b) := P1.cell 4
 have e5 : w1.cell? ⟨w.heap.size, 5, none⟩ = some (.int .i32 f.c) := P1.cell 5
 have hsz1 := (_root_.Go.Proofs.YtekjehbkmlodmaaGreat.bt hbw.out hb1).size
 have B2 := Lib.hid ((_root_.Go.Proofs.YtekjehbkmlodmaaGreat.bt hbw.out hb1).alloc hsz1 (.cells #[.int .i32 f.a, .int .i32 f.b, .int .i32 f.c] 161))
 have PF := Lib.hid (P1.alloc (.cells #[.int .i32 f.a, .int .i32 f.b, .int .i32 f.c] 161))
 have PA := Lib.hid (Blk.mk w1 161 (f.nums.map (.int .i32)))
 clear hb1 hbw hblk P1
 go_wp2_with fail
 generalize hW : w1.alloc (.cells #[.int .i32 f.a, .int .i32 f.b, .int .i32 f.c] 161) = W at *
 have PA2 : Hid (Blk W w1.heap.size 161 (f.nums.map (.int .i32))) := Lib.hid (by rw [← hW]; exact PA.out)
 clear hW e3 e4 e5 PA
 generalize w1.heap.size = g5 at *
 go_loop [26] (fun u => ∃ i : Nat, i ≤ 0 ∧ u = .int .i64 (i : Int) ∧ ∀ j, 3 ≤ j → j < 3 + i → f.nums.getD j 0 = 0) (fun u => 0 - (intOf u).toNat)
 case atStart => exact ⟨0, by omega, rfl, fun j h1 h2 => by omega⟩
 case round =>
  obtain ⟨i, hiM, rfl, hall⟩ := hrel
  have Hall := Lib.hid hall
  clear hall
  by_cases hlt : i < 0
  ·exact absurd hlt (Nat.not_lt_zero i)
  ·obtain rfl : i = 0 := by omega
   have hcode : codeF f = 0 := by
    rw [Hcode.out, if_pos]
    refine List.all_eq_true.2 fun x hx => ?_
    obtain ⟨q, hq, rfl⟩ := List.mem_drop_iff_getElem.1 hx
    have hq3 : q + 3 < 3 := hq
    have := Hall.out (3 + q) (by omega) (by omega)
    rw [List.getD_eq_getElem?_getD, List.getElem?_eq_getElem (by omega)] at this
    simpa using this
   have Hc0 := Lib.hid hcode
   clear hcode Hall Hcode
   have e0 : W.cell? ⟨w.heap.size, 0, none⟩ = some (.int .i64 f.k) := PF.out.cell 0
   have hwW : w.heap.size < W.heap.size := PF.out.lt
   have hgW : g5 < W.heap.size := PA2.out.lt
   have PF2 := Lib.hid (PF.out.alloc (.cells #[.int .u8 126, .int .u8 (kb.toNat : Int)] 5))
   have PA3 := Lib.hid (PA2.out.alloc (.cells #[.int .u8 126, .int .u8 (kb.toNat : Int)] 5))
   have e1 : (W.alloc (.cells #[.int .u8 126, .int .u8 (kb.toNat : Int)] 5)).cell? ⟨w.heap.size, 1, none⟩ = some (.int .u16 (f.q : Int)) := PF2.out.cell 1
   have hq64 : IntKind.u64.wrap (f.q : Int) = (f.q : Int) := IntWalk.u64_in _ (by have := HF.out.q; omega)
   have ht64 : IntKind.u64.wrap (f.t : Int) = (f.t : Int) := IntWalk.u64_in _ (by have := HF.out.t; omega)
   have hrd0 := Lib.hid (new_rd W 5 ([126, kb].map bv))
   have B3 := Lib.hid (B2.out.alloc B2.out.size (.cells #[.int .u8 126, .int .u8 (kb.toNat : Int)] 5))
   have hput1 := fun w' h => Txt.put_any (some ⟨W.heap.size, 0, none⟩) [126, kb] 2 2 f.q 2 W.heap.size (W.heap.size + 1) w' h rfl (fun h => by cases h) (by have := HF.out.q; omega) (by decide) (by decide)
   clear B2 PF PA2
   go_wp2_with fail
   refine (hput1 _ hrd0.out).mono ?_
   rintro e w3 ⟨⟨v3, rfl, hown3⟩, hb3⟩
   have PF3 := Lib.hid (PF2.out.next hb3)
   have PA4 := Lib.hid (PA3.out.next hb3)
   have B4 := Lib.hid (_root_.Go.Proofs.YtekjehbkmlodmaaGreat.bt B3.out hb3)
   have e2 : w3.cell? ⟨w.heap.size, 2, none⟩ = some (.int .u32 (f.t : Int)) := PF3.out.cell 2
   obtain ⟨A3, cap3, rfl, hrd3, _, _, hA3⟩ := own_rd hown3
   have Hrd3 := Lib.hid hrd3
   have hl3 : ([126, kb] ++ leB f.q 2).length = 4 := by rw [List.length_append, leB_len]; rfl
   have hput2 := Txt.put_any A3 ([126, kb] ++ leB f.q 2) _ cap3 f.t 4 _ _ w3 hrd3 rfl hA3 (by have := HF.out.t; omega) (by decide) (by omega)
   rw [hl3] at hput2
   clear hb3 hown3 hrd3 hA3 hput1 PF2 PA3 B3 e0 e1 hrd0
   rw [hl3]
   go_wp2_with fail
   refine hput2.mono ?_
   rintro e w4 ⟨⟨v4, rfl, hown4⟩, hb4⟩
   have PA5 := Lib.hid (PA4.out.next hb4)
   have B5 := Lib.hid (_root_.Go.Proofs.YtekjehbkmlodmaaGreat.bt B4.out hb4)
   rw [← Hhead.out] at hown4
   have Hown4 := Lib.hid (own_down hown4 (show w.heap.size ≤ _ from B4.out.size))
   clear hb4 hown4 PF3 PA4 B4 e2 hput2 hl3
   go_wp2_with fail
   go_loopw [8, 10, 49] (fun v _ u wr => ∃ i : Nat, i ≤ 3 ∧ u = .int .i64 (i : Int) ∧ wr.ownsRow w.heap.size 5 1 v (headL f ++ numsL (f.nums.take i)).length ((headL f ++ numsL (f.nums.take i)).map bv) ∧ Below w.heap.size w wr ∧ Blk wr g5 161 (f.nums.map (.int .i32))) (fun _ _ u _ => 3 - (intOf u).toNat)
   case atStart => exact ⟨0, by omega, rfl, by rw [show numsL (f.nums.take 0) = [] from rfl, List.append_nil]; exact Hown4.out, B5.out, PA5.out⟩
   case round =>
    clear Hown4 B5 PA5
    obtain ⟨i, hiN, rfl, hown, hb, hpa⟩ := hrel
    have Hb := Lib.hid hb
    have Hpa := Lib.hid hpa
    have hL8 : (headL f ++ numsL (f.nums.take i)).length ≤ 1000 := by
     rw [List.length_append, Hhead.out]
     have h1 : ∀ l : List Int, (numsL l).length = 4 * l.length := fun l => by
      unfold numsL
      induction l with
      | nil => rfl
      | cons a l ih => rw [List.flatMap_cons, List.length_append, ih, leB_len, List.length_cons]; omega
     have h2 : (f.nums.take i).length ≤ 3 := List.length_take_le' i f.nums
     rw [h1]
     simp only [List.length_append, leB_len, List.length_cons, List.length_nil]
     omega
    obtain ⟨L, hL⟩ : ∃ L, L = headL f ++ numsL (f.nums.take i) := ⟨_, rfl⟩
    obtain ⟨m, hm⟩ : ∃ m, L.length = m := ⟨_, rfl⟩
    rw [← hL, hm] at hown hL8
    have HM := Lib.hid hm
    obtain ⟨A5, cap5, rfl, hrd5, _, _, hA5⟩ := own_rd hown
    have Hrd5 := Lib.hid hrd5
    by_cases hlt : i < 3
    ·have hltI : (i : Int) < 3 := by omega
     have hi3 : i < f.nums.length := by show i < 3; omega
     have hc : wr.cell? ⟨g5, i, none⟩ = some (.int .i32 f.nums[i]) := by
      rw [Hpa.out.cell, List.getElem?_map, List.getElem?_eq_getElem hi3]
      rfl
     have hu1 : IntKind.u32.wrap f.nums[i] = (low32 f.nums[i] : Int) := by rw [IntKind.wrap_u32]; unfold low32; omega
     have hu0 : low32 f.nums[i] < 4294967296 := by unfold low32; omega
     have hu2 : IntKind.u64.wrap (low32 f.nums[i] : Int) = (low32 f.nums[i] : Int) := IntWalk.u64_in _ (by omega)
     have hnx : headL f ++ numsL (f.nums.take (i + 1)) = L ++ leB (low32 f.nums[i]) 4 := by
      rw [hL, List.take_add_one, List.getElem?_eq_getElem hi3, List.append_assoc]
      unfold numsL
      rw [List.flatMap_append]
      simp
     have hput3 := Txt.put_any A5 L m cap5 (low32 f.nums[i]) 4 _ _ wr hrd5 hm hA5 (by omega) (by decide) (by omega)
     rw [← hnx] at hput3
     clear hnx hrd5 hA5 hown hb hpa hu0 hL hm
     obtain ⟨L2, hL2⟩ : ∃ L2, L2 = headL f ++ numsL (f.nums.take (i + 1)) := ⟨_, rfl⟩
     rw [← hL2] at hput3
     have HL2 := Lib.hid hL2
     clear hL2
     generalize low32 f.nums[i] = y at *
     generalize f.nums[i] = x at *
     go_wp2_with fail
     refine hput3.mono ?_
     rintro e w6 ⟨⟨v6, rfl, hown6⟩, hb6⟩
     have HO := Lib.hid (own_down hown6 (show w.heap.size ≤ _ from Hb.out.size))
     have PA7 := Lib.hid (Hpa.out.next hb6)
     have B7 := Lib.hid (_root_.Go.Proofs.YtekjehbkmlodmaaGreat.bt Hb.out hb6)
     clear hown6 hb6 hput3
     go_wp2_with fail
     go_roundw
     case rel => exact ⟨i + 1, by omega, by go_num, by rw [← HL2.out]; exact HO.out, B7.out, PA7.out⟩
     case measure => first | (simp [intOf]; done) | (simp [intOf]; omega)
    ·obtain rfl : i = 3 := by omega
     have hown' : Crc.Own wr w.heap.size (.slice A5 m cap5) L := by unfold Crc.Own; rw [hm]; exact hown
     obtain ⟨A6, cap6, e6, hby6, _, hn6⟩ := hown'.bytes
     injection e6 with e7 e9 e8
     subst e7 e8
     have hput4 := Crc.put_any A5 L cap5 wr hby6 hn6 (by omega)
     rw [hL, ← Hby.out, ← hL, hm] at hput4
     clear hby6 hn6 hrd5 hA5 hown hb hpa hown' e9 hL hm
     go_wp2_with fail
     refine hput4.mono ?_
     rintro e w6 ⟨v6, rfl, hown6, hb6⟩
     have HO := Lib.hid (own_down hown6 (show w.heap.size ≤ _ from Hb.out.size))
     have B7 := Lib.hid (_root_.Go.Proofs.YtekjehbkmlodmaaGreat.bt Hb.out hb6)
     clear hown6 hb6 hput4
     go_wp2_with fail
     refine bodyPost_ret (results_tmp2 rfl _ _ _) rfl ?_
     exact GotF.yes Hc0.out rfl HO.out B7.out
theorem put_any (f : Fr) (hf : f.Ok) (w : World) : Calls Tryz.prog 66 #[f.v] w (GotF w f) := by
 rcases numK_cases f.k with ⟨h, _⟩ | ⟨n, h, h3, h1, h7⟩
 ·exact put_none f hf h w
 ·rcases (by omega : n = 0 ∨ n = 1 ∨ n = 2 ∨ n = 3) with rfl | rfl | rfl | rfl
  ·exact put_0 f hf h h1 h7 w
  ·exact put_1 f hf h h1 h7 w
  ·exact put_2 f hf h h1 h7 w
  ·exact put_3 f hf h h1 h7 w
end Frm
end Go.Proofs.YtekjehbkmlodmaaGreat
end
section
namespace Go.Proofs.YtekjehbkmlodmaaGreat
open Go.RowKit
namespace Crc
theorem le4_len (s : BitVec 32) : (le4 s).length = 4 := rfl
theorem le4_take (s : BitVec 32) (k : Nat) (h : k < 4) : (le4 s).take (k + 1) = (le4 s).take k ++ [byteAt s k] := by
 obtain rfl | rfl | rfl | rfl : k = 0 ∨ k = 1 ∨ k = 2 ∨ k = 3 := by omega
 all_goals rfl
set_option maxRecDepth 100000 in
set_option maxHeartbeats 1000000 in
theorem rput_any (A : Option Addr) (l : List UInt8) (cap : Nat) (w : World) (hA : Bytes w A l) (hn : A = none → l.length = 0 ∧ cap = 0) (hl : l.length ≤ 1000000) :
  Calls Tryz.prog 46 #[.slice A l.length cap] w fun e w' => ∃ v, e = .returned v ∧ Own w' w.heap.size v (put l) ∧ Below w.heap.size w w' := by
 obtain ⟨i0, hi, hz0, hz1, hz2⟩ := info_parts infoByte
 go_enter Tryz.func46, Tryz.ntmps46
 go_wp2_with (first | (go_at_call 68; refine (rsum_any _ _ _ _ hA (by unfold maxLen; omega)).mono ?_; rintro e w' ⟨rfl, rfl⟩) | (at_builtin; refine wpList_append_both rfl (.tmp 8) (.tmp 9) 35 rfl w.heap.size 5 i0 (.int .u8 0) 1 1 Tryz.underlying35 hi hz0 hz1 hz2 rfl (by decide) _ 0 [] rfl ?o1 A l.length cap (l.map bv) rfl (by simp) hn ?n1 (bv_one l) ?b1 ?b2 ?b3 ?_; rotate_right; intro v1 w1 hown1 hg1))
 ·have hw1 : Below w.heap.size w w1 := (Below.refl _ _).grown hg1 (Nat.le_refl _) (own_ge (World.ownsRow_nil w w.heap.size 5 1))
  go_loopw [3, 4, 5] (fun s v i wr => ∃ k : Nat, k ≤ 4 ∧ i = .int .i64 k ∧ s = .int .u32 (u (sum l) / 256 ^ k) ∧ Own wr w.heap.size v (l ++ (le4 (sum l)).take k) ∧ Below w.heap.size w wr) (fun _ _ i _ => 4 - (intOf i).toNat)
  case atStart =>
   refine ⟨0, by omega, rfl, by simp, ?_, hw1⟩
   simpa [Own] using hown1
  case round =>
   clear hown1 hg1 hw1
   obtain ⟨k, hk, rfl, rfl, hown, hb⟩ := hrel
   by_cases hlt : k < 4
   ·have ht := le4_take (sum l) k hlt
    have hby := byteAt_u (sum l) k
    have hpw : (256 : Int) ^ k = 2 ^ (8 * k) := by rw [show (256 : Int) = 2 ^ 8 from rfl, Int.pow_mul]
    generalize hB : byteAt (sum l) k = bt at *
    rw [← hpw] at hby
    have hdiv : u (sum l) / 256 ^ k / 256 = u (sum l) / 256 ^ (k + 1) := by
     rw [Int.ediv_ediv_of_nonneg (by exact Int.le_of_lt (Int.pow_pos (by decide)))]
     rfl
    have hge : 0 ≤ u (sum l) / 256 ^ k := Int.ediv_nonneg (u_ge _) (Int.le_of_lt (Int.pow_pos (by decide)))
    have hle : u (sum l) / 256 ^ k < 4294967296 := Int.lt_of_le_of_lt (Int.ediv_le_self _ (u_ge _)) (u_lt _)
    generalize u (sum l) / 256 ^ k = q at *
    have Hdiv := Lib.hid hdiv; clear hdiv
    have Ht := Lib.hid ht; clear ht hB hpw
    go_wp2_with (at_builtin; refine wpList_append_both rfl (.tmp 15) (.tmp 19) 35 rfl w.heap.size 5 i0 (.int .u8 0) 1 1 Tryz.underlying35 hi hz0 hz1 hz2 rfl (by decide) _ _ _ rfl (World.ownsRow.alloc hown _) _ 1 1 ([bt].map bv) rfl rfl (by simp) ?n2 (bv_one _) ?b4 ?b5 ?b6 ?_; rotate_right; intro v2 w2 hown2 hg2)
    ·go_roundw
     case rel =>
      refine ⟨k + 1, by omega, by go_num, by rw [Hdiv.out], ?_, ?_⟩
      ·rw [Ht.out, ← List.append_assoc]
       exact own_append (b := [bt]) hown2
      ·exact (hb.alloc hb.size _).grown hg2 (by have := hb.size; simp; omega) (own_ge hown)
     case measure => simp [intOf]; omega
    case n2 => exact (Blk.mk wr 5 ([bt].map bv)).news
    case b4 => have : (List.take k (le4 (sum l))).length ≤ 4 := List.length_take_le' _ _; simp only [maxLen, List.length_append]; omega
    case b5 => have : (List.take k (le4 (sum l))).length ≤ 4 := List.length_take_le' _ _; simp only [List.length_append]; omega
    case b6 => have := hb.size; simp; omega
   ·obtain rfl : k = 4 := by omega
    go_wp2
    go_ret
    exact ⟨_, rfl, hown, hb⟩
 case o1 => exact World.ownsRow_nil w _ _ _
 case n1 => exact hA.news
 case b1 => simp only [maxLen]; omega
 case b2 => omega
 case b3 => omega
end Crc
end Go.Proofs.YtekjehbkmlodmaaGreat
end
section
namespace Go.Proofs.YtekjehbkmlodmaaGreat
open Go.RowKit
namespace Frm
open Txt (kind_cases bv bv_one GotB leB leB_len leB_succ tx)
theorem _root_.Go.Proofs.YtekjehbkmlodmaaGreat.own_row (w : World) (t : TypeId) (l : List Value) (n : Nat) (hn : l.length = n) (hm : n ≤ 1000000) :
  (w.alloc (.cells l.toArray t)).ownsRow w.heap.size t 1 (.slice (some ⟨w.heap.size, 0, none⟩) n n) n l := by
 subst hn
 exact ⟨by simp, .inr ⟨_, l.length, l.toArray, rfl, Nat.le_refl _, heap_alloc_new w _, Nat.le_refl _, by unfold maxLen; omega, by simp, by simp⟩⟩
set_option maxRecDepth 100000 in
set_option maxHeartbeats 1000000 in
theorem ynumbers_any (k : Int) (w : World) :
  Calls Tryz.prog 44 #[.int .i64 k] w fun e w' => e = .returned (.int .i64 (numK k)) ∧ w = w' := by
 rcases kind_cases k with rfl | rfl | rfl | rfl | rfl | rfl | rfl | h
 all_goals try
  go_enter Tryz.func44, Tryz.ntmps44
  go_wp2
  go_ret
  exact ⟨rfl, rfl⟩
 have hw : numK k = -1 := numN_none (by omega)
 have h1 : (k == 1) = false := beq_eq_false_iff_ne.2 (by omega)
 have h2 : (k == 2) = false := beq_eq_false_iff_ne.2 (by omega)
 have h3 : (k == 3) = false := beq_eq_false_iff_ne.2 (by omega)
 have h4 : (k == 4) = false := beq_eq_false_iff_ne.2 (by omega)
 have h5 : (k == 5) = false := beq_eq_false_iff_ne.2 (by omega)
 have h6 : (k == 6) = false := beq_eq_false_iff_ne.2 (by omega)
 have h7 : (k == 7) = false := beq_eq_false_iff_ne.2 (by omega)
 have Hw := Lib.hid hw
 clear hw h
 go_enter Tryz.func44, Tryz.ntmps44
 go_wp2
 go_ret
 exact ⟨by rw [Hw.out]; rfl, rfl⟩
end Frm
end Go.Proofs.YtekjehbkmlodmaaGreat
end
section
namespace Go.Proofs.YtekjehbkmlodmaaGreat
open Go.RowKit
namespace Frm
open Txt (kind_cases bv bv_one GotB leB leB_len leB_succ tx)
end Frm
end Go.Proofs.YtekjehbkmlodmaaGreat
end
section
namespace Go.Proofs.YtekjehbkmlodmaaGreat
open Go.RowKit
namespace Crc
theorem _root_.Go.World.ownsRow.down {w : World} {base base' : Nat} {e : TypeId} {size n : Nat} {v : Value} {xs : List Value} (h : w.ownsRow base e size v n xs) (hb : base' ≤ base) : w.ownsRow base' e size v n xs := by
 refine ⟨h.1, ?_⟩
 rcases h.2 with h2 | ⟨g, cap, cur, e1, e2, r⟩
 ·exact .inl h2
 ·exact .inr ⟨g, cap, cur, e1, Nat.le_trans hb e2, r⟩
theorem sum_n {A : Option Addr} {a : List UInt8} {n cap : Nat} {w : World} (han : a.length = n) (hA : Bytes w A a) (hl : n ≤ maxLen) :
  Calls Tryz.prog 54 #[.slice A n cap] w fun e w' => e = .returned (.int .u32 (u (sum a))) ∧ w = w' := by
 subst han
 exact sum_any A a cap w hA hl
def get (a t : List UInt8) : Bool := t == le4 (sum a)
def Got (w : World) (a t : List UInt8) (e : Ending) (w' : World) : Prop :=
 ∃ v, e = .returned (.tuple #[v, .bool (get a t)]) ∧ (if get a t then Own w' w.heap.size v a else v = .slice none 0 0) ∧ Below w.heap.size w w'
theorem Got.no {w w' : World} {a t : List UInt8} {e : Ending} (hg : get a t = false) (he : e = .returned (.tuple #[.slice none 0 0, .bool false])) (hb : Below w.heap.size w w') : Got w a t e w' :=
 ⟨_, by rw [hg]; exact he, by rw [hg]; rfl, hb⟩
theorem Got.yes {w w' : World} {a t : List UInt8} {e : Ending} {v : Value} (hg : get a t = true) (he : e = .returned (.tuple #[v, .bool true])) (ho : Own w' w.heap.size v a) (hb : Below w.heap.size w w') : Got w a t e w' :=
 ⟨v, by rw [hg]; exact he, by rw [hg]; exact ho, hb⟩
set_option maxRecDepth 100000 in
set_option maxHeartbeats 1000000 in
theorem get_short (A : Option Addr) (l : List UInt8) (cap : Nat) (w : World) (hl : l.length < 4) :
  Calls Tryz.prog 61 #[.slice A l.length cap] w fun e w' => e = .returned (.tuple #[.slice none 0 0, .bool false]) ∧ w = w' := by
 go_enter Tryz.func61, Tryz.ntmps61
 go_wp2
 go_ret2
 exact ⟨rfl, rfl⟩
set_option maxRecDepth 100000 in
set_option maxHeartbeats 1000000 in
theorem get_core (A : Option Addr) (a : List UInt8) (t0 t1 t2 t3 : UInt8) (n cap : Nat) (w : World) (han : a.length = n) (hA : Bytes w A (a ++ [t0, t1, t2, t3])) (hn : n ≤ 1000000) (hcap : n + 4 ≤ cap) :
  Calls Tryz.prog 61 #[.slice A (n + 4) cap] w (Got w a [t0, t1, t2, t3]) := by
 rcases hA with h0 | ⟨b, off, rfl, hb, hc⟩
 ·exfalso
  have := congrArg List.length h0
  simp at this
 obtain ⟨i0, hi, hz0, hz1, hz2⟩ := info_parts infoByte
 have hAa : Bytes w (some ⟨b, off, none⟩) a := by
  refine .inr ⟨b, off, rfl, hb, fun i hi => ?_⟩
  have := hc i (by simp; omega)
  rw [List.getElem_append_left hi] at this
  exact this
 have ht4 : ∀ j (hj : j < 4), w.cell? ⟨b, off + (n + j), none⟩ = some (.int .u8 ([t0, t1, t2, t3][j].toNat : Int)) := by
  intro j hj
  have := hc (n + j) (by simp; omega)
  rw [List.getElem_append_right (by omega)] at this
  simpa [han] using this
 have e1 : (n : Int) + 4 - 4 = (n : Int) := by omega
 have hs0 := byteAt_u (sum a) 0
 have hs1 := byteAt_u (sum a) 1
 have hs2 := byteAt_u (sum a) 2
 have hs3 := byteAt_u (sum a) 3
 have Hc := Lib.hid hc; clear hc
 have Han := Lib.hid han
 have Ht := Lib.hid ht4; clear ht4
 have HAa := Lib.hid hAa; clear hAa
 clear han
 have hd : decide ((n : Int) < 0) = false := by simp
 go_enter Tryz.func61, Tryz.ntmps61
 go_wp2_with fail
 refine (sum_n Han.out HAa.out (by unfold maxLen; omega)).mono ?_
 rintro e w' ⟨rfl, rfl⟩
 go_wp2_with fail
 go_loopw [16] (fun i wr => ∃ k : Nat, k ≤ 4 ∧ i = .int .i64 k ∧ (∀ j, j < k → [t0, t1, t2, t3].getD j 0 = byteAt (sum a) j) ∧ Below w.heap.size w wr) (fun i _ => 4 - (intOf i).toNat)
 case atStart => exact ⟨0, by omega, rfl, by intro j hj; omega, Below.refl _ _⟩
 case round =>
  obtain ⟨k, hk, rfl, hall, hbel⟩ := hrel
  by_cases hlt : k < 4
  ·have c0 := Ht.out k hlt
   rw [← (bcell hbel).1 _ _ hb] at c0
   have hby := byteAt_u (sum a) k
   have hgd : [t0, t1, t2, t3].getD k 0 = [t0, t1, t2, t3][k] := by
    rw [List.getD_eq_getElem?_getD, List.getElem?_eq_getElem (by simpa using hlt)]
    rfl
   have Hall := Lib.hid hall; clear hall
   generalize hT : [t0, t1, t2, t3][k] = tk at *
   generalize hB : byteAt (sum a) k = bk at *
   have Hgd := Lib.hid hgd; clear hgd hT
   have HB := Lib.hid hB; clear hB
   have hsum : IntKind.i64.wrap ((n : Int) + (k : Int)) = (n : Int) + k := IntWalk.i64_in _ (by omega)
   have hsum2 : 0 ≤ (n : Int) + (k : Int) := by omega
   have hsum3 : ((n : Int) + (k : Int)).toNat = n + k := by omega
   have hmul : IntKind.i64.wrap (8 * (k : Int)) = 8 * (k : Int) := IntWalk.i64_in _ (by omega)
   have hmul2 : (8 * (k : Int)).toNat = 8 * k := by omega
   by_cases hq : tk = bk
   ·have hq1 : ((tk.toNat : Int) != (bk.toNat : Int)) = false := by rw [hq]; simp
    have Hq := Lib.hid hq; clear hq
    go_wp2
    go_quiet (fail)
    go_wp2
    go_roundw
    case rel =>
     refine ⟨k + 1, by omega, by go_num, ?_, below_drewN hbel _⟩
     intro j hj
     by_cases hjk : j < k
     ·exact Hall.out j hjk
     ·obtain rfl : j = k := by omega
      rw [Hgd.out, Hq.out, HB.out]
    case measure => simp [intOf]; omega
   ·have hq1 : ((tk.toNat : Int) != (bk.toNat : Int)) = true := by
     simp only [bne_iff_ne, ne_eq]
     intro h
     exact hq (UInt8.toNat_inj.1 (by omega))
    have hg : get a [t0, t1, t2, t3] = false := by
     unfold get
     rw [beq_eq_false_iff_ne]
     intro h
     apply hq
     rw [← Hgd.out, h, ← HB.out]
     obtain rfl | rfl | rfl | rfl : k = 0 ∨ k = 1 ∨ k = 2 ∨ k = 3 := by omega
     all_goals rfl
    have Hg := Lib.hid hg; clear hg
    clear hq
    go_wp2
    go_quiet (fail)
    go_wp2
    go_ret2
    exact Got.no Hg.out rfl (below_drewN hbel _)
  ·obtain rfl : k = 4 := by omega
   have hg : get a [t0, t1, t2, t3] = true := by
    unfold get
    rw [beq_iff_eq]
    have h0 := hall 0 (by omega)
    have h1 := hall 1 (by omega)
    have h2 := hall 2 (by omega)
    have h3 := hall 3 (by omega)
    simp at h0 h1 h2 h3
    rw [h0, h1, h2, h3]
    rfl
   have Hg := Lib.hid hg; clear hg hall
   have HAw := Lib.hid (HAa.out.below hbel (Nat.le_refl _))
   clear hs0 hs1 hs2 hs3
   go_wp2_with (at_builtin; refine wpList_append_both rfl (.tmp 32) (.tmp 35) 35 rfl w.heap.size 5 i0 (.int .u8 0) 1 1 Tryz.underlying35 hi hz0 hz1 hz2 rfl (by decide) _ 0 [] rfl ((own_new wr 5 1).down hbel.size) (some ⟨b, off, none⟩) n cap (a.map bv) rfl ?l1 (by intro h; cases h) ?n1 (bv_one a) ?b1 ?b2 ?b3 ?_; rotate_right; intro v1 w1 hown1 hg1)
   ·go_ret2
    refine Got.yes Hg.out rfl ?_ ((hbel.alloc hbel.size _).grown hg1 (by have := hbel.size; simp; omega) (own_ge ((own_new wr 5 1).down hbel.size)))
    unfold Own
    rw [Han.out]
    simpa using hown1
   case l1 => simp [Han.out]
   case n1 => exact (HAw.out.below (bl wr _) (Nat.le_refl _)).news
   case b1 => simp only [maxLen]; omega
   case b2 => omega
   case b3 => have := hbel.size; simp; omega
end Crc
end Go.Proofs.YtekjehbkmlodmaaGreat
end
