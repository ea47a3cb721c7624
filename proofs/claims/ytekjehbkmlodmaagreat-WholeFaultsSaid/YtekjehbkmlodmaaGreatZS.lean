/- A part of the proof of WholeFaults. -/
import Derived.Test.YtekjehbkmlodmaaGreatZA
import Derived.Laws.MathBits
import Derived.Test.YtekjehbkmlodmaaGreatChecked
import Derived.Test.YtekjehbkmlodmaaGreatRows
import Derived.StillTailTactics
import Derived.Deep.QuietTactic
import Derived.BigQuiet
import Derived.IntWalk
import Derived.Shelf.Bits.Mul64
import Derived.Lib.BitFns
import Derived.Shelf.Strconv.Itoa0
import Derived.WalkMore
import Derived.Deep.LoopGhost
import Derived.Outline
import Derived.Shelf.Spec.BitsCarry
import Derived.Deep.RegionHeld3
import Derived.Test.YtekjehbkmlodmaaGreatZR
import Derived.Test.YtekjehbkmlodmaaGreatZB
import Derived.Test.YtekjehbkmlodmaaGreatZC
import Derived.Test.YtekjehbkmlodmaaGreatZF
set_option linter.unusedVariables false
set_option linter.unusedSimpArgs false
namespace Go.Proofs.YtekjehbkmlodmaaGreat
section
open Go.RowKit
namespace Root
end Root
end
section
open Go.RowKit
namespace Root
set_option maxHeartbeats 1000000 in
theorem mul64_any (x y : Nat) (hx : x < 18446744073709551616) (hy : y < 18446744073709551616) (w : World) :
  Calls Tryz.prog 196 #[.int .u64 (x : Int), .int .u64 (y : Int)] w fun e w' => e = .returned (.tuple #[.int .u64 ((x * y / 18446744073709551616 : Nat) : Int), .int .u64 ((x * y % 18446744073709551616 : Nat) : Int)]) ∧ w = w' := by
 obtain ⟨bd, bt, bw, hhi⟩ := Lib.mul64_hi x y hx hy
 have ba : x / 4294967296 * (y / 4294967296) < 18446744073709551616 := by have := Lib.half_mul_le (a := x / 4294967296) (b := y / 4294967296) (by omega) (by omega); omega
 have bb : x / 4294967296 * (y % 4294967296) < 18446744073709551616 := by have := Lib.half_mul_le (a := x / 4294967296) (b := y % 4294967296) (by omega) (by omega); omega
 have bc : x % 4294967296 * (y / 4294967296) < 18446744073709551616 := by have := Lib.half_mul_le (a := x % 4294967296) (b := y / 4294967296) (by omega) (by omega); omega
 have be := Lib.half_mul_le (a := x / 4294967296) (b := y / 4294967296) (by omega) (by omega)
 have b1 : x / 4294967296 * (y / 4294967296) + (x / 4294967296 * (y % 4294967296) + x % 4294967296 * (y % 4294967296) / 4294967296) / 4294967296 < 18446744073709551616 := by omega
 have b2 : x / 4294967296 * (y / 4294967296) + (x / 4294967296 * (y % 4294967296) + x % 4294967296 * (y % 4294967296) / 4294967296) / 4294967296 + ((x / 4294967296 * (y % 4294967296) + x % 4294967296 * (y % 4294967296) / 4294967296) % 4294967296 + x % 4294967296 * (y / 4294967296)) / 4294967296 < 18446744073709551616 := by omega
 go_enter Tryz.func196, Tryz.ntmps196
 go_wp2
 simp only [Mul64.maskN x hx, Mul64.maskN y hy, Mul64.divN, Mul64.mulN, Mul64.addN, Mul64.wrapN _ bd, Mul64.wrapN _ bb, Mul64.wrapN _ bt, Mul64.maskN _ bt, Mul64.wrapN _ bc, Mul64.wrapN _ bw, Mul64.wrapN _ ba, Mul64.wrapN _ b1, Mul64.wrapN _ b2, Mul64.wrapM (x * y)]
 rw [hhi]
 go_ret2
 exact ⟨rfl, rfl⟩
theorem bits_same : ∀ x : Nat, x < 18446744073709551616 → Lib.bitLen x = bitLen x := by
 intro x
 induction x using Nat.strongRecOn with
 | _ x ih =>
  intro hx
  by_cases h0 : x = 0
  ·subst h0; decide
  ·rw [Lib.bitLen_half x h0 hx, ih (x / 2) (Nat.div_lt_self (by omega) (by decide)) (by omega)]
   unfold bitLen
   rw [if_neg h0, Nat.log2_def x]
   by_cases h2 : 2 ≤ x
   ·rw [if_neg (by omega), if_pos h2]
    omega
   ·rw [if_pos (by omega), if_neg h2]
def lenRen : Go.Shelf.Ren := ⟨fun x => if x = 129 then 228 else x, fun x => if x = 46 then 146 else if x = 53 then 83 else if x = 3 then 3 else if x = 4 then 4 else if x = 5 then 5 else if x = 9 then 9 else x, fun x => x⟩
theorem lenLays : Lays.n129 Tryz.prog lenRen where
 mixed := by kernel_rfl
 f129 := by kernel_rfl
 t3 := by kernel_rfl
 a3 := fun _ => by kernel_rfl
 z3 := fun _ => by kernel_rfl
 v3 := fun _ => by kernel_rfl
 t4 := by kernel_rfl
 a4 := fun _ => by kernel_rfl
 z4 := fun _ => by kernel_rfl
 v4 := fun _ => by kernel_rfl
 t5 := by kernel_rfl
 a5 := fun _ => by kernel_rfl
 z5 := fun _ => by kernel_rfl
 v5 := fun _ => by kernel_rfl
 t9 := by kernel_rfl
 a9 := fun _ => by kernel_rfl
 z9 := fun _ => by kernel_rfl
 v9 := fun _ => by kernel_rfl
 t46 := by kernel_rfl
 a46 := fun _ => by kernel_rfl
 z46 := fun _ => by kernel_rfl
 v46 := fun _ => by kernel_rfl
 t53 := by kernel_rfl
 a53 := fun _ => by kernel_rfl
 z53 := fun _ => by kernel_rfl
 v53 := fun _ => by kernel_rfl
theorem len64_any (x : Nat) (hx : x < 18446744073709551616) (w : World) :
  Calls Tryz.prog 228 #[.int .u64 (x : Int)] w fun e w' => e = .returned (.int .i64 (bitLen x : Int)) ∧ w = w' := by
 have h := Any.bits_Len64 lenLays (x : Int) w (by omega) (by omega)
 refine Calls.mono h ?_
 rintro e w' ⟨rfl, rfl⟩
 exact ⟨by rw [Int.toNat_natCast, bits_same x hx], rfl⟩
end Root
end
section
open Go.RowKit
namespace Root
end Root
end
section
open Go.RowKit
namespace Root
end Root
end
section
open Go.RowKit
namespace Root
end Root
end
section
open Go.RowKit
namespace Root
def carryRen : Go.Shelf.Ren := ⟨fun x => if x = 25 then 208 else x, fun x => if x = 22 then 83 else x, fun x => x⟩
theorem carryLays : Lays7.n25 Tryz.prog carryRen where
 mixed := by kernel_rfl
 f25 := by kernel_rfl
 t22 := by kernel_rfl
 a22 := fun _ => by kernel_rfl
 z22 := fun _ => by kernel_rfl
 v22 := fun _ => by kernel_rfl
 i22 := by kernel_rfl
theorem add64_run (x y c : Nat) (hc : c ≤ 1) (w : World) : (callFunc 208 #[.int .u64 (x : Int), .int .u64 (y : Int), .int .u64 (c : Int)]).run Tryz.prog w =
  .ok (.value (.tuple #[.int .u64 (((x + y + c) % 18446744073709551616 : Nat) : Int), .int .u64 (((x + y + c) / 18446744073709551616 : Nat) : Int)])) w := Any7.bits_Add64 carryLays x y c hc w
end Root
end
section
open Go.RowKit Go.Ev
namespace Orc
theorem conc_int {ρ : Nm} {k : IntKind} {u : Nat} {x : Value} (h : conc ρ (.int k u) = some x) : u < M k ∧ x = .int k (ofU k u) := by
 simp only [conc] at h
 split at h
 ·rename_i hu; injection h with h; exact ⟨hu, h.symm⟩
 ·cases h
theorem conc_mk {ρ : Nm} {k : IntKind} {u : Nat} (h : u < M k) : conc ρ (.int k u) = some (.int k (ofU k u)) := by simp only [conc, if_pos h]
theorem conc_u32 {ρ : Nm} {u : Nat} (h : u < 4294967296) : conc ρ (.int .u32 u) = some (.int .u32 (u : Int)) := by
 rw [conc_mk (show u < M .u32 from h), ofU_nonneg rfl]
theorem conc_i64 {ρ : Nm} {u : Nat} (h : u < 9223372036854775808) : conc ρ (.int .i64 u) = some (.int .i64 (u : Int)) := by
 rw [conc_mk (show u < M .i64 by simp [M]; omega), ofU_lo]
 unfold isNeg
 exact Bool.eq_false_iff.2 (fun e => by rw [Nat.ble_eq] at e; omega)
noncomputable def a1 (l : List AV) (f : AV → Res) : Res := List.rec (motive := fun _ => (AV → Res) → Res) (fun _ => none) (fun v r _ f => List.rec (motive := fun _ => AV → (AV → Res) → Res) (fun v f => f v) (fun _ _ _ _ _ => none) r v f) l f
noncomputable def a2 (l : List AV) (f : AV → AV → Res) : Res := List.rec (motive := fun _ => (AV → AV → Res) → Res) (fun _ => none) (fun v r _ f => a1 r fun w => f v w) l f
theorem a1_some {l : List AV} {f : AV → Res} {r} (h : a1 l f = some r) : ∃ v, l = [v] ∧ f v = some r := by
 match l, h with
 | [v], h => exact ⟨v, rfl, h⟩
theorem a2_some {l : List AV} {f : AV → AV → Res} {r} (h : a2 l f = some r) : ∃ v w, l = [v, w] ∧ f v w = some r := by
 match l, h with
 | v :: l, h =>
  obtain ⟨w, rfl, h2⟩ := a1_some (show a1 l (fun w => f v w) = some r from h)
  exact ⟨v, w, rfl, h2⟩
theorem kindEq_eq {a b : IntKind} (h : kindEq a b = true) : a = b := by cases a <;> cases b <;> first | rfl | cases h
noncomputable def num (k : IntKind) (v : AV) (f : Nat → Res) : Res := elimInt v fun k' u => when_ (kindEq k' k) (f u)
theorem num_some {k : IntKind} {v : AV} {f : Nat → Res} {r} (h : num k v f = some r) : ∃ u, v = .int k u ∧ f u = some r := by
 obtain ⟨k', u, rfl, h2⟩ := elimInt_some h
 obtain ⟨h3, h4⟩ := when_some h2
 have := kindEq_eq h3
 subst this
 exact ⟨u, rfl, h4⟩
theorem concL1 {ρ : Nm} {v : AV} {xs : List Value} (h : concL ρ [v] = some xs) : ∃ x, xs = [x] ∧ conc ρ v = some x := by
 obtain ⟨x, l, rfl, h1, h2⟩ := concL_cons.1 h
 have := concL_nil h2
 subst this
 exact ⟨x, rfl, h1⟩
theorem concL2 {ρ : Nm} {v w : AV} {xs : List Value} (h : concL ρ [v, w] = some xs) : ∃ x y, xs = [x, y] ∧ conc ρ v = some x ∧ conc ρ w = some y := by
 obtain ⟨x, l, rfl, h1, h2⟩ := concL_cons.1 h
 obtain ⟨y, rfl, h3⟩ := concL1 h2
 exact ⟨x, y, rfl, h1, h3⟩
theorem tell {f : Nat} {xs : List Value} {W : World} {v : AV} {x : Value} {ρ : Nm} {h : H} (hR : R ρ h W) (hv : conc ρ v = some x) (hc : Calls Tryz.prog f xs.toArray W fun e w' => e = .returned x ∧ Below W.heap.size W w') (n : Nat) :
  CallsIn (FF none) n PP f xs.toArray W fun e W' => ∃ x, e = .returned x ∧ Ev.Left ρ h W v h x W' :=
 CallsIn.mono (callsIn_wide.2 hc) fun e W' ⟨h1, h2⟩ => ⟨x, h1, ρ, hv, (R.step hR h2).1, (R.step hR h2).2⟩
theorem tell_eq {f : Nat} {xs : List Value} {W : World} {v : AV} {x : Value} {ρ : Nm} {h : H} (hR : R ρ h W) (hv : conc ρ v = some x) (hc : Calls Tryz.prog f xs.toArray W fun e w' => e = .returned x ∧ W = w') (n : Nat) :
  CallsIn (FF none) n PP f xs.toArray W fun e W' => ∃ x, e = .returned x ∧ Ev.Left ρ h W v h x W' :=
 tell hR hv (hc.mono fun e w' ⟨h1, h2⟩ => ⟨h1, by rw [← h2]; exact Below.refl _ _⟩) n
theorem bltT {a b : Nat} (h : a < b) : Nat.blt a b = true := by rw [Nat.blt_eq]; exact h
theorem bltF {a b : Nat} (h : ¬ a < b) : Nat.blt a b = false := Bool.eq_false_iff.2 (fun e => h (by rw [Nat.blt_eq] at e; exact e))
theorem bleT {a b : Nat} (h : a ≤ b) : Nat.ble a b = true := by rw [Nat.ble_eq]; exact h
theorem bleF {a b : Nat} (h : ¬ a ≤ b) : Nat.ble a b = false := Bool.eq_false_iff.2 (fun e => h (by rw [Nat.ble_eq] at e; exact e))
def bitL (u : Nat) : Nat := cond (Nat.beq u 0) 0 (Nat.succ (Nat.log2 u))
noncomputable def oLen (args : List AV) (h : H) : Res := a1 args fun v => num .u64 v fun u => forceK (bitL u) fun n => some (.int .i64 n, h)
noncomputable def oMul (args : List AV) (h : H) : Res := a2 args fun v w => num .u64 v fun a => num .u64 w fun b => forceK (Nat.mul a b) fun p => forceK (Nat.div p 18446744073709551616) fun hi => forceK (Nat.mod p 18446744073709551616) fun lo => some (.tup [.int .u64 hi, .int .u64 lo], h)
noncomputable def oSize (args : List AV) (h : H) : Res := a2 args fun v w => num .u32 v fun n => num .i64 w fun k => when_ (Nat.ble k 16) (forceK (Nat.div n (Nat.pow 2 k)) fun q => forceK (cond (Nat.blt q 20) (Nat.add (Nat.add q 1) k) 38) fun z => some (.int .i64 z, h))
noncomputable def oFold (args : List AV) (h : H) : Res := a1 args fun v => num .i32 v fun u => forceK (cond (Nat.ble 2147483648 u) (Nat.sub 8589934591 (Nat.mul 2 u)) (Nat.mul 2 u)) fun z => some (.int .u32 z, h)
def step1N (u : Nat) : Nat := cond (Nat.beq (Nat.mod u 2) 1) (Nat.xor (Nat.div u 2) 3988292384) (Nat.div u 2)
noncomputable def oByte (args : List AV) (h : H) : Res := a1 args fun v => num .u32 v fun u => forceK (step1N u) fun u => forceK (step1N u) fun u => forceK (step1N u) fun u => forceK (step1N u) fun u => forceK (step1N u) fun u => forceK (step1N u) fun u => forceK (step1N u) fun u => forceK (step1N u) fun u => some (.int .u32 u, h)
theorem bitL_eq (u : Nat) : bitL u = bitLen u := by
 unfold bitL bitLen
 cases hb : Nat.beq u 0 with
 | true => rw [Nat.eq_of_beq_eq_true hb]; rfl
 | false =>
  have : u ≠ 0 := fun e => by subst e; cases hb
  rw [if_neg this]; rfl
theorem bitLen_le {u : Nat} (h : u < 18446744073709551616) : bitLen u ≤ 64 := by
 rw [← bitL_eq]
 unfold bitL
 cases hb : Nat.beq u 0 with
 | true => exact Nat.zero_le _
 | false =>
  have h0 : u ≠ 0 := fun e => by subst e; cases hb
  show Nat.log2 u + 1 ≤ 64
  have := (Nat.log2_lt h0).2 (show u < 2 ^ 64 from h)
  omega
theorem oLen_ok : OrcS 228 oLen := by
 intro args h v h' e ρ W xs hx hR n
 obtain ⟨v1, rfl, e1⟩ := a1_some e
 obtain ⟨u, rfl, e2⟩ := num_some e1
 rw [forceK_eq] at e2
 injection e2 with e2
 injection e2 with g1 g2
 subst g1 g2
 obtain ⟨x, rfl, hc⟩ := concL1 hx
 obtain ⟨hu, rfl⟩ := conc_int hc
 rw [ofU_nonneg (k := .u64) rfl]
 have := bitLen_le hu
 refine tell_eq hR ?_ (Root.len64_any u hu W) n
 rw [bitL_eq]
 exact conc_i64 (by omega)
theorem oMul_ok : OrcS 196 oMul := by
 intro args h v h' e ρ W xs hx hR n
 obtain ⟨v1, v2, rfl, e1⟩ := a2_some e
 obtain ⟨a, rfl, e2⟩ := num_some e1
 obtain ⟨b, rfl, e3⟩ := num_some e2
 rw [forceK_eq, forceK_eq, forceK_eq] at e3
 injection e3 with e3
 injection e3 with g1 g2
 subst g1 g2
 obtain ⟨x, y, rfl, hc, hd⟩ := concL2 hx
 obtain ⟨ha, rfl⟩ := conc_int hc
 obtain ⟨hb, rfl⟩ := conc_int hd
 rw [ofU_nonneg (k := .u64) rfl, ofU_nonneg (k := .u64) rfl]
 refine tell_eq hR ?_ (Root.mul64_any a b ha hb W) n
 have hlt : a * b < 18446744073709551616 * 18446744073709551616 := Nat.mul_lt_mul'' ha hb
 have h1 : a * b / 18446744073709551616 < 18446744073709551616 := Nat.div_lt_of_lt_mul hlt
 have h2 : a * b % 18446744073709551616 < 18446744073709551616 := Nat.mod_lt _ (by decide)
 simp only [conc, concL]
 rw [show Nat.div (Nat.mul a b) 18446744073709551616 = a * b / 18446744073709551616 from rfl, show Nat.mod (Nat.mul a b) 18446744073709551616 = a * b % 18446744073709551616 from rfl]
 rw [if_pos (show _ < M .u64 from h1), if_pos (show _ < M .u64 from h2), ofU_nonneg (k := .u64) rfl, ofU_nonneg (k := .u64) rfl]
theorem oSize_ok : OrcS 87 oSize := by
 intro args h v h' e ρ W xs hx hR n
 obtain ⟨v1, v2, rfl, e1⟩ := a2_some e
 obtain ⟨a, rfl, e2⟩ := num_some e1
 obtain ⟨k, rfl, e3⟩ := num_some e2
 obtain ⟨hk, e4⟩ := when_some e3
 rw [forceK_eq, forceK_eq] at e4
 injection e4 with e4
 injection e4 with g1 g2
 subst g1 g2
 obtain ⟨x, y, rfl, hc, hd⟩ := concL2 hx
 obtain ⟨ha, rfl⟩ := conc_int hc
 have hk' : k ≤ 16 := by simpa [Nat.ble_eq] using hk
 rw [conc_i64 (by omega)] at hd
 injection hd with hd
 subst hd
 rw [ofU_nonneg (k := .u32) rfl]
 have hs := (Ric.sizeN_le (n := a) hk').2
 refine tell_eq hR ?_ (Ric.size_any a k ha hk' W) n
 have : cond (Nat.blt (Nat.div a (Nat.pow 2 k)) 20) (Nat.add (Nat.add (Nat.div a (Nat.pow 2 k)) 1) k) 38 = Ric.sizeN a k := by
  unfold Ric.sizeN
  show (bif Nat.blt (a / 2 ^ k) 20 then a / 2 ^ k + 1 + k else 38) = _
  by_cases hq : a / 2 ^ k < 20
  ·rw [if_pos hq, bltT hq]; rfl
  ·rw [if_neg hq, bltF hq]; rfl
 rw [this]
 exact conc_i64 (by omega)
theorem oFold_ok : OrcS 90 oFold := by
 intro args h v h' e ρ W xs hx hR n
 obtain ⟨v1, rfl, e1⟩ := a1_some e
 obtain ⟨u, rfl, e2⟩ := num_some e1
 rw [forceK_eq] at e2
 injection e2 with e2
 injection e2 with g1 g2
 subst g1 g2
 obtain ⟨x, rfl, hc⟩ := concL1 hx
 obtain ⟨hu, rfl⟩ := conc_int hc
 have hu' : u < 4294967296 := hu
 have hr := ofU_range .i32 u hu rfl
 have hr1 : -(4294967296 : Int) ≤ 2 * ofU .i32 u := hr.1
 have hr2 : 2 * ofU .i32 u < (4294967296 : Int) := hr.2
 have hrange : -2147483648 ≤ ofU .i32 u ∧ ofU .i32 u ≤ 2147483647 := by omega
 refine tell_eq hR ?_ (Ric.fold_any (ofU .i32 u) hrange W) n
 have : cond (Nat.ble 2147483648 u) (Nat.sub 8589934591 (Nat.mul 2 u)) (Nat.mul 2 u) = Ric.foldU (ofU .i32 u) := by
  unfold Ric.foldU
  by_cases hq : 2147483648 ≤ u
  ·have hi : isNeg .i32 u = true := by unfold isNeg; exact bleT hq
   have hv : ofU .i32 u = (u : Int) - 4294967296 := by rw [ofU_hi hi]; rfl
   rw [hv, bleT hq, cond_true, if_neg (by omega)]
   show 8589934591 - 2 * u = _
   omega
  ·have hi : isNeg .i32 u = false := by unfold isNeg; exact bleF hq
   rw [ofU_lo hi, bleF hq, cond_false, if_pos (by omega)]
   show 2 * u = _
   omega
 rw [this]
 exact conc_u32 (Ric.foldU_lt hrange)
theorem step1N_eq (y : BitVec 32) : step1N y.toNat = (Crc.step1 y).toNat := by
 have hb : y.getLsbD 0 = Nat.beq (Nat.mod y.toNat 2) 1 := by
  rw [BitVec.getLsbD, Nat.testBit_zero]
  show decide (y.toNat % 2 = 1) = Nat.beq (y.toNat % 2) 1
  by_cases h : y.toNat % 2 = 1
  ·rw [h]; rfl
  ·rw [decide_eq_false h]
   have : y.toNat % 2 = 0 := by omega
   rw [this]; rfl
 have hd : (y >>> 1).toNat = Nat.div y.toNat 2 := by rw [BitVec.toNat_ushiftRight, Nat.shiftRight_eq_div_pow]; rfl
 unfold step1N Crc.step1
 rw [hb, BitVec.toNat_xor, hd]
 cases Nat.beq (Nat.mod y.toNat 2) 1
 ·simp
 ·rfl
theorem oByte_ok : OrcS 74 oByte := by
 intro args h v h' e ρ W xs hx hR n
 obtain ⟨v1, rfl, e1⟩ := a1_some e
 obtain ⟨u, rfl, e2⟩ := num_some e1
 simp only [forceK_eq] at e2
 injection e2 with e2
 injection e2 with g1 g2
 subst g1 g2
 obtain ⟨x, rfl, hc⟩ := concL1 hx
 obtain ⟨hu, rfl⟩ := conc_int hc
 obtain ⟨y, hy⟩ : ∃ y : BitVec 32, y.toNat = u := ⟨BitVec.ofNat 32 u, by rw [BitVec.toNat_ofNat]; exact Nat.mod_eq_of_lt hu⟩
 subst hy
 rw [ofU_nonneg (k := .u32) rfl]
 refine tell_eq hR ?_ (Crc.byteStep_any y W) n
 have : step1N (step1N (step1N (step1N (step1N (step1N (step1N (step1N y.toNat))))))) = (Crc.byteStep y).toNat := by
  simp only [step1N_eq]
  rfl
 rw [this]
 exact conc_u32 (Crc.byteStep y).isLt
def borRen : Go.Shelf.Ren := ⟨fun x => if x = 26 then 219 else x, fun x => if x = 22 then 83 else x, fun x => x⟩
theorem borLays : Lays7.n26 Tryz.prog borRen where
 mixed := by kernel_rfl
 f26 := by kernel_rfl
 t22 := by kernel_rfl
 a22 := fun _ => by kernel_rfl
 z22 := fun _ => by kernel_rfl
 v22 := fun _ => by kernel_rfl
 i22 := by kernel_rfl
noncomputable def forceV (a : Nat) (f : Nat → Option AV) : Option AV := Nat.rec (motive := fun _ => (Nat → Option AV) → Option AV) (fun f => f 0) (fun p _ f => f (Nat.succ p)) a f
theorem forceV_eq (a : Nat) (f : Nat → Option AV) : forceV a f = f a := by cases a <;> rfl
noncomputable def eAdd : List AV → Option AV
 | [.int .u64 x, .int .u64 y, .int .u64 c] => cond (Nat.ble c 1) (forceV (Nat.add (Nat.add x y) c) fun t => forceV (Nat.mod t 18446744073709551616) fun l => forceV (Nat.div t 18446744073709551616) fun z => some (.tup [.int .u64 l, .int .u64 z])) none
 | _ => none
noncomputable def eSub : List AV → Option AV
 | [.int .u64 x, .int .u64 y, .int .u64 b] => cond (Nat.ble b 1) (forceV (Nat.mod (Nat.sub (Nat.sub (Nat.add x 18446744073709551616) y) b) 18446744073709551616) fun l => forceV (cond (Nat.blt x (Nat.add y b)) 1 0) fun z => some (.tup [.int .u64 l, .int .u64 z])) none
 | _ => none
theorem conc_two {ρ : Nm} {a b : Nat} (ha : a < 18446744073709551616) (hb : b < 18446744073709551616) : conc ρ (.tup [.int .u64 a, .int .u64 b]) = some (.tuple #[.int .u64 (a : Int), .int .u64 (b : Int)]) := by
 simp only [conc, concL]
 rw [if_pos (show a < M .u64 from ha), if_pos (show b < M .u64 from hb), ofU_nonneg (k := .u64) rfl, ofU_nonneg (k := .u64) rfl]
theorem conc3 {ρ : Nm} {x y c : Nat} {xs : List Value} (h : concL ρ [.int .u64 x, .int .u64 y, .int .u64 c] = some xs) : x < 18446744073709551616 ∧ y < 18446744073709551616 ∧ c < 18446744073709551616 ∧ xs = [.int .u64 (x : Int), .int .u64 (y : Int), .int .u64 (c : Int)] := by
 obtain ⟨a, l, rfl, h1, h2⟩ := concL_cons.1 h
 obtain ⟨b, d, rfl, h3, h4⟩ := concL2 h2
 obtain ⟨g1, rfl⟩ := conc_int h1
 obtain ⟨g2, rfl⟩ := conc_int h3
 obtain ⟨g3, rfl⟩ := conc_int h4
 exact ⟨g1, g2, g3, by rw [ofU_nonneg (k := .u64) rfl, ofU_nonneg (k := .u64) rfl, ofU_nonneg (k := .u64) rfl]⟩
theorem eAdd_ok : ExtS 208 eAdd := by
 refine ⟨Tryz.f208, by kernel_rfl, fun args v e ρ W xs hx => ?_⟩
 unfold eAdd at e
 split at e
 ·rename_i x y c
  cases hb : Nat.ble c 1 with
  | false => rw [hb] at e; cases e
  | true =>
   rw [hb, cond_true] at e
   simp only [forceV_eq] at e
   injection e with e
   subst e
   have hc : c ≤ 1 := by simpa [Nat.ble_eq] using hb
   obtain ⟨h1, h2, h3, rfl⟩ := conc3 hx
   have e1 : Nat.mod (Nat.add (Nat.add x y) c) 18446744073709551616 = (x + y + c) % 18446744073709551616 := rfl
   have e2 : Nat.div (Nat.add (Nat.add x y) c) 18446744073709551616 = (x + y + c) / 18446744073709551616 := rfl
   rw [e1, e2]
   exact ⟨_, conc_two (Nat.mod_lt _ (by decide)) (by omega), Root.add64_run x y c hc W⟩
 ·cases e
theorem eSub_ok : ExtS 219 eSub := by
 refine ⟨Tryz.f219, by kernel_rfl, fun args v e ρ W xs hx => ?_⟩
 unfold eSub at e
 split at e
 ·rename_i x y c
  cases hb : Nat.ble c 1 with
  | false => rw [hb] at e; cases e
  | true =>
   rw [hb, cond_true] at e
   simp only [forceV_eq] at e
   injection e with e
   subst e
   have hc : c ≤ 1 := by simpa [Nat.ble_eq] using hb
   obtain ⟨h1, h2, h3, rfl⟩ := conc3 hx
   have e1 : Nat.mod (Nat.sub (Nat.sub (Nat.add x 18446744073709551616) y) c) 18446744073709551616 = (x + 18446744073709551616 - y - c) % 18446744073709551616 := rfl
   have e2 : cond (Nat.blt x (Nat.add y c)) 1 0 = (if x < y + c then 1 else 0 : Nat) := by
    rw [show Nat.add y c = y + c from rfl]
    by_cases hq : x < y + c
    ·rw [if_pos hq, bltT hq]; rfl
    ·rw [if_neg hq, bltF hq]; rfl
   rw [e1, e2]
   exact ⟨_, conc_two (Nat.mod_lt _ (by decide)) (by split <;> omega), Any7.bits_Sub64 borLays x y c hc W⟩
 ·cases e
end Orc
end
section
open Go.RowKit Go.Ev
namespace Orc
open Frm (Fr firstL bytesF codeF yfirst_any first_app first_bytes)
open Txt (bv)
structure FE where
 bs : List Nat
 v : AV
noncomputable def slkK (v : AV) (f : Q → Nat → Res) : Res := match v with
 | .slk b n => f b n
 | _ => none
theorem slkK_some {v : AV} {f : Q → Nat → Res} {r} (h : slkK v f = some r) : ∃ b n, v = .slk b n ∧ f b n = some r := by
 unfold slkK at h
 split at h
 ·exact ⟨_, _, rfl, h⟩
 ·cases h
noncomputable def u8L (l : List AV) (k : List Nat → Res) : Res := List.rec (motive := fun _ => (List Nat → Res) → Res) (fun k => k []) (fun v _ ih k => num .u8 v fun u => ih fun us => k (u :: us)) l k
theorem u8L_some : ∀ {l : List AV} {k : List Nat → Res} {r}, u8L l k = some r → ∃ us, l = us.map (.int .u8) ∧ k us = some r
 | [], k, r, h => ⟨[], rfl, h⟩
 | v :: l, k, r, h => by
  obtain ⟨u, rfl, h2⟩ := num_some (show num .u8 v (fun u => u8L l fun us => k (u :: us)) = some r from h)
  obtain ⟨us, rfl, h3⟩ := u8L_some h2
  exact ⟨u :: us, rfl, h3⟩
def starts : List Nat → List Nat → Bool
 | [], _ => true
 | a :: l, b :: m => Nat.beq a b && starts l m
 | _ :: _, [] => false
theorem starts_eq : ∀ {a b : List Nat}, starts a b = true → ∃ c, b = a ++ c
 | [], b, _ => ⟨b, rfl⟩
 | x :: a, y :: b, h => by
  rw [starts, Bool.and_eq_true] at h
  obtain ⟨c, rfl⟩ := starts_eq h.2
  exact ⟨c, by rw [Nat.eq_of_beq_eq_true h.1]; rfl⟩
 | _ :: _, [], h => by cases h
noncomputable def findFE (t : List FE) (us : List Nat) (h : H) : Res := List.rec (motive := fun _ => Res) none (fun e _ ih => ifB (starts e.bs us) (some (e.v, h)) ih) t
def row1 : Option (Nat × Nat) → Bool
 | some (a, _) => Nat.beq a 1
 | none => false
noncomputable def oFirst (t : List FE) (args : List AV) (h : H) : Res := a2 args fun v w => num .i64 w fun at' => when_ (Nat.ble at' 1000000) (slkK v fun b n => when_ (Nat.ble n 1000000) (cellsB h b fun _ row c => when_ (row1 row) (loadL n 0 c fun vs => u8L vs fun us => findFE t (us.drop at') h)))
def FEok (e : FE) : Prop := ∃ f : Fr, bytesF f = e.bs.map UInt8.ofNat ∧ f.Ok ∧ codeF f = 0 ∧ conc ρ0 e.v = some (.tuple #[f.v, .int .i64 ((bytesF f).length : Int), .int .i64 0])
theorem findFE_some {t : List FE} {us : List Nat} {h : H} {r} (e : findFE t us h = some r) : ∃ e' ∈ t, starts e'.bs us = true ∧ r = (e'.v, h) := by
 induction t with
 | nil => cases e
 | cons a t ih =>
  rcases ifB_some (show ifB (starts a.bs us) (some (a.v, h)) (findFE t us h) = some r from e) with ⟨h1, h2⟩ | ⟨_, h2⟩
  ·injection h2 with h2
   exact ⟨a, List.mem_cons_self .., h1, h2.symm⟩
  ·obtain ⟨e', g1, g2⟩ := ih h2
   exact ⟨e', List.mem_cons_of_mem _ g1, g2⟩
theorem concC_u8 {ρ : Nm} : ∀ {us : List Nat} {xs : List Value}, concC ρ (us.map (.int .u8)) = some xs → xs = (us.map UInt8.ofNat).map bv
 | [], xs, h => by simp only [List.map_nil, concC] at h; injection h with h; exact h.symm
 | u :: us, xs, h => by
  obtain ⟨x, l, rfl, g1, _, g2⟩ := concC_cons.1 (show concC ρ (.int .u8 u :: us.map (.int .u8)) = some xs from h)
  obtain ⟨hu, rfl⟩ := conc_int g1
  rw [concC_u8 g2]
  have hu' : u < 256 := hu
  have : (UInt8.ofNat u).toNat = u := by rw [UInt8.toNat_ofNat']; exact Nat.mod_eq_of_lt hu'
  rw [ofU_nonneg (k := .u8) rfl]
  simp only [List.map_cons, bv, this]
theorem oFirst_ok {t : List FE} (ht : ∀ e ∈ t, FEok e) : OrcS 36 (oFirst t) := by
 intro args h v h' e ρ W xs hx hR n
 obtain ⟨v1, v2, rfl, e1⟩ := a2_some e
 obtain ⟨at', rfl, e2⟩ := num_some e1
 obtain ⟨ha, e3⟩ := when_some e2
 obtain ⟨b, N, rfl, e4⟩ := slkK_some e3
 obtain ⟨hN, e5⟩ := when_some e4
 obtain ⟨nn, row, c, hb, e6⟩ := cellsB_some e5
 obtain ⟨hrow, e7⟩ := when_some e6
 obtain ⟨vs, hl, hvs, e8⟩ := loadL_inv e7
 obtain ⟨us, rfl, e9⟩ := u8L_some e8
 obtain ⟨en, hen, hst, e10⟩ := findFE_some e9
 injection e10 with g1 g2
 subst g1 g2
 have ha : at' ≤ 1000000 := by simpa [Nat.ble_eq] using ha
 have hN : N ≤ 1000000 := by simpa [Nat.ble_eq] using hN
 obtain ⟨x, y, rfl, hc, hd⟩ := concL2 hx
 rw [conc_i64 (by omega)] at hd
 injection hd with hd
 subst hd
 obtain ⟨g, cp, hg, cs, ty, hcs, hn, hrw, hcell, hkn⟩ := hR.blk _ _ hb
 simp only [conc, hg] at hc
 injection hc with hc
 subst hc
 obtain ⟨ys, k1, k2, k3⟩ := cells_range hcell hl hvs
 have hys := concC_u8 k1
 obtain ⟨rst, hus⟩ := starts_eq hst
 obtain ⟨f, b1, b2, b3, b4⟩ := ht en hen
 generalize hL : us.map UInt8.ofNat = L at hys
 have hlen : L.length = N := by rw [← k2, hys]; simp
 have hlt := heap_lt hcs
 have hcap : N ≤ cp := by
  obtain ⟨sz, el, rfl⟩ : ∃ sz el, row = some (sz, el) := by
   cases row with
   | none => cases hrow
   | some p => exact ⟨p.1, p.2, rfl⟩
  have hsz : sz = 1 := Nat.eq_of_beq_eq_true hrow
  obtain ⟨_, h2, _⟩ := hrw sz el rfl
  rw [hsz, Nat.mul_one] at h2
  by_cases h0 : N = 0
  ·omega
  ·have hNl : N - 1 < N := by omega
   obtain ⟨q1, q2⟩ := hvs (N - 1) hNl
   obtain ⟨w, hw⟩ := Option.isSome_iff_exists.1 q2
   obtain ⟨z, hz, _⟩ := hcell _ _ hw
   have := (Array.getElem?_eq_some_iff.1 hz).1
   omega
 have hrd : RdL W 0 W.heap.size (some ⟨g, 0, none⟩) (L.map bv) := .inr ⟨g, 0, rfl, Nat.zero_le _, hlt, hlt, fun j u hu => by
  have hj : j < N := by have := (List.getElem?_eq_some_iff.1 hu).1; simpa [hlen] using this
  rw [cell_block hcs, k3 j hj, hys]
  exact hu⟩
 have hcall := yfirst_any (some ⟨g, 0, none⟩) L N cp 0 W.heap.size at' W hrd (Nat.le_refl _) hlen hN hcap ha
 have hfirst : firstL (L.drop at') = (f, (bytesF f).length, 0) := by
  have hdrop : L.drop at' = bytesF f ++ rst.map UInt8.ofNat := by rw [← hL, ← List.map_drop, hus, List.map_append, b1]
  have h1 := (first_bytes f b2 b3).1
  rw [hdrop, first_app _ _ (by rw [h1]; exact (by decide : (0 : Int) ≠ 5)), h1]
 refine tell hR (conc_le (ρ0_le ρ) _ _ b4) (hcall.mono ?_) n
 rintro e w' ⟨h1, h2⟩
 rw [hfirst] at h1
 exact ⟨h1, h2⟩
end Orc
end
end Go.Proofs.YtekjehbkmlodmaaGreat
