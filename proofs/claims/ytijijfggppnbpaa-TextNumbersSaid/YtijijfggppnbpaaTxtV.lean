/-
  What the law of package text shows by example.
-/
import Derived.Test.YtijijfggppnbpaaTxtG3
namespace Go.Proofs.Ytijijfggppnbpaa
open Go.RowKit
set_option linter.unusedVariables false
namespace Txt
open Frm (Fr codeF numK numN GotF)

def digsF : Nat → Nat → List UInt8
  | 0, n => [UInt8.ofNat (48 + n % 10)]
  | k + 1, n => if n < 10 then [UInt8.ofNat (48 + n)] else digsF k (n / 10) ++ [UInt8.ofNat (48 + n % 10)]
theorem digs_fuel : ∀ k n, n < 10 ^ (k + 1) → digs n = digsF k n
  | 0, n, h => by rw [digs_one (by simpa using h), digsF, Nat.mod_eq_of_lt (by simpa using h)]
  | k + 1, n, h => by
    rw [digsF]
    by_cases h1 : n < 10
    · rw [if_pos h1, digs_one h1]
    · rw [if_neg h1, digs_more h1, digs_fuel k (n / 10) (by rw [Nat.pow_succ] at h; omega)]
def numF (x : Int) : List UInt8 := if x < 0 then 45 :: digsF 19 x.natAbs else digsF 19 x.natAbs
theorem numL_fuel (x : Int) (h : x.natAbs < 10 ^ 20) : numL x = numF x := by
  unfold numL numF
  rw [digs_fuel 19 _ h]
def f1 : Fr := ⟨1, 7, 900, -5, 0, 12⟩
def L1 : List UInt8 := [109, 111, 118, 101, 32, 55, 32, 57, 48, 48, 32, 45, 53, 32, 48, 32, 49, 50]
theorem out1 : outF f1 = L1 := by
  have hc : codeF f1 = 0 := by decide
  unfold outF
  rw [if_pos hc]
  unfold lineF tailL
  rw [show (f1.nums.take (numK f1.k).toNat) = [-5, 0, 12] from rfl]
  simp only [List.flatMap_cons, List.flatMap_nil]
  rw [numL_fuel (f1.q : Int) (by decide), numL_fuel (f1.t : Int) (by decide), numL_fuel (-5) (by decide), numL_fuel 0 (by decide), numL_fuel 12 (by decide)]
  decide
theorem ok1 : f1.Ok := ⟨by decide, by decide, by decide, by decide, by decide, by decide, by decide, by decide, by decide, by decide⟩
set_option maxRecDepth 100000 in
set_option maxHeartbeats 1000000 in
theorem works42_any (w : World) : Calls Try.prog 27 #[] w fun e w' => e = .returned (.bool true) ∧ Below w.heap.size w w' := by
  have hput := fun w => xput_any f1 ok1 w
  have g1 := fun w => xget_any L1 (by decide) w
  have g2 := fun w => xget_any [109, 111, 118, 101, 32, 55, 32, 57, 48, 48, 32, 45, 53, 32, 48] (by decide) w
  have g3 := fun w => xget_any [102, 108, 121, 32, 55, 32, 57, 48, 48] (by decide) w
  have g4 := fun w => xget_any [116, 105, 99, 107, 32, 32, 55, 32, 57, 48, 48] (by decide) w
  have g5 := fun w => xget_any [116, 105, 99, 107, 32, 48, 55, 32, 57, 48, 48] (by decide) w
  have g6 := fun w => xget_any [116, 105, 99, 107, 32, 54, 53, 53, 51, 54, 32, 57, 48, 48] (by decide) w
  have e1 : getR L1 = (f1, 0) := by kernel_rfl
  have e2 : getR [109, 111, 118, 101, 32, 55, 32, 57, 48, 48, 32, 45, 53, 32, 48] = (zeroF, 5) := by kernel_rfl
  have e3 : getR [102, 108, 121, 32, 55, 32, 57, 48, 48] = (zeroF, 13) := by kernel_rfl
  have e4 : getR [116, 105, 99, 107, 32, 32, 55, 32, 57, 48, 48] = (zeroF, 3) := by kernel_rfl
  have e5 : getR [116, 105, 99, 107, 32, 48, 55, 32, 57, 48, 48] = (zeroF, 3) := by kernel_rfl
  have e6 : getR [116, 105, 99, 107, 32, 54, 53, 53, 51, 54, 32, 57, 48, 48] = (zeroF, 2) := by kernel_rfl
  have hc1 : codeF f1 = 0 := by decide
  have v1 : f1.v = .agg #[.int .i64 1, .int .u16 7, .int .u32 900, .int .i32 (-5), .int .i32 0, .int .i32 12] := rfl
  have v0 : zeroF.v = .agg #[.int .i64 0, .int .u16 0, .int .u32 0, .int .i32 0, .int .i32 0, .int .i32 0] := rfl
  unfold GotG at g1 g2 g3 g4 g5 g6
  simp only [e1, v1] at g1
  simp only [e2, v0] at g2
  simp only [e3, v0] at g3
  simp only [e4, v0] at g4
  simp only [e5, v0] at g5
  simp only [e6, v0] at g6
  unfold GotS at hput
  simp only [out1, hc1, v1] at hput
  have hws := fun w => xWords_any [97, 32, 98, 99] (by decide) w
  have hww : words [97, 32, 98, 99] = some [[97], [98, 99]] := by kernel_rfl
  have n1 := fun w => xIsNumber_any [45, 49, 50, 48] (by decide) w
  have n2 := fun w => xIsNumber_any [45, 48] (by decide) w
  rw [show resV [45, 49, 50, 48] = -120 from by kernel_rfl, show isNum [45, 49, 50, 48] = true from by kernel_rfl] at n1
  rw [show resV [45, 48] = 0 from by kernel_rfl, show isNum [45, 48] = false from by kernel_rfl] at n2
  have hwd := fun w => xWord_any 7 w
  rw [show wordL 7 = [109, 111, 100, 101] from rfl] at hwd
  have k1 := fun w => xKind_any [98, 97, 114, 111] w
  have k2 := fun w => xKind_any [] w
  have hnb := fun w => xNumber_any (-9223372036854775808) (by decide) (by decide) w
  rw [numL_fuel (-9223372036854775808) (by decide), show numF (-9223372036854775808) = [45, 57, 50, 50, 51, 51, 55, 50, 48, 51, 54, 56, 53, 52, 55, 55, 53, 56, 48, 56] from by decide] at hnb
  have hcmp : ∀ w, (binOp .eql 25 (.agg #[.int .i64 1, .int .u16 7, .int .u32 900, .int .i32 (-5), .int .i32 0, .int .i32 12]) (.agg #[.int .i64 1, .int .u16 7, .int .u32 900, .int .i32 (-5), .int .i32 0, .int .i32 12])).run Try.prog w = .ok (.bool true) w := fun _ => by kernel_rfl
  have HWW := Lib.hid hww
  clear e1 e2 e3 e4 e5 e6 hc1 hww v0 v1
  have t1 := tx_list L1
  have t2 := tx_list [109, 111, 100, 101]
  have t3 := tx_list [45, 57, 50, 50, 51, 51, 55, 50, 48, 51, 54, 56, 53, 52, 55, 55, 53, 56, 48, 56]
  have t4 := tx_list [98, 99]
  have F0 := Lib.hid (Blk.mk w 25 f1.cells)
  have B0 := Lib.hid (bl w (.cells f1.cells.toArray 25))
  go_enter Try.func27, Try.ntmps27
  go_wp2_with fail
  refine (hput _).mono ?_
  rintro e w1 ⟨rfl, hb⟩
  have F1 := Lib.hid (F0.out.next hb)
  have B1 := Lib.hid (_root_.Go.Proofs.Ytijijfggppnbpaa.bt B0.out hb)
  clear hb hput F0 B0
  go_wp2_with fail
  refine (g1 _).mono ?_
  rintro e w2 ⟨rfl, hb⟩
  have F2 := Lib.hid ((F1.out.next hb).alloc (.cells f1.cells.toArray 25))
  have B2 := Lib.hid (_root_.Go.Proofs.Ytijijfggppnbpaa.bt (_root_.Go.Proofs.Ytijijfggppnbpaa.bt B1.out hb) (bl w2 (.cells f1.cells.toArray 25)))
  have G2 := Lib.hid (Blk.mk w2 25 f1.cells)
  clear hb g1 F1 B1
  go_wp2_with fail
  refine (g2 _).mono ?_
  rintro e w3 ⟨rfl, hb⟩
  have F3 := Lib.hid ((F2.out.next hb).alloc (.cells zeroF.cells.toArray 25))
  have G3 := Lib.hid ((G2.out.next hb).alloc (.cells zeroF.cells.toArray 25))
  have B3 := Lib.hid (_root_.Go.Proofs.Ytijijfggppnbpaa.bt (_root_.Go.Proofs.Ytijijfggppnbpaa.bt B2.out hb) (bl w3 (.cells zeroF.cells.toArray 25)))
  clear hb g2 F2 G2 B2
  go_wp2_with fail
  refine (g3 _).mono ?_
  rintro e w4 ⟨rfl, hb⟩
  have F4 := Lib.hid ((F3.out.next hb).alloc (.cells zeroF.cells.toArray 25))
  have G4 := Lib.hid ((G3.out.next hb).alloc (.cells zeroF.cells.toArray 25))
  have B4 := Lib.hid (_root_.Go.Proofs.Ytijijfggppnbpaa.bt (_root_.Go.Proofs.Ytijijfggppnbpaa.bt B3.out hb) (bl w4 (.cells zeroF.cells.toArray 25)))
  clear hb g3 F3 G3 B3
  go_wp2_with fail
  refine (g4 _).mono ?_
  rintro e w5 ⟨rfl, hb⟩
  have F5 := Lib.hid ((F4.out.next hb).alloc (.cells zeroF.cells.toArray 25))
  have G5 := Lib.hid ((G4.out.next hb).alloc (.cells zeroF.cells.toArray 25))
  have B5 := Lib.hid (_root_.Go.Proofs.Ytijijfggppnbpaa.bt (_root_.Go.Proofs.Ytijijfggppnbpaa.bt B4.out hb) (bl w5 (.cells zeroF.cells.toArray 25)))
  clear hb g4 F4 G4 B4
  go_wp2_with fail
  refine (g5 _).mono ?_
  rintro e w6 ⟨rfl, hb⟩
  have F6 := Lib.hid ((F5.out.next hb).alloc (.cells zeroF.cells.toArray 25))
  have G6 := Lib.hid ((G5.out.next hb).alloc (.cells zeroF.cells.toArray 25))
  have B6 := Lib.hid (_root_.Go.Proofs.Ytijijfggppnbpaa.bt (_root_.Go.Proofs.Ytijijfggppnbpaa.bt B5.out hb) (bl w6 (.cells zeroF.cells.toArray 25)))
  clear hb g5 F5 G5 B5
  go_wp2_with fail
  refine (g6 _).mono ?_
  rintro e w7 ⟨rfl, hb⟩
  have F7 := Lib.hid ((F6.out.next hb).alloc (.cells zeroF.cells.toArray 25))
  have G7 := Lib.hid ((G6.out.next hb).alloc (.cells zeroF.cells.toArray 25))
  have B7 := Lib.hid (_root_.Go.Proofs.Ytijijfggppnbpaa.bt (_root_.Go.Proofs.Ytijijfggppnbpaa.bt B6.out hb) (bl w7 (.cells zeroF.cells.toArray 25)))
  clear hb g6 F6 G6 B6
  go_wp2_with fail
  refine (hws _).mono ?_
  rintro e w8 ⟨⟨v, bb, rfl, hc⟩, hb⟩
  rcases hc with ⟨out, h1, rfl, hown⟩ | ⟨h1, _, _⟩
  case inr => exact absurd (h1.symm.trans HWW.out) (by simp)
  obtain rfl : out = [[97], [98, 99]] := Option.some.inj (h1.symm.trans HWW.out)
  obtain ⟨A, cap, rfl, hrd, _, _, _⟩ := own_rd hown
  have R8 := Lib.hid hrd
  have F8 := Lib.hid (F7.out.next hb)
  have G8 := Lib.hid (G7.out.next hb)
  have B8 := Lib.hid (_root_.Go.Proofs.Ytijijfggppnbpaa.bt B7.out hb)
  clear hb h1 hown hrd hws F7 G7 B7
  go_wp2_with fail
  refine (n1 _).mono ?_
  rintro e w9 ⟨rfl, hb⟩
  have R9 := Lib.hid (R8.out.next hb)
  have F9 := Lib.hid (F8.out.next hb)
  have G9 := Lib.hid (G8.out.next hb)
  have B9 := Lib.hid (_root_.Go.Proofs.Ytijijfggppnbpaa.bt B8.out hb)
  clear hb n1 R8 F8 G8 B8
  go_wp2_with fail
  refine (n2 _).mono ?_
  rintro e w10 ⟨rfl, hb⟩
  have R10 := Lib.hid (R9.out.next hb)
  have F10 := Lib.hid (F9.out.next hb)
  have G10 := Lib.hid (G9.out.next hb)
  have B10 := Lib.hid (_root_.Go.Proofs.Ytijijfggppnbpaa.bt B9.out hb)
  clear hb n2 R9 F9 G9 B9
  obtain ⟨b, off, rfl, _, _, _, hcl⟩ := R10.out.some (by decide)
  have c1 : w10.cell? ⟨b, off + 1, none⟩ = some (.string (tx [98, 99])) := hcl 1 _ rfl
  have f0 : w10.cell? ⟨w.heap.size, 0, none⟩ = some (.int .i64 1) := F10.out.cell 0
  have f1 : w10.cell? ⟨w.heap.size, 1, none⟩ = some (.int .u16 7) := F10.out.cell 1
  have f2 : w10.cell? ⟨w.heap.size, 2, none⟩ = some (.int .u32 900) := F10.out.cell 2
  have f3 : w10.cell? ⟨w.heap.size, 3, none⟩ = some (.int .i32 (-5)) := F10.out.cell 3
  have f4 : w10.cell? ⟨w.heap.size, 4, none⟩ = some (.int .i32 0) := F10.out.cell 4
  have f5 : w10.cell? ⟨w.heap.size, 5, none⟩ = some (.int .i32 12) := F10.out.cell 5
  have g0 : w10.cell? ⟨w2.heap.size, 0, none⟩ = some (.int .i64 1) := G10.out.cell 0
  have g1 : w10.cell? ⟨w2.heap.size, 1, none⟩ = some (.int .u16 7) := G10.out.cell 1
  have g2 : w10.cell? ⟨w2.heap.size, 2, none⟩ = some (.int .u32 900) := G10.out.cell 2
  have g3 : w10.cell? ⟨w2.heap.size, 3, none⟩ = some (.int .i32 (-5)) := G10.out.cell 3
  have g4 : w10.cell? ⟨w2.heap.size, 4, none⟩ = some (.int .i32 0) := G10.out.cell 4
  have g5 : w10.cell? ⟨w2.heap.size, 5, none⟩ = some (.int .i32 12) := G10.out.cell 5
  clear hcl R10
  go_wp2_with fail
  refine (hwd _).mono ?_
  rintro e w' ⟨rfl, rfl⟩
  go_wp2_with fail
  refine (k1 _).mono ?_
  rintro e w' ⟨k, rfl, hk, rfl⟩
  obtain rfl : k = 3 := by rw [hk.eq]; rfl
  clear hk
  go_wp2_with fail
  refine (k2 _).mono ?_
  rintro e w' ⟨k, rfl, hk, rfl⟩
  obtain rfl : k = 0 := by rw [hk.eq]; rfl
  clear hk
  go_wp2_with fail
  refine (hnb _).mono ?_
  rintro e w11 ⟨rfl, hb⟩
  have B11 := Lib.hid (_root_.Go.Proofs.Ytijijfggppnbpaa.bt B10.out hb)
  clear hb
  go_wp2_with fail
  go_ret
  exact ⟨rfl, B11.out⟩
end Txt
end Go.Proofs.Ytijijfggppnbpaa
