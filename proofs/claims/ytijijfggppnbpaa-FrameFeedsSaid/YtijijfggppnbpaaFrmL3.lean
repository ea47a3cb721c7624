/-
  The law FrameFirsts, walked.
-/
import Derived.Test.YtijijfggppnbpaaFrmL1
import Derived.Test.YtijijfggppnbpaaFrmP
namespace Go.Proofs.Ytijijfggppnbpaa
open Go.RowKit
set_option linter.unusedVariables false
namespace Frm
open Txt (kind_cases bv bv_one GotB leB leB_len leB_succ leVal leVal_lt tx tx_list)

theorem flatMap_one' (B : List UInt8) : B.flatMap (fun c => [bv c]) = B.map bv := by induction B <;> simp_all
theorem open_bytes' {W : World} {v : Value} (h : VSat W (.slice (.int .u8)) false v) :
    ∃ A B cap, v = .slice A (List.length B) cap ∧ RdL W 0 W.heap.size A (B.map bv) ∧ B.length ≤ cap ∧ cap ≤ maxLen ∧ (A = none → B.length = 0 ∧ cap = 0) := by
  obtain ⟨A, B, cap, e, h1, _, h2, h3, h4⟩ := open_slice_of (fun c : UInt8 => [bv c]) (fun _ => True) (.int .u8) 1 rfl (fun _ => rfl) (by decide) (fun cs hs => by
    obtain ⟨n, rfl, hw⟩ := hs
    have hb := bounds_u8 hw
    refine ⟨UInt8.ofNat n.toNat, ?_, trivial⟩
    unfold bv
    rw [UInt8.toNat_ofNat', Nat.mod_eq_of_lt (by omega), Int.toNat_of_nonneg (by omega)]) h
  rw [flatMap_one'] at h1
  exact ⟨A, B, cap, e, h1, h2, h3, h4⟩
set_option maxRecDepth 100000 in
set_option maxHeartbeats 400000 in
theorem frame_neq (f : Fr) (w : World) : (binOp .neq 25 (.agg #[.int .i64 f.k, .int .u16 (f.q : Int), .int .u32 (f.t : Int), .int .i32 f.a, .int .i32 f.b, .int .i32 f.c]) (.agg #[.int .i64 f.k, .int .u16 (f.q : Int), .int .u32 (f.t : Int), .int .i32 f.a, .int .i32 f.b, .int .i32 f.c])).run Try.prog w = .ok (.bool false) w := by
  simp [go_sem]
set_option maxRecDepth 100000 in
set_option maxHeartbeats 1000000 in
theorem lawFirsts_long (A : Option Addr) (N cap : Nat) (hN : 200 < N) (hwk : ∀ w, Calls Try.prog 17 #[] w fun e w' => e = .returned (.bool true) ∧ Below w.heap.size w w') (w0 : World) :
    Calls Try.prog 4 #[.slice A N cap] w0 fun e w' => e = .returned (.bool true) ∧ Below w0.heap.size w0 w' := by
  have hI : (200 : Int) < (N : Int) := by omega
  go_enter Try.func4, Try.ntmps4
  go_wp2_with fail
  refine (hwk _).mono ?_
  rintro e w3 ⟨rfl, hb⟩
  go_wp2_with fail
  go_ret
  exact ⟨rfl, hb⟩
set_option maxRecDepth 100000 in
set_option maxHeartbeats 2000000 in
theorem lawFirsts_core (A : Option Addr) (L : List UInt8) (N cap : Nat) (f : Fr) (z : Nat) (c : Int) (hLN : L.length = N) (hN : N ≤ 200) (hcap : N ≤ cap) (hA : A = none → N = 0 ∧ cap = 0) (hfl : firstL L = (f, z, c))
    (hcase : (c ≠ 0 ∧ f = zeroF ∧ z = 0) ∨ (c = 0 ∧ 12 ≤ z ∧ z ≤ N ∧ ∀ w, Calls Try.prog 12 #[f.v] w (GotO (L.take z) z 0 w)))
    (hwk : ∀ w, Calls Try.prog 17 #[] w fun e w' => e = .returned (.bool true) ∧ Below w.heap.size w w') (w0 : World) (hrd : RdL w0 0 w0.heap.size A (L.map bv)) :
    Calls Try.prog 4 #[.slice A N cap] w0 fun e w' => e = .returned (.bool true) ∧ Below w0.heap.size w0 w' := by
  have hI : ¬ (200 : Int) < (N : Int) := by omega
  have hx : ∀ w', RdL w' 0 w0.heap.size A (L.map bv) → w0.heap.size ≤ w'.heap.size → Calls Try.prog 18 #[.slice A N cap] w' fun e w'' => e = .returned (.tuple #[f.v, .int .i64 (z : Int), .int .i64 c]) ∧ Below w'.heap.size w' w'' := fun w' h hs => by
    have := first_any A L N cap 0 w0.heap.size w' h hs hLN (by omega) hcap
    unfold GotI at this
    rwa [hfl] at this
  have hy : ∀ w', RdL w' 0 w0.heap.size A (L.map bv) → w0.heap.size ≤ w'.heap.size → Calls Try.prog 20 #[.slice A N cap, .int .i64 0] w' fun e w'' => e = .returned (.tuple #[f.v, .int .i64 (z : Int), .int .i64 c]) ∧ Below w'.heap.size w' w'' := fun w' h hs => by
    have := yfirst_any A L N cap 0 w0.heap.size 0 w' h hs hLN (by omega) hcap (by omega)
    unfold GotI at this
    rw [List.drop_zero, hfl] at this
    exact this
  have feq := fun w => frame_eq f w
  have fnq := fun w => frame_neq f w
  have HLN := Lib.hid hLN
  have HC := Lib.hid hcase
  have HR := Lib.hid hrd
  have HA := Lib.hid hA
  have HB0 := Lib.hid (Below.refl w0.heap.size w0)
  clear hLN hcase hfl hA
  unfold Fr.v Fr.cells at hx hy
  go_enter Try.func4, Try.ntmps4
  go_wp2_with fail
  refine (hx _ HR.out (Nat.le_refl _)).mono ?_
  rintro e w1 ⟨rfl, hb⟩
  have B1 := Lib.hid (_root_.Go.Proofs.Ytijijfggppnbpaa.bt hb (bl w1 (.cells f.cells.toArray 25)))
  have F1 := Lib.hid (Blk.mk w1 25 f.cells)
  have R1 := Lib.hid ((HR.out.next hb).next (bl w1 (.cells f.cells.toArray 25)))
  have hy' := hy _ R1.out B1.out.size
  unfold Fr.cells at B1 F1 R1 hy'
  clear hb hx hy hrd HR HB0
  go_wp2_with fail
  refine hy'.mono ?_
  rintro e w2 ⟨rfl, hb⟩
  have B2 := Lib.hid (_root_.Go.Proofs.Ytijijfggppnbpaa.bt (_root_.Go.Proofs.Ytijijfggppnbpaa.bt B1.out hb) (bl w2 (.cells f.cells.toArray 25)))
  have F2 := Lib.hid (Blk.next F1.out hb)
  have F2b := Lib.hid (Blk.next (Blk.next F1.out hb) (bl w2 (.cells f.cells.toArray 25)))
  have R2 := Lib.hid ((R1.out.next hb).next (bl w2 (.cells f.cells.toArray 25)))
  have hlt := Blk.lt F2.out
  have e0 : w2.cell? ⟨w1.heap.size, 0, none⟩ = some (Value.int .i64 f.k) := Blk.cell F2.out 0
  have e1 : w2.cell? ⟨w1.heap.size, 1, none⟩ = some (Value.int .u16 (f.q : Int)) := Blk.cell F2.out 1
  have e2 : w2.cell? ⟨w1.heap.size, 2, none⟩ = some (Value.int .u32 (f.t : Int)) := Blk.cell F2.out 2
  have e3 : w2.cell? ⟨w1.heap.size, 3, none⟩ = some (Value.int .i32 f.a) := Blk.cell F2.out 3
  have e4 : w2.cell? ⟨w1.heap.size, 4, none⟩ = some (Value.int .i32 f.b) := Blk.cell F2.out 4
  have e5 : w2.cell? ⟨w1.heap.size, 5, none⟩ = some (Value.int .i32 f.c) := Blk.cell F2.out 5
  unfold Fr.cells at B2 F2b R2
  clear hb hy' R1 B1 F1
  rcases HC.out with ⟨h0, hz, hzz⟩ | ⟨h0, hz, hzN, hp⟩
  · have hc1 : (c == 0) = false := beq_eq_false_iff_ne.2 h0
    have hc2 : (c != 0) = true := bne_iff_ne.2 h0
    subst hzz
    have HZ := Lib.hid hz
    clear hz h0 HC
    have k1 : f.k = 0 := by rw [HZ.out]; rfl
    have k2 : f.q = 0 := by rw [HZ.out]; rfl
    have k3 : f.t = 0 := by rw [HZ.out]; rfl
    have k4 : f.a = 0 := by rw [HZ.out]; rfl
    have k5 : f.b = 0 := by rw [HZ.out]; rfl
    have k6 : f.c = 0 := by rw [HZ.out]; rfl
    have B3 : Hid (Below w0.heap.size w0 (w2.alloc (.cells #[.int .i64 0, .int .u16 0, .int .u32 0, .int .i32 0, .int .i32 0, .int .i32 0] 25))) := Lib.hid (by
      have := B2.out
      rw [k1, k2, k3, k4, k5, k6] at this
      exact this)
    clear B2
    go_wp2_with fail
    refine (hwk _).mono ?_
    rintro e w4 ⟨rfl, hb4⟩
    have HE := Lib.hid (_root_.Go.Proofs.Ytijijfggppnbpaa.bt B3.out hb4)
    go_wp2_with fail
    go_ret
    exact ⟨rfl, HE.out⟩
  · subst h0
    have hzI : (z : Int) ≤ (N : Int) := by omega
    have hzc : (z : Int) ≤ (cap : Int) := by omega
    have hzc2 : z ≤ cap := by omega
    have h0z : (0 : Int) ≤ (z : Int) := by omega
    unfold Fr.v Fr.cells at hp
    clear HC
    go_wp2_with fail
    refine (hp _).mono ?_
    rintro e w3 ⟨A', cap', rfl, hr, hcp', hA', hb3⟩
    have B3 := Lib.hid (_root_.Go.Proofs.Ytijijfggppnbpaa.bt B2.out hb3)
    have R3 := Lib.hid (R2.out.next hb3)
    have hsm := same_rd A' A (L.take z) z cap' cap 0 w3.heap.size 0 w0.heap.size (by rw [List.length_take, HLN.out]; omega) hA' (fun h => by have := (HA.out h).1; omega) w3 hr (by rw [List.map_take]; exact R3.out.take z)
    clear hb3 hp B2 R2 hr F2 F2b
    go_wp2_with fail
    refine hsm.mono ?_
    rintro e w' ⟨rfl, rfl⟩
    go_wp2_with fail
    refine (hwk _).mono ?_
    rintro e w4 ⟨rfl, hb4⟩
    have HE := Lib.hid (_root_.Go.Proofs.Ytijijfggppnbpaa.bt B3.out hb4)
    go_wp2_with fail
    go_ret
    exact ⟨rfl, HE.out⟩
end Frm
end Go.Proofs.Ytijijfggppnbpaa
