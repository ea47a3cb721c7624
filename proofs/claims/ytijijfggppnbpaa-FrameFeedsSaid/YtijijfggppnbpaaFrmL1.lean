/-
  The law FramePuts, walked.
-/
import Derived.Test.YtijijfggppnbpaaFrmVe
import Derived.Test.YtijijfggppnbpaaCrcW5
namespace Go.Proofs.Ytijijfggppnbpaa
open Go.RowKit
set_option linter.unusedVariables false
namespace Frm
open Txt (kind_cases bv bv_one GotB leB leB_len leB_succ leVal leVal_lt tx tx_list)
open Crc (Bytes same_any)

theorem bytes_rd {w : World} {lo hi : Nat} {A : Option Addr} {L : List UInt8} (h : RdL w lo hi A (L.map bv)) : Bytes w A L := by
  rcases h with h | ⟨b, off, e, _, _, h3, hc⟩
  · exact .inl (by simpa using h)
  · exact .inr ⟨b, off, e, h3, fun i hi => hc i _ (by simp [bv, hi])⟩
theorem same_rd (A A' : Option Addr) (L : List UInt8) (N cap cap' lo hi lo' hi' : Nat) (hN : L.length = N) (hA : A = none → N = 0 ∧ cap = 0) (hA' : A' = none → N = 0 ∧ cap' = 0) (w : World) (h : RdL w lo hi A (L.map bv)) (h' : RdL w lo' hi' A' (L.map bv)) :
    Calls Try.prog 14 #[.slice A N cap, .slice A' N cap'] w fun e w' => e = .returned (.bool true) ∧ w = w' := by
  subst hN
  have := same_any A A' L L cap cap' w (bytes_rd h) hA (bytes_rd h') hA'
  simpa using this
def outB (f : Fr) : List UInt8 := if codeF f = 0 then bytesF f else []
def GotO (L : List UInt8) (N : Nat) (c : Int) (w : World) (e : Ending) (w' : World) : Prop :=
  ∃ A cap, e = .returned (.tuple #[.slice A N cap, .int .i64 c]) ∧ RdL w' 0 w'.heap.size A (L.map bv) ∧ N ≤ cap ∧ (A = none → N = 0 ∧ cap = 0) ∧ Below w.heap.size w w'
theorem GotF.opened {w w' : World} {f : Fr} {e : Ending} (h : GotF w f e w') : GotO (outB f) (outB f).length (codeF f) w e w' := by
  obtain ⟨⟨v, rfl, h1, h2⟩, hb⟩ := h
  unfold outB
  by_cases h0 : codeF f = 0
  · rw [if_pos h0]
    obtain ⟨A, cap, rfl, hr, hc, _, hA⟩ := own_rd (h1 h0)
    exact ⟨A, cap, rfl, hr.wide (Nat.zero_le _) (Nat.le_refl _), hc, hA, hb⟩
  · rw [if_neg h0, h2 h0]
    exact ⟨none, 0, rfl, .inl rfl, Nat.le_refl _, fun _ => ⟨rfl, rfl⟩, hb⟩
structure Pq (w0 : World) (f : Fr) (A A' : Option Addr) (hi hi' : Nat) (L : List UInt8) (wr : World) : Prop where
  blk : Blk wr w0.heap.size 25 f.cells
  below : Below w0.heap.size w0 wr
  r1 : RdL wr 0 hi A (L.map bv)
  r2 : RdL wr 0 hi' A' (L.map bv)
  hs : hi ≤ wr.heap.size
theorem Pq.next {w0 wr w' : World} {f : Fr} {A A' : Option Addr} {hi hi' : Nat} {L : List UInt8} (S : Pq w0 f A A' hi hi' L wr) (hb : Below wr.heap.size wr w') : Pq w0 f A A' hi hi' L w' :=
  ⟨S.blk.next hb, _root_.Go.Proofs.Ytijijfggppnbpaa.bt S.below hb, S.r1.next hb, S.r2.next hb, Nat.le_trans S.hs hb.size⟩
theorem Pq.drew {w0 wr : World} {f : Fr} {A A' : Option Addr} {hi hi' : Nat} {L : List UInt8} (S : Pq w0 f A A' hi hi' L wr) : Pq w0 f A A' hi hi' L wr.drew := ⟨S.blk.drew, S.below.drew, S.r1.drew, S.r2.drew, S.hs⟩
theorem Pq.s {w0 wr : World} {f : Fr} {A A' : Option Addr} {hi hi' : Nat} {L : List UInt8} (S : Pq w0 f A A' hi hi' L wr) : Pq w0 f A A' hi hi' L wr ∧ wr.cell? ⟨w0.heap.size, 0, none⟩ = some (.int .i64 f.k) ∧ wr.cell? ⟨w0.heap.size, 1, none⟩ = some (.int .u16 (f.q : Int)) ∧ wr.cell? ⟨w0.heap.size, 2, none⟩ = some (.int .u32 (f.t : Int)) ∧ wr.cell? ⟨w0.heap.size, 3, none⟩ = some (.int .i32 f.a) ∧ wr.cell? ⟨w0.heap.size, 4, none⟩ = some (.int .i32 f.b) ∧ wr.cell? ⟨w0.heap.size, 5, none⟩ = some (.int .i32 f.c) :=
  ⟨S, S.blk.cell 0, S.blk.cell 1, S.blk.cell 2, S.blk.cell 3, S.blk.cell 4, S.blk.cell 5⟩
theorem Pq.step {w0 wr w' : World} {f : Fr} {A A' : Option Addr} {hi hi' : Nat} {L : List UInt8} (S : Pq w0 f A A' hi hi' L wr ∧ wr.cell? ⟨w0.heap.size, 0, none⟩ = some (.int .i64 f.k) ∧ wr.cell? ⟨w0.heap.size, 1, none⟩ = some (.int .u16 (f.q : Int)) ∧ wr.cell? ⟨w0.heap.size, 2, none⟩ = some (.int .u32 (f.t : Int)) ∧ wr.cell? ⟨w0.heap.size, 3, none⟩ = some (.int .i32 f.a) ∧ wr.cell? ⟨w0.heap.size, 4, none⟩ = some (.int .i32 f.b) ∧ wr.cell? ⟨w0.heap.size, 5, none⟩ = some (.int .i32 f.c)) (hb : Below wr.heap.size wr w') : Pq w0 f A A' hi hi' L w' ∧ w'.cell? ⟨w0.heap.size, 0, none⟩ = some (.int .i64 f.k) ∧ w'.cell? ⟨w0.heap.size, 1, none⟩ = some (.int .u16 (f.q : Int)) ∧ w'.cell? ⟨w0.heap.size, 2, none⟩ = some (.int .u32 (f.t : Int)) ∧ w'.cell? ⟨w0.heap.size, 3, none⟩ = some (.int .i32 f.a) ∧ w'.cell? ⟨w0.heap.size, 4, none⟩ = some (.int .i32 f.b) ∧ w'.cell? ⟨w0.heap.size, 5, none⟩ = some (.int .i32 f.c) := (S.1.next hb).s
set_option maxRecDepth 100000 in
set_option maxHeartbeats 2000000 in
theorem lawPuts_core (f : Fr) (L : List UInt8) (N : Nat) (c m : Int) (hLN : L.length = N) (hN : N ≤ 24)
    (hx : ∀ w, Calls Try.prog 12 #[f.v] w (GotO L N c w)) (hy : ∀ w, Calls Try.prog 13 #[f.v] w (GotO L N c w))
    (hnm : ∀ w, Calls Try.prog 15 #[.int .i64 f.k] w fun e w' => e = .returned (.int .i64 m) ∧ Below w.heap.size w w')
    (hyn : ∀ w, Calls Try.prog 16 #[.int .i64 f.k] w fun e w' => e = .returned (.int .i64 m) ∧ w = w')
    (hsz : ∀ w, Calls Try.prog 19 #[.int .i64 f.k] w fun e w' => e = .returned (.int .i64 (sizeK f.k)) ∧ Below w.heap.size w w')
    (hwk : ∀ w, Calls Try.prog 17 #[] w fun e w' => e = .returned (.bool true) ∧ Below w.heap.size w w')
    (hcase : c ≠ 0 ∧ N = 0 ∨ c = 0 ∧ firstL L = (f, N, 0) ∧ sizeK f.k = (N : Int)) (w0 : World) :
    Calls Try.prog 3 #[f.v] w0 fun e w' => e = .returned (.bool true) ∧ Below w0.heap.size w0 w' := by
  have HLN := Lib.hid hLN
  have HC := Lib.hid hcase
  have HB0 := Lib.hid (Blk.mk w0 25 f.cells)
  have HE0 := Lib.hid (bl w0 (.cells f.cells.toArray 25))
  clear hLN hcase
  unfold Fr.v Fr.cells at *
  go_enter Try.func3, Try.ntmps3
  go_wp2_with fail
  refine (hx _).mono ?_
  rintro e w1 ⟨A, cap, rfl, hr, hcp, hA, hb⟩
  have HB1 := Lib.hid (HB0.out.next hb)
  have HE1 := Lib.hid (_root_.Go.Proofs.Ytijijfggppnbpaa.bt HE0.out hb)
  have HR1 := Lib.hid hr
  have e0 := HB1.out.cell 0
  have e1 := HB1.out.cell 1
  have e2 := HB1.out.cell 2
  have e3 := HB1.out.cell 3
  have e4 := HB1.out.cell 4
  have e5 := HB1.out.cell 5
  change _ = some (Value.int .i64 f.k) at e0
  change _ = some (Value.int .u16 (f.q : Int)) at e1
  change _ = some (Value.int .u32 (f.t : Int)) at e2
  change _ = some (Value.int .i32 f.a) at e3
  change _ = some (Value.int .i32 f.b) at e4
  change _ = some (Value.int .i32 f.c) at e5
  clear hb hr hx HB0 HE0
  go_wp2_with fail
  refine (hy _).mono ?_
  rintro e w2 ⟨A', cap', rfl, hr, hcp', hA', hb⟩
  have HP2 : Hid (Pq w0 f A A' w1.heap.size w2.heap.size L w2) := Lib.hid ⟨HB1.out.next hb, _root_.Go.Proofs.Ytijijfggppnbpaa.bt HE1.out hb, HR1.out.next hb, hr, hb.size⟩
  have hsm := fun w => same_rd A A' L N cap cap' 0 w1.heap.size 0 w2.heap.size HLN.out hA hA' w
  generalize w1.heap.size = hi1 at *
  generalize w2.heap.size = hi2 at *
  clear hb hr hy HB1 HE1 HR1 e0 e1 e2 e3 e4 e5 hA'
  go_wp2_with fail
  go_region_held3 (fun w' => Pq w0 f A A' hi1 hi2 L w' ∧ w'.cell? ⟨w0.heap.size, 0, none⟩ = some (.int .i64 f.k) ∧ w'.cell? ⟨w0.heap.size, 1, none⟩ = some (.int .u16 (f.q : Int)) ∧ w'.cell? ⟨w0.heap.size, 2, none⟩ = some (.int .u32 (f.t : Int)) ∧ w'.cell? ⟨w0.heap.size, 3, none⟩ = some (.int .i32 f.a) ∧ w'.cell? ⟨w0.heap.size, 4, none⟩ = some (.int .i32 f.b) ∧ w'.cell? ⟨w0.heap.size, 5, none⟩ = some (.int .i32 f.c))
    (first
      | exact HP2.out.drew.s
      | assumption
      | exact Pq.step (by assumption) (by assumption))
    (first
      | (go_at_call 14; (with_reducible refine (hsm _ (And.left ‹Pq _ _ _ _ _ _ _ _ ∧ _›).r1 (And.left ‹Pq _ _ _ _ _ _ _ _ ∧ _›).r2).mono ?_); rintro e w' ⟨rfl, rfl⟩)
      | (go_at_call 15; (with_reducible refine (hnm _).mono ?_); rintro e w' ⟨rfl, hb⟩)
      | (go_at_call 16; (with_reducible refine (hyn _).mono ?_); rintro e w' ⟨rfl, rfl⟩))
  have HP3 := Lib.hid (And.left ‹Pq _ _ _ _ _ _ _ _ ∧ _›)
  rcases HC.out with ⟨h0, hN0⟩ | ⟨h0, hfl, hsk⟩
  · have hc1 : (c == 0) = false := beq_eq_false_iff_ne.2 h0
    have hc2 : (c != 0) = true := bne_iff_ne.2 h0
    subst hN0
    clear HP2 hsm hnm hyn h0
    go_wp2_with fail
    refine (hwk _).mono ?_
    rintro e w4 ⟨rfl, hb4⟩
    have HE := Lib.hid (_root_.Go.Proofs.Ytijijfggppnbpaa.bt HP3.out.below hb4)
    go_wp2_with fail
    go_ret
    exact ⟨rfl, HE.out⟩
  · subst h0
    clear HP2 hsm hnm hyn
    go_wp2_with fail
    have hfst := first_any A L N cap 0 hi1 _ HP3.out.r1 HP3.out.hs HLN.out (by omega) hcp
    unfold GotI at hfst
    rw [hfl] at hfst
    rw [hsk] at hsz
    unfold Fr.v Fr.cells at hfst
    clear hfl hsk
    refine hfst.mono ?_
    rintro e w4 ⟨rfl, hb4⟩
    have hbk := HP3.out.blk.next hb4
    have HE4 := Lib.hid (_root_.Go.Proofs.Ytijijfggppnbpaa.bt (_root_.Go.Proofs.Ytijijfggppnbpaa.bt HP3.out.below hb4) (bl w4 (.cells f.cells.toArray 25)))
    have hlt := hbk.lt
    have e0 := hbk.cell 0
    have e1 := hbk.cell 1
    have e2 := hbk.cell 2
    have e3 := hbk.cell 3
    have e4 := hbk.cell 4
    have e5 := hbk.cell 5
    change _ = some (Value.int .i64 f.k) at e0
    change _ = some (Value.int .u16 (f.q : Int)) at e1
    change _ = some (Value.int .u32 (f.t : Int)) at e2
    change _ = some (Value.int .i32 f.a) at e3
    change _ = some (Value.int .i32 f.b) at e4
    change _ = some (Value.int .i32 f.c) at e5
    have feq := fun w => frame_eq f w
    unfold Fr.cells at HE4
    clear hfst hb4 HP3 hbk
    go_wp2_with fail
    refine (hsz _).mono ?_
    rintro e w5 ⟨rfl, hb5⟩
    have HE5 := Lib.hid (_root_.Go.Proofs.Ytijijfggppnbpaa.bt HE4.out hb5)
    clear hb5 HE4
    go_wp2_with fail
    refine (hwk _).mono ?_
    rintro e w6 ⟨rfl, hb6⟩
    have HE6 := Lib.hid (_root_.Go.Proofs.Ytijijfggppnbpaa.bt HE5.out hb6)
    clear hb6 HE5
    go_wp2_with fail
    go_ret
    exact ⟨rfl, HE6.out⟩
end Frm
end Go.Proofs.Ytijijfggppnbpaa
