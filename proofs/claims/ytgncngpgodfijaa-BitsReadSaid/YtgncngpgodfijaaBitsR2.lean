/-
  The walks of bits.Reader: numbers, ones, the end.
-/
import Derived.Test.YtgncngpgodfijaaBitsR
import Derived.Deep.LoopGhost
namespace Go.Proofs.Ytgncngpgodfijaa
open Go.RowKit
set_option linter.unusedVariables false
namespace Bits

theorem or_one : ∀ m : Nat, m < 9223372036854775808 → Go.bits .or .u64 ((m : Int) * 2) 1 = (m : Int) * 2 + 1 := by
  intro m hm
  have e0 : ((m : Int) * 2) = ((m * 2 : Nat) : Int) := by omega
  unfold Go.bits
  have e : (BitVec.ofInt IntKind.u64.bits ((m : Int) * 2) ||| BitVec.ofInt IntKind.u64.bits 1).toNat = m * 2 + 1 := by
    rw [e0, BitVec.toNat_or]
    have h1 : (BitVec.ofInt IntKind.u64.bits ((m * 2 : Nat) : Int)).toNat = m * 2 := by
      rw [BitVec.toNat_ofInt]
      show (((m * 2 : Nat) : Int) % ((2 ^ 64 : Nat) : Int)).toNat = m * 2
      omega
    have h2 : (BitVec.ofInt IntKind.u64.bits 1).toNat = 1 := by decide
    rw [h1, h2]
    have := Nat.two_pow_add_eq_or_of_lt (i := 1) (b := 1) (by decide) m
    rw [Nat.mul_comm m 2]
    exact this.symm
  show IntKind.u64.wrap (((BitVec.ofInt IntKind.u64.bits ((m : Int) * 2) ||| BitVec.ofInt IntKind.u64.bits 1).toNat : Nat) : Int) = _
  rw [e, IntKind.wrap_u64]
  omega

set_option maxRecDepth 100000 in
set_option maxHeartbeats 1000000 in
theorem rnum_ok (g : Nat) (B : List UInt8) (n k : Nat) (w : World) (h : RB w g B n false) (hk : k ≤ 64) (hn : n + k ≤ 8 * B.length) (hB : B.length ≤ 100000) :
    Calls Try.prog 23 #[.pointer (some ⟨g, 0, none⟩), .int .i64 (k : Int)] w fun e w' => e = .returned (.int .u64 (val (((row B).drop n).take k) : Int)) ∧ RB w' g B (n + k) false ∧ w.grownBy w' (some g) := by
  have H := Lib.hid h
  obtain ⟨A, cap, h1, h2⟩ := h
  have c2 : w.cell? ⟨g, 2, none⟩ = some (.bool false) := h1.cell 2
  clear h1 h2
  have Hn := Lib.hid hn
  have HB := Lib.hid hB
  have i1 : (k : Int) ≤ ((8 * B.length - n : Nat) : Int) := by omega
  have d0 : decide ((k : Int) < 0) = false := decide_eq_false (by omega)
  have d1 : decide (8 * B.length - n < k) = false := decide_eq_false (by omega)
  clear hn hB
  go_enter Try.func23, Try.ntmps23
  go_wp2_with (go_at_call 32; refine (left_any g B n false _ H.out (by have := Hn.out; omega) HB.out).mono ?_; rintro e w' ⟨rfl, kk, rfl⟩)
  go_loopw [5, 24] (fun x i wr => ∃ j : Nat, j ≤ k ∧ i = .int .i64 (j : Int) ∧ x = .int .u64 (val (((row B).drop n).take j) : Int) ∧ RB wr g B (n + j) false ∧ w.grownBy wr (some g)) (fun _ i _ => k - (intOf i).toNat)
  case atStart => exact ⟨0, by omega, rfl, rfl, H.out, only_drewN (only_refl w _) _⟩
  case round =>
    clear c2
    obtain ⟨j, hj, rfl, rfl, hrb, hg⟩ := hrel
    have Hrb := Lib.hid hrb
    clear hrb
    by_cases hlt : j < k
    · have hlt2 := val_lt (((row B).drop n).take j) j (by rw [List.length_take]; omega)
      have hp : 2 ^ j ≤ 2 ^ 63 := Nat.pow_le_pow_right (by decide) (by omega)
      have ht := rest_take B n j (by have := Hn.out; omega)
      have hv := val_snoc (((row B).drop n).take j) (rb B (n + j))
      rw [← ht] at hv
      have Hv := Lib.hid hv
      clear hv ht
      have hx : val (((row B).drop n).take j) < 9223372036854775808 := by omega
      clear hlt2 hp
      generalize val (((row B).drop n).take j) = x at *
      have hor := or_one x hx
      have hw : IntKind.u64.wrap ((x : Int) * 2) = (x : Int) * 2 := by rw [IntKind.wrap_u64]; omega
      go_wp2_with fail
      refine (rbit_ok g B (n + j) _ Hrb.out (by have := Hn.out; omega) HB.out).mono ?_
      rintro e w2 ⟨rfl, hrb2, hg2⟩
      have Hrb2 := Lib.hid hrb2
      have Hg2 := Lib.hid (only_trans hg hg2)
      clear hrb2 hg2
      generalize rb B (n + j) = bb at *
      cases bb
      · go_wp2
        go_roundw
        case rel => exact ⟨j + 1, by omega, by go_num, by rw [Hv.out]; simp [Int.mul_comm], Hrb2.out, Hg2.out⟩
        case measure => simp [intOf]; omega
      · go_wp2
        go_roundw
        case rel => exact ⟨j + 1, by omega, by go_num, by rw [Hv.out]; simp [Int.mul_comm], Hrb2.out, Hg2.out⟩
        case measure => simp [intOf]; omega
    · obtain rfl : j = k := by omega
      go_wp2
      go_ret
      exact ⟨rfl, Hrb.out, hg⟩

set_option maxRecDepth 100000 in
set_option maxHeartbeats 400000 in
theorem rnum_no (g : Nat) (B : List UInt8) (n k : Nat) (wrong : Bool) (w : World) (h : RB w g B n wrong) (_hk : k ≤ 64) (hno : wrong = true ∨ 8 * B.length < n + k) (hn : n ≤ 8 * B.length) (hB : B.length ≤ 100000) :
    Calls Try.prog 23 #[.pointer (some ⟨g, 0, none⟩), .int .i64 (k : Int)] w fun e w' => e = .returned (.int .u64 0) ∧ RB w' g B n true ∧ w.grownBy w' (some g) := by
  have H := Lib.hid h
  obtain ⟨A, cap, h1, h2⟩ := h
  have c2 : w.cell? ⟨g, 2, none⟩ = some (.bool wrong) := h1.cell 2
  have f2 := h1.free 2
  clear h1 h2
  by_cases hgt : 8 * B.length - n < k
  · have i1 : ((8 * B.length - n : Nat) : Int) < (k : Int) := by omega
    clear hno
    go_enter Try.func23, Try.ntmps23
    go_wp2_with (go_at_call 32; refine (left_any g B n wrong _ H.out hn hB).mono ?_; rintro e w' ⟨rfl, kk, rfl⟩)
    go_ret
    exact ⟨rfl, (H.out.drewN _).setW true, only_set (only_drewN (only_refl w _) _) 2 _⟩
  · obtain rfl : wrong = true := by
      rcases hno with h | h
      · exact h
      · omega
    have i1 : (k : Int) ≤ ((8 * B.length - n : Nat) : Int) := by omega
    clear hgt hno
    go_enter Try.func23, Try.ntmps23
    go_wp2_with (go_at_call 32; refine (left_any g B n true _ H.out hn hB).mono ?_; rintro e w' ⟨rfl, kk, rfl⟩)
    go_ret
    exact ⟨rfl, (H.out.drewN _).setW true, only_set (only_drewN (only_refl w _) _) 2 _⟩

/-- so many ones come, and then a nought, no more than so many -/
def onesOk (l : List Bool) (most : Nat) : Bool := decide (lead l < l.length) && decide (lead l ≤ most)
def GotO (w : World) (g : Nat) (B : List UInt8) (n most : Nat) (e : Ending) (w' : World) : Prop :=
  match onesOk ((row B).drop n) most with
  | true => e = .returned (.int .i64 (lead ((row B).drop n) : Int)) ∧ RB w' g B (n + lead ((row B).drop n) + 1) false ∧ w.grownBy w' (some g)
  | false => e = .returned (.int .i64 0) ∧ (∃ n', n' ≤ 8 * B.length ∧ RB w' g B n' true) ∧ w.grownBy w' (some g)
set_option maxRecDepth 100000 in
set_option maxHeartbeats 1000000 in
theorem rones_any (g : Nat) (B : List UInt8) (n most : Nat) (w : World) (h : RB w g B n false) (hm : most ≤ 1000) (hn : n ≤ 8 * B.length) (hB : B.length ≤ 100000) :
    Calls Try.prog 25 #[.pointer (some ⟨g, 0, none⟩), .int .i64 (most : Int)] w (GotO w g B n most) := by
  have H := Lib.hid h
  clear h
  have Hn := Lib.hid hn
  have HB := Lib.hid hB
  have hrl := rest_len B n
  have Hrl := Lib.hid hrl
  clear hn hB hrl
  go_enter Try.func25, Try.ntmps25
  go_wp2
  go_loopw [5] (fun x wr => ∃ j : Nat, j ≤ lead ((row B).drop n) ∧ j ≤ most ∧ x = .int .i64 (j : Int) ∧ RB wr g B (n + j) false ∧ w.grownBy wr (some g)) (fun x _ => most + 1 - (intOf x).toNat)
  case atStart => exact ⟨0, by omega, by omega, rfl, H.out, only_refl w _⟩
  case round =>
    obtain ⟨j, hj, hjm, rfl, hrb, hg⟩ := hrel
    have Hrb := Lib.hid hrb
    clear hrb
    have hle := lead_le ((row B).drop n)
    rw [Hrl.out] at hle
    by_cases hlt : n + j < 8 * B.length
    · have hget := rest_get B n j hlt
      by_cases hjl : j < lead ((row B).drop n)
      · have e : rb B (n + j) = true := by have := lead_get _ j hjl; rw [hget] at this; injection this
        have E := Lib.hid e
        clear e hget
        go_wp2_with fail
        refine (rbit_ok g B (n + j) _ Hrb.out hlt HB.out).mono ?_
        rintro e w2 ⟨rfl, hrb2, hg2⟩
        rw [E.out]
        have Hrb2 := Lib.hid hrb2
        have f2 : w2.frozen? ⟨g, 2, none⟩ = false := by obtain ⟨_, _, hh, _⟩ := hrb2; exact hh.free 2
        have c2 : w2.cell? ⟨g, 2, none⟩ = some (.bool false) := by obtain ⟨_, _, hh, _⟩ := hrb2; exact hh.cell 2
        have Hg2 := Lib.hid (only_trans hg hg2)
        clear hrb2 hg2
        by_cases hmm : j + 1 ≤ most
        · go_wp2
          go_roundw
          case rel => exact ⟨j + 1, by omega, by omega, by go_num, Hrb2.out, Hg2.out⟩
          case measure => simp [intOf]; omega
        · have hno : onesOk ((row B).drop n) most = false := by
            unfold onesOk
            rw [Bool.and_eq_false_iff]
            right
            simp only [decide_eq_false_iff_not]
            omega
          have Hno := Lib.hid hno
          clear hno
          go_wp2
          go_ret
          unfold GotO
          rw [Hno.out]
          exact ⟨rfl, ⟨_, by omega, Hrb2.out.setW true⟩, only_set Hg2.out 2 _⟩
      · obtain rfl : j = lead ((row B).drop n) := by omega
        have hlen : lead ((row B).drop n) < ((row B).drop n).length := by rw [Hrl.out]; omega
        have e : rb B (n + lead ((row B).drop n)) = false := by have := lead_stop _ hlen; rw [hget] at this; injection this
        have hok : onesOk ((row B).drop n) most = true := by unfold onesOk; rw [decide_eq_true hlen, decide_eq_true hjm]; rfl
        have E := Lib.hid e
        have Hok := Lib.hid hok
        clear e hget hok hlen
        go_wp2_with fail
        refine (rbit_ok g B _ _ Hrb.out hlt HB.out).mono ?_
        rintro e w2 ⟨rfl, hrb2, hg2⟩
        rw [E.out]
        have Hrb2 := Lib.hid hrb2
        have c2 : w2.cell? ⟨g, 2, none⟩ = some (.bool false) := by obtain ⟨_, _, hh, _⟩ := hrb2; exact hh.cell 2
        have Hg2 := Lib.hid (only_trans hg hg2)
        clear hrb2 hg2
        go_wp2
        go_ret
        unfold GotO
        rw [Hok.out]
        exact ⟨rfl, Hrb2.out, Hg2.out⟩
    · have hno : onesOk ((row B).drop n) most = false := by
        unfold onesOk
        rw [Bool.and_eq_false_iff]
        left
        simp only [decide_eq_false_iff_not]
        rw [Hrl.out]
        omega
      have Hno := Lib.hid hno
      clear hno
      have hn' := Hn.out
      go_wp2_with fail
      refine (rbit_no g B (n + j) false _ Hrb.out (.inr (by omega)) (by omega) HB.out).mono ?_
      rintro e w2 ⟨rfl, hrb2, hg2⟩
      have Hrb2 := Lib.hid hrb2
      have c2 : w2.cell? ⟨g, 2, none⟩ = some (.bool true) := by obtain ⟨_, _, hh, _⟩ := hrb2; exact hh.cell 2
      have Hg2 := Lib.hid (only_trans hg hg2)
      clear hrb2 hg2
      go_wp2
      go_ret
      unfold GotO
      rw [Hno.out]
      exact ⟨rfl, ⟨_, by omega, Hrb2.out⟩, Hg2.out⟩

set_option maxRecDepth 100000 in
set_option maxHeartbeats 400000 in
theorem rones_wrong (g : Nat) (B : List UInt8) (n most : Nat) (w : World) (h : RB w g B n true) (hn : n ≤ 8 * B.length) (hB : B.length ≤ 100000) :
    Calls Try.prog 25 #[.pointer (some ⟨g, 0, none⟩), .int .i64 (most : Int)] w fun e w' => e = .returned (.int .i64 0) ∧ RB w' g B n true ∧ w.grownBy w' (some g) := by
  have H := Lib.hid h
  clear h
  go_enter Try.func25, Try.ntmps25
  go_wp2
  go_loopw [5] (fun x wr => x = .int .i64 0 ∧ wr = w) (fun x _ => 0)
  case atStart => exact ⟨rfl, rfl⟩
  case round =>
    obtain ⟨rfl, rfl⟩ := hrel
    go_wp2_with fail
    refine (rbit_no g B n true _ H.out (.inl rfl) hn hB).mono ?_
    rintro e w2 ⟨rfl, hrb2, hg2⟩
    have Hrb2 := Lib.hid hrb2
    have c2 : w2.cell? ⟨g, 2, none⟩ = some (.bool true) := by obtain ⟨_, _, hh, _⟩ := hrb2; exact hh.cell 2
    have Hg2 := Lib.hid hg2
    clear hrb2 hg2
    go_wp2
    go_ret
    exact ⟨rfl, Hrb2.out, Hg2.out⟩

/-- nothing is left but noughts, fewer than eight -/
def clean (l : List Bool) : Bool := decide (l.length < 8) && l.all (fun b => !b)
set_option maxRecDepth 100000 in
set_option maxHeartbeats 1000000 in
theorem rclose_any (g : Nat) (B : List UInt8) (n : Nat) (w : World) (h : RB w g B n false) (hn : n ≤ 8 * B.length) (hB : B.length ≤ 100000) :
    Calls Try.prog 28 #[.pointer (some ⟨g, 0, none⟩)] w fun e w' => e = .returned (.bool (clean ((row B).drop n))) ∧ w.grownBy w' (some g) ∧ ∃ n', RB w' g B n' false := by
  have H := Lib.hid h
  have c2 : w.cell? ⟨g, 2, none⟩ = some (.bool false) := by obtain ⟨_, _, hh, _⟩ := h; exact hh.cell 2
  clear h
  have Hn := Lib.hid hn
  have HB := Lib.hid hB
  have hrl := rest_len B n
  have Hrl := Lib.hid hrl
  clear hB hrl hn
  by_cases h8 : 8 * B.length - n < 8
  · have i1 : ¬ ((8 : Int) ≤ ((8 * B.length - n : Nat) : Int)) := by omega
    have i2 : ((8 * B.length - n : Nat) : Int) ≤ 7 := by omega
    go_enter Try.func28, Try.ntmps28
    go_wp2_with (go_at_call 32; refine (left_any g B n false _ H.out Hn.out HB.out).mono ?_; rintro e w' ⟨rfl, kk, rfl⟩)
    go_loopg [14] (8 * B.length - n) (fun k _ wr => ∃ j : Nat, k = 8 * B.length - n - j ∧ n + j ≤ 8 * B.length ∧ (∀ i, i < j → rb B (n + i) = false) ∧ RB wr g B (n + j) false ∧ w.grownBy wr (some g))
    case atStart => exact ⟨0, rfl, Hn.out, fun i hi => by omega, H.out, only_drewN (only_refl w _) _⟩
    case round =>
      clear c2
      obtain ⟨j, hgk, hj, hall, hrb, hg⟩ := hrel
      have Hrb := Lib.hid hrb
      have Hgk := Lib.hid hgk
      have Hall := Lib.hid hall
      clear hrb hgk hall
      by_cases hlt : n + j < 8 * B.length
      · have i3 : (0 : Int) < ((8 * B.length - (n + j) : Nat) : Int) := by omega
        go_wp2_with fail
        refine (left_any g B (n + j) false _ Hrb.out hj HB.out).mono ?_
        rintro e w2 ⟨rfl, kk, rfl⟩
        go_wp2_with fail
        refine (rbit_ok g B (n + j) _ (Hrb.out.drewN kk) hlt HB.out).mono ?_
        rintro e w3 ⟨rfl, hrb3, hg3⟩
        have Hrb3 := Lib.hid hrb3
        have Hg3 := Lib.hid (only_trans (only_drewN hg kk) hg3)
        clear hrb3 hg3
        have hget := rest_get B n j hlt
        obtain ⟨bb, hbb⟩ : ∃ bb, bb = rb B (n + j) := ⟨_, rfl⟩
        rw [← hbb] at hget ⊢
        have Hbb := Lib.hid hbb
        have Hget := Lib.hid hget
        clear hbb hget
        cases bb
        · go_wp2
          go_roundg (8 * B.length - n - (j + 1))
          case rel =>
            refine ⟨j + 1, rfl, by omega, fun i hi => ?_, Hrb3.out, Hg3.out⟩
            by_cases e : i = j
            · subst e; exact Hbb.out.symm
            · exact Hall.out i (by omega)
          case measure => have := Hgk.out; omega
        · have hcl : clean ((row B).drop n) = false := by
            unfold clean
            rw [Bool.and_eq_false_iff]
            right
            rw [List.all_eq_false]
            exact ⟨true, List.mem_of_getElem? Hget.out, by decide⟩
          have Hcl := Lib.hid hcl
          clear hcl
          go_wp2
          go_ret
          exact ⟨by rw [Hcl.out]; rfl, Hg3.out, _, Hrb3.out⟩
      · have i3 : ¬ (0 : Int) < ((8 * B.length - (n + j) : Nat) : Int) := by omega
        have hcl : clean ((row B).drop n) = true := by
          unfold clean
          rw [decide_eq_true (by rw [Hrl.out]; exact h8), Bool.true_and, List.all_eq_true]
          intro b hb
          obtain ⟨i, hi, rfl⟩ := List.getElem_of_mem hb
          rw [Hrl.out] at hi
          have h1 := rest_get B n i (by omega)
          rw [List.getElem?_eq_getElem (by rw [Hrl.out]; exact hi)] at h1
          injection h1 with h1
          rw [h1, Hall.out i (by omega)]
          rfl
        have Hcl := Lib.hid hcl
        clear hcl
        go_wp2_with fail
        refine (left_any g B (n + j) false _ Hrb.out hj HB.out).mono ?_
        rintro e w2 ⟨rfl, kk, rfl⟩
        go_wp2
        go_ret
        exact ⟨by rw [Hcl.out]; rfl, only_drewN hg kk, _, Hrb.out.drewN kk⟩
  · have i1 : (7 : Int) < ((8 * B.length - n : Nat) : Int) := by omega
    have hcl : clean ((row B).drop n) = false := by
      unfold clean
      rw [Bool.and_eq_false_iff]
      left
      rw [decide_eq_false_iff_not, Hrl.out]
      exact h8
    have Hcl := Lib.hid hcl
    clear hcl
    go_enter Try.func28, Try.ntmps28
    go_wp2_with (go_at_call 32; refine (left_any g B n false _ H.out Hn.out HB.out).mono ?_; rintro e w' ⟨rfl, kk, rfl⟩)
    go_ret
    exact ⟨by rw [Hcl.out]; rfl, only_drewN (only_refl w _) kk, _, H.out.drewN kk⟩

theorem rclose_wrong (g : Nat) (B : List UInt8) (n : Nat) (w : World) (h : RB w g B n true) :
    Calls Try.prog 28 #[.pointer (some ⟨g, 0, none⟩)] w fun e w' => e = .returned (.bool false) ∧ w = w' := by
  have c2 : w.cell? ⟨g, 2, none⟩ = some (.bool true) := by obtain ⟨_, _, hh, _⟩ := h; exact hh.cell 2
  clear h
  go_enter Try.func28, Try.ntmps28
  go_wp2
  go_ret
  exact ⟨rfl, rfl⟩
end Bits
end Go.Proofs.Ytgncngpgodfijaa
