/-
  The walks of the references' Put of a number, and of how many numbers a kind has.
-/
import Derived.Test.YtijijfggppnbpaaFrmW2
import Derived.Test.YtijijfggppnbpaaCrcW4
namespace Go.Proofs.Ytijijfggppnbpaa
open Go.RowKit
set_option linter.unusedVariables false
namespace Frm
open Txt (kind_cases bv bv_one GotB leB leB_len leB_succ tx)

/-- a new row of given cells -/
theorem _root_.Go.Proofs.Ytijijfggppnbpaa.own_row (w : World) (t : TypeId) (l : List Value) (n : Nat) (hn : l.length = n) (hm : n ≤ 1000000) :
    (w.alloc (.cells l.toArray t)).ownsRow w.heap.size t 1 (.slice (some ⟨w.heap.size, 0, none⟩) n n) n l := by
  subst hn
  exact ⟨by simp, .inr ⟨_, l.length, l.toArray, rfl, Nat.le_refl _, heap_alloc_new w _, Nat.le_refl _, by unfold maxLen; omega, by simp, by simp⟩⟩
set_option maxRecDepth 100000 in
set_option maxHeartbeats 1000000 in
theorem yput_any (x k : Nat) (w : World) (hx : x < 18446744073709551616) (hk : k ≤ 8) :
    Calls Try.prog 55 #[.int .u64 (x : Int), .int .i64 (k : Int)] w (GotB w (leB x k)) := by
  obtain ⟨i0, hi', hz0, hz1, hz2⟩ := info_parts Txt.infoByte
  have Hx := Lib.hid hx
  clear hx
  go_enter Try.func55, Try.ntmps55
  go_wp2_with fail
  go_loopw [5, 6, 7] (fun v n i wr => ∃ j : Nat, j ≤ k ∧ i = .int .i64 (j : Int) ∧ n = .int .u64 ((x / 2 ^ (8 * j) : Nat) : Int) ∧ wr.ownsRow w.heap.size 5 1 v j ((leB x j).map bv) ∧ Below w.heap.size w wr) (fun _ _ i _ => k - (intOf i).toNat)
  case atStart => exact ⟨0, by omega, rfl, by simp, World.ownsRow_nil _ _ _ _, Below.refl _ _⟩
  case round =>
    obtain ⟨j, hj, rfl, rfl, hown, hb⟩ := hrel
    have Hown := Lib.hid hown
    clear hown
    by_cases hlt : j < k
    · have hltI : (j : Int) < (k : Int) := by omega
      have hq : x / 2 ^ (8 * j) < 18446744073709551616 := Nat.lt_of_le_of_lt (Nat.div_le_self _ _) Hx.out
      have hn : x / 2 ^ (8 * (j + 1)) = x / 2 ^ (8 * j) / 256 := by
        rw [Nat.div_div_eq_div_mul, show 8 * (j + 1) = 8 * j + 8 by omega, Nat.pow_add]
      have hs := leB_succ x j
      have hc : ((UInt8.ofNat (x / 2 ^ (8 * j))).toNat : Int) = ((x / 2 ^ (8 * j) % 256 : Nat) : Int) := by rw [UInt8.toNat_ofNat']
      have Hn := Lib.hid hn
      have Hs := Lib.hid hs
      clear hs hn
      generalize UInt8.ofNat (x / 2 ^ (8 * j)) = c at *
      generalize x / 2 ^ (8 * j) = q at *
      have y1 : ((q : Int).tmod 256) = (c.toNat : Int) := by rw [hc]; rfl
      have y2 : ((q : Int) % 256) = (c.toNat : Int) := by rw [hc]; rfl
      have y3 : IntKind.u8.wrap (c.toNat : Int) = (c.toNat : Int) := IntWalk.u8_in _ (by have := c.toNat_lt; omega)
      have hsz := hb.size
      clear hc
      go_wp2_with (at_builtin; refine wpList_append_own _ rfl _ _ 26 rfl w.heap.size 5 i0 (.int .u8 0) 1 1 Try.underlying26 hi' hz0 hz1 hz2 rfl (by decide) _ _ _ rfl (Hown.out.alloc _) ⟨wr.heap.size, 0, none⟩ 1 1 [.int .u8 (c.toNat : Int)] rfl rfl (cell_one_new _ _ _) (by simp [Value.oneCell']) (by unfold maxLen; omega) (by omega) (by simp; omega) ?_; intro v2 w2 hown2 hgrow2 _; have Hown2 := Lib.hid hown2; have Hgrow2 := Lib.hid hgrow2; clear hown2 hgrow2)
      go_roundw
      case rel =>
        refine ⟨j + 1, by omega, by go_num, by rw [Hn.out]; rfl, ?_, (hb.alloc hsz _).grown Hgrow2.out (by simp; omega) fun q hq => (own_lt Hown.out hq).1⟩
        rw [Hs.out, List.map_append]
        exact Hown2.out
      case measure => simp [intOf]; omega
    · obtain rfl : j = k := by omega
      go_wp2_with fail
      go_ret
      exact ⟨⟨_, rfl, by rw [leB_len]; exact Hown.out⟩, hb⟩
set_option maxRecDepth 100000 in
set_option maxHeartbeats 1000000 in
theorem ynumbers_any (k : Int) (w : World) :
    Calls Try.prog 16 #[.int .i64 k] w fun e w' => e = .returned (.int .i64 (numK k)) ∧ w = w' := by
  rcases kind_cases k with rfl | rfl | rfl | rfl | rfl | rfl | rfl | h
  all_goals try
    go_enter Try.func16, Try.ntmps16
    go_wp2
    go_ret
    exact ⟨rfl, rfl⟩
  have hw : numK k = -1 := numN_none (by omega)
  have h1 : (k == 1) = false := beq_eq_false_iff_ne.2 (by omega)
  have h2 : (k == 2) = false := beq_eq_false_iff_ne.2 (by omega)
  have h3 : (k == 3) = false := beq_eq_false_iff_ne.2 (by omega)
  have h4 : (k == 4) = false := beq_eq_false_iff_ne.2 (by omega)
  have h5 : (k == 5) = false := beq_eq_false_iff_ne.2 (by omega)
  have h6 : (k == 6) = false := beq_eq_false_iff_ne.2 (by omega)
  have h7 : (k == 7) = false := beq_eq_false_iff_ne.2 (by omega)
  have Hw := Lib.hid hw
  clear hw h
  go_enter Try.func16, Try.ntmps16
  go_wp2
  go_ret
  exact ⟨by rw [Hw.out]; rfl, rfl⟩
end Frm
end Go.Proofs.Ytijijfggppnbpaa
