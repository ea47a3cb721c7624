/-
  The law TextPuts, walked.
-/
import Derived.Test.YtijijfggppnbpaaTxtV
namespace Go.Proofs.Ytijijfggppnbpaa
open Go.RowKit
set_option linter.unusedVariables false
namespace Txt
open Frm (Fr codeF numK numN GotF)

set_option maxRecDepth 100000 in
set_option maxHeartbeats 1000000 in
theorem lawPuts_no (f : Fr) (hf : f.Ok) (h0 : codeF f ≠ 0) (w : World) : Calls Try.prog 8 #[f.v] w fun e w' => e = .returned (.bool true) ∧ Below w.heap.size w w' := by
  have hx := fun w => xput_any f hf w
  have hy := fun w => yput_any f hf w
  have hwk := fun w => works42_any w
  have ho : outF f = [] := by unfold outF; rw [if_neg h0]
  have hP0 : Pz w f (w.alloc (.cells f.cells.toArray 25)) := ⟨Blk.mk w _ _, bl _ _⟩
  have HP0 := Lib.hid hP0
  have tl := tx_list []
  have hc1 : (codeF f == 0) = false := beq_eq_false_iff_ne.2 h0
  have hc2 : (codeF f != 0) = true := bne_iff_ne.2 h0
  unfold GotS at hx hy
  simp only [ho] at hx hy
  clear hP0 ho h0 hf
  generalize codeF f = c at *
  unfold Fr.v Fr.cells at *
  go_enter Try.func8, Try.ntmps8
  go_wp2_with fail
  refine (hx _).mono ?_
  rintro e w1 ⟨rfl, hb⟩
  have HP1 := Lib.hid (HP0.out.next hb)
  clear hb hx HP0
  obtain ⟨_, e0, e1, e2, e3, e4, e5⟩ := HP1.out.s
  go_wp2_with fail
  refine (hy _).mono ?_
  rintro e w2 ⟨rfl, hb⟩
  have HP2 := Lib.hid (HP1.out.next hb)
  clear hb hy HP1 e0 e1 e2 e3 e4 e5
  go_wp2_with fail
  refine (hwk _).mono ?_
  rintro e w3 ⟨rfl, hb⟩
  have HP3 := Lib.hid (HP2.out.next hb)
  clear hb hwk HP2
  go_wp2_with fail
  go_ret
  exact ⟨rfl, HP3.out.below⟩
set_option maxRecDepth 100000 in
set_option maxHeartbeats 1000000 in
theorem lawPuts_yes (f : Fr) (hf : f.Ok) (h0 : codeF f = 0) (w : World) : Calls Try.prog 8 #[f.v] w fun e w' => e = .returned (.bool true) ∧ Below w.heap.size w w' := by
  have hx := fun w => xput_any f hf w
  have hy := fun w => yput_any f hf w
  have hwk := fun w => works42_any w
  have ho : outF f = lineF f := by unfold outF; rw [if_pos h0]
  obtain ⟨hg, h80⟩ := get_put f hf h0
  have hgx := fun w => xget_any (lineF f) (by omega) w
  have hP0 : Pz w f (w.alloc (.cells f.cells.toArray 25)) := ⟨Blk.mk w _ _, bl _ _⟩
  have HP0 := Lib.hid hP0
  have tl := tx_list (lineF f)
  have ts := tx_size (lineF f)
  unfold GotS at hx hy
  simp only [ho, h0] at hx hy
  unfold GotG at hgx
  simp only [hg] at hgx
  clear hP0 ho h0 hf hg
  generalize lineF f = S at *
  generalize S.length = m at *
  have hm : (m : Int) ≤ 80 := by omega
  unfold Fr.v Fr.cells at *
  go_enter Try.func8, Try.ntmps8
  go_wp2_with fail
  refine (hx _).mono ?_
  rintro e w1 ⟨rfl, hb⟩
  have HP1 := Lib.hid (HP0.out.next hb)
  clear hb hx HP0
  obtain ⟨_, e0, e1, e2, e3, e4, e5⟩ := HP1.out.s
  go_wp2_with fail
  refine (hy _).mono ?_
  rintro e w2 ⟨rfl, hb⟩
  have HP2 := Lib.hid (HP1.out.next hb)
  clear hb hy HP1 e0 e1 e2 e3 e4 e5
  go_wp2_with fail
  refine (hgx _).mono ?_
  rintro e w3 ⟨rfl, hb⟩
  have HP3 := Lib.hid (HP2.out.next hb)
  have HP4 := Lib.hid (HP3.out.next (bl w3 (.cells f.cells.toArray 25)))
  clear hb hgx HP2
  obtain ⟨_, e0, e1, e2, e3, e4, e5⟩ := HP3.out.s
  have hsz := HP3.out.blk.lt
  go_wp2_with fail
  refine (hwk _).mono ?_
  rintro e w4 ⟨rfl, hb⟩
  have HP5 := Lib.hid (HP4.out.next hb)
  clear hb hwk HP4
  go_wp2_with fail
  go_ret
  exact ⟨rfl, HP5.out.below⟩
theorem walkPuts (v0 : Value) (W : World) (h0 : VSat W (.cat (.int .i64) (.cat (.int .u16) (.cat (.int .u32) (.cat (.int .i32) (.cat (.int .i32) (.cat (.int .i32) .unit)))))) true v0) :
    Calls Try.prog 8 #[v0] W fun e W' => e = .returned (.bool true) ∧ Below W.heap.size W W' := by
  obtain ⟨cs, rfl, _, _, rfl, ⟨k, rfl, hk⟩, _, _, rfl, ⟨q, rfl, hq⟩, _, _, rfl, ⟨t, rfl, ht⟩, _, _, rfl, ⟨a, rfl, ha⟩, _, _, rfl, ⟨b, rfl, hb⟩, _, _, rfl, ⟨c, rfl, hc⟩, rfl⟩ := h0
  have h1 := bounds_i64 hk
  have h2 := bounds_u16 hq
  have h3 := bounds_u32 ht
  have h4 := bounds_i32 ha
  have h5 := bounds_i32 hb
  have h6 := bounds_i32 hc
  obtain ⟨q, rfl⟩ : ∃ m : Nat, q = (m : Int) := ⟨q.toNat, by omega⟩
  obtain ⟨t, rfl⟩ : ∃ m : Nat, t = (m : Int) := ⟨t.toNat, by omega⟩
  have hf : (⟨k, q, t, a, b, c⟩ : Fr).Ok := ⟨h1.1, h1.2, by show q < 65536; omega, by show t < 4294967296; omega, h4.1, h4.2, h5.1, h5.2, h6.1, h6.2⟩
  by_cases h0 : codeF ⟨k, q, t, a, b, c⟩ = 0
  · exact lawPuts_yes ⟨k, q, t, a, b, c⟩ hf h0 W
  · exact lawPuts_no ⟨k, q, t, a, b, c⟩ hf h0 W
end Txt
end Go.Proofs.Ytijijfggppnbpaa
