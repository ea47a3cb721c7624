/-
  The root of the sum of two squares: the statement.
-/
import Derived.Test.YtmiplljcnchjkaaNumW5
import Derived.Test.YtmiplljcnchjkaaRootL
namespace Go.Proofs.Ytmiplljcnchjkaa
open Go.RowKit
set_option linter.unusedVariables false
namespace Num

theorem mulsq_any (a : Int) (P : Nat) (h1 : -9223372036854775808 ≤ a) (h2 : a ≤ 9223372036854775807) (hP : a.natAbs * a.natAbs = P) (w : World) :
    Calls Try.prog 27 #[.int .i64 a, .int .i64 a] w fun e w' => e = .returned (nv false P) ∧ Below w.heap.size w w' := by
  by_cases hn : a < 0
  · have he : a = -((a.natAbs : Nat) : Int) := by omega
    have hof : ∀ w, Calls Try.prog 48 #[.int .i64 a] w fun e w' => e = .returned (nv true a.natAbs) ∧ Below w.heap.size w w' := fun w => by
      have := of_neg a.natAbs (by omega) (by omega) w
      rwa [← he] at this
    exact mul_any a a true a.natAbs a.natAbs P hof hof (by omega) (by omega) hP w
  · have he : a = ((a.natAbs : Nat) : Int) := by omega
    have hof : ∀ w, Calls Try.prog 48 #[.int .i64 a] w fun e w' => e = .returned (nv false a.natAbs) ∧ Below w.heap.size w w' := fun w => by
      have := of_pos a.natAbs (by omega) w
      rwa [← he] at this
    exact mul_any a a false a.natAbs a.natAbs P hof hof (by omega) (by omega) hP w
set_option maxRecDepth 100000 in
set_option maxHeartbeats 1000000 in
theorem hypot_law (a b : Int) (h1 : -9223372036854775808 ≤ a) (h2 : a ≤ 9223372036854775807) (h3 : -9223372036854775808 ≤ b) (h4 : b ≤ 9223372036854775807) (A B N : Nat) (hA : a.natAbs * a.natAbs = A) (hB : b.natAbs * b.natAbs = B) (hN : A + B = N) (r : Bool) (hr : r = decide (N < 2 ^ 127)) (hAl : A < 2 ^ 128) (hBl : B < 2 ^ 128) (w : World) :
    Calls Try.prog 5 #[.int .i64 a, .int .i64 b] w fun e w' => e = .returned (.bool true) ∧ Below w.heap.size w w' := by
  have hyp1 := fun w => Root.rhypot_any a b h1 h2 h3 h4 N (by rw [hA, hB]; exact hN) w
  have hyp2 := fun w => Root.rhypot_any b a h3 h4 h1 h2 N (by rw [hA, hB, Nat.add_comm]; exact hN) w
  have mul1 := fun w => mulsq_any a A h1 h2 hA w
  have mul2 := fun w => mulsq_any b B h3 h4 hB w
  have add1 := fun w => add_any A B N r hAl hBl hN hr w
  have hzN := zeroN
  obtain ⟨L0, hL0⟩ : ∃ L0, L0 = num false 0 := ⟨_, rfl⟩
  rw [← hL0] at hzN
  have hnl : L0.length = 130 := by rw [hL0]; exact num_len _ _
  have hnl2 : (num false N).length = L0.length := by rw [hnl]; exact num_len _ _
  have HL0 := Lib.hid hL0
  have Hnl := Lib.hid hnl
  have Hnl2 := Lib.hid hnl2
  have Hr := Lib.hid hr
  have iE := infoN2 false N
  have oE := num_one false N
  clear hA hB hN hr hAl hBl hL0 hnl hnl2 h1 h2 h3 h4
  go_enter Try.func5, Try.ntmps5
  go_wp2_with fail
  refine (hyp1 _).mono ?_
  rintro e w1 ⟨hc, hb1⟩
  have B1 := Lib.hid hb1
  clear hb1
  rcases hc with ⟨hlt, k, rfl, hk⟩ | ⟨hge, rfl⟩
  · obtain rfl : r = true := by rw [Hr.out]; exact decide_eq_true (by omega)
    have Hlt := Lib.hid hlt
    have Hk := Lib.hid hk
    clear hlt hk
    go_wp2_with fail
    refine (hyp2 _).mono ?_
    rintro e w2 ⟨hc, hb2⟩
    have B2 := Lib.hid (_root_.Go.Proofs.Ytmiplljcnchjkaa.bt B1.out hb2)
    clear hb2 B1
    rcases hc with ⟨hlt, k2, rfl, hk2⟩ | ⟨hge, rfl⟩
    · obtain rfl := Root.IsRoot.uniq Hk.out hk2
      clear hlt hk2
      go_wp2_with fail
      refine (mul1 _).mono ?_
      rintro e w3 ⟨rfl, hb3⟩
      have B3 := Lib.hid (_root_.Go.Proofs.Ytmiplljcnchjkaa.bt B2.out hb3)
      clear hb3 B2
      unfold nv
      go_wp2_with fail
      refine (mul2 _).mono ?_
      rintro e w4 ⟨rfl, hb4⟩
      have B4 := Lib.hid (_root_.Go.Proofs.Ytmiplljcnchjkaa.bt B3.out hb4)
      clear hb4 B3
      unfold nv
      go_wp2_with fail
      refine (add1 _).mono ?_
      rintro e w5 ⟨rfl, hb5⟩
      have B5 := Lib.hid (_root_.Go.Proofs.Ytmiplljcnchjkaa.bt B4.out hb5)
      clear hb5 B4
      unfold nv
      have T5 : Hid ((w5.alloc (.cells L0.toArray 32)).there w5.heap.size 0 (num false N).toArray.size) := Lib.hid (by rw [numA]; exact blk_there (Blk.mk w5 32 L0) 0 130 (by rw [Hnl.out]; decide))
      have X5 : Hid (Blk ((w5.alloc (.cells L0.toArray 32)).setCells w5.heap.size 0 (num false N)) w5.heap.size 32 (num false N)) := Lib.hid (full_mid (Blk.mk w5 32 L0) _ Hnl2.out)
      have XB : Hid (Below w.heap.size w ((w5.alloc (.cells L0.toArray 32)).setCells w5.heap.size 0 (num false N))) := Lib.hid (below_cells _ _ _ _ (_root_.Go.Proofs.Ytmiplljcnchjkaa.bt B5.out (bl _ _)) (show w.heap.size ≤ w5.heap.size from B5.out.size))
      clear B5
      go_wp2_with (first
        | (refine wpList_store_mid rfl 32 _ _ rfl w5.heap.size 0 (num false N).toArray rfl rfl ?ht iE (all_oneCell_toArray oE) ?_; (case ht => exact T5.out); generalize (w5.alloc (.cells L0.toArray 32)).setCells w5.heap.size 0 (num false N) = w6 at *)
        | (refine wpList_load_mid rfl 32 _ rfl w5.heap.size 0 rfl (num false N) _ ?hr Try.underlying32 rfl (infoN3 _ _) ?_; (case hr => exact nums_range X5.out)))
      refine (parts_any N _ _ rfl rfl (by have := Hlt.out; omega) _).mono ?_
      rintro e w7 ⟨rfl, hb7⟩
      have B7 := Lib.hid (_root_.Go.Proofs.Ytmiplljcnchjkaa.bt XB.out hb7)
      clear hb7 XB X5 T5
      obtain ⟨hi, hhi⟩ : ∃ h, h = N / 18446744073709551616 := ⟨_, rfl⟩
      obtain ⟨lo, hlo⟩ : ∃ l, l = N % 18446744073709551616 := ⟨_, rfl⟩
      rw [← hhi, ← hlo]
      have Hhi := Lib.hid hhi
      have Hlo := Lib.hid hlo
      clear hhi hlo
      go_wp2_with fail
      refine (Root.rwide_any N hi lo Hlt.out Hhi.out.symm Hlo.out.symm _).mono ?_
      rintro e w8 ⟨k3, rfl, hk3, hb8⟩
      obtain rfl := Root.IsRoot.uniq Hk.out hk3
      have B8 := Lib.hid (_root_.Go.Proofs.Ytmiplljcnchjkaa.bt B7.out hb8)
      clear hb8 B7 hk3
      go_wp2_with fail
      refine (Root.works_any _).mono ?_
      rintro e w9 ⟨rfl, hb9⟩
      have B9 := Lib.hid (_root_.Go.Proofs.Ytmiplljcnchjkaa.bt B8.out hb9)
      clear hb9 B8
      go_wp2_with fail
      go_ret
      exact ⟨rfl, B9.out⟩
    · exact absurd Hlt.out (by omega)
  · obtain rfl : r = false := by rw [Hr.out]; exact decide_eq_false (by omega)
    have Hge := Lib.hid hge
    clear hge
    go_wp2_with fail
    refine (hyp2 _).mono ?_
    rintro e w2 ⟨hc, hb2⟩
    have B2 := Lib.hid (_root_.Go.Proofs.Ytmiplljcnchjkaa.bt B1.out hb2)
    clear hb2 B1
    rcases hc with ⟨hlt, k2, rfl, hk2⟩ | ⟨hge, rfl⟩
    · exact absurd Hge.out (by omega)
    · clear hge
      go_wp2_with fail
      refine (mul1 _).mono ?_
      rintro e w3 ⟨rfl, hb3⟩
      have B3 := Lib.hid (_root_.Go.Proofs.Ytmiplljcnchjkaa.bt B2.out hb3)
      clear hb3 B2
      unfold nv
      go_wp2_with fail
      refine (mul2 _).mono ?_
      rintro e w4 ⟨rfl, hb4⟩
      have B4 := Lib.hid (_root_.Go.Proofs.Ytmiplljcnchjkaa.bt B3.out hb4)
      clear hb4 B3
      unfold nv
      go_wp2_with fail
      refine (add1 _).mono ?_
      rintro e w5 ⟨rfl, hb5⟩
      have B5 := Lib.hid (_root_.Go.Proofs.Ytmiplljcnchjkaa.bt B4.out hb5)
      clear hb5 B4
      unfold nv
      have T5 : Hid ((w5.alloc (.cells L0.toArray 32)).there w5.heap.size 0 (num false N).toArray.size) := Lib.hid (by rw [numA]; exact blk_there (Blk.mk w5 32 L0) 0 130 (by rw [Hnl.out]; decide))
      have X5 : Hid (Blk ((w5.alloc (.cells L0.toArray 32)).setCells w5.heap.size 0 (num false N)) w5.heap.size 32 (num false N)) := Lib.hid (full_mid (Blk.mk w5 32 L0) _ Hnl2.out)
      have XB : Hid (Below w.heap.size w ((w5.alloc (.cells L0.toArray 32)).setCells w5.heap.size 0 (num false N))) := Lib.hid (below_cells _ _ _ _ (_root_.Go.Proofs.Ytmiplljcnchjkaa.bt B5.out (bl _ _)) (show w.heap.size ≤ w5.heap.size from B5.out.size))
      clear B5
      go_wp2_with (refine wpList_store_mid rfl 32 _ _ rfl w5.heap.size 0 (num false N).toArray rfl rfl ?ht iE (all_oneCell_toArray oE) ?_; (case ht => exact T5.out); generalize (w5.alloc (.cells L0.toArray 32)).setCells w5.heap.size 0 (num false N) = w6 at *)
      refine (Root.works_any _).mono ?_
      rintro e w9 ⟨rfl, hb9⟩
      have B9 := Lib.hid (_root_.Go.Proofs.Ytmiplljcnchjkaa.bt XB.out hb9)
      clear hb9 XB
      go_wp2_with fail
      go_ret
      exact ⟨rfl, B9.out⟩
theorem walkHypot (v0 v1 : Value) (W : World) (h0 : VSat W (.int .i64) false v0) (h1 : VSat W (.int .i64) false v1) :
    Calls Try.prog 5 #[v0, v1] W fun e W' => e = .returned (.bool true) ∧ Below W.heap.size W W' := by
  obtain ⟨a, e, hw⟩ := h0
  injection e with e
  subst e
  have hb := bounds_i64 hw
  obtain ⟨b, e, hwd⟩ := h1
  injection e with e
  subst e
  have hbd := bounds_i64 hwd
  have ha : a.natAbs * a.natAbs ≤ 9223372036854775808 * 9223372036854775808 := Nat.mul_le_mul (by omega) (by omega)
  have hb : b.natAbs * b.natAbs ≤ 9223372036854775808 * 9223372036854775808 := Nat.mul_le_mul (by omega) (by omega)
  exact hypot_law a b (by omega) (by omega) (by omega) (by omega) _ _ _ rfl rfl rfl _ rfl (Nat.lt_of_le_of_lt ha (by decide)) (Nat.lt_of_le_of_lt hb (by decide)) W
end Num
end Go.Proofs.Ytmiplljcnchjkaa
