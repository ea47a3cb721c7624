/-
  The walks of the reference of package wide: both parts of a number.
-/
import Derived.Test.YtmiplljcnchjkaaNumW4
namespace Go.Proofs.Ytmiplljcnchjkaa
open Go.RowKit
set_option linter.unusedVariables false
namespace Num

set_option maxRecDepth 100000 in
set_option maxHeartbeats 1000000 in
theorem parts_any (X hi lo : Nat) (hh : X / 18446744073709551616 = hi) (hl : X % 18446744073709551616 = lo) (h63 : hi < 9223372036854775808) (w : World) :
    Calls Try.prog 28 #[nv false X] w fun e w' => e = .returned (.tuple #[.int .i64 (hi : Int), .int .u64 (lo : Int)]) ∧ Below w.heap.size w w' := by
  have hblk := Lib.hid (Blk.mk w 32 (num false X))
  have hbw := Lib.hid (bl w (.cells (num false X).toArray 32))
  have Hh := Lib.hid hh
  have Hl := Lib.hid hl
  have u1 : IntKind.i64.wrap (hi : Int) = (hi : Int) := IntWalk.i64_in _ (by omega)
  clear hh hl
  unfold nv
  obtain ⟨aN, hN⟩ : ∃ a, a = (num false X).toArray := ⟨_, rfl⟩
  rw [← hN] at hblk hbw
  rw [← hN]
  clear hN
  go_enter Try.func28, Try.ntmps28
  go_wp2_with (refine wpList_load_mid rfl 30 _ rfl w.heap.size 1 rfl (bt X) _ ?hr Try.underlying30 rfl (infoA3 _) ?_; (case hr => exact num_range hblk.out))
  refine (word_any X 64 (by decide) _).mono ?_
  rw [show X / 2 ^ 64 % 18446744073709551616 = hi by rw [← Hh.out]; exact Nat.mod_eq_of_lt (by have := Hh.out; omega)]
  rintro e w2 ⟨rfl, hb2⟩
  have P2 := Lib.hid (hblk.out.next hb2)
  have B2 := Lib.hid (_root_.Go.Proofs.Ytmiplljcnchjkaa.bt hbw.out hb2)
  clear hb2 hblk hbw
  go_wp2_with (refine wpList_load_mid rfl 30 _ rfl w.heap.size 1 rfl (bt X) _ ?hr Try.underlying30 rfl (infoA3 _) ?_; (case hr => exact num_range P2.out))
  refine (word_any X 0 (by decide) _).mono ?_
  rw [show X / 2 ^ 0 % 18446744073709551616 = lo by rw [Nat.pow_zero, Nat.div_one]; exact Hl.out]
  rintro e w3 ⟨rfl, hb3⟩
  have c0 : w3.cell? ⟨w.heap.size, 0, none⟩ = some (.bool false) := (P2.out.next hb3).cell 0
  have B3 := Lib.hid (_root_.Go.Proofs.Ytmiplljcnchjkaa.bt B2.out hb3)
  clear hb3 P2 B2
  go_wp2
  simp [bodyPost, results, Try.results28, go_sem]
  exact B3.out
end Num
end Go.Proofs.Ytmiplljcnchjkaa
