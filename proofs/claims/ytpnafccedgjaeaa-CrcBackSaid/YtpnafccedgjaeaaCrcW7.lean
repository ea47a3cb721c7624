/-
  The walks of crc.Join and of the laws' own examples.
-/
import Derived.Test.YtpnafccedgjaeaaCrcW6
import Derived.Lib.SlBytesConst
import Derived.Lib.SmallJoins
namespace Go.Proofs.Ytpnafccedgjaeaa
open Go.RowKit
namespace Crc

theorem join_any (x y : BitVec 32) (n : Nat) (w : World) (hn : n ≤ 1000000) :
    Calls Try.prog 17 #[.int .u32 (u x), .int .u32 (u y), .int .i64 (n : Int)] w fun e w' => e = .returned (.int .u32 (u (shift x n ^^^ y))) ∧ Below w.heap.size w w' := by
  have hx := xor_u (shift x n) y
  go_enter Try.func17, Try.ntmps17
  go_wp2_with (go_at_call 18; refine (shift_any _ _ _ hn).mono ?_; rintro e w' ⟨rfl, hb⟩)
  go_ret
  exact ⟨rfl, hb⟩

/-- a call of Sum at a row that has just been laid -/
theorem bytes_new (w : World) (l : List UInt8) (fr : Nat × Nat) : Bytes (w.alloc (.cells (l.map bv).toArray 5 fr)) (some ⟨w.heap.size, 0, none⟩) l := by
  by_cases h0 : l = []
  · exact .inl h0
  · refine .inr ⟨_, 0, rfl, by simp, fun i hi => ?_⟩
    rw [World.cell?_alloc_mark]
    simp [hi]
    rfl
theorem bytes_at {w : World} {g : Nat} (l : List UInt8) (fr : Nat × Nat) (hg : g = w.heap.size) : Bytes (w.alloc (.cells (l.map bv).toArray 5 fr)) (some ⟨g, 0, none⟩) l := by
  subst hg
  exact bytes_new w l fr
theorem sum_eq {A : Option Addr} {l : List UInt8} {n cap : Nat} {w : World} {s : Int} (hn : l.length = n) (hA : Bytes w A l) (hs : u (sum l) = s) (hl : n ≤ 1000) :
    Calls Try.prog 15 #[.slice A n cap] w fun e w' => e = .returned (.int .u32 s) ∧ w = w' := by
  subst hn
  subst hs
  exact sum_any A l cap w hA (by unfold maxLen; omega)

theorem own_len {w : World} {base : Nat} {v : Value} {l : List UInt8} (h : Own w base v l) : ∃ A cap, v = .slice A l.length cap ∧ Bytes w A l ∧ l.length ≤ cap ∧ (A = none → l.length = 0 ∧ cap = 0) := by
  obtain ⟨A, cap, rfl, h1, h2, h3⟩ := h.bytes
  refine ⟨A, cap, rfl, h1, ?_, h3⟩
  obtain ⟨_, h⟩ := h
  rcases h with ⟨e, h0⟩ | ⟨g, cap', cur, e, _, _, hn, _⟩
  · omega
  · injection e with e1 e2 e3
    omega
theorem shift_eq {x : BitVec 32} {a b m : Int} {n : Nat} {w : World} (ha : u x = a) (hm : (n : Int) = m) (hb : u (shift x n) = b) (hn : n ≤ 1000000) :
    Calls Try.prog 18 #[.int .u32 a, .int .i64 m] w fun e w' => e = .returned (.int .u32 b) ∧ Below w.heap.size w w' := by
  subst ha
  subst hm
  subst hb
  exact shift_any x n w hn
theorem sum_1 : u (sum [49, 50, 51, 52, 53, 54, 55, 56, 57]) = 3421780262 := by decide +kernel
theorem sum_0 : u (sum []) = 0 := by decide +kernel
theorem sum_2 : u (shift (sum [49, 50, 51, 52, 53]) 4 ^^^ sum [54, 55, 56, 57]) = 3421780262 := by decide +kernel
theorem put_map : (put [109, 97, 112]).length = 7 := rfl

set_option maxRecDepth 100000 in
set_option maxHeartbeats 4000000 in
theorem works_any (w : World) :
    Calls Try.prog 14 #[] w fun e w' => e = .returned (.bool true) ∧ Below w.heap.size w w' := by
  have kc := fun (w : World) (C : Array Value) (n c g : Nat) (hg : g = w.heap.size) => Joins.run_convert_bytes_const_at (P := Try.prog) w 22 5 C n c g hg Try.underlying22 Try.underlying5
  have m1 : ∀ w : World, Bytes (w.alloc (.cells #[.int .u8 109, .int .u8 97, .int .u8 112] 5 (3, 4))) (some ⟨w.heap.size, 0, none⟩) [109, 97, 112] := fun w => bytes_new w [109, 97, 112] (3, 4)
  have M1 := Lib.hid m1; clear m1
  go_enter Try.func14, Try.ntmps14
  go_wp2_with fail
  refine (put_any _ [109, 97, 112] _ _ (M1.out _) (by intro h; cases h) (by decide)).mono ?_
  rintro e w1 ⟨v, rfl, hown, hb1⟩
  obtain ⟨A, cap, rfl, hB, hcap, hn⟩ := own_len hown
  rw [put_map] at hcap hn
  rw [put_map]
  have hB' : Bytes w1 A ([109, 97, 112] ++ [byteAt (sum [109, 97, 112]) 0, byteAt (sum [109, 97, 112]) 1, byteAt (sum [109, 97, 112]) 2, byteAt (sum [109, 97, 112]) 3]) := hB
  have HB := Lib.hid hB'; clear hB hB' hown
  have HN := Lib.hid hn; clear hn
  go_wp2_with fail
  refine (get_core A [109, 97, 112] _ _ _ _ 3 cap _ rfl HB.out (by omega) (by omega)).mono ?_
  rintro e w2 ⟨v, rfl, hown, hb2⟩
  have hg : get [109, 97, 112] [byteAt (sum [109, 97, 112]) 0, byteAt (sum [109, 97, 112]) 1, byteAt (sum [109, 97, 112]) 2, byteAt (sum [109, 97, 112]) 3] = true := by
    unfold get
    exact beq_self_eq_true _
  rw [hg] at hown ⊢
  rw [if_pos rfl] at hown
  obtain ⟨A2, cap2, rfl, hB2, hcap2, hn2⟩ := own_len hown
  clear hg hown
  have HB2 := Lib.hid hB2; clear hB2
  have HN2 := Lib.hid hn2; clear hn2
  go_wp2_with fail
  refine (get_short _ [1, 2, 3] _ _ (by decide)).mono ?_
  rintro e w' ⟨rfl, rfl⟩
  go_wp2_with fail
  refine (sum_eq (l := [49, 50, 51, 52, 53, 54, 55, 56, 57]) rfl (bytes_at [49, 50, 51, 52, 53, 54, 55, 56, 57] (9, 10) (by simp)) sum_1 (by decide)).mono ?_
  rintro e w' ⟨rfl, rfl⟩
  go_wp2_with fail
  refine (sum_eq (l := []) rfl (.inl rfl) sum_0 (by decide)).mono ?_
  rintro e w' ⟨rfl, rfl⟩
  go_wp2_with fail
  refine (sum_eq (l := [49, 50, 51, 52, 53]) rfl (bytes_at [49, 50, 51, 52, 53] (5, 6) (by simp)) rfl (by decide)).mono ?_
  rintro e w' ⟨rfl, rfl⟩
  go_wp2_with fail
  refine (sum_eq (l := [54, 55, 56, 57]) rfl (bytes_at [54, 55, 56, 57] (4, 5) (by simp)) rfl (by decide)).mono ?_
  rintro e w' ⟨rfl, rfl⟩
  have hs2 := sum_2
  go_wp2_with fail
  refine (join_any _ _ 4 _ (by decide)).mono ?_
  rintro e w3 ⟨rfl, hb3⟩
  have hB3 : Bytes w3 A2 [109, 97, 112] := HB2.out.below (((((bl w2 _).alloc (by simp) _).alloc (by simp; omega) _).alloc (by simp; omega) _).trans (hb3.mono (by simp; omega))) (Nat.le_refl _)
  have hst : (convert 22 9 (.slice A2 3 cap2)).run Try.prog w3 = .ok (.string ⟨#[109, 97, 112]⟩) w3 := conv_bytes hB3 HN2.out
  have hstr : (⟨#[109, 97, 112]⟩ : ByteArray).toList = [109, 97, 112] := bytes_toList [109, 97, 112]
  clear hB3
  go_wp2_with fail
  refine (shift_eq (x := 5#32) (n := 0) (b := 5) rfl rfl rfl (by decide)).mono ?_
  rintro e w4 ⟨rfl, hb4⟩
  go_wp2_with fail
  refine (shift_eq (x := 0#32) (n := 9) (b := 0) rfl rfl (by unfold shift; rw [steps_zero]; rfl) (by decide)).mono ?_
  rintro e w5 ⟨rfl, hb5⟩
  go_wp2_with fail
  go_ret
  refine ⟨rfl, ?_⟩
  have e1 : Below w.heap.size w w2 := bt (bt (bl w _) hb1) hb2
  have e2 : Below w2.heap.size w2 w3 := ((((bl w2 _).alloc (by simp) _).alloc (by simp; omega) _).alloc (by simp; omega) _).trans (hb3.mono (by simp; omega))
  exact bt (bt (bt e1 e2) hb4) hb5

end Crc
end Go.Proofs.Ytpnafccedgjaeaa
