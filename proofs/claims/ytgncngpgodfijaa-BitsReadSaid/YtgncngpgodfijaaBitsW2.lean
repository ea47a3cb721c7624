/-
  The walks of bits.Writer: numbers, ones, the bytes.
-/
import Derived.Test.YtgncngpgodfijaaBitsW
namespace Go.Proofs.Ytgncngpgodfijaa
open Go.RowKit
namespace Bits

theorem and_one_u64 (m : Nat) (hm : m < 18446744073709551616) : Go.bits .and .u64 (m : Int) 1 = ((m % 2 : Nat) : Int) := by
  unfold Go.bits
  have e : (BitVec.ofInt IntKind.u64.bits (m : Int) &&& BitVec.ofInt IntKind.u64.bits 1).toNat = m % 2 := by
    rw [BitVec.toNat_and]
    have h1 : (BitVec.ofInt IntKind.u64.bits (m : Int)).toNat = m := by
      rw [BitVec.toNat_ofInt]
      show ((m : Int) % ((2 ^ 64 : Nat) : Int)).toNat = m
      omega
    have h2 : (BitVec.ofInt IntKind.u64.bits 1).toNat = 1 := by decide
    rw [h1, h2]
    exact Nat.and_two_pow_sub_one_eq_mod m 1
  show IntKind.u64.wrap (((BitVec.ofInt IntKind.u64.bits (m : Int) &&& BitVec.ofInt IntKind.u64.bits 1).toNat : Nat) : Int) = _
  rw [e, IntKind.wrap_u64]
  omega
theorem num_bit (x e : Nat) (hx : x < 18446744073709551616) : (Go.bits .and .u64 ((x : Int) / 2 ^ e) 1 == 1) = (x / 2 ^ e % 2 == 1) := by
  have h : ((x : Int) / 2 ^ e) = ((x / 2 ^ e : Nat) : Int) := by simp
  rw [h, and_one_u64 _ (Nat.lt_of_le_of_lt (Nat.div_le_self _ _) hx)]
  rw [Bool.eq_iff_iff, beq_iff_eq, beq_iff_eq]
  omega
theorem GotW.val {w : World} {g : Nat} {v : Value} {l : List Bool} {e : Ending} {w' : World} (h : GotW w g v l e w') : e = .returned (.tuple #[]) ∧ ∃ v', WB w' g v' l ∧ WF w g v w' v' := h

set_option maxHeartbeats 400000 in
theorem num_any (g : Nat) (v : Value) (l : List Bool) (x k : Nat) (w : World) (h : WB w g v l) (hx : x < 18446744073709551616) (hk : k ≤ 64) (hl : l.length ≤ 99000) :
    Calls Try.prog 15 #[.pointer (some ⟨g, 0, none⟩), .int .u64 (x : Int), .int .i64 (k : Int)] w (GotW w g v (l ++ numB x k)) := by
  have H := Lib.hid h
  clear h
  have Hx := Lib.hid hx
  clear hx
  go_enter Try.func15, Try.ntmps15
  go_wp2
  go_loopw [6, 7, 9] (fun _ _ i wr => ∃ (j : Nat) (v' : Value), j ≤ k ∧ i = .int .i64 (j : Int) ∧ WB wr g v' (l ++ (numB x k).take j) ∧ WF w g v wr v') (fun _ _ i _ => k - (intOf i).toNat)
  case atStart => exact ⟨0, v, by omega, rfl, by simpa using H.out, WF.refl _ _ _⟩
  case round =>
    obtain ⟨j, v', hj, rfl, hwb, hwf⟩ := hrel
    have Hwb := Lib.hid hwb
    have Hwf := Lib.hid hwf
    clear hwb hwf
    by_cases hlt : j < k
    · have n1 : ((k : Int) - 1 - (j : Int)).toNat = k - 1 - j := by omega
      have hb := num_bit x (k - 1 - j) Hx.out
      have ht := numB_take x k j hlt
      have Ht := Lib.hid ht
      clear ht
      generalize (x / 2 ^ (k - 1 - j) % 2 == 1) = b at *
      have i1 : (k : Int) - 1 - (j : Int) < 64 := by omega
      have i2 : (0 : Int) ≤ (k : Int) - 1 - (j : Int) := by omega
      have hll : (l ++ (numB x k).take j).length ≤ 100000 := by rw [List.length_append, List.length_take]; omega
      go_wp2_with fail
      refine (bit_any g v' _ b _ Hwb.out hll).mono ?_
      rintro e w2 ⟨rfl, v2, hwb2, hwf2⟩
      have hwb3 : WB w2 g v2 (l ++ (numB x k).take (j + 1)) := by rw [Ht.out, ← List.append_assoc]; exact hwb2
      have Hwb3 := Lib.hid hwb3
      have Hwf3 := Lib.hid (Hwf.out.trans hwf2)
      clear hwb2 hwb3 hwf2 hb Hwb Hwf
      go_wp2
      go_roundw
      case rel => exact ⟨j + 1, v2, by omega, by go_num, Hwb3.out, Hwf3.out⟩
      case measure => simp [intOf]; omega
    · obtain rfl : j = k := by omega
      go_wp2
      go_end0
      have hwb := Hwb.out
      rw [List.take_of_length_le (by rw [numB_len]; exact Nat.le_refl _)] at hwb
      exact ⟨rfl, v', hwb, Hwf.out⟩

set_option maxHeartbeats 400000 in
theorem ones_any (g : Nat) (v : Value) (l : List Bool) (k : Nat) (w : World) (h : WB w g v l) (hk : k ≤ 1000) (hl : l.length ≤ 90000) :
    Calls Try.prog 17 #[.pointer (some ⟨g, 0, none⟩), .int .i64 (k : Int)] w (GotW w g v (l ++ (List.replicate k true ++ [false]))) := by
  have H := Lib.hid h
  clear h
  go_enter Try.func17, Try.ntmps17
  go_wp2
  go_loopw [5] (fun i wr => ∃ (j : Nat) (v' : Value), j ≤ k ∧ i = .int .i64 (j : Int) ∧ WB wr g v' (l ++ List.replicate j true) ∧ WF w g v wr v') (fun i _ => k - (intOf i).toNat)
  case atStart => exact ⟨0, v, by omega, rfl, by simpa using H.out, WF.refl _ _ _⟩
  case round =>
    obtain ⟨j, v', hj, rfl, hwb, hwf⟩ := hrel
    have Hwb := Lib.hid hwb
    have Hwf := Lib.hid hwf
    clear hwb hwf
    by_cases hlt : j < k
    · go_wp2_with fail
      refine (bit_any g v' _ true _ Hwb.out (by rw [List.length_append, List.length_replicate]; omega)).mono ?_
      rintro e w2 ⟨rfl, v2, hwb2, hwf2⟩
      rw [List.append_assoc, ← List.replicate_succ'] at hwb2
      have Hwb3 := Lib.hid hwb2
      have Hwf3 := Lib.hid (Hwf.out.trans hwf2)
      clear hwb2 hwf2 Hwb Hwf
      go_wp2
      go_roundw
      case rel => exact ⟨j + 1, v2, by omega, by go_num, Hwb3.out, Hwf3.out⟩
      case measure => simp [intOf]; omega
    · obtain rfl : j = k := by omega
      go_wp2_with fail
      refine (bit_any g v' _ false _ Hwb.out (by rw [List.length_append, List.length_replicate]; omega)).mono ?_
      rintro e w2 ⟨rfl, v2, hwb2, hwf2⟩
      rw [List.append_assoc] at hwb2
      have Hwb3 := Lib.hid hwb2
      have Hwf3 := Lib.hid (Hwf.out.trans hwf2)
      clear hwb2 hwf2 Hwb Hwf
      go_wp2
      go_end0
      exact ⟨rfl, v2, Hwb3.out, Hwf3.out⟩

theorem len_any (g : Nat) (v : Value) (l : List Bool) (w : World) (h : WB w g v l) :
    Calls Try.prog 18 #[.pointer (some ⟨g, 0, none⟩)] w fun e w' => e = .returned (.int .i64 (l.length : Int)) ∧ w = w' := by
  have c1 : w.cell? ⟨g, 1, none⟩ = some (.int .i64 (l.length : Int)) := h.blk.cell 1
  clear h
  go_enter Try.func18, Try.ntmps18
  go_wp2
  go_ret
  exact ⟨rfl, rfl⟩

/-- new bytes of the call's own -/
def GotB (w : World) (B : List UInt8) (e : Ending) (w' : World) : Prop := (∃ v, e = .returned v ∧ w'.ownsRow w.heap.size 5 1 v B.length (B.map bv)) ∧ Below w.heap.size w w'
set_option maxHeartbeats 400000 in
theorem bytes_any (g : Nat) (v : Value) (l : List Bool) (w : World) (h : WB w g v l) (hl : l.length ≤ 100000) :
    Calls Try.prog 20 #[.pointer (some ⟨g, 0, none⟩)] w (GotB w (pack l)) := by
  obtain ⟨i0, hi, hz0, hz1, hz2⟩ := info_parts infoByte
  have c0 : w.cell? ⟨g, 0, none⟩ = some v := h.blk.cell 0
  obtain ⟨A, cap, rfl, hrd, _, _, hn⟩ := own_rd h.own
  have hgl := h.blk.lt
  have hpl := pack_len l
  have hsm : nb l.length ≤ 20000 := by unfold nb; omega
  have Hrd := Lib.hid hrd
  have Hpl := Lib.hid hpl
  have Hn := Lib.hid hn
  clear h hrd hpl hn
  generalize nb l.length = m at *
  unfold GotB
  generalize pack l = B at *
  go_enter Try.func20, Try.ntmps20
  go_wp2_with (at_builtin; refine wpList_append_both rfl _ _ 24 rfl w.heap.size 5 i0 (.int .u8 0) 1 1 Try.underlying24 hi hz0 hz1 hz2 rfl (by decide) _ 0 [] rfl (own_new w 5 1) A m cap (B.map bv) rfl (by rw [List.length_map, Hpl.out]; simp) Hn.out (Hrd.out.alloc _).news (bv_one B) (by unfold maxLen; omega) (by omega) (by simp) ?_; intro v' w' hown hgrow; rw [Nat.zero_add, List.nil_append] at hown; have Hown := Lib.hid hown; have Hgrow := Lib.hid hgrow; clear hown hgrow)
  go_ret
  refine ⟨⟨_, rfl, ?_⟩, ?_⟩
  · rw [Hpl.out]; exact Hown.out
  · exact (bl w _).grown Hgrow.out (by simp) (fun k hk => by injection hk with hk; dsimp only at hk; omega)
end Bits
end Go.Proofs.Ytgncngpgodfijaa
