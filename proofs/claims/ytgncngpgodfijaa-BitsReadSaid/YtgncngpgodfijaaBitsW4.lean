/-
  The walks of the reference of package bits: bytes of a row, the row of bytes.
-/
import Derived.Test.YtgncngpgodfijaaBitsW3
namespace Go.Proofs.Ytgncngpgodfijaa
open Go.RowKit
namespace Bits

set_option maxRecDepth 100000 in
set_option maxHeartbeats 1000000 in
theorem fbytes_any (A : Option Addr) (l : List Bool) (n cap lo hi : Nat) (w : World) (h : RdL w lo hi A (lv l)) (hhi : hi ≤ w.heap.size) (hn : l.length = n) (hl : n ≤ 100000) :
    Calls Try.prog 21 #[.slice A n cap] w (GotB w (pack l)) := by
  obtain ⟨i0, hi', hz0, hz1, hz2⟩ := info_parts infoByte
  have H := Lib.hid h
  have Hn := Lib.hid hn
  clear h hn
  have Hhi := Lib.hid hhi
  clear hhi
  go_enter Try.func21, Try.ntmps21
  go_wp2
  go_loopw [3, 4] (fun v i wr => ∃ j m : Nat, m = 8 * j ∧ j ≤ nb n ∧ i = .int .i64 (m : Int) ∧ wr.ownsRow w.heap.size 5 1 v j ((packN l j).map bv) ∧ Below w.heap.size w wr) (fun _ i _ => n - (intOf i).toNat)
  case atStart => exact ⟨0, 0, rfl, by omega, rfl, World.ownsRow_nil w _ _ _, Below.refl _ _⟩
  case round =>
    obtain ⟨j, m, hm, hj, rfl, hown, hb⟩ := hrel
    have Hown := Lib.hid hown
    have Hm := Lib.hid hm
    clear hown hm
    have hj2 : j ≤ 20000 := by unfold nb at hj; omega
    have hm2 : m ≤ 200000 := by have := Hm.out; omega
    by_cases hlt : m < n
    · have hjn : j < nb n := by have := Hm.out; unfold nb; omega
      go_wp2
      go_loop [5, 6] (fun x k => ∃ t : Nat, t ≤ 8 ∧ k = .int .i64 (t : Int) ∧ x = .int .i64 (hp l j t : Int)) (fun _ k => 8 - (intOf k).toNat)
      case atStart => exact ⟨0, by omega, rfl, rfl⟩
      case round =>
        obtain ⟨t, ht, rfl, rfl⟩ := hrel
        by_cases ht8 : t < 8
        · have hnx : hp l j (t + 1) = 2 * hp l j t + btv l (8 * j + t) := rfl
          have h256 := hp_256 l j t (by omega)
          have h256' := hp_256 l j (t + 1) (by omega)
          rw [← Hm.out] at hnx
          rw [hnx] at h256'
          have Hnx := Lib.hid hnx
          clear hnx
          generalize hp l j t = x at *
          by_cases hin : m + t < n
          · have hinl : m + t < l.length := by rw [Hn.out]; exact hin
            obtain ⟨b, off, rfl, _, _, _, hc⟩ := (H.out.below hb (.inl Hhi.out)).some (by rw [lv_len]; omega)
            have c0 := hc (m + t) _ (lv_get l _ hinl)
            have hbt : btv l (m + t) = l[m + t].toNat := by unfold btv; rw [List.getD_eq_getElem?_getD, List.getElem?_eq_getElem hinl]; rfl
            rw [hbt] at Hnx h256'
            have i1 : (m : Int) + (t : Int) < (n : Int) := by omega
            have i2 : ((m : Int) + (t : Int)).toNat = m + t := by omega
            clear hbt hc
            generalize l[m + t] = bb at *
            cases bb
            · go_wp2
              go_round
              case rel => exact ⟨t + 1, by omega, by go_num, by rw [Hnx.out]; simp⟩
              case measure => simp [intOf]; omega
            · simp only [Bool.toNat_true] at h256'
              go_wp2
              go_round
              case rel => exact ⟨t + 1, by omega, by go_num, by rw [Hnx.out]; simp⟩
              case measure => simp [intOf]; omega
          · have hbt : btv l (m + t) = 0 := bt_out l _ (by rw [Hn.out]; omega)
            rw [hbt] at Hnx h256'
            clear hbt
            have i1 : ¬ (m : Int) + (t : Int) < (n : Int) := by omega
            go_wp2
            go_round
            case rel => exact ⟨t + 1, by omega, by go_num, by rw [Hnx.out]; simp⟩
            case measure => simp [intOf]; omega
        · obtain rfl : t = 8 := by omega
          rw [hp8]
          have hlt8 := byteOf_lt l j
          have hcv : ((byteOf l j : Int) % 256) = ((UInt8.ofNat (byteOf l j)).toNat : Int) := by rw [byte_nat]; omega
          have Hcv := Lib.hid hcv
          have hsz := hb.size
          clear hcv
          have hw : IntKind.u8.wrap (byteOf l j : Int) = (byteOf l j : Int) := by simp [IntKind.wrap, IntKind.bits, IntKind.signed]; omega
          go_wp2_with (at_builtin; refine wpList_append_own _ rfl _ _ 24 rfl w.heap.size 5 i0 (.int .u8 0) 1 1 Try.underlying24 hi' hz0 hz1 hz2 rfl (by decide) _ _ _ rfl (Hown.out.alloc _) ⟨wr.heap.size, 0, none⟩ 1 1 [.int .u8 (byteOf l j : Int)] rfl rfl (cell_one_new _ _ _) (by simp [Value.oneCell']) (by unfold maxLen; omega) (by omega) (by simp; omega) ?_; intro v' w2 hown2 hgrow _; have Hown2 := Lib.hid hown2; have Hgrow := Lib.hid hgrow; clear hown2 hgrow)
          go_roundw
          case rel =>
            refine ⟨j + 1, m + 8, by have := Hm.out; omega, by omega, by go_num, ?_, ?_⟩
            · rw [packN_succ, List.map_append]
              have := Hown2.out
              rw [show Value.int .u8 (byteOf l j : Int) = bv (UInt8.ofNat (byteOf l j)) by unfold bv; rw [byte_nat]] at this
              exact this
            · exact (hb.alloc hsz _).grown Hgrow.out (by simp; omega) fun q hq => (own_lt Hown.out hq).1
          case measure => simp [intOf]; omega
    · have hjn : j = nb n := by have := Hm.out; unfold nb at *; omega
      have Hjn := Lib.hid hjn
      clear hjn
      go_wp2
      go_ret
      refine ⟨⟨_, rfl, ?_⟩, hb⟩
      have := Hown.out
      rw [pack_len, Hn.out, ← Hjn.out]
      unfold pack
      rw [Hn.out, ← Hjn.out]
      exact this

set_option maxRecDepth 100000 in
set_option maxHeartbeats 1000000 in
theorem frow_any (A : Option Addr) (B : List UInt8) (n cap lo hi : Nat) (w : World) (h : RdL w lo hi A (B.map bv)) (hhi : hi ≤ w.heap.size) (hn : B.length = n) (hl : n ≤ 100000) :
    Calls Try.prog 29 #[.slice A n cap] w (GotL w 4 (lv (row B))) := by
  obtain ⟨i0, hi', hz0, hz1, hz2⟩ := info_parts infoBool
  have H := Lib.hid h
  have Hn := Lib.hid hn
  clear h hn
  have Hhi := Lib.hid hhi
  clear hhi
  go_enter Try.func29, Try.ntmps29
  go_wp2
  go_loopw [3, 4, 5, 6] (fun v i _ _ wr => ∃ j m : Nat, m = 8 * j ∧ j ≤ n ∧ i = .int .i64 (j : Int) ∧ wr.ownsRow w.heap.size 4 1 v m (lv ((row B).take m)) ∧ Below w.heap.size w wr) (fun _ i _ _ _ => n - (intOf i).toNat)
  case atStart => exact ⟨0, 0, rfl, by omega, rfl, World.ownsRow_nil w _ _ _, Below.refl _ _⟩
  case round =>
    obtain ⟨j, m, hm, hj, rfl, hown, hb⟩ := hrel
    have Hown := Lib.hid hown
    have Hm := Lib.hid hm
    clear hown hm
    by_cases hlt : j < n
    · have hjl : j < B.length := by rw [Hn.out]; exact hlt
      obtain ⟨b, off, rfl, _, _, _, hc⟩ := (H.out.below hb (.inl Hhi.out)).some (by rw [List.length_map]; omega)
      have c0 : wr.cell? ⟨b, off + j, none⟩ = some (.int .u8 (B[j].toNat : Int)) := hc j _ (by rw [List.getElem?_map, List.getElem?_eq_getElem hjl]; rfl)
      have Htk := Lib.hid (fun t ht => row_take B j t hjl ht)
      clear hc
      generalize B[j] = c at *
      have h256 := c.toNat_lt
      clear hjl
      go_wp2
      go_loopw [3, 5, 6] (fun v x k wq => ∃ t : Nat, t ≤ 8 ∧ k = .int .i64 (t : Int) ∧ x = .int .u8 ((c.toNat * 2 ^ t % 256 : Nat) : Int) ∧ wq.ownsRow w.heap.size 4 1 v (m + t) (lv ((row B).take (m + t))) ∧ Below w.heap.size w wq) (fun _ _ k _ => 8 - (intOf k).toNat)
      case atStart => exact ⟨0, by omega, rfl, by rw [Nat.pow_zero, Nat.mul_one, Nat.mod_eq_of_lt h256], Hown.out, hb⟩
      case round =>
        clear c0
        obtain ⟨t, ht, rfl, rfl, hown2, hb2⟩ := hrel
        have Hown2 := Lib.hid hown2
        clear hown2
        by_cases ht8 : t < 8
        · have hcb := cb_walk c t ht8
          have hx : c.toNat * 2 ^ (t + 1) % 256 = c.toNat * 2 ^ t % 256 * 2 % 256 := by rw [Nat.pow_succ, ← Nat.mul_assoc]; omega
          have hx2 : c.toNat * 2 ^ t % 256 < 256 := Nat.mod_lt _ (by decide)
          have Hx := Lib.hid hx
          have hsz := hb2.size
          have hmm : m + t ≤ 900000 := by have := Hm.out; omega
          clear hx
          generalize c.toNat * 2 ^ t % 256 = x at *
          have hw : IntKind.u8.wrap ((x : Int) * 2) = ((x * 2 % 256 : Nat) : Int) := by simp [IntKind.wrap, IntKind.bits, IntKind.signed]
          go_wp2_with (at_builtin; refine wpList_append_own _ rfl _ _ 27 rfl w.heap.size 4 i0 (.bool false) 1 1 Try.underlying27 hi' hz0 hz1 hz2 rfl (by decide) _ _ _ rfl (Hown2.out.alloc _) ⟨wr.heap.size, 0, none⟩ 1 1 [.bool (cb c t)] rfl rfl (cell_one_new _ _ _) (by simp [Value.oneCell']) (by unfold maxLen; omega) (by omega) (by simp; omega) ?_; intro v' w2 hown3 hgrow _; have Hown3 := Lib.hid hown3; have Hgrow := Lib.hid hgrow; clear hown3 hgrow)
          go_roundw
          case rel =>
            refine ⟨t + 1, by omega, by go_num, ?_, ?_, ?_⟩
            · rw [Hx.out]; simp
            · have e := Htk.out t ht8
              rw [← Hm.out] at e
              rw [← Nat.add_assoc, e, lv_append]
              exact Hown3.out
            · exact (hb2.alloc hsz _).grown Hgrow.out (by simp; omega) fun q hq => (own_lt Hown2.out hq).1
          case measure => simp [intOf]; omega
        · obtain rfl : t = 8 := by omega
          go_wp2
          go_roundw
          case rel => exact ⟨j + 1, m + 8, by have := Hm.out; omega, by omega, by go_num, Hown2.out, hb2⟩
          case measure => simp [intOf]; omega
    · obtain rfl : j = n := by omega
      go_wp2
      go_ret
      refine ⟨⟨_, rfl, ?_⟩, hb⟩
      have := Hown.out
      rw [List.take_of_length_le (by rw [row_len, Hn.out, Hm.out]; exact Nat.le_refl _)] at this
      rw [lv_len, row_len, Hn.out, ← Hm.out]
      exact this
end Bits
end Go.Proofs.Ytgncngpgodfijaa
