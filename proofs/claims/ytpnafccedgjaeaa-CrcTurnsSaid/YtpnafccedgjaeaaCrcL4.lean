/-
  The walk of the law CrcTurns.
-/
import Derived.Test.YtpnafccedgjaeaaCrcL3
import Derived.Test.YtpnafccedgjaeaaCrcT
namespace Go.Proofs.Ytpnafccedgjaeaa
open Go.RowKit
namespace Crc

theorem own_form {w : World} {base : Nat} {v : Value} {l : List UInt8} (h : Own w base v l) (h0 : 0 < l.length) : ∃ g cap, v = .slice (some ⟨g, 0, none⟩) l.length cap ∧ base ≤ g ∧ g < w.heap.size ∧ l.length ≤ cap := by
  obtain ⟨_, h⟩ := h
  rcases h with ⟨rfl, h1⟩ | ⟨g, cap, cur, rfl, hb, hg, hn, _⟩
  · omega
  · exact ⟨g, cap, rfl, hb, Own.bytes.lt_of_block' hg, hn⟩

theorem flip_walk (c : UInt8) (p : Nat) : Go.bits BinOp.xor IntKind.u8 (c.toNat : Int) (2 ^ (p % 8) % 256) = ((c ^^^ UInt8.ofNat (2 ^ (p % 8))).toNat : Int) := by
  have h2 : 2 ^ (p % 8) < 256 := by
    have : p % 8 < 8 := Nat.mod_lt _ (by decide)
    calc 2 ^ (p % 8) ≤ 2 ^ 7 := Nat.pow_le_pow_right (by decide) (by omega)
      _ < 256 := by decide
  have e : (2 : Int) ^ (p % 8) % 256 = ((2 ^ (p % 8) : Nat) : Int) := by
    have : ((2 ^ (p % 8) : Nat) : Int) = (2 : Int) ^ (p % 8) := by simp
    rw [← this]
    generalize 2 ^ (p % 8) = q at h2 ⊢
    omega
  rw [e, u8_xor_nat _ _ c.toNat_lt h2, UInt8.toNat_xor, UInt8.toNat_ofNat', Nat.mod_eq_of_lt h2]

set_option maxRecDepth 100000 in
set_option maxHeartbeats 4000000 in
theorem lawTurns_core (A : Option Addr) (l : List UInt8) (cap p : Nat) (m : BitVec 32) (w : World) (hA : Bytes w A l) (hnA : A = none → l.length = 0 ∧ cap = 0) (hl : l.length ≤ 2000) (hm : m ≠ 0#32) (hp : p ≤ 65535) :
    Calls Try.prog 6 #[.slice A l.length cap, .int .u16 (p : Int), .int .u32 (u m)] w fun e w' => e = .returned (.bool true) ∧ Below w.heap.size w w' := by
  have HA := Lib.hid hA; clear hA
  have HnA := Lib.hid hnA; clear hnA
  have hm0 : (u m == 0) = false := by
    rw [beq_eq_false_iff_ne]
    exact fun h => hm ((u_zero m).1 h)
  have hd : decide ((2000 : Int) < (l.length : Int)) = false := by simp; omega
  obtain ⟨n, hn⟩ : ∃ n : Nat, n = p % (8 * (l.length + 4) - 31) := ⟨_, rfl⟩
  have hmod : (p : Int) % (8 * ((l.length : Int) + 4) - 31) = (n : Int) := by
    rw [hn]
    have : (8 * ((l.length : Int) + 4) - 31) = ((8 * (l.length + 4) - 31 : Nat) : Int) := by omega
    rw [this]
    rfl
  have hnlt : n + 32 ≤ 8 * (l.length + 4) := by
    have := Nat.mod_lt p (show 0 < 8 * (l.length + 4) - 31 by omega)
    omega
  have hturn := turned l n m hm hnlt
  have Hturn := Lib.hid hturn
  clear hn hturn hm
  go_enter Try.func6, Try.ntmps6
  go_wp2_with fail
  refine (put_any A l cap _ HA.out HnA.out (by omega)).mono ?_
  rintro e w1 ⟨v1, rfl, hown1, hb1⟩
  obtain ⟨g, cap1, rfl, hbg, hgl, hcap1⟩ := own_form hown1 (by rw [put_len]; omega)
  have hpl := put_len l
  have hd4 : decide ((l.length : Int) + 4 < 4) = false := by simp; omega
  unfold Own at hown1
  rw [hpl] at hown1 hcap1 ⊢
  have Hpl := Lib.hid hpl; clear hpl
  have HO := Lib.hid hown1; clear hown1
  go_wp2_with fail
  go_loopw [9] (fun i wr => ∃ k : Nat, k ≤ 32 ∧ i = .int .i64 k ∧ wr.ownsRow w.heap.size 5 1 (.slice (some ⟨g, 0, none⟩) (l.length + 4) cap1) (l.length + 4) ((flips (put l) n m k).map bv) ∧ Below w.heap.size w wr) (fun i _ => 32 - (intOf i).toNat)
  case atStart => exact ⟨0, by omega, rfl, HO.out, hb1⟩
  case round =>
    obtain ⟨k, hk, rfl, hown, hb⟩ := hrel
    by_cases hlt : k < 32
    · have hodd := shr_odd m k
      have hsh : u m / 2 ^ k = u (m >>> k) := by
        unfold u
        rw [BitVec.toNat_ushiftRight, Nat.shiftRight_eq_div_pow]
        simp
      have hfl : flips (put l) n m (k + 1) = if m.getLsbD k then flip (flips (put l) n m k) (n + k) else flips (put l) n m k := rfl
      have hlen := flips_len (put l) n m k
      rw [Hpl.out] at hlen
      generalize flips (put l) n m k = s at *
      generalize m.getLsbD k = bk at *
      have Hfl := Lib.hid hfl; clear hfl
      have hj : (n + k) / 8 < l.length + 4 := by omega
      have hc : wr.cell? ⟨g, (n + k) / 8, none⟩ = some (.int .u8 ((s.getD ((n + k) / 8) 0).toNat : Int)) := by
        rw [hown.cellAt _ (by omega), List.getElem?_map, List.getD_eq_getElem?_getD, List.getElem?_eq_getElem (by omega)]
        rfl
      have hfr : wr.frozen? ⟨g, (n + k) / 8, none⟩ = false := hown.frozenAt _
      have Hown := Lib.hid hown; clear hown
      have Hlen := Lib.hid hlen; clear hlen
      generalize hcc : s.getD ((n + k) / 8) 0 = c at *
      have Hcc := Lib.hid hcc; clear hcc
      cases bk
      · have e1 : (u (bw false) == 1) = false := by decide
        go_wp2
        go_roundw
        case rel =>
          refine ⟨k + 1, by omega, by go_num, ?_, hb⟩
          rw [Hfl.out]
          exact Hown.out
        case measure => simp [intOf]; omega
      · have e1 : (u (bw true) == 1) = true := by decide
        go_wp2
        go_roundw
        case rel =>
          refine ⟨k + 1, by omega, by go_num, ?_, hb.setCell hbg _⟩
          rw [Hfl.out, if_pos rfl, flip_walk]
          have := (Hown.out.stored ((n + k) / 8) (bv (c ^^^ UInt8.ofNat (2 ^ ((n + k) % 8))))).1
          unfold flip
          rw [Hcc.out, List.map_set]
          exact this
        case measure => simp [intOf]; omega
    · obtain rfl : k = 32 := by omega
      have hfl := flips_len (put l) n m 32
      rw [Hpl.out] at hfl
      obtain ⟨a, t0, t1, t2, t3, hsp⟩ := split4 (l := flips (put l) n m 32) (by omega)
      have hgf : get a [t0, t1, t2, t3] = false := Hturn.out a [t0, t1, t2, t3] hsp
      have hO : Own wr w.heap.size (.slice (some ⟨g, 0, none⟩) (l.length + 4) cap1) (flips (put l) n m 32) := by
        unfold Own
        rw [hfl]
        exact hown
      obtain ⟨A', cap', he, hB', _, _⟩ := own_len hO
      injection he with he1 he2 he3
      subst he1
      have HBw := Lib.hid hB'
      have Hsp := Lib.hid hsp
      have Hfl := Lib.hid hfl
      have Hgf := Lib.hid hgf
      clear hB' hsp hfl hgf hO hown he2 he3
      go_wp2_with fail
      refine (get_len Hsp.out Hfl.out HBw.out (by omega) hcap1).mono ?_
      rintro e w4 ⟨v4, rfl, hown4, hb4⟩
      rw [Hgf.out] at hown4 ⊢
      have hv : v4 = .slice none 0 0 := hown4
      subst hv
      clear hown4
      go_wp2_with (go_at_call 14; refine (works_any _).mono ?_; rintro e w' ⟨rfl, hb'⟩)
      go_ret
      exact ⟨rfl, bt (bt hb hb4) hb'⟩

theorem lawTurns_no (A : Option Addr) (l : List UInt8) (cap p : Nat) (m : BitVec 32) (w : World) (hl : l.length ≤ maxLen) (h : 2000 < l.length ∨ m = 0#32) :
    Calls Try.prog 6 #[.slice A l.length cap, .int .u16 (p : Int), .int .u32 (u m)] w fun e w' => e = .returned (.bool true) ∧ Below w.heap.size w w' := by
  unfold maxLen at hl
  by_cases h1 : 2000 < l.length
  · have hd : decide ((2000 : Int) < (l.length : Int)) = true := by simp; omega
    go_enter Try.func6, Try.ntmps6
    go_wp2_with (go_at_call 14; refine (works_any _).mono ?_; rintro e w' ⟨rfl, hb⟩)
    go_ret
    exact ⟨rfl, hb⟩
  · obtain rfl : m = 0#32 := by rcases h with h | h; exact absurd h h1; exact h
    have hd : decide ((2000 : Int) < (l.length : Int)) = false := by simp; omega
    have hm0 : (u 0#32 == 0) = true := by decide
    go_enter Try.func6, Try.ntmps6
    go_wp2_with (go_at_call 14; refine (works_any _).mono ?_; rintro e w' ⟨rfl, hb⟩)
    go_ret
    exact ⟨rfl, hb⟩

theorem walkTurns (v0 v1 v2 : Value) (W : World) (h0 : VSat W (.slice (.int .u8)) false v0) (h1 : VSat W (.int .u16) false v1) (h2 : VSat W (.int .u32) false v2) :
    Calls Try.prog 6 #[v0, v1, v2] W fun e W' => e = .returned (.bool true) ∧ Below W.heap.size W W' := by
  obtain ⟨A, l, cap, rfl, hA, hl, hnA⟩ := open_bytes h0
  obtain ⟨p, rfl, hp⟩ := open_u16 h1
  obtain ⟨m, rfl⟩ := open_u32 h2
  by_cases h : 2000 < l.length ∨ m = 0#32
  · exact lawTurns_no A l cap p m W hl h
  · exact lawTurns_core A l cap p m W hA hnA (by omega) (fun e => h (.inr e)) hp
end Crc
end Go.Proofs.Ytpnafccedgjaeaa
