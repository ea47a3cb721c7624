/-
  The walk of the law CrcJoins.
-/
import Derived.Test.YtpnafccedgjaeaaCrcL1
namespace Go.Proofs.Ytpnafccedgjaeaa
open Go.RowKit
namespace Crc

theorem rsum_n {A : Option Addr} {a : List UInt8} {n cap : Nat} {w : World} (han : a.length = n) (hA : Bytes w A a) (hl : n ≤ maxLen) :
    Calls Try.prog 16 #[.slice A n cap] w fun e w' => e = .returned (.int .u32 (u (sum a))) ∧ w = w' := by
  subst han
  exact rsum_any A a cap w hA hl

set_option maxHeartbeats 1000000 in
theorem lawJoins_any (A B : Option Addr) (a b : List UInt8) (ca cb : Nat) (x : BitVec 32) (m n : Nat) (w : World) (hA : Bytes w A a) (hnA : A = none → a.length = 0 ∧ ca = 0) (hB : Bytes w B b) (hnB : B = none → b.length = 0 ∧ cb = 0)
    (hla : a.length ≤ maxLen) (hlb : b.length ≤ maxLen) (hm : m ≤ 65535) (hn : n ≤ 65535) :
    Calls Try.prog 4 #[.slice A a.length ca, .slice B b.length cb, .int .u32 (u x), .int .u16 (m : Int), .int .u16 (n : Int)] w fun e w' => e = .returned (.bool true) ∧ Below w.heap.size w w' := by
  have HA := Lib.hid hA; clear hA
  have HB := Lib.hid hB; clear hB
  have HnA := Lib.hid hnA; clear hnA
  have HnB := Lib.hid hnB; clear hnB
  unfold maxLen at hla hlb
  obtain ⟨i0, hi, hz0, hz1, hz2⟩ := info_parts infoByte
  by_cases h1 : a.length ≤ 1000
  · by_cases h2 : b.length ≤ 1000
    · have hj := shift_shift x m n
      have hsa := sum_append a b
      have Hsa := Lib.hid hsa; clear hsa
      have Hj := Lib.hid hj; clear hj
      go_enter Try.func4, Try.ntmps4
      go_wp2_with (first | (at_builtin; refine wpList_append_both rfl (.tmp 21) (.tmp 22) 22 rfl w.heap.size 5 i0 (.int .u8 0) 1 1 Try.underlying22 hi hz0 hz1 hz2 rfl (by decide) _ 0 [] rfl (World.ownsRow_nil w _ _ _) A a.length ca (a.map bv) rfl (by simp) HnA.out ?n1 (bv_one a) ?b1 ?b2 ?b3 ?_; rotate_right; intro v1 w1 hown1 hg1) | (at_builtin; refine wpList_append_both rfl (.tmp 23) (.tmp 24) 22 rfl w.heap.size 5 i0 (.int .u8 0) 1 1 Try.underlying22 hi hz0 hz1 hz2 rfl (by decide) _ (0 + a.length) ([] ++ a.map bv) rfl hown1 B b.length cb (b.map bv) rfl (by simp) HnB.out ?n2 (bv_one b) ?b4 ?b5 ?b6 ?_; rotate_right; intro v2 w2 hown2 hg2))
      · have hw1 : Below w.heap.size w w1 := (Below.refl _ _).grown hg1 (Nat.le_refl _) (own_ge (World.ownsRow_nil w w.heap.size 5 1))
        have hw2 : Below w.heap.size w w2 := hw1.grown hg2 hw1.size (own_ge hown1)
        have hown : Own w2 w.heap.size v2 (a ++ b) := own_append (by simpa using hown2)
        obtain ⟨C, cc, rfl, hC, hcap, hnC⟩ := own_len hown
        have HA2 := Lib.hid (HA.out.below hw2 (Nat.le_refl _))
        have HB2 := Lib.hid (HB.out.below hw2 (Nat.le_refl _))
        have HC := Lib.hid hC
        clear hC hown hown1 hown2 hg1 hg2 hnC hcap
        go_wp2_with fail
        refine (sum_any A a ca _ HA2.out (by unfold maxLen; omega)).mono ?_
        rintro e w' ⟨rfl, rfl⟩
        go_wp2_with fail
        refine (sum_any B b cb _ HB2.out (by unfold maxLen; omega)).mono ?_
        rintro e w' ⟨rfl, rfl⟩
        go_wp2_with fail
        refine (join_any _ _ _ _ (by omega)).mono ?_
        rintro e w3 ⟨rfl, hb3⟩
        rw [← Hsa.out]
        go_wp2_with fail
        refine (rsum_n (by simp) (HC.out.below hb3 (Nat.le_refl _)) (by unfold maxLen; omega)).mono ?_
        rintro e w' ⟨rfl, rfl⟩
        have hsum : ((m + n : Nat) : Int) = (m : Int) + (n : Int) := by omega
        have Hsum := Lib.hid hsum; clear hsum
        go_wp2_with fail
        refine (shift_any x m _ (by omega)).mono ?_
        rintro e w4 ⟨rfl, hb4⟩
        go_wp2_with fail
        refine (shift_any (shift x m) n _ (by omega)).mono ?_
        rintro e w5 ⟨rfl, hb5⟩
        rw [Hj.out]
        go_wp2_with fail
        refine (shift_eq (x := x) (n := m + n) rfl Hsum.out rfl (by omega)).mono ?_
        rintro e w6 ⟨rfl, hb6⟩
        go_wp2_with (go_at_call 14; refine (works_any _).mono ?_; rintro e w' ⟨rfl, hb⟩)
        go_ret
        exact ⟨rfl, bt (bt (bt (bt (bt hw2 hb3) hb4) hb5) hb6) hb⟩
      case n1 => exact HA.out.news
      case b1 => simp only [maxLen]; omega
      case b2 => omega
      case b3 => omega
      case n2 => exact (HB.out.below ((Below.refl w.heap.size w).grown hg1 (Nat.le_refl _) (own_ge (World.ownsRow_nil w w.heap.size 5 1))) (Nat.le_refl _)).news
      case b4 => simp only [maxLen]; omega
      case b5 => omega
      case b6 => exact hg1.size
    · have hd : decide ((1000 : Int) < (a.length : Int)) = false := by simp; omega
      have hd2 : decide ((1000 : Int) < (b.length : Int)) = true := by simp; omega
      go_enter Try.func4, Try.ntmps4
      go_wp2_with (go_at_call 14; refine (works_any _).mono ?_; rintro e w' ⟨rfl, hb⟩)
      go_ret
      exact ⟨rfl, hb⟩
  · have hd : decide ((1000 : Int) < (a.length : Int)) = true := by simp; omega
    go_enter Try.func4, Try.ntmps4
    go_wp2_with (go_at_call 14; refine (works_any _).mono ?_; rintro e w' ⟨rfl, hb⟩)
    go_ret
    exact ⟨rfl, hb⟩

theorem open_u32 {W : World} {v : Value} (h : VSat W (.int .u32) false v) : ∃ x : BitVec 32, v = .int .u32 (u x) := by
  obtain ⟨n, e, hw⟩ := h
  injection e with e
  subst e
  have := bounds_u32 hw
  refine ⟨BitVec.ofNat 32 n.toNat, ?_⟩
  unfold u
  rw [BitVec.toNat_ofNat]
  congr 1
  omega
theorem open_u16 {W : World} {v : Value} (h : VSat W (.int .u16) false v) : ∃ m : Nat, v = .int .u16 (m : Int) ∧ m ≤ 65535 := by
  obtain ⟨n, e, hw⟩ := h
  injection e with e
  subst e
  have := bounds_u16 hw
  exact ⟨n.toNat, by congr 1; omega, by omega⟩
theorem walkJoins (v0 v1 v2 v3 v4 : Value) (W : World) (h0 : VSat W (.slice (.int .u8)) false v0) (h1 : VSat W (.slice (.int .u8)) false v1) (h2 : VSat W (.int .u32) false v2) (h3 : VSat W (.int .u16) false v3) (h4 : VSat W (.int .u16) false v4) :
    Calls Try.prog 4 #[v0, v1, v2, v3, v4] W fun e W' => e = .returned (.bool true) ∧ Below W.heap.size W W' := by
  obtain ⟨A, a, ca, rfl, hA, hla, hnA⟩ := open_bytes h0
  obtain ⟨B, b, cb, rfl, hB, hlb, hnB⟩ := open_bytes h1
  obtain ⟨x, rfl⟩ := open_u32 h2
  obtain ⟨m, rfl, hm⟩ := open_u16 h3
  obtain ⟨n, rfl, hn⟩ := open_u16 h4
  exact lawJoins_any A B a b ca cb x m n W hA hnA hB hnB hla hlb hm hn
end Crc
end Go.Proofs.Ytpnafccedgjaeaa
