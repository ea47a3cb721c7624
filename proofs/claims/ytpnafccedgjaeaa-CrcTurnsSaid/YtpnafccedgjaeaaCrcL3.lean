/-
  The walk of the law CrcBack.
-/
import Derived.Test.YtpnafccedgjaeaaCrcL2
namespace Go.Proofs.Ytpnafccedgjaeaa
open Go.RowKit
namespace Crc

theorem open_bytes' {W : World} {v : Value} (h : VSat W (.slice (.int .u8)) false v) : ∃ A l cap, v = .slice A (List.length l) cap ∧ Bytes W A l ∧ l.length ≤ maxLen ∧ (A = none → l.length = 0 ∧ cap = 0) ∧ l.length ≤ cap := by
  obtain ⟨A, l, cap, rfl, h1, h2, h3⟩ := open_bytes h
  obtain ⟨A', len, cap', e, hl, _⟩ := h
  injection e with e
  injection e with e1 e2 e3
  exact ⟨A, l, cap, rfl, h1, h2, h3, by omega⟩
theorem put_len (l : List UInt8) : (put l).length = l.length + 4 := by simp [put, le4_len]
theorem same_n {A A' : Option Addr} {l l' : List UInt8} {n n' cap cap' : Nat} {w : World} (hl : l.length = n) (hl' : l'.length = n') (h : Bytes w A l) (hn : A = none → n = 0 ∧ cap = 0) (h' : Bytes w A' l') (hn' : A' = none → n' = 0 ∧ cap' = 0) :
    Calls Try.prog 21 #[.slice A n cap, .slice A' n' cap'] w fun e w' => e = .returned (.bool (l == l')) ∧ w = w' := by
  subst hl
  subst hl'
  exact same_any A A' l l' cap cap' w h hn h' hn'

set_option maxRecDepth 100000 in
set_option maxHeartbeats 4000000 in
theorem lawBack_short (A : Option Addr) (l : List UInt8) (cap : Nat) (w : World) (hA : Bytes w A l) (hnA : A = none → l.length = 0 ∧ cap = 0) (hl : l.length < 4) :
    Calls Try.prog 5 #[.slice A l.length cap] w fun e w' => e = .returned (.bool true) ∧ Below w.heap.size w w' := by
  have HA := Lib.hid hA; clear hA
  have HnA := Lib.hid hnA; clear hnA
  · go_enter Try.func5, Try.ntmps5
    go_wp2_with fail
    refine (put_any A l cap _ HA.out HnA.out (by omega)).mono ?_
    rintro e w1 ⟨v1, rfl, hown1, hb1⟩
    obtain ⟨A1, cap1, rfl, hB1, hcap1, hn1⟩ := own_len hown1
    have hB1' : Bytes w1 A1 (l ++ [byteAt (sum l) 0, byteAt (sum l) 1, byteAt (sum l) 2, byteAt (sum l) 3]) := hB1
    rw [put_len] at hcap1 hn1 ⊢
    have HB1 := Lib.hid hB1'
    have Hn1 := Lib.hid hn1
    clear hB1 hB1' hown1 hn1
    go_wp2_with fail
    refine (get_core A1 l _ _ _ _ l.length cap1 _ rfl HB1.out (by omega) hcap1).mono ?_
    rintro e w2 ⟨v2, rfl, hown2, hb2⟩
    have hg : get l [byteAt (sum l) 0, byteAt (sum l) 1, byteAt (sum l) 2, byteAt (sum l) 3] = true := by
      unfold get
      exact beq_self_eq_true _
    rw [hg] at hown2 ⊢
    rw [if_pos rfl] at hown2
    obtain ⟨A2, cap2, rfl, hB2, hcap2, hn2⟩ := own_len hown2
    have HB2 := Lib.hid hB2
    have Hn2 := Lib.hid hn2
    clear hg hown2 hB2 hn2 hcap2
    have hbw2 := bt hb1 hb2
    have HAw2 := Lib.hid (HA.out.below hbw2 (Nat.le_refl _))
    go_wp2_with fail
    refine (rput_any A l cap _ HAw2.out HnA.out (by omega)).mono ?_
    rintro e w3 ⟨v3, rfl, hown3, hb3⟩
    obtain ⟨A3, cap3, rfl, hB3, hcap3, hn3⟩ := own_len hown3
    have HB3 := Lib.hid hB3
    have Hn3 := Lib.hid hn3
    rw [put_len] at hn3 ⊢
    have HB1w := Lib.hid (HB1.out.below (bt hb2 hb3) (Nat.le_refl _))
    have HB2w := Lib.hid (HB2.out.below hb3 (Nat.le_refl _))
    have HAw := Lib.hid (HA.out.below (bt hbw2 hb3) (Nat.le_refl _))
    have hbw := bt hbw2 hb3
    clear hB3 hown3 hcap3 hn3 hb1 hb2 hb3 hbw2 HAw2
    go_wp2_with fail
    refine (same_n (l := put l) (l' := put l) (put_len l) (put_len l) HB1w.out Hn1.out HB3.out (by rw [← put_len]; exact Hn3.out)).mono ?_
    rintro e w' ⟨rfl, rfl⟩
    rw [show (put l == put l) = true from beq_self_eq_true _]
    go_wp2_with fail
    refine (same_n (l := l) (l' := l) rfl rfl HB2w.out Hn2.out HAw.out HnA.out).mono ?_
    rintro e w' ⟨rfl, rfl⟩
    rw [show (l == l) = true from beq_self_eq_true _]
    go_wp2_with fail
    refine (get_short A l cap _ hl).mono ?_
    rintro e w' ⟨rfl, rfl⟩
    go_wp2_with (go_at_call 14; refine (works_any _).mono ?_; rintro e w' ⟨rfl, hb⟩)
    go_ret
    exact ⟨rfl, bt hbw hb⟩

theorem get_len {A : Option Addr} {a l : List UInt8} {t0 t1 t2 t3 : UInt8} {N cap : Nat} {w : World} (hl : l = a ++ [t0, t1, t2, t3]) (hN : l.length = N) (hA : Bytes w A l) (hn : N ≤ 1000000) (hcap : N ≤ cap) :
    Calls Try.prog 20 #[.slice A N cap] w (Got w a [t0, t1, t2, t3]) := by
  subst hN
  subst hl
  have : (a ++ [t0, t1, t2, t3]).length = a.length + 4 := by simp
  rw [this] at hn hcap ⊢
  exact get_core A a t0 t1 t2 t3 a.length cap w rfl hA (by omega) hcap
theorem rput_n {A : Option Addr} {l : List UInt8} {n cap : Nat} {w : World} (hl : l.length = n) (hA : Bytes w A l) (hn : A = none → n = 0 ∧ cap = 0) (hle : n ≤ 1000000) :
    Calls Try.prog 22 #[.slice A n cap] w fun e w' => ∃ v, e = .returned v ∧ Own w' w.heap.size v (put l) ∧ Below w.heap.size w w' := by
  subst hl
  exact rput_any A l cap w hA hn hle
theorem Bytes.front {w : World} {A : Option Addr} {a b : List UInt8} (h : Bytes w A (a ++ b)) : Bytes w A a := by
  rcases h with h | ⟨c, off, e, hl, hc⟩
  · exact .inl (List.append_eq_nil_iff.1 h).1
  · refine .inr ⟨c, off, e, hl, fun i hi => ?_⟩
    have := hc i (by simp; omega)
    rw [List.getElem_append_left hi] at this
    exact this
theorem put_same (a : List UInt8) (t : List UInt8) : (put a == a ++ t) = get a t := by
  unfold put get
  rw [Bool.eq_iff_iff, beq_iff_eq, beq_iff_eq, List.append_cancel_left_eq]
  exact eq_comm

set_option maxRecDepth 100000 in
set_option maxHeartbeats 4000000 in
theorem lawBack_long (A : Option Addr) (l a : List UInt8) (t0 t1 t2 t3 : UInt8) (n cap : Nat) (w : World) (hla : l = a ++ [t0, t1, t2, t3]) (hn : a.length = n) (hA : Bytes w A l) (hnA : A = none → l.length = 0 ∧ cap = 0) (hl : l.length ≤ 2000) (hcap : l.length ≤ cap) (h4 : 4 ≤ l.length) :
    Calls Try.prog 5 #[.slice A l.length cap] w fun e w' => e = .returned (.bool true) ∧ Below w.heap.size w w' := by
  have HA := Lib.hid hA; clear hA
  have HnA := Lib.hid hnA; clear hnA
  have hln : l.length = n + 4 := by rw [hla, List.length_append, hn]; rfl
  have hk : ((l.length : Int) - 4) = (n : Int) := by omega
  have hnn : n ≤ 2000 := by omega
  have hnc : n ≤ cap := by omega
  have Hn := Lib.hid hn; clear hn
  have Hln := Lib.hid hln; clear hln
  have hps := put_same a [t0, t1, t2, t3]
  rw [← hla] at hps
  have HA1 : Hid (Bytes w A a) := by have := HA.out; rw [hla] at this; exact this.front
  have Hla := Lib.hid hla; clear hla
  obtain ⟨g, hgg⟩ : ∃ g, get a [t0, t1, t2, t3] = g := ⟨_, rfl⟩
  rw [hgg] at hps
  have Hps := Lib.hid hps; clear hps
  have Hgg := Lib.hid hgg; clear hgg
  have hk2 : max (n : Int) 0 = (n : Int) := by omega
  cases g
  all_goals
    go_enter Try.func5, Try.ntmps5
    go_wp2_with fail
    refine (put_any A l cap _ HA.out HnA.out (by omega)).mono ?_
    rintro e w1 ⟨v1, rfl, hown1, hb1⟩
    obtain ⟨A1, cap1, rfl, hB1, hcap1, hn1⟩ := own_len hown1
    have hB1' : Bytes w1 A1 (l ++ [byteAt (sum l) 0, byteAt (sum l) 1, byteAt (sum l) 2, byteAt (sum l) 3]) := hB1
    rw [put_len] at hcap1 hn1 ⊢
    have HB1 := Lib.hid hB1'
    have Hn1 := Lib.hid hn1
    clear hB1 hB1' hown1 hn1
    go_wp2_with fail
    refine (get_core A1 l _ _ _ _ l.length cap1 _ rfl HB1.out (by omega) hcap1).mono ?_
    rintro e w2 ⟨v2, rfl, hown2, hb2⟩
    have hg : get l [byteAt (sum l) 0, byteAt (sum l) 1, byteAt (sum l) 2, byteAt (sum l) 3] = true := by
      unfold get
      exact beq_self_eq_true _
    rw [hg] at hown2 ⊢
    rw [if_pos rfl] at hown2
    obtain ⟨A2, cap2, rfl, hB2, hcap2, hn2⟩ := own_len hown2
    have HB2 := Lib.hid hB2
    have Hn2 := Lib.hid hn2
    clear hg hown2 hB2 hn2 hcap2
    have hbw2 := bt hb1 hb2
    have HAw2 := Lib.hid (HA.out.below hbw2 (Nat.le_refl _))
    go_wp2_with fail
    refine (rput_any A l cap _ HAw2.out HnA.out (by omega)).mono ?_
    rintro e w3 ⟨v3, rfl, hown3, hb3⟩
    obtain ⟨A3, cap3, rfl, hB3, hcap3, hn3⟩ := own_len hown3
    have HB3 := Lib.hid hB3
    have Hn3 := Lib.hid hn3
    rw [put_len] at hn3 ⊢
    have HB1w := Lib.hid (HB1.out.below (bt hb2 hb3) (Nat.le_refl _))
    have HB2w := Lib.hid (HB2.out.below hb3 (Nat.le_refl _))
    have HAw := Lib.hid (HA.out.below (bt hbw2 hb3) (Nat.le_refl _))
    have hbw := bt hbw2 hb3
    clear hB3 hown3 hcap3 hn3 hb1 hb2 hb3 hbw2 HAw2
    go_wp2_with fail
    refine (same_n (l := put l) (l' := put l) (put_len l) (put_len l) HB1w.out Hn1.out HB3.out (by rw [← put_len]; exact Hn3.out)).mono ?_
    rintro e w' ⟨rfl, rfl⟩
    rw [show (put l == put l) = true from beq_self_eq_true _]
    go_wp2_with fail
    refine (same_n (l := l) (l' := l) rfl rfl HB2w.out Hn2.out HAw.out HnA.out).mono ?_
    rintro e w' ⟨rfl, rfl⟩
    rw [show (l == l) = true from beq_self_eq_true _]
    go_wp2_with fail
    refine (get_len Hla.out rfl HAw.out (by omega) hcap).mono ?_
    rintro e w4 ⟨v4, rfl, hown4, hb4⟩
    rw [Hgg.out] at hown4 ⊢
  · have hv : v4 = .slice none 0 0 := hown4
    rw [hv]
    clear hown4 hv
    have HAw4 := Lib.hid (HAw.out.below hb4 (Nat.le_refl _))
    have HAa4 := Lib.hid (HA1.out.below (bt hbw hb4) (Nat.le_refl _))
    go_wp2_with fail
    refine (rput_n Hn.out HAa4.out (by intro h; have := HnA.out h; omega) (by omega)).mono ?_
    rintro e w5 ⟨v5, rfl, hown5, hb5⟩
    obtain ⟨A5, cap5, rfl, hB5, hcap5, hn5⟩ := own_len hown5
    have HB5 := Lib.hid hB5
    have Hn5 := Lib.hid hn5
    clear hB5 hn5 hown5 hcap5
    have HAw5 := Lib.hid (HAw4.out.below hb5 (Nat.le_refl _))
    go_wp2_with fail
    refine (same_n rfl rfl HB5.out Hn5.out HAw5.out HnA.out).mono ?_
    rintro e w' ⟨rfl, rfl⟩
    rw [Hps.out]
    go_wp2_with (go_at_call 14; refine (works_any _).mono ?_; rintro e w' ⟨rfl, hb⟩)
    go_ret
    exact ⟨rfl, bt (bt (bt hbw hb4) hb5) hb⟩
  · rw [if_pos rfl] at hown4
    obtain ⟨A4, cap4, rfl, hB4, hcap4, hn4⟩ := own_len hown4
    have HB4 := Lib.hid hB4
    have Hn4 := Lib.hid hn4
    clear hB4 hn4 hown4 hcap4
    have HAw4 := Lib.hid (HAw.out.below hb4 (Nat.le_refl _))
    have HAa4 := Lib.hid (HA1.out.below (bt hbw hb4) (Nat.le_refl _))
    go_wp2_with fail
    refine (rput_n Hn.out HAa4.out (by intro h; have := HnA.out h; omega) (by omega)).mono ?_
    rintro e w5 ⟨v5, rfl, hown5, hb5⟩
    obtain ⟨A5, cap5, rfl, hB5, hcap5, hn5⟩ := own_len hown5
    have HB5 := Lib.hid hB5
    have Hn5 := Lib.hid hn5
    clear hB5 hn5 hown5 hcap5
    have HAw5 := Lib.hid (HAw4.out.below hb5 (Nat.le_refl _))
    have HAa5 := Lib.hid (HAa4.out.below hb5 (Nat.le_refl _))
    have HB45 := Lib.hid (HB4.out.below hb5 (Nat.le_refl _))
    go_wp2_with fail
    refine (same_n rfl rfl HB5.out Hn5.out HAw5.out HnA.out).mono ?_
    rintro e w' ⟨rfl, rfl⟩
    rw [Hps.out]
    go_wp2_with fail
    refine (same_n (l := a) (l' := a) rfl Hn.out HB45.out Hn4.out HAa5.out (by intro h; have := HnA.out h; omega)).mono ?_
    rintro e w' ⟨rfl, rfl⟩
    rw [show (a == a) = true from beq_self_eq_true _]
    go_wp2_with (go_at_call 14; refine (works_any _).mono ?_; rintro e w' ⟨rfl, hb⟩)
    go_ret
    exact ⟨rfl, bt (bt (bt hbw hb4) hb5) hb⟩

theorem split4 {l : List UInt8} (h : 4 ≤ l.length) : ∃ a t0 t1 t2 t3, l = a ++ [t0, t1, t2, t3] := by
  have hd : (l.drop (l.length - 4)).length = 4 := by rw [List.length_drop]; omega
  match hx : l.drop (l.length - 4), hd with
  | [t0, t1, t2, t3], _ => exact ⟨l.take (l.length - 4), t0, t1, t2, t3, by rw [← hx, List.take_append_drop]⟩

theorem lawBack_big (A : Option Addr) (l : List UInt8) (cap : Nat) (w : World) (hl : l.length ≤ maxLen) (h : 2000 < l.length) :
    Calls Try.prog 5 #[.slice A l.length cap] w fun e w' => e = .returned (.bool true) ∧ Below w.heap.size w w' := by
  unfold maxLen at hl
  go_enter Try.func5, Try.ntmps5
  go_wp2_with (go_at_call 14; refine (works_any _).mono ?_; rintro e w' ⟨rfl, hb⟩)
  go_ret
  exact ⟨rfl, hb⟩

theorem walkBack (v0 : Value) (W : World) (h0 : VSat W (.slice (.int .u8)) false v0) :
    Calls Try.prog 5 #[v0] W fun e W' => e = .returned (.bool true) ∧ Below W.heap.size W W' := by
  obtain ⟨A, l, cap, rfl, hA, hl, hnA, hcap⟩ := open_bytes' h0
  by_cases h1 : 2000 < l.length
  · exact lawBack_big A l cap W hl h1
  by_cases h2 : l.length < 4
  · exact lawBack_short A l cap W hA hnA h2
  obtain ⟨a, t0, t1, t2, t3, hx⟩ := split4 (l := l) (by omega)
  exact lawBack_long A l a t0 t1 t2 t3 a.length cap W hx rfl hA hnA (by omega) hcap (by omega)
end Crc
end Go.Proofs.Ytpnafccedgjaeaa
