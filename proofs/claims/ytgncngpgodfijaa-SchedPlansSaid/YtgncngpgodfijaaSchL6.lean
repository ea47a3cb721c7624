/-
  The walk of the law SchedPlans.
-/
import Derived.Test.YtgncngpgodfijaaSchV
namespace Go.Proofs.Ytgncngpgodfijaa
open Go.RowKit
set_option linter.unusedVariables false
namespace Sch

set_option maxRecDepth 100000 in
set_option maxHeartbeats 2000000 in
theorem lawPlans_bad (A : Option Addr) (L : List Ti) (n cap : Nat) (room x : Int) (w : World) (hrd : RdL w 0 w.heap.size A (L.flatMap tic)) (hl : L.length = n) (hn : n ≤ 100) (hx : code L room = x) (hx0 : x ≠ 0) :
    Calls Try.prog 6 #[.slice A n cap, .int .i64 room] w fun e w' => e = .returned (.bool true) ∧ Below w.heap.size w w' := by
  have HL := Lib.hid hrd
  have Hl := Lib.hid hl
  have Hx := Lib.hid hx
  clear hrd hl hx
  have d100 : decide ((100 : Int) < (n : Int)) = false := decide_eq_false (by omega)
  have x1 : (x != 0) = true := by rw [bne_iff_ne]; exact hx0
  have hnm : n ≤ maxLen := by unfold maxLen; omega
  go_enter Try.func6, Try.ntmps6
  go_wp2_with fail
  refine (sown_any A L n cap _ _ w HL.out (Nat.le_refl _) Hl.out hn).mono ?_
  rintro e w1 ⟨⟨v1, rfl, hown1⟩, hb1⟩
  obtain ⟨A1, cap1, rfl, hr1, _, _, _⟩ := own_rd hown1
  have Hr1 := Lib.hid hr1
  have Hb1 := Lib.hid hb1
  clear hown1 hr1 hb1
  go_wp2_with fail
  refine (snew_bad A1 L n cap1 _ _ room w1 Hr1.out (Nat.le_refl _) Hl.out hnm x Hx.out hx0).mono ?_
  rintro e w2 ⟨rfl, hb2⟩
  have Hb2 := Lib.hid (_root_.Go.Proofs.Ytgncngpgodfijaa.bt Hb1.out hb2)
  clear hb2 Hb1 Hr1
  go_wp2_with fail
  refine (gcheck_any A L n cap _ _ room w2 (HL.out.next Hb2.out) Hl.out hnm).mono ?_
  rw [Hx.out]
  rintro e w3 ⟨rfl, rfl⟩
  go_wp2_with fail
  refine (sown_any A L n cap _ _ w2 (HL.out.next Hb2.out) Hb2.out.size Hl.out hn).mono ?_
  rintro e w4 ⟨⟨v4, rfl, hown4⟩, hb4⟩
  obtain ⟨A4, cap4, rfl, hr4, _, _, _⟩ := own_rd hown4
  have Hr4 := Lib.hid hr4
  have Hb4 := Lib.hid (_root_.Go.Proofs.Ytgncngpgodfijaa.bt Hb2.out hb4)
  clear hown4 hr4 hb4 Hb2
  go_wp2_with fail
  refine (scheck_any A4 L n cap4 _ _ room w4 Hr4.out (Nat.le_refl _) Hl.out hnm).mono ?_
  rw [Hx.out]
  rintro e w5 ⟨rfl, hb5⟩
  have Hb5 := Lib.hid (_root_.Go.Proofs.Ytgncngpgodfijaa.bt Hb4.out hb5)
  clear hb5 Hb4
  go_wp2_with fail
  refine (sworks_any _).mono ?_
  rintro e w6 ⟨rfl, hb6⟩
  have Hb6 := Lib.hid (_root_.Go.Proofs.Ytgncngpgodfijaa.bt Hb5.out hb6)
  clear hb6
  go_wp2
  go_ret
  exact ⟨rfl, Hb6.out⟩
set_option maxRecDepth 100000 in
set_option maxHeartbeats 2000000 in
theorem lawPlans_ok (A : Option Addr) (T : List Tk) (n cap room : Nat) (w : World) (hrd : RdL w 0 w.heap.size A (T.flatMap tkc)) (hl : T.length = n) (hn : n ≤ 64) (hok : ∀ t ∈ T, okK t) (hroom : 1 ≤ room ∧ room ≤ 1048576) :
    Calls Try.prog 6 #[.slice A n cap, .int .i64 (room : Int)] w fun e w' => e = .returned (.bool true) ∧ Below w.heap.size w w' := by
  have HT := Lib.hid hrd
  have HL : Hid (RdL w 0 w.heap.size A ((T.map ti).flatMap tic)) := Lib.hid (by rw [ti_flat]; exact hrd)
  have Hl := Lib.hid hl
  have Hl2 : Hid ((T.map ti).length = n) := Lib.hid (by rw [List.length_map]; exact hl)
  have Hok := Lib.hid hok
  have Hx : Hid (code (T.map ti) (room : Int) = 0) := Lib.hid (code_ok hok (by omega) hroom)
  have Hroom := Lib.hid hroom
  clear hrd hl hok hroom
  have d100 : decide ((100 : Int) < (n : Int)) = false := decide_eq_false (by omega)
  have hnm : n ≤ maxLen := by unfold maxLen; omega
  have hn100 : n ≤ 100 := by omega
  go_enter Try.func6, Try.ntmps6
  go_wp2_with fail
  refine (sown_any A (T.map ti) n cap _ _ w HL.out (Nat.le_refl _) Hl2.out hn100).mono ?_
  rintro e w1 ⟨⟨v1, rfl, hown1⟩, hb1⟩
  obtain ⟨A1, cap1, rfl, hr1, _, _, _⟩ := own_rd hown1
  rw [ti_flat] at hr1
  have Hr1 := Lib.hid hr1
  have Hb1 := Lib.hid hb1
  clear hown1 hr1 hb1
  go_wp2_with fail
  refine (snew_ok A1 T n cap1 _ _ room w1 Hr1.out (Nat.le_refl _) Hl.out hn Hok.out Hroom.out).mono ?_
  rintro e w2 hgn
  unfold GotNew at hgn
  obtain ⟨hgn, hb2⟩ := hgn
  have Hb2 := Lib.hid (_root_.Go.Proofs.Ytgncngpgodfijaa.bt Hb1.out hb2)
  clear hb2 Hb1 Hr1
  obtain ⟨ph, hph⟩ : ∃ ph, ph = phases T room := ⟨_, rfl⟩
  rw [← hph] at hgn
  have Hph := Lib.hid hph.symm
  clear hph
  cases ph with
  | none =>
    obtain rfl := hgn
    go_wp2_with fail
    refine (gcheck_any A (T.map ti) n cap _ _ (room : Int) w2 (HL.out.next Hb2.out) Hl2.out hnm).mono ?_
    rw [Hx.out]
    rintro e w3 ⟨rfl, rfl⟩
    go_wp2_with fail
    refine (sown_any A (T.map ti) n cap _ _ w2 (HL.out.next Hb2.out) Hb2.out.size Hl2.out hn100).mono ?_
    rintro e w4 ⟨⟨v4, rfl, hown4⟩, hb4⟩
    obtain ⟨A4, cap4, rfl, hr4, _, _, _⟩ := own_rd hown4
    have Hr4 := Lib.hid hr4
    have Hb4 := Lib.hid (_root_.Go.Proofs.Ytgncngpgodfijaa.bt Hb2.out hb4)
    clear hown4 hr4 hb4 Hb2
    go_wp2_with fail
    refine (scheck_any A4 (T.map ti) n cap4 _ _ (room : Int) w4 Hr4.out (Nat.le_refl _) Hl2.out hnm).mono ?_
    rw [Hx.out]
    rintro e w5 ⟨rfl, hb5⟩
    have Hb5 := Lib.hid (_root_.Go.Proofs.Ytgncngpgodfijaa.bt Hb4.out hb5)
    clear hb5 Hb4
    go_wp2_with fail
    refine (gphases_any A T n cap room _ _ w5 (HT.out.next Hb5.out) Hb5.out.size Hl.out hn100 Hok.out Hroom.out.2).mono ?_
    unfold GotP
    rw [Hph.out]
    rintro e w6 ⟨rfl, hb6⟩
    have Hb6 := Lib.hid (_root_.Go.Proofs.Ytgncngpgodfijaa.bt Hb5.out hb6)
    clear hb6 Hb5
    go_wp2_with fail
    refine (sworks_any _).mono ?_
    rintro e w7 ⟨rfl, hb7⟩
    have Hb7 := Lib.hid (_root_.Go.Proofs.Ytgncngpgodfijaa.bt Hb6.out hb7)
    clear hb7
    go_wp2
    go_ret
    exact ⟨rfl, Hb7.out⟩
  | some ms =>
    obtain ⟨g, vt, vp, rfl, hg, hpb⟩ := hgn
    have Hpb := Lib.hid hpb
    clear hpb
    have hlaid := phases_laid Hph.out
    have hlen := hlaid.len
    rw [Hl.out] at hlen
    have Hlen := Lib.hid hlen
    clear hlaid hlen
    go_wp2_with fail
    refine (gcheck_any A (T.map ti) n cap _ _ (room : Int) w2 (HL.out.next Hb2.out) Hl2.out hnm).mono ?_
    rw [Hx.out]
    rintro e w3 ⟨rfl, rfl⟩
    go_wp2_with fail
    refine (sown_any A (T.map ti) n cap _ _ w2 (HL.out.next Hb2.out) Hb2.out.size Hl2.out hn100).mono ?_
    rintro e w4 ⟨⟨v4, rfl, hown4⟩, hb4⟩
    obtain ⟨A4, cap4, rfl, hr4, _, _, _⟩ := own_rd hown4
    have Hr4 := Lib.hid hr4
    have Hb4 := Lib.hid (_root_.Go.Proofs.Ytgncngpgodfijaa.bt Hb2.out hb4)
    have Hpb4 := Lib.hid (Hpb.out.next hb4)
    clear hown4 hr4 hb4 Hb2 Hpb
    go_wp2_with fail
    refine (scheck_any A4 (T.map ti) n cap4 _ _ (room : Int) w4 Hr4.out (Nat.le_refl _) Hl2.out hnm).mono ?_
    rw [Hx.out]
    rintro e w5 ⟨rfl, hb5⟩
    have Hb5 := Lib.hid (_root_.Go.Proofs.Ytgncngpgodfijaa.bt Hb4.out hb5)
    have Hpb5 := Lib.hid (Hpb4.out.next hb5)
    clear hb5 Hb4 Hpb4
    go_wp2_with fail
    refine (gphases_any A T n cap room _ _ w5 (HT.out.next Hb5.out) Hb5.out.size Hl.out hn100 Hok.out Hroom.out.2).mono ?_
    unfold GotP
    rw [Hph.out]
    rintro e w6 ⟨⟨v6, rfl, hown6⟩, hb6⟩
    obtain ⟨Am, capm, rfl, hrm, _, _, _⟩ := own_rd hown6
    rw [Hlen.out] at hown6
    have Hb6 := Lib.hid (_root_.Go.Proofs.Ytgncngpgodfijaa.bt Hb5.out hb6)
    have Hpb6 := Lib.hid (Hpb5.out.next hb6)
    have Hrm := Lib.hid hrm
    clear hown6 hb6 Hb5 Hpb5 hrm
    have hml := Hlen.out
    generalize hmm : ms.length = m at *
    subst hml
    have Hmm := Lib.hid hmm
    clear hmm
    go_wp2
    go_loopw [10, 11, 12] (fun i _ _ wr => ∃ j : Nat, j ≤ m ∧ i = .int .i64 (j : Int) ∧ wr = w6) (fun i _ _ _ => m - (intOf i).toNat)
    case atStart => exact ⟨0, by omega, rfl, rfl⟩
    case round =>
      obtain ⟨j, hj, rfl, rfl⟩ := hrel
      by_cases hlt : j < m
      · have hjl : j < ms.length := by rw [Hmm.out]; exact hlt
        obtain ⟨b, off, rfl, _, _, _, hc⟩ := Hrm.out.some (by rw [iv_len]; omega)
        have c0 := hc j _ (iv_get ms j hjl)
        clear hc
        have i1 : (j : Int) < (m : Int) := by omega
        go_wp2_with fail
        refine (sphase_in g vt vp T ms room j _ Hpb6.out hjl (by rw [Hmm.out]; omega)).mono ?_
        generalize ms[j] = k at *
        rintro e w7 ⟨rfl, rfl⟩
        go_wp2
        go_roundw
        case rel => exact ⟨j + 1, by omega, by go_num, by first | trivial | rfl⟩
        case measure => simp [intOf]; omega
      · obtain rfl : j = m := by omega
        go_wp2
        go_loopw [13] (fun i wr2 => ∃ a q : Nat, a ≤ 64 ∧ i = .int .i64 (a : Int) ∧ wr2 = World.drewN wr q) (fun i _ => 64 - (intOf i).toNat)
        case atStart => exact ⟨0, 0, by omega, rfl, rfl⟩
        case round =>
          rename_i wr0 _ _ _ _
          obtain ⟨a, q, ha, rfl, rfl⟩ := hrel
          by_cases ha64 : a < 64
          · have u1 : IntKind.u64.wrap (a : Int) = (a : Int) := IntWalk.u64_in _ (by omega)
            have ham : a % 64 = a := Nat.mod_eq_of_lt ha64
            go_wp2_with fail
            refine (sload_any g vt vp T ms room a _ (Hpb6.out.next (below_drewN (Below.refl _ _) q))).mono ?_
            rw [ham]
            rintro e w7 ⟨rfl, rfl⟩
            go_wp2_with fail
            refine (gload_any A Am T ms j cap j capm a _ _ _ _ _ ((HT.out.next Hb6.out).drewN q) (Hrm.out.drewN q) Hl.out Hmm.out (Nat.le_refl _) hn100 Hok.out ha64).mono ?_
            rintro e w8 ⟨rfl, q2, rfl⟩
            generalize load T ms a = x at *
            go_wp2
            go_roundw
            case rel => exact ⟨a + 1, q + q2, by omega, by go_num, by first | rfl | exact World.drewN_drewN _ _ _⟩
            case measure => simp [intOf]; omega
          · obtain rfl : a = 64 := by omega
            go_wp2_with fail
            refine (sphase_out g vt vp T ms room (j : Int) _ (Hpb6.out.next (below_drewN (Below.refl _ _) q)) (.inr (by have := Hmm.out; omega)) (by have := Hmm.out; omega)).mono ?_
            rintro e w7 ⟨rfl, rfl⟩
            go_wp2_with fail
            refine (sphase_out g vt vp T ms room (-1) _ (Hpb6.out.next (below_drewN (Below.refl _ _) q)) (.inl (by decide)) (by have := Hmm.out; omega)).mono ?_
            rintro e w7 ⟨rfl, rfl⟩
            go_wp2_with fail
            refine (sworks_any _).mono ?_
            rintro e w8 ⟨rfl, hb8⟩
            have Hb8 := Lib.hid ((below_drewN Hb6.out q).trans (hb8.mono (show w.heap.size ≤ (World.drewN _ q).heap.size from Hb6.out.size)))
            clear hb8
            go_wp2
            go_ret
            exact ⟨rfl, Hb8.out⟩
theorem walkPlans (v0 v1 : Value) (W : World) (h0 : VSat W (.slice TaskSh) false v0) (h1 : VSat W (.int .i64) false v1) :
    Calls Try.prog 6 #[v0, v1] W fun e W' => e = .returned (.bool true) ∧ Below W.heap.size W W' := by
  obtain ⟨A, L, cap, rfl, hrd, hp, hl, hm, _⟩ := open_tasks h0
  obtain ⟨room, e, hw⟩ := h1
  injection e with e
  subst e
  by_cases h100 : L.length ≤ 100
  · by_cases hx : code L room = 0
    · obtain ⟨T, r, rfl, rfl, hok, h64, hr⟩ := code_open hx
      rw [ti_flat] at hrd
      rw [List.length_map]
      exact lawPlans_ok A T T.length cap r W hrd rfl h64 hok hr
    · exact lawPlans_bad A L L.length cap room _ W hrd rfl h100 rfl hx
  · have i1 : (100 : Int) < (L.length : Int) := by omega
    generalize L.length = n at *
    clear hrd
    go_enter Try.func6, Try.ntmps6
    go_wp2_with fail
    refine (sworks_any _).mono ?_
    rintro e w3 ⟨rfl, hb3⟩
    go_wp2
    go_ret
    exact ⟨rfl, hb3⟩
end Sch
end Go.Proofs.Ytgncngpgodfijaa
