/-
  The law RouteChecks, walked and joined.
-/
import Derived.Test.YtgncngpgodfijaaRouL2
import Derived.Test.YtgncngpgodfijaaRouC2
import Derived.Deep.RegionHeld3
namespace Go.Proofs.Ytgncngpgodfijaa
open Go.RowKit
set_option linter.unusedVariables false
namespace Rou
theorem open_i64s {W : World} {v : Value} (h : VSat W (.slice (.int .i64)) false v) : ∃ (A : Option Addr) (L : List Int) (cap : Nat), v = .slice A L.length cap ∧ RdL W 0 W.heap.size A (L.map iv) ∧ (∀ x ∈ L, -9223372036854775808 ≤ x ∧ x ≤ 9223372036854775807) := by
  obtain ⟨A, L, cap, h1, h2, h3, _⟩ := open_slice_of (fun x : Int => [iv x]) (fun x => -9223372036854775808 ≤ x ∧ x ≤ 9223372036854775807) (.int .i64) 1 rfl (fun _ => rfl) (by decide) (by
    rintro cs ⟨i, rfl, hi⟩
    exact ⟨i, rfl, bounds_i64 hi⟩) h
  rw [flatMap_one] at h2
  exact ⟨A, L, cap, h1, h2, h3⟩
theorem open_field {W : World} {v : Value} (h : VSat W (.cat (.int .i64) (.cat (.int .i64) (.cat (.slice (.int .i64)) .unit))) true v) :
    ∃ (x y : Int) (A : Option Addr) (C : List Int) (cap : Nat), v = .agg #[.int .i64 x, .int .i64 y, .slice A C.length cap] ∧ RdL W 0 W.heap.size A (C.map iv) := by
  obtain ⟨cs, rfl, _, _, rfl, ⟨x, rfl, hx⟩, _, _, rfl, ⟨y, rfl, hy⟩, xs3, _, rfl, hsl, rfl⟩ := h
  have hsl' := hsl
  obtain ⟨A', len', cap', e, _⟩ := hsl'
  subst e
  have hv : VSat W (.slice (.int .i64)) false (.slice A' len' cap') := hsl
  obtain ⟨A, L, cap, e, h2, _⟩ := open_i64s hv
  injection e with e1 e2 e3
  subst e1 e2 e3
  exact ⟨x, y, _, L, _, rfl, h2⟩
theorem lawChecks_out (W H s t : Int) (A B : Option Addr) (n cap m cl : Nat) (h : 300 < n ∨ 100 < m) (w : World) :
    Calls Try.prog 10 #[.agg #[.int .i64 W, .int .i64 H, .slice A n cap], .int .i64 s, .int .i64 t, .slice B m cl] w (LawEnd w) := by
  by_cases h1 : 300 < n
  · have d1 : decide (300 < (n : Int)) = true := decide_eq_true (by omega)
    clear h
    go_enter Try.func10, Try.ntmps10
    go_wp2_with fail
    refine (works39_any _).mono ?_
    rintro e w1 ⟨rfl, hb⟩
    go_wp2
    go_ret
    exact ⟨rfl, bt (bl _ _) hb⟩
  · have d1 : decide (300 < (n : Int)) = false := decide_eq_false (by omega)
    have d2 : decide (100 < (m : Int)) = true := decide_eq_true (by omega)
    clear h
    go_enter Try.func10, Try.ntmps10
    go_wp2_with fail
    refine (works39_any _).mono ?_
    rintro e w1 ⟨rfl, hb⟩
    go_wp2
    go_ret
    exact ⟨rfl, bt (bl _ _) hb⟩
theorem CB.cells {w wr : World} {t : TypeId} {W H : Int} {n cap lo hi : Nat} {A B : Option Addr} {C L : List Int} (S : CB w t W H A n cap lo hi C B L wr) :
    wr.cell? ⟨w.heap.size, 0, none⟩ = some (.int .i64 W) ∧ wr.cell? ⟨w.heap.size, 1, none⟩ = some (.int .i64 H) ∧ wr.cell? ⟨w.heap.size, 2, none⟩ = some (.slice A n cap) := ⟨S.box.cell 0, S.box.cell 1, S.box.cell 2⟩
theorem CB.drew {w wr : World} {t : TypeId} {W H : Int} {n cap lo hi : Nat} {A B : Option Addr} {C L : List Int} (S : CB w t W H A n cap lo hi C B L wr) : CB w t W H A n cap lo hi C B L wr.drew := S.drewN 1
set_option maxRecDepth 100000 in
set_option maxHeartbeats 4000000 in
theorem lawChecks_core (W H s t : Int) (A B : Option Addr) (C L : List Int) (n cap m cl : Nat) (w : World) (hr : RdL w 0 w.heap.size A (C.map iv)) (hl : RdL w 0 w.heap.size B (L.map iv)) (hn : C.length = n) (hm : L.length = m) (hn1 : n ≤ 300) (hm1 : m ≤ 100) :
    Calls Try.prog 10 #[.agg #[.int .i64 W, .int .i64 H, .slice A n cap], .int .i64 s, .int .i64 t, .slice B m cl] w (LawEnd w) := by
  have d1 : decide (300 < (n : Int)) = false := decide_eq_false (by omega)
  have d2 : decide (100 < (m : Int)) = false := decide_eq_false (by omega)
  have hB := Blk.mk w 80 (fdc W H A n cap)
  have hS : CB w 80 W H A n cap 0 w.heap.size C B L (w.alloc (.cells (fdc W H A n cap).toArray 80)) := ⟨hB, hr.alloc _, hl.alloc _, bl w _, by simp⟩
  unfold fdc at hS
  have HS0 := Lib.hid hS
  have HN := Lib.hid hn
  have HM := Lib.hid hm
  clear hB hr hl hS hn hm
  obtain ⟨c, hc⟩ : ∃ c, c = code W H C := ⟨_, rfl⟩
  have HC := Lib.hid hc
  clear hc
  have hchk : ∀ X, CB w 80 W H A n cap 0 w.heap.size C B L X → Calls Try.prog 47 #[.agg #[.int .i64 W, .int .i64 H, .slice A n cap]] X fun e w' => e = .returned (.int .i64 c) ∧ Below X.heap.size X w' := fun X S => by
    have := ocheck_any (cap := cap) W H S.rd
    rw [HN.out, ← HC.out] at this
    exact this
  have huchk : ∀ X, CB w 80 W H A n cap 0 w.heap.size C B L X → Calls Try.prog 49 #[.agg #[.int .i64 W, .int .i64 H, .slice A n cap]] X fun e w' => e = .returned (.int .i64 c) ∧ Below X.heap.size X w' := fun X S => by
    have := ucheck_any (cap := cap) W H S.rd
    rw [HN.out, ← HC.out] at this
    exact this
  obtain ⟨k, hk⟩ : ∃ k, k = costV W H C L := ⟨_, rfl⟩
  have hoc : ∀ X, CB w 80 W H A n cap 0 w.heap.size C B L X → Calls Try.prog 50 #[.agg #[.int .i64 W, .int .i64 H, .slice A n cap], .slice B m cl] X (GotN X k) := fun X S => by
    have := ocost_any (cap := cap) (cl := cl) W H S.rd S.rl (by rw [HM.out]; omega)
    rw [HN.out, HM.out, ← hk] at this
    exact this
  have huc : ∀ X, CB w 80 W H A n cap 0 w.heap.size C B L X → Calls Try.prog 51 #[.agg #[.int .i64 W, .int .i64 H, .slice A n cap], .slice B m cl] X (GotN X k) := fun X S => by
    have := ucost_any (cap := cap) (cl := cl) W H S.rd S.rl (by rw [HM.out]; omega)
    rw [HN.out, HM.out, ← hk] at this
    exact this
  clear hk
  have dc : (c != c) = false := by rw [bne_eq_false_iff_eq]
  have dk : (k != k) = false := by rw [bne_eq_false_iff_eq]
  go_enter Try.func10, Try.ntmps10
  go_wp2_with fail
  refine (own_any _ _ _ _ _).mono ?_
  rintro e w1 ⟨rfl, hb⟩
  have HS1 := Lib.hid (HS0.out.next hb)
  clear hb HS0
  go_wp2_with fail
  refine (hchk _ HS1.out).mono ?_
  rintro e w2 ⟨rfl, hb⟩
  have HS2 := Lib.hid (HS1.out.next hb)
  obtain ⟨p0, p1, p2⟩ := HS2.out.cells
  clear hb HS1 hchk
  go_upto_region 4 with fail
  go_cut [9, 41] (fun s9 s41 wx => s9 = .int .i64 c ∧ s41 = .bool false ∧ CB w 80 W H A n cap 0 w.heap.size C B L wx)
  case first =>
    go_wp2_with fail
    go_region_held3 (fun w' => CB w 80 W H A n cap 0 w.heap.size C B L w' ∧ w'.cell? ⟨w.heap.size, 0, none⟩ = some (.int .i64 W) ∧ w'.cell? ⟨w.heap.size, 1, none⟩ = some (.int .i64 H) ∧ w'.cell? ⟨w.heap.size, 2, none⟩ = some (.slice A n cap))
      (first
        | exact ⟨HS2.out.drew, HS2.out.drew.cells⟩
        | assumption
        | exact ⟨CB.next (And.left ‹CB _ _ _ _ _ _ _ _ _ _ _ _ _ ∧ _›) (by assumption), (CB.next (And.left ‹CB _ _ _ _ _ _ _ _ _ _ _ _ _ ∧ _›) (by assumption)).cells⟩)
      (first
        | (go_at_call 49; (with_reducible refine (huchk _ (And.left ‹CB _ _ _ _ _ _ _ _ _ _ _ _ _ ∧ _›)).mono ?_); rintro e w' ⟨rfl, hb⟩)
        | (go_at_call 48; (with_reducible refine (own_any _ _ _ _ _).mono ?_); rintro e w' ⟨rfl, hb⟩)
        | (go_at_call 50; (with_reducible refine (hoc _ (And.left ‹CB _ _ _ _ _ _ _ _ _ _ _ _ _ ∧ _›)).mono ?_); rintro e w' ⟨rfl, hb⟩)
        | (go_at_call 51; (with_reducible refine (huc _ (And.left ‹CB _ _ _ _ _ _ _ _ _ _ _ _ _ ∧ _›)).mono ?_); rintro e w' ⟨rfl, hb⟩))
    all_goals
      have hfin := And.left ‹CB _ _ _ _ _ _ _ _ _ _ _ _ _ ∧ _›
      go_wp2_with fail
      go_meet
      exact ⟨rfl, rfl, hfin⟩
  obtain ⟨rfl, rfl, hS⟩ := hcut
  have HS3 := Lib.hid hS
  clear hS huchk hoc huc p0 p1 p2 HS2 dc dk
  obtain ⟨p0, p1, p2⟩ := HS3.out.cells
  go_wp2_with fail
  refine (own_any _ _ _ _ _).mono ?_
  rintro e w3 ⟨rfl, hb⟩
  have HS4 := Lib.hid (HS3.out.next hb)
  have hre := reach_any (cap := cap) W H s HS4.out.rd (by have := HS4.out.sz; omega)
  rw [HN.out] at hre
  clear hb HS3 p0 p1 p2
  go_wp2_with fail
  refine hre.mono ?_
  rintro e w4 ⟨v, rfl, hb, hv, hx4⟩
  clear hx4
  have HS5 := Lib.hid (HS4.out.next hb)
  have HV := Lib.hid hv
  obtain ⟨rc, hrc⟩ : ∃ rc, rc = rcode W H C s := ⟨_, rfl⟩
  rw [← hrc] at HV ⊢
  have HRC := Lib.hid hrc
  clear hb hre HS4 hv hrc
  obtain ⟨p0, p1, p2⟩ := HS5.out.cells
  go_wp2_with fail
  refine (own_any _ _ _ _ _).mono ?_
  rintro e w5 ⟨rfl, hb⟩
  have HS6 := Lib.hid (HS5.out.next hb)
  have hfd := find_any (cap := cap) W H s t HS6.out.rd (by have := HS6.out.sz; omega)
  rw [HN.out] at hfd
  clear hb HS5 p0 p1 p2
  go_wp2_with fail
  refine hfd.mono ?_
  rintro e w6 ⟨v2, d, fc, rfl, hb, hor⟩
  have HS7 := Lib.hid (HS6.out.next hb)
  clear hb hfd HS6
  have HOR := Lib.hid (show (fcode W H C s t ≠ 0 ∧ v2 = .slice none 0 0 ∧ d = 0 ∧ fc = fcode W H C s t) ∨ (fcode W H C s t = 0 ∧ (fc = 7 ∨ fc = 0)) by
    rcases hor with h | ⟨h, D, K, r, _, ⟨_, _, _, h7⟩ | ⟨_, _, h0, _⟩⟩
    · exact .inl h
    · exact .inr ⟨h, .inl h7⟩
    · exact .inr ⟨h, .inr h0⟩)
  clear hor
  obtain ⟨p0, p1, p2⟩ := HS7.out.cells
  have HW := Lib.hid works39_any
  by_cases h0 : c = 0
  · have d0 : (c != 0) = false := by rw [bne_eq_false_iff_eq]; exact h0
    have HC0 := Lib.hid h0
    clear h0
    by_cases h1 : s < 0 ∨ (n : Int) ≤ s
    · have hr9 : rcode W H C s = 9 := by unfold rcode; rw [← HC.out, if_neg (by rw [HC0.out]; decide), if_pos (by rw [HN.out]; exact h1)]
      have hf9 : fcode W H C s t = 9 := by unfold fcode; rw [← HC.out, if_neg (by rw [HC0.out]; decide), if_pos (by rw [HN.out]; omega)]
      obtain rfl : rc = 9 := HRC.out.trans hr9
      obtain rfl : v = .slice none 0 0 := HV.out (by decide)
      obtain ⟨_, rfl, rfl, hfc⟩ : fcode W H C s t ≠ 0 ∧ v2 = .slice none 0 0 ∧ d = 0 ∧ fc = fcode W H C s t := by
        rcases HOR.out with h | ⟨h, _⟩
        · exact h
        · rw [hf9] at h; exact absurd h (by decide)
      obtain rfl : fc = 9 := hfc.trans hf9
      clear hr9 hf9 hfc
      by_cases h2 : s < 0
      · have e1 : decide (s < 0) = true := decide_eq_true h2
        clear h1
        go_wp2_with fail
        refine (HW.out _).mono ?_
        rintro e w7 ⟨rfl, hb⟩
        go_wp2
        go_ret
        exact ⟨rfl, bt HS7.out.keep hb⟩
      · have e1 : decide (s < 0) = false := decide_eq_false h2
        have e2 : decide ((n : Int) ≤ s) = true := decide_eq_true (by omega)
        clear h1
        go_wp2_with fail
        refine (HW.out _).mono ?_
        rintro e w7 ⟨rfl, hb⟩
        go_wp2
        go_ret
        exact ⟨rfl, bt HS7.out.keep hb⟩
    · have e1 : decide (s < 0) = false := decide_eq_false (by omega)
      have e2 : decide ((n : Int) ≤ s) = false := decide_eq_false (by omega)
      have hr9 : rcode W H C s = 0 := by unfold rcode; rw [← HC.out, if_neg (by rw [HC0.out]; decide), if_neg (by rw [HN.out]; exact h1)]
      obtain rfl : rc = 0 := HRC.out.trans hr9
      by_cases h2 : t < 0 ∨ (n : Int) ≤ t
      · have hf9 : fcode W H C s t = 9 := by unfold fcode; rw [← HC.out, if_neg (by rw [HC0.out]; decide), if_pos (by rw [HN.out]; omega)]
        obtain ⟨_, rfl, rfl, hfc⟩ : fcode W H C s t ≠ 0 ∧ v2 = .slice none 0 0 ∧ d = 0 ∧ fc = fcode W H C s t := by
          rcases HOR.out with h | ⟨h, _⟩
          · exact h
          · rw [hf9] at h; exact absurd h (by decide)
        obtain rfl : fc = 9 := hfc.trans hf9
        clear hr9 hf9 hfc
        by_cases h3 : t < 0
        · have e3 : decide (t < 0) = true := decide_eq_true h3
          clear h1 h2
          go_wp2_with fail
          refine (HW.out _).mono ?_
          rintro e w7 ⟨rfl, hb⟩
          go_wp2
          go_ret
          exact ⟨rfl, bt HS7.out.keep hb⟩
        · have e3 : decide (t < 0) = false := decide_eq_false h3
          have e4 : decide ((n : Int) ≤ t) = true := decide_eq_true (by omega)
          clear h1 h2
          go_wp2_with fail
          refine (HW.out _).mono ?_
          rintro e w7 ⟨rfl, hb⟩
          go_wp2
          go_ret
          exact ⟨rfl, bt HS7.out.keep hb⟩
      · have e3 : decide (t < 0) = false := decide_eq_false (by omega)
        have e4 : decide ((n : Int) ≤ t) = false := decide_eq_false (by omega)
        have hf9 : fcode W H C s t = 0 := by unfold fcode; rw [← HC.out, if_neg (by rw [HC0.out]; decide), if_neg (by rw [HN.out]; omega)]
        have hfc : fc = 7 ∨ fc = 0 := by
          rcases HOR.out with ⟨h, _⟩ | ⟨_, h⟩
          · exact absurd hf9 h
          · exact h
        clear hr9 hf9 h1 h2
        rcases hfc with rfl | rfl
        · go_wp2_with fail
          refine (HW.out _).mono ?_
          rintro e w7 ⟨rfl, hb⟩
          go_wp2
          go_ret
          exact ⟨rfl, bt HS7.out.keep hb⟩
        · go_wp2_with fail
          refine (HW.out _).mono ?_
          rintro e w7 ⟨rfl, hb⟩
          go_wp2
          go_ret
          exact ⟨rfl, bt HS7.out.keep hb⟩
  · have d0 : (c != 0) = true := by rw [bne_iff_ne]; exact h0
    have hr9 : rcode W H C s = c := by unfold rcode; rw [← HC.out, if_pos h0]
    have hf9 : fcode W H C s t = c := by unfold fcode; rw [← HC.out, if_pos h0]
    obtain rfl : rc = c := HRC.out.trans hr9
    obtain rfl : v = .slice none 0 0 := HV.out h0
    obtain ⟨_, rfl, rfl, hfc⟩ : fcode W H C s t ≠ 0 ∧ v2 = .slice none 0 0 ∧ d = 0 ∧ fc = fcode W H C s t := by
      rcases HOR.out with h | ⟨h, _⟩
      · exact h
      · rw [hf9] at h; exact absurd h h0
    obtain rfl : fc = rc := hfc.trans hf9
    have dd1 : (fc == fc) = true := beq_self_eq_true _
    clear hr9 hf9 hfc
    go_wp2_with fail
    refine (HW.out _).mono ?_
    rintro e w7 ⟨rfl, hb⟩
    go_wp2
    go_ret
    exact ⟨rfl, bt HS7.out.keep hb⟩
theorem walkChecks (v0 v1 v2 v3 : Value) (W : World) (h0 : VSat W (.cat (.int .i64) (.cat (.int .i64) (.cat (.slice (.int .i64)) .unit))) true v0) (h1 : VSat W (.int .i64) false v1) (h2 : VSat W (.int .i64) false v2) (h3 : VSat W (.slice (.int .i64)) false v3) :
    Calls Try.prog 10 #[v0, v1, v2, v3] W fun e W' => e = .returned (.bool true) ∧ Below W.heap.size W W' := by
  obtain ⟨x, y, A, C, cap, rfl, hr⟩ := open_field h0
  obtain ⟨s, e, _⟩ := h1
  injection e with e
  subst e
  obtain ⟨t, e, _⟩ := h2
  injection e with e
  subst e
  obtain ⟨B, L, cl, rfl, hl, _⟩ := open_i64s h3
  by_cases h : 300 < C.length ∨ 100 < L.length
  · exact lawChecks_out x y s t A B C.length cap L.length cl h W
  · exact lawChecks_core x y s t A B C L C.length cap L.length cl W hr hl rfl rfl (by omega) (by omega)
end Rou
end Go.Proofs.Ytgncngpgodfijaa
