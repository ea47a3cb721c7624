/-
  The walks of package text: a number's digits, the last one first, turned round.
-/
import Derived.Test.YtijijfggppnbpaaTxtW2
import Derived.Deep.DeepCutAuto
import Derived.Deep.RegionHeld3
namespace Go.Proofs.Ytijijfggppnbpaa
open Go.RowKit
set_option linter.unusedVariables false
namespace Txt

theorem dig_step (m : Int) (hm : m ≠ 0) (h1 : -9223372036854775808 ≤ m) (h2 : m ≤ 9223372036854775807) (D R : List UInt8) (h : digs m.natAbs ++ R = D) :
    (m.tdiv 10 = 0 → UInt8.ofNat (48 + m.natAbs % 10) :: R = D) ∧ (m.tdiv 10 ≠ 0 → digs (m.tdiv 10).natAbs ++ (UInt8.ofNat (48 + m.natAbs % 10) :: R) = D) ∧ (m.tdiv 10).natAbs = m.natAbs / 10 := by
  have e : (m.tdiv 10).natAbs = m.natAbs / 10 := by rw [Int.natAbs_tdiv]; rfl
  refine ⟨fun h0 => ?_, fun h0 => ?_, e⟩
  · have : m.natAbs < 10 := by rw [h0] at e; simp at e; omega
    rw [digs_one this] at h
    rw [Nat.mod_eq_of_lt this]
    exact h
  · have : ¬ m.natAbs < 10 := fun hlt => h0 (by rw [Nat.div_eq_of_lt hlt] at e; exact Int.natAbs_eq_zero.1 e)
    rw [digs_more this, List.append_assoc] at h
    rw [e]
    exact h
theorem own_succ {w : World} {base n size : Nat} {e : TypeId} {v : Value} {l : List Value} (h : w.ownsRow base e size v n l) (hn : 0 < n) : ∃ g cap, v = .slice (some ⟨g, 0, none⟩) n cap := by
  rcases h.2 with ⟨_, h0⟩ | ⟨g, cap, cur, rfl, _⟩
  · omega
  · exact ⟨g, cap, rfl⟩
/-- a row of bytes whose first and last ones have changed places, so many -/
def rv (L : List UInt8) (t : Nat) : List UInt8 := (List.range L.length).map fun j => if j < t ∨ L.length - t ≤ j then L.getD (L.length - 1 - j) 0 else L.getD j 0
theorem rv_len (L : List UInt8) (t : Nat) : (rv L t).length = L.length := by simp [rv]
theorem rv_at (L : List UInt8) (t j : Nat) (h : j < L.length) : (rv L t)[j]? = some (if j < t ∨ L.length - t ≤ j then L.getD (L.length - 1 - j) 0 else L.getD j 0) := by simp [rv, h]
theorem rv_zero (L : List UInt8) : rv L 0 = L := by
  apply List.ext_getElem?
  intro j
  by_cases h : j < L.length
  · rw [rv_at L 0 j h, if_neg (by omega), List.getD_eq_getElem?_getD, List.getElem?_eq_getElem h]
    rfl
  · rw [List.getElem?_eq_none (by rw [rv_len]; omega), List.getElem?_eq_none (by omega)]
theorem rv_end (L : List UInt8) (t : Nat) (h1 : 2 * t ≤ L.length) (h2 : L.length ≤ 2 * t + 1) : rv L t = L.reverse := by
  apply List.ext_getElem?
  intro j
  by_cases h : j < L.length
  · rw [rv_at L t j h, List.getElem?_reverse h]
    have hx : L.length - 1 - j < L.length := by omega
    by_cases hj : j < t ∨ L.length - t ≤ j
    · rw [if_pos hj, List.getD_eq_getElem?_getD, List.getElem?_eq_getElem hx]
      rfl
    · rw [if_neg hj, List.getD_eq_getElem?_getD, show L.length - 1 - j = j by omega, List.getElem?_eq_getElem h]
      rfl
  · rw [List.getElem?_eq_none (by rw [rv_len]; omega), List.getElem?_eq_none (by rw [List.length_reverse]; omega)]
theorem rv_step (L : List UInt8) (t k : Nat) (hk : k = L.length - 1 - t) (h : t < k) :
    ((rv L t).set t ((rv L t).getD k 0)).set k ((rv L t).getD t 0) = rv L (t + 1) := by
  have ht : (rv L t).getD t 0 = L.getD t 0 := by rw [List.getD_eq_getElem?_getD, rv_at L t t (by omega), if_neg (by omega)]; rfl
  have hk2 : (rv L t).getD k 0 = L.getD k 0 := by rw [List.getD_eq_getElem?_getD, rv_at L t k (by omega), if_neg (by omega)]; rfl
  rw [ht, hk2]
  apply List.ext_getElem?
  intro j
  by_cases hj : j < L.length
  · rw [rv_at L (t + 1) j hj, List.getElem?_set, List.getElem?_set, rv_at L t j hj]
    by_cases e1 : k = j
    · subst e1
      rw [if_pos rfl, if_pos (by rw [List.length_set, rv_len]; omega), if_pos (.inr (by omega)), show L.length - 1 - k = t by omega]
    · rw [if_neg e1]
      by_cases e2 : t = j
      · subst e2
        rw [if_pos rfl, if_pos (by rw [rv_len]; omega), if_pos (.inl (by omega)), ← hk]
      · rw [if_neg e2]
        by_cases e3 : j < t ∨ L.length - t ≤ j
        · rw [if_pos e3, if_pos (by omega)]
        · rw [if_neg e3, if_neg (by omega)]
  · rw [List.getElem?_eq_none (by rw [List.length_set, List.length_set, rv_len]; omega), List.getElem?_eq_none (by rw [rv_len]; omega)]
set_option maxRecDepth 100000 in
set_option maxHeartbeats 1000000 in
theorem xNumber_any (x : Int) (h1 : -9223372036854775808 ≤ x) (h2 : x ≤ 9223372036854775807) (w : World) :
    Calls Try.prog 28 #[.int .i64 x] w fun e w' => e = .returned (.string (tx (numL x))) ∧ Below w.heap.size w w' := by
  obtain ⟨i0, hi, hz0, hz1, hz2⟩ := info_parts infoByte
  by_cases hx0 : x = 0
  · subst hx0
    go_enter Try.func28, Try.ntmps28
    go_wp2_with fail
    go_ret
    have hz : tx (numL 0) = tx [48] := by congr 1; unfold numL; rw [if_neg (by decide)]; exact digs_zero
    exact ⟨by rw [hz]; rfl, Below.refl _ _⟩
  · have d0 : (x == 0) = false := beq_eq_false_iff_ne.2 hx0
    have hdl : (digs x.natAbs).length ≤ 19 := digs_len 18 _ (by omega)
    go_enter Try.func28, Try.ntmps28
    go_wp2_with fail
    go_loopw [3, 4, 5] (fun v n _ wr => ∃ (ds : List UInt8) (m : Int), n = .int .i64 m ∧ -9223372036854775808 ≤ m ∧ m ≤ 9223372036854775807 ∧ wr.ownsRow w.heap.size 5 1 v ds.length (ds.map bv) ∧ Below w.heap.size w wr ∧ (m = 0 → ds.reverse = digs x.natAbs) ∧ (m ≠ 0 → digs m.natAbs ++ ds.reverse = digs x.natAbs)) (fun _ n _ _ => (intOf n).natAbs)
    case atStart => exact ⟨[], x, rfl, h1, h2, World.ownsRow_nil w _ _ _, Below.refl _ _, fun h => absurd h hx0, fun _ => List.append_nil _⟩
    case round =>
      obtain ⟨ds, m, rfl, m1, m2, hown, hb, hr0, hr1⟩ := hrel
      have Hown := Lib.hid hown
      have Hb := Lib.hid hb
      clear hown hb
      by_cases hm : m = 0
      · subst hm
        have hr := hr0 rfl
        have hlen : 1 ≤ ds.length := by have := congrArg List.length hr; rw [List.length_reverse] at this; have := digs_pos x.natAbs; omega
        have hlen2 : ds.length ≤ 19 := by have := congrArg List.length hr; rw [List.length_reverse] at this; omega
        have Hr := Lib.hid hr
        clear hr hr0 hr1
        by_cases hxn : x < 0
        · have hsz := Hb.out.size
          go_wp2_with (at_builtin; refine wpList_append_own _ rfl _ _ 26 rfl w.heap.size 5 i0 (.int .u8 0) 1 1 Try.underlying26 hi hz0 hz1 hz2 rfl (by decide) _ _ _ rfl (Hown.out.alloc _) ⟨wr.heap.size, 0, none⟩ 1 1 [.int .u8 45] rfl rfl (cell_one_new _ _ _) (by simp [Value.oneCell']) (by unfold maxLen; omega) (by omega) (by simp; omega) ?_; intro v' w2 hown2 hgrow _; obtain ⟨g, cap, rfl⟩ := own_succ hown2 (by omega); have Hown2 := Lib.hid hown2; have Hgrow := Lib.hid hgrow; clear hown2 hgrow)
          have hbl : Below w.heap.size w w2 := (Hb.out.alloc hsz _).grown Hgrow.out (by simp; omega) fun q hq => (own_lt Hown.out hq).1
          obtain ⟨L, hL⟩ : ∃ L, L = ds ++ [45] := ⟨_, rfl⟩
          have hLr : L.reverse = numL x := by rw [hL, List.reverse_append, Hr.out]; unfold numL; rw [if_pos hxn]; rfl
          have hown : w2.ownsRow w.heap.size 5 1 (.slice (some ⟨g, 0, none⟩) (ds.length + 1) cap) (ds.length + 1) (L.map bv) := by rw [hL, List.map_append]; exact Hown2.out
          have hLn : L.length = ds.length + 1 := by rw [hL, List.length_append]; rfl
          have hn20 : ds.length + 1 ≤ 20 := by omega
          generalize hnd : ds.length + 1 = n at *
          have Hnd : Hid ((ds.length : Int) = (n : Int) - 1) := Lib.hid (by omega)
          clear hnd
          clear Hown Hown2 Hgrow Hb Hr
          have HO := Lib.hid hown
          have HB := Lib.hid hbl
          have HL := Lib.hid hLr
          have hn1 : IntKind.i64.wrap ((n : Int) - 1) = (n : Int) - 1 := IntWalk.i64_in _ (by omega)
          clear hown hbl hLr
          go_wp2_with fail
          go_loopw [6, 7] (fun i k wr => ∃ t : Nat, 2 * t ≤ n ∧ i = .int .i64 (t : Int) ∧ k = .int .i64 ((n : Int) - 1 - (t : Int)) ∧ wr.ownsRow w.heap.size 5 1 (.slice (some ⟨g, 0, none⟩) n cap) n ((rv L t).map bv) ∧ Below w.heap.size w wr) (fun i _ _ => n - (intOf i).toNat)
          case atStart => exact ⟨0, by omega, rfl, by congr 1; have := Hnd.out; omega, by rw [rv_zero]; exact HO.out, HB.out⟩
          case round =>
            clear HO HB
            obtain ⟨t, ht, rfl, rfl, hown, hb⟩ := hrel
            have Hown := Lib.hid hown
            have Hb := Lib.hid hb
            clear hown hb
            by_cases hlt : (t : Int) < (n : Int) - 1 - (t : Int)
            · obtain ⟨k, hk⟩ : ∃ k, k = n - 1 - t := ⟨_, rfl⟩
              have hkI : (n : Int) - 1 - (t : Int) = (k : Int) := by omega
              have htk : t < k := by omega
              have hwg : w.heap.size ≤ g := (own_lt Hown.out rfl).1
              have ht1 : IntKind.i64.wrap ((t : Int) + 1) = (t : Int) + 1 := IntWalk.i64_in _ (by omega)
              have hk1 : IntKind.i64.wrap ((k : Int) - 1) = (k : Int) - 1 := IntWalk.i64_in _ (by omega)
              have i1 : (t : Int) < (n : Int) := by omega
              have i2 : (k : Int) < (n : Int) := by omega
              rw [hkI] at hlt ⊢
              have htn : t < (rv L t).length := by rw [rv_len, hLn]; omega
              have hkn : k < (rv L t).length := by rw [rv_len, hLn]; omega
              have rd := (own_rd Hown.out)
              obtain ⟨A0, cap0, e0, hrd, hnc, hcm, _⟩ := rd
              injection e0 with e1 _ e2
              subst e1 e2
              obtain ⟨b0, off0, e3, _, _, _, hcell⟩ := hrd.some (by rw [List.length_map]; omega)
              injection e3 with e3
              injection e3 with e4 e5
              subst e4 e5
              have c1 := hcell t _ (by rw [List.getElem?_map, List.getElem?_eq_getElem htn]; rfl)
              have c2 := hcell k _ (by rw [List.getElem?_map, List.getElem?_eq_getElem hkn]; rfl)
              rw [Nat.zero_add] at c1 c2
              have g1 := Hown.out.frozenAt t
              have g2 := Hown.out.frozenAt k
              have hst := rv_step L t k (by rw [hLn]; exact hk) htk
              rw [List.getD_eq_getElem?_getD, List.getElem?_eq_getElem hkn, List.getD_eq_getElem?_getD, List.getElem?_eq_getElem htn] at hst
              have o1 := (Hown.out.stored t (bv (rv L t)[k])).1
              have o2 := (o1.stored k (bv (rv L t)[t])).1
              rw [← List.map_set, ← List.map_set] at o2
              have O2 := Lib.hid o2
              have HST := Lib.hid hst
              have Hk := Lib.hid hkI
              clear hcell hrd o1 o2 hst hkI hk
              dsimp only [Option.getD_some] at HST
              unfold bv at c1 c2 O2
              generalize (rv L t)[t] = x1 at *
              generalize (rv L t)[k] = x2 at *
              go_wp2_with fail
              go_region
              go_wp2_with fail
              go_roundw
              case rel =>
                have o3 := O2.out
                rw [HST.out] at o3
                exact ⟨t + 1, by have := Hk.out; omega, by go_num, by congr 1; have := Hk.out; omega, o3, ((Hb.out.setCell hwg _).setCell hwg _).drew⟩
              case measure => simp [intOf]; omega
            · have hrv := rv_end L t (by omega) (by omega)
              rw [HL.out] at hrv
              obtain ⟨A0, cap0, e0, hrd, _, _, hA⟩ := own_rd Hown.out
              injection e0 with e1 _ e2
              subst e1 e2
              have hconv := conv_bytes (by rw [rv_len, hLn]) hrd hA
              rw [hrv] at hconv
              clear hrd hA hrv Hown
              go_wp2_with fail
              go_ret
              exact ⟨rfl, Hb.out⟩
        · obtain ⟨g, cap, hv⟩ := own_succ Hown.out (by omega)
          have hbl := Hb.out
          have hown0 := Hown.out
          subst hv
          obtain ⟨L, hL⟩ : ∃ L, L = ds := ⟨_, rfl⟩
          have hLr : L.reverse = numL x := by rw [hL, Hr.out]; unfold numL; rw [if_neg hxn]
          have hown : wr.ownsRow w.heap.size 5 1 (.slice (some ⟨g, 0, none⟩) ds.length cap) ds.length (L.map bv) := by rw [hL]; exact hown0
          have hLn : L.length = ds.length := by rw [hL]
          clear hown0
          have hn20 : ds.length ≤ 20 := by omega
          clear Hown Hb Hr
          have Hnd : Hid ((ds.length : Int) - 1 = (ds.length : Int) - 1) := Lib.hid rfl
          generalize ds.length = n at *
          have HO := Lib.hid hown
          have HB := Lib.hid hbl
          have HL := Lib.hid hLr
          have hn1 : IntKind.i64.wrap ((n : Int) - 1) = (n : Int) - 1 := IntWalk.i64_in _ (by omega)
          clear hown hbl hLr
          go_wp2_with fail
          go_loopw [6, 7] (fun i k wr => ∃ t : Nat, 2 * t ≤ n ∧ i = .int .i64 (t : Int) ∧ k = .int .i64 ((n : Int) - 1 - (t : Int)) ∧ wr.ownsRow w.heap.size 5 1 (.slice (some ⟨g, 0, none⟩) n cap) n ((rv L t).map bv) ∧ Below w.heap.size w wr) (fun i _ _ => n - (intOf i).toNat)
          case atStart => exact ⟨0, by omega, rfl, by congr 1; have := Hnd.out; omega, by rw [rv_zero]; exact HO.out, HB.out⟩
          case round =>
            clear HO HB
            obtain ⟨t, ht, rfl, rfl, hown, hb⟩ := hrel
            have Hown := Lib.hid hown
            have Hb := Lib.hid hb
            clear hown hb
            by_cases hlt : (t : Int) < (n : Int) - 1 - (t : Int)
            · obtain ⟨k, hk⟩ : ∃ k, k = n - 1 - t := ⟨_, rfl⟩
              have hkI : (n : Int) - 1 - (t : Int) = (k : Int) := by omega
              have htk : t < k := by omega
              have hwg : w.heap.size ≤ g := (own_lt Hown.out rfl).1
              have ht1 : IntKind.i64.wrap ((t : Int) + 1) = (t : Int) + 1 := IntWalk.i64_in _ (by omega)
              have hk1 : IntKind.i64.wrap ((k : Int) - 1) = (k : Int) - 1 := IntWalk.i64_in _ (by omega)
              have i1 : (t : Int) < (n : Int) := by omega
              have i2 : (k : Int) < (n : Int) := by omega
              rw [hkI] at hlt ⊢
              have htn : t < (rv L t).length := by rw [rv_len, hLn]; omega
              have hkn : k < (rv L t).length := by rw [rv_len, hLn]; omega
              have rd := (own_rd Hown.out)
              obtain ⟨A0, cap0, e0, hrd, hnc, hcm, _⟩ := rd
              injection e0 with e1 _ e2
              subst e1 e2
              obtain ⟨b0, off0, e3, _, _, _, hcell⟩ := hrd.some (by rw [List.length_map]; omega)
              injection e3 with e3
              injection e3 with e4 e5
              subst e4 e5
              have c1 := hcell t _ (by rw [List.getElem?_map, List.getElem?_eq_getElem htn]; rfl)
              have c2 := hcell k _ (by rw [List.getElem?_map, List.getElem?_eq_getElem hkn]; rfl)
              rw [Nat.zero_add] at c1 c2
              have g1 := Hown.out.frozenAt t
              have g2 := Hown.out.frozenAt k
              have hst := rv_step L t k (by rw [hLn]; exact hk) htk
              rw [List.getD_eq_getElem?_getD, List.getElem?_eq_getElem hkn, List.getD_eq_getElem?_getD, List.getElem?_eq_getElem htn] at hst
              have o1 := (Hown.out.stored t (bv (rv L t)[k])).1
              have o2 := (o1.stored k (bv (rv L t)[t])).1
              rw [← List.map_set, ← List.map_set] at o2
              have O2 := Lib.hid o2
              have HST := Lib.hid hst
              have Hk := Lib.hid hkI
              clear hcell hrd o1 o2 hst hkI hk
              dsimp only [Option.getD_some] at HST
              unfold bv at c1 c2 O2
              generalize (rv L t)[t] = x1 at *
              generalize (rv L t)[k] = x2 at *
              go_wp2_with fail
              go_region
              go_wp2_with fail
              go_roundw
              case rel =>
                have o3 := O2.out
                rw [HST.out] at o3
                exact ⟨t + 1, by have := Hk.out; omega, by go_num, by congr 1; have := Hk.out; omega, o3, ((Hb.out.setCell hwg _).setCell hwg _).drew⟩
              case measure => simp [intOf]; omega
            · have hrv := rv_end L t (by omega) (by omega)
              rw [HL.out] at hrv
              obtain ⟨A0, cap0, e0, hrd, _, _, hA⟩ := own_rd Hown.out
              injection e0 with e1 _ e2
              subst e1 e2
              have hconv := conv_bytes (by rw [rv_len, hLn]) hrd hA
              rw [hrv] at hconv
              clear hrd hA hrv Hown
              go_wp2_with fail
              go_ret
              exact ⟨rfl, Hb.out⟩
      · have hr := hr1 hm
        have hsl : ds.length ≤ 19 := by have := congrArg List.length hr; rw [List.length_append, List.length_reverse] at this; omega
        obtain ⟨s1, s2, s3⟩ := dig_step m hm m1 m2 _ _ hr
        obtain ⟨d, hd⟩ : ∃ d, m.tmod 10 = d := ⟨_, rfl⟩
        obtain ⟨q, hq⟩ : ∃ q, m.tdiv 10 = q := ⟨_, rfl⟩
        have hdn : d.natAbs = m.natAbs % 10 := by rw [← hd, Int.natAbs_tmod]; rfl
        rw [hq] at s1 s2 s3
        rw [← hdn] at s1 s2
        have S1 := Lib.hid s1
        have S2 := Lib.hid s2
        have hq3 : q.natAbs < m.natAbs := by omega
        have Hq3 := Lib.hid hq3
        have y1 : IntKind.i64.wrap d = d := IntWalk.i64_in _ (by omega)
        have y2 : IntKind.i64.wrap (-d) = -d := IntWalk.i64_in _ (by omega)
        have y3 : IntKind.i64.wrap q = q := IntWalk.i64_in _ (by omega)
        have hm0 : (m == 0) = false := beq_eq_false_iff_ne.2 hm
        have hc := ofN d.natAbs (by omega)
        have hsz := Hb.out.size
        generalize UInt8.ofNat (48 + d.natAbs) = c at *
        clear s1 s2 s3 hr hr0 hr1 hq3
        have hcl := c.toNat_lt
        have hsg : (0 ≤ d ∧ (c.toNat : Int) = 48 + d) ∨ (d < 0 ∧ (c.toNat : Int) = 48 + -d) := by omega
        clear hdn hc hcl
        rcases hsg with ⟨hs, hcv⟩ | ⟨hs, hcv⟩
        all_goals
          have Hcv := Lib.hid hcv
          have y5 : IntKind.u8.wrap (c.toNat : Int) = (c.toNat : Int) := IntWalk.u8_in _ (by have := c.toNat_lt; omega)
          clear hcv
        · have y4 : IntKind.i64.wrap (48 + d) = (c.toNat : Int) := by rw [← Hcv.out]; exact IntWalk.i64_in _ (by have := c.toNat_lt; omega)
          have hgt : ¬ (d < -d) := by omega
          go_wp2_with (at_builtin; refine wpList_append_own _ rfl _ _ 26 rfl w.heap.size 5 i0 (.int .u8 0) 1 1 Try.underlying26 hi hz0 hz1 hz2 rfl (by decide) _ _ _ rfl (Hown.out.alloc _) ⟨wr.heap.size, 0, none⟩ 1 1 [.int .u8 (c.toNat : Int)] rfl rfl (cell_one_new _ _ _) (by simp [Value.oneCell']) (by unfold maxLen; omega) (by omega) (by simp; omega) ?_; intro v' w2 hown2 hgrow _; have Hown2 := Lib.hid hown2; have Hgrow := Lib.hid hgrow; clear hown2 hgrow)
          go_roundw
          case rel =>
            refine ⟨ds ++ [c], q, rfl, by have := Hq3.out; omega, by have := Hq3.out; omega, ?_, ?_, fun h => ?_, fun h => ?_⟩
            · rw [List.map_append, List.length_append]; exact Hown2.out
            · exact (Hb.out.alloc hsz _).grown Hgrow.out (by simp; omega) fun q hq => (own_lt Hown.out hq).1
            · rw [List.reverse_append]; exact S1.out h
            · rw [List.reverse_append]; exact S2.out h
          case measure => have := Hq3.out; simp [intOf]; omega
        · have y4 : IntKind.i64.wrap (48 + -d) = (c.toNat : Int) := by rw [← Hcv.out]; exact IntWalk.i64_in _ (by have := c.toNat_lt; omega)
          have hgt : d < -d := by omega
          go_wp2_with (at_builtin; refine wpList_append_own _ rfl _ _ 26 rfl w.heap.size 5 i0 (.int .u8 0) 1 1 Try.underlying26 hi hz0 hz1 hz2 rfl (by decide) _ _ _ rfl (Hown.out.alloc _) ⟨wr.heap.size, 0, none⟩ 1 1 [.int .u8 (c.toNat : Int)] rfl rfl (cell_one_new _ _ _) (by simp [Value.oneCell']) (by unfold maxLen; omega) (by omega) (by simp; omega) ?_; intro v' w2 hown2 hgrow _; have Hown2 := Lib.hid hown2; have Hgrow := Lib.hid hgrow; clear hown2 hgrow)
          go_roundw
          case rel =>
            refine ⟨ds ++ [c], q, rfl, by have := Hq3.out; omega, by have := Hq3.out; omega, ?_, ?_, fun h => ?_, fun h => ?_⟩
            · rw [List.map_append, List.length_append]; exact Hown2.out
            · exact (Hb.out.alloc hsz _).grown Hgrow.out (by simp; omega) fun q hq => (own_lt Hown.out hq).1
            · rw [List.reverse_append]; exact S1.out h
            · rw [List.reverse_append]; exact S2.out h
          case measure => have := Hq3.out; simp [intOf]; omega
end Txt
end Go.Proofs.Ytijijfggppnbpaa
