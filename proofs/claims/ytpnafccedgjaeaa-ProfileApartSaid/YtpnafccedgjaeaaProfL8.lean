/-
  The walk of the law ProfileApart.
-/
import Derived.Test.YtpnafccedgjaeaaProfA
import Derived.StillTailTactics
import Derived.Test.YtpnafccedgjaeaaProfR
namespace Go.Proofs.Ytpnafccedgjaeaa
open Go.RowKit
namespace Prof

set_option maxRecDepth 100000 in
set_option maxHeartbeats 4000000 in
theorem apart_any (A : Option Addr) (l : List Ac) (n cap m : Nat) (w : World) (ha : RdA w w.heap.size A l) (hl : l.length = n) (hn : n ≤ maxLen) (hm : m ≤ 65535) :
    Calls Try.prog 8 #[.int .u16 m, .slice A n cap] w fun e w' => e = .returned (.bool true) ∧ Below w.heap.size w w' := by
  have HA := Lib.hid ha
  have Hl := Lib.hid hl
  clear ha hl
  have hzv : ∀ w, (zeroValue 42).run Try.prog w = .ok (.agg (newCells 0)) w := fun _ => by kernel_rfl
  have hns := newCells_size 0
  unfold maxLen at hn
  by_cases h300 : n ≤ 300
  · have hcl : clamp (m : Int) = (m : Int) := clamp_id (by omega) (by omega)
    have hm2 : (m : Int) ≤ 65535 := by omega
    go_enter Try.func8, Try.ntmps8
    go_wp2_with fail
    refine (new_any (m : Int) _).mono ?_
    rintro e w1 ⟨rfl, hb1⟩
    rw [hcl]
    go_wp2_with (refine wpList_store_row rfl 42 _ _ rfl w1.heap.size (newCells _) rfl rfl 42 (newCells 0) (heap_alloc_new w1 _) (by rw [info42, newCells_size]) (by rw [newCells_size, newCells_size]) (newCells_one _) ?_)
    have hf := newCells_fits (m : Int)
    rw [hcl] at hf
    have hp : PB ((w1.alloc (.cells (newCells 0) 42)).setRow w1.heap.size (newCells (m : Int))) w1.heap.size (new (m : Int)) := row_set (heap_alloc_new w1 _) hf
    have hbw : Below w.heap.size w ((w1.alloc (.cells (newCells 0) 42)).setRow w1.heap.size (newCells (m : Int))) := (bt hb1 (bl w1 _)).trans ⟨rfl, rfl, rfl, by simp, fun k hk => setRow_other _ _ k _ (by have := hb1.size; omega)⟩
    have hgw := hb1.size
    generalize (w1.alloc (.cells (newCells 0) 42)).setRow w1.heap.size (newCells (m : Int)) = w2 at hp hbw ⊢
    generalize w1.heap.size = g at hp hgw ⊢
    clear hb1 hzv hns w1 hf hcl
    have Hp := Lib.hid hp
    clear hp
    go_wp2
    go_loopw [6] (fun i wr => ∃ (k : Nat) (p : Pr), k ≤ n ∧ i = .int .i64 k ∧ PB wr g p ∧ Ap (m : Int) p ∧ Below w.heap.size w wr) (fun i _ => n - (intOf i).toNat)
    case atStart => exact ⟨0, _, by omega, rfl, Hp.out, Ap.zero (by omega) (by omega), hbw⟩
    case round =>
      clear Hp hbw
      obtain ⟨k, p, hk, rfl, hp, hst, hbel⟩ := hrel
      have hgl := hp.lt
      by_cases hlt : k < n
      · have hkl : k < l.length := by rw [Hl.out]; exact hlt
        obtain ⟨b, off, rfl, a1, a2, a3, a4⟩ := (HA.out.below hbel).at hkl
        obtain ⟨⟨o1, o2⟩, _, _, ⟨o3, o4⟩⟩ := HA.out.1 k hkl
        generalize l[k] = a at *
        obtain ⟨kd, dx, dy, z⟩ := a
        dsimp only at *
        clear hkl
        have Hp := Lib.hid hp
        have Hst := Lib.hid hst
        clear hp hst
        have hgw2 := hbel.size
        by_cases hkd : kd < 2
        · go_wp2
          go_still_tail 10, (by kernel_rfl)
          change wpList _ _ _ _ _ wr.drew
          generalize hwd : wr.drew = w2
          have hbel2 : Below w.heap.size w w2 := by subst hwd; exact hbel.drew
          have Hp2 : Hid (PB w2 g p) := by subst hwd; exact Lib.hid Hp.out.drew
          have hgl2 := Hp2.out.lt
          clear hwd Hp hgl hbel hgw2
          go_wp2_with fail
          refine (move_val g p _ dx dy _ _ Hp2.out Hst.out.ok rfl rfl).mono ?_
          rintro e w3 ⟨rfl, hp3, hg3⟩
          have Hp3 := Lib.hid hp3
          clear hp3
          go_wp2
          go_roundw
          case rel => exact ⟨k + 1, _, by omega, by go_num, Hp3.out, Hst.out.move dx dy, bgrow hbel2 hg3 (by have := hbel2.size; omega) hgw⟩
          case measure => simp [intOf]; omega
        · by_cases hz1 : -1099511627776 ≤ z ∧ z ≤ 1099511627776
          · obtain ⟨hz1, hz2⟩ := hz1
            go_wp2_with fail
            refine (add_val g p _ z _ _ Hp.out Hst.out.ok rfl rfl).mono ?_
            rintro e w3 ⟨rfl, hp3, hg3⟩
            have Hp3 := Lib.hid hp3
            clear hp3
            go_wp2
            go_roundw
            case rel => exact ⟨k + 1, _, by omega, by go_num, Hp3.out, Hst.out.add hz1 hz2, bgrow hbel hg3 (by have := hbel.size; omega) hgw⟩
            case measure => simp [intOf]; omega
          · by_cases hz2 : z < -1099511627776
            · go_wp2
              go_roundw
              case rel => exact ⟨k + 1, _, by omega, by go_num, Hp.out, Hst.out, hbel⟩
              case measure => simp [intOf]; omega
            · have hz3 : 1099511627776 < z := by omega
              have hz4 : -1099511627776 ≤ z := by omega
              clear hz1 hz2
              go_wp2
              go_roundw
              case rel => exact ⟨k + 1, _, by omega, by go_num, Hp.out, Hst.out, hbel⟩
              case measure => simp [intOf]; omega
      · obtain rfl : k = n := by omega
        have Hst := Lib.hid hst
        have Hp := Lib.hid hp
        clear hst hp
        have hzb : ∀ s ∈ all p, zB s := Hst.out.z
        have Hzb := Lib.hid hzb
        clear hzb
        go_wp2_with fail
        refine (all_any g p _ Hp.out Hst.out.ok).mono ?_
        rintro e w3 ⟨⟨va, rfl, hown⟩, hb3⟩
        have Hp3 := Lib.hid (Hp.out.below hb3 hgl)
        have Hsteep := Lib.hid (fun w (hw : PB w g p) => steep_any g p w hw Hst.out.ok Hzb.out)
        have Hok := Lib.hid Hst.out.ok
        have Hfar := Lib.hid Hst.out.far
        have hal := ok_all Hst.out.ok
        have Hal := Lib.hid hal
        have h64 : (all p).length ≤ 64 := by rw [all_len]; exact Hst.out.ok.2.1
        have hbw3 := bt hbel hb3
        have hg3 : g < w3.heap.size := by have := hb3.size; omega
        clear hal Hp Hst hb3 hbel
        generalize all p = L at *
        obtain ⟨A', cap', rfl, hrd, _, _⟩ := hown.rd
        have Hrd := Lib.hid hrd
        clear hown hrd
        go_wp2
        go_loopw [8, 9, 10, 11] (fun s i _ _ wr => ∃ k : Nat, (k = 0 ∨ k + 1 ≤ L.length) ∧ i = .int .i64 ((k : Int) + 1) ∧ s = .int .i64 (steepTo L k) ∧ Below w3.heap.size w3 wr) (fun _ i _ _ _ => L.length + 1 - (intOf i).toNat)
        case atStart => exact ⟨0, .inl rfl, rfl, rfl, Below.refl _ _⟩
        case round =>
          obtain ⟨k, hkn, rfl, rfl, hb⟩ := hrel
          by_cases hlt : k + 1 < L.length
          · have hlti : (k : Int) + 1 < (L.length : Int) := by omega
            have hr := Hrd.out.below hb
            obtain ⟨q, rfl, hq, hc⟩ := hr.at (by omega)
            obtain ⟨c1, c2, c3⟩ := hc k (by omega)
            obtain ⟨d1, d2, d3⟩ := hc (k + 1) hlt
            clear hc hr
            have hf := Hfar.out k _ _ (List.getElem?_eq_getElem (by omega)) (List.getElem?_eq_getElem hlt)
            obtain ⟨⟨o1, o2⟩, ⟨o3, o4⟩, _⟩ := Hal.out L[k] (List.getElem_mem _)
            obtain ⟨⟨o5, o6⟩, ⟨o7, o8⟩, _⟩ := Hal.out L[k + 1] (List.getElem_mem _)
            rw [← zat_get] at c3 d3
            obtain ⟨z1, z2⟩ := zat_b L Hzb.out k
            obtain ⟨z3, z4⟩ := zat_b L Hzb.out (k + 1)
            obtain ⟨s1, s2⟩ := steep_b L Hzb.out k
            have hst : steepTo L (k + 1) = steepTo L k + max (zat L (k + 1) - zat L k) (-(zat L (k + 1) - zat L k)) := rfl
            have Hst := Lib.hid hst; clear hst
            generalize zat L (k + 1) = za at *
            generalize zat L k = zb at *
            generalize steepTo L k = sm at *
            generalize L[k] = u at *
            generalize L[k + 1] = v at *
            obtain ⟨ux, uy, uz⟩ := u
            obtain ⟨vx, vy, vz⟩ := v
            dsimp only at *
            have w0' : IntKind.i64.wrap ((k : Int) + 1 - 1) = (k : Int) := by rw [IntWalk.i64_in _ (by omega)]; omega
            have w1' : IntKind.i64.wrap (vx - ux) = vx - ux := IntWalk.i64_in _ (by omega)
            have w2' : IntKind.i64.wrap (vy - uy) = vy - uy := IntWalk.i64_in _ (by omega)
            have n1 : ((k : Int) + 1).toNat = k + 1 := by omega
            have n2 : (0 : Int) ≤ (k : Int) + 1 := by omega
            have n3 : (k : Int) < (L.length : Int) := by omega
            have hcs : ((m : Int) ≤ vx - ux) ∨ (vx - ux < m ∧ (m : Int) ≤ -(vx - ux)) ∨ (vx - ux < m ∧ -(vx - ux) < m ∧ (m : Int) ≤ vy - uy) ∨ (vx - ux < m ∧ -(vx - ux) < m ∧ vy - uy < m ∧ (m : Int) ≤ -(vy - uy)) := by
              simp only [nearS, Bool.and_eq_false_iff, decide_eq_false_iff_not] at hf
              omega
            clear hf
            have w3' : IntKind.i64.wrap (sm + za) = sm + za := IntWalk.i64_in _ (by omega)
            have w4' : IntKind.i64.wrap (sm + za - zb) = sm + za - zb := IntWalk.i64_in _ (by omega)
            have w5' : IntKind.i64.wrap (sm + zb) = sm + zb := IntWalk.i64_in _ (by omega)
            have w6' : IntKind.i64.wrap (sm + zb - za) = sm + zb - za := IntWalk.i64_in _ (by omega)
            rcases hcs with h1 | ⟨h1, h2⟩ | ⟨h1, h2, h3⟩ | ⟨h1, h2, h3, h4⟩
            all_goals
              by_cases hz : zb < za
              all_goals
                go_wp2
                go_quiet (fail)
                go_wp2
                go_quiet (fail)
                go_wp2
                go_quiet (fail)
                go_wp2
                go_roundw
                case rel => exact ⟨k + 1, .inr (by omega), by go_num, by rw [Hst.out]; congr 1; omega, below_drewN hb _⟩
                case measure => simp [intOf]; omega
          · have hnlt : ¬ ((k : Int) + 1 < (L.length : Int)) := by omega
            have e : L.length - 1 = k := by omega
            have hp4 := Hp3.out.below hb hg3
            have hs4 := Hsteep.out _ hp4
            unfold steep at hs4
            rw [e] at hs4
            clear hp4 e
            have Hs4 := Lib.hid hs4
            clear hs4
            generalize steepTo L k = sm at *
            go_wp2_with fail
            refine Hs4.out.mono ?_
            rintro e w5 ⟨rfl, hb5⟩
            go_wp2_with (go_at_call 23; refine (works_any _).mono ?_; rintro e w' ⟨rfl, hb'⟩)
            go_ret
            exact ⟨rfl, bt (bt (bt hbw3 hb) hb5) hb'⟩
  · have h300' : 300 < n := by omega
    go_enter Try.func8, Try.ntmps8
    go_wp2_with (go_at_call 23; refine (works_any _).mono ?_; rintro e w' ⟨rfl, hb⟩)
    go_ret
    exact ⟨rfl, hb⟩
theorem walkApart (v0 v1 : Value) (W : World) (h0 : VSat W (.int .u16) false v0) (h1 : VSat W (.slice AcSh) false v1) :
    Calls Try.prog 8 #[v0, v1] W fun e W' => e = .returned (.bool true) ∧ Below W.heap.size W W' := by
  obtain ⟨A, l, cap, rfl, hl, hm⟩ := open_acts h1
  obtain ⟨n, e, hw⟩ := h0
  injection e with e
  subst e
  have := bounds_u16 hw
  obtain ⟨m, rfl⟩ : ∃ m : Nat, n = (m : Int) := ⟨n.toNat, by omega⟩
  exact apart_any A l l.length cap m W hl rfl hm (by omega)
end Prof
end Go.Proofs.Ytpnafccedgjaeaa
