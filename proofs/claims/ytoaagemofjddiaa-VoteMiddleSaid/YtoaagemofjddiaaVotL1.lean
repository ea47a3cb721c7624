/-
  The law VoteMiddle, walked and joined.
-/
import Derived.Test.YtoaagemofjddiaaVotG
namespace Go.Proofs.Ytoaagemofjddiaa
open Go.RowKit
set_option linter.unusedVariables false
namespace Vot

theorem gts_succ (zs : List Int) {k : Nat} (h : k < zs.length) (x : Int) : gts (zs.take (k + 1)) x = gts (zs.take k) x + if x < zs[k] then 1 else 0 := by
  unfold gts
  rw [List.take_add_one, List.getElem?_eq_getElem h, List.countP_append]
  simp
theorem gts_take_le (zs : List Int) (k : Nat) (x : Int) : gts (zs.take k) x ≤ k := by
  unfold gts
  have := List.countP_le_length (p := fun y => decide (x < y)) (l := zs.take k)
  rw [List.length_take] at this
  omega
theorem open_i64 {W : World} {v : Value} (h : VSat W (.slice (.int .i64)) false v) : ∃ (A : Option Addr) (L : List Int) (cap : Nat), v = .slice A L.length cap ∧ RdL W 0 W.heap.size A (L.map (Value.int .i64)) ∧ (∀ x ∈ L, -9223372036854775808 ≤ x ∧ x ≤ 9223372036854775807) ∧ L.length ≤ cap ∧ cap ≤ maxLen ∧ (A = none → L.length = 0 ∧ cap = 0) := by
  obtain ⟨A, L, cap, h1, h2, h3, h4⟩ := open_slice_of (fun x : Int => [Value.int .i64 x]) (fun x => -9223372036854775808 ≤ x ∧ x ≤ 9223372036854775807) (.int .i64) 1 rfl (fun _ => rfl) (by decide) (by
    rintro cs ⟨i, rfl, hi⟩
    exact ⟨i, rfl, bounds_i64 hi⟩) h
  rw [flatMap_one] at h2
  exact ⟨A, L, cap, h1, h2, h3, h4⟩
set_option maxRecDepth 100000 in
set_option maxHeartbeats 1000000 in
theorem lawMiddle_core (A : Option Addr) (L : List Int) (cap : Nat) (w : World) (hrd : RdL w 0 w.heap.size A (L.map (Value.int .i64))) :
    Calls Try.prog 8 #[.slice A L.length cap] w fun e w' => e = .returned (.bool true) ∧ Below w.heap.size w w' := by
  by_cases hbig : 60 < L.length
  · have d1 : decide (60 < (L.length : Int)) = true := decide_eq_true (by omega)
    have d1' : decide (60 < L.length) = true := decide_eq_true hbig
    clear hbig
    go_enter Try.func8, Try.ntmps8
    go_wp2_with fail
    refine (works29_any _).mono ?_
    rintro e w1 ⟨rfl, hb⟩
    go_wp2
    go_ret
    exact ⟨rfl, hb⟩
  · have d1 : decide (60 < (L.length : Int)) = false := decide_eq_false (by omega)
    have d1' : decide (60 < L.length) = false := decide_eq_false hbig
    have hm1 := mid64_any (c := cap) L (by omega) hrd
    have HR := Lib.hid hrd
    have hh := Lib.hid (mid_halves L)
    obtain ⟨ok, hok⟩ : ∃ ok, ok = decide (0 < L.length) := ⟨_, rfl⟩
    have hok2 : decide ((0 : Int) < (L.length : Int)) = ok := by rw [hok, decide_eq_decide]; omega
    have hokN : decide (0 < L.length) = ok := hok.symm
    have HOK := Lib.hid hok
    clear hok
    obtain ⟨n, hn⟩ : ∃ n, n = L.length := ⟨_, rfl⟩
    have HN := Lib.hid hn
    rw [← hn] at hok2 hokN hbig d1 d1' hm1 ⊢
    clear hn
    go_enter Try.func8, Try.ntmps8
    go_wp2_with fail
    refine hm1.mono ?_
    rintro e w1 ⟨rfl, hb1⟩
    have HR1 := Lib.hid (HR.out.next hb1)
    have hm2 := rmid_any (c := cap) L (by rw [← HN.out]; omega) HR1.out
    have HB1 := Lib.hid hb1
    rw [← HN.out, hokN] at hm2
    generalize hmm : mid L = m at *
    clear hm1 hb1 HR hmm
    go_wp2_with fail
    refine hm2.mono ?_
    rintro e w2 ⟨rfl, k, rfl⟩
    have HR2 := Lib.hid (HR1.out.drewN k)
    have HB2 := Lib.hid (below_drewN HB1.out k)
    clear hm2 HR1 HB1
    generalize w1.drewN k = w2 at *
    go_wp2_with fail
    go_loopw [7, 8, 9] (fun l s k wr => ∃ j : Nat, j ≤ n ∧ k = .int .i64 (j : Int) ∧ l = .int .i64 (lts (L.take j) m : Int) ∧ s = .int .i64 (gts (L.take j) m : Int) ∧ wr = w2) (fun _ _ k _ => n - (intOf k).toNat)
    case atStart => exact ⟨0, by omega, rfl, rfl, rfl, rfl⟩
    case round =>
      obtain ⟨j, hj, rfl, rfl, rfl, rfl⟩ := hrel
      have b1 := (lts_take_le L j m).1
      have b2 := gts_take_le L j m
      by_cases hlt : j < n
      · have hjl : j < L.length := by rw [← HN.out]; exact hlt
        obtain ⟨b, off, rfl, _, _, _, hc⟩ := HR2.out.some (by rw [List.length_map]; omega)
        have q1 : wr.cell? ⟨b, off + j, none⟩ = some (.int .i64 L[j]) := hc j _ (by rw [List.getElem?_map, List.getElem?_eq_getElem hjl]; rfl)
        have e1 := lts_succ L hjl m
        have e2 := gts_succ L hjl m
        clear hc
        generalize L[j] = x at *
        have hltI : (j : Int) < (n : Int) := by omega
        have hj0 : (0 : Int) ≤ (j : Int) := by omega
        generalize lts (L.take j) m = a at *
        generalize gts (L.take j) m = c at *
        have y1 : IntKind.i64.wrap ((j : Int) + 1) = (j : Int) + 1 := IntWalk.i64_in _ (by omega)
        have y2 : IntKind.i64.wrap ((a : Int) + 1) = (a : Int) + 1 := IntWalk.i64_in _ (by omega)
        have y3 : IntKind.i64.wrap ((c : Int) + 1) = (c : Int) + 1 := IntWalk.i64_in _ (by omega)
        have E1 := Lib.hid e1
        have E2 := Lib.hid e2
        clear e1 e2
        by_cases g1 : x < m
        · have d2 : decide (x < m) = true := decide_eq_true g1
          have d3 : decide (m < x) = false := decide_eq_false (by omega)
          go_wp2_with fail
          go_roundw
          case rel => exact ⟨j + 1, by omega, by go_num, by rw [E1.out, if_pos g1]; go_num, by rw [E2.out, if_neg (by omega)]; rfl, trivial⟩
          case measure => simp [intOf]; omega
        · have d2 : decide (x < m) = false := decide_eq_false g1
          by_cases g2 : m < x
          · have d3 : decide (m < x) = true := decide_eq_true g2
            go_wp2_with fail
            go_roundw
            case rel => exact ⟨j + 1, by omega, by go_num, by rw [E1.out, if_neg g1]; rfl, by rw [E2.out, if_pos g2]; go_num, trivial⟩
            case measure => simp [intOf]; omega
          · have d3 : decide (m < x) = false := decide_eq_false g2
            go_wp2_with fail
            go_roundw
            case rel => exact ⟨j + 1, by omega, by go_num, by rw [E1.out, if_neg g1]; rfl, by rw [E2.out, if_neg g2]; rfl, trivial⟩
            case measure => simp [intOf]; omega
      · obtain rfl : j = n := by omega
        have htk : L.take j = L := by rw [HN.out, List.take_length]
        rw [htk] at b1 b2 ⊢
        obtain ⟨h1, h2⟩ := hh.out
        rw [← HN.out] at h1 h2
        generalize lts L m = a at *
        generalize gts L m = c at *
        have y2 : IntKind.i64.wrap (2 * (a : Int)) = 2 * (a : Int) := IntWalk.i64_in _ (by omega)
        have y3 : IntKind.i64.wrap (2 * (c : Int)) = 2 * (c : Int) := IntWalk.i64_in _ (by omega)
        have d2 : decide (2 * (a : Int) ≤ (j : Int)) = true := decide_eq_true (by omega)
        have d3 : decide (2 * (c : Int) ≤ (j : Int)) = true := decide_eq_true (by omega)
        have d2' : decide (2 * a ≤ j) = true := decide_eq_true (by omega)
        have d3' : decide (2 * c ≤ j) = true := decide_eq_true (by omega)
        clear htk
        go_wp2_with fail
        refine (works29_any _).mono ?_
        rintro e w3 ⟨rfl, hb⟩
        go_wp2
        go_ret
        exact ⟨rfl, bt HB2.out hb⟩
theorem walkMiddle (v0 : Value) (W : World) (h0 : VSat W (.slice (.int .i64)) false v0) :
    Calls Try.prog 8 #[v0] W fun e W' => e = .returned (.bool true) ∧ Below W.heap.size W W' := by
  obtain ⟨A, L, cap, rfl, hr, _, _, _, _⟩ := open_i64 h0
  exact lawMiddle_core A L cap W hr
end Vot
end Go.Proofs.Ytoaagemofjddiaa
