/-
  The walks of the document's answer for votes: the middle one, by counting.
-/
import Derived.Test.YtoaagemofjddiaaVotR2
namespace Go.Proofs.Ytoaagemofjddiaa
open Go.RowKit
set_option linter.unusedVariables false
namespace Vot

theorem lts_succ (zs : List Int) {k : Nat} (h : k < zs.length) (x : Int) : lts (zs.take (k + 1)) x = lts (zs.take k) x + if zs[k] < x then 1 else 0 := by
  unfold lts
  rw [List.take_add_one, List.getElem?_eq_getElem h, List.countP_append]
  simp [List.countP_cons]
theorem eqs_succ (zs : List Int) {k : Nat} (h : k < zs.length) (x : Int) : eqs (zs.take (k + 1)) x = eqs (zs.take k) x + if zs[k] = x then 1 else 0 := by
  unfold eqs
  rw [List.take_add_one, List.getElem?_eq_getElem h, List.countP_append]
  simp [List.countP_cons]
theorem lts_take_le (zs : List Int) (k : Nat) (x : Int) : lts (zs.take k) x ≤ k ∧ eqs (zs.take k) x ≤ k := by
  have h1 : lts (zs.take k) x ≤ (zs.take k).length := List.countP_le_length
  have h2 : eqs (zs.take k) x ≤ (zs.take k).length := List.countP_le_length
  rw [List.length_take] at h1 h2
  omega
set_option maxRecDepth 100000 in
set_option maxHeartbeats 2000000 in
theorem rmid_any {w : World} {lo hi c : Nat} {A : Option Addr} (zs : List Int) (hbig : zs.length ≤ 1000) (R : RdL w lo hi A (zs.map (Value.int .i64))) :
    Calls Try.prog 30 #[.slice A zs.length c] w fun e w' => e = .returned (.tuple #[.int .i64 (mid zs), .bool (decide (0 < zs.length))]) ∧ ∃ q, w' = w.drewN q := by
  obtain ⟨n, hn⟩ : ∃ n, n = zs.length := ⟨_, rfl⟩
  rw [← hn] at hbig ⊢
  have HN := Lib.hid hn
  have HR := Lib.hid R
  clear R hn
  go_enter Try.func30, Try.ntmps30
  go_wp2
  go_loopw [5, 6, 7, 8] (fun u _ _ _ wr => ∃ i : Nat, i ≤ n ∧ u = .int .i64 (i : Int) ∧ (∀ j (h : j < zs.length), j < i → hit zs zs[j] = false) ∧ ∃ q, wr = w.drewN q) (fun u _ _ _ _ => n - (intOf u).toNat)
  case atStart => exact ⟨0, by omega, rfl, fun j _ h => by omega, 0, rfl⟩
  case round =>
    obtain ⟨i, hi, rfl, hno, q, rfl⟩ := hrel
    have HNo := Lib.hid hno
    clear hno
    by_cases hlt : i < n
    · have hil : i < zs.length := by rw [← HN.out]; exact hlt
      obtain ⟨b, off, rfl, _, _, _, hc⟩ := HR.out.some (by rw [List.length_map]; omega)
      have hci : ∀ q, (w.drewN q).cell? ⟨b, off + i, none⟩ = some (.int .i64 zs[i]) := fun q => hc i _ (by rw [List.getElem?_map, List.getElem?_eq_getElem hil]; rfl)
      have HC := Lib.hid hc
      clear hc
      obtain ⟨x, hx⟩ : ∃ x, x = zs[i] := ⟨_, rfl⟩
      rw [← hx] at hci
      have HX := Lib.hid hx
      clear hx
      have hltI : (i : Int) < (n : Int) := by omega
      have hi0 : (0 : Int) ≤ (i : Int) := by omega
      have y1 : IntKind.i64.wrap ((i : Int) + 1) = (i : Int) + 1 := IntWalk.i64_in _ (by omega)
      go_wp2
      go_loopw [6, 7, 8] (fun l s k wr => ∃ j : Nat, j ≤ n ∧ k = .int .i64 (j : Int) ∧ l = .int .i64 (lts (zs.take j) x : Int) ∧ s = .int .i64 (eqs (zs.take j) x : Int) ∧ ∃ q, wr = w.drewN q) (fun _ _ k _ => n - (intOf k).toNat)
      case atStart => exact ⟨0, by omega, rfl, rfl, rfl, q, rfl⟩
      case round =>
        obtain ⟨j, hj, rfl, rfl, rfl, q1, rfl⟩ := hrel
        by_cases hjt : j < n
        · have hjl : j < zs.length := by rw [← HN.out]; exact hjt
          have hcj : ∀ q, (w.drewN q).cell? ⟨b, off + j, none⟩ = some (.int .i64 zs[j]) := fun q => HC.out j _ (by rw [List.getElem?_map, List.getElem?_eq_getElem hjl]; rfl)
          have h1 := lts_succ zs hjl x
          have h2 := eqs_succ zs hjl x
          obtain ⟨hl1, hl2⟩ := lts_take_le zs j x
          have H1 := Lib.hid h1
          have H2 := Lib.hid h2
          clear h1 h2
          generalize zs[j] = y at *
          have hjtI : (j : Int) < (n : Int) := by omega
          have hj0 : (0 : Int) ≤ (j : Int) := by omega
          have z1 : IntKind.i64.wrap ((j : Int) + 1) = (j : Int) + 1 := IntWalk.i64_in _ (by omega)
          have z2 : IntKind.i64.wrap ((lts (zs.take j) x : Int) + 1) = (lts (zs.take j) x : Int) + 1 := IntWalk.i64_in _ (by omega)
          have z3 : IntKind.i64.wrap ((eqs (zs.take j) x : Int) + 1) = (eqs (zs.take j) x : Int) + 1 := IntWalk.i64_in _ (by omega)
          have cx := hci q1
          have cy := hcj q1
          have cx2 := hci (q1 + 1)
          have cy2 := hcj (q1 + 1)
          by_cases hyx : y < x
          · have d1 : decide (y < x) = true := decide_eq_true hyx
            have d2 : (y == x) = false := by rw [beq_eq_false_iff_ne]; omega
            have e1 : lts (zs.take (j + 1)) x = lts (zs.take j) x + 1 := by rw [H1.out, if_pos hyx]
            have e2 : eqs (zs.take (j + 1)) x = eqs (zs.take j) x := by rw [H2.out, if_neg (by omega)]; rfl
            have E1 := Lib.hid e1
            have E2 := Lib.hid e2
            clear e1 e2
            go_wp2
            go_quiet (fail)
            go_wp2
            go_quiet (fail)
            go_wp2
            go_roundw
            case rel => exact ⟨j + 1, by omega, by go_num, by rw [E1.out]; go_num, by rw [E2.out], _, rfl⟩
            case measure => simp [intOf]; omega
          · have d1 : decide (y < x) = false := decide_eq_false hyx
            by_cases hye : y = x
            · subst hye
              have d2 : (y == y) = true := by simp
              have e1 : lts (zs.take (j + 1)) y = lts (zs.take j) y := by rw [H1.out, if_neg (by omega)]; rfl
              have e2 : eqs (zs.take (j + 1)) y = eqs (zs.take j) y + 1 := by rw [H2.out, if_pos rfl]
              have E1 := Lib.hid e1
              have E2 := Lib.hid e2
              clear e1 e2
              go_wp2
              go_quiet (fail)
              go_wp2
              go_quiet (fail)
              go_wp2
              go_roundw
              case rel => exact ⟨j + 1, by omega, by go_num, by rw [E1.out], by rw [E2.out]; go_num, _, rfl⟩
              case measure => simp [intOf]; omega
            · have d2 : (y == x) = false := by rw [beq_eq_false_iff_ne]; exact hye
              have e1 : lts (zs.take (j + 1)) x = lts (zs.take j) x := by rw [H1.out, if_neg hyx]; rfl
              have e2 : eqs (zs.take (j + 1)) x = eqs (zs.take j) x := by rw [H2.out, if_neg hye]; rfl
              have E1 := Lib.hid e1
              have E2 := Lib.hid e2
              clear e1 e2
              go_wp2
              go_quiet (fail)
              go_wp2
              go_quiet (fail)
              go_wp2
              go_roundw
              case rel => exact ⟨j + 1, by omega, by go_num, by rw [E1.out], by rw [E2.out], _, rfl⟩
              case measure => simp [intOf]; omega
        · obtain rfl : j = n := by omega
          have et : zs.take j = zs := List.take_of_length_le (by rw [← HN.out]; exact Nat.le_refl _)
          rw [et]
          obtain ⟨hl1, hl2⟩ := lts_take_le zs j x
          rw [et] at hl1 hl2
          have hd : ((j : Int) - 1).tdiv 2 = (((j - 1) / 2 : Nat) : Int) := by
            rw [Int.tdiv_eq_ediv_of_nonneg (show (0 : Int) ≤ (j : Int) - 1 by omega)]
            omega
          have z1 : IntKind.i64.wrap ((j : Int) - 1) = (j : Int) - 1 := IntWalk.i64_in _ (by omega)
          have z2 : IntKind.i64.wrap (((j - 1) / 2 : Nat) : Int) = (((j - 1) / 2 : Nat) : Int) := IntWalk.i64_in _ (by omega)
          have z3 : IntKind.i64.wrap ((lts zs x : Int) + (eqs zs x : Int)) = (lts zs x : Int) + (eqs zs x : Int) := IntWalk.i64_in _ (by omega)
          have ho : hit zs x = (decide (lts zs x ≤ (j - 1) / 2) && decide ((j - 1) / 2 < lts zs x + eqs zs x)) := by unfold hit; rw [← HN.out]
          have hm := hit_iff (l := zs) (by rw [← HN.out]; omega) x
          have cx := hci q1
          have HO := Lib.hid ho
          have HM := Lib.hid hm
          clear ho hm et
          generalize hL : lts zs x = L at *
          generalize hE : eqs zs x = E at *
          clear hL hE
          generalize (j - 1) / 2 = H at *
          by_cases h1 : L ≤ H
          · by_cases h2 : H < L + E
            · have d1 : decide (L ≤ H) = true := decide_eq_true h1
              have d1I : decide ((L : Int) ≤ (H : Int)) = true := decide_eq_true (by omega)
              have d2 : decide ((H : Int) < (L : Int) + (E : Int)) = true := decide_eq_true (by omega)
              have hx : x = mid zs := HM.out.1 (by rw [HO.out, decide_eq_true h1, decide_eq_true h2]; rfl)
              have hp : decide (0 < j) = true := decide_eq_true (by omega)
              clear HNo HO HM
              go_wp2
              go_ret2
              exact ⟨by rw [← hx, hp]; rfl, _, rfl⟩
            · have d1 : decide (L ≤ H) = true := decide_eq_true h1
              have d1I : decide ((L : Int) ≤ (H : Int)) = true := decide_eq_true (by omega)
              have d2 : decide ((H : Int) < (L : Int) + (E : Int)) = false := decide_eq_false (by omega)
              have hh : hit zs x = false := by rw [HO.out, decide_eq_false h2, Bool.and_false]
              have HH := Lib.hid hh
              clear HO HM hh
              go_wp2
              go_roundw
              case rel =>
                refine ⟨i + 1, by omega, by go_num, fun k hk hki => ?_, _, rfl⟩
                by_cases hk2 : k < i
                · exact HNo.out k hk hk2
                · obtain rfl : k = i := by omega
                  rw [← HX.out]
                  exact HH.out
              case measure => simp [intOf]; omega
          · have d1 : decide (L ≤ H) = false := decide_eq_false h1
            have d1I : decide ((L : Int) ≤ (H : Int)) = false := decide_eq_false (by omega)
            have hh : hit zs x = false := by rw [HO.out, d1, Bool.false_and]
            have HH := Lib.hid hh
            clear HO HM hh
            go_wp2
            go_roundw
            case rel =>
              refine ⟨i + 1, by omega, by go_num, fun k hk hki => ?_, _, rfl⟩
              by_cases hk2 : k < i
              · exact HNo.out k hk hk2
              · obtain rfl : k = i := by omega
                rw [← HX.out]
                exact HH.out
            case measure => simp [intOf]; omega
    · obtain rfl : i = n := by omega
      have hge : ¬ (i : Int) < (i : Int) := by omega
      have h0 : i = 0 := by
        rcases Nat.eq_zero_or_pos i with h | h
        · exact h
        · exfalso
          have hp : 0 < zs.length := by rw [← HN.out]; exact h
          obtain ⟨k, hk, e⟩ := List.getElem_of_mem (mid_mem hp)
          have := HNo.out k hk (by rw [HN.out]; exact hk)
          rw [e] at this
          rw [(hit_iff hp _).2 rfl] at this
          cases this
      have hz : zs = [] := List.eq_nil_of_length_eq_zero (by rw [← HN.out]; exact h0)
      have hm : mid zs = 0 := by rw [hz]; exact mid_nil
      have HM := Lib.hid hm
      have H0 := Lib.hid h0
      clear hz hm h0
      go_wp2
      go_ret2
      exact ⟨by rw [HM.out, H0.out]; rfl, _, rfl⟩
end Vot
end Go.Proofs.Ytoaagemofjddiaa
