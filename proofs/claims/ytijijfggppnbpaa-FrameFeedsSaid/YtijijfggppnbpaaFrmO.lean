/-
  The law FrameFeeds, walked.
-/
import Derived.Test.YtijijfggppnbpaaFrmE
import Derived.Test.YtijijfggppnbpaaFrmV
import Derived.Deep.QuietTactic
import Derived.BigQuiet
namespace Go.Proofs.Ytijijfggppnbpaa
open Go.RowKit
set_option linter.unusedVariables false
namespace Frm
open Txt (kind_cases bv bv_one GotB leB leB_len leB_succ leVal leVal_lt tx tx_list)

theorem frame_same' (f : Fr) (w : World) : (binOp .neq 25 (.agg #[.int .i64 f.k, .int .u16 (f.q : Int), .int .u32 (f.t : Int), .int .i32 f.a, .int .i32 f.b, .int .i32 f.c]) (.agg #[.int .i64 f.k, .int .u16 (f.q : Int), .int .u32 (f.t : Int), .int .i32 f.a, .int .i32 f.b, .int .i32 f.c])).run Try.prog w = .ok (.bool false) w := by
  simp [go_sem]
set_option maxRecDepth 100000 in
set_option maxHeartbeats 1000000 in
theorem lawFeeds_long (A A2 : Option Addr) (N cap N2 cap2 : Nat) (hN : 400 < N ∨ 60 < N2) (hwk : ∀ w, Calls Try.prog 17 #[] w fun e w' => e = .returned (.bool true) ∧ Below w.heap.size w w') (w0 : World) :
    Calls Try.prog 6 #[.slice A N cap, .slice A2 N2 cap2] w0 fun e w' => e = .returned (.bool true) ∧ Below w0.heap.size w0 w' := by
  by_cases h1 : 400 < N
  · have d1 : decide (400 < (N : Int)) = true := decide_eq_true (by omega)
    clear hN
    go_enter Try.func6, Try.ntmps6
    go_wp2_with fail
    refine (hwk _).mono ?_
    rintro e w1 ⟨rfl, hb⟩
    go_wp2
    go_ret
    exact ⟨rfl, hb⟩
  · have d1 : decide (400 < (N : Int)) = false := decide_eq_false (by omega)
    have h2 : 60 < N2 := by omega
    have d2 : decide (60 < (N2 : Int)) = true := decide_eq_true (by omega)
    clear hN
    go_enter Try.func6, Try.ntmps6
    go_wp2_with fail
    refine (hwk _).mono ?_
    rintro e w1 ⟨rfl, hb⟩
    go_wp2
    go_ret
    exact ⟨rfl, hb⟩
set_option maxRecDepth 100000 in
set_option maxHeartbeats 4000000 in
theorem lawFeeds_core (A A2 : Option Addr) (L C : List UInt8) (N cap N2 cap2 : Nat) (hLN : L.length = N) (hN : N ≤ 400) (hcap : N ≤ cap) (hA : A = none → N = 0 ∧ cap = 0) (hCN : C.length = N2) (hN2 : N2 ≤ 60) (hcap2 : N2 ≤ cap2)
    (hwk : ∀ w, Calls Try.prog 17 #[] w fun e w' => e = .returned (.bool true) ∧ Below w.heap.size w w') (w0 : World) (hrd : RdL w0 0 w0.heap.size A (L.map bv)) (hrd2 : RdL w0 0 w0.heap.size A2 (C.map bv)) :
    Calls Try.prog 6 #[.slice A N cap, .slice A2 N2 cap2] w0 fun e w' => e = .returned (.bool true) ∧ Below w0.heap.size w0 w' := by
  have d1 : decide (400 < (N : Int)) = false := decide_eq_false (by omega)
  have d2 : decide (60 < (N2 : Int)) = false := decide_eq_false (by omega)
  have HLN := Lib.hid hLN
  have HCN := Lib.hid hCN
  have HR := Lib.hid hrd
  have HC := Lib.hid hrd2
  have HA := Lib.hid hA
  have S0 := Lib.hid (FA.start w0)
  clear hLN hCN hrd hrd2 hA
  go_enter Try.func6, Try.ntmps6
  go_wp2
  go_loopw [6, 7, 8] (fun l rs u wr => ∃ (k i r : Nat) (v : Value) (A' : Option Addr) (cap' : Nat), k ≤ N2 ∧ i + r = N ∧ u = .int .i64 (k : Int) ∧ rs = .slice A' r cap' ∧ FA w0 w0.heap.size (L.take i) l v wr ∧ r ≤ cap' ∧ (A' = none → r = 0 ∧ cap' = 0) ∧ RdL w0 0 w0.heap.size A' ((L.drop i).map bv)) (fun _ _ u _ => N2 - (intOf u).toNat)
  case atStart => exact ⟨0, 0, N, _, A, cap, Nat.zero_le _, Nat.zero_add _, rfl, rfl, S0.out, hcap, HA.out, HR.out⟩
  case round =>
    clear S0
    obtain ⟨k, i, r, v, A', cap', hk, hir, rfl, rfl, S, hrc, hA', hrd⟩ := hrel
    have HS := Lib.hid S
    have HA' := Lib.hid hA'
    have HRd := Lib.hid hrd
    have hir' := hir
    have Hir := Lib.hid hir
    have hiN : i ≤ N := by omega
    have hrN : r ≤ 400 := by omega
    have hdl : (L.drop i).length = r := by rw [List.length_drop, HLN.out]; omega
    have HDl := Lib.hid hdl
    have htl : (L.take i).length = i := by rw [List.length_take, HLN.out]; omega
    have HTl := Lib.hid htl
    clear S hA' hrd hir hdl htl
    by_cases hlt : k < N2
    · have hltI : (k : Int) < (N2 : Int) := by omega
      have hkC : k < C.length := by rw [HCN.out]; exact hlt
      obtain ⟨b2, o2, rfl, _, _, _, hcc⟩ := HC.out.some (by rw [List.length_map]; omega)
      obtain ⟨c, hc⟩ : ∃ c, c = C[k] := ⟨_, rfl⟩
      have c0' := hcc k (bv c) (by rw [List.getElem?_map, List.getElem?_eq_getElem hkC, hc]; rfl)
      have c0 : wr.cell? ⟨b2, o2 + k, none⟩ = some (.int .u8 ((c.toNat : Nat) : Int)) := (HS.out.keep.cell (p := ⟨b2, o2 + k, none⟩) (block_lt_of_cell c0')).trans c0'
      have hcl : c.toNat < 256 := c.toNat_lt
      generalize c.toNat = q at *
      have yq : IntKind.i64.wrap (q : Int) = (q : Int) := IntWalk.i64_in _ (by omega)
      clear hc c0' hcc hkC
      by_cases hq : r < q
      · have hqI : (r : Int) < (q : Int) := by omega
        have hnr : r ≤ r := by omega
        have hnI : (r : Int) ≤ (cap' : Int) := by omega
        have hnI2 : (r : Int) ≤ (r : Int) := by omega
        have hn0 : (0 : Int) ≤ (r : Int) := by omega
        have hp := push_any w0.heap.size v ((L.take i).drop (feedL (L.take i) 0).2.2) (feedL (L.take i) 0).2.1 A' ((L.drop i).take r) r cap' 0 w0.heap.size wr HS.out.feed (by
          have h9 := HRd.out.take r
          rw [← List.map_take] at h9
          exact h9.below HS.out.keep (.inl (Nat.le_refl _))) (by rw [List.length_take, HDl.out]; omega) (fun h => by have := HA'.out h; omega) (by
          have := feed_small (L.take i)
          have h1 := HTl.out
          have h2 := HDl.out
          rw [List.length_drop, List.length_take (l := L.drop i), h1, h2]
          omega) (by have := feed_small (L.take i); rw [HTl.out] at this; omega)
        have hpm : (L.take i) ++ (L.drop i).take r = L.take (i + r) := by rw [List.take_add]
        have hdd : (L.drop i).drop r = L.drop (i + r) := List.drop_drop
        have hbnd : (L.take i).length + ((L.drop i).take r).length ≤ 10000 := by rw [List.length_take (l := L.drop i), HTl.out, HDl.out]; omega
        have HP := Lib.hid hp
        have HPm := Lib.hid hpm
        have HDd := Lib.hid hdd
        have HBn := Lib.hid hbnd
        clear hp hpm hdd hbnd
        cases A' with
        | none =>
          obtain ⟨hr0, hc0⟩ := HA'.out rfl
          have hnil : L.drop (i + r) = [] := List.drop_of_length_le (by rw [HLN.out]; omega)
          have HNil := Lib.hid hnil
          have HR0 := Lib.hid hr0
          subst hc0
          have hp0 := HP.out
          rw [show Value.slice none r 0 = Value.slice none 0 0 by rw [show r = 0 by omega]] at hp0
          have HP0 := Lib.hid hp0
          clear hnil hr0 hp0
          go_wp2_with fail
          with_reducible refine (HP0.out).mono ?_
          rintro e w2 hgp
          obtain ⟨ov, v', rfl, hB⟩ := HS.out.push hgp
          obtain ⟨A3, c3, rfl, _, _, _, _⟩ := own_rd hB.own
          obtain ⟨fs3, _, ho3⟩ := hB.out
          obtain ⟨A4, c4, rfl, _, _, _, _⟩ := own_rd ho3
          have HB := Lib.hid hB
          clear hgp hB ho3
          go_wp2_with (at_builtin; refine FB.app HB.out HBn.out rfl (.tmp 39) (.tmp 43) rfl rfl rfl ?_; intro lv' w3 hS3; have HS3 := Lib.hid hS3; clear hS3)
          go_roundw
          case rel => exact ⟨k + 1, i + r, 0, _, none, 0, by omega, by have := HR0.out; omega, by go_num, rfl, by rw [← HPm.out]; exact HS3.out, by have := HR0.out; omega, (fun _ => by have := HR0.out; omega), by rw [HNil.out]; exact .inl rfl⟩
          case measure => simp [intOf]; omega
        | some ad =>
          by_cases hr0 : r = 0
          · have hnil : L.drop (i + r) = [] := List.drop_of_length_le (by rw [HLN.out]; omega)
            have HNil := Lib.hid hnil
            have HR0 := Lib.hid hr0
            clear hnil hr0
            by_cases hc0 : r = cap'
            · subst hc0
              go_wp2_with fail
              with_reducible refine (HP.out).mono ?_
              rintro e w2 hgp
              obtain ⟨ov, v', rfl, hB⟩ := HS.out.push hgp
              obtain ⟨A3, c3, rfl, _, _, _, _⟩ := own_rd hB.own
              obtain ⟨fs3, _, ho3⟩ := hB.out
              obtain ⟨A4, c4, rfl, _, _, _, _⟩ := own_rd ho3
              have HB := Lib.hid hB
              clear hgp hB ho3
              go_wp2_with (at_builtin; refine FB.app HB.out HBn.out rfl (.tmp 39) (.tmp 43) rfl rfl rfl ?_; intro lv' w3 hS3; have HS3 := Lib.hid hS3; clear hS3)
              go_roundw
              case rel => exact ⟨k + 1, i + r, 0, _, some _, _, by omega, by omega, by go_num, rfl, by rw [← HPm.out]; exact HS3.out, by omega, (fun h => by cases h), by rw [HNil.out]; exact .inl rfl⟩
              case measure => simp [intOf]; omega
            · have hc1 : cap' ≠ r := fun h => hc0 h.symm
              have hc2 : ¬ cap' = r := hc1
              go_wp2_with fail
              with_reducible refine (HP.out).mono ?_
              rintro e w2 hgp
              obtain ⟨ov, v', rfl, hB⟩ := HS.out.push hgp
              obtain ⟨A3, c3, rfl, _, _, _, _⟩ := own_rd hB.own
              obtain ⟨fs3, _, ho3⟩ := hB.out
              obtain ⟨A4, c4, rfl, _, _, _, _⟩ := own_rd ho3
              have HB := Lib.hid hB
              clear hgp hB ho3
              go_wp2_with (at_builtin; refine FB.app HB.out HBn.out rfl (.tmp 39) (.tmp 43) rfl rfl rfl ?_; intro lv' w3 hS3; have HS3 := Lib.hid hS3; clear hS3)
              go_roundw
              case rel => exact ⟨k + 1, i + r, 0, _, some _, _, by omega, by omega, by go_num, rfl, by rw [← HPm.out]; exact HS3.out, by omega, (fun h => by cases h), by rw [HNil.out]; exact .inl rfl⟩
              case measure => simp [intOf]; omega
          · obtain ⟨b, off, e, _, _, _, _⟩ := HRd.out.some (by rw [List.length_map, HDl.out]; omega)
            injection e with e
            subst e
            by_cases hc0 : r = cap'
            · subst hc0
              have hnil : L.drop (i + r) = [] := List.drop_of_length_le (by rw [HLN.out]; omega)
              have HNil := Lib.hid hnil
              clear hnil
              go_wp2_with fail
              with_reducible refine (HP.out).mono ?_
              rintro e w2 hgp
              obtain ⟨ov, v', rfl, hB⟩ := HS.out.push hgp
              obtain ⟨A3, c3, rfl, _, _, _, _⟩ := own_rd hB.own
              obtain ⟨fs3, _, ho3⟩ := hB.out
              obtain ⟨A4, c4, rfl, _, _, _, _⟩ := own_rd ho3
              have HB := Lib.hid hB
              clear hgp hB ho3
              go_wp2_with (at_builtin; refine FB.app HB.out HBn.out rfl (.tmp 39) (.tmp 43) rfl rfl rfl ?_; intro lv' w3 hS3; have HS3 := Lib.hid hS3; clear hS3)
              go_roundw
              case rel => exact ⟨k + 1, i + r, 0, _, some _, _, by omega, by omega, by go_num, rfl, by rw [← HPm.out]; exact HS3.out, by omega, (fun h => by cases h), by rw [HNil.out]; exact .inl rfl⟩
              case measure => simp [intOf]; omega
            · have hc1 : cap' ≠ r := fun h => hc0 h.symm
              have hc2 : ¬ cap' = r := hc1
              go_wp2_with fail
              with_reducible refine (HP.out).mono ?_
              rintro e w2 hgp
              obtain ⟨ov, v', rfl, hB⟩ := HS.out.push hgp
              obtain ⟨A3, c3, rfl, _, _, _, _⟩ := own_rd hB.own
              obtain ⟨fs3, _, ho3⟩ := hB.out
              obtain ⟨A4, c4, rfl, _, _, _, _⟩ := own_rd ho3
              have HB := Lib.hid hB
              clear hgp hB ho3
              go_wp2_with (at_builtin; refine FB.app HB.out HBn.out rfl (.tmp 39) (.tmp 43) rfl rfl rfl ?_; intro lv' w3 hS3; have HS3 := Lib.hid hS3; clear hS3)
              go_roundw
              case rel => exact ⟨k + 1, i + r, 0, _, some _, _, by omega, by omega, by go_num, rfl, by rw [← HPm.out]; exact HS3.out, by omega, (fun h => by cases h), by rw [← HDd.out, List.map_drop]; exact HRd.out.drop r⟩
              case measure => simp [intOf]; omega
      · have hqI : ¬ (r : Int) < (q : Int) := by omega
        have hnr : q ≤ r := by omega
        have hnI : (q : Int) ≤ (cap' : Int) := by omega
        have hnI2 : (q : Int) ≤ (r : Int) := by omega
        have hn0 : (0 : Int) ≤ (q : Int) := by omega
        have hp := push_any w0.heap.size v ((L.take i).drop (feedL (L.take i) 0).2.2) (feedL (L.take i) 0).2.1 A' ((L.drop i).take q) q cap' 0 w0.heap.size wr HS.out.feed (by
          have h9 := HRd.out.take q
          rw [← List.map_take] at h9
          exact h9.below HS.out.keep (.inl (Nat.le_refl _))) (by rw [List.length_take, HDl.out]; omega) (fun h => by have := HA'.out h; omega) (by
          have := feed_small (L.take i)
          have h1 := HTl.out
          have h2 := HDl.out
          rw [List.length_drop, List.length_take (l := L.drop i), h1, h2]
          omega) (by have := feed_small (L.take i); rw [HTl.out] at this; omega)
        have hpm : (L.take i) ++ (L.drop i).take q = L.take (i + q) := by rw [List.take_add]
        have hdd : (L.drop i).drop q = L.drop (i + q) := List.drop_drop
        have hbnd : (L.take i).length + ((L.drop i).take q).length ≤ 10000 := by rw [List.length_take (l := L.drop i), HTl.out, HDl.out]; omega
        have HP := Lib.hid hp
        have HPm := Lib.hid hpm
        have HDd := Lib.hid hdd
        have HBn := Lib.hid hbnd
        clear hp hpm hdd hbnd
        cases A' with
        | none =>
          obtain ⟨hr0, hc0⟩ := HA'.out rfl
          have hnil : L.drop (i + q) = [] := List.drop_of_length_le (by rw [HLN.out]; omega)
          have HNil := Lib.hid hnil
          have HR0 := Lib.hid hr0
          subst hc0
          have hp0 := HP.out
          rw [show Value.slice none q 0 = Value.slice none 0 0 by rw [show q = 0 by omega]] at hp0
          have HP0 := Lib.hid hp0
          clear hnil hr0 hp0
          go_wp2_with fail
          with_reducible refine (HP.out).mono ?_
          rintro e w2 hgp
          obtain ⟨ov, v', rfl, hB⟩ := HS.out.push hgp
          obtain ⟨A3, c3, rfl, _, _, _, _⟩ := own_rd hB.own
          obtain ⟨fs3, _, ho3⟩ := hB.out
          obtain ⟨A4, c4, rfl, _, _, _, _⟩ := own_rd ho3
          have HB := Lib.hid hB
          clear hgp hB ho3
          go_wp2_with (at_builtin; refine FB.app HB.out HBn.out rfl (.tmp 39) (.tmp 43) rfl rfl rfl ?_; intro lv' w3 hS3; have HS3 := Lib.hid hS3; clear hS3)
          go_roundw
          case rel => exact ⟨k + 1, i + q, r - q, _, none, 0, by omega, by have := HR0.out; omega, by go_num, rfl, by rw [← HPm.out]; exact HS3.out, by have := HR0.out; omega, (fun _ => by have := HR0.out; omega), by rw [HNil.out]; exact .inl rfl⟩
          case measure => simp [intOf]; omega
        | some ad =>
          by_cases hr0 : r = 0
          · have hnil : L.drop (i + q) = [] := List.drop_of_length_le (by rw [HLN.out]; omega)
            have HNil := Lib.hid hnil
            have HR0 := Lib.hid hr0
            clear hnil hr0
            by_cases hc0 : q = cap'
            · subst hc0
              go_wp2_with fail
              with_reducible refine (HP.out).mono ?_
              rintro e w2 hgp
              obtain ⟨ov, v', rfl, hB⟩ := HS.out.push hgp
              obtain ⟨A3, c3, rfl, _, _, _, _⟩ := own_rd hB.own
              obtain ⟨fs3, _, ho3⟩ := hB.out
              obtain ⟨A4, c4, rfl, _, _, _, _⟩ := own_rd ho3
              have HB := Lib.hid hB
              clear hgp hB ho3
              go_wp2_with (at_builtin; refine FB.app HB.out HBn.out rfl (.tmp 39) (.tmp 43) rfl rfl rfl ?_; intro lv' w3 hS3; have HS3 := Lib.hid hS3; clear hS3)
              go_roundw
              case rel => exact ⟨k + 1, i + q, 0, _, some _, _, by omega, by omega, by go_num, rfl, by rw [← HPm.out]; exact HS3.out, by omega, (fun h => by cases h), by rw [HNil.out]; exact .inl rfl⟩
              case measure => simp [intOf]; omega
            · have hc1 : cap' ≠ q := fun h => hc0 h.symm
              have hc2 : ¬ cap' = q := hc1
              go_wp2_with fail
              with_reducible refine (HP.out).mono ?_
              rintro e w2 hgp
              obtain ⟨ov, v', rfl, hB⟩ := HS.out.push hgp
              obtain ⟨A3, c3, rfl, _, _, _, _⟩ := own_rd hB.own
              obtain ⟨fs3, _, ho3⟩ := hB.out
              obtain ⟨A4, c4, rfl, _, _, _, _⟩ := own_rd ho3
              have HB := Lib.hid hB
              clear hgp hB ho3
              go_wp2_with (at_builtin; refine FB.app HB.out HBn.out rfl (.tmp 39) (.tmp 43) rfl rfl rfl ?_; intro lv' w3 hS3; have HS3 := Lib.hid hS3; clear hS3)
              go_roundw
              case rel => exact ⟨k + 1, i + q, r - q, _, some _, _, by omega, by omega, by go_num, rfl, by rw [← HPm.out]; exact HS3.out, by omega, (fun h => by cases h), by rw [HNil.out]; exact .inl rfl⟩
              case measure => simp [intOf]; omega
          · obtain ⟨b, off, e, _, _, _, _⟩ := HRd.out.some (by rw [List.length_map, HDl.out]; omega)
            injection e with e
            subst e
            by_cases hc0 : q = cap'
            · subst hc0
              have hnil : L.drop (i + q) = [] := List.drop_of_length_le (by rw [HLN.out]; omega)
              have HNil := Lib.hid hnil
              clear hnil
              go_wp2_with fail
              with_reducible refine (HP.out).mono ?_
              rintro e w2 hgp
              obtain ⟨ov, v', rfl, hB⟩ := HS.out.push hgp
              obtain ⟨A3, c3, rfl, _, _, _, _⟩ := own_rd hB.own
              obtain ⟨fs3, _, ho3⟩ := hB.out
              obtain ⟨A4, c4, rfl, _, _, _, _⟩ := own_rd ho3
              have HB := Lib.hid hB
              clear hgp hB ho3
              go_wp2_with (at_builtin; refine FB.app HB.out HBn.out rfl (.tmp 39) (.tmp 43) rfl rfl rfl ?_; intro lv' w3 hS3; have HS3 := Lib.hid hS3; clear hS3)
              go_roundw
              case rel => exact ⟨k + 1, i + q, 0, _, some _, _, by omega, by omega, by go_num, rfl, by rw [← HPm.out]; exact HS3.out, by omega, (fun h => by cases h), by rw [HNil.out]; exact .inl rfl⟩
              case measure => simp [intOf]; omega
            · have hc1 : cap' ≠ q := fun h => hc0 h.symm
              have hc2 : ¬ cap' = q := hc1
              go_wp2_with fail
              with_reducible refine (HP.out).mono ?_
              rintro e w2 hgp
              obtain ⟨ov, v', rfl, hB⟩ := HS.out.push hgp
              obtain ⟨A3, c3, rfl, _, _, _, _⟩ := own_rd hB.own
              obtain ⟨fs3, _, ho3⟩ := hB.out
              obtain ⟨A4, c4, rfl, _, _, _, _⟩ := own_rd ho3
              have HB := Lib.hid hB
              clear hgp hB ho3
              go_wp2_with (at_builtin; refine FB.app HB.out HBn.out rfl (.tmp 39) (.tmp 43) rfl rfl rfl ?_; intro lv' w3 hS3; have HS3 := Lib.hid hS3; clear hS3)
              go_roundw
              case rel => exact ⟨k + 1, i + q, r - q, _, some _, _, by omega, by omega, by go_num, rfl, by rw [← HPm.out]; exact HS3.out, by omega, (fun h => by cases h), by rw [← HDd.out, List.map_drop]; exact HRd.out.drop q⟩
              case measure => simp [intOf]; omega
    · obtain rfl : k = N2 := by omega
      have hge : ¬ (k : Int) < (k : Int) := by omega
      have hp := push_any w0.heap.size v ((L.take i).drop (feedL (L.take i) 0).2.2) (feedL (L.take i) 0).2.1 A' (L.drop i) r cap' 0 w0.heap.size wr HS.out.feed (HRd.out.below HS.out.keep (.inl (Nat.le_refl _))) HDl.out HA'.out (by
        have := feed_small (L.take i)
        have h1 := HTl.out
        have h2 := HDl.out
        rw [List.length_drop, h1, h2]
        omega) (by have := feed_small (L.take i); rw [HTl.out] at this; omega)
      have HP := Lib.hid hp
      have hpm : L.take i ++ L.drop i = L := List.take_append_drop i L
      have HPm := Lib.hid hpm
      have HBn : Hid ((L.take i).length + (L.drop i).length ≤ 10000) := Lib.hid (by rw [HTl.out, HDl.out]; omega)
      clear hp hpm
      go_wp2_with fail
      refine (HP.out).mono ?_
      rintro e w2 hgp
      obtain ⟨ov, v', rfl, hB⟩ := HS.out.push hgp
      obtain ⟨A3, c3, rfl, _, _, _, _⟩ := own_rd hB.own
      obtain ⟨fs3, _, ho3⟩ := hB.out
      obtain ⟨A4, c4, rfl, _, _, _, _⟩ := own_rd ho3
      have HB := Lib.hid hB
      clear hgp hB ho3
      go_wp2_with (at_builtin; refine FB.app HB.out HBn.out rfl (.tmp 48) (.tmp 50) rfl rfl rfl ?_; intro lv' w3 hS3; rw [HPm.out] at hS3; obtain ⟨A5, c5, rfl, hrd5, _, _, _⟩ := own_rd hS3.own; have HS3 := Lib.hid hS3; have HRd5 := Lib.hid hrd5; clear hS3 hrd5)
      have hyf := yfeed_any A L N cap 0 w0.heap.size w3 (HR.out.below HS3.out.keep (.inl (Nat.le_refl _))) HS3.out.keep.size HLN.out (by omega) hcap
      with_reducible refine hyf.mono ?_
      rintro e w4 ⟨⟨vm, rfl, hom⟩, hb4⟩
      obtain ⟨A6, c6, rfl, hrd6, _, _, _⟩ := own_rd hom
      have S4 := HS3.out.next hb4
      have hrd5' := HRd5.out.next hb4
      obtain ⟨A7, c7, rfl, _, _, _, _⟩ := own_rd S4.feed.own
      have hlo := fun w h => lost_any w0.heap.size (.slice A7 (L.drop (feedL L 0).2.2).length c7) (feedL L 0).2.1 w h
      have hwa := fun w h => waits_any w0.heap.size A7 (L.drop (feedL L 0).2.2).length c7 (feedL L 0).2.1 w h
      have hwl : ((L.drop (feedL L 0).2.2).length : Int) = (L.length : Int) - ((feedL L 0).2.2 : Int) := by
        have := (feed_small L).2.2
        rw [List.length_drop]
        omega
      have hfl : (feedL L 0).1.length ≤ 400 := by have := (feed_small L).1; have := HLN.out; omega
      rw [← hwl]
      have hbk := S4.feed.blk
      have hkp := S4.keep
      obtain ⟨lw, hlw⟩ : ∃ lw, lw = (L.drop (feedL L 0).2.2).length := ⟨_, rfl⟩
      obtain ⟨lo, hlo'⟩ : ∃ lo, lo = (feedL L 0).2.1 := ⟨_, rfl⟩
      obtain ⟨fs, hfs⟩ : ∃ fs, fs = (feedL L 0).1 := ⟨_, rfl⟩
      rw [← hlw, ← hlo'] at hlo hwa hbk
      rw [← hfs] at hrd5' hrd6 hfl
      rw [← hlw, ← hlo', ← hfs]
      have HBk := Lib.hid hbk
      have HKp := Lib.hid hkp
      have HL5 := Lib.hid hrd5'
      have HL6 := Lib.hid hrd6
      clear hyf hom hb4 S4 hrd5' hrd6 hwl hbk hkp hlw hlo' hfs HS3 HRd5 HB
      go_wp2_with fail
      with_reducible refine (hlo _ HBk.out).mono ?_
      rintro e w5 ⟨rfl, rfl⟩
      go_wp2_with fail
      with_reducible refine (hwa _ HBk.out).mono ?_
      rintro e w5 ⟨rfl, rfl⟩
      clear hlo hwa
      go_wp2
      go_loopw [13] (fun u wr => ∃ (j q : Nat), j ≤ fs.length ∧ u = .int .i64 (j : Int) ∧ wr = w4.drewN q) (fun u _ => fs.length - (intOf u).toNat)
      case atStart => exact ⟨0, 0, Nat.zero_le _, rfl, rfl⟩
      case round =>
        obtain ⟨j, q, hj, rfl, rfl⟩ := hrel
        by_cases hjl : j < fs.length
        · have hjI : (j : Int) < (fs.length : Int) := by omega
          have hl6 : 0 < (frs fs).length := by rw [frs_len]; omega
          have HJ : Hid (j + 1 ≤ fs.length) := Lib.hid hjl
          obtain ⟨b5, o5, rfl, _, _, _, _⟩ := HL5.out.some hl6
          obtain ⟨b6, o6, rfl, _, _, _, _⟩ := HL6.out.some hl6
          have hc5 := RdL.elem Fr.cells 6 (fun _ => rfl) HL5.out hjl
          have hc6 := RdL.elem Fr.cells 6 (fun _ => rfl) HL6.out hjl
          have hne := frame_same' fs[j]
          generalize fs[j] = f at *
          have g0 : w4.cell? ⟨b5, o5 + j * 6, none⟩ = some (.int .i64 f.k) := hc5 0 _ (by decide) rfl
          have g1 : w4.cell? ⟨b5, o5 + j * 6 + 1, none⟩ = some (.int .u16 (f.q : Int)) := hc5 1 _ (by decide) rfl
          have g2 : w4.cell? ⟨b5, o5 + j * 6 + 2, none⟩ = some (.int .u32 (f.t : Int)) := hc5 2 _ (by decide) rfl
          have g3 : w4.cell? ⟨b5, o5 + j * 6 + 3, none⟩ = some (.int .i32 f.a) := hc5 3 _ (by decide) rfl
          have g4 : w4.cell? ⟨b5, o5 + j * 6 + 4, none⟩ = some (.int .i32 f.b) := hc5 4 _ (by decide) rfl
          have g5 : w4.cell? ⟨b5, o5 + j * 6 + 5, none⟩ = some (.int .i32 f.c) := hc5 5 _ (by decide) rfl
          have k0 : w4.cell? ⟨b6, o6 + j * 6, none⟩ = some (.int .i64 f.k) := hc6 0 _ (by decide) rfl
          have k1 : w4.cell? ⟨b6, o6 + j * 6 + 1, none⟩ = some (.int .u16 (f.q : Int)) := hc6 1 _ (by decide) rfl
          have k2 : w4.cell? ⟨b6, o6 + j * 6 + 2, none⟩ = some (.int .u32 (f.t : Int)) := hc6 2 _ (by decide) rfl
          have k3 : w4.cell? ⟨b6, o6 + j * 6 + 3, none⟩ = some (.int .i32 f.a) := hc6 3 _ (by decide) rfl
          have k4 : w4.cell? ⟨b6, o6 + j * 6 + 4, none⟩ = some (.int .i32 f.b) := hc6 4 _ (by decide) rfl
          have k5 : w4.cell? ⟨b6, o6 + j * 6 + 5, none⟩ = some (.int .i32 f.c) := hc6 5 _ (by decide) rfl
          clear hc5 hc6 hl6
          go_wp2
          go_quiet (fail)
          go_wp2
          go_roundw
          case rel => exact ⟨j + 1, _, HJ.out, by go_num, rfl⟩
          case measure => have := HJ.out; simp [intOf]; omega
        · obtain rfl : j = fs.length := by omega
          have hge : ¬ (fs.length : Int) < (fs.length : Int) := by omega
          go_wp2_with fail
          with_reducible refine (hwk _).mono ?_
          rintro e w9 ⟨rfl, hb9⟩
          have HB9 := Lib.hid hb9
          clear hb9
          go_wp2
          go_ret
          exact ⟨rfl, _root_.Go.Proofs.Ytijijfggppnbpaa.bt (below_drewN HKp.out q) HB9.out⟩
end Frm
end Go.Proofs.Ytijijfggppnbpaa
