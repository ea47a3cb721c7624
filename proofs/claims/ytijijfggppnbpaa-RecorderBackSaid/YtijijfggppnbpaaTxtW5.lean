/-
  The walks of package text and of its reference: is a text a number?
-/
import Derived.Test.YtijijfggppnbpaaTxtW4
namespace Go.Proofs.Ytijijfggppnbpaa
open Go.RowKit
set_option linter.unusedVariables false
namespace Txt

set_option maxRecDepth 100000 in
set_option maxHeartbeats 1000000 in
theorem xIsNumber_any (l : List UInt8) (hl : l.length ≤ 1000000) (w : World) :
    Calls Try.prog 32 #[.string (tx l)] w fun e w' => e = .returned (.tuple #[.int .i64 (resV l), .bool (isNum l)]) ∧ Below w.heap.size w w' := by
  have htl := tx_list l
  have htrim := fun w => trim_any l w
  obtain ⟨hng, hbl⟩ := body_len l
  obtain ⟨ds, hds⟩ : ∃ d, body l = d := ⟨_, rfl⟩
  have hnil := no_nil (l := l)
  have hlong := no_long (l := l)
  have hlead := no_lead (l := l)
  have hdig := fun p hp h => no_digit (l := l) (p := p) hp h
  have hyes := yes_num (l := l)
  have hval : numVal l = if neg l then -(val (body l) : Int) else (val (body l) : Int) := rfl
  rw [hds] at htrim hng hbl hnil hlong hlead hyes hval
  have htd := tx_list ds
  have hs1 := tx_size ds
  have hs2 := tx_size l
  have Hds := Lib.hid hds
  clear hds
  obtain ⟨n, hn⟩ : ∃ n, ds.length = n := ⟨_, rfl⟩
  obtain ⟨m, hm⟩ : ∃ m, l.length = m := ⟨_, rfl⟩
  rw [hn] at hs1 hng hbl hlong hyes
  rw [hm] at hs2 hng hbl hl
  have Hn := Lib.hid hn
  have Hval := Lib.hid hval
  have Hyes := Lib.hid hyes
  have Hdig := Lib.hid hdig
  have hdm : decide (n < m) = neg l := hng.symm
  clear hn hm hval hyes hdig hng
  generalize neg l = ng at *
  by_cases he : ds = []
  · have hi := hnil he
    have hr := isNum_no l hi
    have heb : (ds == []) = true := beq_iff_eq.2 he
    clear hnil hlong hlead
    rw [hi, hr]
    clear hi hr he
    go_enter Try.func32, Try.ntmps32
    go_wp2_with fail
    refine (htrim _).mono ?_
    rintro e w2 ⟨rfl, rfl⟩
    go_wp2_with fail
    refine bodyPost_ret (results_tmp2 rfl _ _ _) rfl ?_
    exact ⟨rfl, Below.refl _ _⟩
  · have hne := he
    have heb : (ds == []) = false := beq_eq_false_iff_ne.2 he
    obtain ⟨a, t, hat⟩ := List.exists_cons_of_ne_nil he
    have hn1 : 1 ≤ n := by have := Hn.out; rw [hat] at this; simp at this; omega
    have hg0 : (tx ds)[0]'(by omega) = a := by subst hat; rfl
    have hhd : ds.head? = some a := by rw [hat]; rfl
    have Hne := Lib.hid hne
    clear he hne hnil hat
    by_cases hln : 18 < n
    · have hi := hlong hln
      have hr := isNum_no l hi
      have d1 : decide ((18 : Int) < (n : Int)) = true := decide_eq_true (by omega)
      have d2 : decide (18 < n) = true := decide_eq_true (by omega)
      clear hlong hlead hhd
      rw [hi, hr]
      clear hi hr
      go_enter Try.func32, Try.ntmps32
      go_wp2_with fail
      refine (htrim _).mono ?_
      rintro e w2 ⟨rfl, rfl⟩
      go_wp2_with fail
      refine bodyPost_ret (results_tmp2 rfl _ _ _) rfl ?_
      exact ⟨rfl, Below.refl _ _⟩
    · have d1 : decide ((18 : Int) < (n : Int)) = false := decide_eq_false (by omega)
      have d2 : decide (18 < n) = false := decide_eq_false (by omega)
      have i0 : (0 : Int) < (n : Int) := by omega
      clear hlong
      by_cases hld : a = 48 ∧ l ≠ [48]
      · obtain ⟨ha, hl48⟩ := hld
        subst ha
        have hi := hlead hhd hl48
        have hr := isNum_no l hi
        have e1 : (l == [48]) = false := beq_eq_false_iff_ne.2 hl48
        clear hlead hhd
        rw [hi, hr]
        clear hi hr hl48
        go_enter Try.func32, Try.ntmps32
        go_wp2_with fail
        refine (htrim _).mono ?_
        rintro e w2 ⟨rfl, rfl⟩
        go_wp2_with fail
        refine bodyPost_ret (results_tmp2 rfl _ _ _) rfl ?_
        exact ⟨rfl, Below.refl _ _⟩
      · have hnl : ¬ (ds.head? = some 48 ∧ l ≠ [48]) := by rw [hhd]; exact fun h => hld ⟨Option.some.inj h.1, h.2⟩
        have hcase : (a = 48 ∧ (l == [48]) = true) ∨ (((a.toNat : Int) == 48) = false) := by
          by_cases ha : a = 48
          · refine .inl ⟨ha, ?_⟩
            by_cases h48 : l = [48]
            · exact beq_iff_eq.2 h48
            · exact absurd ⟨ha, h48⟩ hld
          · refine .inr (beq_eq_false_iff_ne.2 fun e => ha (UInt8.toNat_inj.1 ?_))
            show a.toNat = 48
            omega
        have hyes : ds.all isD = true → isNum l = true ∧ resV l = if ng = true then -(val ds : Int) else (val ds : Int) := fun h => by
          have hy := Hyes.out Hne.out (by omega) hnl h
          exact ⟨hy, by rw [isNum_yes l hy, Hval.out]⟩
        have hno : ∀ (p : Nat) (hp : p < ds.length), isD ds[p] = false → isNum l = false ∧ resV l = 0 := fun p hp h => by
          have hd := Hdig.out
          rw [Hds.out] at hd
          have hy := hd p hp h
          exact ⟨hy, isNum_no l hy⟩
        have HY := Lib.hid hyes
        have HNo := Lib.hid hno
        clear hlead hhd hld hnl Hyes hyes hno Hval Hdig Hds
        generalize resV l = R at *
        generalize isNum l = I at *
        cases ng <;> rcases hcase with ⟨rfl, hb48⟩ | hb48
        all_goals
          go_enter Try.func32, Try.ntmps32
          go_wp2_with fail
          refine (htrim _).mono ?_
          rintro e w2 ⟨rfl, rfl⟩
          go_wp2_with fail
          go_loopw [6, 8] (fun x _ wr => ∃ pos : Nat, pos ≤ n ∧ wr = w.iter (tx ds) pos ∧ x = .int .i64 (val (ds.take pos) : Int) ∧ (ds.take pos).all isD = true) (fun _ _ w' => n - w'.iterPos w.heap.size)
          case atStart => exact ⟨0, by omega, rfl, rfl, rfl⟩
          case round =>
            obtain ⟨pos, hpn, rfl, rfl, hall⟩ := hrel
            have Hall := Lib.hid hall
            clear hall
            by_cases hlt : pos < n
            · have hlt2 : pos < ds.length := by rw [Hn.out]; exact hlt
              obtain ⟨c, hc⟩ : ∃ c, ds[pos] = c := ⟨_, rfl⟩
              by_cases hasc : c.toNat < 128
              · have hnx : ∀ ty, (Instr.next (.pointer (some ⟨w.heap.size, 0, none⟩)) true ty).run Try.prog (w.iter (tx ds) pos) = .ok (.tuple #[.bool true, .int .i64 pos, .int .i32 (c.toNat : Int)]) (w.iter (tx ds) (pos + 1)) := fun ty => by
                  rw [run_next_any w (tx ds) pos ty hlt2, dec_low ds pos hlt2 (by rw [hc]; exact hasc), hc]
                by_cases hd : 48 ≤ c.toNat ∧ c.toNat ≤ 57
                · have hdd : isD c = true := decide_eq_true hd
                  have htk := take_next ds pos hlt2
                  rw [hc] at htk
                  have hvn := val_snoc (ds.take pos) c
                  rw [← htk] at hvn
                  have hx17 := val_lt _ Hall.out
                  rw [List.length_take, Nat.min_eq_left (by omega)] at hx17
                  have hx18 : val (ds.take pos) < 10 ^ 17 := Nat.lt_of_lt_of_le hx17 (Nat.pow_le_pow_right (by decide) (by omega))
                  have hall2 : (ds.take (pos + 1)).all isD = true := by rw [htk, List.all_append, Hall.out]; simp [hdd]
                  have Hvn := Lib.hid hvn
                  have Hall2 := Lib.hid hall2
                  clear hall2 hvn htk hx17 hdd
                  generalize val (ds.take pos) = X at *
                  obtain ⟨d, hdk⟩ : ∃ d, d = c.toNat - 48 := ⟨_, rfl⟩
                  rw [← hdk] at Hvn
                  have t1 : decide ((c.toNat : Int) < 48) = false := decide_eq_false (by omega)
                  have t2 : decide ((57 : Int) < (c.toNat : Int)) = false := decide_eq_false (by omega)
                  have y1 : IntKind.i64.wrap (10 * (X : Int)) = 10 * (X : Int) := IntWalk.i64_in _ (by omega)
                  have y2 : IntKind.i32.wrap ((c.toNat : Int) - 48) = (d : Int) := by rw [IntKind.wrap_i32]; omega
                  have y3 : IntKind.i64.wrap (d : Int) = (d : Int) := IntWalk.i64_in _ (by omega)
                  have y4 : IntKind.i64.wrap (10 * (X : Int) + (d : Int)) = ((10 * X + d : Nat) : Int) := by rw [IntWalk.i64_in _ (by omega)]; omega
                  have Hc := Lib.hid hc
                  clear hc hdk hd hasc
                  go_wp2_with fail
                  go_roundw
                  case rel => exact ⟨pos + 1, by omega, rfl, by rw [Hvn.out]; first | rfl | (congr 1; omega), Hall2.out⟩
                  case measure => simp; omega
                · obtain ⟨hI, hR⟩ := HNo.out pos hlt2 (by rw [hc]; exact decide_eq_false hd)
                  subst hI hR
                  have hcs : c.toNat < 48 ∨ (¬ c.toNat < 48 ∧ 57 < c.toNat) := by omega
                  have Hc := Lib.hid hc
                  clear hc hd hasc HY HNo
                  rcases hcs with h1 | ⟨h1, h2⟩
                  · have t1 : decide ((c.toNat : Int) < 48) = true := decide_eq_true (by omega)
                    go_wp2_with fail
                    refine bodyPost_ret (results_tmp2 rfl _ _ _) rfl ?_
                    exact ⟨rfl, bl _ _⟩
                  · have t1 : decide ((c.toNat : Int) < 48) = false := decide_eq_false (by omega)
                    have t2 : decide ((57 : Int) < (c.toNat : Int)) = true := decide_eq_true (by omega)
                    go_wp2_with fail
                    refine bodyPost_ret (results_tmp2 rfl _ _ _) rfl ?_
                    exact ⟨rfl, bl _ _⟩
              · obtain ⟨r, k, hdec, hr1, hr2, hk1, hk2, _⟩ := dec_high ds pos hlt2 (by rw [hc]; omega)
                have hnx : ∀ ty, (Instr.next (.pointer (some ⟨w.heap.size, 0, none⟩)) true ty).run Try.prog (w.iter (tx ds) pos) = .ok (.tuple #[.bool true, .int .i64 pos, .int .i32 (r : Int)]) (w.iter (tx ds) (pos + k)) := fun ty => by
                  rw [run_next_any w (tx ds) pos ty hlt2, hdec]
                obtain ⟨hI, hR⟩ := HNo.out pos hlt2 (by rw [hc]; exact decide_eq_false (by omega))
                subst hI hR
                have t1 : decide ((r : Int) < 48) = false := decide_eq_false (by omega)
                have t2 : decide ((57 : Int) < (r : Int)) = true := decide_eq_true (by omega)
                clear hdec hc hasc HY HNo
                go_wp2_with fail
                refine bodyPost_ret (results_tmp2 rfl _ _ _) rfl ?_
                exact ⟨rfl, bl _ _⟩
            · obtain rfl : pos = n := by omega
              have hnx : ∀ ty, (Instr.next (.pointer (some ⟨w.heap.size, 0, none⟩)) true ty).run Try.prog (w.iter (tx ds) pos) = .ok (.tuple #[.bool false]) (w.iter (tx ds) pos) := fun ty => run_next_end w (tx ds) pos ty (by rw [hs1]; exact hlt)
              have htk : ds.take pos = ds := List.take_of_length_le (by rw [Hn.out]; exact Nat.le_refl _)
              have hall := Hall.out
              have hx17 := val_lt _ Hall.out
              rw [htk] at hall hx17
              rw [Hn.out] at hx17
              have hx18 : val ds < 10 ^ 18 := Nat.lt_of_lt_of_le hx17 (Nat.pow_le_pow_right (by decide) (by omega))
              obtain ⟨hI, hR⟩ := HY.out hall
              rw [htk]
              clear htk hall hx17 HY HNo Hall
              generalize val ds = X at *
              subst hI hR
              have y1 : IntKind.i64.wrap (-(X : Int)) = -(X : Int) := IntWalk.i64_in _ (by omega)
              go_wp2_with fail
              refine bodyPost_ret (results_tmp2 rfl _ _ _) rfl ?_
              exact ⟨rfl, bl _ _⟩
end Txt
end Go.Proofs.Ytijijfggppnbpaa
