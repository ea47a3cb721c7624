/-
  The walk of the law BitsRead.
-/
import Derived.Test.YtgncngpgodfijaaBitsL
import Derived.Deep.RegionHeld3
import Derived.Deep.DeepCutAuto
namespace Go.Proofs.Ytgncngpgodfijaa
open Go.RowKit
set_option linter.unusedVariables false
namespace Bits

/-- a reader, and a row of the bits that are left -/
structure RS (w0 : World) (gr : Nat) (B : List UInt8) (pos : Nat) (A : Option Addr) (m cap : Nat) (w : World) : Prop where
  rb : RB w gr B pos false
  hrow : RdL w (gr + 1) w.heap.size A (lv ((row B).drop pos))
  hm : m = 8 * B.length - pos
  hpos : pos ≤ 8 * B.length
  hcap : m ≤ cap
  hnone : A = none → m = 0 ∧ cap = 0
  bel : Below w0.heap.size w0 w
  hr : w0.heap.size ≤ gr
section
variable {w0 w w' : World} {gr pos pos' m cap : Nat} {B : List UInt8} {A : Option Addr}
theorem RS.next (h : RS w0 gr B pos A m cap w) (hb : Below w.heap.size w w') : RS w0 gr B pos A m cap w' :=
  ⟨h.rb.below hb h.rb.lt, (h.hrow.next hb).wide (Nat.le_refl _) hb.size, h.hm, h.hpos, h.hcap, h.hnone, _root_.Go.Proofs.Ytgncngpgodfijaa.bt h.bel hb, h.hr⟩
theorem RS.drew (h : RS w0 gr B pos A m cap w) : RS w0 gr B pos A m cap w.drew := h.next (Below.refl _ _).drew
/-- the reader has gone on, the row not yet -/
theorem RS.read (h : RS w0 gr B pos A m cap w) (hg : w.grownBy w' (some gr)) : RdL w' (gr + 1) w'.heap.size A (lv ((row B).drop pos)) ∧ Below w0.heap.size w0 w' :=
  ⟨(h.hrow.grown hg (fun g e => by injection e with e; omega)).wide (Nat.le_refl _) hg.size, bgrow h.bel hg h.bel.size h.hr⟩
theorem RS.len (h : RS w0 gr B pos A m cap w) : ((row B).drop pos).length = m := by rw [rest_len, h.hm]
end
theorem lv_drop (l : List Bool) (k : Nat) : (lv l).drop k = lv (l.drop k) := by simp [lv]
theorem lv_take (l : List Bool) (k : Nat) : (lv l).take k = lv (l.take k) := by simp [lv]
/-- where a slice from one on begins -/
theorem RdL.cut {w : World} {lo hi : Nat} {A : Option Addr} {l : List Value} (h : RdL w lo hi A l) (k cap : Nat) (hc : l.length ≤ cap) :
    RdL w lo hi (if cap = k then A else A.map (fun a => a.add k)) (l.drop k) := by
  by_cases hk : cap = k
  · rw [if_pos hk]
    exact .inl (List.drop_eq_nil_of_le (by omega))
  · rw [if_neg hk]
    cases A with
    | none =>
      rcases h with rfl | ⟨b, off, e, _⟩
      · exact .inl (by simp)
      · cases e
    | some a =>
      rcases h with rfl | ⟨b, off, e, h1, h2, h3, hcc⟩
      · exact .inl (by simp)
      · injection e with e
        subst e
        show RdL w lo hi (some (Addr.add ⟨b, off, none⟩ k)) (l.drop k)
        rw [add_off]
        exact RdL.drop (.inr ⟨b, off, rfl, h1, h2, h3, hcc⟩) k
theorem RS.go {w0 w w' : World} {gr pos m cap : Nat} {B : List UInt8} {A : Option Addr} (h : RS w0 gr B pos A m cap w) (k : Nat) (hk : k ≤ m) (hg : w.grownBy w' (some gr)) (hrb : RB w' gr B (pos + k) false) :
    RS w0 gr B (pos + k) (if cap = k then A else A.map (fun a => a.add k)) (m - k) (cap - k) w' := by
  obtain ⟨h1, h2⟩ := h.read hg
  have hm := h.hm
  have hp := h.hpos
  have hc := h.hcap
  refine ⟨hrb, ?_, by omega, by omega, by omega, ?_, h2, h.hr⟩
  · have := RdL.cut h1 k cap (by rw [lv_len, h.len]; exact hc)
    rw [lv_drop, List.drop_drop] at this
    exact this
  · intro e
    by_cases hk2 : cap = k
    · rw [if_pos hk2] at e; have := h.hnone e; omega
    · rw [if_neg hk2] at e
      cases A with
      | none => have := h.hnone rfl; omega
      | some a => cases e
theorem onesOk_iff (l : List Bool) (most : Nat) : (onesOk l most = true ∧ ones l = (lead l : Int) ∧ lead l < l.length ∧ lead l ≤ most) ∨ (onesOk l most = false ∧ (ones l < 0 ∨ (most : Int) < ones l)) := by
  unfold onesOk ones
  by_cases h1 : lead l < l.length
  · rw [decide_eq_true h1, if_pos h1, Bool.true_and]
    by_cases h2 : lead l ≤ most
    · exact .inl ⟨decide_eq_true h2, rfl, h1, h2⟩
    · exact .inr ⟨decide_eq_false h2, .inr (by omega)⟩
  · rw [decide_eq_false h1, if_neg h1]
    exact .inr ⟨rfl, .inl (by omega)⟩

set_option maxRecDepth 100000 in
set_option maxHeartbeats 1000000 in
theorem lawRead_any (A0 A : Option Addr) (B : List UInt8) (L : List Pt) (n0 cap0 n cap most : Nat) (w : World) (hb0 : RdL w 0 w.heap.size A0 (B.map bv)) (hA0 : A0 = none → n0 = 0 ∧ cap0 = 0) (hB : B.length = n0)
    (hrd : RdL w 0 w.heap.size A (L.flatMap ptc)) (hp : ∀ p ∈ L, okPt p) (hl : L.length = n) (hn0 : n0 ≤ maxLen) (hn : n ≤ maxLen) (hm : most ≤ 255) :
    Calls Try.prog 5 #[.slice A0 n0 cap0, .slice A n cap, .int .u8 (most : Int)] w fun e w' => e = .returned (.bool true) ∧ Below w.heap.size w w' := by
  have HR := Lib.hid hrd
  have HP := Lib.hid hp
  have Hl := Lib.hid hl
  have HB0 := Lib.hid hb0
  have HA0 := Lib.hid hA0
  have HB := Lib.hid hB
  clear hrd hp hl hb0 hA0 hB
  unfold maxLen at hn hn0
  by_cases h200 : n0 ≤ 200 ∧ n ≤ 60
  · obtain ⟨h200, h60⟩ := h200
    have hd200 : decide ((200 : Int) < (n0 : Int)) = false := decide_eq_false (by omega)
    have hd60 : decide ((60 : Int) < (n : Int)) = false := decide_eq_false (by omega)
    go_enter Try.func5, Try.ntmps5
    go_wp2_with fail
    refine (read_any A0 B n0 cap0 _ _ _ HB0.out HB.out HA0.out (by omega)).mono ?_
    rintro e w1 ⟨gr, rfl, h1, hgr, hb1⟩
    have H1 := Lib.hid h1
    have HB1 := Lib.hid (HB0.out.next hb1)
    have hsz1 := hb1.size
    have hgl := h1.lt
    clear h1
    have hpn : ∀ w : World, (binOp .eql 39 (.pointer (some ⟨gr, 0, none⟩)) (.pointer none)).run Try.prog w = .ok (.bool false) w := fun w => by kernel_rfl
    go_wp2_with fail
    refine (frow_any A0 B n0 cap0 _ _ _ HB1.out hsz1 HB.out (by omega)).mono ?_
    rintro e w2 ⟨⟨v2, rfl, hown2⟩, hb2⟩
    rw [lv_len, row_len, HB.out] at hown2
    obtain ⟨A2, cap2, rfl, hrd2, hc2, _, hn2⟩ := own_rd hown2
    have hrs : RS w gr B 0 A2 (8 * n0) cap2 w2 := ⟨H1.out.below hb2 hgl, by simpa using hrd2.wide (by omega) (Nat.le_refl _), by rw [HB.out]; rfl, by omega, hc2, hn2, _root_.Go.Proofs.Ytgncngpgodfijaa.bt hb1 hb2, hgr⟩
    have Hrs := Lib.hid hrs
    clear hown2 hrd2 hc2 hn2 hb2 hb1 H1 HB1 hrs hgr hgl hsz1
    generalize 8 * n0 = m2 at *
    go_wp2
    go_loopw [8, 9] (fun x i wr => ∃ (k pos : Nat) (A' : Option Addr) (m' cap' : Nat), k ≤ n ∧ i = .int .i64 (k : Int) ∧ x = .slice A' m' cap' ∧ RS w gr B pos A' m' cap' wr) (fun _ i _ => n - (intOf i).toNat)
    case atStart => exact ⟨0, 0, _, _, _, by omega, rfl, rfl, Hrs.out⟩
    case round =>
      clear Hrs
      obtain ⟨k, pos, A', m', cap', hk, rfl, rfl, hrs⟩ := hrel
      have Hrs := Lib.hid hrs
      clear hrs
      have hBl : B.length ≤ 100000 := by rw [HB.out]; omega
      have HBl := Lib.hid hBl
      have hmb : m' ≤ 1600 := by have := Hrs.out.hm; have := HB.out; omega
      have hmc := Hrs.out.hcap
      clear hBl
      by_cases hlt : k < n
      · have hkl : k < L.length := by rw [Hl.out]; exact hlt
        obtain ⟨b, off, rfl, _, hbw, _, _⟩ := HR.out.some (by rw [flatMap_len ptc 2 ptc_len]; omega)
        have hc := HR.out.elem ptc 2 ptc_len hkl
        have hk0 : w.cell? ⟨b, off + k * 2, none⟩ = some (.int .u8 (L[k].sz : Int)) := hc 0 _ (by decide) rfl
        have hop := HP.out L[k] (List.getElem_mem _)
        clear hc
        generalize L[k] = p at *
        obtain ⟨sz, x⟩ := p
        obtain ⟨hsz, _⟩ := hop
        dsimp only at hsz hk0
        have c0 := (Hrs.out.bel.cell (p := ⟨b, off + k * 2, none⟩) hbw).trans hk0
        clear hk0
        obtain ⟨kk, hkk⟩ : ∃ kk, kk = sz % 66 := ⟨_, rfl⟩
        have hkk2 : ((sz : Int) % 66) = (kk : Int) := by omega
        have Hkk := Lib.hid hkk
        clear hkk
        by_cases h65 : kk < 65
        · by_cases hsh : m' < kk
          · go_wp2_with fail
            refine (rnum_no gr B pos kk false _ Hrs.out.rb (by omega) (.inr (by have := Hrs.out.hm; omega)) Hrs.out.hpos HBl.out).mono ?_
            rintro e w3 ⟨rfl, h3, g3⟩
            have b3 := (Hrs.out.read g3).2
            have H3 := Lib.hid h3
            have Hpos := Lib.hid Hrs.out.hpos
            have hhr := Hrs.out.hr
            clear h3 g3 Hrs c0
            go_wp2_with fail
            refine (right_any gr B pos true _ H3.out).mono ?_
            rintro e w4 ⟨rfl, rfl⟩
            go_wp2_with fail
            refine (rbit_no gr B pos true _ H3.out (.inl rfl) Hpos.out HBl.out).mono ?_
            rintro e w5 ⟨rfl, h5, g5⟩
            have b5 := bgrow b3 g5 b3.size hhr
            have H5 := Lib.hid h5
            clear h5 g5 H3
            go_wp2_with fail
            refine (rnum_no gr B pos 0 true _ H5.out (by omega) (.inl rfl) Hpos.out HBl.out).mono ?_
            rintro e w6 ⟨rfl, h6, g6⟩
            have b6 := bgrow b5 g6 b5.size hhr
            have H6 := Lib.hid h6
            clear h6 g6 H5
            go_wp2_with fail
            refine (rclose_wrong gr B pos _ H6.out).mono ?_
            rintro e w7 ⟨rfl, rfl⟩
            go_wp2_with (go_at_call 14; refine (works_any _).mono ?_; rintro e w' ⟨rfl, hb⟩)
            go_ret
            exact ⟨rfl, _root_.Go.Proofs.Ytgncngpgodfijaa.bt b6 hb⟩
          · have hsh2 : kk ≤ m' := by omega
            have hkc : kk ≤ cap' := by omega
            go_upto_region 14 with (fail)
            go_cut [10, 82] (fun s10 s wx => s10 = .int .i64 (kk : Int) ∧ s = .bool false ∧ wr.grownBy wx (some gr) ∧ RB wx gr B (pos + kk) false)
            case first =>
              have HD := Lib.hid Hrs.out.drew
              refine wp_region_held_drew (S := fun _ => True) (by kernel_rfl) trivial (fun hHeld => ?_)
              refine wpAnyH_take (i := 0) (oi := ⟨some 75, _, _, _, _, _⟩) (v := ?_) rfl (by kernel_rfl) (by kernel_rfl) (by kernel_rfl) (fun _ _ _ h => h) (Or.inl ⟨by rfl, ?_⟩) (by assumption) ?_
              rotate_left
              · (intro w hSw; (try dsimp only at hSw); go_simp; try (with_reducible rfl))
              try simp only [Act.put, List.setIfInBounds_toArray, List.set_cons_zero, List.set_cons_succ]
              refine wpAnyH_take (i := 1) (oi := ⟨some 76, _, _, _, _, _⟩) (v := ?_) rfl (by kernel_rfl) (by kernel_rfl) (by kernel_rfl) (fun _ _ _ h => h) (Or.inl ⟨by rfl, ?_⟩) (by assumption) ?_
              rotate_left
              · (intro w hSw; (try dsimp only at hSw); go_simp; try (with_reducible rfl))
              try simp only [Act.put, List.setIfInBounds_toArray, List.set_cons_zero, List.set_cons_succ]
              refine wpAnyH_take (i := 3) (oi := ⟨some 78, _, _, _, _, _⟩) (v := ?_) rfl (by kernel_rfl) (by kernel_rfl) (by kernel_rfl) (fun _ _ _ h => h) (Or.inl ⟨by rfl, ?_⟩) (by assumption) ?_
              rotate_left
              · (intro w hSw; (try dsimp only at hSw); go_simp; try (with_reducible rfl))
              try simp only [Act.put, List.setIfInBounds_toArray, List.set_cons_zero, List.set_cons_succ]
              refine wpAnyH_take (i := 4) (oi := ⟨some 79, _, _, _, _, _⟩) (v := ?_) rfl (by kernel_rfl) (by kernel_rfl) (by kernel_rfl) (fun _ _ _ h => h) (Or.inl ⟨by rfl, ?_⟩) (by assumption) ?_
              rotate_left
              · (intro w hSw; (try dsimp only at hSw); go_simp; try (with_reducible rfl))
              try simp only [Act.put, List.setIfInBounds_toArray, List.set_cons_zero, List.set_cons_succ]
              refine wpAnyH_take (i := 5) (oi := ⟨some 80, _, _, _, _, _⟩) (v := ?_) rfl (by kernel_rfl) (by kernel_rfl) (by kernel_rfl) (fun _ _ _ h => h) (Or.inl ⟨by rfl, ?_⟩) (by assumption) ?_
              rotate_left
              · (intro w hSw; (try dsimp only at hSw); go_simp; try (with_reducible rfl))
              try simp only [Act.put, List.setIfInBounds_toArray, List.set_cons_zero, List.set_cons_succ]
              refine wpAnyH_ready (rs := [2]) (by kernel_rfl) (by simp) ?_
              refine AllReadyH.cons (o := ⟨some 77, _, _, _, _, _⟩) rfl (fun K hK => ?_) ?_
              · go_simp
                refine (rnum_ok gr B pos kk _ HD.out.rb (by omega) (by have := HD.out.hm; have := HD.out.hpos; omega) HBl.out).mono ?_; rintro e w2 ⟨rfl, hrb2, hg2⟩; have Hrb2 := Lib.hid hrb2; have Hg2 := Lib.hid hg2; have Hrd2 := Lib.hid (HD.out.read hg2).1; clear hrb2 hg2
                go_wp2_with fail
                refine hK.out _ _ (trivial) (fun hHeld => ?_)
                clear hK K
                try simp only [Act.put, List.setIfInBounds_toArray, List.set_cons_zero, List.set_cons_succ]
                refine wpAnyH_ready (rs := [6]) (by kernel_rfl) (by simp) ?_
                refine AllReadyH.cons (o := ⟨some 81, _, _, _, _, _⟩) rfl (fun K hK => ?_) ?_
                · go_simp
                  refine (fvalue_any _ (((row B).drop pos).take kk) kk _ _ _ _ (by have := Hrd2.out.take kk; rw [lv_take] at this; exact this) (by rw [List.length_take, HD.out.len]; omega) (by omega)).mono ?_; rintro e w4 ⟨rfl, rfl⟩
                  go_wp2_with fail
                  refine hK.out _ _ (trivial) (fun hHeld => ?_)
                  clear hK K
                  try simp only [Act.put, List.setIfInBounds_toArray, List.set_cons_zero, List.set_cons_succ]
                  refine wpAnyH_take (i := 7) (oi := ⟨some 82, _, _, _, _, _⟩) (v := ?_) rfl (by kernel_rfl) (by kernel_rfl) (by kernel_rfl) (fun _ _ _ h => h) (Or.inl ⟨by rfl, ?_⟩) (by assumption) ?_
                  rotate_left
                  · (intro w hSw; (try dsimp only at hSw); go_simp; try (with_reducible rfl))
                  try simp only [Act.put, List.setIfInBounds_toArray, List.set_cons_zero, List.set_cons_succ]
                  refine wpAnyH_done (by kernel_rfl) ?_ _
                  go_wp2_with fail
                  go_meet
                  exact ⟨rfl, rfl, only_trans (only_drew (only_refl _ _)) Hg2.out, Hrb2.out⟩
                exact AllReadyH.nil
              exact AllReadyH.nil
            case rest =>
              obtain ⟨rfl, rfl, hg, hrb⟩ := hcut
              have Hrs2 := Lib.hid (Hrs.out.go kk hsh2 hg hrb)
              clear hg hrb
              go_wp2
              go_roundw
              case rel => exact ⟨k + 1, pos + kk, _, _, _, by omega, by go_num, rfl, Hrs2.out⟩
              case measure => simp [intOf]; omega
        · go_wp2_with fail
          refine (fones_any A' ((row B).drop pos) m' cap' _ _ _ Hrs.out.hrow Hrs.out.len (by omega)).mono ?_
          rintro e w3 ⟨rfl, rfl⟩
          have hGot := rones_any gr B pos most _ Hrs.out.rb (by omega) Hrs.out.hpos HBl.out
          have hlen := Hrs.out.len
          rcases onesOk_iff ((row B).drop pos) most with ⟨hok, ho, hl1, hl2⟩ | ⟨hok, ho⟩
          · rw [ho]
            unfold GotO at hGot
            rw [hok] at hGot
            dsimp only at hGot
            rw [hlen] at hl1
            generalize lead ((row B).drop pos) = ld at *
            have Hgot := Lib.hid hGot
            have Hlen := Lib.hid hlen
            clear hGot hok ho hlen
            have hwm : IntKind.i64.wrap (most : Int) = (most : Int) := IntWalk.i64_in _ (by omega)
            go_wp2_with fail
            refine Hgot.out.mono ?_
            rintro e w4 ⟨rfl, h4, g4⟩
            have Hrs2 := Lib.hid (Hrs.out.go (ld + 1) (by omega) g4 h4)
            clear h4 g4
            go_wp2
            go_roundw
            case rel => exact ⟨k + 1, pos + (ld + 1), _, _, _, by omega, by go_num, rfl, Hrs2.out⟩
            case measure => simp [intOf]; omega
          · unfold GotO at hGot
            rw [hok] at hGot
            dsimp only at hGot
            have Hgot := Lib.hid hGot
            clear hGot hok hlen
            generalize ones ((row B).drop pos) = on at *
            have hwm : IntKind.i64.wrap (most : Int) = (most : Int) := IntWalk.i64_in _ (by omega)
            have ho2 : on < 0 ∨ (0 ≤ on ∧ (most : Int) < on) := by omega
            clear ho
            rcases ho2 with ho | ⟨ho, ho'⟩
            all_goals
              go_wp2_with fail
              refine Hgot.out.mono ?_
              rintro e w4 ⟨rfl, ⟨n4, hn4, h4⟩, g4⟩
              have b4 := (Hrs.out.read g4).2
              have H4 := Lib.hid h4
              have Hn4 := Lib.hid hn4
              have hhr := Hrs.out.hr
              clear h4 g4 Hrs c0 hn4
              go_wp2_with fail
              refine (right_any gr B n4 true _ H4.out).mono ?_
              rintro e w5 ⟨rfl, rfl⟩
              go_wp2_with fail
              refine (rones_wrong gr B n4 9 _ H4.out Hn4.out HBl.out).mono ?_
              rintro e w5 ⟨rfl, h5, g5⟩
              have b5 := bgrow b4 g5 b4.size hhr
              clear h5 g5 H4
              go_wp2_with (go_at_call 14; refine (works_any _).mono ?_; rintro e w' ⟨rfl, hb⟩)
              go_ret
              exact ⟨rfl, _root_.Go.Proofs.Ytgncngpgodfijaa.bt b5 hb⟩
      · obtain rfl : k = n := by omega
        have hlen := Hrs.out.len
        have Hlen := Lib.hid hlen
        clear hlen
        go_wp2
        go_loop [12, 13] (fun c i => ∃ j : Nat, j ≤ m' ∧ i = .int .i64 (j : Int) ∧ c = .bool (decide ((m' : Int) < 8) && (((row B).drop pos).take j).all (fun b => !b))) (fun _ i => m' - (intOf i).toNat)
        case atStart => exact ⟨0, by omega, rfl, by simp⟩
        case round =>
          obtain ⟨j, hj, rfl, rfl⟩ := hrel
          by_cases hlt : j < m'
          · have hjl : j < ((row B).drop pos).length := by rw [Hlen.out]; exact hlt
            obtain ⟨b, off, rfl, _, _, _, hc⟩ := Hrs.out.hrow.some (by rw [lv_len]; omega)
            have c0 := hc j _ (lv_get _ j hjl)
            have ht : (((row B).drop pos).take (j + 1)).all (fun b => !b) = ((((row B).drop pos).take j).all (fun b => !b) && !((row B).drop pos)[j]) := by
              rw [List.take_add_one, List.getElem?_eq_getElem hjl, List.all_append]
              simp
            have Ht := Lib.hid ht
            clear hc ht
            generalize ((row B).drop pos)[j] = x at *
            generalize (((row B).drop pos).take j).all (fun b => !b) = ac at *
            generalize hdd : decide ((m' : Int) < 8) = dd at *
            have Hdd := Lib.hid hdd
            clear hdd hjl
            cases dd <;> cases ac <;> cases x
            all_goals
              go_wp2
              go_round
              case rel => exact ⟨j + 1, by omega, by go_num, by rw [Ht.out]; rfl⟩
              case measure => simp [intOf]; omega
          · obtain rfl : j = m' := by omega
            have hcl : clean ((row B).drop pos) = (decide ((j : Int) < 8) && (((row B).drop pos).take j).all (fun b => !b)) := by
              unfold clean
              rw [Hlen.out, List.take_of_length_le (by rw [Hlen.out]; exact Nat.le_refl _)]
              congr 1
              rw [Bool.eq_iff_iff, decide_eq_true_eq, decide_eq_true_eq]
              omega
            have Hcl := Lib.hid hcl
            have hmm := Hrs.out.hm
            have Hmm := Lib.hid hmm
            clear hcl hmm
            go_wp2_with fail
            refine (left_any gr B pos false _ Hrs.out.rb Hrs.out.hpos HBl.out).mono ?_
            rintro e w3 ⟨rfl, kk, rfl⟩
            rw [← Hmm.out]
            go_wp2_with fail
            refine (rclose_any gr B pos _ (Hrs.out.rb.drewN kk) Hrs.out.hpos HBl.out).mono ?_
            rintro e w4 ⟨rfl, g4, n4, h4⟩
            rw [Hcl.out]
            have b4 := bgrow (below_drewN Hrs.out.bel kk) g4 (by have := Hrs.out.bel.size; simpa using this) Hrs.out.hr
            clear g4 h4 Hcl Hrs
            go_wp2_with (go_at_call 14; refine (works_any _).mono ?_; rintro e w' ⟨rfl, hb⟩)
            go_ret
            exact ⟨rfl, _root_.Go.Proofs.Ytgncngpgodfijaa.bt b4 hb⟩
  · by_cases h200' : n0 ≤ 200
    · have i1 : (60 : Int) < (n : Int) := by omega
      clear h200
      go_enter Try.func5, Try.ntmps5
      go_wp2_with (go_at_call 14; refine (works_any _).mono ?_; rintro e w' ⟨rfl, hb⟩)
      go_ret
      exact ⟨rfl, hb⟩
    · have i1 : (200 : Int) < (n0 : Int) := by omega
      clear h200 h200'
      go_enter Try.func5, Try.ntmps5
      go_wp2_with (go_at_call 14; refine (works_any _).mono ?_; rintro e w' ⟨rfl, hb⟩)
      go_ret
      exact ⟨rfl, hb⟩
theorem open_bytes {W : World} {v : Value} (h : VSat W (.slice (.int .u8)) false v) :
    ∃ A B cap, v = .slice A (List.length B) cap ∧ RdL W 0 W.heap.size A (B.map bv) ∧ B.length ≤ cap ∧ cap ≤ maxLen ∧ (A = none → B.length = 0 ∧ cap = 0) := by
  obtain ⟨A, B, cap, e, h1, _, h2, h3, h4⟩ := open_slice_of (fun c : UInt8 => [bv c]) (fun _ => True) (.int .u8) 1 rfl (fun _ => rfl) (by decide) (fun cs hs => by
    obtain ⟨n, rfl, hw⟩ := hs
    have hb := bounds_u8 hw
    refine ⟨UInt8.ofNat n.toNat, ?_, trivial⟩
    unfold bv
    rw [UInt8.toNat_ofNat', Nat.mod_eq_of_lt (by omega), Int.toNat_of_nonneg (by omega)]) h
  rw [flatMap_one] at h1
  exact ⟨A, B, cap, e, h1, h2, h3, h4⟩
theorem walkRead (v0 v1 v2 : Value) (W : World) (h0 : VSat W (.slice (.int .u8)) false v0) (h1 : VSat W (.slice PtSh) false v1) (h2 : VSat W (.int .u8) false v2) :
    Calls Try.prog 5 #[v0, v1, v2] W fun e W' => e = .returned (.bool true) ∧ Below W.heap.size W W' := by
  obtain ⟨A0, B, cap0, rfl, hb0, hl0, hm0, hn0⟩ := open_bytes h0
  obtain ⟨A, L, cap, rfl, hrd, hp, hl, hm, _⟩ := open_pts h1
  obtain ⟨n, e, hw⟩ := h2
  injection e with e
  subst e
  have hb := bounds_u8 hw
  obtain ⟨m, rfl⟩ : ∃ m : Nat, n = (m : Int) := ⟨n.toNat, by omega⟩
  exact lawRead_any A0 A B L B.length cap0 L.length cap m W hb0 hn0 rfl hrd hp rfl (by omega) (by omega) (by omega)
end Bits
end Go.Proofs.Ytgncngpgodfijaa
