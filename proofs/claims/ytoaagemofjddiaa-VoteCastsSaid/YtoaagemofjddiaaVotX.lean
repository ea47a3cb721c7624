/-
  The walk of package vote's cast.
-/
import Derived.Test.YtoaagemofjddiaaVotR4
import Derived.Deep.DeepCutAuto
import Derived.Deep.QuietTactic
namespace Go.Proofs.Ytoaagemofjddiaa
open Go.RowKit
set_option linter.unusedVariables false
namespace Vot

/-- the panel and the samples, in memory -/
structure CX (w : World) (lo hi : Nat) (AL : Option Addr) (l : List Sa) (g : Nat) (q : Pa) (wr : World) : Prop where
  box : Blk wr g 69 (pac q)
  rd : RdL wr lo hi AL (l.flatMap sac)
  keep : w.grownBy wr (some g)
  far : g < lo ∨ hi ≤ g
  hi : hi ≤ w.heap.size
  lt : g < w.heap.size
section
variable {w wr w' : World} {lo hi : Nat} {AL : Option Addr} {l : List Sa} {g : Nat} {q : Pa}
theorem CX.next (S : CX w lo hi AL l g q wr) (hb : Below wr.heap.size wr w') : CX w lo hi AL l g q w' :=
  ⟨S.box.next hb, S.rd.next hb, only_trans S.keep (only_below hb _), S.far, S.hi, S.lt⟩
theorem CX.drewN (S : CX w lo hi AL l g q wr) (k : Nat) : CX w lo hi AL l g q (wr.drewN k) :=
  ⟨S.box.drewN k, S.rd.drewN k, only_drewN S.keep k, S.far, S.hi, S.lt⟩
theorem CX.drew (S : CX w lo hi AL l g q wr) : CX w lo hi AL l g q wr.drew := S.drewN 1
/-- a block behind all has turned -/
theorem CX.grown (S : CX w lo hi AL l g q wr) {r : Option Nat} (hg : wr.grownBy w' r) (hr : ∀ k, r = some k → w.heap.size ≤ k) : CX w lo hi AL l g q w' :=
  ⟨S.box.grown hg (fun e => by have := hr _ e.symm; have := S.lt; omega), S.rd.grown hg (fun k e => .inr (by have := hr _ e; have := S.hi; omega)),
    ⟨hg.os.trans S.keep.os, hg.tape.trans S.keep.tape, hg.output.trans S.keep.output, Nat.le_trans S.keep.size hg.size, fun i hi hne => (hg.block i (Nat.lt_of_lt_of_le hi S.keep.size) (fun e => by have := hr _ e.symm; omega)).trans (S.keep.block i hi hne)⟩,
    S.far, S.hi, S.lt⟩
theorem CX.sk (S : CX w lo hi AL l g q wr) {i s : Nat} (h : i < q.out.length) (hl : q.st.length = q.out.length) (h5 : q.out.length ≤ 5) : CX w lo hi AL l g (q.put i s (q.is i)) (wr.setCell ⟨g, 3 + i, none⟩ (.int .i64 (s : Int))) :=
  ⟨by have := S.box.put (3 + i) (.int .i64 (s : Int)); rw [pac_set_sk q h hl h5] at this; exact this, S.rd.far S.far _, only_set S.keep _ _, S.far, S.hi, S.lt⟩
theorem CX.os (S : CX w lo hi AL l g q wr) {i : Nat} {b : Bool} (h : i < q.out.length) (hl : q.st.length = q.out.length) (h5 : q.out.length ≤ 5) : CX w lo hi AL l g (q.put i (q.sk i) b) (wr.setCell ⟨g, 8 + i, none⟩ (.bool b)) :=
  ⟨by have := S.box.put (8 + i) (.bool b); rw [pac_set_is q h hl h5] at this; exact this, S.rd.far S.far _, only_set S.keep _ _, S.far, S.hi, S.lt⟩
theorem CX.cells (S : CX w lo hi AL l g q wr) : wr.cell? ⟨g, 0, Option.none⟩ = some (.int .i64 (q.out.length : Int)) ∧ wr.cell? ⟨g, 1, Option.none⟩ = some (.int .i64 q.ap) ∧ wr.cell? ⟨g, 2, Option.none⟩ = some (.int .i64 q.most) ∧
    wr.cell? ⟨g, 3, Option.none⟩ = some (.int .i64 (q.sk 0 : Int)) ∧ wr.cell? ⟨g, 4, Option.none⟩ = some (.int .i64 (q.sk 1 : Int)) ∧ wr.cell? ⟨g, 5, Option.none⟩ = some (.int .i64 (q.sk 2 : Int)) ∧ wr.cell? ⟨g, 6, Option.none⟩ = some (.int .i64 (q.sk 3 : Int)) ∧ wr.cell? ⟨g, 7, Option.none⟩ = some (.int .i64 (q.sk 4 : Int)) ∧
    wr.cell? ⟨g, 8, Option.none⟩ = some (.bool (q.is 0)) ∧ wr.cell? ⟨g, 9, Option.none⟩ = some (.bool (q.is 1)) ∧ wr.cell? ⟨g, 10, Option.none⟩ = some (.bool (q.is 2)) ∧ wr.cell? ⟨g, 11, Option.none⟩ = some (.bool (q.is 3)) ∧ wr.cell? ⟨g, 12, Option.none⟩ = some (.bool (q.is 4)) :=
  ⟨S.box.cell 0, S.box.cell 1, S.box.cell 2, S.box.cell 3, S.box.cell 4, S.box.cell 5, S.box.cell 6, S.box.cell 7, S.box.cell 8, S.box.cell 9, S.box.cell 10, S.box.cell 11, S.box.cell 12⟩
theorem CX.isc (S : CX w lo hi AL l g q wr) {i : Nat} (h : i < 5) : wr.cell? ⟨g, 8 + i, Option.none⟩ = some (.bool (q.is i)) := (S.box.cell (8 + i)).trans (pac_is q h)
theorem CX.skc (S : CX w lo hi AL l g q wr) {i : Nat} (h : i < 5) : wr.cell? ⟨g, 3 + i, Option.none⟩ = some (.int .i64 (q.sk i : Int)) := (S.box.cell (3 + i)).trans (pac_sk q h)
theorem CX.free (S : CX w lo hi AL l g q wr) (i : Nat) : wr.frozen? ⟨g, i, none⟩ = false := S.box.free i
end
/-- what a cast does, of the program -/
def GotX (w : World) (g : Nat) (p : Pa) (l : List Sa) (e : Ending) (w' : World) : Prop :=
  e = .returned (.tuple #[.int .i64 (mid (told0 p l)), .bool (decide (0 < (told0 p l).length))]) ∧ Blk w' g 69 (pac (castAll p l)) ∧ w.grownBy w' (some g)
/-- the numbers that may be told, of one channel -/
theorem tells_of (l : List Sa) (i : Nat) : tells l i = (decide (i < l.length) && here l i && decide (-1099511627776 ≤ xat l i) && decide (xat l i ≤ 1099511627776)) := rfl
theorem fine_far {ap x m : Int} : (decide (x - m ≤ ap) && decide (m - x ≤ ap)) = !decide (ap < max x m - min x m) := by
  by_cases h1 : x - m ≤ ap <;> by_cases h2 : m - x ≤ ap
  · rw [decide_eq_true h1, decide_eq_true h2, decide_eq_false (by omega)]; rfl
  · rw [decide_eq_true h1, decide_eq_false h2, decide_eq_true (by omega)]; rfl
  · rw [decide_eq_false h1, decide_eq_true h2, decide_eq_true (by omega)]; rfl
  · rw [decide_eq_false h1, decide_eq_false h2, decide_eq_true (by omega)]; rfl
set_option maxRecDepth 100000 in
set_option maxHeartbeats 4000000 in
theorem cast_any {w : World} {lo hi g cap : Nat} {p : Pa} {AL : Option Addr} {l : List Sa} (P : Blk w g 69 (pac p)) (R : RdL w lo hi AL (l.flatMap sac)) {B : Nat} (hok : p.ok B) (hB : B ≤ 1000) (hhi : hi ≤ w.heap.size) (hfar : g < lo ∨ hi ≤ g) :
    Calls Try.prog 36 #[.pointer (some ⟨g, 0, none⟩), .slice AL l.length cap] w (GotX w g p l) := by
  obtain ⟨i0, hi0, hz0, hz1, hz2⟩ := info_parts info64
  have H0 := Lib.hid (⟨P, R, only_refl _ _, hfar, hhi, P.lt⟩ : CX w lo hi AL l g p w)
  have HOK := Lib.hid hok
  have h5 := hok.five
  have q0 := (H0.out.cells).1
  obtain ⟨N, hN⟩ : ∃ N, N = min p.out.length l.length := ⟨_, rfl⟩
  have hmin : min (p.out.length : Int) (l.length : Int) = (N : Int) := by omega
  have hN1 : N ≤ p.out.length := by omega
  have hN2 : N ≤ l.length := by omega
  have HTM := Lib.hid (told_min p.out l p.out.length)
  rw [← hN] at HTM
  clear P R hok hhi hfar hN
  go_enter Try.func36, Try.ntmps36
  go_wp2_with fail
  go_loopw [6, 19] (fun v u wr => ∃ i : Nat, i ≤ N ∧ u = .int .i64 (i : Int) ∧ CX w lo hi AL l g p wr ∧ wr.ownsRow w.heap.size 2 1 v (told p.out l i).length ((told p.out l i).map (Value.int .i64))) (fun _ u _ => N - (intOf u).toNat)
  case atStart => exact ⟨0, by omega, rfl, H0.out, World.ownsRow_nil _ _ _ _⟩
  case round =>
    clear H0 q0
    obtain ⟨i, hile, rfl, hS, hown⟩ := hrel
    have HS := Lib.hid hS
    have HW := Lib.hid hown
    have htl := told_len p.out l i
    have hsz := hS.keep.size
    clear hS hown
    by_cases hlt : i < N
    · have hltI : (i : Int) < (N : Int) := by omega
      have i0' : (0 : Int) ≤ (i : Int) := by omega
      have i5 : (i : Int) < 5 := by omega
      have hil : i < l.length := by omega
      have hilI : (i : Int) < (l.length : Int) := by omega
      have y1 : IntKind.i64.wrap ((i : Int) + 1) = (i : Int) + 1 := IntWalk.i64_in _ (by omega)
      have qi := HS.out.isc (i := i) (by omega)
      obtain ⟨bs, os, rfl, hbsh, hbss, x0, x1⟩ := sam_cells HS.out.rd hil
      have hte := tells_of l i
      rw [decide_eq_true hil, Bool.true_and] at hte
      cases hb : p.is i with
      | true =>
        rw [hb] at qi
        have HT := Lib.hid (told_no (l := l) (k := i) (o := p.out) (.inl hb))
        clear hte
        go_wp2_with fail
        go_roundw
        case rel => exact ⟨i + 1, by omega, by go_num, HS.out, by rw [HT.out]; exact HW.out⟩
        case measure => simp [intOf]; omega
      | false =>
        rw [hb] at qi
        cases hh : here l i with
        | false =>
          rw [hh] at hte x0
          have HT := Lib.hid (told_no (l := l) (k := i) (o := p.out) (.inr hte))
          clear hte
          go_wp2_with fail
          go_roundw
          case rel => exact ⟨i + 1, by omega, by go_num, HS.out, by rw [HT.out]; exact HW.out⟩
          case measure => simp [intOf]; omega
        | true =>
          rw [hh] at hte x0
          rw [Bool.true_and] at hte
          have Hx := Lib.hid hte
          have hty := fun h => told_yes (l := l) (k := i) (o := p.out) hb h
          have htn := fun h => told_no (l := l) (k := i) (o := p.out) (.inr h)
          have HTY := Lib.hid hty
          have HTN := Lib.hid htn
          clear hte hty htn
          generalize xat l i = x at *
          by_cases g1 : -1099511627776 ≤ x
          · have d1 : decide (-1099511627776 ≤ x) = true := decide_eq_true g1
            by_cases g2 : x ≤ 1099511627776
            · have d2 : decide (x ≤ 1099511627776) = true := decide_eq_true g2
              have HT := Lib.hid (HTY.out (by rw [Hx.out, d1, d2]; rfl))
              clear HTY HTN Hx
              generalize hT : told p.out l i = T at *
              clear hT
              go_wp2_with (
                at_builtin
                refine wpList_append_mine ?_ (.tmp 52) (.tmp 58) 60 ?_ w.heap.size 2 i0 (.int .i64 0) 1 8 Try.underlying60 hi0 hz0 hz1 hz2 ?_ ?_ _ T.length (T.map (Value.int .i64)) ?_ (own_next HW.out (bl _ _)) (some ⟨wr.heap.size, 0, none⟩) 1 1 [.int .i64 x] ?_ ?_ ?_ ?_ ?_ ?_ ?_ ?_ ?_
                · rfl
                · rfl
                · rfl
                · decide
                · rfl
                · rfl
                · rfl
                · intro h; cases h
                · intro ad h; injection h with h; subst h; exact cell_one_new _ _ _
                · simp [Value.oneCell']
                · unfold maxLen; omega
                · omega
                · simp; omega
                intro v1 w1 own1 grow1 hw1
                have HS1 := Lib.hid ((HS.out.next (bl _ _)).grown grow1 (fun k hk => (own_lt HW.out hk).1))
                have HO1 := Lib.hid own1
                clear own1 grow1 hw1)
              go_roundw
              case rel =>
                refine ⟨i + 1, by omega, by go_num, HS1.out, ?_⟩
                rw [HT.out, List.length_append, List.map_append]
                exact HO1.out
              case measure => simp [intOf]; omega
            · have d2 : decide (x ≤ 1099511627776) = false := decide_eq_false g2
              have HT := Lib.hid (HTN.out (by rw [Hx.out, d1, d2]; rfl))
              clear HTY HTN Hx
              go_wp2_with fail
              go_roundw
              case rel => exact ⟨i + 1, by omega, by go_num, HS.out, by rw [HT.out]; exact HW.out⟩
              case measure => simp [intOf]; omega
          · have d1 : decide (-1099511627776 ≤ x) = false := decide_eq_false g1
            have HT := Lib.hid (HTN.out (by rw [Hx.out, d1]; rfl))
            clear HTY HTN Hx
            go_wp2_with fail
            go_roundw
            case rel => exact ⟨i + 1, by omega, by go_num, HS.out, by rw [HT.out]; exact HW.out⟩
            case measure => simp [intOf]; omega
    · obtain rfl : i = N := by omega
      obtain ⟨AT, ct, rfl, hrd, _, _, _⟩ := own_rd HW.out
      have hbnd := told_bnd p.out l p.out.length
      have hT0 : told0 p l = told p.out l p.out.length := rfl
      rw [HTM.out] at hrd ⊢
      have htl := told_len p.out l p.out.length
      unfold GotX
      rw [hT0]
      have hcA : castAll p l = cast p (mid (told p.out l p.out.length)) (decide (0 < (told p.out l p.out.length).length)) l p.out.length := rfl
      have HCA := Lib.hid hcA
      have hq0 := (HS.out.cells).1
      clear hT0 hcA HTM
      generalize hTT : told p.out l p.out.length = T at *
      have HTT := Lib.hid (show told0 p l = T from hTT)
      clear hTT
      have hmid := mid64_any (c := ct) T (by omega) hrd
      have hmb := mid_bnd (l := T) (a := -1099511627776) (b := 1099511627776) (by omega) (by omega) hbnd
      generalize hMM : mid T = m at *
      have HMM := Lib.hid hMM
      clear hMM
      generalize hOO : decide (0 < T.length) = ok at *
      have HOO := Lib.hid hOO
      clear hOO
      clear hbnd hrd HW
      go_wp2_with fail
      refine hmid.mono ?_
      rintro e w1 ⟨rfl, hb1⟩
      have HB0 := Lib.hid (HS.out.next hb1)
      have q0 := (HB0.out.cells).1
      clear HS hmid hb1 hsz hq0
      go_wp2_with fail
      clear q0
      go_loopw [70] (fun u wx => ∃ i : Nat, i ≤ p.out.length ∧ u = .int .i64 (i : Int) ∧ CX w lo hi AL l g (cast p m ok l i) wx) (fun u _ => p.out.length - (intOf u).toNat)
      case atStart => exact ⟨0, by omega, rfl, HB0.out⟩
      case round =>
        clear HB0
        obtain ⟨i, hile, rfl, hcb⟩ := hrel
        have HC := Lib.hid hcb
        clear hcb
        by_cases hlt : i < p.out.length
        · have hkept := cast_kept HOK.out m ok l i (by omega)
          have hilen : (cast p m ok l i).out.length = p.out.length := hkept.out
          have hltI : (i : Int) < (p.out.length : Int) := by omega
          have i0' : (0 : Int) ≤ (i : Int) := by omega
          have i5 : (i : Int) < 5 := by omega
          have y1 : IntKind.i64.wrap ((i : Int) + 1) = (i : Int) + 1 := IntWalk.i64_in _ (by omega)
          have qi := HC.out.isc (i := i) (by omega)
          rw [hkept.still i (Nat.le_refl _)] at qi
          cases hb : p.is i with
          | true =>
            have hc := Lib.hid (cast_skip (m := m) (ok := ok) (l := l) hb)
            rw [hb] at qi
            clear hkept hilen
            go_wp2_with fail
            go_roundw
            case rel => exact ⟨i + 1, by omega, by go_num, by rw [hc.out]; exact HC.out⟩
            case measure => simp [intOf]; omega
          | false =>
            rw [hb] at qi
            have HK := Lib.hid hkept
            have HBb := Lib.hid hb
            clear hkept hb
            have hap := HK.out.ap
            have HAP := Lib.hid hap
            have HIL := Lib.hid hilen
            clear hap hilen
            generalize hQ : cast p m ok l i = q at *
            have HQ := Lib.hid hQ
            clear hQ
            go_wp2_with fail
            go_cut [11] (fun s wx => s = .bool (fine p.ap m ok l i) ∧ CX w lo hi AL l g q wx)
            case first =>
              cases ok with
              | false =>
                go_quiet (fail)
                go_wp2_with fail
                go_meet
                exact ⟨rfl, HC.out.drewN _⟩
              | true =>
                by_cases hil : i < l.length
                · obtain ⟨bs, os, rfl, hbsh, hbss, x0, x1⟩ := sam_cells HC.out.rd hil
                  have hilI : (i : Int) < (l.length : Int) := by omega
                  have dil : decide (i < l.length) = true := decide_eq_true hil
                  have hF : fine p.ap m true l i = (tells l i && decide (xat l i - m ≤ p.ap) && decide (m - xat l i ≤ p.ap)) := rfl
                  rw [tells_of, dil, Bool.true_and] at hF
                  have hs : ∀ w', CX w lo hi (some ⟨bs, os, none⟩) l g q w' → CX w lo hi (some ⟨bs, os, none⟩) l g q w' ∧ w'.cell? ⟨bs, os + i * 2, none⟩ = some (.bool (here l i)) ∧ w'.cell? ⟨bs, os + i * 2 + 1, none⟩ = some (.int .i64 (xat l i)) ∧ w'.cell? ⟨g, 0, Option.none⟩ = some (.int .i64 (q.out.length : Int)) ∧ w'.cell? ⟨g, 1, Option.none⟩ = some (.int .i64 q.ap) ∧ w'.cell? ⟨g, 2, Option.none⟩ = some (.int .i64 q.most) ∧ w'.cell? ⟨g, 3, Option.none⟩ = some (.int .i64 (q.sk 0 : Int)) ∧ w'.cell? ⟨g, 4, Option.none⟩ = some (.int .i64 (q.sk 1 : Int)) ∧ w'.cell? ⟨g, 5, Option.none⟩ = some (.int .i64 (q.sk 2 : Int)) ∧ w'.cell? ⟨g, 6, Option.none⟩ = some (.int .i64 (q.sk 3 : Int)) ∧ w'.cell? ⟨g, 7, Option.none⟩ = some (.int .i64 (q.sk 4 : Int)) ∧ w'.cell? ⟨g, 8, Option.none⟩ = some (.bool (q.is 0)) ∧ w'.cell? ⟨g, 9, Option.none⟩ = some (.bool (q.is 1)) ∧ w'.cell? ⟨g, 10, Option.none⟩ = some (.bool (q.is 2)) ∧ w'.cell? ⟨g, 11, Option.none⟩ = some (.bool (q.is 3)) ∧ w'.cell? ⟨g, 12, Option.none⟩ = some (.bool (q.is 4)) := fun w' h => by
                    obtain ⟨b', o', e, _, _, u0, u1⟩ := sam_cells h.rd hil
                    injection e with e
                    injection e with e1 e2
                    subst e1 e2
                    exact ⟨h, u0, u1, h.cells⟩
                  cases hh : here l i with
                  | false =>
                    rw [hh] at x0 hF
                    have HF := Lib.hid hF
                    clear hF hs
                    go_quiet (fail)
                    go_wp2_with fail
                    go_meet
                    exact ⟨by rw [HF.out]; rfl, HC.out.drewN _⟩
                  | true =>
                    rw [hh] at x0 hF hs
                    rw [Bool.true_and] at hF
                    have HF := Lib.hid hF
                    clear hF hh
                    generalize xat l i = x at *
                    by_cases g1 : -1099511627776 ≤ x
                    · have d1 : decide (-1099511627776 ≤ x) = true := decide_eq_true g1
                      by_cases g2 : x ≤ 1099511627776
                      · have d2 : decide (x ≤ 1099511627776) = true := decide_eq_true g2
                        have hfr := fun w => far_any q (a := x) (b := m) ⟨g1, g2⟩ hmb w
                        unfold pac at hfr
                        have Hs := Lib.hid hs
                        clear hs x0 x1 qi
                        go_region_held3 (fun w' => CX w lo hi (some ⟨bs, os, none⟩) l g q w' ∧ w'.cell? ⟨bs, os + i * 2, none⟩ = some (.bool true) ∧ w'.cell? ⟨bs, os + i * 2 + 1, none⟩ = some (.int .i64 x) ∧ w'.cell? ⟨g, 0, Option.none⟩ = some (.int .i64 (q.out.length : Int)) ∧ w'.cell? ⟨g, 1, Option.none⟩ = some (.int .i64 q.ap) ∧ w'.cell? ⟨g, 2, Option.none⟩ = some (.int .i64 q.most) ∧ w'.cell? ⟨g, 3, Option.none⟩ = some (.int .i64 (q.sk 0 : Int)) ∧ w'.cell? ⟨g, 4, Option.none⟩ = some (.int .i64 (q.sk 1 : Int)) ∧ w'.cell? ⟨g, 5, Option.none⟩ = some (.int .i64 (q.sk 2 : Int)) ∧ w'.cell? ⟨g, 6, Option.none⟩ = some (.int .i64 (q.sk 3 : Int)) ∧ w'.cell? ⟨g, 7, Option.none⟩ = some (.int .i64 (q.sk 4 : Int)) ∧ w'.cell? ⟨g, 8, Option.none⟩ = some (.bool (q.is 0)) ∧ w'.cell? ⟨g, 9, Option.none⟩ = some (.bool (q.is 1)) ∧ w'.cell? ⟨g, 10, Option.none⟩ = some (.bool (q.is 2)) ∧ w'.cell? ⟨g, 11, Option.none⟩ = some (.bool (q.is 3)) ∧ w'.cell? ⟨g, 12, Option.none⟩ = some (.bool (q.is 4)))
                          (first
                            | exact Hs.out _ HC.out.drew
                            | assumption
                            | exact Hs.out _ (CX.next (And.left ‹CX _ _ _ _ _ _ _ _ ∧ _›) (by assumption)))
                          ((go_at_call 59; (with_reducible refine (hfr _).mono ?_); rintro e w' ⟨rfl, hb⟩))
                        go_wp2_with fail
                        go_meet
                        exact ⟨by rw [HF.out, d1, d2, HAP.out, Bool.true_and, Bool.true_and, fine_far], And.left ‹CX _ _ _ _ _ _ _ _ ∧ _›⟩
                      · have d2 : decide (x ≤ 1099511627776) = false := decide_eq_false g2
                        clear hs
                        go_quiet (fail)
                        go_wp2_with fail
                        go_meet
                        exact ⟨by rw [HF.out, d1, d2]; rfl, HC.out.drewN _⟩
                    · have d1 : decide (-1099511627776 ≤ x) = false := decide_eq_false g1
                      clear hs
                      go_quiet (fail)
                      go_wp2_with fail
                      go_meet
                      exact ⟨by rw [HF.out, d1]; rfl, HC.out.drewN _⟩
                · have hF : fine p.ap m true l i = false := by unfold fine; rw [tells_out (by omega)]; rfl
                  have dil : decide (i < l.length) = false := decide_eq_false hil
                  have HF := Lib.hid hF
                  clear hF
                  go_quiet (fail)
                  go_wp2_with fail
                  go_meet
                  exact ⟨by rw [HF.out], HC.out.drewN _⟩
            obtain ⟨rfl, hC2⟩ := hcut
            have HC2 := Lib.hid hC2
            clear qi HC hC2
            have hi' : i < q.out.length := by have := HIL.out; omega
            have h5' : q.out.length ≤ 5 := by have := HIL.out; omega
            have hql : q.st.length = q.out.length := (HK.out.ok HOK.out).len
            have HQL := Lib.hid hql
            have hqk := HC2.out.skc (i := i) (by omega)
            have f1 := HC2.out.free (3 + i)
            have f2 := HC2.out.free (8 + i)
            have hmo := HK.out.most
            have HMO := Lib.hid hmo
            have hfew := HK.out.few i
            clear hql hmo
            cases hf : fine p.ap m ok l i with
            | true =>
              have hc := Lib.hid (cast_fine HBb.out hf)
              clear hf
              have hS := HC2.out.sk (s := 0) hi' HQL.out h5'
              have HS := Lib.hid (by have := hS.os (i := i) (b := false) (by rw [(put_len _ _ _ _).2]; exact hi') (by rw [(put_len _ _ _ _).1, (put_len _ _ _ _).2]; exact HQL.out) (by rw [(put_len _ _ _ _).2]; exact h5'); rw [put_put, (put_out q 0 (q.is i) hi' HQL.out).2] at this; exact this)
              have hqi : q.is i = false := (HK.out.still i (Nat.le_refl _)).trans HBb.out
              rw [hqi] at hS
              have HS1 := Lib.hid hS
              clear hS hqi
              go_wp2_with fail
              go_roundw
              case rel => exact ⟨i + 1, by omega, by go_num, by rw [hc.out, HQ.out]; exact HS1.out⟩
              case measure => simp [intOf]; omega
            | false =>
              have hc := Lib.hid (cast_struck HBb.out hf)
              rw [HQ.out, ← HMO.out] at hc
              clear hf
              have hqi : q.is i = false := (HK.out.still i (Nat.le_refl _)).trans HBb.out
              have hS : CX w lo hi AL l g (q.put i (q.sk i + 1) (q.is i)) (wc.setCell ⟨g, 3 + i, none⟩ (.int .i64 ((q.sk i : Int) + 1))).drew := (HC2.out.sk (s := q.sk i + 1) hi' HQL.out h5').drew
              have hP1 := put_out q (q.sk i + 1) (q.is i) hi' HQL.out
              have hP2 := put_len q i (q.sk i + 1) (q.is i)
              have hP3 : ins (q.put i (q.sk i + 1) (q.is i)).out = ins q.out := by
                rw [hqi]
                have := ins_set q.out i false (by
                  have h1 : q.out.getD i false = false := hqi
                  rw [List.getD_eq_getElem?_getD, List.getElem?_eq_getElem hi'] at h1 ⊢
                  simpa using h1)
                simpa [Pa.put] using this
              have hP4 : ∀ b, (q.put i (q.sk i + 1) (q.is i)).put i (q.sk i + 1) b = q.put i (q.sk i + 1) b := fun b => put_put _ _ _ _ _ _
              have hP5 : (q.put i (q.sk i + 1) (q.is i)).most = q.most := rfl
              have hP6 : (q.put i (q.sk i + 1) (q.is i)).put i (q.sk i + 1) false = (q.put i (q.sk i + 1) (q.is i)) := by rw [hP4, hqi]
              have HS := Lib.hid hS
              have y2 : IntKind.i64.wrap ((q.sk i : Int) + 1) = (q.sk i : Int) + 1 := IntWalk.i64_in _ (by omega)
              clear hS hqi
              go_wp2_with fail
              go_region
              clear hqk f1 f2 y2
              generalize (wc.setCell ⟨g, 3 + i, none⟩ (.int .i64 ((q.sk i : Int) + 1))).drew = wz at *
              generalize q.put i (q.sk i + 1) (q.is i) = q1 at *
              rw [← hP1.2] at hc hP4 hP6
              rw [← hP3, ← hP5] at hc
              simp only [← hP4] at hc
              have HP6 := Lib.hid hP6
              have hi1 : i < q1.out.length := by omega
              have h51 : q1.out.length ≤ 5 := by omega
              have hil1 := hP2.1.trans (HQL.out.trans hP2.2.symm)
              have HIL1 := Lib.hid hil1
              clear hP1 hP2 hP3 hP4 hP5 hP6 hil1
              have hsk1 := HS.out.skc (i := i) (by omega)
              have c2 := (HS.out.cells).2.2.1
              have f2 := HS.out.free (8 + i)
              go_wp2_with fail
              go_cut [155] (fun s wx => s = .bool (decide (q1.most ≤ (q1.sk i : Int)) && decide (1 < ins q1.out)) ∧ CX w lo hi AL l g q1 wx)
              case first =>
                by_cases hD : q1.most ≤ (q1.sk i : Int)
                · have dD : decide (q1.most ≤ (q1.sk i : Int)) = true := decide_eq_true hD
                  have hfr := fun w => in_any q1 h51 w
                  unfold pac at hfr
                  clear hsk1 c2 f2
                  have hs : ∀ w', CX w lo hi AL l g q1 w' → (CX w lo hi AL l g q1 w' ∧ w'.cell? ⟨g, 3 + i, Option.none⟩ = some (.int .i64 (q1.sk i : Int)) ∧ w'.cell? ⟨g, 0, Option.none⟩ = some (.int .i64 (q1.out.length : Int)) ∧ w'.cell? ⟨g, 1, Option.none⟩ = some (.int .i64 q1.ap) ∧ w'.cell? ⟨g, 2, Option.none⟩ = some (.int .i64 q1.most) ∧ w'.cell? ⟨g, 3, Option.none⟩ = some (.int .i64 (q1.sk 0 : Int)) ∧ w'.cell? ⟨g, 4, Option.none⟩ = some (.int .i64 (q1.sk 1 : Int)) ∧ w'.cell? ⟨g, 5, Option.none⟩ = some (.int .i64 (q1.sk 2 : Int)) ∧ w'.cell? ⟨g, 6, Option.none⟩ = some (.int .i64 (q1.sk 3 : Int)) ∧ w'.cell? ⟨g, 7, Option.none⟩ = some (.int .i64 (q1.sk 4 : Int)) ∧ w'.cell? ⟨g, 8, Option.none⟩ = some (.bool (q1.is 0)) ∧ w'.cell? ⟨g, 9, Option.none⟩ = some (.bool (q1.is 1)) ∧ w'.cell? ⟨g, 10, Option.none⟩ = some (.bool (q1.is 2)) ∧ w'.cell? ⟨g, 11, Option.none⟩ = some (.bool (q1.is 3)) ∧ w'.cell? ⟨g, 12, Option.none⟩ = some (.bool (q1.is 4))) := fun w' X => ⟨X, X.skc (i := i) (by omega), X.cells⟩
                  have Hs := Lib.hid hs
                  clear hs
                  go_region_held3 (fun w' => CX w lo hi AL l g q1 w' ∧ w'.cell? ⟨g, 3 + i, Option.none⟩ = some (.int .i64 (q1.sk i : Int)) ∧ w'.cell? ⟨g, 0, Option.none⟩ = some (.int .i64 (q1.out.length : Int)) ∧ w'.cell? ⟨g, 1, Option.none⟩ = some (.int .i64 q1.ap) ∧ w'.cell? ⟨g, 2, Option.none⟩ = some (.int .i64 q1.most) ∧ w'.cell? ⟨g, 3, Option.none⟩ = some (.int .i64 (q1.sk 0 : Int)) ∧ w'.cell? ⟨g, 4, Option.none⟩ = some (.int .i64 (q1.sk 1 : Int)) ∧ w'.cell? ⟨g, 5, Option.none⟩ = some (.int .i64 (q1.sk 2 : Int)) ∧ w'.cell? ⟨g, 6, Option.none⟩ = some (.int .i64 (q1.sk 3 : Int)) ∧ w'.cell? ⟨g, 7, Option.none⟩ = some (.int .i64 (q1.sk 4 : Int)) ∧ w'.cell? ⟨g, 8, Option.none⟩ = some (.bool (q1.is 0)) ∧ w'.cell? ⟨g, 9, Option.none⟩ = some (.bool (q1.is 1)) ∧ w'.cell? ⟨g, 10, Option.none⟩ = some (.bool (q1.is 2)) ∧ w'.cell? ⟨g, 11, Option.none⟩ = some (.bool (q1.is 3)) ∧ w'.cell? ⟨g, 12, Option.none⟩ = some (.bool (q1.is 4)))
                    (first
                      | exact Hs.out _ HS.out.drew
                      | assumption
                      | exact Hs.out _ (CX.next (And.left ‹CX _ _ _ _ _ _ _ _ ∧ _›) (by assumption)))
                    ((go_at_call 38; (with_reducible refine (hfr _).mono ?_); rintro e w' ⟨rfl, hb⟩))
                  go_wp2_with fail
                  go_meet
                  refine ⟨?_, And.left ‹CX _ _ _ _ _ _ _ _ ∧ _›⟩
                  rw [dD, Bool.true_and]
                  congr 1
                  rw [decide_eq_decide]
                  omega
                · have dD : decide (q1.most ≤ (q1.sk i : Int)) = false := decide_eq_false hD
                  go_quiet (fail)
                  go_wp2_with fail
                  go_meet
                  exact ⟨by rw [dD]; rfl, HS.out.drewN _⟩
              obtain ⟨rfl, hS2⟩ := hcut
              have HS2 := Lib.hid hS2
              clear hS2 HS hsk1 c2 f2
              rename_i wy
              have f2 := HS2.out.free (8 + i)
              have qi2 := HS2.out.isc (i := i) (by omega)
              have hfin := HS2.out.os (i := i) (b := true) hi1 HIL1.out h51
              have HFIN := Lib.hid hfin
              clear hfin
              cases hbb : (decide (q1.most ≤ (q1.sk i : Int)) && decide (1 < ins q1.out)) with
              | true =>
                rw [hbb] at hc
                clear hbb
                go_wp2_with fail
                go_roundw
                case rel => exact ⟨i + 1, by omega, by go_num, by rw [hc.out]; exact HFIN.out⟩
                case measure => simp [intOf]; omega
              | false =>
                rw [hbb] at hc
                clear hbb
                go_wp2_with fail
                go_roundw
                case rel => exact ⟨i + 1, by omega, by go_num, by rw [hc.out, HP6.out]; exact HS2.out⟩
                case measure => simp [intOf]; omega
        · obtain rfl : i = p.out.length := by omega
          have q0 := (HC.out.cells).1
          rw [← HCA.out] at HC
          go_wp2_with fail
          go_ret2
          refine ⟨?_, HC.out.box, HC.out.keep⟩
          rw [HTT.out, HMM.out, HOO.out]
          rfl
end Vot
end Go.Proofs.Ytoaagemofjddiaa
