/-
  The walk of the reference of package text: the words of a line.
-/
import Derived.Test.YtijijfggppnbpaaTxtW7
namespace Go.Proofs.Ytijijfggppnbpaa
open Go.RowKit
set_option linter.unusedVariables false
namespace Txt

set_option maxRecDepth 100000 in
set_option maxHeartbeats 1000000 in
theorem yWords_any (l : List UInt8) (hl : l.length ≤ 1000000) (w : World) :
    Calls Try.prog 35 #[.string (tx l)] w (GotW w l) := by
  obtain ⟨i0, hi, hz0, hz1, hz2⟩ := info_parts infoStr
  have hsz := tx_size l
  by_cases hlong : 80 < l.length
  · have hw : words l = none := by unfold words; rw [if_pos hlong]
    generalize l.length = m at *
    have hI : (80 : Int) < (m : Int) := by omega
    go_enter Try.func35, Try.ntmps35
    go_wp2_with fail
    refine bodyPost_ret (results_tmp2 rfl _ _ _) rfl ?_
    exact ⟨⟨_, _, rfl, .inr ⟨hw, rfl, rfl⟩⟩, Below.refl _ _⟩
  · have hwd : words l = wl (l ++ [32]) [] [] := by unfold words; rw [if_neg hlong]
    obtain ⟨tl, htl⟩ : ∃ tl, tl = l ++ [32] := ⟨_, rfl⟩
    have htn : tl.length = l.length + 1 := by rw [htl, List.length_append]; rfl
    have hmid : ∀ a b, b ≤ l.length → mid tl a b = mid l a b := fun a b h => by rw [htl]; exact mid_app l [32] a b h
    have hat : ∀ i (h : i < l.length) (h2 : i < tl.length), tl[i] = l[i] := fun i h h2 => by subst htl; exact List.getElem_append_left h
    have hlast : ∀ (h2 : l.length < tl.length), tl[l.length] = 32 := fun h2 => by subst htl; simp
    rw [← htl] at hwd
    have hcut : ∀ a b, (tx l).extract a b = tx (mid l a b) := fun a b => tx_cut l a b
    obtain ⟨m, hm⟩ : ∃ m, l.length = m := ⟨_, rfl⟩
    have hlast2 : ∀ i (h2 : i < tl.length), i = m → tl[i] = 32 := fun i h2 e => by subst e; subst hm; exact hlast h2
    rw [hm] at hsz hlong htn hmid hl
    have hI : ¬ (80 : Int) < (m : Int) := by omega
    have HM := Lib.hid hm
    have HAt := Lib.hid hat
    have HLast := Lib.hid hlast2
    have Hwd := Lib.hid hwd
    have Htn := Lib.hid htn
    have Hmid := Lib.hid hmid
    have Hcut := Lib.hid hcut
    clear hwd htl htn hmid hcut hm hat hlast hlast2
    go_enter Try.func35, Try.ntmps35
    go_wp2_with fail
    go_loopw [4, 5, 6] (fun v f i wr => ∃ (pos from_ : Nat) (out : List (List UInt8)), pos ≤ m + 1 ∧ from_ ≤ pos ∧ out.length ≤ pos ∧ f = .int .i64 (from_ : Int) ∧ i = .int .i64 (pos : Int) ∧ wr.ownsRow w.heap.size 9 1 v out.length (out.map sv) ∧ Below w.heap.size w wr ∧ wl (tl.drop pos) (mid tl from_ pos) out = wl tl [] []) (fun _ _ i _ => m + 1 - (intOf i).toNat)
    case atStart => exact ⟨0, 0, [], by omega, by omega, by simp, rfl, rfl, World.ownsRow_nil _ _ _ _, Below.refl _ _, rfl⟩
    case round =>
      obtain ⟨pos, fr, out, hpm, hfp, hop, rfl, rfl, hown, hb, hwl⟩ := hrel
      have Hown := Lib.hid hown
      have Hb := Lib.hid hb
      have Hwl := Lib.hid hwl
      have hsw := hb.size
      clear hown hb hwl
      by_cases hlt : pos < m + 1
      · have hlt2 : pos < tl.length := by rw [Htn.out]; exact hlt
        have hle : (pos : Int) ≤ (m : Int) := by omega
        have y1 : IntKind.i64.wrap ((pos : Int) + 1) = (pos : Int) + 1 := IntWalk.i64_in _ (by omega)
        have h0p : (0 : Int) ≤ (pos : Int) := by omega
        obtain ⟨c, hc⟩ : ∃ c, tl[pos] = c := ⟨_, rfl⟩
        have hcases : (∃ h : pos < l.length, (pos : Int) < (m : Int) ∧ l[pos] = c) ∨ (¬ (pos : Int) < (m : Int) ∧ c = 32) := by
          by_cases h : pos < m
          · have h2 : pos < l.length := by rw [HM.out]; exact h
            exact .inl ⟨h2, by omega, by rw [← hc]; exact (HAt.out pos h2 hlt2).symm⟩
          · exact .inr ⟨by omega, by rw [← hc]; exact HLast.out pos hlt2 (by omega)⟩
        by_cases h32 : c = 32
        · subst h32
          have hwb := wl_blank tl fr pos hfp hlt2 hc out
          rw [Hwl.out] at hwb
          by_cases hfr : fr = pos
          · rw [if_pos hfr] at hwb
            have hbb : ((pos : Int) == (fr : Int)) = true := beq_iff_eq.2 (by omega)
            have Hwb := Lib.hid hwb
            clear hwb hc
            subst hfr
            rcases hcases with ⟨h2, hpI, hlc⟩ | ⟨hpI, _⟩
            · have hgx : (tx l)[fr]'(by rw [hsz]; omega) = 32 := hlc
              clear hlc
              go_wp2_with fail
              refine bodyPost_ret (results_tmp2 rfl _ _ _) rfl ?_
              exact ⟨⟨_, _, rfl, .inr ⟨by rw [Hwd.out]; exact Hwb.out, rfl, rfl⟩⟩, Hb.out⟩
            · go_wp2_with fail
              refine bodyPost_ret (results_tmp2 rfl _ _ _) rfl ?_
              exact ⟨⟨_, _, rfl, .inr ⟨by rw [Hwd.out]; exact Hwb.out, rfl, rfl⟩⟩, Hb.out⟩
          · rw [if_neg hfr] at hwb
            have hbb : ((pos : Int) == (fr : Int)) = false := beq_eq_false_iff_ne.2 (by omega)
            have hx := Hcut.out fr pos
            rw [← Hmid.out fr pos (by omega)] at hx
            have Hwb := Lib.hid hwb
            have e1 : (0 : Int) ≤ (fr : Int) := by omega
            have e2 : (fr : Int) ≤ (pos : Int) := by omega
            have hgx : ∀ h2 : pos < l.length, l[pos] = 32 → (tx l)[pos]'(by rw [hsz, ← HM.out]; exact h2) = 32 := fun h2 h => h
            have Hgx := Lib.hid hgx
            clear hwb hc hgx
            generalize mid tl fr pos = wd at *
            rcases hcases with ⟨h2, hpI, hlc⟩ | ⟨hpI, _⟩
            · have hgx := Hgx.out h2 hlc
              clear hlc
              go_wp2_with (at_builtin; refine wpList_append_own _ rfl _ _ 55 rfl w.heap.size 9 i0 (.string { data := #[] }) 1 16 Try.underlying55 hi hz0 hz1 hz2 rfl (by decide) _ _ _ rfl (Hown.out.alloc _) ⟨wr.heap.size, 0, none⟩ 1 1 [sv wd] rfl rfl (cell_one_new _ _ _) (by simp [sv, Value.oneCell']) (by unfold maxLen; omega) (by omega) (by simp; omega) ?_; intro v' w2 hown2 hgrow _; have Hown2 := Lib.hid hown2; have Hgrow := Lib.hid hgrow; clear hown2 hgrow)
              go_roundw
              case rel =>
                refine ⟨pos + 1, pos + 1, out ++ [wd], by omega, by omega, by rw [List.length_append]; simp; omega, by go_num, by go_num, ?_, ?_, ?_⟩
                · rw [List.length_append, List.map_append]; exact Hown2.out
                · exact (Hb.out.alloc hsw _).grown Hgrow.out (by simp; omega) fun q hq => (own_lt Hown.out hq).1
                · rw [show mid tl (pos + 1) (pos + 1) = [] from (mid_nil tl _ _ (Nat.le_refl _) (by omega)).2 rfl]; exact Hwb.out.symm
              case measure => first | (simp [intOf]; done) | (simp [intOf]; omega)
            · go_wp2_with (at_builtin; refine wpList_append_own _ rfl _ _ 55 rfl w.heap.size 9 i0 (.string { data := #[] }) 1 16 Try.underlying55 hi hz0 hz1 hz2 rfl (by decide) _ _ _ rfl (Hown.out.alloc _) ⟨wr.heap.size, 0, none⟩ 1 1 [sv wd] rfl rfl (cell_one_new _ _ _) (by simp [sv, Value.oneCell']) (by unfold maxLen; omega) (by omega) (by simp; omega) ?_; intro v' w2 hown2 hgrow _; have Hown2 := Lib.hid hown2; have Hgrow := Lib.hid hgrow; clear hown2 hgrow)
              go_roundw
              case rel =>
                refine ⟨pos + 1, pos + 1, out ++ [wd], by omega, by omega, by rw [List.length_append]; simp; omega, by go_num, by go_num, ?_, ?_, ?_⟩
                · rw [List.length_append, List.map_append]; exact Hown2.out
                · exact (Hb.out.alloc hsw _).grown Hgrow.out (by simp; omega) fun q hq => (own_lt Hown.out hq).1
                · rw [show mid tl (pos + 1) (pos + 1) = [] from (mid_nil tl _ _ (Nat.le_refl _) (by omega)).2 rfl]; exact Hwb.out.symm
              case measure => first | (simp [intOf]; done) | (simp [intOf]; omega)
        · have hms := mid_skip tl fr pos 1 hfp (by omega) out (fun k hk hk1 => by
            obtain rfl : k = 0 := by omega
            show tl[pos] ≠ 32
            rw [hc]
            exact h32)
          rw [Hwl.out] at hms
          have Hms := Lib.hid hms
          rcases hcases with ⟨h2, hpI, hlc⟩ | ⟨hpI, he⟩
          · have hgx : (tx l)[pos]'(by rw [hsz, ← HM.out]; exact h2) = c := hlc
            have hcb : ((c.toNat : Int) == 32) = false := beq_eq_false_iff_ne.2 fun e => h32 (UInt8.toNat_inj.1 (show c.toNat = 32 by omega))
            clear hlc hms hc h32
            go_wp2_with fail
            go_roundw
            case rel => exact ⟨pos + 1, fr, out, by omega, by omega, by omega, rfl, by go_num, Hown.out, Hb.out, Hms.out.symm⟩
            case measure => first | (simp [intOf]; done) | (simp [intOf]; omega)
          · exact absurd he h32
      · obtain rfl : pos = m + 1 := by omega
        have hle : ¬ ((m + 1 : Nat) : Int) ≤ (m : Int) := by omega
        have hwl := Hwl.out
        rw [List.drop_of_length_le (by rw [Htn.out]; exact Nat.le_refl _)] at hwl
        have Hw2 := Lib.hid hwl
        clear hwl
        go_wp2_with fail
        refine bodyPost_ret (results_tmp2 rfl _ _ _) rfl ?_
        exact ⟨⟨_, _, rfl, .inl ⟨out, by rw [Hwd.out]; exact Hw2.out.symm, rfl, Hown.out⟩⟩, Hb.out⟩
end Txt
end Go.Proofs.Ytijijfggppnbpaa
