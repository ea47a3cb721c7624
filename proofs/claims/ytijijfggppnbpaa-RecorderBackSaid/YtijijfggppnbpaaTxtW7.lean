/-
  The walks of package text and of its reference: the words of a line.
-/
import Derived.Test.YtijijfggppnbpaaTxtW6
import Derived.Lib.OthersKept
import Derived.WalkSmall
namespace Go.Proofs.Ytijijfggppnbpaa
open Go.RowKit
set_option linter.unusedVariables false
namespace Txt

theorem infoStr : (Try.prog.info? 9).map (fun i => (i.zero, i.size, i.bytes)) = some (some (.string { data := #[] }), 1, 16) := by kernel_rfl
def sv (l : List UInt8) : Value := .string (tx l)
/-- words that were told, or none -/
def GotW (w : World) (l : List UInt8) (e : Ending) (w' : World) : Prop :=
  (∃ v b, e = .returned (.tuple #[v, .bool b]) ∧ ((∃ out, words l = some out ∧ b = true ∧ w'.ownsRow w.heap.size 9 1 v out.length (out.map sv)) ∨ (words l = none ∧ b = false ∧ v = .slice none 0 0))) ∧ Below w.heap.size w w'
theorem mid_app (l r : List UInt8) (a b : Nat) (hb : b ≤ l.length) : mid (l ++ r) a b = mid l a b := by
  unfold mid
  rw [List.take_drop, List.take_drop]
  by_cases h : a ≤ b
  · rw [show a + (b - a) = b by omega, List.take_append_of_le_length hb]
  · rw [show b - a = 0 by omega, Nat.add_zero]
    by_cases h2 : a ≤ l.length
    · rw [List.take_append_of_le_length h2]
    · rw [List.drop_of_length_le (by rw [List.length_take]; omega), List.drop_of_length_le (by rw [List.length_take]; omega)]
theorem iter_below {B : Nat} {a w : World} (h : Below B a w) {k : Nat} (hk : B ≤ k) (s : ByteArray) (p : Nat) : Below B a (w.iterAt k s p) :=
  h.trans ⟨rfl, rfl, rfl, by simp [World.iterAt], fun i hi => Lib.iterAt_other _ _ _ _ _ (by omega)⟩
theorem iter_self {w : World} {k : Nat} (hk : k < w.heap.size) (s : ByteArray) (p : Nat) : (w.iterAt k s p).heap[k]? = some (.stringIter s p) := by
  simp [World.iterAt, hk]
set_option maxRecDepth 100000 in
set_option maxHeartbeats 1000000 in
theorem xWords_any (l : List UInt8) (hl : l.length ≤ 1000000) (w : World) :
    Calls Try.prog 34 #[.string (tx l)] w (GotW w l) := by
  obtain ⟨i0, hi, hz0, hz1, hz2⟩ := info_parts infoStr
  have hsz := tx_size l
  by_cases hlong : 80 < l.length
  · have hw : words l = none := by unfold words; rw [if_pos hlong]
    generalize l.length = m at *
    have d1 : decide ((80 : Int) < (m : Int)) = true := decide_eq_true (by omega)
    have hI : (80 : Int) < (m : Int) := by omega
    go_enter Try.func34, Try.ntmps34
    go_wp2_with fail
    refine bodyPost_ret (results_tmp2 rfl _ _ _) rfl ?_
    exact ⟨⟨_, _, rfl, .inr ⟨hw, rfl, rfl⟩⟩, Below.refl _ _⟩
  · have hwd : words l = wl (l ++ [32]) [] [] := by unfold words; rw [if_neg hlong]
    obtain ⟨tl, htl⟩ : ∃ tl, tl = l ++ [32] := ⟨_, rfl⟩
    have hcat : ∀ w, (Op.stringOp .add (tx l) { data := #[32] }).run Try.prog w = .ok (.string (tx tl)) w := fun w => by rw [htl]; exact cat_run l [32] (by omega) (by decide) w
    have htn : tl.length = l.length + 1 := by rw [htl, List.length_append]; rfl
    have hmid : ∀ a b, b ≤ l.length → mid tl a b = mid l a b := fun a b h => by rw [htl]; exact mid_app l [32] a b h
    rw [← htl] at hwd
    have hcut : ∀ a b, (tx l).extract a b = tx (mid l a b) := fun a b => tx_cut l a b
    obtain ⟨m, hm⟩ : ∃ m, l.length = m := ⟨_, rfl⟩
    rw [hm] at hsz hlong htn hmid hl
    have hI : ¬ (80 : Int) < (m : Int) := by omega
    have Hwd := Lib.hid hwd
    have Htn := Lib.hid htn
    have Hmid := Lib.hid hmid
    have Hcut := Lib.hid hcut
    clear hwd htl htn hmid hcut hm
    go_enter Try.func34, Try.ntmps34
    go_wp2_with fail
    go_loopw [4, 5, 6, 7] (fun v f _ _ wr => ∃ (pos from_ : Nat) (out : List (List UInt8)), pos ≤ m + 1 ∧ from_ ≤ pos ∧ out.length ≤ pos ∧ f = .int .i64 (from_ : Int) ∧ wr.heap[w.heap.size]? = some (.stringIter (tx tl) pos) ∧ wr.ownsRow (w.heap.size + 1) 9 1 v out.length (out.map sv) ∧ Below w.heap.size w wr ∧ wl (tl.drop pos) (mid tl from_ pos) out = wl tl [] []) (fun _ _ _ _ w' => m + 1 - w'.iterPos w.heap.size)
    case atStart => exact ⟨0, 0, [], by omega, by omega, by simp, rfl, by simp [World.iter_heap], World.ownsRow_nil _ _ _ _, bl _ _, rfl⟩
    case round =>
      obtain ⟨pos, fr, out, hpm, hfp, hop, rfl, hit, hown, hb, hwl⟩ := hrel
      have Hit := Lib.hid hit
      have Hown := Lib.hid hown
      have Hb := Lib.hid hb
      have Hwl := Lib.hid hwl
      have hsw := hb.size
      have hkw : w.heap.size < wr.heap.size := (Array.getElem?_eq_some_iff.1 hit).1
      have HP0 := Lib.hid (iterPos_of hit)
      clear hit hown hb hwl
      by_cases hlt : pos < m + 1
      · have hlt2 : pos < tl.length := by rw [Htn.out]; exact hlt
        obtain ⟨c, hc⟩ : ∃ c, tl[pos] = c := ⟨_, rfl⟩
        by_cases h32 : c = 32
        · subst h32
          have hnx : ∀ ty, (Instr.next (.pointer (some ⟨w.heap.size, 0, none⟩)) true ty).run Try.prog wr = .ok (.tuple #[.bool true, .int .i64 pos, .int .i32 32]) (wr.iterAt w.heap.size (tx tl) (pos + 1)) := fun ty => by
            rw [Lib.run_next_any_at wr _ (tx tl) pos ty Hit.out hlt2, dec_low tl pos hlt2 (by rw [hc]; decide), hc]
            rfl
          have hwb := wl_blank tl fr pos hfp hlt2 hc out
          rw [Hwl.out] at hwb
          have O1 := Lib.hid (ownsRow_iterAt Hown.out (k := w.heap.size) (by omega) (tx tl) (pos + 1))
          have B1 := Lib.hid (iter_below Hb.out (Nat.le_refl _) (tx tl) (pos + 1))
          have I1 := Lib.hid (iter_self hkw (tx tl) (pos + 1))
          generalize wr.iterAt w.heap.size (tx tl) (pos + 1) = wi at *
          clear Hown Hb hkw Hit Hwl
          by_cases hfr : fr = pos
          · rw [if_pos hfr] at hwb
            have hbb : ((pos : Int) == (fr : Int)) = true := beq_iff_eq.2 (by omega)
            have Hwb := Lib.hid hwb
            clear hwb hc
            subst hfr
            go_wp2_with fail
            refine bodyPost_ret (results_tmp2 rfl _ _ _) rfl ?_
            exact ⟨⟨_, _, rfl, .inr ⟨by rw [Hwd.out]; exact Hwb.out, rfl, rfl⟩⟩, B1.out⟩
          · rw [if_neg hfr] at hwb
            have hbb : ((pos : Int) == (fr : Int)) = false := beq_eq_false_iff_ne.2 (by omega)
            have hx := Hcut.out fr pos
            rw [← Hmid.out fr pos (by omega)] at hx
            have Hwb := Lib.hid hwb
            have e1 : (0 : Int) ≤ (fr : Int) := by omega
            have e2 : (fr : Int) ≤ (pos : Int) := by omega
            have e3 : (pos : Int) ≤ (m : Int) := by omega
            have y1 : IntKind.i64.wrap ((pos : Int) + 1) = (pos : Int) + 1 := IntWalk.i64_in _ (by omega)
            have hso := B1.out.size
            have hkw := (Array.getElem?_eq_some_iff.1 I1.out).1
            clear hwb hc
            generalize mid tl fr pos = wd at *
            go_wp2_with (at_builtin; refine wpList_append_own _ rfl _ _ 55 rfl (w.heap.size + 1) 9 i0 (.string { data := #[] }) 1 16 Try.underlying55 hi hz0 hz1 hz2 rfl (by decide) _ _ _ rfl (O1.out.alloc _) ⟨wi.heap.size, 0, none⟩ 1 1 [sv wd] rfl rfl (cell_one_new _ _ _) (by simp [sv, Value.oneCell']) (by unfold maxLen; omega) (by omega) (by simp; omega) ?_; intro v' w2 hown2 hgrow _; have Hown2 := Lib.hid hown2; have Hgrow := Lib.hid hgrow; clear hown2 hgrow)
            have hit2 : w2.heap[w.heap.size]? = some (.stringIter (tx tl) (pos + 1)) := by
              rw [Hgrow.out.block w.heap.size (by simp; omega) (fun e => by have := (own_lt O1.out e.symm).1; omega), (bl wi _).block w.heap.size hkw]
              exact I1.out
            go_roundw
            case rel =>
              refine ⟨pos + 1, pos + 1, out ++ [wd], by omega, by omega, by rw [List.length_append]; simp; omega, rfl, hit2, ?_, ?_, ?_⟩
              · rw [List.length_append, List.map_append]; exact Hown2.out
              · exact (B1.out.alloc hso _).grown Hgrow.out (by simp; omega) fun q hq => by have := (own_lt O1.out hq).1; omega
              · rw [show mid tl (pos + 1) (pos + 1) = [] from (mid_nil tl _ _ (Nat.le_refl _) (by omega)).2 rfl]; exact Hwb.out.symm
            case measure => rw [HP0.out, iterPos_of hit2]; omega
        · obtain ⟨r, k, hdec, hr32, hrb, hk1, hk2, hsk⟩ : ∃ r k, Utf8.decode (tx tl) pos = (r, k) ∧ r ≠ 32 ∧ r < 1114112 ∧ 1 ≤ k ∧ pos + k ≤ tl.length ∧ ∀ i (hi : pos + i < tl.length), i < k → tl[pos + i] ≠ 32 := by
            by_cases hasc : c.toNat < 128
            · refine ⟨c.toNat, 1, by rw [dec_low tl pos hlt2 (by rw [hc]; exact hasc), hc], fun e => h32 (UInt8.toNat_inj.1 e), by omega, Nat.le_refl _, by omega, fun i hi hi1 => ?_⟩
              obtain rfl : i = 0 := by omega
              show tl[pos] ≠ 32
              rw [hc]
              exact h32
            · obtain ⟨r, k, hdec, hr1, hr2, hk1, hk2, hsk⟩ := dec_high tl pos hlt2 (by rw [hc]; omega)
              refine ⟨r, k, hdec, by omega, hr2, hk1, hk2, fun i hi hik e => ?_⟩
              have := hsk i hi hik
              rw [e] at this
              exact absurd this (by decide)
          have hnx : ∀ ty, (Instr.next (.pointer (some ⟨w.heap.size, 0, none⟩)) true ty).run Try.prog wr = .ok (.tuple #[.bool true, .int .i64 pos, .int .i32 (r : Int)]) (wr.iterAt w.heap.size (tx tl) (pos + k)) := fun ty => by
            rw [Lib.run_next_any_at wr _ (tx tl) pos ty Hit.out hlt2, hdec]
          have hms := mid_skip tl fr pos k hfp hk2 out hsk
          rw [Hwl.out] at hms
          have O1 := Lib.hid (ownsRow_iterAt Hown.out (k := w.heap.size) (by omega) (tx tl) (pos + k))
          have B1 := Lib.hid (iter_below Hb.out (Nat.le_refl _) (tx tl) (pos + k))
          have I1 := Lib.hid (iter_self hkw (tx tl) (pos + k))
          generalize wr.iterAt w.heap.size (tx tl) (pos + k) = wi at *
          have Hms := Lib.hid hms
          have hrb : ((r : Int) == 32) = false := beq_eq_false_iff_ne.2 (by omega)
          have hk3 := hk2
          rw [Htn.out] at hk3
          clear hms hdec hr32 hsk hc h32 Hown Hb hkw Hit Hwl hk2
          go_wp2_with fail
          go_roundw
          case rel => exact ⟨pos + k, fr, out, by omega, by omega, by omega, rfl, I1.out, O1.out, B1.out, Hms.out.symm⟩
          case measure => rw [HP0.out, iterPos_of I1.out]; omega
      · have hnx : ∀ ty, (Instr.next (.pointer (some ⟨w.heap.size, 0, none⟩)) true ty).run Try.prog wr = .ok (.tuple #[.bool false]) wr := fun ty => Lib.run_next_end_at wr _ (tx tl) pos ty Hit.out (by rw [tx_size, Htn.out]; exact hlt)
        have hwl := Hwl.out
        rw [List.drop_of_length_le (by rw [Htn.out]; omega)] at hwl
        have Hw2 := Lib.hid hwl
        clear hwl
        go_wp2_with fail
        refine bodyPost_ret (results_tmp2 rfl _ _ _) rfl ?_
        exact ⟨⟨_, _, rfl, .inl ⟨out, by rw [Hwd.out]; exact Hw2.out.symm, rfl, own_down Hown.out (by omega)⟩⟩, Hb.out⟩
end Txt
end Go.Proofs.Ytijijfggppnbpaa
