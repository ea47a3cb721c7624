/-
  The walk of the law BitsWrite.
-/
import Derived.Test.YtgncngpgodfijaaBitsL
namespace Go.Proofs.Ytgncngpgodfijaa
open Go.RowKit
set_option linter.unusedVariables false
namespace Bits

set_option maxRecDepth 100000 in
set_option maxHeartbeats 4000000 in
theorem lawWrite_any (A : Option Addr) (L : List Pt) (n cap : Nat) (w : World) (hrd : RdL w 0 w.heap.size A (L.flatMap ptc)) (hp : ∀ p ∈ L, okPt p) (hl : L.length = n) (hn : n ≤ maxLen) :
    Calls Try.prog 3 #[.slice A n cap] w fun e w' => e = .returned (.bool true) ∧ Below w.heap.size w w' := by
  obtain ⟨i0, hi, hz0, hz1, hz2⟩ := info_parts infoBool
  have HR := Lib.hid hrd
  have HP := Lib.hid hp
  have Hl := Lib.hid hl
  clear hrd hp hl
  unfold maxLen at hn
  by_cases h60 : n ≤ 60
  · have hd60 : decide ((60 : Int) < (n : Int)) = false := decide_eq_false (by omega)
    go_enter Try.func3, Try.ntmps3
    go_wp2
    have ht0 := LS.new w
    have Ht0 := Lib.hid ht0
    clear ht0
    go_loopw [4, 5] (fun vr i wr => ∃ (k : Nat) (v : Value), k ≤ n ∧ i = .int .i64 (k : Int) ∧ LS w w.heap.size v vr (bitsOf (L.take k)) (bitsOf (L.take k)) wr) (fun _ i _ => n - (intOf i).toNat)
    case atStart => exact ⟨0, _, by omega, rfl, Ht0.out⟩
    case round =>
      clear Ht0
      obtain ⟨k, v, hk, rfl, hls⟩ := hrel
      have Hls := Lib.hid hls
      have hgl := hls.wb.blk.lt
      have hlen : (bitsOf (L.take k)).length ≤ 65 * 60 := Nat.le_trans (bitsOf_len _) (by rw [List.length_take]; omega)
      have Hlen := Lib.hid hlen
      clear hls hlen
      by_cases hlt : k < n
      · have hkl : k < L.length := by rw [Hl.out]; exact hlt
        obtain ⟨b, off, rfl, _, hbw, _, _⟩ := HR.out.some (by rw [flatMap_len ptc 2 ptc_len]; omega)
        have hc := HR.out.elem ptc 2 ptc_len hkl
        have hk0 : w.cell? ⟨b, off + k * 2, none⟩ = some (.int .u8 (L[k].sz : Int)) := hc 0 _ (by decide) rfl
        have hk1 : w.cell? ⟨b, off + k * 2 + 1, none⟩ = some (.int .u64 (L[k].x : Int)) := hc 1 _ (by decide) rfl
        have hop := HP.out L[k] (List.getElem_mem _)
        have htk := bitsOf_take L k hkl
        have Htk := Lib.hid htk
        have hpl := partB_len L[k]
        clear hc htk
        generalize L[k] = p at *
        obtain ⟨sz, x⟩ := p
        obtain ⟨hsz, hx⟩ := hop
        dsimp only at hsz hx hk0 hk1
        have c0 := (Hls.out.bel.cell (p := ⟨b, off + k * 2, none⟩) hbw).trans hk0
        have c1 := (Hls.out.bel.cell (p := ⟨b, off + k * 2 + 1, none⟩) hbw).trans hk1
        have Hk1 := Lib.hid hk1
        clear hk0 hk1
        have Hx := Lib.hid hx
        clear hx
        generalize bitsOf (L.take k) = l at *
        obtain ⟨kk, hkk⟩ : ∃ kk, kk = sz % 66 := ⟨_, rfl⟩
        have hkk2 : ((sz : Int) % 66) = (kk : Int) := by omega
        have Hkk := Lib.hid hkk
        clear hkk
        by_cases h65 : kk < 65
        · have hpb : partB ⟨sz, x⟩ = numB x kk := by unfold partB; rw [← Hkk.out, if_pos h65]
          rw [hpb] at Htk
          clear hpb hpl
          go_wp2_with fail
          refine (num_any w.heap.size v l x kk _ Hls.out.wb Hx.out (by omega) (by have := Hlen.out; omega)).mono ?_
          rintro e w2 ⟨rfl, v2, hwb2, hwf2⟩
          have Hls2 := Lib.hid (Hls.out.write hwb2 hwf2)
          clear hwb2 hwf2 Hls c0 c1
          have c1 := (Hls2.out.bel.cell (p := ⟨b, off + k * 2 + 1, none⟩) hbw).trans Hk1.out
          go_wp2_with fail
          refine (fnum_any kk x _ Hx.out (by omega)).mono ?_
          rintro e w3 ⟨⟨v3, rfl, hown3⟩, hb3⟩
          rw [lv_len, numB_len] at hown3
          have Hls3 := Lib.hid (Hls2.out.next hb3)
          obtain ⟨A3, cap3, rfl, hrd3, _, _, hn3⟩ := own_rd hown3
          have Hrd3 := Lib.hid hrd3
          have Hn3 := Lib.hid hn3
          have hsz3 := Hls3.out.bel.size
          clear hown3 hb3 hrd3 hn3 c1 Hls2
          go_wp2_with (at_builtin; refine wpList_append_mine rfl _ _ 27 rfl w.heap.size 4 i0 (.bool false) 1 1 Try.underlying27 hi hz0 hz1 hz2 rfl (by decide) _ l.length (lv l) rfl Hls3.out.row A3 kk cap3 (lv (numB x kk)) rfl (by rw [lv_len, numB_len]; simp) Hn3.out Hrd3.out.news (lv_one _) (by have := Hlen.out; unfold maxLen; omega) (by have := Hlen.out; omega) hsz3 ?_; intro v4 w4 hown4 hgrow4 hv4; have Hls4 := Lib.hid (Hls3.out.append hgrow4 (r' := l ++ numB x kk) (by rw [List.length_append, numB_len, lv_append]; exact hown4) hv4); clear hown4 hgrow4 hv4)
          go_roundw
          case rel => exact ⟨k + 1, v2, by omega, by go_num, by rw [Htk.out]; exact Hls4.out⟩
          case measure => simp [intOf]; omega
        · obtain ⟨nn, hnn⟩ : ∃ nn, nn = x % 50 := ⟨_, rfl⟩
          have hnn2 : ((x : Int) % 50) = (nn : Int) := by omega
          have hpb : partB ⟨sz, x⟩ = List.replicate nn true ++ [false] := by unfold partB; rw [← Hkk.out, if_neg h65, ← hnn]
          have hnl : nn ≤ 49 := by omega
          rw [hpb] at Htk
          clear hpb hpl hnn
          go_wp2_with fail
          refine (ones_any w.heap.size v l nn _ Hls.out.wb (by omega) (by have := Hlen.out; omega)).mono ?_
          rintro e w2 ⟨rfl, v2, hwb2, hwf2⟩
          obtain ⟨l2, hl2⟩ : ∃ l2, l2 = l ++ (List.replicate nn true ++ [false]) := ⟨_, rfl⟩
          rw [← hl2] at hwb2
          have Hl2 := Lib.hid hl2
          have Hls2 := Lib.hid (Hls.out.write hwb2 hwf2)
          clear hwb2 hwf2 Hls c0 c1 hl2
          go_wp2
          go_loopw [4, 8] (fun vr i wr => ∃ j : Nat, j ≤ nn ∧ i = .int .i64 (j : Int) ∧ LS w w.heap.size v2 vr l2 (l ++ List.replicate j true) wr) (fun _ i _ => nn - (intOf i).toNat)
          case atStart => exact ⟨0, by omega, rfl, by simpa using Hls2.out⟩
          case round =>
            clear Hls2
            obtain ⟨j, hj, rfl, hls3⟩ := hrel
            have Hls3 := Lib.hid hls3
            have hsz3 := hls3.bel.size
            clear hls3
            by_cases hjn : j < nn
            · go_wp2_with (at_builtin; refine wpList_append_mine rfl _ _ 27 rfl w.heap.size 4 i0 (.bool false) 1 1 Try.underlying27 hi hz0 hz1 hz2 rfl (by decide) _ (l ++ List.replicate j true).length (lv (l ++ List.replicate j true)) rfl (Hls3.out.row.alloc _) (some ⟨wr.heap.size, 0, none⟩) 1 1 [.bool true] rfl rfl (fun h => by cases h) (fun ad h => by injection h with h; subst h; exact cell_one_new _ _ _) (by simp [Value.oneCell']) (by have := Hlen.out; simp; unfold maxLen; omega) (by have := Hlen.out; simp; omega) (by simp; omega) ?_; intro v4 w4 hown4 hgrow4 hv4; have Hls4 := Lib.hid (LS.append (Hls3.out.next (bl _ _)) hgrow4 (r' := l ++ List.replicate (j + 1) true) (by rw [List.replicate_succ', ← List.append_assoc, List.length_append, lv_append]; exact hown4) hv4); clear hown4 hgrow4 hv4)
              go_roundw
              case rel => exact ⟨j + 1, by omega, by go_num, Hls4.out⟩
              case measure => simp [intOf]; omega
            · obtain rfl : j = nn := by omega
              go_wp2_with (at_builtin; refine wpList_append_mine rfl _ _ 27 rfl w.heap.size 4 i0 (.bool false) 1 1 Try.underlying27 hi hz0 hz1 hz2 rfl (by decide) _ (l ++ List.replicate j true).length (lv (l ++ List.replicate j true)) rfl (Hls3.out.row.alloc _) (some ⟨wr.heap.size, 0, none⟩) 1 1 [.bool false] rfl rfl (fun h => by cases h) (fun ad h => by injection h with h; subst h; exact cell_one_new _ _ _) (by simp [Value.oneCell']) (by have := Hlen.out; simp; unfold maxLen; omega) (by have := Hlen.out; simp; omega) (by simp; omega) ?_; intro v4 w4 hown4 hgrow4 hv4; have Hls4 := Lib.hid (LS.append (Hls3.out.next (bl _ _)) hgrow4 (r' := l ++ (List.replicate j true ++ [false])) (by rw [← List.append_assoc, List.length_append, lv_append]; exact hown4) hv4); clear hown4 hgrow4 hv4)
              go_roundw
              case rel => exact ⟨k + 1, v2, by omega, by go_num, by have := Hls4.out; rw [← Hl2.out] at this; rw [Htk.out, ← Hl2.out]; exact this⟩
              case measure => simp [intOf]; omega
      · obtain rfl : k = n := by omega
        have e := List.take_of_length_le (show L.length ≤ k by rw [Hl.out]; exact Nat.le_refl _)
        have hls := Hls.out
        rw [e] at hls Hlen
        clear e Hls
        have Hls := Lib.hid hls
        clear hls
        generalize bitsOf L = l at *
        go_wp2_with fail
        refine (len_any _ v l _ Hls.out.wb).mono ?_
        rintro e w2 ⟨rfl, rfl⟩
        obtain ⟨Ar, capr, hvr, hrdr, _, _, hnr⟩ := own_rd Hls.out.row
        rw [hvr]
        clear hvr
        have Hrdr := Lib.hid hrdr
        have Hnr := Lib.hid hnr
        clear hrdr hnr
        go_wp2_with fail
        refine (bytes_any _ v l _ Hls.out.wb (by have := Hlen.out; omega)).mono ?_
        rintro e w3 ⟨⟨v3, rfl, hown3⟩, hb3⟩
        rw [pack_len] at hown3
        obtain ⟨A3, cap3, rfl, hrd3, _, _, hn3⟩ := own_rd hown3
        have b3 := _root_.Go.Proofs.Ytgncngpgodfijaa.bt Hls.out.bel hb3
        have Hrd3 := Lib.hid hrd3
        have Hn3 := Lib.hid hn3
        have Hrdr3 := Lib.hid (Hrdr.out.next hb3)
        have hsz3 := hb3.size
        clear hown3 hb3 hrd3 hn3 Hls Hrdr
        go_wp2_with fail
        refine (fbytes_any Ar l l.length capr _ _ _ Hrdr3.out hsz3 rfl (by have := Hlen.out; omega)).mono ?_
        rintro e w4 ⟨⟨v4, rfl, hown4⟩, hb4⟩
        rw [pack_len] at hown4
        obtain ⟨A4, cap4, rfl, hrd4, _, _, hn4⟩ := own_rd hown4
        have b4 := _root_.Go.Proofs.Ytgncngpgodfijaa.bt b3 hb4
        have Hrd4 := Lib.hid hrd4
        have Hn4 := Lib.hid hn4
        have Hrd34 := Lib.hid (Hrd3.out.next hb4)
        clear hown4 hb4 hrd4 hn4 Hrd3 Hrdr3
        have hbb : (pack l == pack l) = true := beq_self_eq_true _
        go_wp2_with fail
        refine (same_any (l := pack l) (l' := pack l) (pack_len l) (pack_len l) Hrd34.out Hn3.out Hrd4.out Hn4.out).mono ?_
        rintro e w5 ⟨rfl, rfl⟩
        rw [hbb]
        go_wp2_with (go_at_call 14; refine (works_any _).mono ?_; rintro e w' ⟨rfl, hb⟩)
        go_ret
        exact ⟨rfl, _root_.Go.Proofs.Ytgncngpgodfijaa.bt b4 hb⟩
  · have h60' : (60 : Int) < (n : Int) := by omega
    go_enter Try.func3, Try.ntmps3
    go_wp2_with (go_at_call 14; refine (works_any _).mono ?_; rintro e w' ⟨rfl, hb⟩)
    go_ret
    exact ⟨rfl, hb⟩
theorem walkWrite (v0 : Value) (W : World) (h0 : VSat W (.slice PtSh) false v0) :
    Calls Try.prog 3 #[v0] W fun e W' => e = .returned (.bool true) ∧ Below W.heap.size W W' := by
  obtain ⟨A, L, cap, rfl, hrd, hp, hl, hm, _⟩ := open_pts h0
  exact lawWrite_any A L L.length cap W hrd hp rfl (by omega)
end Bits
end Go.Proofs.Ytgncngpgodfijaa
