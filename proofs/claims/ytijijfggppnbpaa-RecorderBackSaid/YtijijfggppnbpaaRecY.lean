/-
  The walk of the document's Cell (package recorder).
-/
import Derived.Test.YtijijfggppnbpaaRecO
namespace Go.Proofs.Ytijijfggppnbpaa
open Go.RowKit
set_option linter.unusedVariables false
namespace Rec
open Frm Txt
theorem kept_any (k n : Nat) (hk : k ≤ 1000000) (hn : n ≤ 1000000) (w : World) :
    Calls Try.prog 49 #[.int .i64 (k : Int), .int .i64 (n : Int)] w fun e w' => e = .returned (.int .i64 ((if k < n then n - k + 1 else 1 : Nat) : Int)) ∧ w = w' := by
  by_cases h : k < n
  · have d : decide (k < n) = true := decide_eq_true h
    have y : IntKind.i64.wrap ((n : Int) - (k : Int)) = ((n - k : Nat) : Int) := by rw [IntWalk.i64_in _ (by omega)]; omega
    rw [if_pos h]
    obtain ⟨q, hq⟩ : ∃ q, q = n - k := ⟨_, rfl⟩
    rw [← hq] at y ⊢
    have hq2 : q ≤ 1000000 := by omega
    clear hq
    go_enter Try.func49, Try.ntmps49
    go_wp2
    go_ret
    exact ⟨rfl, rfl⟩
  · have d : decide (k < n) = false := decide_eq_false h
    rw [if_neg h]
    go_enter Try.func49, Try.ntmps49
    go_wp2
    go_ret
    exact ⟨rfl, rfl⟩
def lenV : Option Value → Nat
  | some (.slice _ n _) => n
  | _ => 0
set_option maxRecDepth 100000 in
set_option maxHeartbeats 1000000 in
theorem ycell_any (n : Nat) (f : Fr) (hf : f.Ok) (hn : n < 18446744073709551616) (w : World) : Calls Try.prog 67 #[.int .u64 (n : Int), f.v] w (GotC w n f) := by
  obtain ⟨i0, hi', hz0, hz1, hz2⟩ := info_parts infoByte
  have hp := Frm.yfput_any f hf (w.alloc (.cells f.cells.toArray 25))
  have hv : f.v = .agg #[.int .i64 f.k, .int .u16 (f.q : Int), .int .u32 (f.t : Int), .int .i32 f.a, .int .i32 f.b, .int .i32 f.c] := rfl
  have hc' : f.cells.toArray = #[.int .i64 f.k, .int .u16 (f.q : Int), .int .u32 (f.t : Int), .int .i32 f.a, .int .i32 f.b, .int .i32 f.c] := rfl
  have HK := Lib.hid (bl w (.cells f.cells.toArray 25))
  rw [hv] at hp ⊢
  rw [hc'] at hp HK
  obtain ⟨cd, hcd⟩ : ∃ cd, cd = codeF f := ⟨_, rfl⟩
  have HCD := Lib.hid hcd
  have HF := Lib.hid hf
  clear hcd hv hc' hf
  obtain ⟨x1, hx1⟩ : ∃ x, x = f.k := ⟨_, rfl⟩
  obtain ⟨x2, hx2⟩ : ∃ x, x = f.q := ⟨_, rfl⟩
  obtain ⟨x3, hx3⟩ : ∃ x, x = f.t := ⟨_, rfl⟩
  obtain ⟨x4, hx4⟩ : ∃ x, x = f.a := ⟨_, rfl⟩
  obtain ⟨x5, hx5⟩ : ∃ x, x = f.b := ⟨_, rfl⟩
  obtain ⟨x6, hx6⟩ : ∃ x, x = f.c := ⟨_, rfl⟩
  rw [← hx1, ← hx2, ← hx3, ← hx4, ← hx5, ← hx6] at hp ⊢
  rw [← hx1, ← hx2, ← hx3, ← hx4, ← hx5, ← hx6] at HK
  clear hx1 hx2 hx3 hx4 hx5 hx6
  go_enter Try.func67, Try.ntmps67
  go_wp2_with fail
  refine hp.mono ?_
  rintro e w1 ⟨⟨v, rfl, ho, hno⟩, hb⟩
  rw [← HCD.out] at ho hno ⊢
  have HK1 := Lib.hid (bt HK.out hb)
  have hsz := HK.out.size
  have HSZ := Lib.hid hsz
  clear hb HK hp hsz
  by_cases h0 : cd = 0
  · subst h0
    obtain ⟨A, cap, rfl, hrd, hc1, _, hA⟩ := own_rd (ho rfl)
    have h0 : codeF f = 0 := HCD.out.symm
    obtain ⟨p1, p2, p3⟩ := preC_len (n := n) HF.out h0
    obtain ⟨z, hz⟩ : ∃ z, z = (bytesF f).length := ⟨_, rfl⟩
    rw [← hz] at p1 p2 p3 hc1 hA
    have HZ := Lib.hid hz
    have HRD := Lib.hid hrd
    have HP1 := Lib.hid p1
    have HH0 := Lib.hid h0
    obtain ⟨bx, ox, rfl, _, _, _, _⟩ := hrd.some (by rw [List.length_map, ← hz]; omega)
    rw [← hz]
    have d0 : ((0 : Int) != 0) = false := rfl
    have hput := yput_any n 8 w1 hn (by omega)
    clear hz hrd hA ho hno h0 p1 hc1
    go_wp2_with fail
    refine hput.mono ?_
    rintro e w2 ⟨⟨v2, rfl, ho2⟩, hb2⟩
    rw [show (leB n 8).length = 8 from leB_len n 8] at ho2
    obtain ⟨g2, c2, rfl⟩ := own_some ho2 (by decide)
    have HO2 := Lib.hid ho2
    have HK2 := Lib.hid (bt HK1.out hb2)
    have HRD2 := Lib.hid (HRD.out.next hb2)
    have hs2 := hb2.size
    have HS1 := Lib.hid HK1.out.size
    have wz : IntKind.u8.wrap (z : Int) = (z : Int) := IntWalk.u8_in _ (by omega)
    clear hb2 ho2 hput HRD HK1
    have HO2a := Lib.hid (own_next HO2.out (bl w2 (.cells #[.int .u8 (z : Int)] 5)))
    have HK2a := Lib.hid (bt HK2.out (bl w2 (.cells #[.int .u8 (z : Int)] 5)))
    have HRD2a := Lib.hid (HRD2.out.next (bl w2 (.cells #[.int .u8 (z : Int)] 5)))
    go_wp2_with (first
      | (at_builtin; refine wpList_append_mine rfl (.tmp 19) (.tmp 23) 26 rfl w1.heap.size 5 i0 (.int .u8 0) 1 1 Try.underlying26 hi' hz0 hz1 hz2 rfl (by decide) (.slice (some ⟨g2, 0, none⟩) 8 c2) 8 ((leB n 8).map bv) rfl HO2a.out (some ⟨w2.heap.size, 0, none⟩) 1 1 [.int .u8 (z : Int)] rfl rfl (fun h => by cases h) (by intro ad h; injection h with h; subst h; exact cell_one_new _ _ _) (by simp [Value.oneCell']) (by simp only [maxLen]; omega) (by omega) (by simp; omega) ?_; intro v3 w3 hown3 hgrow3 hwhose3; obtain ⟨g3, c3, rfl⟩ := own_some hown3 (by decide); have HO3 := Lib.hid hown3; have HK3 := Lib.hid (own_grow HK2a.out HO2a.out HS1.out hgrow3); have HRD3 := Lib.hid (HRD2a.out.grown hgrow3 (fun g hg => .inr (own_lt HO2a.out hg).1)); have HS3 := Lib.hid (show w1.heap.size ≤ w3.heap.size by have := hgrow3.size; simp at this; omega); clear hown3 hgrow3 hwhose3)
      | (at_builtin; refine wpList_append_mine rfl (.tmp 25) (.tmp 26) 26 rfl w1.heap.size 5 i0 (.int .u8 0) 1 1 Try.underlying26 hi' hz0 hz1 hz2 rfl (by decide) (.slice (some ⟨g3, 0, none⟩) (8 + 1) c3) (8 + 1) _ rfl HO3.out (some ⟨bx, ox, none⟩) z cap ((bytesF f).map bv) rfl (by rw [List.length_map, HZ.out]; omega) (fun h => by cases h) HRD3.out.news (bv_one _) (by simp only [maxLen]; omega) (by omega) HS3.out ?_; intro v4 w4 hown4 hgrow4 hwhose4; obtain ⟨g4, c4, rfl⟩ := own_some hown4 (by omega); have HO4 := Lib.hid hown4; have HK4 := Lib.hid (own_grow HK3.out HO3.out HS1.out hgrow4); have HS4 := Lib.hid (Nat.le_trans HS3.out hgrow4.size); clear hown4 hgrow4 hwhose4))
    have hpre : (leB n 8).map bv ++ [Value.int .u8 (z : Int)] ++ (bytesF f).map bv = (preC n f).map bv := by
      have h1 : (leB z 1).map bv = [Value.int .u8 (z : Int)] := by
        rw [show leB z 1 = [UInt8.ofNat z] by simp [leB], List.map_cons, List.map_nil]
        unfold bv
        rw [show (UInt8.ofNat z).toNat = z by simp; omega]
      unfold preC
      rw [← HZ.out, List.map_append, List.map_append, h1]
    have hO4 := HO4.out
    rw [hpre] at hO4
    have e9 : 8 + 1 + z = 9 + z := by omega
    have HO4b := Lib.hid hO4
    clear hpre hO4 e9 HO2a HK2a HRD2a HO2 HK2 HRD2 HO3 HK3 HRD3 HS3 HO4
    go_loopw [8] (fun s8 wr => ∃ j : Nat, j ≤ 27 - z ∧ wr.ownsRow w1.heap.size 5 1 s8 (8 + 1 + z + j) ((preC n f).map bv ++ List.replicate j (.int .u8 0)) ∧ Below w.heap.size w wr ∧ w1.heap.size ≤ wr.heap.size) (fun s8 _ => 36 - lenV (some s8))
    case atStart => exact ⟨0, by omega, by simpa using HO4b.out, HK4.out, HS4.out⟩
    case round =>
      obtain ⟨j, hj, hO, hK, hS⟩ := hrel
      obtain ⟨g8, c8, rfl⟩ := own_some hO (by omega)
      obtain ⟨q, hq⟩ : ∃ q, q = 8 + 1 + z + j := ⟨_, rfl⟩
      rw [← hq] at hO ⊢
      have hq36 : q ≤ 36 := by omega
      have hq1 : 1 ≤ q := by omega
      have HOB := Lib.hid hO
      have HQ := Lib.hid hq
      clear hO hq
      by_cases hlt : q < 36
      · have dlt : decide ((q : Int) < 36) = true := decide_eq_true (by omega)
        have HO8 := Lib.hid (own_next HOB.out (bl wr (.cells #[.int .u8 0] 5)))
        have HK8 := Lib.hid (bt hK (bl wr (.cells #[.int .u8 0] 5)))
        have HSJ := Lib.hid HS1.out
        go_wp2_with (at_builtin; refine wpList_append_mine rfl (.tmp 31) (.tmp 32) 26 rfl w1.heap.size 5 i0 (.int .u8 0) 1 1 Try.underlying26 hi' hz0 hz1 hz2 rfl (by decide) (.slice (some ⟨g8, 0, none⟩) q c8) q _ rfl HO8.out (some ⟨wr.heap.size, 0, none⟩) 1 1 [.int .u8 0] rfl rfl (fun h => by cases h) (by intro ad h; injection h with h; subst h; exact cell_one_new _ _ _) (by simp [Value.oneCell']) (by simp only [maxLen]; omega) (by omega) (by simp; omega) ?_; intro v5 w5 hown5 hgrow5 hwhose5; have HO5 := Lib.hid hown5; have HK5 := Lib.hid (own_grow HK8.out HO8.out HSJ.out hgrow5); have HS5 := Lib.hid (show w1.heap.size ≤ w5.heap.size by have := hgrow5.size; simp at this; omega); clear hown5 hgrow5 hwhose5)
        go_roundw
        case rel => exact ⟨j + 1, by have := HQ.out; omega, by
          have h5 := HO5.out
          rw [HQ.out, List.append_assoc, ← List.replicate_succ'] at h5
          exact h5, HK5.out, HS5.out⟩
        case measure =>
          obtain ⟨_, _, e5⟩ := own_some HO5.out (by omega)
          rw [e5]
          simp [lenV]
          omega
      · have dlt : decide ((q : Int) < 36) = false := decide_eq_false (by omega)
        have hq0 : q = 36 := by omega
        have hbody : (preC n f).map bv ++ List.replicate j (Value.int .u8 0) = (bodyC n f).map bv := by
          have hj' : 36 - (preC n f).length = j := by rw [HP1.out]; have := HQ.out; omega
          unfold bodyC
          rw [hj', List.map_append, List.map_replicate]
          rfl
        have ho := HOB.out
        rw [hbody] at ho
        obtain ⟨A6, c6, e6, hr6, _, _, _⟩ := own_rd ho
        injection e6 with e6 e8 e7
        subst e6 e7
        clear e8
        have h36 : (bodyC n f).length = q := by rw [bodyC_len HF.out HH0.out, hq0]
        have hcp := Crc.rput_any (some ⟨g8, 0, none⟩) (bodyC n f) c8 wr (RdL.bytes hr6) (fun h => by cases h) (by rw [h36]; omega)
        rw [h36] at hcp
        have HCP := Lib.hid hcp
        have HK6 := Lib.hid hK
        clear hbody ho hr6 h36 hcp hK hq0
        go_wp2_with fail
        refine HCP.out.mono ?_
        rintro e w6 ⟨v6, rfl, hown, hb6⟩
        have HO6 := Lib.hid hown
        have HK7 := Lib.hid (bt HK6.out hb6)
        have h56 := HK6.out.size
        clear hown hb6
        go_wp2
        go_ret2
        refine ⟨_, by rw [← HCD.out]; rfl, fun _ => ?_, fun h => absurd HH0.out h, HK7.out⟩
        have hO6 := HO6.out
        unfold Crc.Own at hO6
        have h40 : (Crc.put (bodyC n f)).length = 40 := cellL_len HF.out HH0.out
        rw [h40] at hO6
        exact own_down hO6 h56
  · have d0 : (cd != 0) = true := by rw [bne_iff_ne]; exact h0
    obtain rfl := hno h0
    have HNE := Lib.hid h0
    clear h0 ho hno
    go_wp2_with fail
    go_ret2
    exact ⟨_, by rw [← HCD.out]; rfl, fun h => absurd (HCD.out.trans h) HNE.out, fun _ => rfl, HK1.out⟩
end Rec
end Go.Proofs.Ytijijfggppnbpaa
