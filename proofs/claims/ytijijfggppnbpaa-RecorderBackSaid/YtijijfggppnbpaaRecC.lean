/-
  The walk of package recorder's cell and Bytes.
-/
import Derived.Test.YtijijfggppnbpaaRecW
import Derived.Test.YtijijfggppnbpaaFrmV
namespace Go.Proofs.Ytijijfggppnbpaa
open Go.RowKit
set_option linter.unusedVariables false
namespace Rec
open Frm Txt
/-- a cell is handed back, or why there is none -/
def GotC (w : World) (n : Nat) (f : Fr) (e : Ending) (w' : World) : Prop :=
  ∃ v, e = .returned (.tuple #[v, .int .i64 (codeF f)]) ∧ (codeF f = 0 → w'.ownsRow w.heap.size 5 1 v 40 ((cellL n f).map bv)) ∧ (codeF f ≠ 0 → v = .slice none 0 0) ∧ Below w.heap.size w w'
set_option maxRecDepth 100000 in
set_option maxHeartbeats 1000000 in
theorem bytes_any {w : World} {gr gb cap : Nat} {B : List UInt8} {n : Nat} (S : RB w gr gb cap B n) (hB : B.length ≤ 100000) (hB0 : 0 < B.length) :
    Calls Try.prog 46 #[.pointer (some ⟨gr, 0, none⟩)] w (GotB w B) := by
  obtain ⟨i0, hi', hz0, hz1, hz2⟩ := info_parts infoByte
  obtain ⟨c0, c1⟩ := S.cells
  obtain ⟨A, c, e, hrd, _, _, hA⟩ := own_rd S.own
  injection e with e e1 e2
  subst e e2
  clear e1
  obtain ⟨m, hm⟩ : ∃ m, m = B.length := ⟨_, rfl⟩
  rw [← hm] at c0 hB
  have HM := Lib.hid hm
  have HRD := Lib.hid (hrd.next (bl w (.cells #[] 5)))
  have hlt := S.box.lt
  clear S hrd hA hm
  have q0 : (w.alloc (.cells #[] 5)).cell? ⟨gr, 0, none⟩ = some (.slice (some ⟨gb, 0, none⟩) m cap) := ((bl w (.cells #[] 5)).cell (p := ⟨gr, 0, none⟩) hlt).trans c0
  have HN := Lib.hid (own_new w 5 1)
  have HK := Lib.hid (bl w (.cells #[] 5))
  go_enter Try.func46, Try.ntmps46
  go_wp2_with (at_builtin; refine wpList_append_mine rfl (.tmp 3) (.tmp 7) 26 rfl w.heap.size 5 i0 (.int .u8 0) 1 1 Try.underlying26 hi' hz0 hz1 hz2 rfl (by decide) (.slice (some ⟨w.heap.size, 0, none⟩) 0 0) 0 [] rfl HN.out (some ⟨gb, 0, none⟩) m cap (B.map bv) rfl (by rw [List.length_map, HM.out]; omega) (fun h => by cases h) HRD.out.news (bv_one B) (by simp only [maxLen]; omega) (by omega) (by simp) ?_; intro v1 w1 hown1 hgrow1 hwhose1; have HO := Lib.hid hown1; have HKK := Lib.hid (HK.out.grown hgrow1 HK.out.size (fun k hk => (own_lt HN.out hk).1)); clear hown1 hgrow1 hwhose1)
  go_ret
  refine ⟨⟨_, rfl, ?_⟩, HKK.out⟩
  have := HO.out
  rw [Nat.zero_add, List.nil_append, HM.out] at this
  exact this
theorem own_grow {w0 w w' : World} {v : Value} (h : Below w0.heap.size w0 w) {base n size : Nat} {e : TypeId} {l : List Value} (ho : w.ownsRow base e size v n l) (hb : w0.heap.size ≤ base) (hg : w.grownBy w' v.ownBlock) : Below w0.heap.size w0 w' :=
  h.grown hg h.size (fun k hk => Nat.le_trans hb (own_lt ho hk).1)
theorem own_some {w : World} {base n : Nat} {e : TypeId} {v : Value} {l : List Value} (h : w.ownsRow base e 1 v n l) (h1 : 1 ≤ n) : ∃ g c, v = .slice (some ⟨g, 0, none⟩) n c := by
  rcases h.2 with ⟨_, h0⟩ | ⟨g, cap, cur, hv, _⟩
  · omega
  · exact ⟨g, cap, hv⟩
set_option maxRecDepth 100000 in
set_option maxHeartbeats 1000000 in
theorem cell_any (n : Nat) (f : Fr) (hf : f.Ok) (hn : n < 18446744073709551616) (w : World) : Calls Try.prog 72 #[.int .u64 (n : Int), f.v] w (GotC w n f) := by
  obtain ⟨i0, hi', hz0, hz1, hz2⟩ := info_parts infoByte
  have hp := Frm.put_any f hf (w.alloc (.cells f.cells.toArray 25))
  have hv : f.v = .agg #[.int .i64 f.k, .int .u16 (f.q : Int), .int .u32 (f.t : Int), .int .i32 f.a, .int .i32 f.b, .int .i32 f.c] := rfl
  have hc' : f.cells.toArray = #[.int .i64 f.k, .int .u16 (f.q : Int), .int .u32 (f.t : Int), .int .i32 f.a, .int .i32 f.b, .int .i32 f.c] := rfl
  have HK := Lib.hid (bl w (.cells f.cells.toArray 25))
  rw [hv] at hp ⊢
  rw [hc'] at hp HK
  obtain ⟨cd, hcd⟩ : ∃ cd, cd = codeF f := ⟨_, rfl⟩
  have HCD := Lib.hid hcd
  have HF := Lib.hid hf
  clear hcd hv hc' hf
  obtain ⟨x1, hx1⟩ : ∃ x, x = f.k := ⟨_, rfl⟩
  obtain ⟨x2, hx2⟩ : ∃ x, x = f.q := ⟨_, rfl⟩
  obtain ⟨x3, hx3⟩ : ∃ x, x = f.t := ⟨_, rfl⟩
  obtain ⟨x4, hx4⟩ : ∃ x, x = f.a := ⟨_, rfl⟩
  obtain ⟨x5, hx5⟩ : ∃ x, x = f.b := ⟨_, rfl⟩
  obtain ⟨x6, hx6⟩ : ∃ x, x = f.c := ⟨_, rfl⟩
  rw [← hx1, ← hx2, ← hx3, ← hx4, ← hx5, ← hx6] at hp ⊢
  rw [← hx1, ← hx2, ← hx3, ← hx4, ← hx5, ← hx6] at HK
  clear hx1 hx2 hx3 hx4 hx5 hx6
  go_enter Try.func72, Try.ntmps72
  go_wp2_with fail
  refine hp.mono ?_
  rintro e w1 ⟨⟨v, rfl, ho, hno⟩, hb⟩
  rw [← HCD.out] at ho hno ⊢
  have HK1 := Lib.hid (bt HK.out hb)
  have hsz := HK.out.size
  have HSZ := Lib.hid hsz
  clear hb HK hp hsz
  by_cases h0 : cd = 0
  · subst h0
    obtain ⟨A, cap, rfl, hrd, hc1, _, hA⟩ := own_rd (ho rfl)
    have h0 : codeF f = 0 := HCD.out.symm
    obtain ⟨p1, p2, p3⟩ := preC_len (n := n) HF.out h0
    obtain ⟨z, hz⟩ : ∃ z, z = (bytesF f).length := ⟨_, rfl⟩
    rw [← hz] at p1 p2 p3 hc1 hA
    have HZ := Lib.hid hz
    have HRD := Lib.hid hrd
    have HP1 := Lib.hid p1
    have HH0 := Lib.hid h0
    obtain ⟨bx, ox, rfl, _, _, _, _⟩ := hrd.some (by rw [List.length_map, ← hz]; omega)
    rw [← hz]
    have d0 : ((0 : Int) != 0) = false := rfl
    have hput := Txt.put_any none [] 0 0 n 8 0 0 w1 (.inl rfl) rfl (fun _ => ⟨rfl, rfl⟩) hn (by omega) (by omega)
    rw [List.nil_append] at hput
    clear hz hrd hA ho hno h0 p1 hc1
    go_wp2_with fail
    refine hput.mono ?_
    rintro e w2 ⟨⟨v2, rfl, ho2⟩, hb2⟩
    rw [show (leB n 8).length = 8 from leB_len n 8] at ho2
    obtain ⟨A2, c2, rfl, hr2, _, _, hA2⟩ := own_rd ho2
    have HK2 := Lib.hid (bt HK1.out hb2)
    have HRD2 := Lib.hid (HRD.out.next hb2)
    have hput2 := Txt.put_any A2 (leB n 8) 8 c2 z 1 w1.heap.size w2.heap.size w2 hr2 (leB_len n 8) (fun h => by have := hA2 h; omega) (by omega) (by omega) (by omega)
    have wz : IntKind.u64.wrap (z : Int) = (z : Int) := IntWalk.u64_in _ (by omega)
    clear hb2 ho2 hr2 hA2 hput HRD HK1
    go_wp2_with fail
    refine hput2.mono ?_
    rintro e w3 ⟨⟨v3, rfl, ho3⟩, hb3⟩
    obtain ⟨H9, hH9⟩ : ∃ L, L = leB n 8 ++ leB z 1 := ⟨_, rfl⟩
    rw [← hH9] at ho3
    have l9 : H9.length = 9 := by rw [hH9, List.length_append, leB_len, leB_len]
    rw [l9] at ho3
    obtain ⟨g3, c3, rfl⟩ := own_some ho3 (by omega)
    have HK3 := Lib.hid (bt HK2.out hb3)
    have HRD3 := Lib.hid (HRD2.out.next hb3)
    have HO3 := Lib.hid ho3
    have HH9 := Lib.hid hH9
    have hk32 := hb3.size
    have hk20 := HK2.out.size
    have HS3 := Lib.hid hk32
    have HS2 := Lib.hid hk20
    clear hb3 ho3 hput2 HRD2 HK2 l9 hH9 hk32 hk20
    obtain ⟨q, hq⟩ : ∃ q, q = 9 + z := ⟨_, rfl⟩
    obtain ⟨r, hr⟩ : ∃ r, r = 36 - q := ⟨_, rfl⟩
    have hr1 : 0 < r := by omega
    have hqr : q + r = 36 := by omega
    have hq21 : 0 < q := by omega
    have y1 : IntKind.i64.wrap (36 - (q : Int)) = (r : Int) := by rw [IntWalk.i64_in _ (by omega)]; omega
    have HQ := Lib.hid hq
    have HR := Lib.hid hr
    have HQR := Lib.hid hqr
    clear hq hr hqr
    go_wp2_with (first
      | (at_builtin; refine wpList_append_mine rfl (.tmp 23) (.tmp 24) 26 rfl w2.heap.size 5 i0 (.int .u8 0) 1 1 Try.underlying26 hi' hz0 hz1 hz2 rfl (by decide) (.slice (some ⟨g3, 0, none⟩) 9 c3) 9 (H9.map bv) rfl HO3.out (some ⟨bx, ox, none⟩) z cap ((bytesF f).map bv) rfl (by rw [List.length_map, HZ.out]; omega) (fun h => by cases h) HRD3.out.news (bv_one _) (by simp only [maxLen]; omega) (by omega) HS3.out ?_; intro v4 w4 hown4 hgrow4 hwhose4; rw [← HQ.out, ← List.map_append] at hown4; obtain ⟨g4, c4, rfl⟩ := own_some hown4 (by omega); have HO4 := Lib.hid hown4; have HK4 := Lib.hid (own_grow HK3.out HO3.out HS2.out hgrow4); have HS4 := Lib.hid (Nat.le_trans HS3.out hgrow4.size); clear hown4 hgrow4 hwhose4)
      | (at_builtin; refine wpList_append_zeros rfl (.tmp 26) (.tmp 29) 26 3 rfl w2.heap.size 5 i0 (.int .u8 0) .i64 .i64 Try.underlying26 Try.underlying3 hi' hz0 hz1 hz2 rfl rfl (.slice (some ⟨g4, 0, none⟩) q c4) q ((H9 ++ bytesF f).map bv) rfl HO4.out hq21 r rfl hr1 (by have := HQR.out; omega) HS4.out ?_; intro v5 w5 hown5 hgrow5 hwhose5; obtain ⟨g5, c5, rfl⟩ := own_some hown5 (by omega); have HO5 := Lib.hid hown5; have HK5 := Lib.hid (own_grow HK4.out HO4.out HS2.out hgrow5); clear hown5 hgrow5 hwhose5))
    have hbody : (H9 ++ bytesF f).map bv ++ List.replicate r (Value.int .u8 0) = (bodyC n f).map bv := by
      have hr' : 36 - (preC n f).length = r := by rw [HP1.out, HR.out, HQ.out]
      unfold bodyC
      rw [hr']
      unfold preC
      rw [HH9.out, HZ.out]
      simp only [List.map_append, List.map_replicate]
      rfl
    have h36 : (bodyC n f).length = q + r := by rw [bodyC_len HF.out HH0.out, HQR.out]
    have ho := HO5.out
    rw [hbody] at ho
    obtain ⟨A6, c6, e6, hr6, _, _, _⟩ := own_rd ho
    injection e6 with e6 e8 e7
    subst e6 e7
    clear e8
    have hcp := Crc.put_any (some ⟨g5, 0, none⟩) (bodyC n f) c5 w5 (RdL.bytes hr6) (fun h => by cases h) (by rw [h36, HQR.out]; decide)
    rw [h36] at hcp
    have HCP := Lib.hid hcp
    clear hbody h36 ho hr6 hcp
    go_wp2_with fail
    (with_reducible refine HCP.out.mono ?_)
    rintro e w6 ⟨v6, rfl, hown, hb6⟩
    have HO6 := Lib.hid hown
    have HK6 := Lib.hid (bt HK5.out hb6)
    have h56 := HK5.out.size
    clear hown hb6
    go_wp2
    go_ret2
    refine ⟨_, by rw [← HCD.out]; rfl, fun _ => ?_, fun h => absurd HH0.out h, HK6.out⟩
    have hO6 := HO6.out
    unfold Crc.Own at hO6
    have h40 : (Crc.put (bodyC n f)).length = 40 := cellL_len HF.out HH0.out
    rw [h40] at hO6
    exact own_down hO6 h56
  · have d0 : (cd != 0) = true := by rw [bne_iff_ne]; exact h0
    obtain rfl := hno h0
    have HNE := Lib.hid h0
    clear h0 ho hno
    go_wp2_with fail
    go_ret2
    exact ⟨_, by rw [← HCD.out]; rfl, fun h => absurd (HCD.out.trans h) HNE.out, fun _ => rfl, HK1.out⟩
end Rec
end Go.Proofs.Ytijijfggppnbpaa
