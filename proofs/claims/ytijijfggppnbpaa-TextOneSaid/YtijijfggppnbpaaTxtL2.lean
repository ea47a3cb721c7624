/-
  The law TextOne, walked.
-/
import Derived.Test.YtijijfggppnbpaaTxtL1
namespace Go.Proofs.Ytijijfggppnbpaa
open Go.RowKit
set_option linter.unusedVariables false
namespace Frm
theorem numsL_len (l : List Int) : (numsL l).length = 4 * l.length := by
  unfold numsL
  induction l with
  | nil => rfl
  | cons a l ih => rw [List.flatMap_cons, List.length_append, ih, Txt.leB_len, List.length_cons]; omega
theorem bytesF_len (f : Fr) (n : Nat) (hn : numK f.k = n) (hn3 : n ≤ 3) : (bytesF f).length = 12 + 4 * n := by
  unfold bytesF Crc.put headL
  rw [hn, List.length_append, List.length_append, numsL_len, List.length_take]
  simp only [List.length_append, Txt.leB_len, List.length_cons, List.length_nil, Crc.le4_len, Fr.nums]
  omega
end Frm
namespace Txt
open Frm (Fr codeF numK numN GotF)

set_option maxRecDepth 100000 in
set_option maxHeartbeats 1000000 in
theorem lawOne_long (l : List UInt8) (hl : 300 < l.length) (w : World) : Calls Try.prog 9 #[.string (tx l)] w fun e w' => e = .returned (.bool true) ∧ Below w.heap.size w w' := by
  have hwk := fun w => works42_any w
  have ts := tx_size l
  generalize l.length = m at *
  have hI : (300 : Int) < (m : Int) := by omega
  go_enter Try.func9, Try.ntmps9
  go_wp2_with fail
  refine (hwk _).mono ?_
  rintro e w3 ⟨rfl, hb⟩
  go_wp2_with fail
  go_ret
  exact ⟨rfl, hb⟩
set_option maxRecDepth 100000 in
set_option maxHeartbeats 1000000 in
theorem lawOne_no (l : List UInt8) (hl : l.length ≤ 300) (c : Int) (hc : c ≠ 0) (hr : getR l = (zeroF, c)) (w : World) : Calls Try.prog 9 #[.string (tx l)] w fun e w' => e = .returned (.bool true) ∧ Below w.heap.size w w' := by
  have hwk := fun w => works42_any w
  have ts := tx_size l
  have hx := fun w => xget_any l (by omega) w
  have hy := fun w => yget_any l (by omega) w
  have v0 : zeroF.v = .agg #[.int .i64 0, .int .u16 0, .int .u32 0, .int .i32 0, .int .i32 0, .int .i32 0] := rfl
  unfold GotG at hx hy
  simp only [hr, v0] at hx hy
  generalize l.length = m at *
  have hI : ¬ (300 : Int) < (m : Int) := by omega
  have hc1 : (c == 0) = false := beq_eq_false_iff_ne.2 hc
  have hc2 : (c != 0) = true := bne_iff_ne.2 hc
  clear hr v0 hc
  go_enter Try.func9, Try.ntmps9
  go_wp2_with fail
  refine (hx _).mono ?_
  rintro e w1 ⟨rfl, hb⟩
  have B1 := Lib.hid (_root_.Go.Proofs.Ytijijfggppnbpaa.bt hb (bl w1 (.cells zeroF.cells.toArray 25)))
  have F1 := Lib.hid (Blk.mk w1 25 zeroF.cells)
  clear hb hx
  go_wp2_with fail
  refine (hy _).mono ?_
  rintro e w2 ⟨rfl, hb⟩
  have F2 := Lib.hid (F1.out.next hb)
  have B2 := Lib.hid (_root_.Go.Proofs.Ytijijfggppnbpaa.bt (_root_.Go.Proofs.Ytijijfggppnbpaa.bt B1.out hb) (bl w2 (.cells zeroF.cells.toArray 25)))
  have e0 : w2.cell? ⟨w1.heap.size, 0, none⟩ = some (.int .i64 0) := F2.out.cell 0
  have e1 : w2.cell? ⟨w1.heap.size, 1, none⟩ = some (.int .u16 0) := F2.out.cell 1
  have e2 : w2.cell? ⟨w1.heap.size, 2, none⟩ = some (.int .u32 0) := F2.out.cell 2
  have e3 : w2.cell? ⟨w1.heap.size, 3, none⟩ = some (.int .i32 0) := F2.out.cell 3
  have e4 : w2.cell? ⟨w1.heap.size, 4, none⟩ = some (.int .i32 0) := F2.out.cell 4
  have e5 : w2.cell? ⟨w1.heap.size, 5, none⟩ = some (.int .i32 0) := F2.out.cell 5
  have hsz := F2.out.lt
  clear hb hy F1 B1
  go_wp2_with fail
  refine (hwk _).mono ?_
  rintro e w3 ⟨rfl, hb⟩
  have B3 := Lib.hid (_root_.Go.Proofs.Ytijijfggppnbpaa.bt B2.out hb)
  clear hb
  go_wp2_with fail
  go_ret
  exact ⟨rfl, B3.out⟩
set_option maxRecDepth 100000 in
set_option maxHeartbeats 1000000 in
theorem lawOne_yes (l : List UInt8) (hl : l.length ≤ 300) (f : Fr) (hr : getR l = (f, 0)) (hf : f.Ok) (h0 : codeF f = 0) (hline : lineF f = l) (n : Nat) (hn : numK f.k = n) (hn3 : n ≤ 3) (w : World) : Calls Try.prog 9 #[.string (tx l)] w fun e w' => e = .returned (.bool true) ∧ Below w.heap.size w w' := by
  have hwk := fun w => works42_any w
  have ts := tx_size l
  have tl := tx_list l
  have hx := fun w => xget_any l (by omega) w
  have hy := fun w => yget_any l (by omega) w
  have hp := fun w => xput_any f hf w
  have hq := fun w => Frm.yfput_any f hf w
  have hnm := fun w => Frm.ynumbers_any f.k w
  rw [hn] at hnm
  have hbl := Frm.bytesF_len f n hn hn3
  have ho : outF f = l := by unfold outF; rw [if_pos h0, hline]
  unfold GotG at hx hy
  unfold GotS at hp
  simp only [hr] at hx hy
  simp only [ho, h0] at hp
  have H0 := Lib.hid h0
  have HBL := Lib.hid hbl
  generalize l.length = m at *
  have hI : ¬ (300 : Int) < (m : Int) := by omega
  have y1 : IntKind.i64.wrap (4 * (n : Int)) = 4 * (n : Int) := IntWalk.i64_in _ (by omega)
  have y2 : IntKind.i64.wrap (12 + 4 * (n : Int)) = 12 + 4 * (n : Int) := IntWalk.i64_in _ (by omega)
  clear hr ho hline hbl h0 hf hn
  unfold Fr.v at *
  have F0 : ∀ (W : World), Hid (Blk (W.alloc (.cells f.cells.toArray 25)) W.heap.size 25 f.cells) := fun W => Lib.hid (Blk.mk W 25 f.cells)
  have B0 : ∀ (W : World), Hid (Below W.heap.size W (W.alloc (.cells f.cells.toArray 25))) := fun W => Lib.hid (bl W _)
  have HC : ∀ {W : World} {g : Nat}, Blk W g 25 f.cells → W.cell? ⟨g, 0, none⟩ = some (.int .i64 f.k) ∧ W.cell? ⟨g, 1, none⟩ = some (.int .u16 (f.q : Int)) ∧ W.cell? ⟨g, 2, none⟩ = some (.int .u32 (f.t : Int)) ∧ W.cell? ⟨g, 3, none⟩ = some (.int .i32 f.a) ∧ W.cell? ⟨g, 4, none⟩ = some (.int .i32 f.b) ∧ W.cell? ⟨g, 5, none⟩ = some (.int .i32 f.c) :=
    fun h => ⟨h.cell 0, h.cell 1, h.cell 2, h.cell 3, h.cell 4, h.cell 5⟩
  unfold Fr.cells at hx hy hp hq
  go_enter Try.func9, Try.ntmps9
  go_wp2_with fail
  refine (hx _).mono ?_
  rintro e w1 ⟨rfl, hb⟩
  have B1 := Lib.hid (_root_.Go.Proofs.Ytijijfggppnbpaa.bt hb (B0 w1).out)
  have F1 := F0 w1
  clear hb hx
  go_wp2_with fail
  refine (hy _).mono ?_
  rintro e w2 ⟨rfl, hb⟩
  have F2 := Lib.hid (F1.out.next hb)
  have F2b := Lib.hid (F2.out.next (B0 w2).out)
  have B2 := Lib.hid (_root_.Go.Proofs.Ytijijfggppnbpaa.bt (_root_.Go.Proofs.Ytijijfggppnbpaa.bt B1.out hb) (B0 w2).out)
  obtain ⟨e0, e1, e2, e3, e4, e5⟩ := HC F2.out
  have hsz := F2.out.lt
  clear hb hy F1 B1 F0 B0
  go_wp2_with fail
  refine (hp _).mono ?_
  rintro e w3 ⟨rfl, hb⟩
  have F3 := Lib.hid (F2b.out.next hb)
  have B3 := Lib.hid (_root_.Go.Proofs.Ytijijfggppnbpaa.bt B2.out hb)
  clear e0 e1 e2 e3 e4 e5 hsz
  obtain ⟨e0, e1, e2, e3, e4, e5⟩ := HC F3.out
  clear hb hp F2 F2b B2
  go_wp2_with fail
  refine (hq _).mono ?_
  rintro e w4 ⟨⟨v, rfl, hown, _⟩, hb⟩
  rw [H0.out]
  have F4 := Lib.hid (F3.out.next hb)
  have B4 := Lib.hid (_root_.Go.Proofs.Ytijijfggppnbpaa.bt B3.out hb)
  clear e0 e1 e2 e3 e4 e5
  obtain ⟨e0, _⟩ := HC F4.out
  have hown2 := hown H0.out
  rw [HBL.out] at hown2
  obtain ⟨A, cap, rfl, _, _, _, _⟩ := own_rd hown2
  clear hb hq F3 B3 hown hown2 HC HBL
  obtain ⟨N, hN⟩ : ∃ N, N = 12 + 4 * n := ⟨_, rfl⟩
  rw [← hN]
  have hb1 : ((N : Int) == 12 + 4 * (n : Int)) = true := beq_iff_eq.2 (by omega)
  clear hN
  go_wp2_with fail
  refine (hnm _).mono ?_
  rintro e w5 ⟨rfl, rfl⟩
  go_wp2_with fail
  refine (hwk _).mono ?_
  rintro e w6 ⟨rfl, hb⟩
  have B6 := Lib.hid (_root_.Go.Proofs.Ytijijfggppnbpaa.bt B4.out hb)
  clear hb
  go_wp2_with fail
  go_ret
  exact ⟨rfl, B6.out⟩
theorem walkOne (v0 : Value) (W : World) (h0 : VSat W .str false v0) :
    Calls Try.prog 9 #[v0] W fun e W' => e = .returned (.bool true) ∧ Below W.heap.size W W' := by
  obtain ⟨s, e, hs⟩ := h0
  injection e with e
  subst e
  obtain ⟨l, rfl⟩ := tx_of s
  by_cases hl : 300 < l.length
  · exact lawOne_long l hl W
  · rcases put_get l with ⟨h1, h2⟩ | ⟨h1, h2, h3, h4⟩
    · exact lawOne_no l (by omega) _ h1 (Prod.ext h2 rfl) W
    · rcases Frm.numK_cases (getR l).1.k with ⟨h, _⟩ | ⟨n, h, hn3, _⟩
      · exfalso
        unfold codeF at h3
        rw [h, if_pos (by decide)] at h3
        cases h3
      · exact lawOne_yes l (by omega) (getR l).1 (Prod.ext rfl h1) h2 h3 h4 n h hn3 W
end Txt
end Go.Proofs.Ytijijfggppnbpaa
