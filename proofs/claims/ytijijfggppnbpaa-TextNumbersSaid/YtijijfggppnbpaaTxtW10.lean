/-
  The walk of the reference of package text: a frame as a line.
-/
import Derived.Test.YtijijfggppnbpaaTxtW9
namespace Go.Proofs.Ytijijfggppnbpaa
open Go.RowKit
set_option linter.unusedVariables false
namespace Txt
open Frm (Fr codeF numK GotF)

def nums5 (f : Fr) : List Int := [(f.q : Int), (f.t : Int), f.a, f.b, f.c]
theorem nums5_ok {f : Fr} (hf : f.Ok) : ∀ x ∈ nums5 f, -2147483648 ≤ x ∧ x ≤ 4294967295 := by
  intro x hx
  simp only [nums5, List.mem_cons, List.not_mem_nil, or_false] at hx
  have := hf.q
  have := hf.t
  have := hf.a1
  have := hf.a2
  have := hf.b1
  have := hf.b2
  have := hf.c1
  have := hf.c2
  rcases hx with rfl | rfl | rfl | rfl | rfl <;> omega
theorem line5 (f : Fr) (n : Nat) (hn : n ≤ 3) : wordL f.k ++ tailL ((nums5 f).take (2 + n)) = wordL f.k ++ [32] ++ numL f.q ++ [32] ++ numL f.t ++ tailL (f.nums.take n) := by
  have e : (nums5 f).take (2 + n) = (f.q : Int) :: (f.t : Int) :: f.nums.take n := by
    rcases (by omega : n = 0 ∨ n = 1 ∨ n = 2 ∨ n = 3) with rfl | rfl | rfl | rfl <;> rfl
  rw [e]
  unfold tailL
  simp [List.append_assoc]
set_option maxRecDepth 100000 in
set_option maxHeartbeats 1000000 in
theorem yput_no (f : Fr) (hf : f.Ok) (h0 : codeF f ≠ 0) (w : World) : Calls Try.prog 38 #[f.v] w (GotS w f) := by
  have hput := fun w => Frm.yfput_any f hf w
  have ho : outF f = [] := by unfold outF; rw [if_neg h0]
  have HO := Lib.hid ho
  have hcb : (codeF f == 0) = false := beq_eq_false_iff_ne.2 h0
  have hcb2 : (codeF f != 0) = true := bne_iff_ne.2 h0
  clear ho h0
  unfold Fr.v Fr.cells at *
  go_enter Try.func38, Try.ntmps38
  go_wp2_with fail
  refine (hput _).mono ?_
  rintro e w1 ⟨⟨v, rfl, _, _⟩, hb⟩
  go_wp2_with fail
  refine bodyPost_ret (results_tmp2 rfl _ _ _) rfl ?_
  exact ⟨by rw [HO.out]; rfl, _root_.Go.Proofs.Ytijijfggppnbpaa.bt (bl _ _) hb⟩
set_option maxRecDepth 100000 in
set_option maxHeartbeats 1000000 in
theorem yput_yes (f : Fr) (hf : f.Ok) (h0 : codeF f = 0) (n : Nat) (hn : numK f.k = n) (hn3 : n ≤ 3) (w : World) : Calls Try.prog 38 #[f.v] w (GotS w f) := by
  have hput := fun w => Frm.yfput_any f hf w
  have hwd := fun w => yWord_any f.k w
  have hnm := fun w => Frm.ynumbers_any f.k w
  rw [hn] at hnm
  have lw := wordL_len f.k
  have hline : outF f = wordL f.k ++ tailL ((nums5 f).take (2 + n)) := by
    rw [line5 f n hn3]
    unfold outF lineF
    rw [if_pos h0, hn]
    rfl
  have HL := Lib.hid hline
  have hq64 : IntKind.i64.wrap (f.q : Int) = (f.q : Int) := IntWalk.i64_in _ (by have := hf.q; omega)
  have ht64 : IntKind.i64.wrap (f.t : Int) = (f.t : Int) := IntWalk.i64_in _ (by have := hf.t; omega)
  have ha64 : IntKind.i64.wrap f.a = f.a := IntWalk.i64_in _ (by have := hf.a1; have := hf.a2; omega)
  have hb64 : IntKind.i64.wrap f.b = f.b := IntWalk.i64_in _ (by have := hf.b1; have := hf.b2; omega)
  have hc64 : IntKind.i64.wrap f.c = f.c := IntWalk.i64_in _ (by have := hf.c1; have := hf.c2; omega)
  have h2n : IntKind.i64.wrap (2 + (n : Int)) = 2 + (n : Int) := IntWalk.i64_in _ (by omega)
  have HF := Lib.hid (show f.Ok from hf)
  have H0 := Lib.hid h0
  clear hline h0 hf hn
  have h32 : ({ data := #[32] } : ByteArray) = tx [32] := rfl
  obtain ⟨W, hW⟩ : ∃ l, l = wordL f.k := ⟨_, rfl⟩
  rw [← hW] at hwd lw HL
  clear hW
  have hP0 : Pz w f (w.alloc (.cells f.cells.toArray 25)) := ⟨Blk.mk w _ _, bl _ _⟩
  have HP0 := Lib.hid hP0
  clear hP0
  unfold Fr.v Fr.cells at *
  go_enter Try.func38, Try.ntmps38
  go_wp2_with fail
  refine (hput _).mono ?_
  rintro e w1 ⟨⟨v, rfl, _, _⟩, hb⟩
  rw [H0.out]
  have HP1 := Lib.hid (HP0.out.next hb)
  clear hb HP0 hput
  obtain ⟨_, e0, e1, e2, e3, e4, e5⟩ := HP1.out.s
  have hsz := HP1.out.blk.lt
  have HP2 := Lib.hid (HP1.out.next (bl w1 (.cells #[.int .i64 (f.q : Int), .int .i64 (f.t : Int), .int .i64 f.a, .int .i64 f.b, .int .i64 f.c] 2)))
  have HB2 := Lib.hid (Blk.mk w1 2 ((nums5 f).map (.int .i64)))
  have f0 := HP2.out.blk.cell 0
  change _ = some (Value.int .i64 f.k) at f0
  clear HP1
  go_wp2_with fail
  refine (hwd _).mono ?_
  rintro e w2 ⟨rfl, hb⟩
  have HP3 := Lib.hid (HP2.out.next hb)
  have HB3 : Hid (Blk w2 w1.heap.size 2 ((nums5 f).map (.int .i64))) := Lib.hid (HB2.out.next hb)
  generalize w1.heap.size = g at *
  clear hb hwd e0 e1 e2 e3 e4 e5 f0 HP2 HB2
  go_wp2_with fail
  go_loopw [7, 8] (fun o i wr => ∃ j : Nat, j ≤ 2 + n ∧ i = .int .i64 (j : Int) ∧ o = .string (tx (W ++ tailL ((nums5 f).take j))) ∧ Blk wr g 2 ((nums5 f).map (.int .i64)) ∧ Pz w f wr) (fun _ i _ => 2 + n - (intOf i).toNat)
  case atStart => exact ⟨0, by omega, rfl, by rw [show tailL ((nums5 f).take 0) = [] from rfl, List.append_nil], HB3.out, HP3.out⟩
  case round =>
    obtain ⟨j, hj, rfl, rfl, hbk, hp⟩ := hrel
    clear HB3 HP3
    have HB := Lib.hid hbk
    have HP := Lib.hid hp
    have e0 := hp.blk.cell 0
    change _ = some (Value.int .i64 f.k) at e0
    clear hp
    by_cases hlt : j < 2 + n
    · have hltI : (j : Int) < 2 + (n : Int) := by omega
      have h0j : (0 : Int) ≤ (j : Int) := by omega
      have hj5 : (j : Int) < 5 := by omega
      have hl : j < (nums5 f).length := by show j < 5; omega
      obtain ⟨x, hx⟩ : ∃ x, (nums5 f)[j] = x := ⟨_, rfl⟩
      have hc : wr.cell? ⟨g, j, none⟩ = some (.int .i64 x) := by
        rw [hbk.cell, List.getElem?_map, List.getElem?_eq_getElem hl, hx]
        rfl
      have hxb := nums5_ok HF.out x (by rw [← hx]; exact List.getElem_mem hl)
      have hnx := fun w => yNumber_any x.natAbs x w rfl (by omega) (by omega)
      have lx := numL_len x (by omega)
      have htl : tailL ((nums5 f).take (j + 1)) = tailL ((nums5 f).take j) ++ [32] ++ numL x := by
        rw [List.take_add_one, List.getElem?_eq_getElem hl, hx]
        unfold tailL
        rw [List.flatMap_append]
        simp
      have lt := tailL_len ((nums5 f).take j) (fun y hy => by have := nums5_ok HF.out y (List.mem_of_mem_take hy); omega)
      have lj : ((nums5 f).take j).length ≤ 5 := List.length_take_le' _ _
      obtain ⟨Z, hZ⟩ : ∃ l, l = W ++ tailL ((nums5 f).take j) := ⟨_, rfl⟩
      have lZ : Z.length ≤ 200 := by rw [hZ, List.length_append]; omega
      rw [← hZ]
      have r1 := fun w => cat_run Z [32] (by omega) (by decide) w
      obtain ⟨Y, hY⟩ : ∃ l, l = Z ++ [32] := ⟨_, rfl⟩
      have lY : Y.length ≤ 201 := by rw [hY, List.length_append]; simp; omega
      rw [← hY] at r1
      have r2 := fun w => cat_run Y (numL x) (by omega) (by omega) w
      have hnew : W ++ tailL ((nums5 f).take (j + 1)) = Y ++ numL x := by rw [htl, hY, hZ]; simp [List.append_assoc]
      have HN := Lib.hid hnew
      clear hnew hZ hY htl lt lj lY lZ lx hxb hx hbk
      generalize numL x = X at *
      generalize Y ++ X = Z2 at *
      go_wp2_with fail
      refine (hnm _).mono ?_
      rintro e w5 ⟨rfl, rfl⟩
      go_wp2_with fail
      refine (hnx _).mono ?_
      rintro e w6 ⟨rfl, hb6⟩
      have HB2 := Lib.hid (HB.out.next hb6)
      have HP2 := Lib.hid (HP.out.next hb6)
      clear hb6 hnx
      go_wp2_with fail
      go_roundw
      case rel => exact ⟨j + 1, by omega, by go_num, by rw [HN.out], HB2.out, HP2.out⟩
      case measure => first | (simp [intOf]; done) | (simp [intOf]; omega)
    · obtain rfl : j = 2 + n := by omega
      rw [← HL.out]
      have hge : ¬ ((2 + n : Nat) : Int) < 2 + (n : Int) := by omega
      clear hbk
      go_wp2_with fail
      refine (hnm _).mono ?_
      rintro e w5 ⟨rfl, rfl⟩
      go_wp2_with fail
      refine bodyPost_ret (results_tmp2 rfl _ _ _) rfl ?_
      exact ⟨by rw [H0.out]; rfl, HP.out.below⟩
theorem yput_any (f : Fr) (hf : f.Ok) (w : World) : Calls Try.prog 38 #[f.v] w (GotS w f) := by
  by_cases h0 : codeF f = 0
  · rcases Frm.numK_cases f.k with ⟨h, _⟩ | ⟨n, h, h3, h1, h7⟩
    · exfalso
      unfold codeF at h0
      rw [h, if_pos (by decide)] at h0
      cases h0
    · exact yput_yes f hf h0 n h h3 w
  · exact yput_no f hf h0 w
end Txt
end Go.Proofs.Ytijijfggppnbpaa
