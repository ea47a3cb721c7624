/-
  The walk of package text: a frame as a line.
-/
import Derived.Test.YtijijfggppnbpaaFrmW4
namespace Go.Proofs.Ytijijfggppnbpaa
open Go.RowKit
set_option linter.unusedVariables false
namespace Txt
open Frm (Fr codeF numK GotF)

def tailL (l : List Int) : List UInt8 := l.flatMap fun x => 32 :: numL x
/-- a frame as a line -/
def lineF (f : Fr) : List UInt8 := wordL f.k ++ [32] ++ numL f.q ++ [32] ++ numL f.t ++ tailL (f.nums.take (numK f.k).toNat)
def outF (f : Fr) : List UInt8 := if codeF f = 0 then lineF f else []
def GotS (w : World) (f : Fr) (e : Ending) (w' : World) : Prop := e = .returned (.tuple #[.string (tx (outF f)), .int .i64 (codeF f)]) ∧ Below w.heap.size w w'
theorem wordL_len (k : Int) : (wordL k).length ≤ 7 := by
  rcases kind_cases k with rfl | rfl | rfl | rfl | rfl | rfl | rfl | h
  case inr.inr.inr.inr.inr.inr.inr =>
    rw [show wordL k = [] from wordN_none (by omega)]
    decide
  all_goals decide
theorem tailL_len (l : List Int) (h : ∀ x ∈ l, x.natAbs < 10 ^ 19) : (tailL l).length ≤ 21 * l.length := by
  induction l with
  | nil => exact Nat.le_refl _
  | cons a l ih =>
    have h1 := ih fun x hx => h x (List.mem_cons_of_mem _ hx)
    have h2 := numL_len a (h a List.mem_cons_self)
    unfold tailL at h1 ⊢
    rw [List.flatMap_cons, List.length_append, List.length_cons, List.length_cons]
    omega
theorem nums_ok {f : Fr} (hf : f.Ok) : ∀ x ∈ f.nums, -2147483648 ≤ x ∧ x ≤ 2147483647 := by
  intro x hx
  simp only [Fr.nums, List.mem_cons, List.not_mem_nil, or_false] at hx
  rcases hx with rfl | rfl | rfl
  · exact ⟨hf.a1, hf.a2⟩
  · exact ⟨hf.b1, hf.b2⟩
  · exact ⟨hf.c1, hf.c2⟩
set_option maxRecDepth 100000 in
set_option maxHeartbeats 1000000 in
theorem xput_no (f : Fr) (hf : f.Ok) (h0 : codeF f ≠ 0) (w : World) : Calls Try.prog 37 #[f.v] w (GotS w f) := by
  have hput := fun w => Frm.put_any f hf w
  have ho : outF f = [] := by unfold outF; rw [if_neg h0]
  have HO := Lib.hid ho
  have hcb : (codeF f == 0) = false := beq_eq_false_iff_ne.2 h0
  have hcb2 : (codeF f != 0) = true := bne_iff_ne.2 h0
  clear ho h0
  unfold Fr.v Fr.cells at *
  go_enter Try.func37, Try.ntmps37
  go_wp2_with fail
  refine (hput _).mono ?_
  rintro e w1 ⟨⟨v, rfl, _, _⟩, hb⟩
  go_wp2_with fail
  refine bodyPost_ret (results_tmp2 rfl _ _ _) rfl ?_
  exact ⟨by rw [HO.out]; rfl, _root_.Go.Proofs.Ytijijfggppnbpaa.bt (bl _ _) hb⟩
/-- the frame stands in its block, and all else is as it was -/
structure Pz (w : World) (f : Fr) (wr : World) : Prop where
  blk : Blk wr w.heap.size 25 f.cells
  below : Below w.heap.size w wr
theorem Pz.next {w wr w' : World} {f : Fr} (S : Pz w f wr) (hb : Below wr.heap.size wr w') : Pz w f w' := ⟨S.blk.next hb, _root_.Go.Proofs.Ytijijfggppnbpaa.bt S.below hb⟩
theorem Pz.drew {w wr : World} {f : Fr} (S : Pz w f wr) : Pz w f wr.drew := ⟨S.blk.drew, S.below.drew⟩
theorem Pz.s {w wr : World} {f : Fr} (S : Pz w f wr) : Pz w f wr ∧ wr.cell? ⟨w.heap.size, 0, none⟩ = some (.int .i64 f.k) ∧ wr.cell? ⟨w.heap.size, 1, none⟩ = some (.int .u16 (f.q : Int)) ∧ wr.cell? ⟨w.heap.size, 2, none⟩ = some (.int .u32 (f.t : Int)) ∧ wr.cell? ⟨w.heap.size, 3, none⟩ = some (.int .i32 f.a) ∧ wr.cell? ⟨w.heap.size, 4, none⟩ = some (.int .i32 f.b) ∧ wr.cell? ⟨w.heap.size, 5, none⟩ = some (.int .i32 f.c) := ⟨S, S.blk.cell 0, S.blk.cell 1, S.blk.cell 2, S.blk.cell 3, S.blk.cell 4, S.blk.cell 5⟩
theorem Pz.step {w wr w' : World} {f : Fr} (S : Pz w f wr ∧ wr.cell? ⟨w.heap.size, 0, none⟩ = some (.int .i64 f.k) ∧ wr.cell? ⟨w.heap.size, 1, none⟩ = some (.int .u16 (f.q : Int)) ∧ wr.cell? ⟨w.heap.size, 2, none⟩ = some (.int .u32 (f.t : Int)) ∧ wr.cell? ⟨w.heap.size, 3, none⟩ = some (.int .i32 f.a) ∧ wr.cell? ⟨w.heap.size, 4, none⟩ = some (.int .i32 f.b) ∧ wr.cell? ⟨w.heap.size, 5, none⟩ = some (.int .i32 f.c)) (hb : Below wr.heap.size wr w') : Pz w f w' ∧ w'.cell? ⟨w.heap.size, 0, none⟩ = some (.int .i64 f.k) ∧ w'.cell? ⟨w.heap.size, 1, none⟩ = some (.int .u16 (f.q : Int)) ∧ w'.cell? ⟨w.heap.size, 2, none⟩ = some (.int .u32 (f.t : Int)) ∧ w'.cell? ⟨w.heap.size, 3, none⟩ = some (.int .i32 f.a) ∧ w'.cell? ⟨w.heap.size, 4, none⟩ = some (.int .i32 f.b) ∧ w'.cell? ⟨w.heap.size, 5, none⟩ = some (.int .i32 f.c) := (S.1.next hb).s
set_option maxRecDepth 100000 in
set_option maxHeartbeats 1000000 in
theorem xput_yes (f : Fr) (hf : f.Ok) (h0 : codeF f = 0) (n : Nat) (hn : numK f.k = n) (hn3 : n ≤ 3) (w : World) : Calls Try.prog 37 #[f.v] w (GotS w f) := by
  have hput := fun w => Frm.put_any f hf w
  have hwd := fun w => xWord_any f.k w
  have hnq := fun w => xNumber_any (f.q : Int) (by omega) (by have := hf.q; omega) w
  have hnt := fun w => xNumber_any (f.t : Int) (by omega) (by have := hf.t; omega) w
  have hnm := fun w => Frm.numbers_any f.k w
  rw [hn] at hnm
  have lw := wordL_len f.k
  have lq := numL_len f.q (by have := hf.q; omega)
  have lt := numL_len f.t (by have := hf.t; omega)
  have hline : outF f = wordL f.k ++ [32] ++ numL f.q ++ [32] ++ numL f.t ++ tailL (f.nums.take n) := by
    unfold outF lineF
    rw [if_pos h0, hn]
    rfl
  have Hline := Lib.hid hline
  have hq64 : IntKind.i64.wrap (f.q : Int) = (f.q : Int) := IntWalk.i64_in _ (by have := hf.q; omega)
  have ht64 : IntKind.i64.wrap (f.t : Int) = (f.t : Int) := IntWalk.i64_in _ (by have := hf.t; omega)
  have HF := Lib.hid (show f.Ok from hf)
  have H0 := Lib.hid h0
  clear hline h0 hf
  have h32 : ({ data := #[32] } : ByteArray) = tx [32] := rfl
  obtain ⟨W, hW⟩ : ∃ l, l = wordL f.k := ⟨_, rfl⟩
  obtain ⟨Q, hQ⟩ : ∃ l, l = numL f.q := ⟨_, rfl⟩
  obtain ⟨T, hT⟩ : ∃ l, l = numL f.t := ⟨_, rfl⟩
  rw [← hW] at hwd lw Hline
  rw [← hQ] at hnq lq Hline
  rw [← hT] at hnt lt Hline
  clear hW hQ hT
  obtain ⟨a1, h1⟩ : ∃ l, l = W ++ [32] := ⟨_, rfl⟩
  have r1 := fun w => cat_run W [32] (by omega) (by decide) w
  rw [← h1] at r1
  have l1 : a1.length ≤ 8 := by rw [h1, List.length_append]; simp; omega
  obtain ⟨a2, h2⟩ : ∃ l, l = a1 ++ Q := ⟨_, rfl⟩
  have r2 := fun w => cat_run a1 Q (by omega) (by omega) w
  rw [← h2] at r2
  have l2 : a2.length ≤ 28 := by rw [h2, List.length_append]; omega
  obtain ⟨a3, h3⟩ : ∃ l, l = a2 ++ [32] := ⟨_, rfl⟩
  have r3 := fun w => cat_run a2 [32] (by omega) (by decide) w
  rw [← h3] at r3
  have l3 : a3.length ≤ 29 := by rw [h3, List.length_append]; simp; omega
  obtain ⟨a4, h4⟩ : ∃ l, l = a3 ++ T := ⟨_, rfl⟩
  have r4 := fun w => cat_run a3 T (by omega) (by omega) w
  rw [← h4] at r4
  have l4 : a4.length ≤ 49 := by rw [h4, List.length_append]; omega
  have hline : outF f = a4 ++ tailL (f.nums.take n) := by rw [Hline.out, h4, h3, h2, h1]
  have HL := Lib.hid hline
  clear hline Hline h1 h2 h3 h4 hn
  have hP0 : Pz w f (w.alloc (.cells f.cells.toArray 25)) := ⟨Blk.mk w _ _, bl _ _⟩
  have HP0 := Lib.hid hP0
  clear hP0
  unfold Fr.v Fr.cells at *
  go_enter Try.func37, Try.ntmps37
  go_wp2_with fail
  refine (hput _).mono ?_
  rintro e w1 ⟨⟨v, rfl, _, _⟩, hb⟩
  rw [H0.out]
  have HP1 := Lib.hid (HP0.out.next hb)
  clear hb HP0 hput
  go_wp2_with fail
  go_region_held3 (fun w' => Pz w f w' ∧ w'.cell? ⟨w.heap.size, 0, none⟩ = some (.int .i64 f.k) ∧ w'.cell? ⟨w.heap.size, 1, none⟩ = some (.int .u16 (f.q : Int)) ∧ w'.cell? ⟨w.heap.size, 2, none⟩ = some (.int .u32 (f.t : Int)) ∧ w'.cell? ⟨w.heap.size, 3, none⟩ = some (.int .i32 f.a) ∧ w'.cell? ⟨w.heap.size, 4, none⟩ = some (.int .i32 f.b) ∧ w'.cell? ⟨w.heap.size, 5, none⟩ = some (.int .i32 f.c))
    (first
      | exact HP1.out.drew.s
      | assumption
      | exact Pz.step (by assumption) (by assumption))
    (first
      | (go_at_call 30; refine (hwd _).mono ?_; rintro e w' ⟨rfl, rfl⟩)
      | (go_at_call 28; (with_reducible refine (hnq _).mono ?_); rintro e w' ⟨rfl, hb⟩)
      | (go_at_call 28; (with_reducible refine (hnt _).mono ?_); rintro e w' ⟨rfl, hb⟩))
  have HP2 := Lib.hid (And.left ‹Pz w f _ ∧ _›)
  clear HP1 hwd hnq hnt r1 r2 r3 r4 lw lq lt l1 l2 l3
  have hnI : (n : Int) ≤ 3 := by omega
  go_upto_region 5 with (fail)
  go_cut [42, 43, 44] (fun s m i wr => ∃ g, s = .slice (some ⟨g, 0, none⟩) n 3 ∧ m = .int .i64 (n : Int) ∧ i = .int .i64 0 ∧ Blk wr g 21 (f.nums.map (.int .i32)) ∧ Pz w f wr)
  case first =>
    go_region_held3 (fun w' => Pz w f w' ∧ w'.cell? ⟨w.heap.size, 0, none⟩ = some (.int .i64 f.k) ∧ w'.cell? ⟨w.heap.size, 1, none⟩ = some (.int .u16 (f.q : Int)) ∧ w'.cell? ⟨w.heap.size, 2, none⟩ = some (.int .u32 (f.t : Int)) ∧ w'.cell? ⟨w.heap.size, 3, none⟩ = some (.int .i32 f.a) ∧ w'.cell? ⟨w.heap.size, 4, none⟩ = some (.int .i32 f.b) ∧ w'.cell? ⟨w.heap.size, 5, none⟩ = some (.int .i32 f.c))
      (first
        | exact HP2.out.drew.s
        | assumption
        | exact Pz.step (by assumption) (by assumption)
        | exact Pz.step (by assumption) (bl _ _))
      (first
        | (go_at_call 15; (with_reducible refine (hnm _).mono ?_); rintro e w' ⟨rfl, hb⟩))
    all_goals go_wp2_with fail
    all_goals go_meet
    · exact ⟨_, rfl, rfl, rfl, (Blk.mk _ 21 [.int .i32 f.a, .int .i32 f.b, .int .i32 f.c]).drew.next hb, And.left ‹Pz w f _ ∧ _›⟩
    · exact ⟨_, rfl, rfl, rfl, Blk.mk _ 21 (f.nums.map (.int .i32)), And.left ‹Pz w f _ ∧ _›⟩
  case rest =>
    obtain ⟨g, rfl, rfl, rfl, hbk, hpz⟩ := hcut
    have HB := Lib.hid hbk
    have HP3 := Lib.hid hpz
    clear hbk hpz HP2 hnm
    go_wp2_with fail
    go_loopw [6, 44] (fun o i wr => ∃ j : Nat, j ≤ n ∧ i = .int .i64 (j : Int) ∧ o = .string (tx (a4 ++ tailL (f.nums.take j))) ∧ Blk wr g 21 (f.nums.map (.int .i32)) ∧ Below w.heap.size w wr) (fun _ i _ => n - (intOf i).toNat)
    case atStart => exact ⟨0, by omega, rfl, by rw [show tailL (f.nums.take 0) = [] from rfl, List.append_nil], HB.out, HP3.out.below⟩
    case round =>
      obtain ⟨j, hj, rfl, rfl, hbk, hb⟩ := hrel
      clear HB HP3
      have HB := Lib.hid hbk
      have Hb := Lib.hid hb
      clear hb
      by_cases hlt : j < n
      · have hltI : (j : Int) < (n : Int) := by omega
        have h0j : (0 : Int) ≤ (j : Int) := by omega
        have hl : j < f.nums.length := by show j < 3; omega
        obtain ⟨x, hx⟩ : ∃ x, f.nums[j] = x := ⟨_, rfl⟩
        have hc : wr.cell? ⟨g, j, none⟩ = some (.int .i32 x) := by
          rw [hbk.cell, List.getElem?_map, List.getElem?_eq_getElem hl, hx]
          rfl
        have hxb := nums_ok HF.out x (by rw [← hx]; exact List.getElem_mem hl)
        have hx64 : IntKind.i64.wrap x = x := IntWalk.i64_in _ (by omega)
        have hnx := fun w => xNumber_any x (by omega) (by omega) w
        have lx := numL_len x (by omega)
        have htl : tailL (f.nums.take (j + 1)) = tailL (f.nums.take j) ++ ([32] ++ numL x) := by
          rw [List.take_add_one, List.getElem?_eq_getElem hl, hx]
          unfold tailL
          rw [List.flatMap_append]
          simp
        have lt := tailL_len (f.nums.take j) (fun y hy => by have := nums_ok HF.out y (List.mem_of_mem_take hy); omega)
        have lj : (f.nums.take j).length ≤ 3 := List.length_take_le' _ _
        rw [← List.append_assoc] at htl
        obtain ⟨Y, hY⟩ : ∃ l, l = [32] ++ numL x := ⟨_, rfl⟩
        have r1 := fun w => cat_run [32] (numL x) (by decide) (by omega) w
        rw [← hY] at r1
        have lY : Y.length ≤ 21 := by rw [hY, List.length_append]; simp; omega
        obtain ⟨Z, hZ⟩ : ∃ l, l = a4 ++ tailL (f.nums.take j) := ⟨_, rfl⟩
        have lZ : Z.length ≤ 200 := by rw [hZ, List.length_append]; omega
        rw [← hZ]
        have r2 := fun w => cat_run Z Y (by omega) (by omega) w
        have hnew : a4 ++ tailL (f.nums.take (j + 1)) = Z ++ Y := by rw [htl, hZ, hY, List.append_assoc, List.append_assoc]
        have HN := Lib.hid hnew
        clear hnew hZ hY htl lt lj lY lZ lx hxb hx hbk
        generalize numL x = X at *
        generalize Z ++ Y = Z2 at *
        go_wp2_with fail
        refine (hnx _).mono ?_
        rintro e w6 ⟨rfl, hb6⟩
        have HB2 := Lib.hid (HB.out.next hb6)
        have B2 := Lib.hid (_root_.Go.Proofs.Ytijijfggppnbpaa.bt Hb.out hb6)
        clear hb6 hnx
        go_wp2_with fail
        go_roundw
        case rel => exact ⟨j + 1, by omega, by go_num, by rw [HN.out], HB2.out, B2.out⟩
        case measure => first | (simp [intOf]; done) | (simp [intOf]; omega)
      · obtain rfl : j = n := by omega
        rw [← HL.out]
        have hge : ¬ (j : Int) < (j : Int) := by omega
        clear hbk
        go_wp2_with fail
        refine bodyPost_ret (results_tmp2 rfl _ _ _) rfl ?_
        exact ⟨by rw [H0.out]; rfl, Hb.out⟩
theorem xput_any (f : Fr) (hf : f.Ok) (w : World) : Calls Try.prog 37 #[f.v] w (GotS w f) := by
  by_cases h0 : codeF f = 0
  · rcases Frm.numK_cases f.k with ⟨h, _⟩ | ⟨n, h, h3, h1, h7⟩
    · exfalso
      unfold codeF at h0
      rw [h, if_pos (by decide)] at h0
      cases h0
    · exact xput_yes f hf h0 n h h3 w
  · exact xput_no f hf h0 w
end Txt
end Go.Proofs.Ytijijfggppnbpaa
