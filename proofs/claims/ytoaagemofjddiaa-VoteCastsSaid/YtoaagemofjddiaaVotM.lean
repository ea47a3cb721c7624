/-
  The walks of package vote: the middle one of some numbers, and of some texts.
-/
import Derived.Test.YtoaagemofjddiaaChecked
import Derived.Test.YtoaagemofjddiaaRows
import Derived.Test.YtoaagemofjddiaaRow
import Derived.Test.YtoaagemofjddiaaVotP
import Derived.Test.YtoaagemofjddiaaVotS
import Derived.Sort.OwnSortedInts
import Derived.Lib.OwnBridge
import Derived.Outline
import Derived.Laws.Rows
namespace Go.Proofs.Ytoaagemofjddiaa
open Go.RowKit Go.Shelf Go.Sort
set_option linter.unusedVariables false
namespace Vot

theorem cell_of_holds {α : Type} [Inhabited α] {enc : α → Value} {w : World} {g : Nat} {S : List α} (h : Holds enc w g 0 S.toArray) (j : Nat) (hj : j < S.length) : w.cell? ⟨g, j, none⟩ = some (enc (S.getD j default)) := by
  have h1 := (h j (by simpa using hj)).1
  rw [Nat.zero_add] at h1
  rw [h1, getElem!_pos _ j (by simpa using hj)]
  simp [List.getD, List.getElem?_eq_getElem hj]
theorem info64 : (Try.prog.info? 2).map (fun i => (i.zero, i.size, i.bytes)) = some (some (.int .i64 0), 1, 8) := by kernel_rfl
theorem infoInt : (Try.prog.info? 3).map (fun i => (i.zero, i.size, i.bytes)) = some (some (.int .i64 0), 1, 8) := by kernel_rfl
theorem infoStr : (Try.prog.info? 9).map (fun i => (i.zero, i.size, i.bytes)) = some (some (.string ⟨#[]⟩), 1, 16) := by kernel_rfl

set_option maxRecDepth 100000 in
set_option maxHeartbeats 1000000 in
/-- the middle one of some numbers of 64 bits -/
theorem mid64_some {w : World} {lo hi b off c : Nat} (zs : List Int) (h0 : 0 < zs.length) (hbig : zs.length ≤ 1000) (R : RdL w lo hi (some ⟨b, off, none⟩) (zs.map (Value.int .i64))) :
    Calls Try.prog 29 #[.slice (some ⟨b, off, none⟩) zs.length c] w fun e w' => e = .returned (.tuple #[(Value.int .i64) ((zs.mergeSort fun x y => decide (x ≤ y)).getD ((zs.length - 1) / 2) default), .bool true]) ∧ Below w.heap.size w w' := by
  obtain ⟨i0, hi0, hz0, hz1, hz2⟩ := info_parts info64
  have hclone := AnyE.slices_Clone cloneI64 i0 _ 1 8 hi0 hz0 hz1 hz2 (by rfl) (by decide) (fun w => by kernel_rfl) b off zs.length c (zs.map (Value.int .i64)) w (by simp) (by unfold maxLen; omega) (by omega)
    (fun j u hu => by
      obtain ⟨b', off', e, _, _, _, hc⟩ := R.some (by simpa using h0)
      injection e with e
      injection e with e1 e2
      subst e1 e2
      exact hc j u hu)
    (fun u hu => by obtain ⟨x, _, rfl⟩ := List.mem_map.1 hu; rfl)
  have hp0 : ((zs.length : Int) == 0) = false := by rw [beq_eq_false_iff_ne]; omega
  have hd : ((zs.length : Int) - 1).tdiv 2 = (((zs.length - 1) / 2 : Nat) : Int) := by
    rw [Int.tdiv_eq_ediv_of_nonneg (show (0 : Int) ≤ (zs.length : Int) - 1 by omega)]
    omega
  have hw1 : IntKind.i64.wrap ((zs.length : Int) - 1) = (zs.length : Int) - 1 := IntWalk.i64_in _ (by omega)
  have hw2 : IntKind.i64.wrap (((zs.length - 1) / 2 : Nat) : Int) = (((zs.length - 1) / 2 : Nat) : Int) := IntWalk.i64_in _ (by omega)
  have hlt : (((zs.length - 1) / 2 : Nat) : Int) < (zs.length : Int) := by omega
  clear R
  go_enter Try.func29, Try.ntmps29
  go_wp2_with (first
    | (go_at_call 54; refine hclone.mono ?_; rintro e w1 ⟨v1, rfl, hown, hnn, hbel⟩
       obtain ⟨g, cap, rfl, hbg, hgl, hncap, hcm, hlen, hH⟩ := Lib.holds_of_ownsRow hown hnn
       have hsort := AnyM.slices_Sort_int sortI64 g 0 cap zs w1 hH hgl (by omega)
       have X : Aside (Below w.heap.size w w1 ∧ w.heap.size ≤ g ∧ g < w1.heap.size ∧ Holds (Value.int .i64) w1 g 0 zs.toArray) := ⟨hbel, hbg, hgl, hH⟩
       clear hown hbel hH hnn hlen hclone)
    | (go_at_call 55; refine hsort.mono ?_; rintro e w2 ⟨rfl, nn, os, hw2⟩
       have hH2 : Holds (Value.int .i64) w2 g 0 (zs.mergeSort fun x y => decide (x ≤ y)).toArray := by
         subst hw2
         exact holds_grow _ _ os g 0 _ (by simpa [putRow, mapBlock, Sort.ahead] using X.out.2.2.1) (holds_putRow _ _ g 0 _ _ (holds_ahead _ w1 nn g 0 _ X.out.2.2.2) (by simp))
       have hB2 : Below w.heap.size w w2 := by
         subst hw2
         exact X.out.1.grown (grownBy_sortedI _) X.out.1.size (fun j hj => by cases hj; exact X.out.2.1)
       obtain ⟨S, hS⟩ : ∃ S : List Int, S = zs.mergeSort fun x y => decide (x ≤ y) := ⟨_, rfl⟩
       rw [← hS] at hH2
       have hSl : S.length = zs.length := by rw [hS, List.length_mergeSort]
       have chi : w2.cell? ⟨g, (zs.length - 1) / 2, none⟩ = some ((Value.int .i64) (S.getD ((zs.length - 1) / 2) default)) := cell_of_holds hH2 _ (by omega)
       have Y : Aside (S = (zs.mergeSort fun x y => decide (x ≤ y)) ∧ Below w.heap.size w w2) := ⟨hS, hB2⟩
       clear hw2 hsort hH2 hS hB2 X hSl hlt))
  go_ret2
  refine ⟨?_, Y.out.2⟩
  rw [← Y.out.1]
  rfl
set_option maxRecDepth 100000 in
set_option maxHeartbeats 1000000 in
/-- there is none of none -/
theorem mid64_none {w : World} {A : Option Addr} {c : Nat} :
    Calls Try.prog 29 #[.slice A 0 c] w fun e w' => e = .returned (.tuple #[.int .i64 0, .bool false]) ∧ Below w.heap.size w w' := by
  go_enter Try.func29, Try.ntmps29
  go_wp2
  go_ret2
  exact ⟨rfl, Below.refl _ _⟩

set_option maxRecDepth 100000 in
set_option maxHeartbeats 1000000 in
/-- the middle one of some numbers -/
theorem midInt_some {w : World} {lo hi b off c : Nat} (zs : List Int) (h0 : 0 < zs.length) (hbig : zs.length ≤ 1000) (R : RdL w lo hi (some ⟨b, off, none⟩) (zs.map (Value.int .i64))) :
    Calls Try.prog 52 #[.slice (some ⟨b, off, none⟩) zs.length c] w fun e w' => e = .returned (.tuple #[(Value.int .i64) ((zs.mergeSort fun x y => decide (x ≤ y)).getD ((zs.length - 1) / 2) default), .bool true]) ∧ Below w.heap.size w w' := by
  obtain ⟨i0, hi0, hz0, hz1, hz2⟩ := info_parts infoInt
  have hclone := AnyE.slices_Clone cloneInt i0 _ 1 8 hi0 hz0 hz1 hz2 (by rfl) (by decide) (fun w => by kernel_rfl) b off zs.length c (zs.map (Value.int .i64)) w (by simp) (by unfold maxLen; omega) (by omega)
    (fun j u hu => by
      obtain ⟨b', off', e, _, _, _, hc⟩ := R.some (by simpa using h0)
      injection e with e
      injection e with e1 e2
      subst e1 e2
      exact hc j u hu)
    (fun u hu => by obtain ⟨x, _, rfl⟩ := List.mem_map.1 hu; rfl)
  have hp0 : ((zs.length : Int) == 0) = false := by rw [beq_eq_false_iff_ne]; omega
  have hd : ((zs.length : Int) - 1).tdiv 2 = (((zs.length - 1) / 2 : Nat) : Int) := by
    rw [Int.tdiv_eq_ediv_of_nonneg (show (0 : Int) ≤ (zs.length : Int) - 1 by omega)]
    omega
  have hw1 : IntKind.i64.wrap ((zs.length : Int) - 1) = (zs.length : Int) - 1 := IntWalk.i64_in _ (by omega)
  have hw2 : IntKind.i64.wrap (((zs.length - 1) / 2 : Nat) : Int) = (((zs.length - 1) / 2 : Nat) : Int) := IntWalk.i64_in _ (by omega)
  have hlt : (((zs.length - 1) / 2 : Nat) : Int) < (zs.length : Int) := by omega
  clear R
  go_enter Try.func52, Try.ntmps52
  go_wp2_with (first
    | (go_at_call 60; refine hclone.mono ?_; rintro e w1 ⟨v1, rfl, hown, hnn, hbel⟩
       obtain ⟨g, cap, rfl, hbg, hgl, hncap, hcm, hlen, hH⟩ := Lib.holds_of_ownsRow hown hnn
       have hsort := AnyM.slices_Sort_int sortInt g 0 cap zs w1 hH hgl (by omega)
       have X : Aside (Below w.heap.size w w1 ∧ w.heap.size ≤ g ∧ g < w1.heap.size ∧ Holds (Value.int .i64) w1 g 0 zs.toArray) := ⟨hbel, hbg, hgl, hH⟩
       clear hown hbel hH hnn hlen hclone)
    | (go_at_call 61; refine hsort.mono ?_; rintro e w2 ⟨rfl, nn, os, hw2⟩
       have hH2 : Holds (Value.int .i64) w2 g 0 (zs.mergeSort fun x y => decide (x ≤ y)).toArray := by
         subst hw2
         exact holds_grow _ _ os g 0 _ (by simpa [putRow, mapBlock, Sort.ahead] using X.out.2.2.1) (holds_putRow _ _ g 0 _ _ (holds_ahead _ w1 nn g 0 _ X.out.2.2.2) (by simp))
       have hB2 : Below w.heap.size w w2 := by
         subst hw2
         exact X.out.1.grown (grownBy_sortedI _) X.out.1.size (fun j hj => by cases hj; exact X.out.2.1)
       obtain ⟨S, hS⟩ : ∃ S : List Int, S = zs.mergeSort fun x y => decide (x ≤ y) := ⟨_, rfl⟩
       rw [← hS] at hH2
       have hSl : S.length = zs.length := by rw [hS, List.length_mergeSort]
       have chi : w2.cell? ⟨g, (zs.length - 1) / 2, none⟩ = some ((Value.int .i64) (S.getD ((zs.length - 1) / 2) default)) := cell_of_holds hH2 _ (by omega)
       have Y : Aside (S = (zs.mergeSort fun x y => decide (x ≤ y)) ∧ Below w.heap.size w w2) := ⟨hS, hB2⟩
       clear hw2 hsort hH2 hS hB2 X hSl hlt))
  go_ret2
  refine ⟨?_, Y.out.2⟩
  rw [← Y.out.1]
  rfl
set_option maxRecDepth 100000 in
set_option maxHeartbeats 1000000 in
/-- there is none of none -/
theorem midInt_none {w : World} {A : Option Addr} {c : Nat} :
    Calls Try.prog 52 #[.slice A 0 c] w fun e w' => e = .returned (.tuple #[.int .i64 0, .bool false]) ∧ Below w.heap.size w w' := by
  go_enter Try.func52, Try.ntmps52
  go_wp2
  go_ret2
  exact ⟨rfl, Below.refl _ _⟩

set_option maxRecDepth 100000 in
set_option maxHeartbeats 1000000 in
/-- the middle one of some texts -/
theorem midStr_some {w : World} {lo hi b off c : Nat} (zs : List (List UInt8)) (h0 : 0 < zs.length) (hbig : zs.length ≤ 1000) (R : RdL w lo hi (some ⟨b, off, none⟩) (zs.map encStr)) :
    Calls Try.prog 53 #[.slice (some ⟨b, off, none⟩) zs.length c] w fun e w' => e = .returned (.tuple #[encStr ((zs.mergeSort fun x y => decide (x ≤ y)).getD ((zs.length - 1) / 2) default), .bool true]) ∧ Below w.heap.size w w' := by
  obtain ⟨i0, hi0, hz0, hz1, hz2⟩ := info_parts infoStr
  have hclone := AnyE.slices_Clone cloneStr i0 _ 1 16 hi0 hz0 hz1 hz2 (by rfl) (by decide) (fun w => by kernel_rfl) b off zs.length c (zs.map encStr) w (by simp) (by unfold maxLen; omega) (by omega)
    (fun j u hu => by
      obtain ⟨b', off', e, _, _, _, hc⟩ := R.some (by simpa using h0)
      injection e with e
      injection e with e1 e2
      subst e1 e2
      exact hc j u hu)
    (fun u hu => by obtain ⟨x, _, rfl⟩ := List.mem_map.1 hu; rfl)
  have hp0 : ((zs.length : Int) == 0) = false := by rw [beq_eq_false_iff_ne]; omega
  have hd : ((zs.length : Int) - 1).tdiv 2 = (((zs.length - 1) / 2 : Nat) : Int) := by
    rw [Int.tdiv_eq_ediv_of_nonneg (show (0 : Int) ≤ (zs.length : Int) - 1 by omega)]
    omega
  have hw1 : IntKind.i64.wrap ((zs.length : Int) - 1) = (zs.length : Int) - 1 := IntWalk.i64_in _ (by omega)
  have hw2 : IntKind.i64.wrap (((zs.length - 1) / 2 : Nat) : Int) = (((zs.length - 1) / 2 : Nat) : Int) := IntWalk.i64_in _ (by omega)
  have hlt : (((zs.length - 1) / 2 : Nat) : Int) < (zs.length : Int) := by omega
  clear R
  go_enter Try.func53, Try.ntmps53
  go_wp2_with (first
    | (go_at_call 62; refine hclone.mono ?_; rintro e w1 ⟨v1, rfl, hown, hnn, hbel⟩
       obtain ⟨g, cap, rfl, hbg, hgl, hncap, hcm, hlen, hH⟩ := Lib.holds_of_ownsRow hown hnn
       have hsort := AnyM.slices_Sort_string sortStr g 0 cap zs w1 hH hgl (by omega)
       have X : Aside (Below w.heap.size w w1 ∧ w.heap.size ≤ g ∧ g < w1.heap.size ∧ Holds encStr w1 g 0 zs.toArray) := ⟨hbel, hbg, hgl, hH⟩
       clear hown hbel hH hnn hlen hclone)
    | (go_at_call 63; refine hsort.mono ?_; rintro e w2 ⟨rfl, nn, os, hw2⟩
       have hH2 : Holds encStr w2 g 0 (zs.mergeSort fun x y => decide (x ≤ y)).toArray := by
         subst hw2
         exact holds_grow _ _ os g 0 _ (by simpa [putRow, mapBlock, Sort.ahead] using X.out.2.2.1) (holds_putRow _ _ g 0 _ _ (holds_ahead _ w1 nn g 0 _ X.out.2.2.2) (by simp))
       have hB2 : Below w.heap.size w w2 := by
         subst hw2
         exact X.out.1.grown (grownBy_sorted _) X.out.1.size (fun j hj => by cases hj; exact X.out.2.1)
       obtain ⟨S, hS⟩ : ∃ S : List (List UInt8), S = zs.mergeSort fun x y => decide (x ≤ y) := ⟨_, rfl⟩
       rw [← hS] at hH2
       have hSl : S.length = zs.length := by rw [hS, List.length_mergeSort]
       have chi : w2.cell? ⟨g, (zs.length - 1) / 2, none⟩ = some (encStr (S.getD ((zs.length - 1) / 2) default)) := cell_of_holds hH2 _ (by omega)
       have Y : Aside (S = (zs.mergeSort fun x y => decide (x ≤ y)) ∧ Below w.heap.size w w2) := ⟨hS, hB2⟩
       clear hw2 hsort hH2 hS hB2 X hSl hlt))
  go_ret2
  refine ⟨?_, Y.out.2⟩
  rw [← Y.out.1]
  rfl
set_option maxRecDepth 100000 in
set_option maxHeartbeats 1000000 in
/-- there is none of none -/
theorem midStr_none {w : World} {A : Option Addr} {c : Nat} :
    Calls Try.prog 53 #[.slice A 0 c] w fun e w' => e = .returned (.tuple #[.string ⟨#[]⟩, .bool false]) ∧ Below w.heap.size w w' := by
  go_enter Try.func53, Try.ntmps53
  go_wp2
  go_ret2
  exact ⟨rfl, Below.refl _ _⟩

/-- the middle one of any numbers -/
theorem mid64_any {w : World} {lo hi : Nat} {A : Option Addr} {c : Nat} (zs : List Int) (hbig : zs.length ≤ 1000) (R : RdL w lo hi A (zs.map (Value.int .i64))) :
    Calls Try.prog 29 #[.slice A zs.length c] w fun e w' => e = .returned (.tuple #[.int .i64 (mid zs), .bool (decide (0 < zs.length))]) ∧ Below w.heap.size w w' := by
  rcases Nat.eq_zero_or_pos zs.length with h | h
  · obtain rfl := List.eq_nil_of_length_eq_zero h
    refine mid64_none.mono fun e w' h => ?_
    rw [mid_nil]
    exact h
  · obtain ⟨b, off, rfl, _⟩ := R.some (by simpa using h)
    refine (mid64_some zs h hbig R).mono fun e w' h' => ?_
    rw [decide_eq_true h]
    exact h'
theorem midInt_any {w : World} {lo hi : Nat} {A : Option Addr} {c : Nat} (zs : List Int) (hbig : zs.length ≤ 1000) (R : RdL w lo hi A (zs.map (Value.int .i64))) :
    Calls Try.prog 52 #[.slice A zs.length c] w fun e w' => e = .returned (.tuple #[.int .i64 (mid zs), .bool (decide (0 < zs.length))]) ∧ Below w.heap.size w w' := by
  rcases Nat.eq_zero_or_pos zs.length with h | h
  · obtain rfl := List.eq_nil_of_length_eq_zero h
    refine midInt_none.mono fun e w' h => ?_
    rw [mid_nil]
    exact h
  · obtain ⟨b, off, rfl, _⟩ := R.some (by simpa using h)
    refine (midInt_some zs h hbig R).mono fun e w' h' => ?_
    rw [decide_eq_true h]
    exact h'
#print axioms mid64_any
end Vot
end Go.Proofs.Ytoaagemofjddiaa
