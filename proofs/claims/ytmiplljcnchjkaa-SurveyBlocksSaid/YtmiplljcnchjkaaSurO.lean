/-
  The walks of the document's square, and of it turned.
-/
import Derived.Test.YtmiplljcnchjkaaSurG
namespace Go.Proofs.Ytmiplljcnchjkaa
open Go.RowKit
set_option linter.unusedVariables false
namespace Sur
open Root (hfloor_any)
theorem hfloor_is (x : Nat) (hx : x < 18446744073709551616) (w : World) : Calls Try.prog 12 #[.int .u64 (x : Int)] w fun e w' => e = .returned (.int .u64 (rootN x : Int)) ∧ w = w' :=
  (hfloor_any x hx w).mono fun e w' ⟨r, he, hr, hw⟩ => ⟨by rw [he, hr.uniq (rootN_is x)], hw⟩
/-- the heights of some places, without those that are missing -/
def hsL (Z : List Int) (l : List Nat) : List Int := (l.map fun i => Z.getD i 0).filter fun z => z != -32768
def sumI (l : List Int) : Int := l.foldl (· + ·) 0
def sumQ (l : List Int) : Int := (l.map fun z => z * z).foldl (· + ·) 0
theorem sumI_snoc (l : List Int) (x : Int) : sumI (l ++ [x]) = sumI l + x := by unfold sumI; rw [List.foldl_append]; rfl
theorem sumQ_snoc (l : List Int) (x : Int) : sumQ (l ++ [x]) = sumQ l + x * x := by unfold sumQ; rw [List.map_append, List.foldl_append]; rfl
def foldS (Z : List Int) (l : List Nat) : Sm := l.foldl (fun a i => a.add (Z.getD i 0)) ⟨0, 0, 0, 0⟩
theorem foldS_snoc (Z : List Int) (l : List Nat) (i : Nat) : foldS Z (l ++ [i]) = (foldS Z l).add (Z.getD i 0) := by unfold foldS; rw [List.foldl_append]; rfl
theorem hsL_snoc (Z : List Int) (l : List Nat) (i : Nat) : hsL Z (l ++ [i]) = if Z.getD i 0 = -32768 then hsL Z l else hsL Z l ++ [Z.getD i 0] := by
  unfold hsL
  rw [List.map_append, List.filter_append]
  show _ ++ List.filter _ [Z.getD i 0] = _
  by_cases h : Z.getD i 0 = -32768
  · rw [if_pos h, List.filter_cons_of_neg (by simpa using h)]
    simp
  · rw [if_neg h, List.filter_cons_of_pos (by simpa using h)]
    rfl
theorem foldS_is (Z : List Int) (l : List Nat) : (foldS Z l).n = ((hsL Z l).length : Int) ∧ (foldS Z l).s = sumI (hsL Z l) ∧ (foldS Z l).q = sumQ (hsL Z l) := by
  have main : ∀ r : List Nat, (foldS Z r.reverse).n = ((hsL Z r.reverse).length : Int) ∧ (foldS Z r.reverse).s = sumI (hsL Z r.reverse) ∧ (foldS Z r.reverse).q = sumQ (hsL Z r.reverse) := by
    intro r
    induction r with
    | nil => exact ⟨rfl, rfl, rfl⟩
    | cons i r ih =>
      rw [List.reverse_cons]
      obtain ⟨h1, h2, h3⟩ := ih
      rw [foldS_snoc, hsL_snoc]
      unfold Sm.add
      by_cases h : Z.getD i 0 = -32768
      · rw [if_pos h, if_pos h]
        exact ⟨h1, h2, h3⟩
      · rw [if_neg h, if_neg h, sumI_snoc, sumQ_snoc, List.length_append]
        refine ⟨?_, ?_, ?_⟩
        · show _ + 1 = _
          rw [h1]
          simp
        · show _ + _ = _
          rw [h2]
        · show _ + _ = _
          rw [h3]
  have := main l.reverse
  rwa [List.reverse_reverse] at this
/-- the first places of a square -/
def plT (W H k i : Nat) : List Nat := (List.range i).filterMap (place W H k)
theorem plT_step (W H k i : Nat) : plT W H k (i + 1) = plT W H k i ++ (place W H k i).toList := by
  unfold plT
  rw [List.range_succ, List.filterMap_append]
  congr 1
theorem plT_len (W H k i : Nat) : (plT W H k i).length ≤ i := by
  unfold plT
  have := List.length_filterMap_le (place W H k) (List.range i)
  rwa [List.length_range] at this
theorem hsL_len (Z : List Int) (l : List Nat) : (hsL Z l).length ≤ l.length := by
  unfold hsL
  have := (List.filter_sublist (p := fun z : Int => z != -32768) (l := l.map fun i => Z.getD i 0)).length_le
  rwa [List.length_map] at this
/-- on the way -/
structure OT (w : World) (lo hi W H n cap : Nat) (A : Option Addr) (Z : List Int) (x y : Nat) (S : List Int) (v : Value) (vd : Int) (wr : World) : Prop where
  box : Blk wr w.heap.size 53 [.int .i64 (W : Int), .int .i64 (H : Int), .slice A n cap]
  res : Blk wr (w.heap.size + 1) 63 [.int .i64 0, .int .i64 0, .int .i64 0, .int .i64 0, .int .i64 0]
  out : Blk wr (w.heap.size + 1 + 1) 63 [.int .i64 (x : Int), .int .i64 (y : Int), .int .i64 0, .int .i64 0, .int .i64 vd]
  own : wr.ownsRow (w.heap.size + 1 + 1 + 1) 2 1 v S.length (S.map zv)
  rd : RdL wr lo hi A (Z.map z16)
  b : Below w.heap.size w wr
  h : hi ≤ w.heap.size
section
variable {w wr w' : World} {lo hi W H n cap x y : Nat} {A : Option Addr} {Z S : List Int} {v v' : Value} {vd : Int}
theorem OT.next (T : OT w lo hi W H n cap A Z x y S v vd wr) (h : Below wr.heap.size wr w') : OT w lo hi W H n cap A Z x y S v vd w' :=
  ⟨T.box.next h, T.res.next h, T.out.next h, own_next T.own h, T.rd.next h, bt T.b h, T.h⟩
theorem OT.void (T : OT w lo hi W H n cap A Z x y S v vd wr) (vd' : Int) : OT w lo hi W H n cap A Z x y S v vd' (wr.setCell ⟨w.heap.size + 1 + 1, 4, none⟩ (.int .i64 vd')) := by
  have hv : ∀ k, v.ownBlock = some k → w.heap.size + 1 + 1 + 1 ≤ k := fun k hk => (own_lt T.own hk).1
  exact ⟨T.box.far (p := ⟨w.heap.size + 1 + 1, 4, none⟩) (by show w.heap.size ≠ w.heap.size + 1 + 1; omega) _, T.res.far (p := ⟨w.heap.size + 1 + 1, 4, none⟩) (by show w.heap.size + 1 ≠ w.heap.size + 1 + 1; omega) _, T.out.put 4 _, ownsRow_setCell_other T.own (a := ⟨w.heap.size + 1 + 1, 4, none⟩) (fun e => by have := hv _ e; dsimp only at this; omega) _, T.rd.far (p := ⟨w.heap.size + 1 + 1, 4, none⟩) (.inr (by show hi ≤ w.heap.size + 1 + 1; have := T.h; omega)) _, T.b.setCell (p := ⟨w.heap.size + 1 + 1, 4, none⟩) (by show w.heap.size ≤ w.heap.size + 1 + 1; omega) _, T.h⟩
theorem OT.more (T : OT w lo hi W H n cap A Z x y S v vd wr) (z : Int) (hg : wr.grownBy w' v.ownBlock) (ho : w'.ownsRow (w.heap.size + 1 + 1 + 1) 2 1 v' (S.length + 1) (S.map zv ++ [zv z])) : OT w lo hi W H n cap A Z x y (S ++ [z]) v' vd w' := by
  have hv : ∀ k, v.ownBlock = some k → w.heap.size + 1 + 1 + 1 ≤ k := fun k hk => (own_lt T.own hk).1
  have h2 := T.h
  refine ⟨T.box.grown hg (fun e => by have := hv _ e.symm; omega), T.res.grown hg (fun e => by have := hv _ e.symm; omega), T.out.grown hg (fun e => by have := hv _ e.symm; omega), ?_, T.rd.grown hg (fun g' hg' => .inr (by have := hv g' hg'; omega)), T.b.grown hg T.b.size (fun k hk => by have := hv k hk; omega), T.h⟩
  rw [List.length_append, List.length_singleton, List.map_append]
  exact ho
end
/-- behind the first loop -/
structure OU (w : World) (x y : Nat) (S : List Int) (v : Value) (O : List Value) (wr : World) : Prop where
  res : Blk wr (w.heap.size + 1) 63 [.int .i64 0, .int .i64 0, .int .i64 0, .int .i64 0, .int .i64 0]
  out : Blk wr (w.heap.size + 1 + 1) 63 O
  own : wr.ownsRow (w.heap.size + 1 + 1 + 1) 2 1 v S.length (S.map zv)
  b : Below w.heap.size w wr
theorem OU.next {w wr w' : World} {x y : Nat} {S : List Int} {v : Value} {O : List Value} (U : OU w x y S v O wr) (h : Below wr.heap.size wr w') : OU w x y S v O w' := ⟨U.res.next h, U.out.next h, own_next U.own h, bt U.b h⟩
/-- a square of the document, or of the program, as a value -/
theorem Sq.val_eq (b : Sq) : b.val = .agg #[.int .i64 b.x, .int .i64 b.y, .int .i64 b.r, .int .i64 b.n, .int .i64 b.v] := rfl
theorem foldS_small {Z : List Int} (hz : InZ Z) (W H k : Nat) {i : Nat} (hi : i ≤ 64) : (foldS Z (plT W H k i)).Small 64 := by
  have h := fold_small hz (plT W H k i) ⟨0, 0, 0, 0⟩ 0 ⟨by decide, by decide, by decide, by decide, by decide, by decide, by decide, by decide⟩
  have := plT_len W H k i
  exact h.mono (by omega)
theorem sumQ_take {Z : List Int} (hz : InZ Z) (l : List Nat) (j : Nat) (hj : j ≤ (hsL Z l).length) : 0 ≤ sumQ ((hsL Z l).take j) ∧ sumQ ((hsL Z l).take j) ≤ 1073741824 * (j : Int) := by
  have hin : ∀ z ∈ hsL Z l, -32768 ≤ z ∧ z ≤ 32767 := fun z hz' => by
    have := (List.mem_filter.1 hz').1
    obtain ⟨i, _, rfl⟩ := List.mem_map.1 this
    exact hz.get i
  induction j with
  | zero => rw [List.take_zero]; exact ⟨Int.le_refl _, Int.le_refl _⟩
  | succ j ih =>
    obtain ⟨h1, h2⟩ := ih (by omega)
    have hx := hin _ (List.getElem_mem (show j < (hsL Z l).length by omega))
    have hs := sq_le hx.1 hx.2
    rw [List.take_succ_eq_append_getElem (by omega), sumQ_snoc]
    omega
set_option maxRecDepth 100000 in
set_option maxHeartbeats 2000000 in
theorem of_any (W H : Nat) (hW : 2 ≤ W) (hW2 : W ≤ 256) (hH2 : H ≤ 256) (A : Option Addr) (Z : List Int) (n cap lo hh : Nat) (hn : Z.length = n) (hn2 : n = W * H) (hz : InZ Z) (k x y : Nat) (hx : x = k % sd W) (hy : y = k / sd W) (hx2 : x ≤ 100) (hy2 : y ≤ 100) (w : World) (hrd : RdL w lo hh A (Z.map z16)) (hhi : hh ≤ w.heap.size) :
    Calls Try.prog 38 #[.agg #[.int .i64 (W : Int), .int .i64 (H : Int), .slice A n cap], .int .i64 (x : Int), .int .i64 (y : Int)] w fun e w' => e = .returned (sqOf W H Z k).val ∧ Below w.heap.size w w' := by
  obtain ⟨i6, hi6, hz0, hz1, hz2⟩ := info_parts infoI64
  have hnl : n ≤ 65536 := by rw [hn2]; exact Nat.mul_le_mul hW2 hH2
  have HX := Lib.hid hx
  have HY := Lib.hid hy
  have HN := Lib.hid hn
  have HN2 := Lib.hid hn2
  have HZ := Lib.hid hz
  have HT : Hid (OT w lo hh W H n cap A Z x y (hsL Z (plT W H k 0)) (.slice none 0 0) (foldS Z (plT W H k 0)).v (((w.alloc (.cells #[.int .i64 (W : Int), .int .i64 (H : Int), .slice A n cap] 53)).alloc (.cells #[.int .i64 0, .int .i64 0, .int .i64 0, .int .i64 0, .int .i64 0] 63)).alloc (.cells #[.int .i64 (x : Int), .int .i64 (y : Int), .int .i64 0, .int .i64 0, .int .i64 0] 63))) := by
    have k1 := (Blk.mk (w.alloc (.cells #[.int .i64 (W : Int), .int .i64 (H : Int), .slice A n cap] 53)) 63 [.int .i64 0, .int .i64 0, .int .i64 0, .int .i64 0, .int .i64 0]).alloc (.cells #[.int .i64 (x : Int), .int .i64 (y : Int), .int .i64 0, .int .i64 0, .int .i64 0] 63)
    have k2 := Blk.mk ((w.alloc (.cells #[.int .i64 (W : Int), .int .i64 (H : Int), .slice A n cap] 53)).alloc (.cells #[.int .i64 0, .int .i64 0, .int .i64 0, .int .i64 0, .int .i64 0] 63)) 63 [.int .i64 (x : Int), .int .i64 (y : Int), .int .i64 0, .int .i64 0, .int .i64 0]
    rw [show (w.alloc (.cells #[.int .i64 (W : Int), .int .i64 (H : Int), .slice A n cap] 53)).heap.size = w.heap.size + 1 by simp] at k1
    rw [show ((w.alloc (.cells #[.int .i64 (W : Int), .int .i64 (H : Int), .slice A n cap] 53)).alloc (.cells #[.int .i64 0, .int .i64 0, .int .i64 0, .int .i64 0, .int .i64 0] 63)).heap.size = w.heap.size + 1 + 1 by simp] at k2
    exact Lib.hid ⟨((Blk.mk w 53 [.int .i64 (W : Int), .int .i64 (H : Int), .slice A n cap]).alloc _).alloc _, k1, k2, World.ownsRow_nil _ _ _ _, ((hrd.alloc _).alloc _).alloc _, bt (_root_.Go.Proofs.Ytmiplljcnchjkaa.bl w _) (bt (_root_.Go.Proofs.Ytmiplljcnchjkaa.bl _ _) (_root_.Go.Proofs.Ytmiplljcnchjkaa.bl _ _)), hhi⟩
  clear hrd hx hy hn hn2 hz
  go_enter Try.func38, Try.ntmps38
  go_wp2_with fail
  go_loopw [8, 9, 10, 11, 12, 13] (fun s8 s9 s10 _ _ _ wr => ∃ (i : Nat) (v : Value), s10 = .int .i64 (i : Int) ∧ i ≤ 64 ∧ s8 = v ∧ s9 = .int .i64 (foldS Z (plT W H k i)).s ∧ OT w lo hh W H n cap A Z x y (hsL Z (plT W H k i)) v (foldS Z (plT W H k i)).v wr) (fun _ _ s10 _ _ _ _ => 64 - (intOf s10).toNat)
  case atStart => exact ⟨0, _, rfl, by omega, rfl, rfl, HT.out⟩
  case round =>
    clear HT
    obtain ⟨i, v, rfl, hi0, rfl, rfl, hS⟩ := hrel
    obtain ⟨Av, cv, rfl, _, _, _, _⟩ := own_rd hS.own
    have HS := Lib.hid hS
    have hsm := foldS_small HZ.out W H k hi0
    have hfs := foldS_is Z (plT W H k i)
    clear hS
    by_cases hi : i < 64
    · have di : decide (i < 64) = true := decide_eq_true hi
      have hst := plT_step W H k i
      obtain ⟨i8, hi8⟩ : ∃ j, j = i % 8 := ⟨_, rfl⟩
      obtain ⟨id8, hid8⟩ : ∃ j, j = i / 8 := ⟨_, rfl⟩
      have e1 : (i : Int).tmod 8 = (i8 : Int) := by rw [Int.tmod_eq_emod_of_nonneg (by omega)]; omega
      have e2 : (i : Int) % 8 = (i8 : Int) := by omega
      have e3 : (i : Int).tdiv 8 = (id8 : Int) := by rw [Int.tdiv_eq_ediv_of_nonneg (by omega)]; omega
      have e4 : (i : Int) / 8 = (id8 : Int) := by omega
      obtain ⟨a, ha⟩ : ∃ a, a = 8 * x + i8 := ⟨_, rfl⟩
      obtain ⟨b, hb⟩ : ∃ b, b = 8 * y + id8 := ⟨_, rfl⟩
      have u1 : IntKind.i64.wrap (8 * (x : Int)) = 8 * (x : Int) := IntWalk.i64_in _ (by omega)
      have u2 : IntKind.i64.wrap (8 * (y : Int)) = 8 * (y : Int) := IntWalk.i64_in _ (by omega)
      have u3 : IntKind.i64.wrap (8 * (x : Int) + (i8 : Int)) = (a : Int) := by rw [IntWalk.i64_in _ (by omega)]; omega
      have u4 : IntKind.i64.wrap (8 * (y : Int) + (id8 : Int)) = (b : Int) := by rw [IntWalk.i64_in _ (by omega)]; omega
      have x0 : wr.cell? ⟨w.heap.size, 0, none⟩ = some (.int .i64 (W : Int)) := HS.out.box.cell 0
      have x1 : wr.cell? ⟨w.heap.size, 1, none⟩ = some (.int .i64 (H : Int)) := HS.out.box.cell 1
      have x2 : wr.cell? ⟨w.heap.size, 2, none⟩ = some (.slice A n cap) := HS.out.box.cell 2
      have hpl : place W H k i = if a < W ∧ b < H then some (b * W + a) else none := by unfold place; rw [← HX.out, ← HY.out, ← hi8, ← hid8, ← ha, ← hb]
      by_cases hab : a < W ∧ b < H
      · obtain ⟨ha2, hb2⟩ := hab
        have d1 : decide ((W : Int) ≤ (a : Int)) = false := decide_eq_false (by omega)
        have d2 : decide ((H : Int) ≤ (b : Int)) = false := decide_eq_false (by omega)
        have d3 : decide (W ≤ a) = false := decide_eq_false (by omega)
        have d4 : decide (H ≤ b) = false := decide_eq_false (by omega)
        rw [if_pos ⟨ha2, hb2⟩] at hpl
        obtain ⟨bw, hbw⟩ : ∃ bw, bw = b * W := ⟨_, rfl⟩
        obtain ⟨p, hp⟩ : ∃ p, p = bw + a := ⟨_, rfl⟩
        rw [← hbw, ← hp] at hpl
        have hbl : bw ≤ 256 * 256 := by rw [hbw]; exact Nat.mul_le_mul (by omega) hW2
        have hpn : p < n := by
          have h1 : (b + 1) * W ≤ H * W := Nat.mul_le_mul_right _ hb2
          rw [Nat.add_mul, Nat.one_mul, ← hbw] at h1
          rw [HN2.out, Nat.mul_comm]
          omega
        have u5 : IntKind.i64.wrap ((b : Int) * (W : Int)) = (bw : Int) := by rw [← Int.natCast_mul, ← hbw]; exact IntWalk.i64_in _ (by omega)
        have u6 : IntKind.i64.wrap ((bw : Int) + (a : Int)) = (p : Int) := by rw [IntWalk.i64_in _ (by omega)]; omega
        have p0 : (0 : Int) ≤ (p : Int) := by omega
        have p1 : (p : Int) < (n : Int) := by omega
        have hpz : p < Z.length := by rw [HN.out]; exact hpn
        obtain ⟨bZ, oZ, rfl, _, _, _, hcZ⟩ := HS.out.rd.some (by rw [List.length_map]; omega)
        have cz : wr.cell? ⟨bZ, oZ + p, none⟩ = some (.int .i16 (Z.getD p 0)) := hcZ p _ (by rw [List.getElem?_map, List.getElem?_eq_getElem hpz, List.getD_eq_getElem?_getD, List.getElem?_eq_getElem hpz]; rfl)
        have hzb := HZ.out.get p
        rw [hpl] at hst
        have hst : plT W H k (i + 1) = plT W H k i ++ [p] := hst
        have hfo := foldS_snoc Z (plT W H k i) p
        have hhs := hsL_snoc Z (plT W H k i) p
        rw [← hst] at hfo hhs
        obtain ⟨z, hze⟩ : ∃ z, z = Z.getD p 0 := ⟨_, rfl⟩
        rw [← hze] at hfo hhs cz hzb
        obtain ⟨⟨sn, ss, sq, sv⟩, hsme⟩ : ∃ sm : Sm, sm = foldS Z (plT W H k i) := ⟨_, rfl⟩
        rw [← hsme] at hfo hsm hfs HS ⊢
        obtain ⟨a1, a2, a3, a4, a5, a6, a7, a8⟩ := hsm
        dsimp only at a1 a2 a3 a4 a5 a6 a7 a8 hfs HS ⊢
        unfold Sm.add at hfo
        dsimp only at hfo
        clear hcZ hpz hpl hst hbw hp hi8 hid8 ha hb hze hsme ha2 hb2
        by_cases hv : z = -32768
        · rw [if_pos hv] at hfo hhs
          have HFO := Lib.hid hfo
          have HHS := Lib.hid hhs
          have u7 : IntKind.i64.wrap (sv + 1) = sv + 1 := IntWalk.i64_in _ (by omega)
          have o4 : wr.cell? ⟨w.heap.size + 1 + 1, 4, none⟩ = some (.int .i64 sv) := HS.out.out.cell 4
          have f4 := HS.out.out.free 4
          have HS2 := Lib.hid (HS.out.void (sv + 1))
          subst hv
          clear hfo hhs HS
          go_wp2_with fail
          go_roundw
          case rel => exact ⟨i + 1, _, by go_num, by omega, rfl, by rw [HFO.out], by rw [HFO.out, HHS.out]; exact HS2.out⟩
          case measure => simp [intOf]; omega
        · rw [if_neg hv] at hfo hhs
          have HFO := Lib.hid hfo
          have HHS := Lib.hid hhs
          have dv : (z == -32768) = false := by rw [beq_eq_false_iff_ne]; exact hv
          have u7 : IntKind.i64.wrap z = z := IntWalk.i64_in _ (by omega)
          have u8 : IntKind.i64.wrap (ss + z) = ss + z := IntWalk.i64_in _ (by omega)
          have hll : (hsL Z (plT W H k i)).length ≤ 64 := by have h1 := hsL_len Z (plT W H k i); have h2 := plT_len W H k i; omega
          have HS3 := Lib.hid (HS.out.next (_root_.Go.Proofs.Ytmiplljcnchjkaa.bl wr (.cells #[.int .i64 z] 2)))
          have HN3 := Lib.hid (new_rd wr 2 [zv z])
          have hsz := HS.out.res.lt
          have hsz2 := HS.out.out.lt
          obtain ⟨S, hSe⟩ : ∃ S, S = hsL Z (plT W H k i) := ⟨_, rfl⟩
          rw [← hSe] at HS3 hll HHS ⊢
          clear hfo hhs HS hv hfs hSe
          go_wp2_with (at_builtin; refine wpList_append_mine rfl (.tmp 60) (.tmp 63) 70 rfl (w.heap.size + 1 + 1 + 1) 2 i6 _ 1 8 Try.underlying70 hi6 hz0 hz1 hz2 rfl (by decide) (.slice Av S.length cv) S.length (S.map zv) rfl HS3.out.own (some ⟨wr.heap.size, 0, Option.none⟩) 1 1 [zv z] rfl rfl (fun h => by cases h) HN3.out.news (by simp [zv, Value.oneCell']) (by simp only [maxLen]; omega) (by omega) (by simp; omega) ?_; intro v2 w4 hown hgrow hwh; have hmore := HS3.out.more z hgrow hown; have HFin := Lib.hid hmore; clear hown hgrow hwh hmore)
          go_roundw
          case rel => exact ⟨i + 1, _, by go_num, by omega, rfl, by rw [HFO.out], by rw [HFO.out, HHS.out]; exact HFin.out⟩
          case measure => simp [intOf]; omega
      · rw [if_neg hab] at hpl
        rw [hpl] at hst
        have HST : Hid (plT W H k (i + 1) = plT W H k i) := Lib.hid (by rw [hst]; exact List.append_nil _)
        have hcase : W ≤ a ∨ (a < W ∧ H ≤ b) := by omega
        clear hpl hst hab hi8 hid8 ha hb hsm hfs
        rcases hcase with h1 | ⟨h1, h2⟩
        · have d1 : decide ((W : Int) ≤ (a : Int)) = true := decide_eq_true (by omega)
          have d3 : decide (W ≤ a) = true := decide_eq_true h1
          clear h1
          go_wp2_with fail
          go_roundw
          case rel => exact ⟨i + 1, _, by go_num, by omega, rfl, by rw [HST.out], by rw [HST.out]; exact HS.out⟩
          case measure => simp [intOf]; omega
        · have d1 : decide ((W : Int) ≤ (a : Int)) = false := decide_eq_false (by omega)
          have d3 : decide (W ≤ a) = false := decide_eq_false (by omega)
          have d2 : decide ((H : Int) ≤ (b : Int)) = true := decide_eq_true (by omega)
          have d4 : decide (H ≤ b) = true := decide_eq_true h2
          clear h1 h2
          go_wp2_with fail
          go_roundw
          case rel => exact ⟨i + 1, _, by go_num, by omega, rfl, by rw [HST.out], by rw [HST.out]; exact HS.out⟩
          case measure => simp [intOf]; omega
    · have di : decide (i < 64) = false := decide_eq_false hi
      have hi64 : i = 64 := by omega
      subst hi64
      obtain ⟨sm, hsme⟩ : ∃ sm : Sm, sm = foldS Z (plT W H k 64) := ⟨_, rfl⟩
      obtain ⟨S, hSe⟩ : ∃ S, S = hsL Z (plT W H k 64) := ⟨_, rfl⟩
      have hsq : Hid ((sqOf W H Z k).val = .agg #[.int .i64 (x : Int), .int .i64 (y : Int), .int .i64 (roughZ sm), .int .i64 sm.n, .int .i64 sm.v]) := Lib.hid (by
        have e : smT W Z k (W * H) = sm := by rw [smT_places (by omega), hsme]; rfl
        unfold sqOf Sq.val
        rw [e, HX.out, HY.out])
      have hll : S.length ≤ 64 := by rw [hSe]; have h1 := hsL_len Z (plT W H k 64); have h2 := plT_len W H k 64; omega
      have HQT : Hid (∀ j, j ≤ S.length → 0 ≤ sumQ (S.take j) ∧ sumQ (S.take j) ≤ 1073741824 * (j : Int)) := Lib.hid (fun j hj => by rw [hSe]; exact sumQ_take HZ.out _ j (by rw [← hSe]; exact hj))
      have HSI : Hid (∀ z ∈ S, -32768 ≤ z ∧ z ≤ 32767) := Lib.hid (fun z hz' => by
        rw [hSe] at hz'
        have := (List.mem_filter.1 hz').1
        obtain ⟨i, _, rfl⟩ := List.mem_map.1 this
        exact HZ.out.get i)
      rw [← hsme] at hsm hfs HS
      rw [← hSe] at hfs HS
      rw [← hSe, ← hsme]
      clear hsme hSe hi hi0 di
      obtain ⟨hf1, hf2, hf3⟩ := hfs
      obtain ⟨N, hN⟩ : ∃ N, N = S.length := ⟨_, rfl⟩
      rw [← hN] at hll hf1
      have HNS := Lib.hid hN
      have HF3 := Lib.hid hf3
      have o0 : wr.cell? ⟨w.heap.size + 1 + 1, 0, none⟩ = some (.int .i64 (x : Int)) := HS.out.out.cell 0
      have o1 : wr.cell? ⟨w.heap.size + 1 + 1, 1, none⟩ = some (.int .i64 (y : Int)) := HS.out.out.cell 1
      have o2 : wr.cell? ⟨w.heap.size + 1 + 1, 2, none⟩ = some (.int .i64 0) := HS.out.out.cell 2
      have o3 : wr.cell? ⟨w.heap.size + 1 + 1, 3, none⟩ = some (.int .i64 0) := HS.out.out.cell 3
      have o4 : wr.cell? ⟨w.heap.size + 1 + 1, 4, none⟩ = some (.int .i64 sm.v) := HS.out.out.cell 4
      have f2 := HS.out.out.free 2
      have f3 := HS.out.out.free 3
      have HU : Hid (OU w x y S (.slice Av N cv) [.int .i64 (x : Int), .int .i64 (y : Int), .int .i64 0, .int .i64 (N : Int), .int .i64 sm.v] (wr.setCell ⟨w.heap.size + 1 + 1, 3, none⟩ (.int .i64 (N : Int)))) := Lib.hid (by
        have hv : ∀ k, (Value.slice Av S.length cv).ownBlock = some k → w.heap.size + 1 + 1 + 1 ≤ k := fun k hk => (own_lt HS.out.own hk).1
        have ho := ownsRow_setCell_other HS.out.own (a := ⟨w.heap.size + 1 + 1, 3, none⟩) (fun e => by have := hv _ e; dsimp only at this; omega) (.int .i64 (N : Int))
        rw [← hN] at ho
        exact ⟨HS.out.res.far (p := ⟨w.heap.size + 1 + 1, 3, none⟩) (by show w.heap.size + 1 ≠ w.heap.size + 1 + 1; omega) _, HS.out.out.put 3 _, by rw [← hN]; exact ho, HS.out.b.setCell (p := ⟨w.heap.size + 1 + 1, 3, none⟩) (by show w.heap.size ≤ w.heap.size + 1 + 1; omega) _⟩)
      rw [← hN]
      clear hN
      by_cases hN0 : N = 0
      · subst hN0
        have r0 : wr.cell? ⟨w.heap.size + 1, 0, none⟩ = some (.int .i64 0) := HS.out.res.cell 0
        have r1 : wr.cell? ⟨w.heap.size + 1, 1, none⟩ = some (.int .i64 0) := HS.out.res.cell 1
        have r2 : wr.cell? ⟨w.heap.size + 1, 2, none⟩ = some (.int .i64 0) := HS.out.res.cell 2
        have r3 : wr.cell? ⟨w.heap.size + 1, 3, none⟩ = some (.int .i64 0) := HS.out.res.cell 3
        have r4 : wr.cell? ⟨w.heap.size + 1, 4, none⟩ = some (.int .i64 0) := HS.out.res.cell 4
        have g0 := HS.out.res.free 0
        have g1 := HS.out.res.free 1
        have g2 := HS.out.res.free 2
        have g3 := HS.out.res.free 3
        have g4 := HS.out.res.free 4
        have hro : Hid (roughZ sm = 0 ∧ sm.n = 0) := Lib.hid (by
          have : sm.n = 0 := hf1
          exact ⟨by unfold roughZ; rw [if_pos this], this⟩)
        clear hf1 hf2 hf3 hsm HS
        go_wp2_with fail
        have hle : w.heap.size ≤ w.heap.size + 1 := by omega
        refine bodyPost_ret (results_cell_row rfl _ _ (w.heap.size + 1) 63 #[.int .i64 (x : Int), .int .i64 (y : Int), .int .i64 0, .int .i64 0, .int .i64 sm.v] (0, 0) _ rfl (((((HU.out.res.put 0 _).put 1 _).put 2 _).put 3 _).put 4 _) Try.underlying63 rfl (by kernel_rfl)) rfl ?_
        exact ⟨by rw [hsq.out, hro.out.1, hro.out.2], ((((HU.out.b.setCell (p := ⟨w.heap.size + 1, 0, none⟩) hle _).setCell (p := ⟨w.heap.size + 1, 1, none⟩) hle _).setCell (p := ⟨w.heap.size + 1, 2, none⟩) hle _).setCell (p := ⟨w.heap.size + 1, 3, none⟩) hle _).setCell (p := ⟨w.heap.size + 1, 4, none⟩) hle _⟩
      · have dN : ((N : Int) == 0) = false := by rw [beq_eq_false_iff_ne]; omega
        have hNz : ¬ sm.n = 0 := by rw [hf1]; omega
        have hxl := rawZ_lt sm
        have hfl := hfloor_is (rawZ sm) hxl
        have hrl := (rootN_is (rawZ sm)).lt hxl
        have hraw : IntKind.u64.wrap ((256 * (sm.n * sm.q - sm.s * sm.s)).tdiv (sm.n * sm.n)) = (rawZ sm : Int) := by
          unfold rawZ
          rw [Int.toNat_of_nonneg (wrap_u64_nonneg _)]
        have hro : Hid (roughZ sm = (rootN (rawZ sm) : Int)) := Lib.hid (by unfold roughZ; rw [if_neg hNz])
        obtain ⟨xr, hxr⟩ : ∃ x, x = rawZ sm := ⟨_, rfl⟩
        rw [← hxr] at hxl hfl hrl hraw hro
        obtain ⟨rr, hrr⟩ : ∃ r, r = rootN xr := ⟨_, rfl⟩
        rw [← hrr] at hfl hrl hro
        clear hxr hrr hNz HS
        obtain ⟨sn, ss, sq, sv⟩ := sm
        obtain ⟨a1, a2, a3, a4, a5, a6, a7, a8⟩ := hsm
        dsimp only at a1 a2 a3 a4 a5 a6 a7 a8 hraw hf1 hf2 hf3 HF3 hsq HU o4 ⊢
        subst hf1
        clear hf2 hf3
        go_wp2_with fail
        go_loopw [15, 16] (fun s15 s16 wz => ∃ j : Nat, s16 = .int .i64 (j : Int) ∧ j ≤ N ∧ s15 = .int .i64 ((N : Int) * sumQ (S.take j)) ∧ OU w x y S (.slice Av N cv) [.int .i64 (x : Int), .int .i64 (y : Int), .int .i64 0, .int .i64 (N : Int), .int .i64 sv] wz) (fun _ s16 _ => N - (intOf s16).toNat)
        case atStart => exact ⟨0, rfl, by omega, by rw [List.take_zero]; show Value.int .i64 0 = .int .i64 ((N : Int) * 0); rw [Int.mul_zero], HU.out⟩
        case round =>
          clear HU o0 o1 o2 o3 o4 f2 f3
          obtain ⟨j, rfl, hj0, rfl, hO⟩ := hrel
          have HO := Lib.hid hO
          clear hO
          have hqt := HQT.out j (by rw [← HNS.out]; exact hj0)
          have hpr : 0 ≤ (N : Int) * sumQ (S.take j) ∧ (N : Int) * sumQ (S.take j) ≤ 64 * 68719476736 := ⟨Int.mul_nonneg (by omega) hqt.1, Int.le_trans (Int.mul_le_mul_of_nonneg_right (show (N : Int) ≤ 64 by omega) hqt.1) (Int.mul_le_mul_of_nonneg_left (by omega) (by omega))⟩
          by_cases hj : j < N
          · have dj : decide (j < N) = true := decide_eq_true hj
            have j0 : (0 : Int) ≤ (j : Int) := by omega
            have j1 : (j : Int) < (N : Int) := by omega
            have hjS : j < S.length := by rw [← HNS.out]; exact hj
            obtain ⟨_, _, e', hro2, _, _, _⟩ := own_rd HO.out.own
            injection e' with e2 e4 e3
            subst e2 e3
            clear e4
            obtain ⟨bS, oS, rfl, _, _, _, hcS⟩ := hro2.some (by rw [List.length_map]; omega)
            have cz : wr.cell? ⟨bS, oS + j, none⟩ = some (.int .i64 S[j]) := hcS j _ (by rw [List.getElem?_map, List.getElem?_eq_getElem hjS]; rfl)
            have hzb := HSI.out _ (List.getElem_mem hjS)
            have hst : Hid ((N : Int) * sumQ (S.take (j + 1)) = (N : Int) * sumQ (S.take j) + S[j] * S[j] * (N : Int)) := Lib.hid (by
              rw [List.take_succ_eq_append_getElem hjS, sumQ_snoc, Int.mul_add, Int.mul_comm (N : Int) (S[j] * S[j])])
            obtain ⟨z, hz'⟩ : ∃ z, z = S[j] := ⟨_, rfl⟩
            rw [← hz'] at cz hzb hst
            have hzz := sq_le hzb.1 hzb.2
            obtain ⟨zz, hzze⟩ : ∃ zz, zz = z * z := ⟨_, rfl⟩
            rw [← hzze] at hzz hst
            have hzn : 0 ≤ zz * (N : Int) ∧ zz * (N : Int) ≤ 1073741824 * 64 := ⟨Int.mul_nonneg hzz.1 (by omega), Int.le_trans (Int.mul_le_mul_of_nonneg_right hzz.2 (by omega)) (Int.mul_le_mul_of_nonneg_left (by omega) (by omega))⟩
            obtain ⟨zn, hzne⟩ : ∃ zn, zn = zz * (N : Int) := ⟨_, rfl⟩
            rw [← hzne] at hzn hst
            obtain ⟨pr, hpre⟩ : ∃ pr, pr = (N : Int) * sumQ (S.take j) := ⟨_, rfl⟩
            rw [← hpre] at hpr hst ⊢
            have u1 : IntKind.i64.wrap (z * z) = zz := by rw [← hzze]; exact IntWalk.i64_in _ (by omega)
            have u2 : IntKind.i64.wrap (zz * (N : Int)) = zn := by rw [← hzne]; exact IntWalk.i64_in _ (by omega)
            have u3 : IntKind.i64.wrap (pr + zn) = pr + zn := IntWalk.i64_in _ (by omega)
            clear hz' hzze hzne hpre hcS hro2 hjS hqt
            go_wp2_with fail
            go_quiet (fail)
            go_wp2_with fail
            go_roundw
            case rel => exact ⟨j + 1, by go_num, by omega, by rw [hst.out], HO.out.next (below_drewN (Below.refl _ _) _)⟩
            case measure => simp [intOf]; omega
          · have dj : decide (j < N) = false := decide_eq_false hj
            have hjN : j = N := by omega
            subst hjN
            have hfull : S.take j = S := List.take_of_length_le (by rw [← HNS.out]; exact Nat.le_refl _)
            rw [hfull, ← HF3.out] at hpr ⊢
            clear hqt hfull
            have n3 : 0 ≤ ss * ss ∧ ss * ss ≤ 2097152 * 2097152 := by
              obtain ⟨m, hm⟩ : ∃ m : Nat, ss = (m : Int) ∨ ss = -(m : Int) := ⟨ss.natAbs, by omega⟩
              have e : ss * ss = ((m * m : Nat) : Int) := by
                rcases hm with rfl | rfl
                · exact (Int.natCast_mul m m).symm
                · rw [Int.neg_mul_neg]; exact (Int.natCast_mul m m).symm
              have hm2 : m ≤ 2097152 := by omega
              have : m * m ≤ 2097152 * 2097152 := Nat.mul_le_mul hm2 hm2
              rw [e]
              omega
            have n2 : 1 ≤ (j : Int) * (j : Int) ∧ (j : Int) * (j : Int) ≤ 64 * 64 := ⟨Int.mul_le_mul (show 1 ≤ (j : Int) by omega) (show 1 ≤ (j : Int) by omega) (by omega) (by omega), Int.mul_le_mul a2 a2 a1 (by omega)⟩
            obtain ⟨nq, hnq⟩ : ∃ x, x = (j : Int) * sq := ⟨_, rfl⟩
            obtain ⟨nn, hnn⟩ : ∃ x, x = (j : Int) * (j : Int) := ⟨_, rfl⟩
            obtain ⟨sss, hss⟩ : ∃ x, x = ss * ss := ⟨_, rfl⟩
            rw [← hnq] at hpr hraw ⊢
            rw [← hnn] at n2 hraw
            rw [← hss] at n3 hraw
            have u2 : IntKind.i64.wrap ((j : Int) * (j : Int)) = nn := by rw [← hnn]; exact IntWalk.i64_in _ (by omega)
            have u3 : IntKind.i64.wrap (ss * ss) = sss := by rw [← hss]; exact IntWalk.i64_in _ (by omega)
            obtain ⟨df, hdf⟩ : ∃ x, x = nq - sss := ⟨_, rfl⟩
            have u4 : IntKind.i64.wrap (nq - sss) = df := by rw [← hdf]; exact IntWalk.i64_in _ (by omega)
            rw [← hdf] at hraw
            obtain ⟨e, he⟩ : ∃ x, x = 256 * df := ⟨_, rfl⟩
            have u5 : IntKind.i64.wrap (256 * df) = e := by rw [← he]; exact IntWalk.i64_in _ (by omega)
            rw [← he] at hraw
            have hE : -(256 * 4398046511104) ≤ e ∧ e ≤ 256 * 4398046511104 := by omega
            have hv := tdiv_small n2.1 _ hE.1 hE.2
            have hn0 : (nn == 0) = false := by rw [beq_eq_false_iff_ne]; omega
            have hn1 : ¬ nn = 0 := by omega
            obtain ⟨vv, hvv⟩ : ∃ x, x = e.tdiv nn := ⟨_, rfl⟩
            rw [← hvv] at hraw hv
            have u6 : IntKind.i64.wrap (e.tdiv nn) = vv := by rw [← hvv]; exact IntWalk.i64_in _ (by omega)
            have u7 : IntKind.i64.wrap (rr : Int) = (rr : Int) := IntWalk.i64_in _ (by omega)
            have o0 : wr.cell? ⟨w.heap.size + 1 + 1, 0, none⟩ = some (.int .i64 (x : Int)) := HO.out.out.cell 0
            have o1 : wr.cell? ⟨w.heap.size + 1 + 1, 1, none⟩ = some (.int .i64 (y : Int)) := HO.out.out.cell 1
            have o2 : wr.cell? ⟨w.heap.size + 1 + 1, 2, none⟩ = some (.int .i64 0) := HO.out.out.cell 2
            have o3 : wr.cell? ⟨w.heap.size + 1 + 1, 3, none⟩ = some (.int .i64 (j : Int)) := HO.out.out.cell 3
            have o4 : wr.cell? ⟨w.heap.size + 1 + 1, 4, none⟩ = some (.int .i64 sv) := HO.out.out.cell 4
            have f2 := HO.out.out.free 2
            have r0 : wr.cell? ⟨w.heap.size + 1, 0, none⟩ = some (.int .i64 0) := HO.out.res.cell 0
            have r1 : wr.cell? ⟨w.heap.size + 1, 1, none⟩ = some (.int .i64 0) := HO.out.res.cell 1
            have r2 : wr.cell? ⟨w.heap.size + 1, 2, none⟩ = some (.int .i64 0) := HO.out.res.cell 2
            have r3 : wr.cell? ⟨w.heap.size + 1, 3, none⟩ = some (.int .i64 0) := HO.out.res.cell 3
            have r4 : wr.cell? ⟨w.heap.size + 1, 4, none⟩ = some (.int .i64 0) := HO.out.res.cell 4
            have g0 := HO.out.res.free 0
            have g1 := HO.out.res.free 1
            have g2 := HO.out.res.free 2
            have g3 := HO.out.res.free 3
            have g4 := HO.out.res.free 4
            have HR1 := Lib.hid (HO.out.res.far (p := ⟨w.heap.size + 1 + 1, 2, none⟩) (by show w.heap.size + 1 ≠ w.heap.size + 1 + 1; omega) (.int .i64 (rr : Int)))
            have HB1 := Lib.hid (HO.out.b.setCell (p := ⟨w.heap.size + 1 + 1, 2, none⟩) (by show w.heap.size ≤ w.heap.size + 1 + 1; omega) (.int .i64 (rr : Int)))
            clear hnq hnn hss hdf he hvv n2 n3 hE hv a1 a2 a3 a4 a5 a6 a7 a8 hpr HO
            go_wp2_with fail
            refine (hfl _).mono ?_
            rintro e' w7 ⟨rfl, rfl⟩
            go_wp2_with fail
            have hle : w.heap.size ≤ w.heap.size + 1 := by omega
            refine bodyPost_ret (results_cell_row rfl _ _ (w.heap.size + 1) 63 #[.int .i64 (x : Int), .int .i64 (y : Int), .int .i64 (rr : Int), .int .i64 (j : Int), .int .i64 sv] (0, 0) _ rfl (((((HR1.out.put 0 _).put 1 _).put 2 _).put 3 _).put 4 _) Try.underlying63 rfl (by kernel_rfl)) rfl ?_
            exact ⟨by rw [hsq.out, hro.out], ((((HB1.out.setCell (p := ⟨w.heap.size + 1, 0, none⟩) hle _).setCell (p := ⟨w.heap.size + 1, 1, none⟩) hle _).setCell (p := ⟨w.heap.size + 1, 2, none⟩) hle _).setCell (p := ⟨w.heap.size + 1, 3, none⟩) hle _).setCell (p := ⟨w.heap.size + 1, 4, none⟩) hle _⟩
end Sur
end Go.Proofs.Ytmiplljcnchjkaa
