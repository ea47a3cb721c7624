/-
  The walks of the document's answers for a field by halves: how many levels, and what some heights are together.
-/
import Derived.Test.YtoaagemofjddiaaPyrR
namespace Go.Proofs.Ytoaagemofjddiaa
open Go.RowKit
set_option linter.unusedVariables false
namespace Pyr

set_option maxRecDepth 100000 in
set_option maxHeartbeats 1000000 in
theorem qlevels_any (W H top : Nat) (hT : IsTop W H top) (hW : W ≤ 256) (hH : H ≤ 256) (w : World) : Calls Try.prog 16 #[.int .i64 (W : Int), .int .i64 (H : Int)] w fun e w' => e = .returned (.int .i64 ((top : Int) + 1)) ∧ w = w' := by
  have htop := hT.le hW hH
  have hs := fun n (hn : n ≤ 256) k (hk : k ≤ 8) => qside_any n k (by omega) (by omega)
  have HT := Lib.hid hT
  have HS := Lib.hid hs
  clear hT hs
  go_enter Try.func16, Try.ntmps16
  go_wp2
  go_loopw [5] (fun i wr => ∃ j : Nat, j ≤ top ∧ i = .int .i64 ((j : Int) + 1) ∧ w = wr) (fun i _ => top + 1 - (intOf i).toNat)
  case atStart => exact ⟨0, Nat.zero_le _, rfl, rfl⟩
  case round =>
    obtain ⟨j, hj, rfl, rfl⟩ := hrel
    have h1 := HS.out W hW j (by omega) w
    have h2 := HS.out H hH j (by omega) w
    have y1 : IntKind.i64.wrap ((j : Int) + 1 - 1) = (j : Int) := by rw [Int.add_sub_cancel]; exact IntWalk.i64_in _ (by omega)
    have y2 : IntKind.i64.wrap ((j : Int) + 1 + 1) = (j : Int) + 1 + 1 := IntWalk.i64_in _ (by omega)
    have y3 : (j : Int) + 1 - 1 = (j : Int) := Int.add_sub_cancel _ _
    have a1 := side_self2 W j
    have a2 := side_self2 H j
    by_cases hlt : j < top
    · have hno := HT.out.no j hlt
      generalize side W j = s1 at *
      generalize side H j = s2 at *
      by_cases hs1 : 1 < s1
      · have d1 : decide (1 < (s1 : Int)) = true := decide_eq_true (by omega)
        have d1' : decide (1 < s1) = true := decide_eq_true (by omega)
        go_wp2_with fail
        refine h1.mono ?_
        rintro e w1 ⟨rfl, rfl⟩
        go_wp2
        go_roundw
        case rel => exact ⟨j + 1, by omega, by go_num, trivial⟩
        case measure => simp [intOf]; omega
      · have d1 : decide (1 < (s1 : Int)) = false := decide_eq_false (by omega)
        have d1' : decide (1 < s1) = false := decide_eq_false (by omega)
        have d2 : decide (1 < (s2 : Int)) = true := decide_eq_true (by omega)
        have d2' : decide (1 < s2) = true := decide_eq_true (by omega)
        clear hno
        go_wp2_with fail
        refine h1.mono ?_
        rintro e w1 ⟨rfl, rfl⟩
        go_wp2_with fail
        refine h2.mono ?_
        rintro e w1 ⟨rfl, rfl⟩
        go_wp2
        go_roundw
        case rel => exact ⟨j + 1, by omega, by go_num, trivial⟩
        case measure => simp [intOf]; omega
    · obtain rfl : j = top := by omega
      have b1 := HT.out.w
      have b2 := HT.out.h
      generalize side W j = s1 at *
      generalize side H j = s2 at *
      have d1 : decide (1 < (s1 : Int)) = false := decide_eq_false (by omega)
      have d1' : decide (1 < s1) = false := decide_eq_false (by omega)
      have d2 : decide (1 < (s2 : Int)) = false := decide_eq_false (by omega)
      have d2' : decide (1 < s2) = false := decide_eq_false (by omega)
      go_wp2_with fail
      refine h1.mono ?_
      rintro e w1 ⟨rfl, rfl⟩
      go_wp2_with fail
      refine h2.mono ?_
      rintro e w1 ⟨rfl, rfl⟩
      go_wp2
      go_ret
      exact ⟨rfl, rfl⟩

/-- on the way: the box of the field, the result, what is told so far -/
structure QS (w : World) (W H n cap lo hi : Nat) (A : Option Addr) (Z : List Int) (l : List Value) (wr : World) : Prop where
  box : Blk wr w.heap.size 24 [.int .i64 (W : Int), .int .i64 (H : Int), .slice A n cap]
  res : Blk wr (w.heap.size + 1) 42 (cec zc)
  out : Blk wr (w.heap.size + 1 + 1) 42 l
  rd : RdL wr lo hi A (Z.map zv)
  below : Below w.heap.size w wr
section
variable {w wr w' : World} {W H n cap lo hi : Nat} {A : Option Addr} {Z : List Int} {l : List Value}
theorem QS.drewN (S : QS w W H n cap lo hi A Z l wr) (q : Nat) : QS w W H n cap lo hi A Z l (wr.drewN q) := ⟨S.box.drewN q, S.res.drewN q, S.out.drewN q, S.rd.drewN q, below_drewN S.below q⟩
theorem QS.put (S : QS w W H n cap lo hi A Z l wr) (hhi : hi ≤ w.heap.size) (i : Nat) (u : Value) : QS w W H n cap lo hi A Z (l.set i u) (wr.setCell ⟨w.heap.size + 1 + 1, i, Option.none⟩ u) :=
  ⟨S.box.far (p := ⟨w.heap.size + 1 + 1, i, Option.none⟩) (by show w.heap.size ≠ w.heap.size + 1 + 1; omega) u, S.res.far (p := ⟨w.heap.size + 1 + 1, i, Option.none⟩) (by show w.heap.size + 1 ≠ w.heap.size + 1 + 1; omega) u, S.out.put i u, S.rd.far (p := ⟨w.heap.size + 1 + 1, i, Option.none⟩) (by show w.heap.size + 1 + 1 < lo ∨ hi ≤ w.heap.size + 1 + 1; omega) u, S.below.setCell (by show w.heap.size ≤ w.heap.size + 1 + 1; omega) u⟩
theorem QS.start (w : World) (hrd : RdL w lo hi A (Z.map zv)) : QS w W H n cap lo hi A Z (cec zc) (((w.alloc (.cells #[.int .i64 (W : Int), .int .i64 (H : Int), .slice A n cap] 24)).alloc (.cells (cec zc).toArray 42)).alloc (.cells (cec zc).toArray 42)) := by
  have k1 := ((Blk.mk w 24 [.int .i64 (W : Int), .int .i64 (H : Int), .slice A n cap]).alloc (.cells (cec zc).toArray 42)).alloc (.cells (cec zc).toArray 42)
  have k2 := (Blk.mk (w.alloc (.cells #[.int .i64 (W : Int), .int .i64 (H : Int), .slice A n cap] 24)) 42 (cec zc)).alloc (.cells (cec zc).toArray 42)
  have k3 := Blk.mk ((w.alloc (.cells #[.int .i64 (W : Int), .int .i64 (H : Int), .slice A n cap] 24)).alloc (.cells (cec zc).toArray 42)) 42 (cec zc)
  simp only [World.size_alloc] at k2 k3
  exact ⟨k1, k2, k3, ((hrd.alloc _).alloc _).alloc _, bt (bt (_root_.Go.Proofs.Ytoaagemofjddiaa.bl _ _) (_root_.Go.Proofs.Ytoaagemofjddiaa.bl _ _)) (_root_.Go.Proofs.Ytoaagemofjddiaa.bl _ _)⟩
end
set_option maxRecDepth 100000 in
set_option maxHeartbeats 4000000 in
theorem qof_any (W H : Nat) (A : Option Addr) (Z : List Int) (n cap lo hi : Nat) (w : World) (hrd : RdL w lo hi A (Z.map zv)) (hl : Z.length = n) (hcap : n ≤ cap) (hnl : n ≤ 1000000) (hW : 0 < W) (hW2 : W ≤ 1000000) (hhi : hi ≤ w.heap.size) (b : Bo) :
    Calls Try.prog 23 #[.agg #[.int .i64 (W : Int), .int .i64 (H : Int), .slice A n cap], .int .i64 b.x0, .int .i64 b.y0, .int .i64 b.x1, .int .i64 b.y1] w fun e w' => e = .returned (cev (ofF (fun i => Z.getD i 0) (fun i => nv (fun i => Z.getD i 0) i && meant W b i) n)) ∧ Below w.heap.size w w' := by
  obtain ⟨z, hz⟩ : ∃ z, z = fun i => Z.getD i 0 := ⟨_, rfl⟩
  rw [← hz]
  have Hz := Lib.hid hz
  have Hl := Lib.hid hl
  have S0 := Lib.hid (QS.start (W := W) (H := H) (n := n) (cap := cap) w hrd)
  obtain ⟨p, hp⟩ : ∃ p, p = fun i => nv z i && meant W b i := ⟨_, rfl⟩
  rw [← hp]
  have hpk : ∀ k, p k = true ↔ (b.x0 ≤ ((k % W : Nat) : Int) ∧ ((k % W : Nat) : Int) ≤ b.x1 ∧ b.y0 ≤ ((k / W : Nat) : Int) ∧ ((k / W : Nat) : Int) ≤ b.y1) ∧ z k ≠ -32768 := fun k => by
    rw [hp]
    show (nv z k && meant W b k) = true ↔ _
    unfold nv meant voidZ
    rw [Bool.and_eq_true, decide_eq_true_eq, bne_iff_ne]
    exact And.comm
  have HPk := Lib.hid hpk
  clear hz hl hrd hp hpk
  obtain ⟨b0, b1, b2, b3⟩ := b
  go_enter Try.func23, Try.ntmps23
  go_wp2
  go_loopw [12] (fun i wr => ∃ k : Nat, k ≤ n ∧ i = .int .i64 (k : Int) ∧ QS w W H n cap lo hi A Z (cec (ofF z p k)) wr) (fun i _ => n - (intOf i).toNat)
  case atStart => exact ⟨0, Nat.zero_le _, rfl, S0.out⟩
  case round =>
    clear S0
    obtain ⟨k, hk, rfl, S⟩ := hrel
    have hcn : (ofF z p k).n ≤ k := by rw [(ofF_is z p k).cnt]; exact Nat.le_trans List.countP_le_length (by simp)
    have hsucc : ofF z p (k + 1) = if p k = true then add (ofF z p k) (z k) else ofF z p k := rfl
    obtain ⟨c, hc⟩ : ∃ c, c = ofF z p k := ⟨_, rfl⟩
    rw [← hc] at S hcn hsucc
    have HC := Lib.hid hc
    have HSu := Lib.hid hsucc
    have HS := Lib.hid S
    have e0 : wr.cell? ⟨w.heap.size, 0, Option.none⟩ = some (.int .i64 (W : Int)) := S.box.cell 0
    have e1 : wr.cell? ⟨w.heap.size, 1, Option.none⟩ = some (.int .i64 (H : Int)) := S.box.cell 1
    have e2 : wr.cell? ⟨w.heap.size, 2, Option.none⟩ = some (.slice A n cap) := S.box.cell 2
    have o0 : wr.cell? ⟨w.heap.size + 1 + 1, 0, Option.none⟩ = some (.int .i16 c.lo) := S.out.cell 0
    have o1 : wr.cell? ⟨w.heap.size + 1 + 1, 1, Option.none⟩ = some (.int .i16 c.hi) := S.out.cell 1
    have o2 : wr.cell? ⟨w.heap.size + 1 + 1, 2, Option.none⟩ = some (.int .i64 (c.n : Int)) := S.out.cell 2
    have f0 := S.out.free 0
    have f1 := S.out.free 1
    have f2 := S.out.free 2
    clear S hsucc hc
    by_cases hlt : k < n
    · have hltI : (k : Int) < (n : Int) := by omega
      have hkl : k < Z.length := by rw [Hl.out]; exact hlt
      obtain ⟨bk, off, rfl, hb1, hb2, hb3, hbc⟩ := HS.out.rd.some (by rw [List.length_map]; omega)
      have c0 : wr.cell? ⟨bk, off + k, Option.none⟩ = some (.int .i16 (z k)) := by
        refine hbc k _ ?_
        rw [List.getElem?_map, List.getElem?_eq_getElem hkl, Hz.out]
        simp [zv, hkl]
      have ne1 : ¬ bk = w.heap.size + 1 + 1 := by omega
      have hpk := HPk.out k
      have hxl : k % W < W := Nat.mod_lt _ hW
      have hyl : k / W ≤ k := Nat.div_le_self _ _
      have m1 : (k : Int).tmod (W : Int) = ((k % W : Nat) : Int) := by rw [Int.tmod_eq_emod_of_nonneg (by omega)]; rfl
      have m2 : (k : Int).tdiv (W : Int) = ((k / W : Nat) : Int) := by rw [Int.tdiv_eq_ediv_of_nonneg (by omega)]; rfl
      generalize k % W = x at *
      generalize k / W = y at *
      have w1 : IntKind.i64.wrap ((k : Int).tmod (W : Int)) = (x : Int) := by rw [m1]; exact IntWalk.i64_in _ (by omega)
      have w2 : IntKind.i64.wrap ((k : Int).tdiv (W : Int)) = (y : Int) := by rw [m2]; exact IntWalk.i64_in _ (by omega)
      have w0 : ¬ (W : Int) = 0 := by omega
      have w0' : ((W : Int) == 0) = false := by rw [beq_eq_false_iff_ne]; omega
      have w0'' : ¬ W = 0 := by omega
      have w3 : IntKind.i64.wrap (x : Int) = (x : Int) := IntWalk.i64_in _ (by omega)
      have w4 : IntKind.i64.wrap (y : Int) = (y : Int) := IntWalk.i64_in _ (by omega)
      generalize z k = v at *
      try dsimp only at hpk
      clear hbc hkl hb3
      by_cases hm : p k = true
      · obtain ⟨⟨p1, p2, p3, p4⟩, p5⟩ := hpk.1 hm
        have hadd : ofF z p (k + 1) = add c v := by rw [HSu.out, if_pos hm]
        have HA := Lib.hid hadd
        have d1 : decide ((x : Int) < b0) = false := decide_eq_false (by omega)
        have d2 : decide (b2 < (x : Int)) = false := decide_eq_false (by omega)
        have d3 : decide ((y : Int) < b1) = false := decide_eq_false (by omega)
        have d4 : decide (b3 < (y : Int)) = false := decide_eq_false (by omega)
        have d5 : (v == -32768) = false := by rw [beq_eq_false_iff_ne]; exact p5
        have y9 : IntKind.i64.wrap ((c.n : Int) + 1) = (c.n : Int) + 1 := IntWalk.i64_in _ (by omega)
        clear hpk hm hadd
        by_cases hn0 : c.n = 0
        · have z0 : ((c.n : Int) == 0) = true := by rw [beq_iff_eq]; omega
          have ha : add c v = ⟨v, v, 1⟩ := by unfold add; rw [if_pos (.inl hn0), if_pos (.inl hn0), hn0]
          have HAA := Lib.hid ha
          clear ha
          go_wp2
          go_quiet (fail)
          go_wp2
          go_quiet (fail)
          go_wp2
          go_roundw
          case rel => exact ⟨k + 1, by omega, by go_num, by rw [HA.out, HAA.out]; exact ((((HS.out.drewN _).put hhi 0 (.int .i16 v)).drewN _).put hhi 1 (.int .i16 v)).put hhi 2 (.int .i64 1)⟩
          case measure => simp [intOf]; omega
        · have z0 : ((c.n : Int) == 0) = false := by rw [beq_eq_false_iff_ne]; omega
          by_cases h1 : v < c.lo
          · have g1 : decide (v < c.lo) = true := decide_eq_true h1
            by_cases h2 : c.hi < v
            · have g2 : decide (c.hi < v) = true := decide_eq_true h2
              have ha : add c v = ⟨v, v, c.n + 1⟩ := by unfold add; rw [if_pos (.inr h1), if_pos (.inr h2)]
              have HAA := Lib.hid ha
              clear ha
              go_wp2
              go_quiet (fail)
              go_wp2
              go_quiet (fail)
              go_wp2
              go_roundw
              case rel => exact ⟨k + 1, by omega, by go_num, by rw [HA.out, HAA.out]; exact ((((HS.out.drewN _).put hhi 0 (.int .i16 v)).drewN _).put hhi 1 (.int .i16 v)).put hhi 2 (.int .i64 ((c.n : Int) + 1))⟩
              case measure => simp [intOf]; omega
            · have g2 : decide (c.hi < v) = false := decide_eq_false h2
              have ha : add c v = ⟨v, c.hi, c.n + 1⟩ := by unfold add; rw [if_pos (.inr h1), if_neg (by omega)]
              have HAA := Lib.hid ha
              clear ha
              go_wp2
              go_quiet (fail)
              go_wp2
              go_quiet (fail)
              go_wp2
              go_roundw
              case rel => exact ⟨k + 1, by omega, by go_num, by rw [HA.out, HAA.out]; exact (((HS.out.drewN _).put hhi 0 (.int .i16 v)).drewN _).put hhi 2 (.int .i64 ((c.n : Int) + 1))⟩
              case measure => simp [intOf]; omega
          · have g1 : decide (v < c.lo) = false := decide_eq_false h1
            by_cases h2 : c.hi < v
            · have g2 : decide (c.hi < v) = true := decide_eq_true h2
              have ha : add c v = ⟨c.lo, v, c.n + 1⟩ := by unfold add; rw [if_neg (by omega), if_pos (.inr h2)]
              have HAA := Lib.hid ha
              clear ha
              go_wp2
              go_quiet (fail)
              go_wp2
              go_quiet (fail)
              go_wp2
              go_roundw
              case rel => exact ⟨k + 1, by omega, by go_num, by rw [HA.out, HAA.out]; exact ((HS.out.drewN _).put hhi 1 (.int .i16 v)).put hhi 2 (.int .i64 ((c.n : Int) + 1))⟩
              case measure => simp [intOf]; omega
            · have g2 : decide (c.hi < v) = false := decide_eq_false h2
              have ha : add c v = ⟨c.lo, c.hi, c.n + 1⟩ := by unfold add; rw [if_neg (by omega), if_neg (by omega)]
              have HAA := Lib.hid ha
              clear ha
              go_wp2
              go_quiet (fail)
              go_wp2
              go_quiet (fail)
              go_wp2
              go_roundw
              case rel => exact ⟨k + 1, by omega, by go_num, by rw [HA.out, HAA.out]; exact (HS.out.drewN _).put hhi 2 (.int .i64 ((c.n : Int) + 1))⟩
              case measure => simp [intOf]; omega
      · have hadd : ofF z p (k + 1) = c := by rw [HSu.out, if_neg hm]
        have HA := Lib.hid hadd
        have hnot : (x : Int) < b0 ∨ b2 < (x : Int) ∨ (y : Int) < b1 ∨ b3 < (y : Int) ∨ v = -32768 := by
          by_cases h5 : v = -32768
          · exact .inr (.inr (.inr (.inr h5)))
          · have h6 : ¬ (b0 ≤ (x : Int) ∧ (x : Int) ≤ b2 ∧ b1 ≤ (y : Int) ∧ (y : Int) ≤ b3) := fun h => hm (hpk.2 ⟨h, h5⟩)
            omega
        clear hpk hm hadd
        have HN := Lib.hid hnot
        clear hnot
        by_cases h0 : (x : Int) < b0
        · have g0 : decide ((x : Int) < b0) = true := decide_eq_true h0
          go_wp2
          go_roundw
          case rel => exact ⟨k + 1, by omega, by go_num, by rw [HA.out]; exact HS.out⟩
          case measure => simp [intOf]; omega
        · have g0 : decide ((x : Int) < b0) = false := decide_eq_false h0
          by_cases h1 : b2 < (x : Int)
          · have g1 : decide (b2 < (x : Int)) = true := decide_eq_true h1
            go_wp2
            go_roundw
            case rel => exact ⟨k + 1, by omega, by go_num, by rw [HA.out]; exact HS.out⟩
            case measure => simp [intOf]; omega
          · have g1 : decide (b2 < (x : Int)) = false := decide_eq_false h1
            by_cases h2 : (y : Int) < b1
            · have g2 : decide ((y : Int) < b1) = true := decide_eq_true h2
              go_wp2
              go_roundw
              case rel => exact ⟨k + 1, by omega, by go_num, by rw [HA.out]; exact HS.out⟩
              case measure => simp [intOf]; omega
            · have g2 : decide ((y : Int) < b1) = false := decide_eq_false h2
              by_cases h3 : b3 < (y : Int)
              · have g3 : decide (b3 < (y : Int)) = true := decide_eq_true h3
                go_wp2
                go_roundw
                case rel => exact ⟨k + 1, by omega, by go_num, by rw [HA.out]; exact HS.out⟩
                case measure => simp [intOf]; omega
              · have g3 : decide (b3 < (y : Int)) = false := decide_eq_false h3
                have h5 : v = -32768 := by have := HN.out; omega
                subst h5
                go_wp2
                go_roundw
                case rel => exact ⟨k + 1, by omega, by go_num, by rw [HA.out]; exact HS.out⟩
                case measure => simp [intOf]; omega
    · obtain rfl : k = n := by omega
      have hge : ¬ (k : Int) < (k : Int) := by omega
      have r0 := HS.out.res.free 0
      have r1 := HS.out.res.free 1
      have r2 := HS.out.res.free 2
      have q0 : wr.cell? ⟨w.heap.size + 1, 0, Option.none⟩ = some (.int .i16 0) := HS.out.res.cell 0
      have q1 : wr.cell? ⟨w.heap.size + 1, 1, Option.none⟩ = some (.int .i16 0) := HS.out.res.cell 1
      have q2 : wr.cell? ⟨w.heap.size + 1, 2, Option.none⟩ = some (.int .i64 0) := HS.out.res.cell 2
      go_wp2
      refine bodyPost_ret (v := cev c) (by simp [results, Try.results23, go_sem, cev, q0, q1, q2]) rfl ⟨by rw [HC.out], ((HS.out.below.setCell (by simp) _).setCell (by simp) _).setCell (by simp) _⟩
end Pyr
end Go.Proofs.Ytoaagemofjddiaa
