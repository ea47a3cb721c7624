/-
  The law PyramidAbove, walked and joined.
-/
import Derived.Test.YtoaagemofjddiaaPyrL
namespace Go.Proofs.Ytoaagemofjddiaa
open Go.RowKit Go.Shelf
set_option linter.unusedVariables false
namespace Pyr
attribute [local go_sem] Oper.semAt_some

theorem infoBool : (Try.prog.info? 4).map (fun i => (i.zero, i.size, i.bytes)) = some (some (.bool false), 1, 1) := by kernel_rfl
def tg (f : Nat → Bool) (n : Nat) : List Value := (List.range n).map fun i => .bool (f i)
theorem tg_len (f : Nat → Bool) (n : Nat) : (tg f n).length = n := by simp [tg]
theorem tg_at (f : Nat → Bool) (n i : Nat) (h : i < n) : (tg f n)[i]? = some (.bool (f i)) := by simp [tg, h]
theorem tg_set (f : Nat → Bool) (n k : Nat) (h : k < n) : (tg f n).set k (.bool true) = tg (fun i => f i || i == k) n := by
  apply List.ext_getElem?
  intro i
  rw [List.getElem?_set]
  by_cases hi : i < n
  · rw [tg_at _ _ _ hi, tg_at _ _ _ hi]
    by_cases e : k = i
    · subst e; simp [tg_len, h]
    · rw [if_neg e]
      have : (i == k) = false := by rw [beq_eq_false_iff_ne]; exact fun h => e h.symm
      rw [this, Bool.or_false]
  · have e1 : (tg f n)[i]? = none := by rw [List.getElem?_eq_none]; rw [tg_len]; omega
    have e2 : (tg (fun i => f i || i == k) n)[i]? = none := by rw [List.getElem?_eq_none]; rw [tg_len]; omega
    rw [e1, e2, if_neg (by omega)]
/-- what has been told -/
def told (fw : Nat) (pre : List (Nat × Nat)) (i : Nat) : Bool := pre.any fun p => p.2 * fw + p.1 == i
theorem told_snoc (fw : Nat) (pre : List (Nat × Nat)) (x y i : Nat) : told fw (pre ++ [(x, y)]) i = (told fw pre i || i == y * fw + x) := by
  unfold told
  rw [List.any_append]
  simp only [List.any_cons, List.any_nil, Bool.or_false]
  congr 1
  rw [Bool.eq_iff_iff, beq_iff_eq, beq_iff_eq]
  exact eq_comm
def Good (fw fh : Nat) (pre : List (Nat × Nat)) : Prop := (∀ p ∈ pre, p.1 < fw ∧ p.2 < fh) ∧ pre.Nodup
theorem row_inj {fw x y x' y' : Nat} (hx : x < fw) (hx' : x' < fw) (h : y * fw + x = y' * fw + x') : x = x' ∧ y = y' := by
  obtain ⟨a1, a2⟩ := row_sq (y := y) hx
  obtain ⟨b1, b2⟩ := row_sq (y := y') hx'
  rw [h] at a1 a2
  exact ⟨a1.symm.trans b1, a2.symm.trans b2⟩
theorem good_out {fw fh x y : Nat} {pre : List (Nat × Nat)} (h : fw ≤ x ∨ fh ≤ y) : ¬ Good fw fh (pre ++ [(x, y)]) := fun hg => by
  have := hg.1 (x, y) (by simp)
  dsimp only at this
  omega
theorem good_twice {fw fh x y : Nat} {pre : List (Nat × Nat)} (hx : x < fw) (ht : told fw pre (y * fw + x) = true) : ¬ Good fw fh (pre ++ [(x, y)]) := fun hg => by
  unfold told at ht
  rw [List.any_eq_true] at ht
  obtain ⟨p, hp, e⟩ := ht
  rw [beq_iff_eq] at e
  have h1 := hg.1 p (List.mem_append_left _ hp)
  obtain ⟨e1, e2⟩ := row_inj h1.1 hx e
  have hpe : p = (x, y) := Prod.ext e1 e2
  have h2 := hg.2
  rw [List.nodup_append] at h2
  exact h2.2.2 p hp (x, y) (by simp) hpe
theorem good_more {fw fh x y : Nat} {pre : List (Nat × Nat)} (hg : Good fw fh pre) (hx : x < fw) (hy : y < fh) (ht : told fw pre (y * fw + x) = false) : Good fw fh (pre ++ [(x, y)]) := by
  refine ⟨fun p hp => ?_, ?_⟩
  · rcases List.mem_append.1 hp with h | h
    · exact hg.1 p h
    · rw [List.mem_singleton] at h
      subst h
      exact ⟨hx, hy⟩
  · rw [List.nodup_append]
    refine ⟨hg.2, List.pairwise_singleton _ _, ?_⟩
    rintro p hp q hq rfl
    rw [List.mem_singleton] at hq
    subst hq
    unfold told at ht
    rw [List.any_eq_false] at ht
    exact ht _ hp (by simp)
theorem good_all {fw fh top : Nat} {z : Nat → Int} {over : Int} (hW : 0 < fw) (hH : 0 < fh) (h1 : side fw top ≤ 1) (h2 : side fh top ≤ 1) : Good fw fh (abvP fw fh z over ⟨top, 0, 0⟩) :=
  ⟨fun p hp => by
    obtain ⟨x, y⟩ := p
    have := (abv_all hW hH h1 h2 x y).1 hp
    exact ⟨this.1, this.2.1⟩, abv_top_nodup hW hH⟩
theorem good_pre {fw fh : Nat} {l m : List (Nat × Nat)} (h : l <+: m) (hg : Good fw fh m) : Good fw fh l :=
  ⟨fun p hp => hg.1 p (h.subset hp), h.sublist.nodup hg.2⟩
theorem told_all {fw fh top : Nat} {z : Nat → Int} {over : Int} (hW : 0 < fw) (hH : 0 < fh) (h1 : side fw top ≤ 1) (h2 : side fh top ≤ 1) {i : Nat} (hi : i < fw * fh) : told fw (abvP fw fh z over ⟨top, 0, 0⟩) i = (nv z i && decide (over < z i)) := by
  obtain ⟨l1, l2⟩ := lt_row hi
  have e : i / fw * fw + i % fw = i := by rw [Nat.mul_comm]; exact Nat.div_add_mod i fw
  rw [Bool.eq_iff_iff, Bool.and_eq_true, decide_eq_true_eq]
  unfold told
  rw [List.any_eq_true]
  constructor
  · rintro ⟨⟨x, y⟩, hp, hx⟩
    rw [beq_iff_eq] at hx
    dsimp only at hx
    have := (abv_all hW hH h1 h2 x y).1 hp
    rw [hx] at this
    exact this.2.2
  · rintro ⟨h3, h4⟩
    refine ⟨(i % fw, i / fw), (abv_all hW hH h1 h2 _ _).2 ⟨l1, l2, by rw [e]; exact h3, by rw [e]; exact h4⟩, ?_⟩
    rw [beq_iff_eq]
    exact e
theorem blk_of_own {w : World} {base n g : Nat} {e : TypeId} {l : List Value} (h : w.ownsRow base e 1 (.slice (some ⟨g, 0, Option.none⟩) n n) n l) (hn : 0 < n) : Blk w g e l := by
  obtain ⟨hl, h⟩ := h
  rcases h with ⟨h, h0⟩ | ⟨g', cap, cur, he, hb, hg, hnc, hm, hs, ht⟩
  · omega
  · injection he with he1 he2 he3
    injection he1 with he1
    injection he1 with he1
    subst he1 he3
    show w.heap[g]? = _
    rw [hg]
    congr 2
    rw [← ht, List.take_of_length_le (by simp; omega)]
set_option maxRecDepth 100000 in
set_option maxHeartbeats 2000000 in
theorem lawAbove_out (a b : Nat) (A : Option Addr) (m cap : Nat) (over : Int) (h : 1000 < m) (w : World) :
    Calls Try.prog 7 #[.int .u8 (a : Int), .int .u8 (b : Int), .slice A m cap, .int .i16 over] w fun e w' => e = .returned (.bool true) ∧ Below w.heap.size w w' := by
  have d1 : (1000 : Int) < (m : Int) := by omega
  have hres := Blk.mk w 4 [.bool false]
  have hbl := _root_.Go.Proofs.Ytoaagemofjddiaa.bl w (.cells [.bool false].toArray 4)
  have HRes := Lib.hid hres
  have HBl := Lib.hid hbl
  clear hres hbl
  refine callsIn_wide.1 (callsIn_of_wp_marks (n := 9) Try.func7 rfl trivial ?_ rfl)
  simp only [Try.ntmps7, List.size_toArray, List.length_cons, List.length_nil, Nat.reduceAdd, Nat.reduceSub, Array.replicate_succ, Array.replicate_zero, List.push_toArray, List.append_toArray, List.nil_append, List.cons_append]
  refine wpIn_wide.2 ?_
  go_wp2_with fail
  refine (works36_any _).mono ?_
  rintro e w1 ⟨rfl, hb⟩
  have hr := HRes.out.next hb
  have c1 : w1.cell? ⟨w.heap.size, 0, Option.none⟩ = some (.bool false) := hr.cell 0
  have f1 := hr.free 0
  have HB := Lib.hid (bt HBl.out hb)
  clear hb hr
  go_wp2_with fail
  have hc : (w1.setCell ⟨w.heap.size, 0, none⟩ (.bool true)).cell? ⟨w.heap.size, 0, none⟩ = some (.bool true) := World.cell?_setCell_same' _ _ _ (by rw [c1]; rfl)
  have hB : Below w.heap.size w (w1.setCell ⟨w.heap.size, 0, none⟩ (.bool true)) := HB.out.setCell (Nat.le_refl _) _
  refine ⟨.bool true, ?_, rfl, hB⟩
  simp [results, go_sem, hc]
set_option maxRecDepth 100000 in
set_option maxHeartbeats 6000000 in
theorem lawAbove_core (a b : Nat) (ha : a < 256) (hb : b < 256) (A : Option Addr) (Z : List Int) (m cap : Nat) (over : Int) (w : World) (hrd : RdL w 0 w.heap.size A (Z.map zv)) (hl : Z.length = m) (hcap : m ≤ cap) (hz : ∀ x ∈ Z, -32768 ≤ x ∧ x ≤ 32767) (h : ¬ 1000 < m) :
    Calls Try.prog 7 #[.int .u8 (a : Int), .int .u8 (b : Int), .slice A m cap, .int .i16 over] w fun e w' => e = .returned (.bool true) ∧ Below w.heap.size w w' := by
  obtain ⟨i0, hi0, hz0, hz1, hz2⟩ := info_parts infoBool
  have hnf : ∀ w g h, (binOp .eql 56 (.func (.func 51) #[] #[.pointer (some ⟨g, 0, none⟩), .pointer (some ⟨h, 0, none⟩)]) .nilFunc).run Try.prog w = .ok (.bool false) w := fun _ _ _ => by kernel_rfl
  have d1 : ¬ (1000 : Int) < (m : Int) := by omega
  have hres := Blk.mk w 4 [.bool false]
  have hbl := _root_.Go.Proofs.Ytoaagemofjddiaa.bl w (.cells [.bool false].toArray 4)
  have hfd := field_any a b ha hb A Z m cap 0 w.heap.size (w.alloc (.cells [.bool false].toArray 4)) (hrd.alloc _) hl (by omega) hcap hz hbl.size
  have hWl := fieldW_le a
  have hHl := fieldW_le b
  have hLl := fieldL_len a b Z
  generalize fieldL a b Z = L at *
  generalize fieldW a = fw at *
  generalize fieldW b = fh at *
  have hWH := Nat.mul_le_mul hWl.2 hHl.2
  have HLl := Lib.hid hLl
  have HRes := Lib.hid hres
  have HBl := Lib.hid hbl
  clear h hrd hl hz hres hbl hLl
  refine callsIn_wide.1 (callsIn_of_wp_marks (n := 9) Try.func7 rfl trivial ?_ rfl)
  simp only [Try.ntmps7, List.size_toArray, List.length_cons, List.length_nil, Nat.reduceAdd, Nat.reduceSub, Array.replicate_succ, Array.replicate_zero, List.push_toArray, List.append_toArray, List.nil_append, List.cons_append]
  refine wpIn_wide.2 ?_
  go_wp2_with fail
  refine hfd.mono ?_
  rintro e w1 ⟨v, rfl, hown, hbf⟩
  obtain ⟨Af, cf, rfl, hrf, hcf, hmf, hAf⟩ := own_rd hown
  have hR1 := HRes.out.next hbf
  have hK1 := bt HBl.out hbf
  have hs1 := hbf.size
  simp only [World.size_alloc] at hs1
  have hnl : L.length ≤ 1600 := by rw [HLl.out]; omega
  obtain ⟨n, hn⟩ : ∃ n, n = L.length := ⟨_, rfl⟩
  rw [← hn] at hcf hnl ⊢
  have hnWH : n = fw * fh := by rw [hn]; exact HLl.out
  have hn0 : 0 < n := by rw [hnWH]; exact Nat.mul_pos (by omega) (by omega)
  have Hn := Lib.hid hn
  have HnWH := Lib.hid hnWH
  have hnew := new_ok fw fh Af L n cf _ _ _ (hrf.alloc (.cells #[.int .i64 (fw : Int), .int .i64 (fh : Int), .slice Af n cf] 24)) hn.symm hnWH hcf (by omega) (by omega) (by omega) (by omega) (by simp)
  have HRf := Lib.hid hrf
  have HR1 := Lib.hid hR1
  have HK1 := Lib.hid hK1
  have HF1 := Lib.hid (Blk.mk w1 24 [.int .i64 (fw : Int), .int .i64 (fh : Int), .slice Af n cf])
  clear hfd hown hrf hbf hR1 hK1 hn HRes HBl hnWH
  go_wp2_with fail
  refine hnew.mono ?_
  rintro e w2 ⟨top, bp, bl, cl, lvs, rfl, hP, hI, hT, hlen, hbp, hb2⟩
  have hb2' := bt (_root_.Go.Proofs.Ytoaagemofjddiaa.bl w1 (.cells #[.int .i64 (fw : Int), .int .i64 (fh : Int), .slice Af n cf] 24)) hb2
  have HR2 := Lib.hid (HR1.out.next hb2')
  have HK2 := Lib.hid (bt HK1.out hb2')
  have HF2 := Lib.hid (HF1.out.next hb2)
  have HRf2 := Lib.hid (HRf.out.next hb2')
  have HI := Lib.hid hI
  have HT := Lib.hid hT
  have HP := Lib.hid hP
  have hs2 : w1.heap.size < w2.heap.size := HF2.out.lt
  obtain ⟨hbl8, hlb8⟩ := hP.apart_new (by omega) (fun l hl => by
    obtain ⟨k, hk, rfl⟩ := List.getElem_of_mem hl
    rw [HI.out.L k hk, lev_len]
    exact Nat.mul_pos (side_pos (by omega) k) (side_pos (by omega) k))
  have hbp8 := hP.blk.lt
  have HLb := Lib.hid hlb8
  have hbW := bt (_root_.Go.Proofs.Ytoaagemofjddiaa.bl w2 (.cells #[.pointer (some ⟨bp, 0, Option.none⟩)] 26)) (_root_.Go.Proofs.Ytoaagemofjddiaa.bl (w2.alloc (.cells #[.pointer (some ⟨bp, 0, Option.none⟩)] 26)) (.cells #[.int .i16 over] 36))
  have hsA : ((w2.alloc (.cells #[.pointer (some ⟨bp, 0, Option.none⟩)] 26)).alloc (.cells #[.int .i16 over] 36)).heap.size = w2.heap.size + 1 + 1 := by simp
  have HAI := Lib.hid (AI.start HP.out over)
  have HR3 := Lib.hid (HR2.out.next hbW)
  have HK3 := Lib.hid (bt HK2.out hbW)
  have HF3 := Lib.hid (HF2.out.next hbW)
  have HRf3 := Lib.hid (HRf2.out.next hbW)
  have f2 : ((w2.alloc (.cells #[.pointer (some ⟨bp, 0, Option.none⟩)] 26)).alloc (.cells #[.int .i16 over] 36)).cell? ⟨w1.heap.size, 2, Option.none⟩ = some (.slice Af n cf) := HF3.out.cell 2
  have HsA := Lib.hid hsA
  clear hnew hP hI hT hbp hb2 hb2' HF1 HR1 HRf HK1 hlb8 HR2 HK2 HF2 HRf2 hbW hsA
  go_wp2_with fail
  refine (above_any bp over _).mono ?_
  rintro e w3 ⟨rfl, rfl⟩
  generalize hwA : (w2.alloc (.cells #[.pointer (some ⟨bp, 0, Option.none⟩)] 26)).alloc (.cells #[.int .i16 over] 36) = wA at *
  clear hwA
  go_wp2_with (at_make; refine wpList_make_full _ rfl _ _ 58 rfl wA.heap.size 4 i0 (.bool false) 1 Try.underlying58 hi0 hz0 hz1 _ _ _ _ n rfl rfl (by rfl) (by rfl) (by rw [hz2]; omega) (by unfold maxLen; omega) (Nat.le_refl _) ?_; intro w4 hown4 hgrow4; have Hown4 := Lib.hid hown4; have Hgrow4 := Lib.hid hgrow4; clear hown4 hgrow4)
  have htg0 : (madeCells (Value.bool false).cells (n * 1)).toList = tg (told fw []) n := by
    have e1 : tg (told fw []) n = List.replicate n (.bool false) := by
      unfold tg
      have : (fun i => Value.bool (told fw [] i)) = fun _ => Value.bool false := by funext i; simp [told]
      rw [this, List.map_const', List.length_range]
    rw [e1, Nat.mul_one]
    exact toList_madeCells_one _ _
  have hown4 := Hown4.out
  rw [htg0] at hown4
  have hk4 := blk_of_own hown4 hn0
  have hb4 : Below wA.heap.size wA w4 := ⟨Hgrow4.out.os, Hgrow4.out.tape, Hgrow4.out.output, Hgrow4.out.size, fun i hi => Hgrow4.out.block i hi (by simp)⟩
  have hb5 := bt hb4 (_root_.Go.Proofs.Ytoaagemofjddiaa.bl w4 (.cells #[.slice (some ⟨wA.heap.size, 0, Option.none⟩) n n] 58))
  have hs4 : wA.heap.size < w4.heap.size := hk4.lt
  have hs5 : (w4.alloc (.cells #[.slice (some ⟨wA.heap.size, 0, Option.none⟩) n n] 58)).heap.size = w4.heap.size + 1 := by simp
  have R0 := Lib.hid (HR3.out.next hb5)
  have K0 := Lib.hid (bt HK3.out hb5)
  have F0 := Lib.hid (HF3.out.next hb5)
  have L0 := Lib.hid (HRf3.out.next hb5)
  have A0 := Lib.hid (HAI.out.next hb5)
  have T0 := Lib.hid (Blk.mk w4 58 [.slice (some ⟨wA.heap.size, 0, Option.none⟩) n n])
  have M0 := Lib.hid (hk4.next (_root_.Go.Proofs.Ytoaagemofjddiaa.bl w4 (.cells #[.slice (some ⟨wA.heap.size, 0, Option.none⟩) n n] 58)))
  have Mx : Hid (Blk (w4.alloc (.cells #[.slice (some ⟨wA.heap.size, 0, Option.none⟩) n n] 58)) wA.heap.size 4 (tg (told fw []) n)) := M0
  generalize hw0 : w4.alloc (.cells #[.slice (some ⟨wA.heap.size, 0, Option.none⟩) n n] 58) = W0 at *
  clear hw0 hown4 hk4 hb4 hb5 htg0 Hown4 Hgrow4 HR3 HK3 HF3 HRf3 HAI M0 f2
  generalize w4.heap.size = g13 at *
  generalize wA.heap.size = tb at *
  have hsA1 : w2.heap.size + 1 < tb := by have := HsA.out; omega
  refine range_above (s1 := 14) (s2 := 15) (tb := tb) rfl HI.out HT.out hlen (by omega) (by omega) (by omega) (by omega) ⟨by omega, by omega, by omega, by omega, fun l hl => by have := HLb.out l hl; omega⟩ (by omega) A0.out
    (fun pre W => W0.grownBy W (some tb) ∧ Blk W tb 4 (tg (told fw pre) n) ∧ Good fw fh pre) (fun _ pre _ => ¬ Good fw fh pre)
    (fun s W W' row h hg hr => ?own) (fun _ _ _ _ _ hs _ _ => hs)
    ⟨only_refl _ _, Mx.out, ⟨(fun p hp => by cases hp), List.nodup_nil⟩⟩ ?assign ?body ?done ?stop
  case own =>
    obtain ⟨h1, h2, h3⟩ := h
    have hne : some tb ≠ row := fun e => by have := (hr _ e.symm).1; omega
    exact ⟨⟨hg.os.trans h1.os, hg.tape.trans h1.tape, hg.output.trans h1.output, Nat.le_trans h1.size hg.size, fun j hj hj2 => (hg.block j (Nat.lt_of_lt_of_le hj h1.size) (fun e => by have := (hr _ e.symm).1; omega)).trans (h1.block j hj hj2)⟩, h2.grown hg hne, h3⟩
  case assign =>
    rintro l ⟨x, y⟩ W K hK
    unfold TX at hK
    simp only [List.setIfInBounds_toArray, List.set_cons_zero, List.set_cons_succ] at hK ⊢
    gi_wp2
    exact hK
  case stop =>
    rintro D c pre W _ hpre h _
    exact absurd (good_pre hpre (good_all (by omega) (by omega) HT.out.w HT.out.h)) h
  case body =>
    rintro l pre ⟨x, y⟩ W hl' ⟨hg, hbi, hgd⟩ hlen'
    have F1 := F0.out.grown hg (fun e => by have := Option.some.inj e; omega)
    have T1 := T0.out.grown hg (fun e => by have := Option.some.inj e; omega)
    have R1 := R0.out.grown hg (fun e => by have := Option.some.inj e; omega)
    have e0 : W.cell? ⟨w1.heap.size, 0, none⟩ = some (.int .i64 (fw : Int)) := F1.cell 0
    have e1 : W.cell? ⟨w1.heap.size, 1, none⟩ = some (.int .i64 (fh : Int)) := F1.cell 1
    have e2 : W.cell? ⟨g13, 0, none⟩ = some (.slice (some ⟨tb, 0, none⟩) n n) := T1.cell 0
    have e3 : W.cell? ⟨w.heap.size, 0, none⟩ = some (.bool false) := R1.cell 0
    have f3 := R1.free 0
    have HG := Lib.hid hg
    have HBi := Lib.hid hbi
    have HGd := Lib.hid hgd
    clear hg hgd F1 T1 R1
    have x1 : decide ((x : Int) < 0) = false := decide_eq_false (by omega)
    have x2 : decide ((y : Int) < 0) = false := decide_eq_false (by omega)
    by_cases hx : x < fw
    · have x3 : decide (fw ≤ x) = false := decide_eq_false (by omega)
      by_cases hy : y < fh
      · have x4 : decide (fh ≤ y) = false := decide_eq_false (by omega)
        have hq := row_lt hx hy
        rw [← HnWH.out] at hq
        have hc : W.cell? ⟨tb, y * fw + x, none⟩ = some (.bool (told fw pre (y * fw + x))) := (hbi.cell _).trans (tg_at _ _ _ hq)
        have hfz := hbi.free (y * fw + x)
        have hset := tg_set (told fw pre) n (y * fw + x) hq
        have hfun : (fun i => told fw pre i || i == y * fw + x) = told fw (pre ++ [(x, y)]) := funext fun i => (told_snoc fw pre x y i).symm
        rw [hfun] at hset
        have hgt := fun h => good_twice (fh := fh) (pre := pre) (y := y) hx h
        have hgm := fun h => good_more (pre := pre) HGd.out hx hy h
        have mr : (y : Int) * (fw : Int) = ((y * fw : Nat) : Int) := (Int.natCast_mul _ _).symm
        have hrl : y * fw ≤ 1600 := by omega
        generalize y * fw = r at *
        have z1 : IntKind.i64.wrap ((y : Int) * (fw : Int)) = (r : Int) := by rw [mr]; exact IntWalk.i64_in _ (by omega)
        have z2 : IntKind.i64.wrap ((r : Int) + (x : Int)) = (r : Int) + (x : Int) := IntWalk.i64_in _ (by omega)
        have hqI : (r : Int) + (x : Int) < (n : Int) := by omega
        have HSet := Lib.hid hset
        clear hbi hset hfun mr
        cases ht : told fw pre (r + x) with
        | true =>
          have HGt := Lib.hid (hgt ht)
          rw [ht] at hc
          clear hgt hgm ht
          unfold TX
          simp only [List.setIfInBounds_toArray, List.set_cons_zero, List.set_cons_succ]
          gi_wp2
          exact ⟨(KeepsOthers.setCell _ _ _).from _, HGt.out⟩
        | false =>
          have HGm := Lib.hid (hgm ht)
          rw [ht] at hc
          clear hgt hgm ht
          unfold TX
          simp only [List.setIfInBounds_toArray, List.set_cons_zero, List.set_cons_succ]
          gi_wp2
          refine ⟨(KeepsOthers.setCell _ _ _).from _, ⟨by simp, fun b o hb ho _ => (Below.heap_setCell W ⟨tb, r + x, none⟩ _ b hb).trans ho⟩, only_set HG.out _ _, ?_, HGm.out⟩
          rw [← HSet.out]
          exact HBi.out.put (r + x) (.bool true)
      · have x4 : decide (fh ≤ y) = true := decide_eq_true (by omega)
        have HGo := Lib.hid (good_out (fw := fw) (fh := fh) (x := x) (y := y) (pre := pre) (.inr (by omega)))
        unfold TX
        simp only [List.setIfInBounds_toArray, List.set_cons_zero, List.set_cons_succ]
        gi_wp2
        exact ⟨(KeepsOthers.setCell _ _ _).from _, HGo.out⟩
    · have x3 : decide (fw ≤ x) = true := decide_eq_true (by omega)
      have HGo := Lib.hid (good_out (fw := fw) (fh := fh) (x := x) (y := y) (pre := pre) (.inl (by omega)))
      unfold TX
      simp only [List.setIfInBounds_toArray, List.set_cons_zero, List.set_cons_succ]
      gi_wp2
      exact ⟨(KeepsOthers.setCell _ _ _).from _, HGo.out⟩
  case done =>
    rintro D W hD ⟨hg, hbi, _⟩ hKD
    have F1 := F0.out.grown hg (fun e => by have := Option.some.inj e; omega)
    have T1 := T0.out.grown hg (fun e => by have := Option.some.inj e; omega)
    have R1 := R0.out.grown hg (fun e => by have := Option.some.inj e; omega)
    have L1 := L0.out.grown hg (fun g e => .inr (by have := Option.some.inj e; omega))
    have K1 := K0.out.grown hg K0.out.size (fun k hk => by have := Option.some.inj hk; omega)
    have e2 : W.cell? ⟨w1.heap.size, 2, none⟩ = some (.slice Af n cf) := F1.cell 2
    have e3 : W.cell? ⟨g13, 0, none⟩ = some (.slice (some ⟨tb, 0, none⟩) n n) := T1.cell 0
    obtain ⟨bz, oz, rfl, hz1', hz2', hz3', hzc⟩ := L1.some (by rw [List.length_map, ← Hn.out]; exact hn0)
    have htd : ∀ k, k < n → W.cell? ⟨tb, k, none⟩ = some (.bool (nv (fun i => L.getD i 0) k && decide (over < (fun i => L.getD i 0) k))) := fun k hk => by
      rw [← told_all (fw := fw) (fh := fh) (top := top) (by omega) (by omega) HT.out.w HT.out.h (by rw [← HnWH.out]; exact hk)]
      exact (hbi.cell k).trans (tg_at _ _ _ hk)
    have hzd : ∀ k, k < n → W.cell? ⟨bz, oz + k, none⟩ = some (.int .i16 (L.getD k 0)) := fun k hk => by
      have hkl : k < L.length := by rw [← Hn.out]; exact hk
      refine hzc k _ ?_
      rw [List.getElem?_map, List.getElem?_eq_getElem hkl]
      simp [zv, hkl]
    have HTd := Lib.hid htd
    have HZd := Lib.hid hzd
    have HR := Lib.hid R1
    have HK := Lib.hid K1
    have HKD := Lib.hid hKD
    have hDs : D < W.heap.size := (Array.getElem?_eq_some_iff.1 hKD).1
    have hsW := hg.size
    clear hg hbi hKD F1 T1 R1 L1 K1 hzc htd hzd A0 T0 F0 R0 K0 L0 Mx
    go_wp2_with fail
    go_loopw [16] (fun i wr => ∃ k q : Nat, k ≤ n ∧ i = .int .i64 (k : Int) ∧ wr = W.drewN q) (fun i _ => n - (intOf i).toNat)
    case atStart => exact ⟨0, 0, Nat.zero_le _, rfl, rfl⟩
    case round =>
      obtain ⟨k, q, hk, rfl, rfl⟩ := hrel
      by_cases hlt : k < n
      · have hltI : (k : Int) < (n : Int) := by omega
        obtain ⟨x, hx⟩ : ∃ x, x = L.getD k 0 := ⟨_, rfl⟩
        have c0 : W.cell? ⟨tb, k, none⟩ = some (.bool (x != -32768 && decide (over < x))) := by rw [hx]; exact HTd.out k hlt
        have c1 : W.cell? ⟨bz, oz + k, none⟩ = some (.int .i16 x) := by rw [hx]; exact HZd.out k hlt
        clear hx
        by_cases hv : x = -32768
        · have v1 : (x != -32768) = false := by rw [bne_eq_false_iff_eq]; exact hv
          have v2 : (x == -32768) = true := by rw [beq_iff_eq]; exact hv
          rw [v1, Bool.false_and] at c0
          clear hv
          go_wp2
          go_quiet (fail)
          go_wp2
          go_roundw
          case rel => exact ⟨k + 1, _, by omega, by go_num, rfl⟩
          case measure => simp [intOf]; omega
        · have v1 : (x != -32768) = true := by rw [bne_iff_ne]; exact hv
          have v2 : (x == -32768) = false := by rw [beq_eq_false_iff_ne]; exact hv
          rw [v1, Bool.true_and] at c0
          clear hv
          by_cases ho : over < x
          · have o1 : decide (over < x) = true := decide_eq_true ho
            rw [o1] at c0
            go_wp2
            go_quiet (fail)
            go_wp2
            go_roundw
            case rel => exact ⟨k + 1, _, by omega, by go_num, rfl⟩
            case measure => simp [intOf]; omega
          · have o1 : decide (over < x) = false := decide_eq_false ho
            rw [o1] at c0
            go_wp2
            go_quiet (fail)
            go_wp2
            go_roundw
            case rel => exact ⟨k + 1, _, by omega, by go_num, rfl⟩
            case measure => simp [intOf]; omega
      · obtain rfl : k = n := by omega
        have hge : ¬ (k : Int) < (k : Int) := by omega
        go_wp2_with fail
        refine (works36_any _).mono ?_
        rintro e w9 ⟨rfl, hb9⟩
        have hr9 := (HR.out.drewN q).next hb9
        have c9 : w9.cell? ⟨w.heap.size, 0, Option.none⟩ = some (.bool false) := hr9.cell 0
        have f9 := hr9.free 0
        have HB9 := Lib.hid hb9
        clear hb9 hr9
        go_wp2_with fail
        have hKw : w9.heap[D]? = some (.deferred (some [])) := (HB9.out.block D (by simpa using hDs)).trans HKD.out
        have hK9 : (w9.setCell ⟨w.heap.size, 0, none⟩ (.bool true)).heap[D]? = some (.deferred (some [])) := (Below.heap_setCell w9 ⟨w.heap.size, 0, none⟩ _ D (by show D ≠ w.heap.size; omega)).trans hKw
        have hc : (w9.setCell ⟨w.heap.size, 0, none⟩ (.bool true)).cell? ⟨w.heap.size, 0, none⟩ = some (.bool true) := World.cell?_setCell_same' _ _ _ (by rw [c9]; rfl)
        have hk5 := cell_kept hc (grownBy_putObj' _ D (.deferred none)) (fun r e => by cases e; exact ⟨_, hK9, rfl⟩)
        have hB2 : Below w.heap.size w (w9.setCell ⟨w.heap.size, 0, none⟩ (.bool true)) := (bt (below_drewN HK.out q) HB9.out).setCell (Nat.le_refl _) _
        refine ⟨by simp, .inl ⟨_, _, rfl, run_takeDeferred hK9, ?_⟩⟩
        refine ⟨.bool true, ?_, rfl, hB2.trans (belowK_b (w := w) (Nat.le_refl _) _ D _ _ (by omega) hK9 rfl rfl)⟩
        simp [results, go_sem, hk5]
theorem walkAbove (v0 v1 v2 v3 : Value) (W : World) (h0 : VSat W (.int .u8) false v0) (h1 : VSat W (.int .u8) false v1) (h2 : VSat W (.slice (.int .i16)) false v2) (h3 : VSat W (.int .i16) false v3) :
    Calls Try.prog 7 #[v0, v1, v2, v3] W fun e W' => e = .returned (.bool true) ∧ Below W.heap.size W W' := by
  obtain ⟨a, rfl, ha⟩ := open_u8 h0
  obtain ⟨b, rfl, hb⟩ := open_u8 h1
  obtain ⟨A, Z, cap, rfl, hr, hz, hc, _, _⟩ := open_i16 h2
  obtain ⟨over, e, hw⟩ := h3
  injection e with e
  subst e
  by_cases h : 1000 < Z.length
  · exact lawAbove_out a b A Z.length cap over h W
  · exact lawAbove_core a b ha hb A Z Z.length cap over W hr rfl hc hz h
end Pyr
end Go.Proofs.Ytoaagemofjddiaa
