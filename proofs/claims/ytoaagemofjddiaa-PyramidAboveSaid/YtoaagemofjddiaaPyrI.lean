/-
  The walk of package pyramid's Above: an iterator over the columns and rows of all heights above one.
-/
import Derived.Test.YtoaagemofjddiaaPyrV
import Derived.Test.YtoaagemofjddiaaPyrA
import Derived.RangeFuncNested
import Derived.RangeFuncBound
import Derived.RangeFuncCalls
import Derived.RangeFuncLeaves
import Derived.Shelf.Abstract
import Derived.Shelf.RegionOpen
import Derived.OwnWalkIn
import Derived.TacticsInMore
import Derived.LoopNIn
import Derived.LoopIn
import Derived.Deep.CutBlock
import Derived.Deep.DeepCutAuto
namespace Go.Proofs.Ytoaagemofjddiaa
open Go.RowKit Go.Shelf
set_option linter.unusedVariables false
namespace Pyr
attribute [local go_sem] Oper.semAt_some

/-- all cells but those of one block stay as they were -/
def Kp (tb : Nat) (W W' : World) : Prop := W.heap.size ≤ W'.heap.size ∧ ∀ b o, b ≠ tb → W.heap[b]? = some o → o.isCells = true → W'.heap[b]? = some o
theorem Kp.trans {tb : Nat} {A B C : World} (h : Kp tb A B) (k : Kp tb B C) : Kp tb A C := ⟨Nat.le_trans h.1 k.1, fun b o hb ho hc => k.2 b o hb (h.2 b o hb ho hc) hc⟩
theorem Kp.putObj (tb : Nat) (W : World) (l : Nat) (o o' : Obj) (hl : W.heap[l]? = some o) (ho : o.isCells = false) : Kp tb W (W.putObj l o') := by
  refine ⟨by simp [World.putObj], fun b x _ hx hc => ?_⟩
  have : b ≠ l := fun e => by
    subst e
    rw [hl] at hx
    injection hx with hx
    subst hx
    rw [ho] at hc
    cases hc
  exact (World.putObj_heap_other this).trans hx
theorem Kp.heap {tb : Nat} {W W' : World} (h : Kp tb W W') {b : Nat} {l : Array Value} {t : TypeId} {k : Nat × Nat} (hb : b ≠ tb) (hx : W.heap[b]? = some (.cells l t k)) : W'.heap[b]? = some (.cells l t k) := h.2 b _ hb hx rfl
theorem cell_cells {W : World} {b i : Nat} {v : Value} (h : W.cell? ⟨b, i, Option.none⟩ = some v) : ∃ o, W.heap[b]? = some o ∧ o.isCells = true := by
  unfold World.cell? at h
  cases ho : W.heap[b]? with
  | none => simp [ho] at h
  | some o =>
    refine ⟨o, rfl, ?_⟩
    simp only [ho] at h
    cases o <;> simp_all [Obj.isCells]
theorem Kp.cell {tb : Nat} {W W' : World} (h : Kp tb W W') {b i : Nat} {v : Value} (hb : b ≠ tb) (hc : W.cell? ⟨b, i, Option.none⟩ = some v) : W'.cell? ⟨b, i, Option.none⟩ = some v := by
  obtain ⟨o, ho, hx⟩ := cell_cells hc
  have h2 := h.2 b o hb ho hx
  rw [← hc]
  unfold World.cell?
  simp only [ho, h2]
theorem Kp.blk {tb : Nat} {W W' : World} (h : Kp tb W W') {b : Nat} {t : TypeId} {l : List Value} (hb : b ≠ tb) (hx : Blk W b t l) : Blk W' b t l := h.heap hb hx
theorem Kp.rd {tb : Nat} {W W' : World} (h : Kp tb W W') {lo hi : Nat} {A : Option Addr} {l : List Value} (hb : tb < lo ∨ hi ≤ tb) (hx : RdL W lo hi A l) : RdL W' lo hi A l := by
  rcases hx with h0 | ⟨b, off, e, h1, h2, h3, hc⟩
  · exact .inl h0
  · exact .inr ⟨b, off, e, h1, h2, Nat.lt_of_lt_of_le h3 h.1, fun j u hu => h.cell (by omega) (hc j u hu)⟩
structure AI (bo zb bp bl cl seen : Nat) (lvs : List Lv) (over : Int) (W : World) : Prop where
  pb : W.cell? ⟨bo, 0, Option.none⟩ = some (.pointer (some ⟨bp, 0, Option.none⟩))
  zb : W.cell? ⟨zb, 0, Option.none⟩ = some (.int .i16 over)
  ps : PS W bp bl cl lvs seen
def Away (tb bo zb bp bl : Nat) (lvs : List Lv) : Prop := bo ≠ tb ∧ zb ≠ tb ∧ bp ≠ tb ∧ bl ≠ tb ∧ ∀ l ∈ lvs, l.b ≠ tb
theorem AI.next {bo zb bp bl cl seen : Nat} {lvs : List Lv} {over : Int} {W W' : World} (S : AI bo zb bp bl cl seen lvs over W) (hb : Below W.heap.size W W') : AI bo zb bp bl cl seen lvs over W' :=
  ⟨(hb.cell (p := ⟨bo, 0, none⟩) (block_lt_of_cell S.pb)).trans S.pb, (hb.cell (p := ⟨zb, 0, none⟩) (block_lt_of_cell S.zb)).trans S.zb, S.ps.next hb⟩
theorem AI.kp {tb bo zb bp bl cl seen : Nat} {lvs : List Lv} {over : Int} {W W' : World} (S : AI bo zb bp bl cl seen lvs over W) (ht : Away tb bo zb bp bl lvs) (h : Kp tb W W') : AI bo zb bp bl cl seen lvs over W' := by
  obtain ⟨h1, h2, h3, h4, h5⟩ := ht
  refine ⟨h.cell h1 S.pb, h.cell h2 S.zb, h.blk h3 S.ps.blk, h.rd (by omega) S.ps.rdl, S.ps.cl, S.ps.ne, fun l hl => ?_⟩
  obtain ⟨a, b⟩ := S.ps.rows l hl
  exact ⟨h.rd (by have := h5 l hl; omega) a, b⟩
theorem AI.held {bo zb bp bl cl seen g : Nat} {lvs : List Lv} {over : Int} {W : World} {p : Pl} {l : Lv} (S : AI bo zb bp bl cl seen lvs over W) (T : Blk W g 104 (plc p)) (h : lvs[p.n]? = some l) :
    W.cell? ⟨bo, 0, Option.none⟩ = some (.pointer (some ⟨bp, 0, Option.none⟩)) ∧ W.cell? ⟨bp, 0, Option.none⟩ = some (.slice (some ⟨bl, 0, Option.none⟩) lvs.length cl) ∧ W.cell? ⟨bl, p.n * 3, Option.none⟩ = some (.int .i64 (l.wd : Int)) ∧ W.cell? ⟨bl, p.n * 3 + 1, Option.none⟩ = some (.int .i64 (l.h : Int)) ∧ W.cell? ⟨bl, p.n * 3 + 2, Option.none⟩ = some (.slice (some ⟨l.b, 0, Option.none⟩) l.L.length l.cap) ∧ W.cell? ⟨g, 0, Option.none⟩ = some (.int .i64 (p.n : Int)) ∧ W.cell? ⟨g, 1, Option.none⟩ = some (.int .i64 (p.x : Int)) ∧ W.cell? ⟨g, 2, Option.none⟩ = some (.int .i64 (p.y : Int)) := by
  obtain ⟨l0, l1, l2⟩ := S.ps.lev h
  exact ⟨S.pb, S.ps.p0, l0, l1, l2, T.cell 0, T.cell 1, T.cell 2⟩
def encX (x : Nat × Nat) : Array Value := #[.int .i64 (x.1 : Int), .int .i64 (x.2 : Int)]
/-- places that wait, in memory -/
structure Wt (B : Nat) (v : Value) (wait : List Pl) (W : World) : Prop where
  v : ∃ A c, v = .slice A wait.length c ∧ wait.length ≤ c ∧ c ≤ maxLen ∧ (A = none → wait.length = 0 ∧ c = 0) ∧ RdL W B W.heap.size A (wait.flatMap plc)
  sz : B ≤ W.heap.size
theorem Wt.next {B : Nat} {v : Value} {wait : List Pl} {W W' : World} (S : Wt B v wait W) (hb : Below W.heap.size W W') : Wt B v wait W' := by
  obtain ⟨A, c, h1, h2, h3, h4, h5⟩ := S.v
  exact ⟨⟨A, c, h1, h2, h3, h4, (h5.next hb).wide (Nat.le_refl _) hb.size⟩, Nat.le_trans S.sz hb.size⟩
theorem Wt.kp {B tb : Nat} {v : Value} {wait : List Pl} {W W' : World} (S : Wt B v wait W) (ht : tb < B) (h : Kp tb W W') : Wt B v wait W' := by
  obtain ⟨A, c, h1, h2, h3, h4, h5⟩ := S.v
  exact ⟨⟨A, c, h1, h2, h3, h4, (h.rd (.inl ht) h5).wide (Nat.le_refl _) h.1⟩, Nat.le_trans S.sz h.1⟩
theorem Wt.own {B base : Nat} {v : Value} {wait : List Pl} {W : World} (h : W.ownsRow base 104 3 v wait.length (wait.flatMap plc)) (hB : B ≤ base) (hW : B ≤ W.heap.size) : Wt B v wait W := by
  obtain ⟨A, c, h1, h2, h3, h4, h5⟩ := own_rd h
  exact ⟨⟨A, c, h1, h3, h4, h5, h2.wide hB (Nat.le_refl _)⟩, hW⟩
/-- what lies in memory when a cell has been got -/
structure CS (w : World) (bo zb bp bl cl seen : Nat) (lvs : List Lv) (over : Int) (gp : Nat) (p : Pl) (v : Value) (tail : List Pl) (g6 : Nat) (ce : Ce) (W : World) : Prop where
  ai : AI bo zb bp bl cl seen lvs over W
  place : Blk W gp 104 (plc p)
  wait : Wt w.heap.size v tail W
  cell : Blk W g6 38 (cec ce)
def AbPost (all : List (Nat × Nat)) (J Jx : List (Nat × Nat) → World → Prop) (e : Ending) (W' : World) : Prop := (∃ v, e = .returned v) ∧ ((∃ ys, ys = all ∧ J ys W') ∨ (∃ pre, pre <+: all ∧ Jx pre W'))
set_option maxRecDepth 100000 in
set_option maxHeartbeats 4000000 in
theorem above1_in (n : Nat) (hn : 1 ≤ n) (l : Nat) {W H top : Nat} {z : Nat → Int} {bo zb bp bl cl seen tb : Nat} {lvs : List Lv} {over : Int} (hI : IsLv W H z lvs) (hT : IsTop W H top) (hlen : lvs.length = top + 1) (hW : 0 < W) (hH : 0 < H) (hW2 : W ≤ 256) (hH2 : H ≤ 256)
    (J Jx : List (Nat × Nat) → World → Prop) (w : World) (ht : Away tb bo zb bp bl lvs) (htb : tb < w.heap.size) (hJ : AbidesFrom w.heap.size J)
    (hY : ∀ pre x W1, J pre W1 → pre.length < (abvP W H z over ⟨top, 0, 0⟩).length → YieldAt Fence.wide (n - 1) Try.prog l (encX x) W1 fun e W' =>
      (e = .returned (.bool true) ∧ J (pre ++ [x]) W' ∧ Kp tb W1 W') ∨ (e = .returned (.bool false) ∧ Jx (pre ++ [x]) W'))
    (hai : AI bo zb bp bl cl seen lvs over w) (h0 : J [] w) :
    CallsIn Fence.wide n Try.prog 51 #[.func (.yield l) #[] #[], .pointer (some ⟨bo, 0, none⟩), .pointer (some ⟨zb, 0, none⟩)] w (AbPost (abvP W H z over ⟨top, 0, 0⟩) J Jx) := by
  obtain ⟨i0, hi0, hz0, hz1, hz2⟩ := info_parts infoPlace
  have htop := hT.le hW2 hH2
  obtain ⟨all, hall⟩ : ∃ all, all = abvP W H z over ⟨top, 0, 0⟩ := ⟨_, rfl⟩
  rw [← hall] at hY ⊢
  have HAll := Lib.hid hall
  have HI := Lib.hid hI
  have hlenI : (lvs.length : Int) = (top : Int) + 1 := by omega
  have e0 := hai.pb
  have e1 := hai.ps.p0
  have HAi := Lib.hid hai
  have H0 := Lib.hid h0
  clear hT hall hI hai h0
  refine callsIn_wide.2 ?_
  go_enter Try.func51, Try.ntmps51
  go_wp2
  have hO := own_pl w ⟨top, 0, 0⟩
  have hWt0 : Wt w.heap.size (.slice (some ⟨w.heap.size, 0, Option.none⟩) 1 1) [⟨top, 0, 0⟩] (w.alloc (.cells (plc ⟨top, 0, 0⟩).toArray 104)) := Wt.own hO (Nat.le_refl _) (by simp)
  have HWt := Lib.hid hWt0
  have HJ0 := Lib.hid (hJ [] w _ none H0.out (only_below (_root_.Go.Proofs.Ytoaagemofjddiaa.bl w (.cells (plc ⟨top, 0, 0⟩).toArray 104)) none) (fun r e => by cases e))
  have HA0 := Lib.hid (HAi.out.next (_root_.Go.Proofs.Ytoaagemofjddiaa.bl w (.cells (plc ⟨top, 0, 0⟩).toArray 104)))
  clear hO hWt0 HAi H0 e0 e1
  go_loopg [4] (wt [⟨top, 0, 0⟩]) (fun g v wr => ∃ (wait : List Pl) (pre : List (Nat × Nat)), g = wt wait ∧ wt wait ≤ 390625 ∧ Wt w.heap.size v wait wr ∧ all = pre ++ wait.flatMap (abvP W H z over) ∧ (∀ p ∈ wait, Ok W H p ∧ p.n ≤ top) ∧ J pre wr ∧ AI bo zb bp bl cl seen lvs over wr)
  case atStart => exact ⟨[⟨top, 0, 0⟩], [], rfl, by (have := Nat.pow_le_pow_right (n := 5) (by decide) htop); simpa [wt] using this, HWt.out, by rw [HAll.out]; simp, (fun p hp => by rw [List.mem_singleton] at hp; subst hp; exact ⟨⟨side_pos hW _, side_pos hH _⟩, Nat.le_refl _⟩), HJ0.out, HA0.out⟩
  case round =>
    clear HWt HJ0 HA0
    obtain ⟨wait, pre, hg, hwt, SW, hpre, hok, hJs, hA⟩ := hrel
    have hwB := SW.sz
    obtain ⟨A, c, rfl, hc1, hc2, hc3, hrd⟩ := SW.v
    have HPre := Lib.hid hpre
    have HJs := Lib.hid hJs
    have HA := Lib.hid hA
    have Hg := Lib.hid hg
    have Hwt := Lib.hid hwt
    have HOk := Lib.hid hok
    clear SW hpre hJs hA hg hwt hok
    cases wait with
    | nil =>
      have HDone : Hid (all = pre) := Lib.hid (by rw [HPre.out]; simp)
      go_wp2
      go_end0
      exact ⟨⟨_, rfl⟩, .inl ⟨pre, HDone.out.symm, HJs.out⟩⟩
    | cons p tail =>
      obtain ⟨hokp, hpn⟩ := HOk.out p List.mem_cons_self
      have hl1 : (p :: tail).length = tail.length + 1 := rfl
      rw [hl1] at hc1 hc3 ⊢
      have hwl := wt_len tail
      have hpp := Nat.one_le_pow p.n 5 (by decide)
      have hwtc : wt (p :: tail) = 5 ^ p.n + wt tail := by simp [wt]
      have htl : tail.length ≤ 390625 := by have := Hwt.out; omega
      have HWtc := Lib.hid hwtc
      obtain ⟨b, off, rfl, hb1, hb2, hb3, _⟩ := hrd.some (by rw [flatMap_len plc 3 plc_len]; simp)
      have hce := hrd.elem plc 3 plc_len (i := 0) (by simp)
      simp only [Nat.zero_mul, Nat.add_zero, List.getElem_cons_zero] at hce
      have c0 : wr.cell? ⟨b, off, Option.none⟩ = some (.int .i64 (p.n : Int)) := hce 0 _ (by decide) rfl
      have c1 : wr.cell? ⟨b, off + 1, Option.none⟩ = some (.int .i64 (p.x : Int)) := hce 1 _ (by decide) rfl
      have c2 : wr.cell? ⟨b, off + 2, Option.none⟩ = some (.int .i64 (p.y : Int)) := hce 2 _ (by decide) rfl
      have hrdt : RdL wr w.heap.size wr.heap.size (some ⟨b, off + 3, Option.none⟩) (tail.flatMap plc) := by
        have := hrd.drop 3
        rw [List.flatMap_cons] at this
        exact this
      have HRdt := Lib.hid hrdt
      have hnlT : (p.n : Int) < (top : Int) + 1 := by omega
      have hnl : p.n < lvs.length := by omega
      clear hce hrd hrdt hwtc hwl hl1 hb3
      go_upto_region 3 with fail
      go_cut [4] (fun s4 wx => Wt w.heap.size s4 tail wx ∧ wx = wr.alloc (.cells (plc p).toArray 104))
      case first =>
        have hbel := _root_.Go.Proofs.Ytoaagemofjddiaa.bl wr (.cells (plc p).toArray 104)
        have hbs := hbel.size
        by_cases hcap : c = 1
        · subst hcap
          have ht0 : tail.length = 0 := by omega
          obtain rfl : tail = [] := List.eq_nil_of_length_eq_zero ht0
          go_wp2_with fail
          go_meet
          exact ⟨⟨⟨_, _, rfl, Nat.zero_le _, by simp [maxLen], (fun h => by cases h), .inl rfl⟩, Nat.le_trans hwB hbs⟩, rfl⟩
        · have k2 : ¬ c = 1 := hcap
          have k1 : c ≠ 1 := hcap
          have hcI : (1 : Int) ≤ (c : Int) := by omega
          have htI : (1 : Int) ≤ (tail.length : Int) + 1 := by omega
          go_wp2_with fail
          go_meet
          exact ⟨⟨⟨_, _, rfl, by omega, by omega, (fun h => by cases h), (HRdt.out.next hbel).wide (Nat.le_refl _) hbs⟩, Nat.le_trans hwB hbs⟩, rfl⟩
      case rest =>
        clear c0 c1 c2 HRdt
        obtain ⟨hWt, rfl⟩ := hcut
        have hD : Below wr.heap.size wr (wr.alloc (.cells (plc p).toArray 104)).drew := (_root_.Go.Proofs.Ytoaagemofjddiaa.bl wr (.cells (plc p).toArray 104)).drew
        have hJ1 := Lib.hid (hJ pre wr _ none HJs.out (only_below hD none) (fun r e => by cases e))
        have hA1 := Lib.hid (HA.out.next hD)
        have hT1 := Lib.hid (Blk.mk wr 104 (plc p)).drew
        have hW1 := Lib.hid (hWt.next ((Below.refl (wr.alloc (.cells (plc p).toArray 104)).heap.size (wr.alloc (.cells (plc p).toArray 104))).drew))
        have hlk : lvs[p.n]? = some lvs[p.n] := List.getElem?_eq_getElem hnl
        have hlw := HI.out.wd p.n hnl
        have hlh := HI.out.h p.n hnl
        have hlL := HI.out.L p.n hnl
        generalize lvs[p.n] = lv at *
        have hsw := side_self2 W p.n
        have hsh := side_self2 H p.n
        obtain ⟨m1, m2, m3, m4⟩ := hA1.out.ps.mem hlk
        have ha := fun X (m : RdL X lv.b (lv.b + 1) (some ⟨lv.b, 0, Option.none⟩) (lv.L.flatMap cec)) => at_any lv.wd lv.h p.x p.y (some ⟨lv.b, 0, Option.none⟩) lv.L lv.L.length lv.cap lv.b (lv.b + 1) X m rfl m4 m3 (by omega) (by omega)
        have HRow := Lib.hid m1
        have ec : atL lv.wd lv.h lv.L p.x p.y = cellOf W H z p := by
          unfold atL cellOf
          rw [if_pos ⟨by rw [hlw]; exact hokp.x, by rw [hlh]; exact hokp.y⟩, hlw, hlL]
        obtain ⟨ce, hce⟩ : ∃ ce, ce = cellOf W H z p := ⟨_, rfl⟩
        rw [ec, ← hce] at ha
        have HCe := Lib.hid hce
        have hHeld := hA1.out.held hT1.out hlk
        have HHeld := Lib.hid hHeld
        have HLk := Lib.hid hlk
        clear hlk hlw hlh hlL m1 m2 m3 m4 ec hce hD hWt HJs HA hHeld
        go_wp2_with fail
        go_cut [6] (fun s6 wx => ∃ g6, s6 = .pointer (some ⟨g6, 0, Option.none⟩) ∧ CS w bo zb bp bl cl seen lvs over wr.heap.size p u4 tail g6 ce wx ∧ J pre wx)
        case first =>
          refine wp_region_any (by kernel_rfl) ?_
          change wpAny _ _ _ _ _ _ _ (wr.alloc (.cells (plc p).toArray 104)).drew
          generalize hw7 : (wr.alloc (.cells (plc p).toArray 104)).drew = w7 at *
          have hs7 : wr.heap.size < w7.heap.size := by rw [← hw7]; simp [World.drew]
          clear hw7
          refine wpAny_split 14 (L := #[false, false, false, false, false, false, false, false, false, false, false, false, false, false]) (f := 14) (S := fun w' => w'.cell? ⟨bo, 0, Option.none⟩ = some (.pointer (some ⟨bp, 0, Option.none⟩)) ∧ w'.cell? ⟨bp, 0, Option.none⟩ = some (.slice (some ⟨bl, 0, Option.none⟩) lvs.length cl) ∧ w'.cell? ⟨bl, p.n * 3, Option.none⟩ = some (.int .i64 (lv.wd : Int)) ∧ w'.cell? ⟨bl, p.n * 3 + 1, Option.none⟩ = some (.int .i64 (lv.h : Int)) ∧ w'.cell? ⟨bl, p.n * 3 + 2, Option.none⟩ = some (.slice (some ⟨lv.b, 0, Option.none⟩) lv.L.length lv.cap) ∧ w'.cell? ⟨wr.heap.size, 0, Option.none⟩ = some (.int .i64 (p.n : Int)) ∧ w'.cell? ⟨wr.heap.size, 1, Option.none⟩ = some (.int .i64 (p.x : Int)) ∧ w'.cell? ⟨wr.heap.size, 2, Option.none⟩ = some (.int .i64 (p.y : Int))) (by kernel_rfl) HHeld.out (fun hHeld => ?_)
          simp only [List.take_succ_cons, List.take_zero, List.drop_succ_cons, List.drop_zero]
          refine wpAnyH_take (i := 0) (oi := ⟨some 23, _, _, _, _, _⟩) (v := ?_) rfl (by kernel_rfl) (by kernel_rfl) (by kernel_rfl) (fun _ _ _ h => h) (Or.inl ⟨by rfl, ?_⟩) (by assumption) ?_
          rotate_left
          · (intro w hSw; (try dsimp only at hSw); go_simp; try (with_reducible rfl))
          try simp only [Act.put, List.setIfInBounds_toArray, List.set_cons_zero, List.set_cons_succ]
          refine wpAnyH_take (i := 1) (oi := ⟨some 24, _, _, _, _, _⟩) (v := ?_) rfl (by kernel_rfl) (by kernel_rfl) (by kernel_rfl) (fun _ _ _ h => h) (Or.inl ⟨by rfl, ?_⟩) (by assumption) ?_
          rotate_left
          · (intro w hSw; (try dsimp only at hSw); go_simp; try (with_reducible rfl))
          try simp only [Act.put, List.setIfInBounds_toArray, List.set_cons_zero, List.set_cons_succ]
          refine wpAnyH_take (i := 2) (oi := ⟨some 25, _, _, _, _, _⟩) (v := ?_) rfl (by kernel_rfl) (by kernel_rfl) (by kernel_rfl) (fun _ _ _ h => h) (Or.inl ⟨by rfl, ?_⟩) (by assumption) ?_
          rotate_left
          · (intro w hSw; (try dsimp only at hSw); go_simp; try (with_reducible rfl))
          try simp only [Act.put, List.setIfInBounds_toArray, List.set_cons_zero, List.set_cons_succ]
          refine wpAnyH_take (i := 3) (oi := ⟨some 26, _, _, _, _, _⟩) (v := ?_) rfl (by kernel_rfl) (by kernel_rfl) (by kernel_rfl) (fun _ _ _ h => h) (Or.inl ⟨by rfl, ?_⟩) (by assumption) ?_
          rotate_left
          · (intro w hSw; (try dsimp only at hSw); go_simp; try (with_reducible rfl))
          try simp only [Act.put, List.setIfInBounds_toArray, List.set_cons_zero, List.set_cons_succ]
          refine wpAnyH_take (i := 4) (oi := ⟨some 27, _, _, _, _, _⟩) (v := ?_) rfl (by kernel_rfl) (by kernel_rfl) (by kernel_rfl) (fun _ _ _ h => h) (Or.inl ⟨by rfl, ?_⟩) (by assumption) ?_
          rotate_left
          · (intro w hSw; (try dsimp only at hSw); go_simp; try (with_reducible rfl))
          try simp only [Act.put, List.setIfInBounds_toArray, List.set_cons_zero, List.set_cons_succ]
          refine wpAnyH_take (i := 5) (oi := ⟨some 28, _, _, _, _, _⟩) (v := ?_) rfl (by kernel_rfl) (by kernel_rfl) (by kernel_rfl) (fun _ _ _ h => h) (Or.inl ⟨by rfl, ?_⟩) (by assumption) ?_
          rotate_left
          · (intro w hSw; (try dsimp only at hSw); go_simp; try (with_reducible rfl))
          try simp only [Act.put, List.setIfInBounds_toArray, List.set_cons_zero, List.set_cons_succ]
          refine wpAnyH_take (i := 6) (oi := ⟨some 29, _, _, _, _, _⟩) (v := ?_) rfl (by kernel_rfl) (by kernel_rfl) (by kernel_rfl) (fun _ _ _ h => h) (Or.inl ⟨by rfl, ?_⟩) (by assumption) ?_
          rotate_left
          · (intro w hSw; (try dsimp only at hSw); go_simp; try (with_reducible rfl))
          try simp only [Act.put, List.setIfInBounds_toArray, List.set_cons_zero, List.set_cons_succ]
          refine wpAnyH_take (i := 7) (oi := ⟨some 30, _, _, _, _, _⟩) (v := ?_) rfl (by kernel_rfl) (by kernel_rfl) (by kernel_rfl) (fun _ _ _ h => h) (Or.inl ⟨by rfl, ?_⟩) (by assumption) ?_
          rotate_left
          · (intro w hSw; (try dsimp only at hSw); go_simp; try (with_reducible rfl))
          try simp only [Act.put, List.setIfInBounds_toArray, List.set_cons_zero, List.set_cons_succ]
          refine wpAnyH_take (i := 8) (oi := ⟨some 31, _, _, _, _, _⟩) (v := ?_) rfl (by kernel_rfl) (by kernel_rfl) (by kernel_rfl) (fun _ _ _ h => h) (Or.inl ⟨by rfl, ?_⟩) (by assumption) ?_
          rotate_left
          · (intro w hSw; (try dsimp only at hSw); go_simp; try (with_reducible rfl))
          try simp only [Act.put, List.setIfInBounds_toArray, List.set_cons_zero, List.set_cons_succ]
          refine wpAnyH_take (i := 9) (oi := ⟨some 32, _, _, _, _, _⟩) (v := ?_) rfl (by kernel_rfl) (by kernel_rfl) (by kernel_rfl) (fun _ _ _ h => h) (Or.inl ⟨by rfl, ?_⟩) (by assumption) ?_
          rotate_left
          · (intro w hSw; (try dsimp only at hSw); go_simp; try (with_reducible rfl))
          try simp only [Act.put, List.setIfInBounds_toArray, List.set_cons_zero, List.set_cons_succ]
          refine wpAnyH_take (i := 10) (oi := ⟨some 33, _, _, _, _, _⟩) (v := ?_) rfl (by kernel_rfl) (by kernel_rfl) (by kernel_rfl) (fun _ _ _ h => h) (Or.inl ⟨by rfl, ?_⟩) (by assumption) ?_
          rotate_left
          · (intro w hSw; (try dsimp only at hSw); go_simp; try (with_reducible rfl))
          try simp only [Act.put, List.setIfInBounds_toArray, List.set_cons_zero, List.set_cons_succ]
          refine wpAnyH_take (i := 11) (oi := ⟨some 34, _, _, _, _, _⟩) (v := ?_) rfl (by kernel_rfl) (by kernel_rfl) (by kernel_rfl) (fun _ _ _ h => h) (Or.inl ⟨by rfl, ?_⟩) (by assumption) ?_
          rotate_left
          · (intro w hSw; (try dsimp only at hSw); go_simp; try (with_reducible rfl))
          try simp only [Act.put, List.setIfInBounds_toArray, List.set_cons_zero, List.set_cons_succ]
          refine wpAnyH_ready (rs := [12, 13]) (by kernel_rfl) (by simp) ?_
          refine AllReadyH.cons (o := ⟨some 35, _, _, _, _, _⟩) rfl (fun K hK => ?_) (AllReadyH.cons (o := ⟨some 6, _, _, _, _, _⟩) rfl (fun K hK => ?_) AllReadyH.nil)
          · go_simp
            go_at_call 43
            refine (ha w7 (HRow.out)).mono ?_
            rintro e w8 ⟨rfl, hbc⟩
            unfold cev
            go_wp2_with fail
            refine hK.out _ _ ((hA1.out.next hbc).held (hT1.out.next hbc) HLk.out) (fun hHeld => ?_)
            clear hK K
            refine wpAnyH_ready (rs := [13]) (by kernel_rfl) (by simp) ?_
            refine AllReadyH.cons (o := ⟨some 6, _, _, _, _, _⟩) rfl (fun K hK => ?_) AllReadyH.nil
            have hbF := bt hbc (_root_.Go.Proofs.Ytoaagemofjddiaa.bl w8 (.cells #[.int .i16 0, .int .i16 0, .int .i64 0] 38))
            have hbz := hbc.size
            go_simp
            refine hK.out _ _ ((hA1.out.next hbF).held (hT1.out.next hbF) HLk.out) (fun hHeld => ?_)
            clear hK K
            clear hbF
            have hbF := Lib.hid (bt hbc (_root_.Go.Proofs.Ytoaagemofjddiaa.bl w8 (.cells (cec ce).toArray 38)))
            refine wpAnyH_done (by kernel_rfl) ?_ _
            change wpList _ _ _ _ _ _
            go_wp2_with fail
            go_meet
            exact ⟨w8.heap.size, rfl, ⟨hA1.out.next hbF.out, hT1.out.next hbF.out, hW1.out.next hbF.out, Blk.mk w8 38 (cec ce)⟩, hJ pre w7 _ none hJ1.out (only_below hbF.out none) (fun r e => by cases e)⟩
          · have hb0 := _root_.Go.Proofs.Ytoaagemofjddiaa.bl w7 (.cells #[.int .i16 0, .int .i16 0, .int .i64 0] 38)
            go_simp
            refine hK.out _ _ ((hA1.out.next hb0).held (hT1.out.next hb0) HLk.out) (fun hHeld => ?_)
            clear hK K
            refine wpAnyH_ready (rs := [12]) (by kernel_rfl) (by simp) ?_
            refine AllReadyH.cons (o := ⟨some 35, _, _, _, _, _⟩) rfl (fun K hK => ?_) AllReadyH.nil
            go_simp
            go_at_call 43
            refine (ha _ (HRow.out.next hb0)).mono ?_
            rintro e w8 ⟨rfl, hbc⟩
            unfold cev
            go_wp2_with fail
            have hbF := bt hb0 hbc
            have hC := (Blk.mk w7 38 (cec zc)).next hbc
            refine hK.out _ _ ((hA1.out.next hbF).held (hT1.out.next hbF) HLk.out) (fun hHeld => ?_)
            clear hK K
            refine wpAnyH_done (by kernel_rfl) ?_ _
            change wpList _ _ _ _ _ _
            have hC := hC
            have q0 := hC.cell 0
            have q1 := hC.cell 1
            have q2 := hC.cell 2
            simp only [cec, zc, List.getElem?_cons_zero, List.getElem?_cons_succ] at q0 q1 q2
            have f0 := hC.free 0
            have f1 := hC.free 1
            have f2 := hC.free 2
            have hC2 := Lib.hid (((hC.put 0 (.int .i16 ce.lo)).put 1 (.int .i16 ce.hi)).put 2 (.int .i64 (ce.n : Int)))
            have hF := Lib.hid (((hbF.setCell (p := ⟨w7.heap.size, 0, Option.none⟩) (by show w7.heap.size ≤ w7.heap.size; omega) (.int .i16 ce.lo)).setCell (p := ⟨w7.heap.size, 1, Option.none⟩) (by show w7.heap.size ≤ w7.heap.size; omega) (.int .i16 ce.hi)).setCell (p := ⟨w7.heap.size, 2, Option.none⟩) (by show w7.heap.size ≤ w7.heap.size; omega) (.int .i64 (ce.n : Int)))
            clear hC hbF
            go_wp2_with fail
            go_meet
            exact ⟨w7.heap.size, rfl, ⟨hA1.out.next hF.out, hT1.out.next hF.out, hW1.out.next hF.out, hC2.out⟩, hJ pre w7 _ none hJ1.out (only_below hF.out none) (fun r e => by cases e)⟩
        case rest =>
        clear hJ1 hA1 hT1 hW1 HRow ha HHeld
        obtain ⟨g6, rfl, hCS, hJs⟩ := hcut
        have k1 := hCS.cell.cell 1
        have k2 := hCS.cell.cell 2
        simp only [cec, List.getElem?_cons_zero, List.getElem?_cons_succ] at k1 k2
        have kz := hCS.ai.zb
        have t0 := hCS.place.cell 0
        have t1 := hCS.place.cell 1
        have t2 := hCS.place.cell 2
        simp only [plc, List.getElem?_cons_zero, List.getElem?_cons_succ] at t0 t1 t2
        have kb := hCS.ai.pb
        have HC := Lib.hid hCS
        have HJ := Lib.hid hJs
        clear hCS
        by_cases hn0 : ce.n = 0
        · have z0 : ((ce.n : Int) == 0) = true := by rw [beq_iff_eq]; omega
          go_wp2
          go_roundg (wt tail)
          case measure => have := Hg.out; have := HWtc.out; omega
          case rel =>
            have hsk : abvP W H z over p = [] := abvP_skip (by rw [← HCe.out]; unfold skips; rw [Bool.or_eq_true, decide_eq_true_eq, decide_eq_true_eq]; first | exact .inl hn0 | exact .inr hh)
            exact ⟨tail, pre, rfl, by (have := Hwt.out; have := HWtc.out; omega), HC.out.wait, by rw [HPre.out, List.flatMap_cons, hsk, List.nil_append], (fun q hq => HOk.out q (List.mem_cons_of_mem _ hq)), HJ.out, HC.out.ai⟩
        · have z0 : ((ce.n : Int) == 0) = false := by rw [beq_eq_false_iff_ne]; omega
          by_cases hh : ce.hi ≤ over
          · have z1 : decide (ce.hi ≤ over) = true := decide_eq_true hh
            go_wp2
            go_roundg (wt tail)
            case measure => have := Hg.out; have := HWtc.out; omega
            case rel =>
              have hsk : abvP W H z over p = [] := abvP_skip (by rw [← HCe.out]; unfold skips; rw [Bool.or_eq_true, decide_eq_true_eq, decide_eq_true_eq]; first | exact .inl hn0 | exact .inr hh)
              exact ⟨tail, pre, rfl, by (have := Hwt.out; have := HWtc.out; omega), HC.out.wait, by rw [HPre.out, List.flatMap_cons, hsk, List.nil_append], (fun q hq => HOk.out q (List.mem_cons_of_mem _ hq)), HJ.out, HC.out.ai⟩
          · have z1 : decide (ce.hi ≤ over) = false := decide_eq_false hh
            have hns : skips over (cellOf W H z p) = false := by rw [← HCe.out]; unfold skips; rw [Bool.or_eq_false_iff, decide_eq_false_iff_not, decide_eq_false_iff_not]; exact ⟨hn0, hh⟩
            have HNs := Lib.hid hns
            clear hns
            by_cases hp0 : p.n = 0
            · have z2 : ((p.n : Int) == 0) = true := by rw [beq_iff_eq]; omega
              have hone := abvP_one HNs.out hp0
              have hall2 : all = (pre ++ [(p.x, p.y)]) ++ tail.flatMap (abvP W H z over) := by rw [HPre.out, List.flatMap_cons, hone, List.append_assoc]
              have hlt2 : pre.length < all.length := by rw [hall2]; simp
              have HAll2 := Lib.hid hall2
              clear hone hall2
              obtain ⟨fn, tmps, assign, body, hy, hR⟩ := hY pre (p.x, p.y) wc HJ.out hlt2
              dsimp only [encX] at hy
              go_upto_region 7 with fail
              refine (wpIn_wide (n := n)).1 ?_
              gi_wp2_with fail
              first | refine hR.mono ?_ | refine ⟨(fun h => by cases h), hR.mono ?_⟩ | refine ⟨(fun h => hn), hR.mono ?_⟩
              rintro e W3 (⟨rfl, hJ3, hk3⟩ | ⟨rfl, hJx3⟩)
              · have HA3 := Lib.hid (HC.out.ai.kp ht hk3)
                have HW3 := Lib.hid (HC.out.wait.kp htb hk3)
                have HJ3 := Lib.hid hJ3
                clear hk3 hJ3 hR hy
                gi_wp2
                go_wp2
                go_roundg (wt tail)
                case measure => have := Hg.out; have := HWtc.out; omega
                case rel => exact ⟨tail, pre ++ [(p.x, p.y)], rfl, by (have := Hwt.out; have := HWtc.out; omega), HW3.out, HAll2.out, (fun q hq => HOk.out q (List.mem_cons_of_mem _ hq)), HJ3.out, HA3.out⟩
              · clear hR hy
                have HJx := Lib.hid hJx3
                clear hJx3
                gi_wp2
                go_wp2
                refine bodyPost_ret (results_none rfl _ _ _) rfl ?_
                exact ⟨⟨_, rfl⟩, .inr ⟨pre ++ [(p.x, p.y)], ⟨tail.flatMap (abvP W H z over), HAll2.out.symm⟩, HJx.out⟩⟩
            · have z2 : ((p.n : Int) == 0) = false := by rw [beq_eq_false_iff_ne]; omega
              have hp1 : 0 < p.n := by omega
              have hdeep := abvP_deep HNs.out hp1
              have hall2 : all = pre ++ (subs W H p ++ tail).flatMap (abvP W H z over) := by rw [HPre.out, List.flatMap_cons, hdeep, List.flatMap_append]
              have hbe := below_any HC.out.ai.ps HI.out p hp1 hnl (by have := hokp.x; have := side_self2 W p.n; omega) (by have := hokp.y; have := side_self2 H p.n; omega) (by omega) (by omega) (by omega)
              have hsl := subs_len W H p
              have hsw := wt_subs W H p hp1
              have hsok : ∀ q ∈ subs W H p, Ok W H q ∧ q.n ≤ top := fun q hq => ⟨(subs_ok hq).1, by have := (subs_ok hq).2; omega⟩
              generalize subs W H p = u at *
              have HAll2 := Lib.hid hall2
              have HSok := Lib.hid hsok
              obtain ⟨A4, c4, rfl, ha1, ha2, ha3, ha4⟩ := HC.out.wait.v
              clear hdeep hall2 hsok
              go_wp2_with fail
              refine hbe.mono ?_
              rintro e w7 ⟨v7, rfl, ho7, hb7⟩
              have HR4 := Lib.hid (ha4.next hb7)
              have HO7 := Lib.hid ho7
              have HB7 := Lib.hid hb7
              have hl7' : (tail.flatMap plc).length = tail.length * 3 := flatMap_len plc 3 plc_len tail
              have hbz := hb7.size
              clear ho7 hbe ha4 hb7
              go_wp2_with (at_builtin; refine wpList_append_mine rfl (.tmp 57) (.tmp 58) 105 rfl wc.heap.size 104 i0 _ 3 24 Try.underlying105 hi0 hz0 hz1 hz2 rfl (by decide) v7 u.length (u.flatMap plc) rfl HO7.out A4 tail.length c4 (tail.flatMap plc) rfl hl7' ha3 HR4.out.news (plc_one tail) (by simp only [maxLen]; omega) (by omega) (by omega) ?_; intro v2 w8 hown hgrow hwh; have hbF : Below wc.heap.size wc w8 := HB7.out.grown hgrow hbz (fun k hk => own_ge HO7.out k hk); have HBF := Lib.hid hbF; have HWF := Lib.hid (Wt.own (B := w.heap.size) (wait := u ++ tail) (by rw [List.length_append, List.flatMap_append]; exact hown) (by have := HC.out.wait.sz; omega) (by have := HC.out.wait.sz; have := hbF.size; omega)); clear hown hgrow hwh hbF)
              go_roundg (wt (u ++ tail))
              case measure => rw [wt_append]; have := Hg.out; have := HWtc.out; omega
              case rel =>
                exact ⟨u ++ tail, pre, rfl, by (rw [wt_append]; have := Hwt.out; have := HWtc.out; omega), HWF.out, HAll2.out, (fun q hq => by
                  rcases List.mem_append.1 hq with h | h
                  · exact HSok.out q h
                  · exact HOk.out q (List.mem_cons_of_mem _ h)), hJ pre wc _ none HJ.out (only_below HBF.out none) (fun r e => by cases e), HC.out.ai.next HBF.out⟩
/-- Above: the pyramid and the height are boxed; the function value captures the boxes. -/
theorem above_any (bp : Nat) (over : Int) (w : World) :
    Calls Try.prog 27 #[.pointer (some ⟨bp, 0, Option.none⟩), .int .i16 over] w fun e w' => e = .returned (.func (.func 51) #[] #[.pointer (some ⟨w.heap.size, 0, Option.none⟩), .pointer (some ⟨w.heap.size + 1, 0, Option.none⟩)]) ∧ (w.alloc (.cells #[.pointer (some ⟨bp, 0, Option.none⟩)] 26)).alloc (.cells #[.int .i16 over] 36) = w' := by
  go_enter Try.func27, Try.ntmps27
  go_wp2_with fail
  go_ret
  exact ⟨rfl, rfl⟩
theorem AI.start {w : World} {bp bl cl seen : Nat} {lvs : List Lv} (S : PS w bp bl cl lvs seen) (over : Int) : AI w.heap.size (w.heap.size + 1) bp bl cl seen lvs over ((w.alloc (.cells #[.pointer (some ⟨bp, 0, Option.none⟩)] 26)).alloc (.cells #[.int .i16 over] 36)) := by
  have k1 := (Blk.mk w 26 [.pointer (some ⟨bp, 0, Option.none⟩)]).alloc (.cells #[.int .i16 over] 36)
  have k2 := Blk.mk (w.alloc (.cells #[.pointer (some ⟨bp, 0, Option.none⟩)] 26)) 36 [.int .i16 over]
  simp only [World.size_alloc] at k2
  exact ⟨k1.cell 0, k2.cell 0, (S.next (_root_.Go.Proofs.Ytoaagemofjddiaa.bl _ _)).next (_root_.Go.Proofs.Ytoaagemofjddiaa.bl _ _)⟩
theorem above_stops (n : Nat) (hn : 1 ≤ n) {W H top : Nat} {z : Nat → Int} {bo zb bp bl cl seen tb : Nat} {lvs : List Lv} {over : Int} (hI : IsLv W H z lvs) (hT : IsTop W H top) (hlen : lvs.length = top + 1) (hW : 0 < W) (hH : 0 < H) (hW2 : W ≤ 256) (hH2 : H ≤ 256)
    (w : World) (ht : Away tb bo zb bp bl lvs) (htb : tb < w.heap.size) (hai : AI bo zb bp bl cl seen lvs over w) :
    SeqStopsK Fence.wide n Try.prog 51 #[.pointer (some ⟨bo, 0, none⟩), .pointer (some ⟨zb, 0, none⟩)] encX (Kp tb) (fun ys => ys = abvP W H z over ⟨top, 0, 0⟩) (fun pre => pre <+: abvP W H z over ⟨top, 0, 0⟩) (abvP W H z over ⟨top, 0, 0⟩).length w := fun l J Jx W' hW' hJ _ hY h0 =>
  above1_in n hn l hI hT hlen hW hH hW2 hH2 J Jx W' ht (Nat.lt_of_lt_of_le htb hW'.size) hJ hY (hai.next hW') h0
/-- the temporaries behind the assignment to the loop's left sides -/
def TX (a : Act) (q1 q2 s1 s2 : Tmp) (x : Nat × Nat) : Act := { tmps := (((a.tmps.setIfInBounds q1 (.int .i64 (x.1 : Int))).setIfInBounds q2 (.int .i64 (x.2 : Int))).setIfInBounds s1 (.int .i64 (x.1 : Int))).setIfInBounds s2 (.int .i64 (x.2 : Int)), defers := [] }
theorem range_above {g : Operand} {q1 q2 s1 s2 : Tmp} {assign body : Code} {Q : Exit → Act → World → Prop} {a : Act} {W0 : World} {W H top : Nat} {z : Nat → Int} {bo zb bp bl cl seen tb : Nat} {lvs : List Lv} {over : Int}
    (hg : a.eval g = .func (.func 51) #[] #[.pointer (some ⟨bo, 0, none⟩), .pointer (some ⟨zb, 0, none⟩)]) (hI : IsLv W H z lvs) (hT : IsTop W H top) (hlen : lvs.length = top + 1) (hW : 0 < W) (hH : 0 < H) (hW2 : W ≤ 256) (hH2 : H ≤ 256)
    (ht : Away tb bo zb bp bl lvs) (htb : tb < W0.heap.size) (hai : AI bo zb bp bl cl seen lvs over W0)
    (I : List (Nat × Nat) → World → Prop) (Ix : Code → List (Nat × Nat) → World → Prop) (hOI : OwnFrom W0.heap.size I) (hIx : ∀ c, OwnFrom W0.heap.size (Ix c)) (h0 : I [] W0)
    (hassign : ∀ (l : Nat) (x : Nat × Nat) (W' : World) (K : Act → World → Prop), K (TX a q1 q2 s1 s2 x) W' →
      assign.wpIn (Fence.wide.inRound l) 7 Try.prog (Exit.then K (fun _ _ _ => False)) { tmps := (a.tmps.setIfInBounds q1 (.int .i64 (x.1 : Int))).setIfInBounds q2 (.int .i64 (x.2 : Int)), defers := [] } W')
    (hbody : ∀ (l : Nat) (pre : List (Nat × Nat)) (x : Nat × Nat) (W' : World), W0.heap.size ≤ l → I pre W' → pre.length < (abvP W H z over ⟨top, 0, 0⟩).length →
      body.wpIn (Fence.wide.inRound l) 7 Try.prog (ownPostG W0.heap.size (Kp tb) I Ix (pre ++ [x]) W') (TX a q1 q2 s1 s2 x) W')
    (hdone : ∀ (D : Nat) (W' : World), W0.heap.size ≤ D → I (abvP W H z over ⟨top, 0, 0⟩) W' → W'.heap[D]? = some (.deferred (some [])) → Q .normal { a with defers := { target := .collected D, args := #[] } :: a.defers } W')
    (hstop : ∀ (D : Nat) (c : Code) (pre : List (Nat × Nat)) (W' : World), W0.heap.size ≤ D → pre <+: abvP W H z over ⟨top, 0, 0⟩ → Ix c pre W' → W'.heap[D]? = some (.deferred (some [])) → c.wp Try.prog Q { a with defers := { target := .collected D, args := #[] } :: a.defers } W') :
    (Code.rangeFunc g #[q1, q2] assign body).wp Try.prog Q a W0 := by
  refine (wpIn_wide (n := 9)).1 ?_
  refine wpIn_rangeFunc_ownH rfl (by decide) (gf := 51) (lb := #[.pointer (some ⟨bo, 0, none⟩), .pointer (some ⟨zb, 0, none⟩)]) hg trivial (enters_of Try.func51 (by kernel_rfl) rfl)
    (above_stops 8 (by decide) hI hT hlen hW hH hW2 hH2 W0 ht htb hai) (fun h k => h.trans k) (fun W l o o' _ hl ho _ => Kp.putObj tb W l o o' hl ho) (Below.refl _ _) (fun _ => rfl) I Ix hOI hIx h0
    (fun x a' W => a' = TX a q1 q2 s1 s2 x) ?_ ?_ ?_ ?_ ?_
  · intro x a' s A' B' row hs hgr hr
    exact hs
  · intro l pre x W' K hi hK
    have e : ((#[q1, q2] : Array Tmp).zip (encX x)).foldl (fun t (pv : Tmp × Value) => t.setIfInBounds pv.1 pv.2) a.tmps = (a.tmps.setIfInBounds q1 (.int .i64 (x.1 : Int))).setIfInBounds q2 (.int .i64 (x.2 : Int)) := by simp [encX]
    have e2 := hassign l x W' K (hK _ _ (KeepsOthers.refl W' |>.from _) ⟨Nat.le_refl _, fun _ _ _ h _ => h⟩ hi rfl)
    rw [← e] at e2
    exact e2
  · rintro l pre x a' W' hl' _ hi rfl hlen'
    exact hbody l pre x W' hl' hi hlen'
  · rintro D xs W' hD rfl hi hK
    exact hdone D W' hD hi hK
  · rintro D c pre W' hD hpre hi hK
    exact (wpIn_wide (n := 9)).2 (hstop D c pre W' hD hpre hi hK)
end Pyr
end Go.Proofs.Ytoaagemofjddiaa
