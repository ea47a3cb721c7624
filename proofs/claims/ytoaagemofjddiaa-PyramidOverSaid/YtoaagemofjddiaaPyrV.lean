/-
  The walk of package pyramid's Over: what all heights of a box are together.
-/
import Derived.Test.YtoaagemofjddiaaPyrO
namespace Go.Proofs.Ytoaagemofjddiaa
open Go.RowKit
set_option linter.unusedVariables false
namespace Pyr

/-- what all heights of a box are together -/
def overC (W H : Nat) (z : Nat → Int) (b : Bo) : Ce := ofF z (fun i => nv z i && meant W b i) (W * H)
def GotOver (w : World) (W H : Nat) (z : Nat → Int) (b : Bo) (bp bl cl top : Nat) (lvs : List Lv) (e : Ending) (w' : World) : Prop :=
  e = .returned (cev (overC W H z b)) ∧ PS w' bp bl cl lvs (visP W H b ⟨top, 0, 0⟩) ∧ w.grownBy w' (some bp)
theorem over_end {W H : Nat} {z : Nat → Int} {b : Bo} {top : Nat} {out : Ce} (h : OverI W H z b top out []) : out = overC W H z b :=
  (h.is.congr (fun i _ => by simp)).eq (ofF_is z _ (W * H))
theorem OV.held {w wr : World} {b : Bo} {bp bl cl sn g : Nat} {lvs : List Lv} {out : Ce} {wait : List Pl} {v : Value} {p : Pl} {l : Lv} (S : OV w b bp bl cl sn lvs out wait v wr) (T : Blk wr g 104 (plc p)) (h : lvs[p.n]? = some l) :
    wr.cell? ⟨bp, 0, Option.none⟩ = some (.slice (some ⟨bl, 0, Option.none⟩) lvs.length cl) ∧ wr.cell? ⟨bl, p.n * 3, Option.none⟩ = some (.int .i64 (l.wd : Int)) ∧ wr.cell? ⟨bl, p.n * 3 + 1, Option.none⟩ = some (.int .i64 (l.h : Int)) ∧ wr.cell? ⟨bl, p.n * 3 + 2, Option.none⟩ = some (.slice (some ⟨l.b, 0, Option.none⟩) l.L.length l.cap) ∧ wr.cell? ⟨g, 0, Option.none⟩ = some (.int .i64 (p.n : Int)) ∧ wr.cell? ⟨g, 1, Option.none⟩ = some (.int .i64 (p.x : Int)) ∧ wr.cell? ⟨g, 2, Option.none⟩ = some (.int .i64 (p.y : Int)) ∧ wr.cell? ⟨w.heap.size + 1 + 1, 0, Option.none⟩ = some (.int .i16 out.lo) ∧ wr.cell? ⟨w.heap.size + 1 + 1, 1, Option.none⟩ = some (.int .i16 out.hi) ∧ wr.cell? ⟨w.heap.size + 1 + 1, 2, Option.none⟩ = some (.int .i64 (out.n : Int)) := by
  obtain ⟨l0, l1, l2⟩ := S.ps.lev h
  exact ⟨S.ps.p0, l0, l1, l2, T.cell 0, T.cell 1, T.cell 2, S.out.cell 0, S.out.cell 1, S.out.cell 2⟩
theorem joins_two (a b : Ce) (ha : a.n = 0 → a = zc) : joins [a, b] = join a b := by
  show join (join zc a) b = _
  rw [none_join a ha]
set_option maxRecDepth 100000 in
set_option maxHeartbeats 4000000 in
theorem over_any {w : World} {bp bl cl seen : Nat} {lvs : List Lv} (S : PS w bp bl cl lvs seen) {W H top : Nat} {z : Nat → Int} (hI : IsLv W H z lvs) (hT : IsTop W H top) (hlen : lvs.length = top + 1) (b : Bo) (hW : 0 < W) (hH : 0 < H) (hW2 : W ≤ 256) (hH2 : H ≤ 256) :
    Calls Try.prog 22 #[.pointer (some ⟨bp, 0, Option.none⟩), bov b] w (GotOver w W H z b bp bl cl top lvs) := by
  obtain ⟨i0, hi0, hz0, hz1, hz2⟩ := info_parts infoPlace
  have htop := hT.le hW2 hH2
  have hLpos : ∀ l ∈ lvs, 0 < l.L.length := fun l hl => by
    obtain ⟨k, hk, rfl⟩ := List.getElem_of_mem hl
    rw [hI.L k hk, lev_len]
    exact Nat.mul_pos (side_pos hW k) (side_pos hH k)
  obtain ⟨hbl, hlb⟩ := S.apart_new (by omega) hLpos
  have hbp := S.blk.lt
  have hl0 : lvs[0]? = some lvs[0] := List.getElem?_eq_getElem (by omega)
  have hw0 : lvs[0].wd = W := hI.wd 0 (by omega)
  have hh0 : lvs[0].h = H := hI.h 0 (by omega)
  generalize lvs[0] = lv0 at *
  have HI := Lib.hid hI
  have HT := Lib.hid hT
  have HLb := Lib.hid hlb
  have HL0 := Lib.hid hl0
  have HW0 := Lib.hid hw0
  have HH0 := Lib.hid hh0
  have hlenI : (lvs.length : Int) = (top : Int) + 1 := by omega
  have HLen := Lib.hid hlen
  have hO0 : OV w b bp bl cl 0 lvs zc [⟨top, 0, 0⟩] (.slice (some ⟨w.heap.size + 1 + 1 + 1, 0, Option.none⟩) 1 1) (((((w.setCell ⟨bp, 1, Option.none⟩ (.int .i64 0)).alloc (.cells (boc b).toArray 46)).alloc (.cells (cec zc).toArray 38)).alloc (.cells (cec zc).toArray 38)).alloc (.cells (plc ⟨top, 0, 0⟩).toArray 104)) := OV.start S b ⟨top, 0, 0⟩
  have HO0 := Lib.hid hO0
  have e0 := S.p0
  have e1 := S.p1
  have f1 := S.blk.free 1
  have HS := Lib.hid S
  clear S hI hT hLpos hlb hl0 hw0 hh0 hO0 hlen
  have ne1 : ¬ bp = w.heap.size := by omega
  have ne2 : ¬ bp = w.heap.size + 1 := by omega
  have ne3 : ¬ bp = w.heap.size + 1 + 1 := by omega
  have lt2 : bp < w.heap.size + 1 := by omega
  have lt3 : bp < w.heap.size + 1 + 1 := by omega
  unfold bov
  go_enter Try.func22, Try.ntmps22
  go_wp2
  go_step3
  go_wp2
  go_step3
  go_wp2
  clear e0 e1 f1 ne1 ne2 ne3 lt2 lt3
  go_loopg [6] (wt [⟨top, 0, 0⟩]) (fun g v wr => ∃ (out : Ce) (wait : List Pl) (sn : Nat), g = wt wait ∧ OV w b bp bl cl sn lvs out wait v wr ∧ OverI W H z b top out wait ∧ wt wait ≤ 390625 ∧ sn + (wait.map (visP W H b)).sum = visP W H b ⟨top, 0, 0⟩)
  case atStart => exact ⟨zc, [⟨top, 0, 0⟩], 0, rfl, HO0.out, OverI.start hW hH HT.out.w HT.out.h, by (have := Nat.pow_le_pow_right (n := 5) (by decide) htop); simpa [wt] using this, by simp⟩
  case round =>
    clear HO0
    obtain ⟨out, wait, sn, hg, SO, SI, hwt, hsum⟩ := hrel
    rcases List.eq_nil_or_concat wait with rfl | ⟨init, p, rfl⟩
    · have hov := over_end SI
      have hsn : sn = visP W H b ⟨top, 0, 0⟩ := by simpa using hsum
      obtain ⟨Av, cv, rfl, _, _, _, _⟩ := own_rd SO.own
      have r0 := SO.res.free 0
      have r1 := SO.res.free 1
      have r2 := SO.res.free 2
      have q0 : wr.cell? ⟨w.heap.size + 1, 0, Option.none⟩ = some (.int .i16 0) := SO.res.cell 0
      have q1 : wr.cell? ⟨w.heap.size + 1, 1, Option.none⟩ = some (.int .i16 0) := SO.res.cell 1
      have q2 : wr.cell? ⟨w.heap.size + 1, 2, Option.none⟩ = some (.int .i64 0) := SO.res.cell 2
      have o0 : wr.cell? ⟨w.heap.size + 1 + 1, 0, Option.none⟩ = some (.int .i16 out.lo) := SO.out.cell 0
      have o1 : wr.cell? ⟨w.heap.size + 1 + 1, 1, Option.none⟩ = some (.int .i16 out.hi) := SO.out.cell 1
      have o2 : wr.cell? ⟨w.heap.size + 1 + 1, 2, Option.none⟩ = some (.int .i64 (out.n : Int)) := SO.out.cell 2
      have HOv := Lib.hid hov
      have HSn := Lib.hid hsn
      have HSO := Lib.hid SO
      clear hov hsn SO SI hsum hg
      go_wp2
      rw [Exit.noGoto_ret]
      refine bodyPost_ret (v := cev out) (by simp [results, Try.results22, go_sem, cev, q0, q1, q2]) rfl ?_
      unfold GotOver
      rw [← HOv.out, ← HSn.out]
      have hk := HSO.out.keep
      have hne : ∀ (X : World) (i : Nat) (u : Value), w.grownBy X (some bp) → w.grownBy (X.setCell ⟨w.heap.size + 1, i, Option.none⟩ u) (some bp) := fun X i u h =>
        ⟨h.os, h.tape, h.output, by simpa using h.size, fun j hj hr => (Below.heap_setCell X ⟨w.heap.size + 1, i, Option.none⟩ u j (by show j ≠ w.heap.size + 1; omega)).trans (h.block j hj hr)⟩
      have nb : w.heap.size + 1 ≠ bp := by omega
      have nl : w.heap.size + 1 ≠ bl := by omega
      have nr : ∀ l ∈ lvs, w.heap.size + 1 ≠ l.b := fun l hl => by have := HLb.out l hl; omega
      exact ⟨rfl, ((HSO.out.ps.far nb nl nr _).far nb nl nr _).far nb nl nr _, hne _ _ _ (hne _ _ _ (hne _ _ _ hk))⟩
    · simp only [List.concat_eq_append] at hg SO SI hsum
      rw [wt_snoc] at hg
      have hsum' : sn + (init.map (visP W H b)).sum + visP W H b p = visP W H b ⟨top, 0, 0⟩ := by
        rw [List.map_append, List.sum_append] at hsum
        simp at hsum
        omega
      have hvt : visP W H b ⟨top, 0, 0⟩ ≤ 390625 := Nat.le_trans (vis_le W H b top 0 0) (Nat.pow_le_pow_right (by decide) htop)
      have hvp : 1 ≤ visP W H b p := by
        cases hpp : partly W H b p with
        | false => rw [visP_leaf hpp]; exact Nat.le_refl _
        | true =>
          rcases Nat.eq_zero_or_pos p.n with h0 | h0
          · obtain ⟨n, x, y⟩ := p
            obtain rfl : n = 0 := h0
            exact Nat.le_refl _
          · rw [visP_deep h0 hpp]; omega
      obtain ⟨hok, hpn⟩ := SI.ok p (List.mem_append_right _ (List.mem_singleton.2 rfl))
      obtain ⟨g, cap, rfl, hg1, hg2, hg3, hg4⟩ := own_block SO.own (by simp)
      have hlen2 : (init ++ [p]).length = init.length + 1 := by simp
      rw [hlen2] at SO hg3 ⊢
      have hc := hg4.elem plc 3 plc_len (i := init.length) (by simp)
      have hpe : (init ++ [p])[init.length]'(by simp) = p := by simp
      rw [hpe] at hc
      simp only [Nat.zero_add] at hc
      have c0 : wr.cell? ⟨g, init.length * 3, Option.none⟩ = some (.int .i64 (p.n : Int)) := hc 0 _ (by decide) rfl
      have c1 : wr.cell? ⟨g, init.length * 3 + 1, Option.none⟩ = some (.int .i64 (p.x : Int)) := hc 1 _ (by decide) rfl
      have c2 : wr.cell? ⟨g, init.length * 3 + 2, Option.none⟩ = some (.int .i64 (p.y : Int)) := hc 2 _ (by decide) rfl
      have e1 := SO.ps.p1
      have f1 := SO.ps.blk.free 1
      have hbw := SO.ps.blk.lt
      have S1 := ((SO.pop rfl).see hbp (sn + 1))
      have s1c : ((sn + 1 : Nat) : Int) = (sn : Int) + 1 := by omega
      rw [s1c] at S1
      have S2 := S1.next (_root_.Go.Proofs.Ytoaagemofjddiaa.bl _ (.cells (plc p).toArray 104))
      have T2 := Blk.mk (wr.setCell ⟨bp, 1, Option.none⟩ (.int .i64 ((sn : Int) + 1))) 104 (plc p)
      have hwle : init.length ≤ 390625 := by
        have := wt_len init
        have := Nat.one_le_pow p.n 5 (by decide)
        rw [List.concat_eq_append, wt_snoc] at hwt
        omega
      have hsnl : (sn : Int) ≤ 390625 := by omega
      have sq := fun X (P : PS X bp bl cl lvs (sn + 1)) => square_any P HL0.out p (by omega) (by have := hok.x; have := side_self2 W p.n; omega) (by have := hok.y; have := side_self2 H p.n; omega) (by rw [HW0.out]; omega) (by rw [HH0.out]; omega)
      rw [HW0.out, HH0.out] at sq
      have HS2 := Lib.hid S2
      have HT2 := Lib.hid T2
      have HSI := Lib.hid SI
      have Hg := Lib.hid hg
      have Hsum := Lib.hid hsum'
      clear SO SI S1 S2 T2 hg hsum hsum' hc hpe hlen2 s1c hg4
      go_wp2_with fail
      refine (sq _ HS2.out.ps).mono ?_
      rintro e w3 ⟨rfl, hb3⟩
      have S3 := HS2.out.next hb3
      have T3 := HT2.out.next hb3
      obtain ⟨s, hs⟩ : ∃ s, s = square W H p := ⟨_, rfl⟩
      rw [← hs]
      have HSq := Lib.hid hs
      have S4 := S3.next (_root_.Go.Proofs.Ytoaagemofjddiaa.bl w3 (.cells (boc s).toArray 46))
      have T4 := T3.next (_root_.Go.Proofs.Ytoaagemofjddiaa.bl w3 (.cells (boc s).toArray 46))
      have B4 := Blk.mk w3 46 (boc s)
      rw [show (wr.setCell ⟨bp, 1, Option.none⟩ (.int .i64 ((sn : Int) + 1))).heap.size = wr.heap.size by simp] at T4
      have b0 := S4.box.cell 0
      have b1 := S4.box.cell 1
      have b2 := S4.box.cell 2
      have b3 := S4.box.cell 3
      have s0 := B4.cell 0
      have s1 := B4.cell 1
      have s2 := B4.cell 2
      have s3 := B4.cell 3
      simp only [boc, List.getElem?_cons_zero, List.getElem?_cons_succ] at b0 b1 b2 b3 s0 s1 s2 s3
      have HS4 := Lib.hid S4
      have HT4 := Lib.hid T4
      have HB4 := Lib.hid B4
      clear S3 T3 S4 T4 B4 hb3 hs sq c0 c1 c2 e1 f1 HS2 HT2
      unfold bov
      go_wp2_with fail
      refine (apart_any s b _).mono ?_
      rintro e w5 ⟨he, hb5⟩
      have S5 := HS4.out.next hb5
      have T5 := HT4.out.next hb5
      have B5 := HB4.out.next hb5
      have HS5 := Lib.hid S5
      have HT5 := Lib.hid T5
      have HB5 := Lib.hid B5
      clear S5 T5 B5 b0 b1 b2 b3 s0 s1 s2 s3 hb5 HS4 HT4 HB4
      cases hap : apart s b with
      | true =>
        have HAp := Lib.hid hap
        subst he
        rw [hap]
        clear hap
        go_wp2
        go_roundg (wt init)
        case measure =>
          have := Nat.one_le_pow p.n 5 (by decide)
          have := Hg.out
          omega
        case rel =>
          have hpl : visP W H b p = 1 := visP_leaf (by unfold partly; rw [← HSq.out, HAp.out]; rfl)
          have := Hsum.out
          exact ⟨out, init, sn + 1, rfl, HS5.out, HSI.out.apart (by rw [← HSq.out]; exact HAp.out), by (have := Hg.out; have := Nat.one_le_pow p.n 5 (by decide); rw [List.concat_eq_append, wt_snoc] at hwt; omega), by omega⟩
      | false =>
        have HAp := Lib.hid hap
        subst he
        rw [hap]
        clear hap
        have b0 := HS5.out.box.cell 0
        have b1 := HS5.out.box.cell 1
        have b2 := HS5.out.box.cell 2
        have b3 := HS5.out.box.cell 3
        have s0 := HB5.out.cell 0
        have s1 := HB5.out.cell 1
        have s2 := HB5.out.cell 2
        have s3 := HB5.out.cell 3
        simp only [boc, List.getElem?_cons_zero, List.getElem?_cons_succ] at b0 b1 b2 b3 s0 s1 s2 s3
        go_wp2_with fail
        refine (inside_any s b _).mono ?_
        rintro e w6 ⟨he, hb6⟩
        have S6 := HS5.out.next hb6
        have T6 := HT5.out.next hb6
        have HS6 := Lib.hid S6
        have HT6 := Lib.hid T6
        have t0 := T6.cell 0
        have t1 := T6.cell 1
        have t2 := T6.cell 2
        simp only [plc, List.getElem?_cons_zero, List.getElem?_cons_succ] at t0 t1 t2
        have e0 := S6.ps.p0
        have hnl : p.n < lvs.length := by omega
        have hnlI : (p.n : Int) < (lvs.length : Int) := by omega
        have hnlT : (p.n : Int) < (top : Int) + 1 := by omega
        clear S6 T6 b0 b1 b2 b3 s0 s1 s2 s3 hb6 HS5 HT5 HB5
        cases hin : inside s b with
        | true =>
          have HIn := Lib.hid hin
          subst he
          rw [hin]
          clear hin
          have hlk : lvs[p.n]? = some lvs[p.n] := List.getElem?_eq_getElem hnl
          have hlw := HI.out.wd p.n hnl
          have hlh := HI.out.h p.n hnl
          have hlL := HI.out.L p.n hnl
          generalize lvs[p.n] = l at *
          have hsw := side_self2 W p.n
          have hsh := side_self2 H p.n
          obtain ⟨l0, l1, l2⟩ := HS6.out.ps.lev hlk
          obtain ⟨m1, m2, m3, m4⟩ := HS6.out.ps.mem hlk
          have ha := fun X (m : RdL X l.b (l.b + 1) (some ⟨l.b, 0, Option.none⟩) (l.L.flatMap cec)) => at_any l.wd l.h p.x p.y (some ⟨l.b, 0, Option.none⟩) l.L l.L.length l.cap l.b (l.b + 1) X m rfl m4 m3 (by omega) (by omega)
          have HRow := Lib.hid m1.drew
          have ec : atL l.wd l.h l.L p.x p.y = l.L.getD (p.y * l.wd + p.x) zc := by unfold atL; rw [if_pos ⟨by rw [hlw]; exact hok.x, by rw [hlh]; exact hok.y⟩]
          have hIs := lev_is W H z p.n p.x p.y hok.x hok.y
          rw [← hlw, ← hlL, ← ec] at hIs
          generalize atL l.wd l.h l.L p.x p.y = c at *
          have HIs := Lib.hid hIs
          have HHa := ha
          have q0 := HS6.out.out.cell 0
          have q1 := HS6.out.out.cell 1
          have q2 := HS6.out.out.cell 2
          simp only [cec, List.getElem?_cons_zero, List.getElem?_cons_succ] at q0 q1 q2
          clear hlw hlh hlL m1 m2 m3 m4 ec hIs ha
          have D0 := HS6.out.drew
          have T0 := HT6.out.drew
          have HD0 := Lib.hid D0
          have HT0 := Lib.hid T0
          have hHeld0 := D0.held T0 hlk
          have HHeld := Lib.hid hHeld0
          have HLk := Lib.hid hlk
          clear hlk D0 T0 hHeld0 t0 t1 t2 e0 l0 l1 l2 q0 q1 q2 HS6 HT6
          go_wp2_with fail
          refine wp_region_any (by kernel_rfl) ?_
          change wpAny _ _ _ _ _ _ _ w6.drew
          generalize w6.drew = w7 at *
          refine wpAny_split 14 (L := #[false, false, false, false, false, false, false, false, false, false, false, false, false, false]) (f := 14) (S := fun w' => w'.cell? ⟨bp, 0, Option.none⟩ = some (.slice (some ⟨bl, 0, Option.none⟩) lvs.length cl) ∧ w'.cell? ⟨bl, p.n * 3, Option.none⟩ = some (.int .i64 (l.wd : Int)) ∧ w'.cell? ⟨bl, p.n * 3 + 1, Option.none⟩ = some (.int .i64 (l.h : Int)) ∧ w'.cell? ⟨bl, p.n * 3 + 2, Option.none⟩ = some (.slice (some ⟨l.b, 0, Option.none⟩) l.L.length l.cap) ∧ w'.cell? ⟨wr.heap.size, 0, Option.none⟩ = some (.int .i64 (p.n : Int)) ∧ w'.cell? ⟨wr.heap.size, 1, Option.none⟩ = some (.int .i64 (p.x : Int)) ∧ w'.cell? ⟨wr.heap.size, 2, Option.none⟩ = some (.int .i64 (p.y : Int)) ∧ w'.cell? ⟨w.heap.size + 1 + 1, 0, Option.none⟩ = some (.int .i16 out.lo) ∧ w'.cell? ⟨w.heap.size + 1 + 1, 1, Option.none⟩ = some (.int .i16 out.hi) ∧ w'.cell? ⟨w.heap.size + 1 + 1, 2, Option.none⟩ = some (.int .i64 (out.n : Int))) (by kernel_rfl) HHeld.out (fun hHeld => ?_)
          simp only [List.take_succ_cons, List.take_zero, List.drop_succ_cons, List.drop_zero]
          refine wpAnyH_take (i := 0) (oi := ⟨some 52, _, _, _, _, _⟩) (v := ?_) rfl (by kernel_rfl) (by kernel_rfl) (by kernel_rfl) (fun _ _ _ h => h) (Or.inl ⟨by rfl, ?_⟩) (by assumption) ?_
          rotate_left
          · (intro w hSw; (try dsimp only at hSw); go_simp; try (with_reducible rfl))
          try simp only [Act.put, List.setIfInBounds_toArray, List.set_cons_zero, List.set_cons_succ]
          refine wpAnyH_take (i := 1) (oi := ⟨some 53, _, _, _, _, _⟩) (v := ?_) rfl (by kernel_rfl) (by kernel_rfl) (by kernel_rfl) (fun _ _ _ h => h) (Or.inl ⟨by rfl, ?_⟩) (by assumption) ?_
          rotate_left
          · (intro w hSw; (try dsimp only at hSw); go_simp; try (with_reducible rfl))
          try simp only [Act.put, List.setIfInBounds_toArray, List.set_cons_zero, List.set_cons_succ]
          refine wpAnyH_take (i := 2) (oi := ⟨some 54, _, _, _, _, _⟩) (v := ?_) rfl (by kernel_rfl) (by kernel_rfl) (by kernel_rfl) (fun _ _ _ h => h) (Or.inl ⟨by rfl, ?_⟩) (by assumption) ?_
          rotate_left
          · (intro w hSw; (try dsimp only at hSw); go_simp; try (with_reducible rfl))
          try simp only [Act.put, List.setIfInBounds_toArray, List.set_cons_zero, List.set_cons_succ]
          refine wpAnyH_take (i := 3) (oi := ⟨some 55, _, _, _, _, _⟩) (v := ?_) rfl (by kernel_rfl) (by kernel_rfl) (by kernel_rfl) (fun _ _ _ h => h) (Or.inl ⟨by rfl, ?_⟩) (by assumption) ?_
          rotate_left
          · (intro w hSw; (try dsimp only at hSw); go_simp; try (with_reducible rfl))
          try simp only [Act.put, List.setIfInBounds_toArray, List.set_cons_zero, List.set_cons_succ]
          refine wpAnyH_take (i := 4) (oi := ⟨some 56, _, _, _, _, _⟩) (v := ?_) rfl (by kernel_rfl) (by kernel_rfl) (by kernel_rfl) (fun _ _ _ h => h) (Or.inl ⟨by rfl, ?_⟩) (by assumption) ?_
          rotate_left
          · (intro w hSw; (try dsimp only at hSw); go_simp; try (with_reducible rfl))
          try simp only [Act.put, List.setIfInBounds_toArray, List.set_cons_zero, List.set_cons_succ]
          refine wpAnyH_take (i := 5) (oi := ⟨some 57, _, _, _, _, _⟩) (v := ?_) rfl (by kernel_rfl) (by kernel_rfl) (by kernel_rfl) (fun _ _ _ h => h) (Or.inl ⟨by rfl, ?_⟩) (by assumption) ?_
          rotate_left
          · (intro w hSw; (try dsimp only at hSw); go_simp; try (with_reducible rfl))
          try simp only [Act.put, List.setIfInBounds_toArray, List.set_cons_zero, List.set_cons_succ]
          refine wpAnyH_take (i := 6) (oi := ⟨some 58, _, _, _, _, _⟩) (v := ?_) rfl (by kernel_rfl) (by kernel_rfl) (by kernel_rfl) (fun _ _ _ h => h) (Or.inl ⟨by rfl, ?_⟩) (by assumption) ?_
          rotate_left
          · (intro w hSw; (try dsimp only at hSw); go_simp; try (with_reducible rfl))
          try simp only [Act.put, List.setIfInBounds_toArray, List.set_cons_zero, List.set_cons_succ]
          refine wpAnyH_take (i := 7) (oi := ⟨some 59, _, _, _, _, _⟩) (v := ?_) rfl (by kernel_rfl) (by kernel_rfl) (by kernel_rfl) (fun _ _ _ h => h) (Or.inl ⟨by rfl, ?_⟩) (by assumption) ?_
          rotate_left
          · (intro w hSw; (try dsimp only at hSw); go_simp; try (with_reducible rfl))
          try simp only [Act.put, List.setIfInBounds_toArray, List.set_cons_zero, List.set_cons_succ]
          refine wpAnyH_take (i := 8) (oi := ⟨some 60, _, _, _, _, _⟩) (v := ?_) rfl (by kernel_rfl) (by kernel_rfl) (by kernel_rfl) (fun _ _ _ h => h) (Or.inl ⟨by rfl, ?_⟩) (by assumption) ?_
          rotate_left
          · (intro w hSw; (try dsimp only at hSw); go_simp; try (with_reducible rfl))
          try simp only [Act.put, List.setIfInBounds_toArray, List.set_cons_zero, List.set_cons_succ]
          refine wpAnyH_take (i := 9) (oi := ⟨some 61, _, _, _, _, _⟩) (v := ?_) rfl (by kernel_rfl) (by kernel_rfl) (by kernel_rfl) (fun _ _ _ h => h) (Or.inl ⟨by rfl, ?_⟩) (by assumption) ?_
          rotate_left
          · (intro w hSw; (try dsimp only at hSw); go_simp; try (with_reducible rfl))
          try simp only [Act.put, List.setIfInBounds_toArray, List.set_cons_zero, List.set_cons_succ]
          refine wpAnyH_take (i := 10) (oi := ⟨some 62, _, _, _, _, _⟩) (v := ?_) rfl (by kernel_rfl) (by kernel_rfl) (by kernel_rfl) (fun _ _ _ h => h) (Or.inl ⟨by rfl, ?_⟩) (by assumption) ?_
          rotate_left
          · (intro w hSw; (try dsimp only at hSw); go_simp; try (with_reducible rfl))
          try simp only [Act.put, List.setIfInBounds_toArray, List.set_cons_zero, List.set_cons_succ]
          refine wpAnyH_take (i := 11) (oi := ⟨some 63, _, _, _, _, _⟩) (v := ?_) rfl (by kernel_rfl) (by kernel_rfl) (by kernel_rfl) (fun _ _ _ h => h) (Or.inl ⟨by rfl, ?_⟩) (by assumption) ?_
          rotate_left
          · (intro w hSw; (try dsimp only at hSw); go_simp; try (with_reducible rfl))
          try simp only [Act.put, List.setIfInBounds_toArray, List.set_cons_zero, List.set_cons_succ]
          refine wpAnyH_take (i := 12) (oi := ⟨some 64, _, _, _, _, _⟩) (v := ?_) rfl (by kernel_rfl) (by kernel_rfl) (by kernel_rfl) (fun _ _ _ h => h) (Or.inl ⟨by rfl, ?_⟩) (by assumption) ?_
          rotate_left
          · (intro w hSw; (try dsimp only at hSw); go_simp; try (with_reducible rfl))
          try simp only [Act.put, List.setIfInBounds_toArray, List.set_cons_zero, List.set_cons_succ]
          refine wpAnyH_ready (rs := [13]) (by kernel_rfl) (by simp) ?_
          refine AllReadyH.cons (o := ⟨some 65, _, _, _, _, _⟩) rfl (fun K hK => ?_) AllReadyH.nil
          go_simp
          go_at_call 43
          refine (HHa w7 HRow.out).mono ?_
          rintro e w8 ⟨rfl, hb⟩
          have HS8 := Lib.hid (HD0.out.next hb)
          have HT8 := Lib.hid (HT0.out.next hb)
          have hHeld8 := HS8.out.held HT8.out HLk.out
          clear hb
          unfold cev
          go_wp2_with fail
          refine hK.out _ _ (hHeld8) (fun hHeld => ?_)
          clear hK K
          try simp only [List.setIfInBounds_toArray, List.set_cons_zero, List.set_cons_succ]
          refine wpAnyH_done (by kernel_rfl) ?_ _
          change wpList _ _ _ _ _ _
          clear hHeld8 hHeld HHeld
          have N8 := new_rd w8 38 (cec out ++ cec c)
          have hoN : out.n ≤ W * H := by rw [HSI.out.is.cnt]; exact Nat.le_trans List.countP_le_length (by simp)
          have hcN : c.n ≤ W * H := by rw [HIs.out.cnt]; exact Nat.le_trans List.countP_le_length (by simp)
          have hWH : W * H ≤ 256 * 256 := Nat.mul_le_mul hW2 hH2
          have hj := joins_two out c HSI.out.is.zc_of
          have hJ := join_any (some ⟨w8.heap.size, 0, Option.none⟩) [out, c] 2 2 _ _ _ N8 rfl (by decide) (by decide) (by intro d hd; simp at hd; rcases hd with rfl | rfl <;> omega)
          rw [hj] at hJ
          have h9 := HSI.out.inside (by rw [← HSq.out]; exact HIn.out) HIs.out
          obtain ⟨d, hd⟩ : ∃ d, d = join out c := ⟨_, rfl⟩
          rw [← hd] at hJ h9
          have H9 := Lib.hid h9
          clear hj hd h9 N8 hoN hcN hWH
          go_wp2_with fail
          refine hJ.mono ?_
          rintro e w9 ⟨rfl, hb9⟩
          have S9 := (HS8.out.next (_root_.Go.Proofs.Ytoaagemofjddiaa.bl w8 (.cells (cec out ++ cec c).toArray 38))).next hb9
          have q0 : w9.cell? ⟨w.heap.size + 1 + 1, 0, Option.none⟩ = some (.int .i16 out.lo) := S9.out.cell 0
          have q1 : w9.cell? ⟨w.heap.size + 1 + 1, 1, Option.none⟩ = some (.int .i16 out.hi) := S9.out.cell 1
          have q2 : w9.cell? ⟨w.heap.size + 1 + 1, 2, Option.none⟩ = some (.int .i64 (out.n : Int)) := S9.out.cell 2
          have f0 := S9.out.free 0
          have f1 := S9.out.free 1
          have f2 := S9.out.free 2
          have S10 := S9.put hbp hbl HLb.out d
          have HS10 := Lib.hid S10
          clear S9 S10 hb9 hJ
          unfold cev
          go_wp2
          go_roundg (wt init)
          case measure =>
            have := Nat.one_le_pow p.n 5 (by decide)
            have := Hg.out
            omega
          case rel =>
            have hpl : visP W H b p = 1 := visP_leaf (by unfold partly; rw [← HSq.out, HIn.out]; simp)
            have := Hsum.out
            exact ⟨d, init, sn + 1, rfl, HS10.out, H9.out, by (have := Hg.out; have := Nat.one_le_pow p.n 5 (by decide); rw [List.concat_eq_append, wt_snoc] at hwt; omega), by omega⟩
        | false =>
          have HIn := Lib.hid hin
          subst he
          rw [hin]
          clear hin
          have hp0 : 0 < p.n := by
            rcases Nat.eq_zero_or_pos p.n with h0 | h0
            · have := one_or (b := b) h0 hok (by rw [← HSq.out]; exact HAp.out)
              rw [← HSq.out, HIn.out] at this
              cases this
            · exact h0
          have hbe := below_any HS6.out.ps HI.out p hp0 hnl (by have := hok.x; have := side_self2 W p.n; omega) (by have := hok.y; have := side_self2 H p.n; omega) (by omega) (by omega) (by omega)
          have hsl := subs_len W H p
          have hsw := wt_subs W H p hp0
          generalize hsu : subs W H p = u at *
          have HSu := Lib.hid hsu
          clear hsu
          go_wp2_with fail
          refine hbe.mono ?_
          rintro e w7 ⟨v7, rfl, ho7, hb7⟩
          have S7 := HS6.out.next hb7
          obtain ⟨A7, c7, rfl, hrd7, hl7, hm7, hA7⟩ := own_rd ho7
          have HS7 := Lib.hid S7
          have HRd7 := Lib.hid hrd7
          have hl7' : (u.flatMap plc).length = u.length * 3 := flatMap_len plc 3 plc_len u
          have hbz := hb7.size
          have h7 := S7.out.lt
          clear S7 ho7 hbe hrd7 HS6 HT6 t0 t1 t2 e0
          go_wp2_with (at_builtin; refine wpList_append_mine rfl (.tmp 68) (.tmp 71) 105 rfl (w.heap.size + 1 + 1 + 1) 104 i0 _ 3 24 Try.underlying105 hi0 hz0 hz1 hz2 rfl (by decide) (.slice (some ⟨g, 0, Option.none⟩) init.length cap) init.length (init.flatMap plc) rfl HS7.out.own A7 u.length c7 (u.flatMap plc) rfl hl7' hA7 HRd7.out.news (plc_one u) (by simp only [maxLen]; omega) (by omega) (by omega) ?_; intro v2 w8 hown hgrow hwh; have hmore := HS7.out.more hbp (fun k hk => by (have hk' : k = g := Option.some.inj hk); subst hk'; exact ⟨by omega, by omega, fun l hl => by (have := HLb.out l hl); omega⟩) hgrow hown; have HMore := Lib.hid hmore; clear hown hgrow hwh hmore)
          go_roundg (wt init + wt u)
          case measure => have := Hg.out; omega
          case rel =>
            have hpp : partly W H b p = true := by unfold partly; rw [← HSq.out, HAp.out, HIn.out]; rfl
            have hpv := visP_deep hp0 hpp
            have h1 := Hsum.out
            have h2 := Hg.out
            have h3 := HSI.out.deep hp0
            rw [HSu.out] at h3 hpv
            exact ⟨out, init ++ u, sn + 1, (wt_append init u).symm, HMore.out, h3, by rw [wt_append]; rw [List.concat_eq_append, wt_snoc] at hwt; omega, by rw [List.map_append, List.sum_append]; omega⟩
end Pyr
end Go.Proofs.Ytoaagemofjddiaa
