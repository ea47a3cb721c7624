/-
  The walk of package pyramid's New, of a field that may be.
-/
import Derived.Test.YtoaagemofjddiaaPyrW4
import Derived.Test.YtoaagemofjddiaaHead
namespace Go.Proofs.Ytoaagemofjddiaa
open Go.RowKit
set_option linter.unusedVariables false
namespace Pyr

def GotNew (w : World) (W H : Nat) (z : Nat → Int) (e : Ending) (w' : World) : Prop :=
  ∃ top bp bl cl lvs, e = .returned (.tuple #[.pointer (some ⟨bp, 0, Option.none⟩), .int .i64 0]) ∧ PS w' bp bl cl lvs 0 ∧ IsLv W H z lvs ∧ IsTop W H top ∧ lvs.length = top + 1 ∧ w.heap.size ≤ bp ∧ Below w.heap.size w w'
theorem lev0_take (W H : Nat) (z : Nat → Int) (k : Nat) (h : k < W * H) : (lev W H z 0).take (k + 1) = (lev W H z 0).take k ++ [ce0 (z k)] := by
  rw [List.take_add_one]
  congr 1
  show ((List.range (W * H)).map _)[k]?.toList = _
  rw [List.getElem?_map, List.getElem?_range h]
  rfl
theorem side_self (n : Nat) : ∀ k, side n k ≤ n
  | 0 => Nat.le_refl _
  | k + 1 => Nat.le_trans (side_le n k) (side_self n k)
theorem lev_n {W H : Nat} {z : Nat → Int} {k : Nat} : ∀ c ∈ lev W H z k, c.n ≤ W * H := by
  intro c hc
  obtain ⟨i, hi, rfl⟩ := List.getElem_of_mem hc
  have hi' := hi
  rw [lev_len] at hi'
  obtain ⟨h1, h2⟩ := lt_row hi'
  have h := (lev_is W H z k _ _ h1 h2).cnt
  have e : i / side W k * side W k + i % side W k = i := by rw [Nat.mul_comm]; exact Nat.div_add_mod i _
  rw [e] at h
  have e2 : (lev W H z k).getD i zc = (lev W H z k)[i] := by simp [hi]
  rw [e2] at h
  rw [h]
  exact Nat.le_trans List.countP_le_length (by simp)
set_option maxRecDepth 100000 in
set_option maxHeartbeats 4000000 in
theorem new_ok (W H : Nat) (A : Option Addr) (Z : List Int) (n cap lo hi : Nat) (w : World) (hrd : RdL w lo hi A (Z.map zv)) (hl : Z.length = n) (hn : n = W * H) (hcap : n ≤ cap) (hW : 2 ≤ W) (hW2 : W ≤ 256) (hH : 2 ≤ H) (hH2 : H ≤ 256) (hhi : hi ≤ w.heap.size) :
    Calls Try.prog 12 #[.agg #[.int .i64 (W : Int), .int .i64 (H : Int), .slice A n cap]] w (GotNew w W H (fun i => Z.getD i 0)) := by
  obtain ⟨i0, hi0, hz0, hz1, hz2⟩ := info_parts infoCell
  obtain ⟨j0, hj0, hy0, hy1, hy2⟩ := info_parts infoLevel
  have hnl : n ≤ 65536 := by
    have := Nat.mul_le_mul hW2 hH2
    omega
  have ht := fun W' => tcheck_any (W : Int) (H : Int) A n cap W' (by simp only [maxLen]; omega)
  rw [codeH_nat hW hW2 hH hH2 hn] at ht
  have HR := Lib.hid hrd
  have Hl := Lib.hid hl
  have Hn := Lib.hid hn
  obtain ⟨z, hz⟩ : ∃ z, z = fun i => Z.getD i 0 := ⟨_, rfl⟩
  rw [← hz]
  have Hz := Lib.hid hz
  clear hrd hl hn hz
  have hWi : (W : Int) ≤ 256 := by omega
  have hHi : (H : Int) ≤ 256 := by omega
  go_enter Try.func12, Try.ntmps12
  go_wp2_with fail
  refine (ht _).mono ?_
  rintro e w1 ⟨rfl, hb⟩
  have hbx : Blk w1 w.heap.size 24 [.int .i64 (W : Int), .int .i64 (H : Int), .slice A n cap] := (Blk.mk w 24 [.int .i64 (W : Int), .int .i64 (H : Int), .slice A n cap]).next hb
  have hr1 := (HR.out.alloc (.cells #[.int .i64 (W : Int), .int .i64 (H : Int), .slice A n cap] 24)).next hb
  have hbw := bt (bl w (.cells #[.int .i64 (W : Int), .int .i64 (H : Int), .slice A n cap] 24)) hb
  have hs1 := hb.size
  simp only [World.size_alloc] at hs1
  have hlt1 : w.heap.size < w1.heap.size := by omega
  have e0 : w1.cell? ⟨w.heap.size, 0, Option.none⟩ = some (.int .i64 (W : Int)) := hbx.cell 0
  have e1 : w1.cell? ⟨w.heap.size, 1, Option.none⟩ = some (.int .i64 (H : Int)) := hbx.cell 1
  have e2 : w1.cell? ⟨w.heap.size, 2, Option.none⟩ = some (.slice A n cap) := hbx.cell 2
  have hF0 : FS w1 w1.heap.size w.heap.size W H n cap lo hi A Z [] (.slice Option.none 0 0) (w1.alloc (.cells #[.int .i64 (W : Int), .int .i64 (H : Int), .slice Option.none 0 0] 96)) :=
    ⟨hbx.alloc _, Blk.mk w1 96 (lvc W H (.slice Option.none 0 0)), World.ownsRow_nil _ _ _ _, hr1.alloc _, bl _ _⟩
  have F0 := Lib.hid hF0
  have HBW := Lib.hid hbw
  clear hb hbx hr1 hbw hF0 ht
  go_wp2
  go_loopw [24] (fun i wr => ∃ (k : Nat) (v : Value) (K : List Ce), k ≤ n ∧ i = .int .i64 (k : Int) ∧ K = (lev W H z 0).take k ∧ FS w1 w1.heap.size w.heap.size W H n cap lo hi A Z K v wr) (fun i _ => n - (intOf i).toNat)
  case atStart => exact ⟨0, _, _, Nat.zero_le _, rfl, by rw [List.take_zero], F0.out⟩
  case round =>
    clear F0 e0 e1 e2
    obtain ⟨k, v, K, hk, rfl, hK, S⟩ := hrel
    obtain ⟨Av, cv, rfl, _, _, _, _⟩ := own_rd S.own
    have HK := Lib.hid hK
    have HS1 := Lib.hid S
    have e2 : wr.cell? ⟨w1.heap.size, 2, Option.none⟩ = some (.slice Av K.length cv) := S.out.cell 2
    have hsz := S.out.lt
    clear S hK
    by_cases hlt : k < n
    · have hkI : (k : Int) < (n : Int) := by omega
      have hKl : K.length ≤ 65536 := by rw [HK.out, List.length_take]; omega
      obtain ⟨b, off, rfl, _, _, _, hc⟩ := HS1.out.rd.some (by rw [List.length_map, Hl.out]; omega)
      have hzk : Z[k]? = some (z k) := by
        rw [Hz.out]
        have : k < Z.length := by rw [Hl.out]; exact hlt
        simp [this]
      have c0 : wr.cell? ⟨b, off + k, Option.none⟩ = some (.int .i16 (z k)) := hc k _ (by rw [List.getElem?_map, hzk]; rfl)
      have htk := lev0_take W H z k (by rw [← Hn.out]; exact hlt)
      have HT := Lib.hid htk
      clear hc hzk htk
      generalize z k = x at *
      by_cases hv : x = -32768
      · subst hv
        have hce : ce0 (-32768) = zc := rfl
        rw [hce] at HT
        have S2 := HS1.out.next (bl wr (.cells (cec zc).toArray 38))
        have S3 := S2.next (bl _ (.cells (cec zc).toArray 38))
        have N3 := new_rd (wr.alloc (.cells (cec zc).toArray 38)) 38 (cec zc)
        rw [show (wr.alloc (.cells (cec zc).toArray 38)).heap.size = wr.heap.size + 1 by simp] at N3
        have hS3 := Lib.hid S3
        have hN3 := Lib.hid N3
        clear S2 S3 N3
        go_wp2_with (at_builtin; refine wpList_append_mine rfl (.tmp 35) (.tmp 37) 94 rfl (w1.heap.size + 1) 38 i0 _ 3 16 Try.underlying94 hi0 hz0 hz1 hz2 rfl (by decide) (.slice Av K.length cv) K.length (K.flatMap cec) rfl hS3.out.own (some ⟨wr.heap.size + 1, 0, Option.none⟩) 1 1 (cec zc) rfl rfl (fun h => by cases h) hN3.out.news (by simp [cec, Value.oneCell']) (by simp only [maxLen]; omega) (by omega) (by simp; omega) ?_; intro v2 w2 hown hgrow hwh; obtain ⟨A2, c2, rfl, _, _, _, _⟩ := own_rd hown; have hmore := hS3.out.more zc hgrow hown (by omega) (by omega); obtain ⟨fz, fc, hfin⟩ := hmore; have HFin := Lib.hid hfin; clear hown hgrow hwh hfin)
        go_roundw
        case rel => exact ⟨k + 1, _, _, by omega, by go_num, by rw [HT.out, HK.out], HFin.out⟩
        case measure => simp [intOf]; omega
      · have v1 : (x == -32768) = false := by rw [beq_eq_false_iff_ne]; exact hv
        have v2 : (x != -32768) = true := by rw [bne_iff_ne]; exact hv
        have hce : ce0 x = ⟨x, x, 1⟩ := by unfold ce0 voidZ; rw [if_neg hv]
        rw [hce] at HT
        have S2 := HS1.out.next (bl wr (.cells (cec ⟨x, x, 1⟩).toArray 38))
        have S3 := S2.next (bl _ (.cells (cec ⟨x, x, 1⟩).toArray 38))
        have N3 := new_rd (wr.alloc (.cells (cec ⟨x, x, 1⟩).toArray 38)) 38 (cec ⟨x, x, 1⟩)
        rw [show (wr.alloc (.cells (cec ⟨x, x, 1⟩).toArray 38)).heap.size = wr.heap.size + 1 by simp] at N3
        have hS3 := Lib.hid S3
        have hN3 := Lib.hid N3
        clear S2 S3 N3 hce hv
        go_wp2_with (at_builtin; refine wpList_append_mine rfl (.tmp 35) (.tmp 37) 94 rfl (w1.heap.size + 1) 38 i0 _ 3 16 Try.underlying94 hi0 hz0 hz1 hz2 rfl (by decide) (.slice Av K.length cv) K.length (K.flatMap cec) rfl hS3.out.own (some ⟨wr.heap.size + 1, 0, Option.none⟩) 1 1 (cec ⟨x, x, 1⟩) rfl rfl (fun h => by cases h) hN3.out.news (by simp [cec, Value.oneCell']) (by simp only [maxLen]; omega) (by omega) (by simp; omega) ?_; intro v2 w2 hown hgrow hwh; obtain ⟨A2, c2, rfl, _, _, _, _⟩ := own_rd hown; have hmore := hS3.out.more ⟨x, x, 1⟩ hgrow hown (by omega) (by omega); obtain ⟨fz, fc, hfin⟩ := hmore; have HFin := Lib.hid hfin; clear hown hgrow hwh hfin)
        go_roundw
        case rel => exact ⟨k + 1, _, _, by omega, by go_num, by rw [HT.out, HK.out], HFin.out⟩
        case measure => simp [intOf]; omega
    · obtain rfl : k = n := by omega
      have hJ : ¬ (k : Int) < (k : Int) := by omega
      have hK2 : K = lev W H z 0 := by
        rw [HK.out]
        exact List.take_of_length_le (by rw [lev_len]; show W * H ≤ k; rw [Hn.out]; exact Nat.le_refl _)
      have HK2 := Lib.hid hK2
      clear hK2
      have hKlen : K.length = W * H := by rw [HK2.out, lev_len]; rfl
      have hpos : 0 < W * H := Nat.mul_pos (by omega) (by omega)
      obtain ⟨g0, c0, eg, hg0, hg1, hg2, hg3⟩ := own_block HS1.out.own (by omega)
      injection eg with eg1 eg2 eg3
      subst eg1 eg3
      have e0 : wr.cell? ⟨w1.heap.size, 0, Option.none⟩ = some (.int .i64 (W : Int)) := HS1.out.out.cell 0
      have e1 : wr.cell? ⟨w1.heap.size, 1, Option.none⟩ = some (.int .i64 (H : Int)) := HS1.out.out.cell 1
      have hT := TS.start wr W H z ⟨W, H, g0, cv, K⟩ hg3 hg1 hg2 rfl rfl HK2.out
      have HT := Lib.hid hT
      have HBr : Hid (Below w.heap.size w wr) := Lib.hid (HBW.out.trans (HS1.out.below.mono (by omega)))
      clear hT hg3 eg2 hKlen hpos
      go_wp2
      clear e0 e1 e2 hJ
      obtain ⟨w5, rfl⟩ : ∃ w5 : World, w5 = wr := ⟨_, rfl⟩
      go_loopw [10] (fun t wr' => ∃ (j tb bl cl : Nat) (lvs : List Lv) (l : Lv), t = .pointer (some ⟨tb, 0, Option.none⟩) ∧ TS w5 (w5.heap.size + 1) W H z j tb bl cl lvs l wr') (fun t wr' => tm t wr')
      case atStart => exact ⟨0, _, _, _, _, _, rfl, HT.out⟩
      case round =>
        clear HT
        obtain ⟨j, tb, bl, cl, lvs, l, rfl, S⟩ := hrel
        obtain ⟨lw, lh, lL, lm⟩ := S.lv
        obtain ⟨r1, r2, r3, r4⟩ := S.ps.rows l lm
        have htm := tm_eq S.top
        have e0 : wr.cell? ⟨tb, 0, Option.none⟩ = some (.int .i64 (l.wd : Int)) := S.top.cell 0
        have e1 : wr.cell? ⟨tb, 1, Option.none⟩ = some (.int .i64 (l.h : Int)) := S.top.cell 1
        have e2 : wr.cell? ⟨tb, 2, Option.none⟩ = some (.slice (some ⟨l.b, 0, Option.none⟩) l.L.length l.cap) := S.top.cell 2
        have hlb := S.rlt l lm
        have htl := S.top.lt
        have hbpl := S.ps.blk.lt
        have hbl5 : w5.heap.size ≤ bl := own_ge S.own bl rfl
        have hbll : bl < wr.heap.size := by
          obtain ⟨b, off, e, h1, h2, h3, _⟩ := S.ps.rdl.some (by rw [flatMap_len Lv.cells 3 lv_len, S.len]; omega)
          omega
        have hwle : l.wd ≤ 256 := by rw [lw]; exact Nat.le_trans (side_self W j) hW2
        have hhle : l.h ≤ 256 := by rw [lh]; exact Nat.le_trans (side_self H j) hH2
        have hwp : 0 < l.wd := by rw [lw]; exact side_pos (by omega) j
        have hhp : 0 < l.h := by rw [lh]; exact side_pos (by omega) j
        have HS2 := Lib.hid S
        have HLw := Lib.hid lw
        have HLh := Lib.hid lh
        have HLL := Lib.hid lL
        have HR1 := Lib.hid r1
        have HR4 := Lib.hid r4
        have HTm := Lib.hid htm
        clear S lw lh lL r1 r4 htm
        by_cases hT : l.wd ≤ 1 ∧ l.h ≤ 1
        · have d1 : decide ((1 : Int) < (l.wd : Int)) = false := decide_eq_false (by omega)
          have d2 : decide ((1 : Int) < (l.h : Int)) = false := decide_eq_false (by omega)
          have hfin : GotNew w W H z (.returned (.tuple #[.pointer (some ⟨w5.heap.size + 1, 0, Option.none⟩), .int .i64 0])) wr :=
            ⟨j, _, _, _, _, rfl, HS2.out.ps, HS2.out.is, ⟨by rw [← HLw.out]; exact hT.1, by rw [← HLh.out]; exact hT.2, HS2.out.no⟩, HS2.out.len, by have := HBr.out.size; omega, bt HBr.out HS2.out.below⟩
          have HFin := Lib.hid hfin
          clear hfin hT
          go_wp2
          go_ret2
          exact HFin.out
        · have hcn : ∀ c ∈ l.L, c.n ≤ 1000000000 := fun c hc => by
            rw [HLL.out] at hc
            have := lev_n c hc
            rw [← Hn.out] at this
            omega
          have hh := fun W' (R : RdL W' l.b (l.b + 1) (some ⟨l.b, 0, Option.none⟩) (l.L.flatMap cec)) (hs : l.b + 1 ≤ W'.heap.size) => halved_any l.wd l.h (some ⟨l.b, 0, Option.none⟩) l.L l.L.length l.cap l.b (l.b + 1) W' R rfl HR4.out r3 (by omega) (by omega) hcn hs
          obtain ⟨wd', hwd'⟩ : ∃ q, q = (l.wd + 1) / 2 := ⟨_, rfl⟩
          obtain ⟨h', hh'⟩ : ∃ q, q = (l.h + 1) / 2 := ⟨_, rfl⟩
          obtain ⟨L', hL'⟩ : ∃ q, q = halved l.wd l.h l.L := ⟨_, rfl⟩
          rw [← hwd', ← hh', ← hL'] at hh
          unfold GotLv at hh
          have hLlen : L'.length = wd' * h' := by rw [hL', halved_len, hwd', hh']
          have hmlt : wd' + h' < l.wd + l.h := by omega
          have hpos' : 0 < wd' * h' := Nat.mul_pos (by omega) (by omega)
          have HW' := Lib.hid hwd'
          have HH' := Lib.hid hh'
          have HL' := Lib.hid hL'
          have HLlen := Lib.hid hLlen
          clear hwd' hh' hL' hLlen hcn
          have hlvs : lvs.length ≤ 300 := by
            have h1 := HS2.out.len
            have h2 := (show ∀ j, (∀ i, i < j → 1 < side W i ∨ 1 < side H i) → j ≤ 8 from fun j hj => by
              rcases Nat.lt_or_ge 8 j with h' | h'
              · have := hj 8 h'
                have := side_one (n := W) (k := 8) (by omega)
                have := side_one (n := H) (k := 8) (by omega)
                omega
              · exact h') j HS2.out.no
            omega
          by_cases hT1 : 1 < l.wd
          · have d1 : decide ((1 : Int) < (l.wd : Int)) = true := decide_eq_true (by omega)
            go_wp2_with fail
            refine (hh _ HR1.out hlb).mono ?_
            rintro e w2 ⟨v, rfl, ho, hb⟩
            obtain ⟨g1, c1, rfl, hg1', hg2', hg3', hg4'⟩ := own_block ho (by rw [HLlen.out]; exact hpos')
            have hput := HS2.out.put hb ⟨wd', h', g1, c1, L'⟩
            dsimp only at hput
            obtain ⟨p1, p2, p3, p4⟩ := hput
            have t0 := HS2.out.top.next hb
            have f0 := t0.free 0
            have f1 := t0.free 1
            have f2 := t0.free 2
            have q0 : w2.cell? ⟨tb, 0, Option.none⟩ = some (.int .i64 (l.wd : Int)) := t0.cell 0
            have q1 : w2.cell? ⟨tb, 1, Option.none⟩ = some (.int .i64 (l.h : Int)) := t0.cell 1
            have q2 : w2.cell? ⟨tb, 2, Option.none⟩ = some (.slice (some ⟨l.b, 0, Option.none⟩) l.L.length l.cap) := t0.cell 2
            have hg5 := ((hg4'.far (p := ⟨tb, 0, Option.none⟩) (.inl (by show tb < g1; omega)) (.int .i64 (wd' : Int))).far (p := ⟨tb, 1, Option.none⟩) (.inl (by show tb < g1; omega)) (.int .i64 (h' : Int))).far (p := ⟨tb, 2, Option.none⟩) (.inl (by show tb < g1; omega)) (.slice (some ⟨g1, 0, Option.none⟩) L'.length c1)
            have hsz2 := hb.size
            have P1 := Lib.hid p1
            have P2 := Lib.hid p2
            have P3 := Lib.hid p3
            have P4 := Lib.hid p4
            have G5 := Lib.hid hg5
            clear p1 p2 p3 p4 hg5 hg4' t0 ho hb
            go_wp2
            clear f0 f1 f2 q0 q1 q2 e0 e1 e2
            generalize hW3 : ((w2.setCell ⟨tb, 0, Option.none⟩ (.int .i64 (wd' : Int))).setCell ⟨tb, 1, Option.none⟩ (.int .i64 (h' : Int))).setCell ⟨tb, 2, Option.none⟩ (.slice (some ⟨g1, 0, Option.none⟩) L'.length c1) = w3 at *
            have hsz3 : w3.heap.size = w2.heap.size := by rw [← hW3]; simp
            clear hW3
            have c0 : w3.cell? ⟨w5.heap.size + 1, 0, Option.none⟩ = some (.slice (some ⟨bl, 0, Option.none⟩) lvs.length cl) := P1.out.blk.cell 0
            have e0 : w3.cell? ⟨tb, 0, Option.none⟩ = some (.int .i64 (wd' : Int)) := P3.out.cell 0
            have e1 : w3.cell? ⟨tb, 1, Option.none⟩ = some (.int .i64 (h' : Int)) := P3.out.cell 1
            have e2 : w3.cell? ⟨tb, 2, Option.none⟩ = some (.slice (some ⟨g1, 0, Option.none⟩) L'.length c1) := P3.out.cell 2
            refine wp_region_any (by kernel_rfl) ?_
            change wpAny _ _ _ _ _ _ _ w3.drew
            have hsz4 : w2.heap.size ≤ w3.drew.heap.size := by show w2.heap.size ≤ w3.heap.size; omega
            clear hsz3
            replace P1 := Lib.hid P1.out.drew
            replace P2 : Hid (w3.drew.ownsRow w5.heap.size 96 3 (.slice (some ⟨bl, 0, Option.none⟩) lvs.length cl) lvs.length (lvs.flatMap Lv.cells)) := P2
            replace P3 : Hid (Blk w3.drew tb 96 (Lv.cells ⟨wd', h', g1, c1, L'⟩)) := P3
            replace P4 := Lib.hid P4.out.drew
            replace G5 : Hid (RdL w3.drew g1 (g1 + 1) (some ⟨g1, 0, Option.none⟩) (L'.flatMap cec)) := G5
            replace c0 : w3.drew.cell? ⟨w5.heap.size + 1, 0, Option.none⟩ = some (.slice (some ⟨bl, 0, Option.none⟩) lvs.length cl) := c0
            replace e0 : w3.drew.cell? ⟨tb, 0, Option.none⟩ = some (.int .i64 (wd' : Int)) := e0
            replace e1 : w3.drew.cell? ⟨tb, 1, Option.none⟩ = some (.int .i64 (h' : Int)) := e1
            replace e2 : w3.drew.cell? ⟨tb, 2, Option.none⟩ = some (.slice (some ⟨g1, 0, Option.none⟩) L'.length c1) := e2
            generalize w3.drew = w3d at *
            have htne := HS2.out.tne
            have hlvl : lvs.length ≤ 300 := hlvs
            refine wpAny_split 8 (L := #[false, false, false, false, false, false, false, false]) (f := 8) (S := fun w' => w'.cell? ⟨w5.heap.size + 1, 0, Option.none⟩ = some (.slice (some ⟨bl, 0, Option.none⟩) lvs.length cl) ∧ w'.cell? ⟨tb, 0, Option.none⟩ = some (.int .i64 (wd' : Int)) ∧ w'.cell? ⟨tb, 1, Option.none⟩ = some (.int .i64 (h' : Int)) ∧ w'.cell? ⟨tb, 2, Option.none⟩ = some (.slice (some ⟨g1, 0, Option.none⟩) L'.length c1)) (by kernel_rfl) ⟨c0, e0, e1, e2⟩ (fun hHeld => ?_)
            simp only [List.take_succ_cons, List.take_zero, List.drop_succ_cons, List.drop_zero]
            refine wpAnyH_take (i := 0) (oi := ⟨some 56, _, _, _, _, _⟩) (v := ?_) rfl (by kernel_rfl) (by kernel_rfl) (by kernel_rfl) (fun _ _ _ h => h) (Or.inl ⟨by rfl, ?_⟩) (by assumption) ?_
            rotate_left
            · (intro w hSw; (try dsimp only at hSw); go_simp; try (with_reducible rfl))
            try simp only [Act.put, List.setIfInBounds_toArray, List.set_cons_zero, List.set_cons_succ]
            refine wpAnyH_take (i := 1) (oi := ⟨some 57, _, _, _, _, _⟩) (v := ?_) rfl (by kernel_rfl) (by kernel_rfl) (by kernel_rfl) (fun _ _ _ h => h) (Or.inl ⟨by rfl, ?_⟩) (by assumption) ?_
            rotate_left
            · (intro w hSw; (try dsimp only at hSw); go_simp; try (with_reducible rfl))
            try simp only [Act.put, List.setIfInBounds_toArray, List.set_cons_zero, List.set_cons_succ]
            refine wpAnyH_take (i := 2) (oi := ⟨some 58, _, _, _, _, _⟩) (v := ?_) rfl (by kernel_rfl) (by kernel_rfl) (by kernel_rfl) (fun _ _ _ h => h) (Or.inl ⟨by rfl, ?_⟩) (by assumption) ?_
            rotate_left
            · (intro w hSw; (try dsimp only at hSw); go_simp; try (with_reducible rfl))
            try simp only [Act.put, List.setIfInBounds_toArray, List.set_cons_zero, List.set_cons_succ]
            refine wpAnyH_take (i := 3) (oi := ⟨some 59, _, _, _, _, _⟩) (v := ?_) rfl (by kernel_rfl) (by kernel_rfl) (by kernel_rfl) (fun _ _ _ h => h) (Or.inl ⟨by rfl, ?_⟩) (by assumption) ?_
            rotate_left
            · (intro w hSw; (try dsimp only at hSw); go_simp; try (with_reducible rfl))
            try simp only [Act.put, List.setIfInBounds_toArray, List.set_cons_zero, List.set_cons_succ]
            refine wpAnyH_take (i := 4) (oi := ⟨some 60, _, _, _, _, _⟩) (v := ?_) rfl (by kernel_rfl) (by kernel_rfl) (by kernel_rfl) (fun _ _ _ h => h) (Or.inl ⟨by rfl, ?_⟩) (by assumption) ?_
            rotate_left
            · (intro w hSw; (try dsimp only at hSw); go_simp; try (with_reducible rfl))
            try simp only [Act.put, List.setIfInBounds_toArray, List.set_cons_zero, List.set_cons_succ]
            refine wpAnyH_take (i := 5) (oi := ⟨some 61, _, _, _, _, _⟩) (v := ?_) rfl (by kernel_rfl) (by kernel_rfl) (by kernel_rfl) (fun _ _ _ h => h) (Or.inl ⟨by rfl, ?_⟩) (by assumption) ?_
            rotate_left
            · (intro w hSw; (try dsimp only at hSw); go_simp; try (with_reducible rfl))
            try simp only [Act.put, List.setIfInBounds_toArray, List.set_cons_zero, List.set_cons_succ]
            refine wpAnyH_ready (rs := [6]) (by kernel_rfl) (by simp) ?_
            refine AllReadyH.cons (o := ⟨some 62, _, _, _, _, _⟩) rfl (fun K hK => ?_) AllReadyH.nil
            go_simp
            refine hK.out _ _ (⟨(P1.out.blk.next (_root_.Go.Proofs.Ytoaagemofjddiaa.bl _ _)).cell 0, (P3.out.next (_root_.Go.Proofs.Ytoaagemofjddiaa.bl _ _)).cell 0, (P3.out.next (_root_.Go.Proofs.Ytoaagemofjddiaa.bl _ _)).cell 1, (P3.out.next (_root_.Go.Proofs.Ytoaagemofjddiaa.bl _ _)).cell 2⟩) (fun hHeld => ?_)
            clear hK K
            try simp only [Act.put, List.setIfInBounds_toArray, List.set_cons_zero, List.set_cons_succ]
            refine wpAnyH_ready (rs := [7]) (by kernel_rfl) (by simp) ?_
            refine AllReadyH.cons (o := ⟨some 63, _, _, _, _, _⟩) rfl (fun K hK => ?_) AllReadyH.nil
            refine step_append_lies _ (by rfl) _ _ _ (by rfl) w5.heap.size 96 j0 _ 3 40 (by kernel_rfl) hj0 hy0 hy1 hy2 rfl (by omega) (.slice (some ⟨bl, 0, Option.none⟩) lvs.length cl) lvs.length (lvs.flatMap Lv.cells) (by rfl) (own_next P2.out (_root_.Go.Proofs.Ytoaagemofjddiaa.bl _ _)) _ 1 1 (Lv.cells ⟨wd', h', g1, c1, L'⟩) (by rfl) (by rfl) ((new_rd _ 96 (Lv.cells ⟨wd', h', g1, c1, L'⟩)).news _ rfl) (by simp [Lv.cells, Value.oneCell']) (by omega) (by simp only [maxLen]; omega) (by omega) (by have := P4.out.size; simp; omega) _ rfl ?_
            intro gg cc w6 hown hgrow hat hlt'
            have hbk := (P1.out.blk.next (_root_.Go.Proofs.Ytoaagemofjddiaa.bl w3d (.cells (Lv.cells ⟨wd', h', g1, c1, L'⟩).toArray 96))).grown hgrow (fun e => P1.out.ne (Option.some.inj e).symm)
            have htk := (P3.out.next (_root_.Go.Proofs.Ytoaagemofjddiaa.bl w3d (.cells (Lv.cells ⟨wd', h', g1, c1, L'⟩).toArray 96))).grown hgrow (fun e => htne.2.1 (Option.some.inj e))
            refine hK.out _ _ (⟨hbk.cell 0, htk.cell 0, htk.cell 1, htk.cell 2⟩) (fun hHeld => ?_)
            clear hK K
            try simp only [Act.put, List.setIfInBounds_toArray, List.set_cons_zero, List.set_cons_succ]
            refine wpAnyH_done (by kernel_rfl) ?_ _
            change wpList _ _ _ _ _ _
            have hgr := (P1.out.next (_root_.Go.Proofs.Ytoaagemofjddiaa.bl w3d (.cells (Lv.cells ⟨wd', h', g1, c1, L'⟩).toArray 96))).grow (m := ⟨wd', h', g1, c1, L'⟩) (G5.out.alloc _) (by dsimp only; omega) (by dsimp only; omega) hg3' HLlen.out HS2.out.rne (by simp; omega) (fun l hl => by have := HS2.out.rlt l hl; simp; omega) hgrow hown (hat.imp (fun e => by have e' : bl = gg := Option.some.inj e; subst e'; rfl) (fun e b hb => by have hb' : gg = b := Option.some.inj hb; rw [← hb', e]; exact Nat.le_refl _))
            obtain ⟨bl', cl', ev, hf, hc, hps, how, hrn⟩ := hgr
            injection ev with ev1 ev2 ev3
            injection ev1 with ev1
            injection ev1 with ev1 _ _
            subst ev1 ev3
            have hgs := hgrow.size
            simp only [World.size_alloc] at hgs
            have hY : Below w5.heap.size w5 (w6.setCell ⟨w5.heap.size + 1, 0, Option.none⟩ (.slice (some ⟨gg, 0, Option.none⟩) (lvs.length + 1) cc)) := ((P4.out.trans ((_root_.Go.Proofs.Ytoaagemofjddiaa.bl w3d _).mono P4.out.size)).grown hgrow (by have := P4.out.size; simp; omega) (fun k hk => by have hk' : bl = k := Option.some.inj hk; omega)).setCell (by show w5.heap.size ≤ w5.heap.size + 1; omega) _
            have htop := htk.far (p := ⟨w5.heap.size + 1, 0, Option.none⟩) (by show tb ≠ w5.heap.size + 1; omega) (.slice (some ⟨gg, 0, Option.none⟩) (lvs.length + 1) cc)
            have t0 : (w6.setCell ⟨w5.heap.size + 1, 0, Option.none⟩ (.slice (some ⟨gg, 0, Option.none⟩) (lvs.length + 1) cc)).cell? ⟨tb, 0, Option.none⟩ = some (.int .i64 (wd' : Int)) := htop.cell 0
            have t1 : (w6.setCell ⟨w5.heap.size + 1, 0, Option.none⟩ (.slice (some ⟨gg, 0, Option.none⟩) (lvs.length + 1) cc)).cell? ⟨tb, 1, Option.none⟩ = some (.int .i64 (h' : Int)) := htop.cell 1
            have t2 : (w6.setCell ⟨w5.heap.size + 1, 0, Option.none⟩ (.slice (some ⟨gg, 0, Option.none⟩) (lvs.length + 1) cc)).cell? ⟨tb, 2, Option.none⟩ = some (.slice (some ⟨g1, 0, Option.none⟩) L'.length c1) := htop.cell 2
            have hst := HS2.out.step (m := ⟨wd', h', g1, c1, L'⟩) (by show wd' = _; rw [HW'.out, HLw.out]; rfl) (by show h' = _; rw [HH'.out, HLh.out]; rfl) (by show L' = _; rw [HL'.out, HLw.out, HLh.out, HLL.out]; rfl) (by rw [← HLw.out, ← HLh.out]; omega) hps how hrn hY (by simp; omega) (by simp; omega)
            have HSt := Lib.hid hst
            clear hst hps how hY htop hbk htk hown hgrow hat hrn
            generalize hY6 : w6.setCell ⟨w5.heap.size + 1, 0, Option.none⟩ (.slice (some ⟨gg, 0, Option.none⟩) (lvs.length + 1) cc) = w7 at *
            go_wp2
            clear t0 t1 t2 hf hc
            go_roundw
            case rel => exact ⟨j + 1, _, _, _, _, _, rfl, HSt.out⟩
            case measure =>
              have h9 := tm_eq HSt.out.top
              dsimp only [Lv.cells] at h9
              rw [HTm.out]
              refine Nat.lt_of_le_of_lt (Nat.le_of_eq h9) hmlt
          · have d1 : decide ((1 : Int) < (l.wd : Int)) = false := decide_eq_false (by omega)
            have d2 : decide ((1 : Int) < (l.h : Int)) = true := decide_eq_true (by omega)
            go_wp2_with fail
            refine (hh _ HR1.out hlb).mono ?_
            rintro e w2 ⟨v, rfl, ho, hb⟩
            obtain ⟨g1, c1, rfl, hg1', hg2', hg3', hg4'⟩ := own_block ho (by rw [HLlen.out]; exact hpos')
            have hput := HS2.out.put hb ⟨wd', h', g1, c1, L'⟩
            dsimp only at hput
            obtain ⟨p1, p2, p3, p4⟩ := hput
            have t0 := HS2.out.top.next hb
            have f0 := t0.free 0
            have f1 := t0.free 1
            have f2 := t0.free 2
            have q0 : w2.cell? ⟨tb, 0, Option.none⟩ = some (.int .i64 (l.wd : Int)) := t0.cell 0
            have q1 : w2.cell? ⟨tb, 1, Option.none⟩ = some (.int .i64 (l.h : Int)) := t0.cell 1
            have q2 : w2.cell? ⟨tb, 2, Option.none⟩ = some (.slice (some ⟨l.b, 0, Option.none⟩) l.L.length l.cap) := t0.cell 2
            have hg5 := ((hg4'.far (p := ⟨tb, 0, Option.none⟩) (.inl (by show tb < g1; omega)) (.int .i64 (wd' : Int))).far (p := ⟨tb, 1, Option.none⟩) (.inl (by show tb < g1; omega)) (.int .i64 (h' : Int))).far (p := ⟨tb, 2, Option.none⟩) (.inl (by show tb < g1; omega)) (.slice (some ⟨g1, 0, Option.none⟩) L'.length c1)
            have hsz2 := hb.size
            have P1 := Lib.hid p1
            have P2 := Lib.hid p2
            have P3 := Lib.hid p3
            have P4 := Lib.hid p4
            have G5 := Lib.hid hg5
            clear p1 p2 p3 p4 hg5 hg4' t0 ho hb
            go_wp2
            clear f0 f1 f2 q0 q1 q2 e0 e1 e2
            generalize hW3 : ((w2.setCell ⟨tb, 0, Option.none⟩ (.int .i64 (wd' : Int))).setCell ⟨tb, 1, Option.none⟩ (.int .i64 (h' : Int))).setCell ⟨tb, 2, Option.none⟩ (.slice (some ⟨g1, 0, Option.none⟩) L'.length c1) = w3 at *
            have hsz3 : w3.heap.size = w2.heap.size := by rw [← hW3]; simp
            clear hW3
            have c0 : w3.cell? ⟨w5.heap.size + 1, 0, Option.none⟩ = some (.slice (some ⟨bl, 0, Option.none⟩) lvs.length cl) := P1.out.blk.cell 0
            have e0 : w3.cell? ⟨tb, 0, Option.none⟩ = some (.int .i64 (wd' : Int)) := P3.out.cell 0
            have e1 : w3.cell? ⟨tb, 1, Option.none⟩ = some (.int .i64 (h' : Int)) := P3.out.cell 1
            have e2 : w3.cell? ⟨tb, 2, Option.none⟩ = some (.slice (some ⟨g1, 0, Option.none⟩) L'.length c1) := P3.out.cell 2
            refine wp_region_any (by kernel_rfl) ?_
            change wpAny _ _ _ _ _ _ _ w3.drew
            have hsz4 : w2.heap.size ≤ w3.drew.heap.size := by show w2.heap.size ≤ w3.heap.size; omega
            clear hsz3
            replace P1 := Lib.hid P1.out.drew
            replace P2 : Hid (w3.drew.ownsRow w5.heap.size 96 3 (.slice (some ⟨bl, 0, Option.none⟩) lvs.length cl) lvs.length (lvs.flatMap Lv.cells)) := P2
            replace P3 : Hid (Blk w3.drew tb 96 (Lv.cells ⟨wd', h', g1, c1, L'⟩)) := P3
            replace P4 := Lib.hid P4.out.drew
            replace G5 : Hid (RdL w3.drew g1 (g1 + 1) (some ⟨g1, 0, Option.none⟩) (L'.flatMap cec)) := G5
            replace c0 : w3.drew.cell? ⟨w5.heap.size + 1, 0, Option.none⟩ = some (.slice (some ⟨bl, 0, Option.none⟩) lvs.length cl) := c0
            replace e0 : w3.drew.cell? ⟨tb, 0, Option.none⟩ = some (.int .i64 (wd' : Int)) := e0
            replace e1 : w3.drew.cell? ⟨tb, 1, Option.none⟩ = some (.int .i64 (h' : Int)) := e1
            replace e2 : w3.drew.cell? ⟨tb, 2, Option.none⟩ = some (.slice (some ⟨g1, 0, Option.none⟩) L'.length c1) := e2
            generalize w3.drew = w3d at *
            have htne := HS2.out.tne
            have hlvl : lvs.length ≤ 300 := hlvs
            refine wpAny_split 8 (L := #[false, false, false, false, false, false, false, false]) (f := 8) (S := fun w' => w'.cell? ⟨w5.heap.size + 1, 0, Option.none⟩ = some (.slice (some ⟨bl, 0, Option.none⟩) lvs.length cl) ∧ w'.cell? ⟨tb, 0, Option.none⟩ = some (.int .i64 (wd' : Int)) ∧ w'.cell? ⟨tb, 1, Option.none⟩ = some (.int .i64 (h' : Int)) ∧ w'.cell? ⟨tb, 2, Option.none⟩ = some (.slice (some ⟨g1, 0, Option.none⟩) L'.length c1)) (by kernel_rfl) ⟨c0, e0, e1, e2⟩ (fun hHeld => ?_)
            simp only [List.take_succ_cons, List.take_zero, List.drop_succ_cons, List.drop_zero]
            refine wpAnyH_take (i := 0) (oi := ⟨some 56, _, _, _, _, _⟩) (v := ?_) rfl (by kernel_rfl) (by kernel_rfl) (by kernel_rfl) (fun _ _ _ h => h) (Or.inl ⟨by rfl, ?_⟩) (by assumption) ?_
            rotate_left
            · (intro w hSw; (try dsimp only at hSw); go_simp; try (with_reducible rfl))
            try simp only [Act.put, List.setIfInBounds_toArray, List.set_cons_zero, List.set_cons_succ]
            refine wpAnyH_take (i := 1) (oi := ⟨some 57, _, _, _, _, _⟩) (v := ?_) rfl (by kernel_rfl) (by kernel_rfl) (by kernel_rfl) (fun _ _ _ h => h) (Or.inl ⟨by rfl, ?_⟩) (by assumption) ?_
            rotate_left
            · (intro w hSw; (try dsimp only at hSw); go_simp; try (with_reducible rfl))
            try simp only [Act.put, List.setIfInBounds_toArray, List.set_cons_zero, List.set_cons_succ]
            refine wpAnyH_take (i := 2) (oi := ⟨some 58, _, _, _, _, _⟩) (v := ?_) rfl (by kernel_rfl) (by kernel_rfl) (by kernel_rfl) (fun _ _ _ h => h) (Or.inl ⟨by rfl, ?_⟩) (by assumption) ?_
            rotate_left
            · (intro w hSw; (try dsimp only at hSw); go_simp; try (with_reducible rfl))
            try simp only [Act.put, List.setIfInBounds_toArray, List.set_cons_zero, List.set_cons_succ]
            refine wpAnyH_take (i := 3) (oi := ⟨some 59, _, _, _, _, _⟩) (v := ?_) rfl (by kernel_rfl) (by kernel_rfl) (by kernel_rfl) (fun _ _ _ h => h) (Or.inl ⟨by rfl, ?_⟩) (by assumption) ?_
            rotate_left
            · (intro w hSw; (try dsimp only at hSw); go_simp; try (with_reducible rfl))
            try simp only [Act.put, List.setIfInBounds_toArray, List.set_cons_zero, List.set_cons_succ]
            refine wpAnyH_take (i := 4) (oi := ⟨some 60, _, _, _, _, _⟩) (v := ?_) rfl (by kernel_rfl) (by kernel_rfl) (by kernel_rfl) (fun _ _ _ h => h) (Or.inl ⟨by rfl, ?_⟩) (by assumption) ?_
            rotate_left
            · (intro w hSw; (try dsimp only at hSw); go_simp; try (with_reducible rfl))
            try simp only [Act.put, List.setIfInBounds_toArray, List.set_cons_zero, List.set_cons_succ]
            refine wpAnyH_take (i := 5) (oi := ⟨some 61, _, _, _, _, _⟩) (v := ?_) rfl (by kernel_rfl) (by kernel_rfl) (by kernel_rfl) (fun _ _ _ h => h) (Or.inl ⟨by rfl, ?_⟩) (by assumption) ?_
            rotate_left
            · (intro w hSw; (try dsimp only at hSw); go_simp; try (with_reducible rfl))
            try simp only [Act.put, List.setIfInBounds_toArray, List.set_cons_zero, List.set_cons_succ]
            refine wpAnyH_ready (rs := [6]) (by kernel_rfl) (by simp) ?_
            refine AllReadyH.cons (o := ⟨some 62, _, _, _, _, _⟩) rfl (fun K hK => ?_) AllReadyH.nil
            go_simp
            refine hK.out _ _ (⟨(P1.out.blk.next (_root_.Go.Proofs.Ytoaagemofjddiaa.bl _ _)).cell 0, (P3.out.next (_root_.Go.Proofs.Ytoaagemofjddiaa.bl _ _)).cell 0, (P3.out.next (_root_.Go.Proofs.Ytoaagemofjddiaa.bl _ _)).cell 1, (P3.out.next (_root_.Go.Proofs.Ytoaagemofjddiaa.bl _ _)).cell 2⟩) (fun hHeld => ?_)
            clear hK K
            try simp only [Act.put, List.setIfInBounds_toArray, List.set_cons_zero, List.set_cons_succ]
            refine wpAnyH_ready (rs := [7]) (by kernel_rfl) (by simp) ?_
            refine AllReadyH.cons (o := ⟨some 63, _, _, _, _, _⟩) rfl (fun K hK => ?_) AllReadyH.nil
            refine step_append_lies _ (by rfl) _ _ _ (by rfl) w5.heap.size 96 j0 _ 3 40 (by kernel_rfl) hj0 hy0 hy1 hy2 rfl (by omega) (.slice (some ⟨bl, 0, Option.none⟩) lvs.length cl) lvs.length (lvs.flatMap Lv.cells) (by rfl) (own_next P2.out (_root_.Go.Proofs.Ytoaagemofjddiaa.bl _ _)) _ 1 1 (Lv.cells ⟨wd', h', g1, c1, L'⟩) (by rfl) (by rfl) ((new_rd _ 96 (Lv.cells ⟨wd', h', g1, c1, L'⟩)).news _ rfl) (by simp [Lv.cells, Value.oneCell']) (by omega) (by simp only [maxLen]; omega) (by omega) (by have := P4.out.size; simp; omega) _ rfl ?_
            intro gg cc w6 hown hgrow hat hlt'
            have hbk := (P1.out.blk.next (_root_.Go.Proofs.Ytoaagemofjddiaa.bl w3d (.cells (Lv.cells ⟨wd', h', g1, c1, L'⟩).toArray 96))).grown hgrow (fun e => P1.out.ne (Option.some.inj e).symm)
            have htk := (P3.out.next (_root_.Go.Proofs.Ytoaagemofjddiaa.bl w3d (.cells (Lv.cells ⟨wd', h', g1, c1, L'⟩).toArray 96))).grown hgrow (fun e => htne.2.1 (Option.some.inj e))
            refine hK.out _ _ (⟨hbk.cell 0, htk.cell 0, htk.cell 1, htk.cell 2⟩) (fun hHeld => ?_)
            clear hK K
            try simp only [Act.put, List.setIfInBounds_toArray, List.set_cons_zero, List.set_cons_succ]
            refine wpAnyH_done (by kernel_rfl) ?_ _
            change wpList _ _ _ _ _ _
            have hgr := (P1.out.next (_root_.Go.Proofs.Ytoaagemofjddiaa.bl w3d (.cells (Lv.cells ⟨wd', h', g1, c1, L'⟩).toArray 96))).grow (m := ⟨wd', h', g1, c1, L'⟩) (G5.out.alloc _) (by dsimp only; omega) (by dsimp only; omega) hg3' HLlen.out HS2.out.rne (by simp; omega) (fun l hl => by have := HS2.out.rlt l hl; simp; omega) hgrow hown (hat.imp (fun e => by have e' : bl = gg := Option.some.inj e; subst e'; rfl) (fun e b hb => by have hb' : gg = b := Option.some.inj hb; rw [← hb', e]; exact Nat.le_refl _))
            obtain ⟨bl', cl', ev, hf, hc, hps, how, hrn⟩ := hgr
            injection ev with ev1 ev2 ev3
            injection ev1 with ev1
            injection ev1 with ev1 _ _
            subst ev1 ev3
            have hgs := hgrow.size
            simp only [World.size_alloc] at hgs
            have hY : Below w5.heap.size w5 (w6.setCell ⟨w5.heap.size + 1, 0, Option.none⟩ (.slice (some ⟨gg, 0, Option.none⟩) (lvs.length + 1) cc)) := ((P4.out.trans ((_root_.Go.Proofs.Ytoaagemofjddiaa.bl w3d _).mono P4.out.size)).grown hgrow (by have := P4.out.size; simp; omega) (fun k hk => by have hk' : bl = k := Option.some.inj hk; omega)).setCell (by show w5.heap.size ≤ w5.heap.size + 1; omega) _
            have htop := htk.far (p := ⟨w5.heap.size + 1, 0, Option.none⟩) (by show tb ≠ w5.heap.size + 1; omega) (.slice (some ⟨gg, 0, Option.none⟩) (lvs.length + 1) cc)
            have t0 : (w6.setCell ⟨w5.heap.size + 1, 0, Option.none⟩ (.slice (some ⟨gg, 0, Option.none⟩) (lvs.length + 1) cc)).cell? ⟨tb, 0, Option.none⟩ = some (.int .i64 (wd' : Int)) := htop.cell 0
            have t1 : (w6.setCell ⟨w5.heap.size + 1, 0, Option.none⟩ (.slice (some ⟨gg, 0, Option.none⟩) (lvs.length + 1) cc)).cell? ⟨tb, 1, Option.none⟩ = some (.int .i64 (h' : Int)) := htop.cell 1
            have t2 : (w6.setCell ⟨w5.heap.size + 1, 0, Option.none⟩ (.slice (some ⟨gg, 0, Option.none⟩) (lvs.length + 1) cc)).cell? ⟨tb, 2, Option.none⟩ = some (.slice (some ⟨g1, 0, Option.none⟩) L'.length c1) := htop.cell 2
            have hst := HS2.out.step (m := ⟨wd', h', g1, c1, L'⟩) (by show wd' = _; rw [HW'.out, HLw.out]; rfl) (by show h' = _; rw [HH'.out, HLh.out]; rfl) (by show L' = _; rw [HL'.out, HLw.out, HLh.out, HLL.out]; rfl) (by rw [← HLw.out, ← HLh.out]; omega) hps how hrn hY (by simp; omega) (by simp; omega)
            have HSt := Lib.hid hst
            clear hst hps how hY htop hbk htk hown hgrow hat hrn
            generalize hY6 : w6.setCell ⟨w5.heap.size + 1, 0, Option.none⟩ (.slice (some ⟨gg, 0, Option.none⟩) (lvs.length + 1) cc) = w7 at *
            go_wp2
            clear t0 t1 t2 hf hc
            go_roundw
            case rel => exact ⟨j + 1, _, _, _, _, _, rfl, HSt.out⟩
            case measure =>
              have h9 := tm_eq HSt.out.top
              dsimp only [Lv.cells] at h9
              rw [HTm.out]
              refine Nat.lt_of_le_of_lt (Nat.le_of_eq h9) hmlt
end Pyr
end Go.Proofs.Ytoaagemofjddiaa
