/-
  The walk of frame.First: where bytes begin with a frame.
-/
import Derived.Test.YtijijfggppnbpaaFrmF3
namespace Go.Proofs.Ytijijfggppnbpaa
open Go.RowKit
set_option linter.unusedVariables false
namespace Frm
open Txt (kind_cases bv bv_one GotB leB leB_len leB_succ leVal leVal_lt tx)

set_option maxRecDepth 100000 in
set_option maxHeartbeats 1000000 in
theorem first_ok (A : Option Addr) (L : List UInt8) (N cap lo hi : Nat) (w : World) (h : RdL w lo hi A (L.map bv)) (hhi : hi ≤ w.heap.size) (hn : L.length = N) (hl : N ≤ 1000000) (hNc : N ≤ cap) (h0 : 0 < L.length) (hm : L[0] = 126) (h1 : 1 < L.length) (n : Nat) (hk : numN L[1].toNat = n) (hn3 : n ≤ 3) (hlen : 12 + 4 * n ≤ L.length) (hg : Crc.get (L.take (8 + 4 * n)) ((L.drop (8 + 4 * n)).take 4) = true) (hr : firstL L = (frameOf L L[1].toNat n 3, 12 + 4 * n, 0)) : Calls Try.prog 18 #[.slice A N cap] w (GotI w L) := by
  have HS := Lib.hid (Fs.start (cap := cap) (N := N) h)
  obtain ⟨b, off, rfl, hbl, c0⟩ := rd_at h h0
  have hbl2 : b < w.heap.size + 1 := by omega
  obtain ⟨b', off', e, _, c1⟩ := rd_at h h1
  injection e with e
  injection e with e1 e2
  subst e1 e2
  rw [Nat.add_zero, hm] at c0
  obtain ⟨z, hz⟩ : ∃ z, z = 12 + 4 * n := ⟨_, rfl⟩
  have hget := fun w h => get_z (some ⟨b, off, none⟩) L cap z lo hi w h (by omega) (by omega) (by omega) (by omega)
  rw [show z - 4 = 8 + 4 * n by omega, hg] at hget
  rw [← hz] at hr
  have hnum : ∀ (a k : Nat), a + k ≤ N → k ≤ 8 → ∀ W, Fs w (some ⟨b, off, none⟩) N cap lo hi L W → Calls Try.prog 59 #[.int .i64 (a : Int), .int .i64 (k : Int), .pointer (some ⟨w.heap.size, 0, none⟩)] W fun e w' => e = .returned (.int .u64 (leVal L a k : Int)) ∧ W = w' :=
    fun a k ha hk W S => num_any w.heap.size (some ⟨b, off, none⟩) L N cap a k lo hi W (S.box.cell 0) S.rd hn hk ha hl
  have hn2 : ∀ W, Fs w (some ⟨b, off, none⟩) N cap lo hi L W → Calls Try.prog 59 #[.int .i64 2, .int .i64 2, .pointer (some ⟨w.heap.size, 0, none⟩)] W fun e w' => e = .returned (.int .u64 (leVal L 2 2 : Int)) ∧ W = w' := fun W S => hnum 2 2 (by omega) (by decide) W S
  have hn4 : ∀ W, Fs w (some ⟨b, off, none⟩) N cap lo hi L W → Calls Try.prog 59 #[.int .i64 4, .int .i64 4, .pointer (some ⟨w.heap.size, 0, none⟩)] W fun e w' => e = .returned (.int .u64 (leVal L 4 4 : Int)) ∧ W = w' := fun W S => hnum 4 4 (by omega) (by decide) W S
  have HNum := Lib.hid hnum
  have hl1 := h1
  rw [hn] at h0 h1 hlen
  have n0 : ((N : Int) == 0) = false := beq_eq_false_iff_ne.2 (by omega)
  have n1 : ((N : Int) == 1) = false := beq_eq_false_iff_ne.2 (by omega)
  have n2 : N ≠ 0 := by omega
  have n3 : N ≠ 1 := by omega
  have i0 : (0 : Int) < (N : Int) := by omega
  have i1 : (1 : Int) < (N : Int) := by omega
  have hsz := fun w => size_any (L[1].toNat : Int) w
  have hsk : sizeK (L[1].toNat : Int) = (z : Int) := by unfold sizeK numK; rw [Int.toNat_natCast, hk, if_neg (by omega)]; omega
  have hnk : numK (L[1].toNat : Int) = (n : Int) := by unfold numK; rw [Int.toNat_natCast, hk]
  have hnb := fun w => numbers_any (L[1].toNat : Int) w
  rw [hnk] at hnb
  rw [hsk] at hsz
  have hu := IntWalk.i64_in (L[1].toNat : Int) (by have := L[1].toNat_lt; omega)
  have hltd : decide (N < z) = false := decide_eq_false (by omega)
  have hlti : ¬ (N : Int) < (z : Int) := by omega
  have hzc : (z : Int) ≤ (cap : Int) := by omega
  have hzc2 : z ≤ cap := by omega
  have hz0 : (0 : Int) ≤ (z : Int) := by omega
  have hzd : decide ((z : Int) < 0) = false := decide_eq_false (by omega)
  have q2 := leVal_lt L 2 2
  have q4 := leVal_lt L 4 4
  have u2 : IntKind.u16.wrap (leVal L 2 2 : Int) = (leVal L 2 2 : Int) := IntWalk.u16_in _ (by omega)
  have u4 : IntKind.u32.wrap (leVal L 4 4 : Int) = (leVal L 4 4 : Int) := IntWalk.u32_in _ (by omega)
  have hs : ∀ W, Fs w (some ⟨b, off, none⟩) N cap lo hi L W → _ := fun W S => fs_s S hl1
  have hfr0 : ∀ j, numAt L n 0 j = 0 := fun j => by unfold numAt; rw [if_neg (by omega)]
  have hcells : (frameOf L L[1].toNat n 0).cells = [.int .i64 (L[1].toNat : Int), .int .u16 (leVal L 2 2 : Int), .int .u32 (leVal L 4 4 : Int), .int .i32 0, .int .i32 0, .int .i32 0] := by
    unfold frameOf Fr.cells
    rw [hfr0, hfr0, hfr0]
  have HC := Lib.hid hcells
  have HR := Lib.hid hr
  have Hlen := Lib.hid (show 12 + 4 * n ≤ N from hlen)
  clear h hn hr hm hk hsk hz hlen hg hfr0 hcells q2 q4 hnk hnum
  generalize L[1].toNat = m at *
  go_enter Try.func18, Try.ntmps18
  go_wp2_with fail
  refine (hsz _).mono ?_
  rintro e w1 ⟨rfl, hb⟩
  have HS1 := Lib.hid (HS.out.next hb)
  have cb : w1.cell? ⟨w.heap.size, 0, none⟩ = some (.slice (some ⟨b, off, none⟩) N cap) := HS1.out.box.cell 0
  clear hb HS
  go_wp2_with fail
  refine (hget _ HS1.out.rd).mono ?_
  rintro e w2 ⟨⟨v, rfl⟩, hb⟩
  have HS2 := Lib.hid (HS1.out.next hb)
  clear hb HS1 cb hget
  go_upto_region 16 with (fail)
  go_cut [9] (fun s wx => ∃ g, s = .pointer (some ⟨g, 0, none⟩) ∧ Gf w (some ⟨b, off, none⟩) N cap lo hi L g m n 0 wx)
  case first =>
    have hw2 := HS2.out.below.size
    have hg2 : w.heap.size + 1 < w2.heap.size := HS2.out.res.lt
    have hG0 : Gf w (some ⟨b, off, none⟩) N cap lo hi L w2.heap.size m n 0 ((w2.alloc (.cells (frameOf L m n 0).cells.toArray 25)).drew) :=
      ⟨(HS2.out.next (bl _ _)).next (Below.refl _ _).drew, (Blk.mk w2 25 _).drew, hg2, Nat.le_trans hhi hw2⟩
    rw [HC.out] at hG0
    have HG0 := Lib.hid hG0
    clear hG0
    clear c0 c1
    go_region_held3 (fun w' => Fs w (some ⟨b, off, none⟩) N cap lo hi L w' ∧ w'.cell? ⟨w.heap.size, 0, none⟩ = some (.slice (some ⟨b, off, none⟩) N cap) ∧ w'.cell? ⟨b, off + 1, none⟩ = some (.int .u8 (m : Int)))
      (first
        | exact hs _ (HS2.out.next (Below.refl _ _).drew)
        | assumption
        | exact hs _ ((HS2.out.next (bl _ _)).next (Below.refl _ _).drew)
        | exact hs _ ((And.left ‹Fs w (some ⟨b, off, none⟩) N cap lo hi L _ ∧ _›).next (bl _ _)))
      (first
        | (go_at_call 59; (with_reducible refine (hn2 _ (And.left (by assumption))).mono ?_); rintro e w' ⟨rfl, rfl⟩)
        | (go_at_call 59; (with_reducible refine (hn4 _ (And.left (by assumption))).mono ?_); rintro e w' ⟨rfl, rfl⟩))
    all_goals
      go_wp2_with fail
      go_meet
      exact ⟨_, rfl, HG0.out⟩
  case rest =>
    obtain ⟨g, rfl, hgf⟩ := hcut
    have HG := Lib.hid hgf
    have ix0 : ∀ w, (Instr.index 95 (.agg #[.pointer (some ⟨g, 3, none⟩), .pointer (some ⟨g, 4, none⟩), .pointer (some ⟨g, 5, none⟩)]) (.int .i64 0)).run Try.prog w = .ok (.pointer (some ⟨g, 3, none⟩)) w := fun _ => by kernel_rfl
    have ix1 : ∀ w, (Instr.index 95 (.agg #[.pointer (some ⟨g, 3, none⟩), .pointer (some ⟨g, 4, none⟩), .pointer (some ⟨g, 5, none⟩)]) (.int .i64 1)).run Try.prog w = .ok (.pointer (some ⟨g, 4, none⟩)) w := fun _ => by kernel_rfl
    have ix2 : ∀ w, (Instr.index 95 (.agg #[.pointer (some ⟨g, 3, none⟩), .pointer (some ⟨g, 4, none⟩), .pointer (some ⟨g, 5, none⟩)]) (.int .i64 2)).run Try.prog w = .ok (.pointer (some ⟨g, 5, none⟩)) w := fun _ => by kernel_rfl
    clear hgf HS2 hn2 hn4 c0 c1 hs HC hu hlti hltd
    go_wp2_with fail
    go_loopw [69] (fun u wr => ∃ i : Nat, i ≤ 3 ∧ u = .int .i64 (i : Int) ∧ Gf w (some ⟨b, off, none⟩) N cap lo hi L g m n i wr) (fun u _ => 3 - (intOf u).toNat)
    case atStart => exact ⟨0, by omega, rfl, HG.out⟩
    case round =>
      clear HG
      obtain ⟨i, hi3, rfl, hgf⟩ := hrel
      have HG := Lib.hid hgf
      have e0 : wr.cell? ⟨g, 0, none⟩ = some (.int .i64 (m : Int)) := hgf.fr.cell 0
      clear hgf
      rcases (by omega : i = 0 ∨ i = 1 ∨ i = 2 ∨ i = 3) with rfl | rfl | rfl | rfl
      · by_cases hin : 0 < n
        · have hinI : decide ((0 : Int) < (n : Int)) = true := decide_eq_true (by omega)
          have hinN : decide (0 < n) = true := decide_eq_true hin
          have hc : ∀ W, Fs w (some ⟨b, off, none⟩) N cap lo hi L W → Calls Try.prog 59 #[.int .i64 8, .int .i64 4, .pointer (some ⟨w.heap.size, 0, none⟩)] W fun e w' => e = .returned (.int .u64 (leVal L 8 4 : Int)) ∧ W = w' := fun W S => HNum.out 8 4 (by have := Hlen.out; omega) (by decide) W S
          have q4 := leVal_lt L 8 4
          have v4 : IntKind.u32.wrap (leVal L 8 4 : Int) = (leVal L 8 4 : Int) := IntWalk.u32_in _ (by omega)
          have hst := fun {W : World} (S : Gf w (some ⟨b, off, none⟩) N cap lo hi L g m n 0 W) => S.step (by decide) hin
          have HSt : Hid (∀ (W : World), Gf w (some ⟨b, off, none⟩) N cap lo hi L g m n 0 W → Gf w (some ⟨b, off, none⟩) N cap lo hi L g m n 1 (W.setCell ⟨g, 3, none⟩ (.int .i32 (i32of (leVal L 8 4))))) := Lib.hid (fun W S => S.step (by decide) hin)
          have v5 : IntKind.i32.wrap (leVal L 8 4 : Int) = i32of (leVal L 8 4) := rfl
          clear hst hin q4
          generalize leVal L 8 4 = y at *
          generalize i32of y = y32 at *
          go_wp2_with (first | simp only [ix0] | fail)
          refine (hnb _).mono ?_
          rintro e w5 ⟨rfl, hb⟩
          have HG2 := Lib.hid (HG.out.next hb)
          clear hb HG e0
          go_wp2_with fail
          refine (hc _ HG2.out.fs).mono ?_
          rintro e w6 ⟨rfl, rfl⟩
          have fx := HG2.out.fr.free 3
          have cx := HG2.out.fr.cell 3
          change w5.cell? _ = some (Value.int .i32 (numAt L n 0 0)) at cx
          have HG3 := Lib.hid (HSt.out _ HG2.out)
          clear hc HG2
          go_wp2_with fail
          go_roundw
          case rel => exact ⟨1, by omega, rfl, HG3.out⟩
          case measure => first | (simp [intOf]; done) | (simp [intOf]; omega)
        · have hinI : decide ((0 : Int) < (n : Int)) = false := decide_eq_false (by omega)
          have hinN : decide (0 < n) = false := decide_eq_false hin
          have HK := Lib.hid (numAt_keep L m n 0 hin)
          clear hin
          go_wp2_with (first | simp only [ix0] | fail)
          refine (hnb _).mono ?_
          rintro e w5 ⟨rfl, hb⟩
          have HG2 := Lib.hid (HG.out.next hb)
          clear hb HG e0
          go_wp2_with fail
          go_roundw
          case rel => exact ⟨1, by omega, rfl, ⟨HG2.out.fs, (by have := HG2.out.fr; rw [HK.out] at this; exact this), HG2.out.lt, HG2.out.hi⟩⟩
          case measure => first | (simp [intOf]; done) | (simp [intOf]; omega)
      · by_cases hin : 1 < n
        · have hinI : decide ((1 : Int) < (n : Int)) = true := decide_eq_true (by omega)
          have hinN : decide (1 < n) = true := decide_eq_true hin
          have hc : ∀ W, Fs w (some ⟨b, off, none⟩) N cap lo hi L W → Calls Try.prog 59 #[.int .i64 12, .int .i64 4, .pointer (some ⟨w.heap.size, 0, none⟩)] W fun e w' => e = .returned (.int .u64 (leVal L 12 4 : Int)) ∧ W = w' := fun W S => HNum.out 12 4 (by have := Hlen.out; omega) (by decide) W S
          have q4 := leVal_lt L 12 4
          have v4 : IntKind.u32.wrap (leVal L 12 4 : Int) = (leVal L 12 4 : Int) := IntWalk.u32_in _ (by omega)
          have hst := fun {W : World} (S : Gf w (some ⟨b, off, none⟩) N cap lo hi L g m n 1 W) => S.step (by decide) hin
          have HSt : Hid (∀ (W : World), Gf w (some ⟨b, off, none⟩) N cap lo hi L g m n 1 W → Gf w (some ⟨b, off, none⟩) N cap lo hi L g m n 2 (W.setCell ⟨g, 4, none⟩ (.int .i32 (i32of (leVal L 12 4))))) := Lib.hid (fun W S => S.step (by decide) hin)
          have v5 : IntKind.i32.wrap (leVal L 12 4 : Int) = i32of (leVal L 12 4) := rfl
          clear hst hin q4
          generalize leVal L 12 4 = y at *
          generalize i32of y = y32 at *
          go_wp2_with (first | simp only [ix1] | fail)
          refine (hnb _).mono ?_
          rintro e w5 ⟨rfl, hb⟩
          have HG2 := Lib.hid (HG.out.next hb)
          clear hb HG e0
          go_wp2_with fail
          refine (hc _ HG2.out.fs).mono ?_
          rintro e w6 ⟨rfl, rfl⟩
          have fx := HG2.out.fr.free 4
          have cx := HG2.out.fr.cell 4
          change w5.cell? _ = some (Value.int .i32 (numAt L n 1 1)) at cx
          have HG3 := Lib.hid (HSt.out _ HG2.out)
          clear hc HG2
          go_wp2_with fail
          go_roundw
          case rel => exact ⟨2, by omega, rfl, HG3.out⟩
          case measure => first | (simp [intOf]; done) | (simp [intOf]; omega)
        · have hinI : decide ((1 : Int) < (n : Int)) = false := decide_eq_false (by omega)
          have hinN : decide (1 < n) = false := decide_eq_false hin
          have HK := Lib.hid (numAt_keep L m n 1 hin)
          clear hin
          go_wp2_with (first | simp only [ix1] | fail)
          refine (hnb _).mono ?_
          rintro e w5 ⟨rfl, hb⟩
          have HG2 := Lib.hid (HG.out.next hb)
          clear hb HG e0
          go_wp2_with fail
          go_roundw
          case rel => exact ⟨2, by omega, rfl, ⟨HG2.out.fs, (by have := HG2.out.fr; rw [HK.out] at this; exact this), HG2.out.lt, HG2.out.hi⟩⟩
          case measure => first | (simp [intOf]; done) | (simp [intOf]; omega)
      · by_cases hin : 2 < n
        · have hinI : decide ((2 : Int) < (n : Int)) = true := decide_eq_true (by omega)
          have hinN : decide (2 < n) = true := decide_eq_true hin
          have hc : ∀ W, Fs w (some ⟨b, off, none⟩) N cap lo hi L W → Calls Try.prog 59 #[.int .i64 16, .int .i64 4, .pointer (some ⟨w.heap.size, 0, none⟩)] W fun e w' => e = .returned (.int .u64 (leVal L 16 4 : Int)) ∧ W = w' := fun W S => HNum.out 16 4 (by have := Hlen.out; omega) (by decide) W S
          have q4 := leVal_lt L 16 4
          have v4 : IntKind.u32.wrap (leVal L 16 4 : Int) = (leVal L 16 4 : Int) := IntWalk.u32_in _ (by omega)
          have hst := fun {W : World} (S : Gf w (some ⟨b, off, none⟩) N cap lo hi L g m n 2 W) => S.step (by decide) hin
          have HSt : Hid (∀ (W : World), Gf w (some ⟨b, off, none⟩) N cap lo hi L g m n 2 W → Gf w (some ⟨b, off, none⟩) N cap lo hi L g m n 3 (W.setCell ⟨g, 5, none⟩ (.int .i32 (i32of (leVal L 16 4))))) := Lib.hid (fun W S => S.step (by decide) hin)
          have v5 : IntKind.i32.wrap (leVal L 16 4 : Int) = i32of (leVal L 16 4) := rfl
          clear hst hin q4
          generalize leVal L 16 4 = y at *
          generalize i32of y = y32 at *
          go_wp2_with (first | simp only [ix2] | fail)
          refine (hnb _).mono ?_
          rintro e w5 ⟨rfl, hb⟩
          have HG2 := Lib.hid (HG.out.next hb)
          clear hb HG e0
          go_wp2_with fail
          refine (hc _ HG2.out.fs).mono ?_
          rintro e w6 ⟨rfl, rfl⟩
          have fx := HG2.out.fr.free 5
          have cx := HG2.out.fr.cell 5
          change w5.cell? _ = some (Value.int .i32 (numAt L n 2 2)) at cx
          have HG3 := Lib.hid (HSt.out _ HG2.out)
          clear hc HG2
          go_wp2_with fail
          go_roundw
          case rel => exact ⟨3, by omega, rfl, HG3.out⟩
          case measure => first | (simp [intOf]; done) | (simp [intOf]; omega)
        · have hinI : decide ((2 : Int) < (n : Int)) = false := decide_eq_false (by omega)
          have hinN : decide (2 < n) = false := decide_eq_false hin
          have HK := Lib.hid (numAt_keep L m n 2 hin)
          clear hin
          go_wp2_with (first | simp only [ix2] | fail)
          refine (hnb _).mono ?_
          rintro e w5 ⟨rfl, hb⟩
          have HG2 := Lib.hid (HG.out.next hb)
          clear hb HG e0
          go_wp2_with fail
          go_roundw
          case rel => exact ⟨3, by omega, rfl, ⟨HG2.out.fs, (by have := HG2.out.fr; rw [HK.out] at this; exact this), HG2.out.lt, HG2.out.hi⟩⟩
          case measure => first | (simp [intOf]; done) | (simp [intOf]; omega)
      · have hfs := HG.out.fs
        have hfc := HG.out.fr
        have e1 : wr.cell? ⟨g, 1, none⟩ = some (.int .u16 (leVal L 2 2 : Int)) := hfc.cell 1
        have e2 : wr.cell? ⟨g, 2, none⟩ = some (.int .u32 (leVal L 4 4 : Int)) := hfc.cell 2
        have e3 : wr.cell? ⟨g, 3, none⟩ = some (.int .i32 (numAt L n 3 0)) := hfc.cell 3
        have e4 : wr.cell? ⟨g, 4, none⟩ = some (.int .i32 (numAt L n 3 1)) := hfc.cell 4
        have e5 : wr.cell? ⟨g, 5, none⟩ = some (.int .i32 (numAt L n 3 2)) := hfc.cell 5
        have hone := fr_one (frameOf L m n 3)
        have HFS := Lib.hid hfs
        have HOne := Lib.hid hone
        have HP := Lib.hid hfs.res
        have hfv : (frameOf L m n 3).cells = [.int .i64 (m : Int), .int .u16 (leVal L 2 2 : Int), .int .u32 (leVal L 4 4 : Int), .int .i32 (numAt L n 3 0), .int .i32 (numAt L n 3 1), .int .i32 (numAt L n 3 2)] := rfl
        rw [hfv] at hone
        have HO2 := Lib.hid hone
        have HV := Lib.hid hfv
        clear hfs hfc hone hfv HG HOne
        generalize numAt L n 3 0 = x3 at *
        generalize numAt L n 3 1 = x4 at *
        generalize numAt L n 3 2 = x5 at *
        generalize leVal L 2 2 = x1 at *
        generalize leVal L 4 4 = x2 at *
        go_wp2_with (refine wpList_store_row rfl 25 _ _ rfl (w.heap.size + 1) [.int .i64 (m : Int), .int .u16 (x1 : Int), .int .u32 (x2 : Int), .int .i32 x3, .int .i32 x4, .int .i32 x5].toArray rfl rfl _ _ HP.out (by kernel_rfl) rfl HO2.out ?_)
        refine bodyPost_ret (results_cell_tmp2_row rfl _ _ (w.heap.size + 1) 25 _ (0, 0) _ rfl (HP.out.row [.int .i64 (m : Int), .int .u16 (x1 : Int), .int .u32 (x2 : Int), .int .i32 x3, .int .i32 x4, .int .i32 x5]) Try.underlying25 rfl (by kernel_rfl)) rfl ?_
        exact ⟨by rw [HR.out]; unfold Fr.v; rw [HV.out]; rfl, Below.row HFS.out.below (by omega) _⟩
theorem first_any (A : Option Addr) (L : List UInt8) (N cap lo hi : Nat) (w : World) (h : RdL w lo hi A (L.map bv)) (hhi : hi ≤ w.heap.size) (hn : L.length = N) (hl : N ≤ 1000000) (hNc : N ≤ cap) : Calls Try.prog 18 #[.slice A N cap] w (GotI w L) := by
  rcases first_cases L with ⟨h1, h2⟩ | ⟨h0, ⟨h1, h2⟩ | ⟨hm, ⟨h1, h2⟩ | ⟨hl1, ⟨h1, h2⟩ | ⟨n, hk, hn3, _, _, ⟨h1, h2⟩ | ⟨hle, ⟨h1, h2⟩ | ⟨h1, h2⟩⟩⟩⟩⟩⟩
  · exact first_nil A L N cap lo hi w h hn h1 h2
  · exact first_mark A L N cap lo hi w h hn h0 h1 h2
  · obtain rfl : N = 1 := by omega
    exact first_one A L cap lo hi w h h1 h0 hm h2
  · exact first_kind A L N cap lo hi w h hn h0 hm hl1 h1 h2
  · exact first_few A L N cap lo hi w h hn h0 hm hl1 n hk hn3 h1 h2
  · exact first_ok A L N cap lo hi w h hhi hn hl hNc h0 hm hl1 n hk hn3 hle h1 h2
  · exact first_sum A L N cap lo hi w h hn hl hNc h0 hm hl1 n hk hn3 hle h1 h2
end Frm
end Go.Proofs.Ytijijfggppnbpaa
