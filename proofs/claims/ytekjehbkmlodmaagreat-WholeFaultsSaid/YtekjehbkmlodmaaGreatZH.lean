/- A part of the proof of WholeFaults. -/
import Derived.Test.YtekjehbkmlodmaaGreatZG
import Derived.Test.YtekjehbkmlodmaaGreatZC
import Derived.Deep.RegionHeld3
import Derived.Test.YtekjehbkmlodmaaGreatZD
import Derived.Laws.CopyOwn
import Derived.Test.YtekjehbkmlodmaaGreatZA
import Derived.Deep.AppendLies
import Derived.Outline
set_option linter.unusedVariables false
set_option linter.unusedSimpArgs false
namespace Go.Proofs.YtekjehbkmlodmaaGreat
section
open Go.RowKit
namespace Cht
open Txt (leB leB_len)
def cells (W H : Nat) (A : Option Addr) (N cap : Nat) : List Value := [.int .i64 (W : Int), .int .i64 (H : Int), .slice A N cap, .int .i64 30, .int .i32 0, .int .i32 0]
def headB (W H : Nat) : List UInt8 := (((((leB 1296978516 4 ++ leB W 2) ++ leB H 2) ++ leB 30 2) ++ leB 0 4) ++ leB 0 4)
theorem headB_len (W H : Nat) : (headB W H).length = 18 := by simp [headB, leB_len]
structure BX (w : World) (vs : List Value) (wr : World) : Prop where
 box : Blk wr w.heap.size 44 vs
 keep : Below w.heap.size w wr
theorem BX.next {w : World} {vs : List Value} {wr w' : World} (h : BX w vs wr) (hb : Below wr.heap.size wr w') : BX w vs w' := ⟨h.box.next hb, bt h.keep hb⟩
theorem BX.drew {w : World} {vs : List Value} {wr : World} (h : BX w vs wr) : BX w vs wr.drew := ⟨h.box, h.keep.drew⟩
theorem bput (A : Option Addr) (B : List UInt8) (n cap x k m lo : Nat) (xz kz : Int) (w : World) (h : RdL w lo w.heap.size A (B.map Txt.bv)) (hn : B.length = n) (hA : A = none → n = 0 ∧ cap = 0) (hx : x < 18446744073709551616) (hk : k ≤ 8) (hl : n ≤ 1000000) (hm : n + k = m) (hxz : xz = (x : Int)) (hkz : kz = (k : Int)) :
  Calls Tryz.prog 30 #[.slice A n cap, .int .u64 xz, .int .i64 kz] w fun e w' => ∃ A' c', e = .returned (.slice A' m c') ∧ RdL w' w.heap.size w'.heap.size A' ((B ++ leB x k).map Txt.bv) ∧ (A' = none → m = 0 ∧ c' = 0) ∧ m ≤ c' ∧ w'.ownsRow w.heap.size 5 1 (.slice A' m c') m ((B ++ leB x k).map Txt.bv) ∧ Below w.heap.size w w' := by
 subst hxz hkz
 refine (Txt.put_any A B n cap x k lo w.heap.size w h hn hA hx hk hl).mono ?_
 rintro e w' ⟨⟨v, rfl, ho⟩, hb⟩
 rw [List.length_append, leB_len, hn, hm] at ho
 obtain ⟨A', c', rfl, hr, hc, _, hA'⟩ := own_rd ho
 exact ⟨A', c', rfl, hr, hA', hc, ho, hb⟩
def GotH (w : World) (B : List UInt8) (e : Ending) (w' : World) : Prop := (∃ v, e = .returned v ∧ w'.ownsRow w.heap.size 5 1 v B.length (B.map Txt.bv)) ∧ Below w.heap.size w w'
set_option maxRecDepth 100000 in
set_option maxHeartbeats 4000000 in
theorem header_any (A : Option Addr) (W H N cap : Nat) (hW : W ≤ 256) (hH : H ≤ 256) (w : World) : Calls Tryz.prog 23 #[.agg (cells W H A N cap).toArray] w (GotH w (headB W H)) := by
 have hB := Blk.mk w 44 (cells W H A N cap)
 have hS0 : BX w (cells W H A N cap) (w.alloc (.cells (cells W H A N cap).toArray 44)) := ⟨hB, bl _ _⟩
 have hlen := headB_len W H
 have uW : IntKind.u64.wrap (W : Int) = (W : Int) := IntWalk.u64_in _ (by omega)
 have uH : IntKind.u64.wrap (H : Int) = (H : Int) := IntWalk.u64_in _ (by omega)
 unfold cells at hB hS0 ⊢
 have p1 := bput none [] 0 0 1296978516 4 4 0 1296978516 4 (w.alloc (.cells [.int .i64 (W : Int), .int .i64 (H : Int), .slice A N cap, .int .i64 30, .int .i32 0, .int .i32 0].toArray 44)) (.inl rfl) rfl (fun _ => ⟨rfl, rfl⟩) (by decide) (by decide) (by decide) rfl rfl rfl
 have HS0 := Lib.hid hS0
 clear hB hS0
 go_enter Tryz.func23, Tryz.ntmps23
 go_wp2_with fail
 refine p1.mono ?_
 rintro e w1 ⟨A1, c1, rfl, hr1, hA1, _, _, hb1⟩
 have HS1 := Lib.hid (HS0.out.next hb1)
 have hl1 : ([] ++ leB 1296978516 4).length = 4 := by simp [leB_len]
 have p2 := fun (wz : World) (hz : RdL wz (w.alloc (.cells [.int .i64 (W : Int), .int .i64 (H : Int), .slice A N cap, .int .i64 30, .int .i32 0, .int .i32 0].toArray 44)).heap.size wz.heap.size A1 (([] ++ leB 1296978516 4).map Txt.bv)) => bput A1 ([] ++ leB 1296978516 4) 4 c1 W 2 6 _ (W : Int) 2 wz hz hl1 hA1 (by omega) (by decide) (by decide) rfl rfl rfl
 have x0 := HS1.out.box.cell 0
 have x1 := HS1.out.box.cell 1
 have HR1 := Lib.hid hr1
 clear p1 HS0 hr1 hb1
 have hl2 : (([] ++ leB 1296978516 4) ++ leB W 2).length = 6 := by simp [leB_len]
 have hl3 : ((([] ++ leB 1296978516 4) ++ leB W 2) ++ leB H 2).length = 8 := by simp [leB_len]
 have hl4 : (((([] ++ leB 1296978516 4) ++ leB W 2) ++ leB H 2) ++ leB 30 2).length = 10 := by simp [leB_len]
 have hl5 : ((((([] ++ leB 1296978516 4) ++ leB W 2) ++ leB H 2) ++ leB 30 2) ++ leB 0 4).length = 14 := by simp [leB_len]
 have p2' := p2 w1.drew HR1.out.drew
 clear p2
 go_upto_region 2 with fail
 go_cut [3] (fun s3 wx => ∃ A3 c3 l3, s3 = .slice A3 8 c3 ∧ BX w [.int .i64 (W : Int), .int .i64 (H : Int), .slice A N cap, .int .i64 30, .int .i32 0, .int .i32 0] wx ∧ RdL wx l3 wx.heap.size A3 (((([] ++ leB 1296978516 4) ++ leB W 2) ++ leB H 2).map Txt.bv) ∧ (A3 = none → 8 = 0 ∧ c3 = 0))
 case first =>
  go_region_with (first
   | (go_at_call 30; (with_reducible refine p2'.mono ?_); rintro e w2 ⟨A2, c2, rfl, hr2, hA2, _, _, hb2⟩; have HR2 := Lib.hid hr2; have HA2 := Lib.hid hA2; have HS2 := Lib.hid (HS1.out.drew.next hb2); have y0 := HS2.out.box.cell 0; have y1 := HS2.out.box.cell 1; clear hr2 hA2 hb2)
   | (go_at_call 30; (with_reducible refine (bput A2 _ 6 c2 H 2 8 _ (H : Int) 2 w2 HR2.out hl2 HA2.out (by omega) (by decide) (by decide) rfl rfl rfl).mono ?_); rintro e w3 ⟨A3, c3, rfl, hr3, hA3, _, _, hb3⟩; have HR3 := Lib.hid hr3; have HA3 := Lib.hid hA3; have HS3 := Lib.hid (HS2.out.next hb3); clear hr3 hA3 hb3))
  all_goals
   go_wp2_with fail
   go_meet
   exact ⟨A3, c3, _, rfl, HS3.out, HR3.out, HA3.out⟩
 obtain ⟨A3, c3, l3, rfl, hS3, hr3, hA3⟩ := hcut
 have HS3 := Lib.hid hS3
 have HR3 := Lib.hid hr3
 have HA3 := Lib.hid hA3
 have z3 := hS3.box.cell 3
 clear hS3 hr3 hA3 p2' x0 x1
 go_wp2_with fail
 refine (bput A3 _ 8 c3 30 2 10 _ 30 2 _ HR3.out hl3 HA3.out (by decide) (by decide) (by decide) rfl rfl rfl).mono ?_
 rintro e w4 ⟨A4, c4, rfl, hr4, hA4, _, _, hb4⟩
 have HS4 := Lib.hid (HS3.out.next hb4)
 have HR4 := Lib.hid hr4
 have HA4 := Lib.hid hA4
 have u4 := HS4.out.box.cell 4
 have u5 := HS4.out.box.cell 5
 clear hr4 hA4 hb4 z3
 have p5' := bput A4 _ 10 c4 0 4 14 _ (IntKind.u64.wrap (IntKind.u32.wrap 0)) 4 w4.drew HR4.out.drew hl4 HA4.out (by decide) (by decide) (by decide) rfl (by decide) rfl
 go_wp2_with fail
 go_region_with (first
  | (go_at_call 30; (with_reducible refine p5'.mono ?_); rintro e w5 ⟨A5, c5, rfl, hr5, hA5, _, _, hb5⟩; have HR5 := Lib.hid hr5; have HA5 := Lib.hid hA5; have HS5 := Lib.hid (HS4.out.drew.next hb5); have y4 := HS5.out.box.cell 4; have y5 := HS5.out.box.cell 5; clear hr5 hA5 hb5)
  | (go_at_call 30; (with_reducible refine (bput A5 _ 14 c5 0 4 18 _ (IntKind.u64.wrap (IntKind.u32.wrap 0)) 4 w5 HR5.out hl5 HA5.out (by decide) (by decide) (by decide) rfl (by decide) rfl).mono ?_); rintro e w6 ⟨A6, c6, rfl, _, _, _, ho6, hb6⟩; have HO6 := Lib.hid ho6; have HS6 := Lib.hid (HS5.out.next hb6); clear ho6 hb6))
 all_goals
  go_wp2_with fail
  go_ret
  refine ⟨⟨_, rfl, ?_⟩, HS6.out.keep⟩
  rw [hlen]
  exact own_down HO6.out HS5.out.keep.size
end Cht
end
section
open Go.RowKit
namespace Cht
open Txt (leB leB_len)
open Til (z16 In16 plL plc cntT cntT_le minN16 cutR cutR_in cutR_len PS tput_any cut_any box_any places_any head_any ccheck_any diffs diffs_len)
open Ric (rowB rowB_len foldU)
theorem cput (A : Option Addr) (B : List UInt8) (n m cap lo : Nat) (w : World) (h : RdL w lo w.heap.size A (B.map Txt.bv)) (hn : B.length = n) (hA : A = none → n = 0 ∧ cap = 0) (hl : n ≤ 1000000) (hm : n + 4 = m) :
  Calls Tryz.prog 29 #[.slice A n cap] w fun e w' => ∃ A' c', e = .returned (.slice A' m c') ∧ (∃ B' : List UInt8, B'.length = m ∧ w'.ownsRow w.heap.size 5 1 (.slice A' m c') m (B'.map Txt.bv)) ∧ Below w.heap.size w w' := by
 subst hn hm
 refine (Crc.put_any A B cap w (RdL.bytes h) hA hl).mono ?_
 rintro e w' ⟨v, rfl, ho, hb⟩
 have ho' : w'.ownsRow w.heap.size 5 1 v (Crc.put B).length ((Crc.put B).map Txt.bv) := ho
 have hlen : (Crc.put B).length = B.length + 4 := by simp [Crc.put, Crc.le4]
 obtain ⟨A', c', rfl, _⟩ := own_rd ho'
 rw [hlen] at ho'
 exact ⟨A', c', by rw [hlen], ⟨_, hlen, ho'⟩, hb⟩
theorem BX.grown {w : World} {vs : List Value} {wr w' : World} {r : Option Nat} (h : BX w vs wr) (hb : wr.grownBy w' r) (hr : ∀ b, r = some b → w.heap.size < b) : BX w vs w' :=
 ⟨h.box.grown hb (fun e => by have := hr _ e.symm; omega), ⟨hb.os.trans h.keep.os, hb.tape.trans h.keep.tape, hb.output.trans h.keep.output, Nat.le_trans h.keep.size hb.size, fun i hi => (hb.block i (by have := h.keep.size; omega) (fun e => by have := hr _ e.symm; omega)).trans (h.keep.block i hi)⟩⟩
structure QS (w : World) (vs : List Value) (A : Option Addr) (Z : List Int) (lo hi cw n : Nat) (Ap : Option Addr) (p0 bs : Nat) (i : Nat) (Ah : Option Addr) (nh ch : Nat) (vb : Value) (wr : World) : Prop where
 box : BX w vs wr
 rd : RdL wr lo hi A (Z.map z16)
 pl : RdL wr p0 bs Ap (plL cw n)
 hd : ∃ (LH : List UInt8) (lh hh : Nat), LH.length = nh ∧ RdL wr lh hh Ah (LH.map Txt.bv) ∧ hh ≤ wr.heap.size ∧ (∀ b, vb.ownBlock = some b → b < lh ∨ hh ≤ b) ∧ w.heap.size < lh
 hA : Ah = none → nh = 0 ∧ ch = 0
 hn : nh ≤ 18 + 6 * i
 bd : ∃ LB : List UInt8, wr.ownsRow bs 5 1 vb LB.length (LB.map Txt.bv) ∧ LB.length ≤ 1300 * i
 sz : bs ≤ wr.heap.size
def GotM (w : World) (e : Ending) (w' : World) : Prop := ∃ (L : List UInt8) (v : Value), e = .returned (.tuple #[v, .int .i64 0]) ∧ 0 < L.length ∧ L.length ≤ 100000 ∧ w'.ownsRow w.heap.size 5 1 v L.length (L.map Txt.bv) ∧ Below w.heap.size w w'
set_option maxRecDepth 100000 in
set_option maxHeartbeats 4000000 in
theorem cput_any (A : Option Addr) (Z : List Int) (W H N cap lo hi : Nat) (w : World) (h : RdL w lo hi A (Z.map z16)) (hhi : hi ≤ w.heap.size) (hZ : Z.length = N) (hNc : N ≤ cap) (hN : W * H = N) (hz : In16 Z) (hW1 : 2 ≤ W) (hW : W ≤ 40) (hH1 : 2 ≤ H) (hH : H ≤ 40) :
  Calls Tryz.prog 6 #[.agg (cells W H A N cap).toArray] w (GotM w) := by
 have hck := fun w => ccheck_any A W H N cap 30 0 0 hW1 (by omega) hH1 (by omega) hN (by decide) (by decide) w
 have hhd := fun w => header_any A W H N cap (by omega) (by omega) w
 have hhe := fun w => head_any W H (by omega) (by omega) w
 have hpl := fun w => places_any W H (by omega) (by omega) w
 have hbx := fun X Y hX hY w => box_any W H X Y (by omega) (by omega) hX hY w
 have hct := fun X Y wz hr hs hX hY => cut_any A Z W H X Y N cap lo hi wz hr hs hZ hNc hN hz (by omega) (by omega) (by omega) (by omega) hX hY
 have hcl := fun X Y tw th (h1 : 16 * X + tw ≤ W) (h2 : 16 * Y + th ≤ H) => cutR_len (x := 16 * X) (y := 16 * Y) (tw := tw) (th := th) hZ hN h1 h2 th (Nat.le_refl _)
 have hHL := headB_len W H
 have l1 : cntT W ≤ 3 := by unfold cntT; omega
 have l2 : cntT H ≤ 3 := by unfold cntT; omega
 have k1 : 1 ≤ cntT W := by unfold cntT; omega
 have hxw : ∀ X, X < cntT W → 16 * X + minN16 (W - 16 * X) ≤ W ∧ 1 ≤ minN16 (W - 16 * X) ∧ minN16 (W - 16 * X) ≤ 16 := fun X hX => by unfold cntT at hX; unfold minN16; omega
 have hyh : ∀ Y, Y < cntT H → 16 * Y + minN16 (H - 16 * Y) ≤ H ∧ 1 ≤ minN16 (H - 16 * Y) ∧ minN16 (H - 16 * Y) ≤ 16 := fun Y hY => by unfold cntT at hY; unfold minN16; omega
 have hbi := Blk.mk w 44 (cells W H A N cap)
 have hS0 : BX w (cells W H A N cap) (w.alloc (.cells (cells W H A N cap).toArray 44)) := ⟨hbi, bl _ _⟩
 have x0 := hbi.cell 0
 have x1 := hbi.cell 1
 have x2 := hbi.cell 2
 have x3 := hbi.cell 3
 have x4 := hbi.cell 4
 have x5 := hbi.cell 5
 unfold cells at hhd hS0 x0 x1 x2 x3 x4 x5 ⊢
 obtain ⟨n, hn⟩ : ∃ n, n = cntT W * cntT H := ⟨_, rfl⟩
 have hn9 : n ≤ 9 := by rw [hn]; exact Nat.mul_le_mul l1 l2
 rw [← hn] at hhe hpl
 obtain ⟨hz0, hhz0⟩ : ∃ z, z = 22 + 6 * n := ⟨_, rfl⟩
 have hz76 : hz0 ≤ 76 := by omega
 rw [← hhz0] at hhe
 generalize cntT W = cw at *
 generalize cntT H = cy at *
 have HNN := Lib.hid hn
 have HR := Lib.hid h
 have HS0 := Lib.hid hS0
 have HCK := Lib.hid hck
 have HHD := Lib.hid hhd
 have HHE := Lib.hid hhe
 have HPL := Lib.hid hpl
 have HBX := Lib.hid hbx
 have HCT := Lib.hid hct
 have HCL := Lib.hid hcl
 have HXW := Lib.hid hxw
 have HYH := Lib.hid hyh
 have HHL := Lib.hid hHL
 have HZI := Lib.hid hz
 clear h hS0 hck hhd hhe hpl hbx hct hcl hxw hyh hHL hbi hz hZ hN hn hhz0
 go_enter Tryz.func6, Tryz.ntmps6
 go_wp2_with fail
 refine (HCK.out _).mono ?_
 rintro e w1 ⟨rfl, hb1⟩
 have HS1 := Lib.hid (HS0.out.next hb1)
 have y0 := HS1.out.box.cell 0
 have y1 := HS1.out.box.cell 1
 have y2 := HS1.out.box.cell 2
 have y3 := HS1.out.box.cell 3
 have y4 := HS1.out.box.cell 4
 have y5 := HS1.out.box.cell 5
 clear x0 x1 x2 x3 x4 x5 HCK HS0 hb1
 go_wp2_with fail
 refine (HHD.out _).mono ?_
 rintro e w2 ⟨⟨vh, rfl, ho2⟩, hb2⟩
 rw [HHL.out] at ho2
 obtain ⟨Ah, ch, rfl, hr2, _, _, hA2⟩ := own_rd ho2
 have HS2 := Lib.hid (HS1.out.next hb2)
 have hb2s := hb2.size
 have z0 := HS2.out.box.cell 0
 have z1 := HS2.out.box.cell 1
 have HR2 := Lib.hid hr2
 have HA2 := Lib.hid hA2
 clear y0 y1 y2 y3 y4 y5 HHD hb2 ho2 hr2 hA2
 go_wp2_with fail
 refine (HHE.out _).mono ?_
 rintro e w' ⟨rfl, rfl⟩
 go_wp2_with fail
 refine (HPL.out _).mono ?_
 rintro e w3 ⟨vp, rfl, hP⟩
 obtain ⟨Ap, cp, rfl, hr3, _, _, hAp⟩ := own_rd hP.own
 have hs2 := HS2.out.keep.size
 have hs1 := HS1.out.keep.size
 have hsp := hP.keep.size
 have hlt1 := HS1.out.box.lt
 have hlt2 := hb2s
 have Q0 : QS w [.int .i64 (W : Int), .int .i64 (H : Int), .slice A N cap, .int .i64 30, .int .i32 0, .int .i32 0] A Z lo hi cw n Ap w2.heap.size w3.heap.size 0 Ah 18 ch (.slice none 0 0) w3 :=
  ⟨HS2.out.next hP.keep, (HR.out.next HS2.out.keep).next hP.keep, hr3, ⟨headB W H, w1.heap.size, w2.heap.size, HHL.out, HR2.out.next hP.keep, hsp, fun b hb => by simp [Value.ownBlock] at hb, hlt1⟩, HA2.out, by omega, ⟨[], World.ownsRow_nil _ _ _ _, Nat.zero_le _⟩, Nat.le_refl _⟩
 clear hP hr3 z0 z1 hAp HR2 HHE HPL HA2 HS1 HS2
 go_wp2_with fail
 go_loopw [5, 6, 38] (fun v5 v6 u wr => ∃ (i : Nat) (Ai : Option Addr) (nh ci : Nat), v5 = .slice Ai nh ci ∧ u = .int .i64 (i : Int) ∧ i ≤ n ∧ QS w [.int .i64 (W : Int), .int .i64 (H : Int), .slice A N cap, .int .i64 30, .int .i32 0, .int .i32 0] A Z lo hi cw n Ap w2.heap.size w3.heap.size i Ai nh ci v6 wr) (fun _ _ u _ => n - (intOf u).toNat)
 case atStart => exact ⟨0, Ah, 18, ch, rfl, rfl, Nat.zero_le _, Q0⟩
 case round =>
  obtain ⟨i, Ai, nh, ci, rfl, rfl, hi', S⟩ := hrel
  clear Q0
  have HS := Lib.hid S
  have hks := S.box.keep.size
  have hsz := S.sz
  by_cases hlt : i < n
  ·have d0 : decide ((i : Int) < (n : Int)) = true := decide_eq_true (by omega)
   have d0' : decide (i < n) = true := decide_eq_true hlt
   have h0i : (0 : Int) ≤ (i : Int) := by omega
   have hltI : (i : Int) < (n : Int) := by omega
   obtain ⟨b, off, rfl, g1, g2, g3, hc⟩ := S.pl.some (by rw [Til.plL_len]; omega)
   have hg := Til.plL_get (cw := cw) hlt
   have q0 := hc _ _ hg.1
   have q1 := hc _ _ hg.2
   rw [← Nat.add_assoc] at q1
   have hX : i % cw < cw := Nat.mod_lt _ k1
   have hY : i / cw < cy := Nat.div_lt_of_lt_mul (by rw [← HNN.out]; exact hlt)
   generalize i % cw = X at *
   generalize i / cw = Y at *
   have hal := bl wr (.cells #[.int .i64 (X : Int), .int .i64 (Y : Int)] 77)
   have hSA := S.box.next hal
   have bx0 := hSA.box.cell 0
   have bx1 := hSA.box.cell 1
   have hpb := Blk.mk wr 77 [.int .i64 (X : Int), .int .i64 (Y : Int)]
   have pb0 := hpb.cell 0
   have pb1 := hpb.cell 1
   have HSA := Lib.hid hSA
   have HPB := Lib.hid hpb
   have HAL := Lib.hid hal
   have hszA : (wr.alloc (.cells #[.int .i64 (X : Int), .int .i64 (Y : Int)] 77)).heap.size = wr.heap.size + 1 := by simp
   have HZA := Lib.hid hszA
   clear hc hg S hSA hpb hal hszA
   go_wp2_with fail
   refine (HBX.out X Y hX hY _).mono ?_
   rintro e wB ⟨rfl, hbB⟩
   have HSB := Lib.hid (HSA.out.next hbB)
   have HPB2 := Lib.hid (HPB.out.next hbB)
   have HALB := Lib.hid (bt HAL.out hbB)
   obtain ⟨tx1, tx2, tx3⟩ := HXW.out X hX
   obtain ⟨ty1, ty2, ty3⟩ := HYH.out Y hY
   have cx0 := HSB.out.box.cell 0
   have cx1 := HSB.out.box.cell 1
   have cx2 := HSB.out.box.cell 2
   have pc0 := HPB2.out.cell 0
   have pc1 := HPB2.out.cell 1
   have hszB := hbB.size
   rw [HZA.out] at hszB
   have hcutc := HCT.out X Y wB ((HS.out.rd.next HALB.out)) (by omega) hX hY
   have hcutl := HCL.out X Y _ _ tx1 ty1
   have hcuti := cutR_in HZI.out W (16 * X) (16 * Y) (minN16 (W - 16 * X)) (minN16 (H - 16 * Y))
   generalize minN16 (W - 16 * X) = tw at *
   generalize minN16 (H - 16 * Y) = th at *
   generalize cutR Z W (16 * X) (16 * Y) tw th = LC at *
   have HCUL := Lib.hid hcutl
   have HCUI := Lib.hid hcuti
   clear bx0 bx1 pb0 pb1 hbB q0 q1 hcutl hcuti
   go_wp2_with fail
   refine hcutc.mono ?_
   rintro e wC ⟨⟨vC, rfl, hoC⟩, hbC⟩
   obtain ⟨nc, hnc⟩ : ∃ nc, nc = th * tw := ⟨_, rfl⟩
   have hcutl := HCUL.out
   rw [← hnc] at hcutl
   rw [hcutl] at hoC
   obtain ⟨AC, cC, rfl, hrC, _, _, _⟩ := own_rd hoC
   have hput := tput_any AC LC tw th nc cC wB.heap.size wC.heap.size wC hrC (Nat.le_refl _) hcutl (by rw [hnc, Nat.mul_comm]) HCUI.out tx2 tx3 ty2 ty3
   have hrl := rowB_len ((diffs LC tw).map foldU)
   rw [List.length_map, diffs_len, hcutl] at hrl
   have hncl : nc ≤ 16 * 16 := by rw [hnc]; exact Nat.mul_le_mul ty3 tx3
   have hpk := Bits.pack_len (rowB ((diffs LC tw).map foldU))
   generalize rowB ((diffs LC tw).map foldU) = RB at *
   have hpkl : (Bits.pack RB).length ≤ 1220 := by rw [hpk]; unfold Bits.nb; omega
   generalize Bits.pack RB = PB at *
   have HSC := Lib.hid (HSB.out.next hbC)
   have HALC := Lib.hid (bt HALB.out hbC)
   have hszC := hbC.size
   have HOC := Lib.hid hoC
   clear hcutc hoC hrC hbC cx0 cx1 cx2 pc0 pc1 hpk hrl hnc hcutl
   go_wp2_with fail
   refine hput.mono ?_
   rintro e wD ⟨⟨vD, rfl, hoD⟩, hbD⟩
   have hpos := PB.length
   obtain ⟨nD, hnD⟩ : ∃ nD, nD = PB.length := ⟨_, rfl⟩
   rw [← hnD] at hoD hpkl
   obtain ⟨AD, cD, rfl, hrD, _, _, hAD⟩ := own_rd hoD
   obtain ⟨nE, hnE⟩ : ∃ nE, nE = nD + 4 := ⟨_, rfl⟩
   have hcr := cput AD PB nD nE cD wC.heap.size wD hrD hnD.symm hAD (by omega) hnE.symm
   have HSD := Lib.hid (HSC.out.next hbD)
   have HALD := Lib.hid (bt HALC.out hbD)
   have hszD := hbD.size
   have hnEl : 1 ≤ nE ∧ nE ≤ 1224 := by omega
   clear hput hoD hrD hAD hbD hnD hnE hpos
   go_wp2_with fail
   refine hcr.mono ?_
   rintro e wE ⟨AE, cE, rfl, ⟨BE, hBE, hoE⟩, hbE⟩
   have HSE := Lib.hid (HSD.out.next hbE)
   have HALE := Lib.hid (bt HALD.out hbE)
   have hszE := hbE.size
   have HOE := Lib.hid hoE
   have HBE := Lib.hid hBE
   obtain ⟨LB, hLB, hLBl⟩ := HS.out.bd
   obtain ⟨nb, hnb⟩ : ∃ nb, nb = LB.length := ⟨_, rfl⟩
   rw [← hnb] at hLB hLBl
   obtain ⟨Ab, cb, rfl, _, _, _, _⟩ := own_rd hLB
   obtain ⟨LH, lh, hh, hLHl, hLHr, hLHh, hLHa, hLHw⟩ := HS.out.hd
   obtain ⟨xx, hxx⟩ : ∃ xx, xx = hz0 + nb := ⟨_, rfl⟩
   have hxl : xx ≤ 20000 := by omega
   have wx1 : IntKind.i64.wrap ((hz0 : Int) + (nb : Int)) = (xx : Int) := by rw [hxx, Int.natCast_add]; exact IntWalk.i64_in _ (by omega)
   have wx2 : IntKind.u64.wrap (xx : Int) = (xx : Int) := IntWalk.u64_in _ (by omega)
   have wx3 : IntKind.u64.wrap (nE : Int) = (nE : Int) := IntWalk.u64_in _ (by omega)
   have hnhl := HS.out.hn
   obtain ⟨m4, hm4⟩ : ∃ m, m = nh + 4 := ⟨_, rfl⟩
   obtain ⟨m6, hm6⟩ : ∃ m, m = m4 + 2 := ⟨_, rfl⟩
   have hp1 := bput Ai LH nh ci xx 4 m4 lh (xx : Int) 4 wE ((hLHr.next HALE.out).wide (Nat.le_refl _) (by omega)) hLHl HS.out.hA (by omega) (by decide) (by omega) hm4.symm rfl rfl
   have HLB := Lib.hid hLB
   have HM4 := Lib.hid hm4
   have HM6 := Lib.hid hm6
   have hl5 : (LH ++ leB xx 4).length = m4 := by rw [List.length_append, leB_len, hLHl, ← hm4]
   have HL5 := Lib.hid hl5
   have HNB := Lib.hid hnb
   clear hcr hoE hbE hBE hxx hm4 hm6 hLHl hLHr hLB hl5 hnb
   go_wp2_with fail
   refine hp1.mono ?_
   rintro e wF ⟨A5, c5, rfl, hr5, hA5, _, _, hb5⟩
   have HSF := Lib.hid (HSE.out.next hb5)
   have HALF := Lib.hid (bt HALE.out hb5)
   have hszF := hb5.size
   have hp2 := bput A5 (LH ++ leB xx 4) m4 c5 nE 2 m6 wE.heap.size (nE : Int) 2 wF hr5 HL5.out hA5 (by omega) (by decide) (by have := HM4.out; omega) HM6.out.symm rfl rfl
   have HOF := Lib.hid (own_next HOE.out hb5)
   clear hp1 hr5 hA5 hb5
   go_wp2_with fail
   refine hp2.mono ?_
   rintro e wG ⟨A6, c6, rfl, hr6, hA6, _, _, hb6⟩
   have HSG := Lib.hid (HSF.out.next hb6)
   have HALG := Lib.hid (bt HALF.out hb6)
   have hszG := hb6.size
   have HOG := Lib.hid (own_next HOF.out hb6)
   have HBG := Lib.hid (own_next HLB.out HALG.out)
   obtain ⟨_, _, eq5, hrE, _, _, hAE⟩ := own_rd HOG.out
   injection eq5 with eq5 _ eq6
   subst eq5 eq6
   have HRE := Lib.hid hrE.news
   have HAE := Lib.hid hAE
   have HR6 := Lib.hid hr6
   have HA6 := Lib.hid hA6
   have hnl : (BE.map Txt.bv).length = nE * 1 := by rw [List.length_map, HBE.out, Nat.mul_one]
   have HNL := Lib.hid hnl
   have hbs := own_ge HLB.out
   have hbl := fun b hb => (own_lt HLB.out (b := b) hb).2
   obtain ⟨i0, hi0, hz0', hz1, hz2⟩ := info_parts Txt.infoByte
   clear hp2 hr6 hA6 hb6 hrE hAE hnl
   go_wp2_with (at_builtin; refine wpList_append_mine rfl _ _ 35 rfl w3.heap.size 5 i0 (.int .u8 0) 1 1 Tryz.underlying35 hi0 hz0' hz1 hz2 rfl (by decide) _ _ _ rfl HBG.out AE nE cE _ rfl HNL.out HAE.out HRE.out (fun u hu => by obtain ⟨z, _, rfl⟩ := List.mem_map.1 hu; rfl) (by unfold maxLen; omega) (by omega) (by omega) ?_; intro v2 w2' hown2 hgrow2 hown3)
   have hg2 := hgrow2.size
   have hlen2 : (LB ++ BE).length = nb + nE := by rw [List.length_append, HBE.out, ← HNB.out]
   refine ⟨⟨i + 1, A6, m6, c6, rfl, by simp, by omega, ⟨HSG.out.grown hgrow2 (fun b hb => by have := hbs b hb; omega), ((HS.out.rd.next HALG.out).grown hgrow2 (fun g e => by have := hbs g e; omega)), (HS.out.pl.next HALG.out).grown hgrow2 (fun g e => by have := hbs g e; omega),
    ⟨_, wF.heap.size, wG.heap.size, ?_, HR6.out.grown hgrow2 (fun g e => by have := hbl g e; omega), hg2, fun b hb => ?_, by omega⟩, HA6.out, by have := HM4.out; have := HM6.out; omega, ⟨LB ++ BE, ?_, by rw [hlen2]; omega⟩, by omega⟩⟩, by simp [intOf]; omega⟩
   ·rw [List.length_append, HL5.out, leB_len]
    exact HM6.out.symm
   ·rcases hown3 with h | h
    ·have := hbl b (by rw [← hb, h]; rfl)
     omega
    ·have := h b hb
     omega
   ·rw [hlen2, List.map_append]
    exact hown2
  ·obtain rfl : i = n := by omega
   have d0 : decide ((i : Int) < (i : Int)) = false := decide_eq_false (by omega)
   have d0' : decide (i < i) = false := decide_eq_false hlt
   obtain ⟨LB, hLB, hLBl⟩ := HS.out.bd
   obtain ⟨nb, hnb⟩ : ∃ nb, nb = LB.length := ⟨_, rfl⟩
   rw [← hnb] at hLB hLBl
   obtain ⟨Ab, cb, rfl, hrb, _, _, hAb⟩ := own_rd hLB
   obtain ⟨LH, lh, hh, hLHl, hLHr, hLHh, hLHa, hLHw⟩ := HS.out.hd
   have hnhl := HS.out.hn
   obtain ⟨m4, hm4⟩ : ∃ m, m = nh + 4 := ⟨_, rfl⟩
   have hcr := cput Ai LH nh m4 ci lh wr (hLHr.wide (Nat.le_refl _) hLHh) hLHl HS.out.hA (by omega) hm4.symm
   have hm4l : 4 ≤ m4 ∧ m4 ≤ 80 := by omega
   have HNB := Lib.hid hnb
   have HRB := Lib.hid hrb
   have HAB := Lib.hid hAb
   clear hLB hrb hLHl hLHr hLHh hLHa hm4 hnb hAb S
   go_wp2_with fail
   refine hcr.mono ?_
   rintro e wE ⟨AE, cE, rfl, ⟨BE, hBE, hoE⟩, hbE⟩
   have HOE := Lib.hid hoE
   have HBE := Lib.hid hBE
   have HSE := Lib.hid (HS.out.box.next hbE)
   have HRN := Lib.hid (HRB.out.next hbE).news
   have hszE := hbE.size
   have hbs := own_ge HOE.out
   have hnl : (LB.map Txt.bv).length = nb * 1 := by rw [List.length_map, ← HNB.out, Nat.mul_one]
   have HNL := Lib.hid hnl
   obtain ⟨i0, hi0, hz0', hz1, hz2⟩ := info_parts Txt.infoByte
   clear hcr hoE hBE hbE hnl
   go_wp2_with (at_builtin; refine wpList_append_mine rfl _ _ 35 rfl wr.heap.size 5 i0 (.int .u8 0) 1 1 Tryz.underlying35 hi0 hz0' hz1 hz2 rfl (by decide) _ _ _ rfl HOE.out Ab nb cb _ rfl HNL.out HAB.out HRN.out (fun u hu => by obtain ⟨z, _, rfl⟩ := List.mem_map.1 hu; rfl) (by unfold maxLen; omega) (by omega) (by omega) ?_; intro v2 w2' hown2 hgrow2 hown3)
   go_ret2
   have hlen2 : (BE ++ LB).length = m4 + nb := by rw [List.length_append, HBE.out, ← HNB.out]
   refine ⟨BE ++ LB, v2, rfl, by rw [hlen2]; omega, by rw [hlen2]; omega, ?_, (HSE.out.grown hgrow2 (fun b hb => by have := hbs b hb; omega)).keep⟩
   rw [hlen2, List.map_append]
   exact own_down hown2 (by omega)
end Cht
end
section
open Go.RowKit
namespace Cht
open Txt (leB leB_len leVal leVal_lt bv)
open Til (z16 In16 plL plc cntT cntT_le minN16)
def sumOk (L : List UInt8) : Bool := decide (4 ≤ L.length) && Crc.get (L.take (L.length - 4)) (L.drop (L.length - 4))
def GotC (w : World) (L : List UInt8) (e : Ending) (w' : World) : Prop :=
 (∃ (A : Option Addr) (n cap : Nat), e = .returned (.tuple #[.slice A n cap, .bool (sumOk L)]) ∧ (sumOk L = true → n = L.length - 4 ∧ (A = none → n = 0 ∧ cap = 0) ∧ RdL w' w.heap.size w'.heap.size A ((L.take (L.length - 4)).map bv))) ∧ Below w.heap.size w w'
theorem cget_any (A : Option Addr) (L : List UInt8) (n cap lo hi : Nat) (w : World) (h : RdL w lo hi A (L.map bv)) (hn : L.length = n) (hl : n ≤ 1000000) (hcap : n ≤ cap) :
  Calls Tryz.prog 61 #[.slice A n cap] w (GotC w L) := by
 subst hn
 by_cases h4 : L.length < 4
 ·have hs : sumOk L = false := by unfold sumOk; rw [decide_eq_false (by omega), Bool.false_and]
  refine (Crc.get_short A L cap w h4).mono ?_
  rintro e w' ⟨rfl, rfl⟩
  refine ⟨⟨none, 0, 0, by rw [hs], fun h => ?_⟩, Below.refl _ _⟩
  rw [hs] at h
  cases h
 ·have hs : sumOk L = Crc.get (L.take (L.length - 4)) (L.drop (L.length - 4)) := by unfold sumOk; rw [decide_eq_true (by omega), Bool.true_and]
  obtain ⟨t0, t1, t2, t3, ht⟩ := Frm.four_of (t := L.drop (L.length - 4)) (by rw [List.length_drop]; omega)
  have happ : L.take (L.length - 4) ++ [t0, t1, t2, t3] = L := by rw [← ht, List.take_append_drop]
  have hb : Crc.Bytes w A (L.take (L.length - 4) ++ [t0, t1, t2, t3]) := by rw [happ]; exact h.bytes
  have hlt : (L.take (L.length - 4)).length = L.length - 4 := by rw [List.length_take]; omega
  have := Crc.get_core A (L.take (L.length - 4)) t0 t1 t2 t3 (L.length - 4) cap w hlt hb (by omega) (by omega)
  rw [show L.length - 4 + 4 = L.length by omega] at this
  refine this.mono ?_
  rintro e w' ⟨v, rfl, hv, hb⟩
  rw [ht] at hs
  rw [← hs] at hv ⊢
  by_cases hk : sumOk L = true
  ·rw [if_pos hk] at hv
   have ho : w'.ownsRow w.heap.size 5 1 v (L.take (L.length - 4)).length ((L.take (L.length - 4)).map bv) := hv
   obtain ⟨A', c', rfl, hr, _, _, hA'⟩ := own_rd ho
   rw [hlt] at hA' ⊢
   exact ⟨⟨A', _, c', rfl, fun _ => ⟨rfl, hA', hr⟩⟩, hb⟩
  ·rw [if_neg hk] at hv
   subst hv
   exact ⟨⟨none, 0, 0, rfl, fun h => absurd h hk⟩, hb⟩
def numL (L : List UInt8) (i k : Nat) : Nat := if i + k ≤ L.length then leVal L i k else 0
theorem numL_lt (L : List UInt8) (i k : Nat) : numL L i k < 2 ^ (8 * k) := by
 unfold numL
 split
 ·exact leVal_lt L i k
 ·exact Nat.two_pow_pos _
theorem num_any (A : Option Addr) (L : List UInt8) (n cap i k lo hi : Nat) (xi xk : Int) (w : World) (h : RdL w lo hi A (L.map bv)) (hn : L.length = n) (hl : n ≤ 1000000) (hk : k ≤ 4) (hi' : i ≤ 1000000) (hxi : xi = (i : Int)) (hxk : xk = (k : Int)) :
  Calls Tryz.prog 60 #[.slice A n cap, .int .i64 xi, .int .i64 xk] w fun e w' => e = .returned (.int .i64 (numL L i k : Int)) ∧ w = w' := by
 subst hxi hxk
 have hlt := numL_lt L i k
 have hp : 2 ^ (8 * k) ≤ 2 ^ 32 := Nat.pow_le_pow_right (by decide) (by omega)
 unfold numL at hlt ⊢
 by_cases hle : i + k ≤ L.length
 ·rw [if_pos hle] at hlt ⊢
  have hg := Txt.get_ok A L n cap i k lo hi w h hn (by omega) (by omega) hl
  generalize leVal L i k = x at *
  have wx : IntKind.i64.wrap (x : Int) = (x : Int) := IntWalk.i64_in _ (by omega)
  clear h hn
  go_enter Tryz.func60, Tryz.ntmps60
  go_wp2_with fail
  refine hg.mono ?_
  rintro e w' ⟨rfl, rfl⟩
  go_wp2_with fail
  go_ret
  exact ⟨rfl, rfl⟩
 ·rw [if_neg hle] at hlt ⊢
  have hg := Txt.get_no A n cap i k w (by omega) (by omega) hl (by omega)
  clear h hn
  go_enter Tryz.func60, Tryz.ntmps60
  go_wp2_with fail
  refine hg.mono ?_
  rintro e w' ⟨rfl, rfl⟩
  go_wp2_with fail
  go_ret
  exact ⟨rfl, rfl⟩
end Cht
end
section
open Go.RowKit
namespace Cht
open Til (z16 In16 cntT cntT_le minN16 box_any tcheck_any)
def GotY (w : World) (gz N : Nat) (e : Ending) (w' : World) : Prop := (∃ b, e = .returned (.bool b)) ∧ (∃ cs : List Value, cs.length = N ∧ Blk w' gz 62 cs) ∧ w.grownBy w' (some gz)
structure LYS (w : World) (vs ps : List Value) (gz N : Nat) (Az : Option Addr) (zs : List Value) (lo hi : Nat) (wr : World) : Prop where
 bf : Blk wr w.heap.size 42 vs
 keep : w.grownBy wr (some gz)
 z : ∃ cs : List Value, cs.length = N ∧ Blk wr gz 62 cs
 rd : RdL wr lo hi Az zs
 sz : w.heap.size < wr.heap.size
theorem LYS.next {w : World} {vs ps : List Value} {gz N : Nat} {Az : Option Addr} {zs : List Value} {lo hi : Nat} {wr w' : World} (h : LYS w vs ps gz N Az zs lo hi wr) (hb : Below wr.heap.size wr w') : LYS w vs ps gz N Az zs lo hi w' :=
 ⟨h.bf.next hb, Ric.gb_up h.keep (only_below hb none) (fun q hq => by cases hq), by obtain ⟨cs, h1, h2⟩ := h.z; exact ⟨cs, h1, h2.next hb⟩, h.rd.next hb, Nat.lt_of_lt_of_le h.sz hb.size⟩
set_option maxRecDepth 100000 in
set_option maxHeartbeats 4000000 in
theorem lay_any (gz N W H X Y n capz lo hi : Nat) (Az : Option Addr) (Z : List Int) (cs : List Value) (w : World) (hb : Blk w gz 62 cs) (hcs : cs.length = N) (hN : W * H = N) (h : RdL w lo hi Az (Z.map z16)) (hlo : gz < lo) (hhi : hi ≤ w.heap.size)
  (hZ : Z.length = n) (hn : n = minN16 (W - 16 * X) * minN16 (H - 16 * Y)) (hcz : n ≤ capz) (hW1 : 2 ≤ W) (hW : W ≤ 256) (hH1 : 2 ≤ H) (hH : H ≤ 256) (hX : X < cntT W) (hY : Y < cntT H) :
  Calls Tryz.prog 35 #[.agg #[.int .i64 (W : Int), .int .i64 (H : Int), .slice (some ⟨gz, 0, none⟩) N N], .agg #[.int .i64 (X : Int), .int .i64 (Y : Int)], .slice Az n capz] w (GotY w gz N) := by
 have hbx := fun w => box_any W H X Y hW hH hX hY w
 have hck := fun w => tcheck_any (some ⟨gz, 0, none⟩) W H N N hW1 hW hH1 hH hN w
 have hNl : N ≤ 65536 := by rw [← hN]; exact Nat.mul_le_mul hW hH
 have hxw : 16 * X + minN16 (W - 16 * X) ≤ W ∧ 1 ≤ minN16 (W - 16 * X) ∧ minN16 (W - 16 * X) ≤ 16 := by unfold cntT at hX; unfold minN16; omega
 have hyh : 16 * Y + minN16 (H - 16 * Y) ≤ H ∧ 1 ≤ minN16 (H - 16 * Y) ∧ minN16 (H - 16 * Y) ≤ 16 := by unfold cntT at hY; unfold minN16; omega
 generalize minN16 (W - 16 * X) = tw at *
 generalize minN16 (H - 16 * Y) = th at *
 have hn256 : n ≤ 16 * 16 := by rw [hn]; exact Nat.mul_le_mul hxw.2.2 hyh.2.2
 have hmul : IntKind.i64.wrap ((tw : Int) * (th : Int)) = (n : Int) := by rw [← Int.natCast_mul, ← hn]; exact IntWalk.i64_in _ (by omega)
 obtain ⟨x0, hx0⟩ : ∃ x, x = 16 * X := ⟨_, rfl⟩
 obtain ⟨y0, hy0⟩ : ∃ y, y = 16 * Y := ⟨_, rfl⟩
 rw [← hx0] at hbx hxw
 rw [← hy0] at hbx hyh
 have hgl := hb.lt
 have hS0 : LYS w [.int .i64 (W : Int), .int .i64 (H : Int), .slice (some ⟨gz, 0, none⟩) N N] [.int .i64 (X : Int), .int .i64 (Y : Int)] gz N Az (Z.map z16) lo hi (w.alloc (.cells #[.int .i64 (W : Int), .int .i64 (H : Int), .slice (some ⟨gz, 0, none⟩) N N] 42)) :=
  ⟨Blk.mk w 42 [.int .i64 (W : Int), .int .i64 (H : Int), .slice (some ⟨gz, 0, none⟩) N N], only_below (bl _ _) _, ⟨cs, hcs, hb.alloc _⟩, h.alloc _, by simp⟩
 have hS1 := hS0.next (bl _ (.cells #[.int .i64 (X : Int), .int .i64 (Y : Int)] 77))
 have hpb := Blk.mk (w.alloc (.cells #[.int .i64 (W : Int), .int .i64 (H : Int), .slice (some ⟨gz, 0, none⟩) N N] 42)) 77 [.int .i64 (X : Int), .int .i64 (Y : Int)]
 have p0 := hpb.cell 0
 have p1 := hpb.cell 1
 have c0 := hS1.bf.cell 0
 have c1 := hS1.bf.cell 1
 have HS := Lib.hid hS1
 have HZ := Lib.hid hZ
 have HN := Lib.hid hN
 have HNN := Lib.hid hn
 have tw0 : ((tw : Int) == 0) = false := by rw [beq_eq_false_iff_ne]; omega
 have tw0' : (tw == 0) = false := by rw [beq_eq_false_iff_ne]; omega
 clear hS0 hS1 hpb hZ hN hn hx0 hy0 hb hcs h hX hY
 go_enter Tryz.func35, Tryz.ntmps35
 go_wp2_with fail
 refine (hbx _).mono ?_
 rintro e w1 ⟨rfl, hb1⟩
 have HS1 := Lib.hid (HS.out.next hb1)
 have d0 := HS1.out.bf.cell 0
 have d1 := HS1.out.bf.cell 1
 have d2 := HS1.out.bf.cell 2
 clear p0 p1 c0 c1 HS hb1
 go_wp2_with fail
 refine (hck _).mono ?_
 rintro e w2 ⟨rfl, hb2⟩
 have HS2 := Lib.hid (HS1.out.next hb2)
 clear d0 d1 d2 HS1 hb2
 go_wp2_with fail
 go_loopw [39] (fun u wr => ∃ r : Nat, u = .int .i64 (r : Int) ∧ r ≤ th ∧ LYS w [.int .i64 (W : Int), .int .i64 (H : Int), .slice (some ⟨gz, 0, none⟩) N N] [.int .i64 (X : Int), .int .i64 (Y : Int)] gz N Az (Z.map z16) lo hi wr) (fun u _ => th - (intOf u).toNat)
 case atStart => exact ⟨0, rfl, Nat.zero_le _, HS2.out⟩
 case round =>
  clear HS2
  obtain ⟨r, rfl, hr, S⟩ := hrel
  have HS := Lib.hid S
  by_cases hlt : r < th
  ·have d0 : decide ((r : Int) < (th : Int)) = true := decide_eq_true (by omega)
   have d0' : decide (r < th) = true := decide_eq_true hlt
   have d2 : wr.cell? ⟨w.heap.size, 2, none⟩ = some (.slice (some ⟨gz, 0, none⟩) N N) := S.bf.cell 2
   have d3 : wr.cell? ⟨w.heap.size, 0, none⟩ = some (.int .i64 (W : Int)) := S.bf.cell 0
   obtain ⟨m, hm⟩ : ∃ m, m = y0 + r := ⟨_, rfl⟩
   obtain ⟨mW, hmW⟩ : ∃ x, x = m * W := ⟨_, rfl⟩
   obtain ⟨o, ho⟩ : ∃ o, o = mW + x0 := ⟨_, rfl⟩
   obtain ⟨z0, hz0⟩ : ∃ z, z = r * tw := ⟨_, rfl⟩
   obtain ⟨r1, hr1⟩ : ∃ x, x = r + 1 := ⟨_, rfl⟩
   obtain ⟨z1, hz1⟩ : ∃ z, z = r1 * tw := ⟨_, rfl⟩
   have hz01 : z1 = z0 + tw := by rw [hz1, hz0, hr1, Nat.add_mul, Nat.one_mul]
   have hz1n : z1 ≤ n := by rw [hz1, HNN.out, Nat.mul_comm]; exact Nat.mul_le_mul_left _ (by omega)
   have hmWN : mW + W ≤ N := by
    have : (m + 1) * W ≤ H * W := Nat.mul_le_mul_right _ (by omega)
    rw [← HN.out, hmW, Nat.mul_comm W H]
    rw [Nat.add_mul, Nat.one_mul] at this
    exact this
   have wm : IntKind.i64.wrap ((y0 : Int) + (r : Int)) = (m : Int) := by rw [hm, Int.natCast_add]; exact IntWalk.i64_in _ (by omega)
   have wmW : IntKind.i64.wrap ((m : Int) * (W : Int)) = (mW : Int) := by rw [hmW, Int.natCast_mul]; exact IntWalk.i64_in _ (by rw [← Int.natCast_mul, ← hmW]; omega)
   have wo : IntKind.i64.wrap ((mW : Int) + (x0 : Int)) = (o : Int) := by rw [ho, Int.natCast_add]; exact IntWalk.i64_in _ (by omega)
   have wz0 : IntKind.i64.wrap ((r : Int) * (tw : Int)) = (z0 : Int) := by rw [hz0, Int.natCast_mul]; exact IntWalk.i64_in _ (by rw [← Int.natCast_mul, ← hz0]; omega)
   have wr1 : IntKind.i64.wrap ((r : Int) + 1) = (r1 : Int) := by rw [hr1, Int.natCast_add]; exact IntWalk.i64_in _ (by omega)
   have wz1 : IntKind.i64.wrap ((r1 : Int) * (tw : Int)) = (z1 : Int) := by rw [hz1, Int.natCast_mul]; exact IntWalk.i64_in _ (by rw [← Int.natCast_mul, ← hz1]; omega)
   have l1 : (o : Int) ≤ (N : Int) := by omega
   have l2 : (0 : Int) ≤ (o : Int) := by omega
   have l3 : N ≠ o := by omega
   have l4 : (z0 : Int) ≤ (z1 : Int) := by omega
   have l5 : (0 : Int) ≤ (z0 : Int) := by omega
   have l6 : (z1 : Int) ≤ (capz : Int) := by omega
   have l7 : capz ≠ z0 := by omega
   have l8 : o ≤ N := by omega
   have l9 : z0 ≤ z1 := by omega
   have l10 : z1 ≤ capz := by omega
   obtain ⟨zb, zo, rfl, g1, g2, g3, _⟩ := S.rd.some (by rw [List.length_map, HZ.out]; omega)
   have hrd := (S.rd.drop z0).take tw
   obtain ⟨cs, hcs, hcb⟩ := S.z
   have HCB := Lib.hid hcb
   have HCS := Lib.hid hcs
   have HRD := Lib.hid hrd
   have hl : (((Z.map z16).drop z0).take tw).length = tw := by rw [List.length_take, List.length_drop, List.length_map, HZ.out]; omega
   have HL := Lib.hid hl
   have ho1 : ∀ u ∈ ((Z.map z16).drop z0).take tw, u.oneCell' = true := fun u hu => by
    obtain ⟨x, _, rfl⟩ := List.mem_map.1 (List.mem_of_mem_drop (List.mem_of_mem_take hu))
    rfl
   have HO1 := Lib.hid ho1
   have hsub : N - o ≥ tw := by omega
   have hz10 : z1 - z0 = tw := by omega
   have HR1 := Lib.hid hr1
   clear S hcs hcb hrd hl ho1 hm hmW ho hz0 hz1 hr1 hz01
   go_wp2_with fail
   go_still_tail 20, (by kernel_rfl)
   change wpList _ _ _ _ _ wr.drew
   refine wpList_copy_own rfl _ _ 22 22 rfl 62 Tryz.underlying22 (by kernel_rfl) gz o (N - o) (N - o) ⟨zb, zo + z0, none⟩ tw (capz - z0) rfl rfl cs.toArray 62 HCB.out (((Z.map z16).drop z0).take tw) ?_ (HRD.out.news _ rfl) (by simp [HL.out, HCS.out]; omega) HO1.out ?_
   ·rw [HL.out]; exact (Nat.min_eq_left (by omega)).symm
   have hlen : (cs.toArray.toList.take o ++ ((((Z.map z16).drop z0).take tw) ++ cs.toArray.toList.drop (o + (((Z.map z16).drop z0).take tw).length))).length = N := by
    rw [List.length_append, List.length_append, List.length_take, List.length_drop, HL.out, List.toList_toArray, HCS.out]; omega
   have hzl : (((Z.map z16).drop z0).take tw).length = tw := HL.out
   generalize cs.toArray.toList.take o ++ ((((Z.map z16).drop z0).take tw) ++ cs.toArray.toList.drop (o + (((Z.map z16).drop z0).take tw).length)) = nw at *
   generalize ((Z.map z16).drop z0).take tw = zt at *
   have hgr : wr.grownBy (wr.drew.setRow gz nw.toArray) (some gz) :=
    ⟨rfl, rfl, rfl, by simp [World.setRow], fun q h1 h2 => setRow_other wr.drew gz _ q (fun e => h2 (by rw [e]))⟩
   have hblk : Blk (wr.drew.setRow gz nw.toArray) gz 62 nw := setRow_heap wr.drew gz _ _ 62 _ HCB.out
   generalize wr.drew.setRow gz nw.toArray = wn at *
   rw [hzl]
   have HGR := Lib.hid hgr
   have HBK := Lib.hid hblk
   have HLN := Lib.hid hlen
   clear hgr hblk hlen hzl HL HO1 HRD
   go_wp2_with fail
   have hgr := HGR.out
   have hr1 := HR1.out
   refine ⟨⟨r1, rfl, by omega, ⟨?_, Ric.gb_trans HS.out.keep hgr, ⟨_, HLN.out, HBK.out⟩, HS.out.rd.grown hgr (fun g e => by injection e with e; omega), ?_⟩⟩, by simp [intOf]; omega⟩
   ·exact HS.out.bf.grown hgr (fun e => by injection e with e; omega)
   ·exact Nat.lt_of_lt_of_le HS.out.sz hgr.size
  ·obtain rfl : r = th := by omega
   have d0 : decide ((r : Int) < (r : Int)) = false := decide_eq_false (by omega)
   have d0' : decide (r < r) = false := decide_eq_false hlt
   clear S
   go_wp2_with fail
   go_ret
   exact ⟨⟨_, rfl⟩, HS.out.z, HS.out.keep⟩
end Cht
end
section
open Go.RowKit
theorem results_cell_tmp_row {P : Program} {fn : Func} {p u : Tmp} {ty : TypeId} (h : fn.results = #[.cell p ty, .tmp u]) (tmps : Array Value) (w : World) (g : Nat) (t : TypeId) (cs : Array Value) (fr : Nat × Nat) (d : TypeDesc)
  (hp : tmps.getD p undef = .pointer (some ⟨g, 0, none⟩)) (hg : w.heap[g]? = some (.cells cs t fr))
  (hu : P.underlying ty = some d) (hd : (match d with | .struct _ | .array _ _ => true | _ => false) = true) (hi : (P.info? ty).map (·.size) = some cs.size) :
  (results fn tmps).run P w = .ok (.tuple #[.agg cs, tmps.getD u undef]) w := by
 rw [results_cell_tmp h, hp]
 simp [asAddr, run_loadVar_row w g t ty cs fr d hg hu hd hi, Result.andThen]
theorem results_cell_row {P : Program} {fn : Func} {p : Tmp} {ty : TypeId} (h : fn.results = #[.cell p ty]) (tmps : Array Value) (w : World) (g : Nat) (t : TypeId) (cs : Array Value) (fr : Nat × Nat) (d : TypeDesc)
  (hp : tmps.getD p undef = .pointer (some ⟨g, 0, none⟩)) (hg : w.heap[g]? = some (.cells cs t fr))
  (hu : P.underlying ty = some d) (hd : (match d with | .struct _ | .array _ _ => true | _ => false) = true) (hi : (P.info? ty).map (·.size) = some cs.size) :
  (results fn tmps).run P w = .ok (.agg cs) w := by
 have hp' : tmps[p]?.getD undef = .pointer (some ⟨g, 0, none⟩) := by simpa using hp
 simp [results, h, hp', asAddr, run_loadVar_row w g t ty cs fr d hg hu hd hi]
namespace Cht
open Txt (leVal bv)
open Til (cntT cntT_le)
def iv (l : List Nat) : List Value := l.map fun (x : Nat) => Value.int .i64 (x : Int)
theorem iv_len (l : List Nat) : (iv l).length = l.length := by simp [iv]
theorem iv_get {l : List Nat} {i x : Nat} (h : l[i]? = some x) : (iv l)[i]? = some (.int .i64 (x : Int)) := by simp [iv, h]
theorem iv_append (a b : List Nat) : iv (a ++ b) = iv a ++ iv b := by simp [iv]
def hW (L : List UInt8) : Nat := numL L 4 2
def hH (L : List UInt8) : Nat := numL L 6 2
def hC (L : List UInt8) : Nat := numL L 8 2
def hX (L : List UInt8) : Int := IntKind.i32.wrap (numL L 10 4 : Int)
def hY (L : List UInt8) : Int := IntKind.i32.wrap (numL L 14 4 : Int)
def from' (L : List UInt8) (i : Nat) : Nat := numL L (18 + 6 * i) 4
def size' (L : List UInt8) (i : Nat) : Nat := numL L (18 + 6 * i + 4) 2
def cnt (L : List UInt8) : Nat := cntT (hW L) * cntT (hH L)
def headN (L : List UInt8) : Nat := 22 + 6 * cnt L
def dirAt (L : List UInt8) : Nat → Option Nat
 | 0 => some (headN L)
 | i + 1 => match dirAt L i with
  | none => none
  | some a => if from' L i = a then some (a + size' L i) else none
theorem dir_none {L : List UInt8} {i : Nat} (h : dirAt L i = none) : ∀ j, dirAt L (i + j) = none
 | 0 => h
 | j + 1 => by
  show dirAt L (i + j + 1) = none
  rw [dirAt, dir_none h j]
def froms (L : List UInt8) (i : Nat) : List Nat := (List.range i).map (from' L)
def sizes (L : List UInt8) (i : Nat) : List Nat := (List.range i).map (size' L)
theorem froms_len (L : List UInt8) (i : Nat) : (froms L i).length = i := by simp [froms]
theorem sizes_len (L : List UInt8) (i : Nat) : (sizes L i).length = i := by simp [sizes]
theorem froms_succ (L : List UInt8) (i : Nat) : froms L (i + 1) = froms L i ++ [from' L i] := by simp [froms, List.range_succ]
theorem sizes_succ (L : List UInt8) (i : Nat) : sizes L (i + 1) = sizes L i ++ [size' L i] := by simp [sizes, List.range_succ]
theorem froms_get {L : List UInt8} {n i : Nat} (h : i < n) : (froms L n)[i]? = some (from' L i) := by simp [froms, h]
theorem sizes_get {L : List UInt8} {n i : Nat} (h : i < n) : (sizes L n)[i]? = some (size' L i) := by simp [sizes, h]
theorem dir_end {L : List UInt8} : ∀ {n a : Nat}, dirAt L n = some a → ∀ i, i < n → from' L i + size' L i ≤ a
 | 0, a, h, i, hi => by omega
 | n + 1, a, h, i, hi => by
  rw [dirAt] at h
  cases hd : dirAt L n with
  | none => rw [hd] at h; cases h
  | some b =>
   rw [hd] at h
   dsimp only at h
   split at h
   ·rename_i hf
    injection h with h
    rcases Nat.lt_or_ge i n with h1 | h1
    ·have := dir_end hd i h1
     omega
    ·obtain rfl : i = n := by omega
     omega
   ·cases h
def openC (L : List UInt8) : Int :=
 if L.length < 18 then 5 else if numL L 0 4 ≠ 1296978516 then 3 else
 if hW L < 2 ∨ hH L < 2 ∨ 256 < hW L ∨ 256 < hH L ∨ hC L < 1 ∨ 1000 < hC L then 2 else
 if L.length < headN L then 5 else if sumOk (L.take (headN L)) = false then 4 else
 match dirAt L (cnt L) with
 | none => 2
 | some a => if a = L.length then 0 else 5
def zeroD : List Value := [.int .i64 0, .int .i64 0, .slice none 0 0, .int .i64 0, .int .i32 0, .int .i32 0, .slice none 0 0, .slice none 0 0]
def dirV (L : List UInt8) (vA vS : Value) : List Value := [.int .i64 (hW L : Int), .int .i64 (hH L : Int), .slice none 0 0, .int .i64 (hC L : Int), .int .i32 (hX L), .int .i32 (hY L), vA, vS]
def DirOk (w w' : World) (L : List UInt8) (D : List Value) (c : Int) : Prop :=
 D.length = 8 ∧ (∀ u ∈ D, u.oneCell' = true) ∧ (c = 0 → ∃ A1 c1 A2 c2, D = dirV L (.slice A1 (cnt L) c1) (.slice A2 (cnt L) c2) ∧ cnt L ≤ c1 ∧ cnt L ≤ c2 ∧ RdL w' w.heap.size w'.heap.size A1 (iv (froms L (cnt L))) ∧ RdL w' w.heap.size w'.heap.size A2 (iv (sizes L (cnt L))))
def GotO (w : World) (L : List UInt8) (e : Ending) (w' : World) : Prop := ∃ D : List Value, e = .returned (.tuple #[.agg D.toArray, .int .i64 (openC L)]) ∧ DirOk w w' L D (openC L) ∧ Below w.heap.size w w'
theorem zeroD_one : ∀ u ∈ zeroD, u.oneCell' = true := by
 intro u hu
 simp only [zeroD, List.mem_cons, List.not_mem_nil, or_false] at hu
 rcases hu with rfl | rfl | rfl | rfl | rfl | rfl | rfl | rfl <;> rfl
theorem GotO.no {w w' : World} {L : List UInt8} {c : Int} (hc : openC L = c) (hc0 : c ≠ 0) (hb : Below w.heap.size w w') : GotO w L (.returned (.tuple #[.agg zeroD.toArray, .int .i64 c])) w' :=
 ⟨zeroD, by rw [hc], ⟨rfl, zeroD_one, fun h => absurd (hc.symm.trans h) hc0⟩, hb⟩
structure OX (w : World) (gd : Nat) (vA vS : Value) (L : List UInt8) (i lo hi : Nat) (A : Option Addr) (wr : World) : Prop where
 blk : Blk wr gd 94 (dirV L vA vS)
 own1 : wr.ownsRow (gd + 1) 3 1 vA i (iv (froms L i))
 own2 : wr.ownsRow (gd + 1) 3 1 vS i (iv (sizes L i))
 ap : Apart vA vS
 keep : Below w.heap.size w wr
 res : Blk wr w.heap.size 94 zeroD
 rd : RdL wr lo hi A (L.map bv)
 hg : w.heap.size < gd
 hhi : hi ≤ w.heap.size
section
variable {w wr w' : World} {gd : Nat} {vA vS : Value} {L : List UInt8} {i lo hi : Nat} {A : Option Addr}
theorem OX.next (h : OX w gd vA vS L i lo hi A wr) (hb : Below wr.heap.size wr w') : OX w gd vA vS L i lo hi A w' :=
 ⟨h.blk.next hb, own_next h.own1 hb, own_next h.own2 hb, h.ap, bt h.keep hb, h.res.next hb, h.rd.next hb, h.hg, h.hhi⟩
theorem OX.ne (h : OX w gd vA vS L i lo hi A wr) : vA.ownBlock ≠ some gd ∧ vS.ownBlock ≠ some gd :=
 ⟨fun e => by have := (own_lt h.own1 e).1; omega, fun e => by have := (own_lt h.own2 e).1; omega⟩
theorem OX.both {wd wa w1 wb w2 : World} {vA' vS' : Value} {n m : Nat} (h : OX w gd vA vS L i lo hi A wd)
  (hb1 : Below wd.heap.size wd wa) (g1 : wa.grownBy w1 vA.ownBlock) (o1 : w1.ownsRow (gd + 1) 3 1 vA' n (iv (froms L i) ++ iv [from' L i])) (hn : n = i + 1) (n1 : vA'.ownBlock = vA.ownBlock ∨ ∀ b, vA'.ownBlock = some b → wd.heap.size ≤ b)
  (hb2 : Below w1.heap.size w1 wb) (g2 : wb.grownBy w2 vS.ownBlock) (o2 : w2.ownsRow (gd + 1) 3 1 vS' m (iv (sizes L i) ++ iv [size' L i])) (hm : m = i + 1) (n2 : vS'.ownBlock = vS.ownBlock ∨ ∀ b, vS'.ownBlock = some b → w1.heap.size ≤ b) :
  w2.frozen? ⟨gd, 6, none⟩ = false ∧ (w2.setCell ⟨gd, 6, none⟩ vA').frozen? ⟨gd, 7, none⟩ = false ∧
  OX w gd vA' vS' L (i + 1) lo hi A ((w2.setCell ⟨gd, 6, none⟩ vA').setCell ⟨gd, 7, none⟩ vS') := by
 subst hn hm
 obtain ⟨ne1, ne2⟩ := h.ne
 have ha := h.next hb1
 have hbk1 := ha.blk.grown g1 (fun e => ne1 e.symm)
 have hbk2 := hbk1.below hb2 hbk1.lt
 have hbk3 := hbk2.grown g2 (fun e => ne2 e.symm)
 have ho2 := own_next (own_kept ha.own2 g1 h.ap) hb2
 have hap1 : Apart vA' vS := h.ap.step h.own2 n1
 have ho1 := own_kept (own_next o1 hb2) g2 hap1.symm
 have hap2 : Apart vS' vA' := hap1.symm.step o1 n2
 have e1 : vA'.ownBlock ≠ some gd := fun e => by have := (own_lt o1 e).1; omega
 have e2 : vS'.ownBlock ≠ some gd := fun e => by have := (own_lt o2 e).1; omega
 have x1 : ∀ k, vA.ownBlock = some k → gd < k := fun k hk => by have := (own_lt h.own1 hk).1; omega
 have x2 : ∀ k, vS.ownBlock = some k → gd < k := fun k hk => by have := (own_lt h.own2 hk).1; omega
 have hgd := h.hg
 have hhi := h.hhi
 have s0 := ha.keep.size
 have s1 := g1.size
 have s2 := hb2.size
 have kp : Below w.heap.size w w2 := by
  have y1 : Below w.heap.size w w1 := ha.keep.grown g1 (by omega) (fun k hk => by have := x1 k hk; omega)
  have y2 : Below w.heap.size w wb := bt y1 hb2
  exact y2.grown g2 (by omega) (fun k hk => by have := x2 k hk; omega)
 have rs : Blk w2 w.heap.size 94 zeroD :=
  ((ha.res.grown g1 (fun e => by have := x1 _ e.symm; omega)).next hb2).grown g2 (fun e => by have := x2 _ e.symm; omega)
 have rr : RdL w2 lo hi A (L.map bv) :=
  ((ha.rd.grown g1 (fun g e => by have := x1 _ e; omega)).next hb2).grown g2 (fun g e => by have := x2 _ e; omega)
 have k1 := hbk3.put 6 vA'
 have k2 := k1.put 7 vS'
 refine ⟨hbk3.free 6, k1.free 7, ⟨k2, ?_, ?_, hap2.symm, (kp.setCell (by show w.heap.size ≤ gd; omega) _).setCell (by show w.heap.size ≤ gd; omega) _, (rs.far (p := ⟨gd, 6, none⟩) (by show w.heap.size ≠ gd; omega) _).far (p := ⟨gd, 7, none⟩) (by show w.heap.size ≠ gd; omega) _, (rr.far (p := ⟨gd, 6, none⟩) (.inr (by show hi ≤ gd; omega)) _).far (p := ⟨gd, 7, none⟩) (.inr (by show hi ≤ gd; omega)) _, hgd, hhi⟩⟩
 ·have := (ho1.kept (only_set (w := w2) (g := gd) (only_refl _ _) 6 vA') (.inr e1)).kept (only_set (g := gd) (only_refl _ _) 7 vS') (.inr e1)
  rw [froms_succ, iv_append]
  exact this
 ·have := (o2.kept (only_set (w := w2) (g := gd) (only_refl _ _) 6 vA') (.inr e2)).kept (only_set (g := gd) (only_refl _ _) 7 vS') (.inr e2)
  rw [sizes_succ, iv_append]
  exact this
end
end Cht
end
end Go.Proofs.YtekjehbkmlodmaaGreat
