/- A part of the proof of WholeFaults. -/
import Derived.Test.YtekjehbkmlodmaaGreatZN
import Derived.Deep.DeepCutAuto
import Derived.StillTailTactics
import Derived.Laws.Closers25b
set_option linter.unusedVariables false
set_option linter.unusedSimpArgs false
namespace Go.Proofs.YtekjehbkmlodmaaGreat
section
open Go.RowKit
namespace Top
open Nav (NS DS tl0 GotDP dpush_any)
open Txt (bv bv_one)
open Frm (Fr feedL frs GotFeed yfeed_any)
def isReg (r : Nat) : Code → Bool
 | .region n _ _ => n == r
 | _ => false
def tailAt (r : Nat) : Code → Option Code
 | .seq a b => match isReg r a with
  | true => some (.seq a b)
  | false => match tailAt r a with
   | some c => some c
   | none => tailAt r b
 | .block _ c => tailAt r c
 | .scope c => tailAt r c
 | .loop c => tailAt r c
 | .cond _ a b => match tailAt r a with
  | some c => some c
  | none => tailAt r b
 | _ => none
noncomputable def code20 : Code := ((Tryz.f3.body.bind (tailAt 20)).getD .skip)
def LawEnd (w : World) (e : Ending) (w' : World) : Prop := e = .returned (.bool true) ∧ Below w.heap.size w w'
set_option maxRecDepth 1000000 in
set_option maxHeartbeats 4000000 in
theorem tail20 {u0 u1 u2 u3 u4 u5 u6 u7 u9 u10 u11 u12 u13 u14 u15 u16 u17 u18 u19 u20 u21 u23 u24 u25 u26 u27 u28 u29 u30 u31 u32 u33 u34 u35 u36 u37 u38 u39 u40 u41 u42 u43 u44 u45 u46 u47 u48 u49 u50 u51 u52 u53 u54 u55 u56 u57 u58 u59 u60 u61 u62 u63 u64 u65 u66 u67 u68 u69 u70 u71 u72 u73 u74 u75 u76 u77 u78 u79 u80 u81 u82 u83 u84 u85 u86 u87 u88 u89 u90 u91 u92 u93 u94 u95 u96 u97 u98 u99 u100 u101 u102 u103 u104 u105 u106 u107 u108 u109 u110 u111 u112 u113 u114 u115 u116 u117 u118 u119 u120 u121 u122 u123 u124 u125 u126 u127 u128 u129 u130 u131 u132 u133 u134 u135 u136 u137 u138 u139 u140 u141 u142 u143 u144 u145 u146 u147 u148 u149 u150 u151 u152 u153 u154 u155 u156 u157 u158 u159 u160 u161 u162 u163 u164 u165 u166 u167 u168 u169 u170 u171 u172 u173 u174 u175 u176 u177 u178 u179 u180 u181 u182 u183 u184 u185 u186 u187 u188 u189 u190 u191 u192 u193 u194 u195 u196 u197 u198 u199 u200 u201 u202 u203 u204 u205 u206 u207 u208 u209 u210 u211 u212 u213 u214 u215 u216 u217 u218 u219 u220 u221 u222 u223 u224 u225 u226 u227 u228 u229 : Value} {bA : Option Addr} {B : List UInt8} {bn bc gd gn : Nat} {w wr : World}
  (hrn : ∀ w, Calls Tryz.prog 5 #[] w fun e w' => e = .returned (.bool true) ∧ Below w.heap.size w w')
  (hbn : B.length = bn) (hb12 : bn ≤ 1200) (hbc : bn ≤ bc) (hbA : bA = none → bn = 0 ∧ bc = 0) (hkeep : Below w.heap.size w wr) (hbr : RdL wr 0 w.heap.size bA (B.map bv))
  (hd : Blk wr gd 91 (.pointer (some ⟨gn, 0, none⟩) :: .slice none 0 0 :: .int .i64 0 :: tl0)) (hns : NS wr gn 4 0) (hne : gd ≠ gn) (hgd : w.heap.size ≤ gd) (hgn : w.heap.size ≤ gn) :
  Code.wp Tryz.prog code20 (bodyPost Tryz.prog Tryz.f3 (LawEnd w)) ⟨#[u0, u1, u2, u3, u4, u5, u6, u7, .slice bA bn bc, u9, u10, u11, u12, u13, u14, u15, u16, u17, u18, u19, u20, u21, .pointer (some ⟨gd, 0, none⟩), u23, u24, u25, u26, u27, u28, u29, u30, u31, u32, u33, u34, u35, u36, u37, u38, u39, u40, u41, u42, u43, u44, u45, u46, u47, u48, u49, u50, u51, u52, u53, u54, u55, u56, u57, u58, u59, u60, u61, u62, u63, u64, u65, u66, u67, u68, u69, u70, u71, u72, u73, u74, u75, u76, u77, u78, u79, u80, u81, u82, u83, u84, u85, u86, u87, u88, u89, u90, u91, u92, u93, u94, u95, u96, u97, u98, u99, u100, u101, u102, u103, u104, u105, u106, u107, u108, u109, u110, u111, u112, u113, u114, u115, u116, u117, u118, u119, u120, u121, u122, u123, u124, u125, u126, u127, u128, u129, u130, u131, u132, u133, u134, u135, u136, u137, u138, u139, u140, u141, u142, u143, u144, u145, u146, u147, u148, u149, u150, u151, u152, u153, u154, u155, u156, u157, u158, u159, u160, u161, u162, u163, u164, u165, u166, u167, u168, u169, u170, u171, u172, u173, u174, u175, u176, u177, u178, u179, u180, u181, u182, u183, u184, u185, u186, u187, u188, u189, u190, u191, u192, u193, u194, u195, u196, u197, u198, u199, u200, u201, u202, u203, u204, u205, u206, u207, u208, u209, u210, u211, u212, u213, u214, u215, u216, u217, u218, u219, u220, u221, u222, u223, u224, u225, u226, u227, u228, u229], []⟩ wr := by
 have hfd := yfeed_any bA B bn bc 0 w.heap.size wr hbr hkeep.size hbn (by omega) hbc
 obtain ⟨N, hN⟩ : ∃ N, N = (feedL B 0).1.length := ⟨_, rfl⟩
 have hNl : N ≤ 1200 := by have := (feed_good B _ 0 (Nat.le_refl _)).2; omega
 have hdp := fun (wz : World) (h1 : Blk wz gd 91 (.pointer (some ⟨gn, 0, none⟩) :: .slice none 0 0 :: .int .i64 0 :: tl0)) (h2 : NS wz gn 4 0) (h3 : RdL wz 0 w.heap.size bA (B.map bv)) => dpush_any gd gn bA B bn bc 0 w.heap.size wz h1 h2 hne h3 hbn hbA (by omega)
 unfold GotDP at hdp
 unfold GotFeed at hfd
 rw [← hN] at hdp hfd
 obtain ⟨lo1, hlo1⟩ : ∃ z : Int, z = ((feedL B 0).2.1 : Int) := ⟨_, rfl⟩
 obtain ⟨lo2, hlo2⟩ : ∃ z : Int, z = (B.length : Int) - ((feedL B 0).2.2 : Int) := ⟨_, rfl⟩
 rw [← hlo1, ← hlo2] at hfd
 have HD := Lib.hid hd
 have HNS := Lib.hid hns
 have HB := Lib.hid hbr
 have HK := Lib.hid hkeep
 have HDP := Lib.hid hdp
 have HRN := Lib.hid hrn
 clear hd hns hbr hkeep hdp hrn hlo1 hlo2 hN hbn hbA
 conv => arg 2; whnf
 go_wp2_with fail
 refine hfd.mono ?_
 rintro e w2 ⟨⟨v2, rfl, ho2⟩, hb2⟩
 obtain ⟨A2, c2, rfl, _, _, _, _⟩ := own_rd ho2
 have hdp := HDP.out w2 (HD.out.next hb2) (HNS.out.next hb2) (HB.out.next hb2)
 have HK2 := Lib.hid (bt HK.out hb2)
 clear hfd ho2 hb2 HK HD HNS HB HDP
 go_wp2_with fail
 refine hdp.mono ?_
 rintro e w3 ⟨v3, rfl, ho3, hds, hns, hke⟩
 have HDS := Lib.hid hds
 have HNS := Lib.hid hns
 have hk3 : Below w.heap.size w w3 := ⟨hke.os.trans HK2.out.os, hke.tape.trans HK2.out.tape, hke.output.trans HK2.out.output, Nat.le_trans HK2.out.size hke.size, fun k hk => (hke.block k (Nat.lt_of_lt_of_le hk HK2.out.size) (by omega) (fun e => by injection e with e; omega)).trans (HK2.out.block k hk)⟩
 have HK3 := Lib.hid hk3
 obtain ⟨A3, c3, rfl, hr3, hc3, _, _⟩ := own_rd ho3
 have hf3 := yfeed_any A3 (tellB N) (20 * N) c3 _ _ w3 hr3 (Nat.le_refl _) (tellB_len N) (by omega) hc3
 unfold GotFeed at hf3
 rw [tell_feed, tellB_len, tellL_len] at hf3
 dsimp only at hf3
 rw [Int.sub_self] at hf3
 have hf4 : Calls Tryz.prog 12 #[.slice A3 (20 * N) c3] w3 fun e w' => (∃ A c, e = .returned (.tuple #[.slice A N c, .int .i64 0, .int .i64 0]) ∧ RdL w' w3.heap.size w'.heap.size A (frs (tellL N))) ∧ Below w3.heap.size w3 w' := by
  refine hf3.mono ?_
  rintro e w' ⟨⟨v, rfl, ho⟩, hb⟩
  obtain ⟨A, c, rfl, hr, _⟩ := own_rd ho
  exact ⟨⟨A, c, rfl, hr⟩, hb⟩
 clear hdp ho3 hds hns hke hk3 hr3 hf3 HK2
 go_wp2_with fail
 refine hf4.mono ?_
 rintro e w4 ⟨⟨A4, c4, rfl, hr4⟩, hb4⟩
 have HDS4 := Lib.hid (HDS.out.next hb4)
 have HNS4 := Lib.hid (HNS.out.next hb4)
 have HK4 := Lib.hid (bt HK3.out hb4)
 have HR4 := Lib.hid hr4
 have hnav := drnav_any HDS4.out.nav
 have hmode := mode_any HNS4.out.cells.1
 clear hf4 hb4 hr4 HDS HNS HK3
 go_wp2_with fail
 refine hnav.mono ?_
 rintro e w' ⟨rfl, rfl⟩
 go_wp2_with fail
 refine hmode.mono ?_
 rintro e w' ⟨rfl, rfl⟩
 clear hnav hmode
 go_wp2_with fail
 go_loopw [34] (fun u wz => ∃ i : Nat, i ≤ N ∧ u = .int .i64 (i : Int) ∧ wz = w4) (fun u _ => N - (intOf u).toNat)
 case atStart => exact ⟨0, Nat.zero_le _, rfl, rfl⟩
 case round =>
  obtain ⟨i, hi, rfl, rfl⟩ := hrel
  by_cases hlt : i < N
  ·have d0 : decide ((i : Int) < (N : Int)) = true := decide_eq_true (by omega)
   have d0' : decide (i < N) = true := decide_eq_true hlt
   have hltI : (i : Int) < (N : Int) := by omega
   have hil : i < (tellL N).length := by rw [tellL_len]; exact hlt
   obtain ⟨b4, o4, rfl, _, _, _, _⟩ := HR4.out.some (by rw [Frm.frs_len, tellL_len]; omega)
   have he := RdL.elem Fr.cells 6 (fun _ => rfl) HR4.out hil
   have hgt := tellL_get hlt
   rw [List.getElem?_eq_getElem hil] at hgt
   injection hgt with hgt
   rw [hgt] at he
   obtain ⟨q, hq⟩ : ∃ q, q = (i + 1) % 65536 := ⟨_, rfl⟩
   rw [← hq] at he
   have e0 : wr.cell? ⟨b4, o4 + i * 6, none⟩ = some (.int .i64 7) := he 0 _ (by decide) rfl
   have e1 : wr.cell? ⟨b4, o4 + i * 6 + 1, none⟩ = some (.int .u16 (q : Int)) := he 1 _ (by decide) rfl
   have e3 : wr.cell? ⟨b4, o4 + i * 6 + 3, none⟩ = some (.int .i32 4) := he 3 _ (by decide) rfl
   have e4 : wr.cell? ⟨b4, o4 + i * 6 + 4, none⟩ = some (.int .i32 0) := he 4 _ (by decide) rfl
   have w1 : IntKind.i64.wrap ((i : Int) + 1) = (i : Int) + 1 := IntWalk.i64_in _ (by omega)
   have w2' : IntKind.u16.wrap ((i : Int) + 1) = (q : Int) := by rw [IntKind.wrap_u16, hq]; omega
   clear he hgt hil hq
   go_wp2_with fail
   exact ⟨⟨i + 1, by omega, by go_num, by trivial⟩, by simp [intOf]; omega⟩
  ·obtain rfl : i = N := by omega
   have d0 : decide ((i : Int) < (i : Int)) = false := decide_eq_false (by omega)
   have d0' : decide (i < i) = false := decide_eq_false hlt
   have hrn := HRN.out
   go_wp2_with fail
   refine (hrn _).mono ?_
   rintro e w5 ⟨rfl, hb5⟩
   have HF := Lib.hid (bt HK4.out hb5)
   clear hrn hb5
   go_wp2_with fail
   go_ret
   exact ⟨rfl, HF.out⟩
end Top
end
section
open Go.RowKit
namespace Top
open Nav (cfL range_of NS DS GotDN dnew_any modeN tl0)
open Cht (getC get_any GotGet zeroC zeroC_one infoChart all_one)
open Txt (bv bv_one)
structure MX (w : World) (cf : List Value) (x y : Int) (bA : Option Addr) (B : List UInt8) (mA : Option Addr) (M : List UInt8) (lo hi : Nat) (wr : World) : Prop where
 conf : Blk wr w.heap.size 32 cf
 spot : Blk wr (w.heap.size + 1) 34 [.int .i64 x, .int .i64 y]
 brd : RdL wr 0 w.heap.size bA (B.map bv)
 mrd : RdL wr lo hi mA (M.map bv)
 keep : Below w.heap.size w wr
 hhi : hi ≤ wr.heap.size
theorem MX.next {w wr w' : World} {cf : List Value} {x y : Int} {bA mA : Option Addr} {B M : List UInt8} {lo hi : Nat} (h : MX w cf x y bA B mA M lo hi wr) (hb : Below wr.heap.size wr w') : MX w cf x y bA B mA M lo hi w' := ⟨h.conf.next hb, h.spot.next hb, h.brd.next hb, h.mrd.next hb, bt h.keep hb, Nat.le_trans h.hhi hb.size⟩
structure MD (gd gn : Nat) (m : Int) (lo : Nat) (wr : World) : Prop where
 d : Blk wr gd 91 (.pointer (some ⟨gn, 0, none⟩) :: .slice none 0 0 :: .int .i64 0 :: tl0)
 n : NS wr gn m 0
 ne : gd ≠ gn
 g1 : lo ≤ gd
 g2 : lo ≤ gn
theorem MD.next {gd gn lo : Nat} {m : Int} {wr w' : World} (h : MD gd gn m lo wr) (hb : Below wr.heap.size wr w') : MD gd gn m lo w' := ⟨h.d.next hb, h.n.next hb, h.ne, h.g1, h.g2⟩
noncomputable def code10 : Code := ((Tryz.f3.body.bind (tailAt 10)).getD .skip)
set_option maxRecDepth 1000000 in
set_option maxHeartbeats 4000000 in
theorem tail10 {u0 u1 u2 u3 u4 u5 u6 u7 u9 u10 u11 u12 u13 u14 u17 u18 u20 u21 u22 u23 u24 u25 u26 u27 u28 u29 u30 u31 u32 u33 u34 u35 u36 u37 u38 u39 u40 u41 u42 u43 u44 u45 u46 u47 u48 u49 u50 u51 u52 u53 u54 u55 u56 u57 u58 u59 u60 u61 u62 u63 u64 u65 u66 u67 u68 u69 u70 u71 u72 u73 u74 u75 u76 u77 u78 u79 u80 u81 u82 u83 u84 u85 u86 u87 u88 u89 u90 u91 u92 u93 u94 u95 u96 u97 u98 u99 u100 u101 u102 u103 u104 u105 u106 u107 u108 u109 u110 u111 u112 u113 u114 u115 u116 u117 u118 u119 u120 u121 u122 u123 u124 u125 u126 u127 u128 u129 u130 u131 u132 u133 u134 u135 u136 u137 u138 u139 u140 u141 u142 u143 u144 u145 u146 u147 u148 u149 u150 u151 u152 u153 u154 u155 u156 u157 u158 u159 u160 u161 u162 u163 u164 u165 u166 u167 u168 u169 u170 u171 u172 u173 u174 u175 u176 u177 u178 u179 u180 u181 u182 u183 u184 u185 u186 u187 u188 u189 u190 u191 u192 u193 u194 u195 u196 u197 u198 u199 u200 u201 u202 u203 u204 u205 u206 u207 u208 u209 u210 u211 u212 u213 u214 u215 u216 u217 u218 u219 u220 u221 u222 u223 u224 u225 u226 u227 u228 u229 : Value} {r0 r1 r2 r3 m0 m1 m2 m3 m4 m5 n0 n1 n2 far stp gap need meas away num den tms spr x y : Int} {bA mA : Option Addr} {B M : List UInt8} {bn bc mn mc lo hi : Nat} {w wr : World}
  (hck : ∀ w, Calls Tryz.prog 14 #[.agg (cfL r0 r1 r2 r3 m0 m1 m2 m3 m4 m5 n0 n1 n2 far stp gap need meas away num den tms spr).toArray] w fun e w' => e = .returned (.int .i64 0) ∧ Below w.heap.size w w')
  (hrn : ∀ w, Calls Tryz.prog 5 #[] w fun e w' => e = .returned (.bool true) ∧ Below w.heap.size w w')
  (hbn : B.length = bn) (hb12 : bn ≤ 1200) (hbc : bn ≤ bc) (hbA : bA = none → bn = 0 ∧ bc = 0)
  (hmn : M.length = mn) (hml : mn ≤ 100000) (hmc : mn ≤ mc) (hmA : mA = none → mn = 0 ∧ mc = 0)
  (hx : MX w (cfL r0 r1 r2 r3 m0 m1 m2 m3 m4 m5 n0 n1 n2 far stp gap need meas away num den tms spr) x y bA B mA M lo hi wr) :
  Code.wp Tryz.prog code10 (bodyPost Tryz.prog Tryz.f3 (LawEnd w)) ⟨#[u0, u1, u2, u3, u4, u5, u6, u7, .slice bA bn bc, u9, u10, u11, u12, u13, u14, .pointer (some ⟨w.heap.size, 0, none⟩), .pointer (some ⟨w.heap.size + 1, 0, none⟩), u17, u18, .slice mA mn mc, u20, u21, u22, u23, u24, u25, u26, u27, u28, u29, u30, u31, u32, u33, u34, u35, u36, u37, u38, u39, u40, u41, u42, u43, u44, u45, u46, u47, u48, u49, u50, u51, u52, u53, u54, u55, u56, u57, u58, u59, u60, u61, u62, u63, u64, u65, u66, u67, u68, u69, u70, u71, u72, u73, u74, u75, u76, u77, u78, u79, u80, u81, u82, u83, u84, u85, u86, u87, u88, u89, u90, u91, u92, u93, u94, u95, u96, u97, u98, u99, u100, u101, u102, u103, u104, u105, u106, u107, u108, u109, u110, u111, u112, u113, u114, u115, u116, u117, u118, u119, u120, u121, u122, u123, u124, u125, u126, u127, u128, u129, u130, u131, u132, u133, u134, u135, u136, u137, u138, u139, u140, u141, u142, u143, u144, u145, u146, u147, u148, u149, u150, u151, u152, u153, u154, u155, u156, u157, u158, u159, u160, u161, u162, u163, u164, u165, u166, u167, u168, u169, u170, u171, u172, u173, u174, u175, u176, u177, u178, u179, u180, u181, u182, u183, u184, u185, u186, u187, u188, u189, u190, u191, u192, u193, u194, u195, u196, u197, u198, u199, u200, u201, u202, u203, u204, u205, u206, u207, u208, u209, u210, u211, u212, u213, u214, u215, u216, u217, u218, u219, u220, u221, u222, u223, u224, u225, u226, u227, u228, u229], []⟩ wr := by
 have hdn := dnew_any r0 r1 r2 r3 m0 m1 m2 m3 m4 m5 n0 n1 n2 far stp gap need meas away num den tms spr x y hck mA M mn mc lo hi wr hx.mrd hx.hhi hmn hml hmc hmA
 have hge := fun (wz : World) (h : RdL wz lo hi mA (M.map bv)) (h2 : hi ≤ wz.heap.size) => get_any mA M mn mc lo hi wz h h2 hmn hml hmc
 unfold cfL at hdn
 obtain ⟨gc, hgc⟩ : ∃ z, z = getC M := ⟨_, rfl⟩
 obtain ⟨bk, hbk⟩ : ∃ z, z = decide (gc ≠ 0 ∨ x < -68719476736 ∨ 68719476736 < x ∨ y < -68719476736 ∨ 68719476736 < y) := ⟨_, rfl⟩
 have hmd : modeN M x y = if bk = true then 4 else 0 := by
  unfold modeN
  rw [← hgc]
  by_cases h : gc ≠ 0 ∨ ¬ (-68719476736 ≤ x ∧ x ≤ 68719476736 ∧ -68719476736 ≤ y ∧ y ≤ 68719476736)
  ·rw [if_pos h, if_pos (by rw [hbk]; exact decide_eq_true (by omega))]
  ·rw [if_neg h, if_neg (by rw [hbk]; intro h2; exact h (by have := of_decide_eq_true h2; omega))]
 unfold GotDN at hdn
 rw [hmd] at hdn
 obtain ⟨md, hmde⟩ : ∃ z : Int, z = if bk = true then 4 else 0 := ⟨_, rfl⟩
 rw [← hmde] at hdn
 unfold GotGet at hge
 rw [← hgc] at hge
 have HX := Lib.hid hx
 have HRN := Lib.hid hrn
 have HGE := Lib.hid hge
 have HBK := Lib.hid hbk
 have HMD := Lib.hid hmde
 have HBN := Lib.hid hbn
 have HBA := Lib.hid hbA
 clear hx hck hrn hge hbk hmde hbn hbA hmn hmA hmd hgc
 conv => arg 2; whnf
 have s0 := HX.out.spot.cell 0
 have s1 := HX.out.spot.cell 1
 go_wp2_with (refine wpList_load_mid rfl 32 _ rfl w.heap.size 0 rfl ([.int .u32 r0, .int .i64 r1, .int .i64 r2, .int .i64 r3, .int .i64 m0, .int .i64 m1, .int .i64 m2, .int .i64 m3, .int .i64 m4, .int .i64 m5, .int .i64 n0, .int .i64 n1, .int .i64 n2, .int .i64 far, .int .i64 stp, .int .i64 gap, .int .i64 need, .int .i64 meas, .int .i64 away, .int .i64 num, .int .i64 den, .int .i64 tms, .int .i64 spr] : List Value) _ (range_of HX.out.conf) Tryz.underlying32 rfl (by kernel_rfl) ?_)
 refine hdn.mono ?_
 rintro e wp ⟨gd, gn, rfl, h1, h2, h3, h4, h5, hb2⟩
 have hsz := HX.out.keep.size
 have hx := HX.out.next hb2
 have hd : MD gd gn md w.heap.size wp := ⟨h1, h2, h3, by omega, by omega⟩
 have HX1 := Lib.hid hx
 have HD1 := Lib.hid hd
 clear h1 h2 h3 h4 h5 hb2 s0 s1
 have hnav := drnav_any (gd := gd) (gn := gn) (w := wp) (hd.d.cell 0)
 have hge := HGE.out wp hx.mrd hx.hhi
 clear hx hd HX hdn
 go_wp2_with fail
 refine hnav.mono ?_
 rintro e w' ⟨rfl, rfl⟩
 go_upto_region 13 with fail
 go_cut [25] (fun s25 wx => s25 = .int .i64 gc ∧ MX w (cfL r0 r1 r2 r3 m0 m1 m2 m3 m4 m5 n0 n1 n2 far stp gap need meas away num den tms spr) x y bA B mA M lo hi wx ∧ MD gd gn md w.heap.size wx)
 case first =>
  go_wp2_with fail
  refine hge.mono ?_
  rintro e w2 ⟨⟨ch, rfl, hch, hc1⟩, hb2⟩
  have HD0 := Lib.hid (Blk.mk w2 44 zeroC)
  have hbf : Below wp.heap.size wp ((w2.alloc (.cells zeroC.toArray 44)).setRow w2.heap.size ch.toArray) := Below.row (bt hb2 (bl w2 (.cells zeroC.toArray 44))) (g := w2.heap.size) hb2.size ch.toArray
  have HX2 := Lib.hid (HX1.out.next hbf)
  have HD2 := Lib.hid (HD1.out.next hbf)
  have HCH := Lib.hid hch
  have HC1 := Lib.hid hc1
  clear hge hb2 hch hc1 hbf
  go_wp2_with (refine wpList_store_row rfl 44 _ _ rfl w2.heap.size ch.toArray rfl rfl _ _ HD0.out (by rw [infoChart, List.size_toArray, HCH.out]) (by rw [List.size_toArray, List.size_toArray, HCH.out]; rfl) (all_one HC1.out) ?_)
  go_meet
  exact ⟨rfl, HX2.out, HD2.out⟩
 obtain ⟨rfl, hx, hd⟩ := hcut
 obtain ⟨w2, rfl⟩ : ∃ wp : World, wp = wc := ⟨_, rfl⟩
 have HX2 := Lib.hid hx
 have HD2 := Lib.hid hd
 clear hx hd hge HX1 HD1 hnav
 go_upto_region 15 with fail
 go_cut [27] (fun s27 wx => s27 = .bool bk ∧ MX w (cfL r0 r1 r2 r3 m0 m1 m2 m3 m4 m5 n0 n1 n2 far stp gap need meas away num den tms spr) x y bA B mA M lo hi wx ∧ MD gd gn md w.heap.size wx)
 case first =>
  have s0 := HX2.out.spot.cell 0
  have s1 := HX2.out.spot.cell 1
  by_cases q : ¬ gc = 0
  ·skip
   have d : (gc != 0) = true := bne_iff_ne.2 q
   have hbb : bk = true := by rw [HBK.out]; exact decide_eq_true (.inl q)
   clear q
   go_wp2_with fail
   go_meet
   exact ⟨by rw [hbb], HX2.out, HD2.out⟩
  have HQ := Lib.hid (Classical.not_not.1 q)
  have d : (gc != 0) = false := by rw [HQ.out]; rfl
  clear q
  by_cases q0 : (x : Int) < (-68719476736)
  ·have d0 : decide ((x : Int) < (-68719476736)) = true := decide_eq_true q0
   have hbb : bk = true := by rw [HBK.out]; exact decide_eq_true (by omega)
   go_wp2_with fail
   go_meet
   exact ⟨by rw [hbb], HX2.out, HD2.out⟩
  have d0 : decide ((x : Int) < (-68719476736)) = false := decide_eq_false q0
  by_cases q1 : (68719476736 : Int) < x
  ·have d1 : decide ((68719476736 : Int) < x) = true := decide_eq_true q1
   have hbb : bk = true := by rw [HBK.out]; exact decide_eq_true (by omega)
   go_wp2_with fail
   go_meet
   exact ⟨by rw [hbb], HX2.out, HD2.out⟩
  have d1 : decide ((68719476736 : Int) < x) = false := decide_eq_false q1
  by_cases q2 : (y : Int) < (-68719476736)
  ·have d2 : decide ((y : Int) < (-68719476736)) = true := decide_eq_true q2
   have hbb : bk = true := by rw [HBK.out]; exact decide_eq_true (by omega)
   go_wp2_with fail
   go_meet
   exact ⟨by rw [hbb], HX2.out, HD2.out⟩
  have d2 : decide ((y : Int) < (-68719476736)) = false := decide_eq_false q2
  by_cases q3 : (68719476736 : Int) < y
  ·have d3 : decide ((68719476736 : Int) < y) = true := decide_eq_true q3
   have hbb : bk = true := by rw [HBK.out]; exact decide_eq_true (by omega)
   go_wp2_with fail
   go_meet
   exact ⟨by rw [hbb], HX2.out, HD2.out⟩
  have d3 : decide ((68719476736 : Int) < y) = false := decide_eq_false q3
  have hbb : bk = false := by rw [HBK.out]; exact decide_eq_false (by have := HQ.out; omega)
  go_wp2_with fail
  go_meet
  exact ⟨by rw [hbb], HX2.out, HD2.out⟩
 obtain ⟨rfl, hx, hd⟩ := hcut
 obtain ⟨w3, rfl⟩ : ∃ wp : World, wp = wc := ⟨_, rfl⟩
 have HX3 := Lib.hid hx
 have HD3 := Lib.hid hd
 have hnav := drnav_any (gd := gd) (gn := gn) (w := w3) (hd.d.cell 0)
 have hmo := mode_any hd.n.cells.1
 clear hx hd HX2 HD2
 by_cases hbe : bk = true
 ·subst hbe
  obtain rfl : md = 4 := HMD.out
  go_wp2_with fail
  refine hnav.mono ?_
  rintro e w' ⟨rfl, rfl⟩
  go_wp2_with fail
  refine hmo.mono ?_
  rintro e w' ⟨rfl, rfl⟩
  go_upto_if 155 with fail
  go_cut [] (fun wx => MX w (cfL r0 r1 r2 r3 m0 m1 m2 m3 m4 m5 n0 n1 n2 far stp gap need meas away num den tms spr) x y bA B mA M lo hi wx ∧ MD gd gn 4 w.heap.size wx)
  case first =>
   go_wp2_with fail
   go_meet
   exact ⟨HX3.out, HD3.out⟩
  obtain ⟨hx, hd⟩ := hcut
  go_step
  exact tail20 HRN.out HBN.out hb12 hbc HBA.out hx.keep hx.brd hd.d hd.n hd.ne hd.g1 hd.g2
 ·obtain rfl : bk = false := by cases bk <;> simp_all
  obtain rfl : md = 0 := HMD.out
  have hrn := HRN.out
  go_wp2_with fail
  refine hnav.mono ?_
  rintro e w' ⟨rfl, rfl⟩
  go_wp2_with fail
  refine hmo.mono ?_
  rintro e w' ⟨rfl, rfl⟩
  go_wp2_with fail
  refine hnav.mono ?_
  rintro e w' ⟨rfl, rfl⟩
  go_wp2_with fail
  refine hmo.mono ?_
  rintro e w' ⟨rfl, rfl⟩
  go_wp2_with fail
  refine (hrn _).mono ?_
  rintro e w5 ⟨rfl, hb5⟩
  have HF := Lib.hid (bt HX3.out.keep hb5)
  clear hrn hb5
  go_wp2_with fail
  go_ret
  exact ⟨rfl, HF.out⟩
end Top
end
section
open Go.RowKit
namespace Top
open Nav (cfL range_of NS DS GotDN dnew_any modeN tl0)
open Txt (bv bv_one)
noncomputable def code6 : Code := ((Tryz.f3.body.bind (tailAt 6)).getD .skip)
theorem rd_put {w : World} {lo hi b off : Nat} {l : List Value} (h : RdL w lo hi (some ⟨b, off, none⟩) l) {i : Nat} (hi' : i < l.length) (u : Value) : RdL (w.setCell ⟨b, off + i, none⟩ u) lo hi (some ⟨b, off, none⟩) (l.set i u) := by
 obtain ⟨b', off', e, h1, h2, h3, hc⟩ := h.some (by omega)
 injection e with e
 injection e with e1 e2
 subst e1 e2
 refine .inr ⟨b, off, rfl, h1, h2, by simpa using h3, fun j v hv => ?_⟩
 by_cases hj : i = j
 ·subst hj
  rw [List.getElem?_set_self (by omega)] at hv
  injection hv with hv
  subst hv
  exact World.cell?_setCell_same _ _ _ (hc i _ (List.getElem?_eq_getElem hi'))
 ·rw [List.getElem?_set_ne hj] at hv
  rw [World.cell?_setCell_other _ _ _ _ (fun e => hj (by injection e with _ e; omega))]
  exact hc j v hv
set_option maxRecDepth 1000000 in
set_option maxHeartbeats 4000000 in
theorem tail6 {u0 u1 u2 u6 u7 u9 u10 u11 u12 u13 u14 u17 u18 u20 u21 u22 u23 u24 u25 u26 u27 u28 u29 u30 u31 u32 u33 u34 u35 u36 u37 u38 u39 u40 u41 u42 u43 u44 u45 u46 u47 u48 u49 u50 u51 u52 u53 u54 u55 u56 u57 u58 u59 u60 u61 u62 u63 u64 u65 u66 u67 u68 u69 u70 u71 u72 u73 u74 u75 u76 u77 u78 u79 u80 u81 u82 u83 u84 u85 u86 u87 u88 u89 u90 u91 u92 u93 u94 u95 u96 u97 u98 u99 u100 u101 u102 u103 u104 u105 u106 u107 u108 u109 u110 u111 u112 u113 u114 u115 u116 u117 u118 u119 u120 u121 u122 u123 u124 u125 u126 u127 u128 u129 u130 u131 u132 u133 u134 u135 u136 u137 u138 u139 u140 u141 u142 u143 u144 u145 u146 u147 u148 u149 u150 u151 u152 u153 u154 u155 u156 u157 u158 u159 u160 u161 u162 u163 u164 u165 u166 u167 u168 u169 u170 u171 u172 u173 u174 u175 u176 u177 u178 u179 u180 u181 u182 u183 u184 u185 u186 u187 u188 u189 u190 u191 u192 u193 u194 u195 u196 u197 u198 u199 u200 u201 u202 u203 u204 u205 u206 u207 u208 u209 u210 u211 u212 u213 u214 u215 u216 u217 u218 u219 u220 u221 u222 u223 u224 u225 u226 u227 u228 u229 : Value} {r0 r1 r2 r3 m0 m1 m2 m3 m4 m5 n0 n1 n2 far stp gap need meas away num den tms spr x y : Int} {bA : Option Addr} {B L : List UInt8} {bn bc bm n cm at' mask cut : Nat} {w wp : World}
  (hck : ∀ w, Calls Tryz.prog 14 #[.agg (cfL r0 r1 r2 r3 m0 m1 m2 m3 m4 m5 n0 n1 n2 far stp gap need meas away num den tms spr).toArray] w fun e w' => e = .returned (.int .i64 0) ∧ Below w.heap.size w w')
  (hrn : ∀ w, Calls Tryz.prog 5 #[] w fun e w' => e = .returned (.bool true) ∧ Below w.heap.size w w')
  (hbn : B.length = bn) (hb12 : bn ≤ 1200) (hbc : bn ≤ bc) (hbA : bA = none → bn = 0 ∧ bc = 0)
  (hn : L.length = n) (hL0 : 0 < n) (hL1 : n ≤ 100000) (hcm : n ≤ cm) (hat : at' < 65536) (hmask : mask < 256) (hcut : cut < 65536) (hbm : w.heap.size + 1 < bm)
  (hrm : RdL wp bm (bm + 1) (some ⟨bm, 0, none⟩) (L.map bv)) (hfr : ∀ i, wp.frozen? ⟨bm, i, none⟩ = false)
  (hconf : Blk wp w.heap.size 32 [.int .u32 r0, .int .i64 r1, .int .i64 r2, .int .i64 r3, .int .i64 m0, .int .i64 m1, .int .i64 m2, .int .i64 m3, .int .i64 m4, .int .i64 m5, .int .i64 n0, .int .i64 n1, .int .i64 n2, .int .i64 far, .int .i64 stp, .int .i64 gap, .int .i64 need, .int .i64 meas, .int .i64 away, .int .i64 num, .int .i64 den, .int .i64 tms, .int .i64 spr]) (hspot : Blk wp (w.heap.size + 1) 34 [.int .i64 x, .int .i64 y]) (hbr : RdL wp 0 w.heap.size bA (B.map bv)) (hkeep : Below w.heap.size w wp) :
  Code.wp Tryz.prog code6 (bodyPost Tryz.prog Tryz.f3 (LawEnd w)) ⟨#[u0, u1, u2, .int .u16 (at' : Int), .int .u8 (mask : Int), .int .u16 (cut : Int), u6, u7, .slice bA bn bc, u9, u10, u11, u12, u13, u14, .pointer (some ⟨w.heap.size, 0, none⟩), .pointer (some ⟨w.heap.size + 1, 0, none⟩), u17, u18, .slice (some ⟨bm, 0, none⟩) n cm, u20, u21, u22, u23, u24, u25, u26, u27, u28, u29, u30, u31, u32, u33, u34, u35, u36, u37, u38, u39, u40, u41, u42, u43, u44, u45, u46, u47, u48, u49, u50, u51, u52, u53, u54, u55, u56, u57, u58, u59, u60, u61, u62, u63, u64, u65, u66, u67, u68, u69, u70, u71, u72, u73, u74, u75, u76, u77, u78, u79, u80, u81, u82, u83, u84, u85, u86, u87, u88, u89, u90, u91, u92, u93, u94, u95, u96, u97, u98, u99, u100, u101, u102, u103, u104, u105, u106, u107, u108, u109, u110, u111, u112, u113, u114, u115, u116, u117, u118, u119, u120, u121, u122, u123, u124, u125, u126, u127, u128, u129, u130, u131, u132, u133, u134, u135, u136, u137, u138, u139, u140, u141, u142, u143, u144, u145, u146, u147, u148, u149, u150, u151, u152, u153, u154, u155, u156, u157, u158, u159, u160, u161, u162, u163, u164, u165, u166, u167, u168, u169, u170, u171, u172, u173, u174, u175, u176, u177, u178, u179, u180, u181, u182, u183, u184, u185, u186, u187, u188, u189, u190, u191, u192, u193, u194, u195, u196, u197, u198, u199, u200, u201, u202, u203, u204, u205, u206, u207, u208, u209, u210, u211, u212, u213, u214, u215, u216, u217, u218, u219, u220, u221, u222, u223, u224, u225, u226, u227, u228, u229], []⟩ wp := by
 have HCK := Lib.hid hck
 have HRN := Lib.hid hrn
 have HBN := Lib.hid hbn
 have HBA := Lib.hid hbA
 have HRM := Lib.hid hrm
 have HCF := Lib.hid hconf
 have HSP := Lib.hid hspot
 have HBR := Lib.hid hbr
 have HKP := Lib.hid hkeep
 clear hck hrn hbn hbA hrm hconf hspot hbr hkeep
 have HLn := Lib.hid hn
 obtain ⟨i, hi⟩ : ∃ i, i = at' % n := ⟨_, rfl⟩
 have hin : i < n := by rw [hi]; exact Nat.mod_lt _ hL0
 have hiL : i < L.length := by rw [hn]; exact hin
 have rm : (at' : Int).tmod (n : Int) = (i : Int) := by rw [Int.tmod_eq_emod_of_nonneg (by omega), hi]; rfl
 have wa : IntKind.i64.wrap (at' : Int) = (at' : Int) := IntWalk.i64_in _ (by omega)
 have wm : IntKind.i64.wrap ((at' : Int).tmod (n : Int)) = (i : Int) := by rw [rm]; exact IntWalk.i64_in _ (by omega)
 have mm0 : ¬ (n : Int) = 0 := by omega
 have mm0' : ((n : Int) == 0) = false := beq_eq_false_iff_ne.2 mm0
 have mm1 : ¬ n = 0 := by omega
 have mm1' : (n == 0) = false := beq_eq_false_iff_ne.2 mm1
 have iI : (i : Int) < (n : Int) := by omega
 have i0 : (0 : Int) ≤ (i : Int) := by omega
 obtain ⟨_, _, e, _, _, _, hcell⟩ := HRM.out.some (by rw [List.length_map]; omega)
 injection e with e
 injection e with e1 e2
 subst e1 e2
 have c0 : wp.cell? ⟨bm, i, none⟩ = some (.int .u8 ((L[i]).toNat : Int)) := by
  have := hcell i _ (by rw [List.getElem?_map, List.getElem?_eq_getElem hiL]; rfl)
  rwa [Nat.zero_add] at this
 have f0 := hfr i
 have hi2 : at' % n = i := hi.symm
 have wi : IntKind.i64.wrap (i : Int) = (i : Int) := IntWalk.i64_in _ (by omega)
 obtain ⟨d, hd⟩ : ∃ d : UInt8, bits BinOp.xor IntKind.u8 ((L[i]).toNat : Int) (mask : Int) = (d.toNat : Int) := by
  have h1 := bits_lo_u8 BinOp.xor ((L[i]).toNat : Int) (mask : Int)
  have h2 := bits_hi_u8 BinOp.xor ((L[i]).toNat : Int) (mask : Int)
  refine ⟨UInt8.ofNat (bits BinOp.xor IntKind.u8 ((L[i]).toNat : Int) (mask : Int)).toNat, ?_⟩
  rw [UInt8.toNat_ofNat', Nat.mod_eq_of_lt (by omega), Int.toNat_of_nonneg h1]
 have hbmw : bm + 1 ≤ wp.heap.size := by
  have := World.block_lt_of_cell? _ _ c0
  exact this
 have hm6 : MX w (cfL r0 r1 r2 r3 m0 m1 m2 m3 m4 m5 n0 n1 n2 far stp gap need meas away num den tms spr) x y bA B (some ⟨bm, 0, none⟩) (L.set i d) bm (bm + 1) (wp.setCell ⟨bm, i, none⟩ (.int .u8 (d.toNat : Int))).drew := by
  refine ⟨(HCF.out.far (p := ⟨bm, i, none⟩) (by show w.heap.size ≠ bm; omega) _).drew, (HSP.out.far (p := ⟨bm, i, none⟩) (by show w.heap.size + 1 ≠ bm; omega) _).drew, (HBR.out.far (p := ⟨bm, i, none⟩) (.inr (by show w.heap.size ≤ bm; omega)) _).drew, ?_, (HKP.out.setCell (by show w.heap.size ≤ bm; omega) _).drew, by simpa using hbmw⟩
  have := rd_put HRM.out (i := i) (by rw [List.length_map]; exact hiL) (.int .u8 (d.toNat : Int))
  rw [Nat.zero_add] at this
  rw [List.map_set]
  exact this.drew
 have HM6 := Lib.hid hm6
 have HLS : Hid ((L.set i d).length = n) := Lib.hid (by rw [List.length_set]; exact HLn.out)
 obtain ⟨M, hM⟩ : ∃ M, M = L.set i d := ⟨_, rfl⟩
 rw [← hM] at HM6 HLS
 clear hm6 hM hcell hi hn hfr hbmw
 conv => arg 2; whnf
 go_upto_region 6 with fail
 go_still_tail 17, (by kernel_rfl)
 change wpList _ _ _ _ _ wp.drew
 generalize L[i].toNat = c at *
 obtain ⟨c2, hc2⟩ : ∃ c2, c2 = cut % (2 * n) := ⟨_, rfl⟩
 have k1 : cut % (2 * n) = c2 := hc2.symm
 have k2 : (cut : Int) % (2 * (n : Int)) = (c2 : Int) := by rw [hc2]; rfl
 have k3 : IntKind.i64.wrap (2 * (n : Int)) = 2 * (n : Int) := IntWalk.i64_in _ (by omega)
 have k4 : IntKind.i64.wrap (cut : Int) = (cut : Int) := IntWalk.i64_in _ (by omega)
 have k5 : (cut : Int).tmod (2 * (n : Int)) = (c2 : Int) := by rw [Int.tmod_eq_emod_of_nonneg (by omega)]; exact k2
 have k6 : IntKind.i64.wrap (c2 : Int) = (c2 : Int) := IntWalk.i64_in _ (by have := Nat.mod_lt cut (show 0 < 2 * n by omega); omega)
 have k7 : ¬ 2 * (n : Int) = 0 := by omega
 clear hc2
 go_upto_if 83 with fail
 generalize (wp.setCell _ _).drew = w6 at *
 go_cut [19] (fun s19 wx => ∃ n', s19 = .slice (some ⟨bm, 0, none⟩) n' cm ∧ n' ≤ n ∧ wx = w6)
 case first =>
  by_cases hlt : c2 < n
  ·have d0 : decide ((c2 : Int) < (n : Int)) = true := decide_eq_true (by omega)
   have d0' : decide (c2 < n) = true := decide_eq_true hlt
   have l1 : (c2 : Int) ≤ (cm : Int) := by omega
   have l2 : c2 ≤ cm := by omega
   have l3 : (0 : Int) ≤ (c2 : Int) := by omega
   go_wp2_with fail
   go_meet
   exact ⟨c2, rfl, by omega, by trivial⟩
  ·have d0 : decide ((c2 : Int) < (n : Int)) = false := decide_eq_false (by omega)
   have d0' : decide (c2 < n) = false := decide_eq_false hlt
   go_wp2_with fail
   go_meet
   exact ⟨n, rfl, Nat.le_refl _, by trivial⟩
 obtain ⟨n', rfl, hn', rfl⟩ := hcut
 have hx := HM6.out
 go_step
 exact tail10 (M := M.take n') HCK.out HRN.out HBN.out hb12 hbc HBA.out (by rw [List.length_take, HLS.out]; omega) (by omega) (by omega) (fun h => by cases h) ⟨hx.conf, hx.spot, hx.brd, by rw [List.map_take]; exact hx.mrd.take n', hx.keep, hx.hhi⟩
end Top
end
section
open Go.RowKit
namespace Top
open Nav (cfL range_of NS DS GotDN dnew_any modeN tl0 GotDP dpush_any)
open Til (z16 In16)
open Cht (cells getC get_any GotGet zeroC zeroC_one infoChart all_one cput_any GotM)
open Txt (bv bv_one)
open Frm (Fr feedL frs GotFeed yfeed_any)
structure LX (w : World) (cf : List Value) (x y : Int) (zA : Option Addr) (Z : List Int) (bA : Option Addr) (B : List UInt8) (wr : World) : Prop where
 conf : Blk wr w.heap.size 32 cf
 spot : Blk wr (w.heap.size + 1) 34 [.int .i64 x, .int .i64 y]
 zrd : RdL wr 0 w.heap.size zA (Z.map z16)
 brd : RdL wr 0 w.heap.size bA (B.map bv)
 keep : Below w.heap.size w wr
theorem LX.next {w wr w' : World} {cf : List Value} {x y : Int} {zA bA : Option Addr} {Z : List Int} {B : List UInt8} (h : LX w cf x y zA Z bA B wr) (hb : Below wr.heap.size wr w') : LX w cf x y zA Z bA B w' := ⟨h.conf.next hb, h.spot.next hb, h.zrd.next hb, h.brd.next hb, bt h.keep hb⟩
theorem field_in {a b : Nat} {Z : List Int} (h : In16 Z) : In16 (fieldL a b Z) := by
 intro x hx
 unfold fieldL at hx
 obtain ⟨i, _, rfl⟩ := List.mem_map.1 hx
 have hg := fun j => Til.getD_in h j
 unfold fieldZ
 split
 ·exact hg i
 ·split
  ·exact half_in _ (hg _)
  ·have : i % 7 < 7 := Nat.mod_lt _ (by decide)
   omega
theorem own_block {w : World} {base n cap : Nat} {A : Option Addr} {l : List Value} (h : w.ownsRow base 5 1 (.slice A n cap) n l) (hn : 0 < n) : ∃ b, base ≤ b ∧ A = some ⟨b, 0, none⟩ ∧ (∀ i, w.frozen? ⟨b, i, none⟩ = false) ∧ RdL w b (b + 1) (some ⟨b, 0, none⟩) l := by
 obtain ⟨A', cap', e', hr, _⟩ := own_rd h
 obtain ⟨hl, h⟩ := h
 rcases h with ⟨_, h0⟩ | ⟨g, cap2, cur, e, hb, hg, _⟩
 ·omega
 ·injection e with e1 _ _
  injection e' with e2 _ _
  subst e1
  subst e2
  obtain ⟨b', off', e3, _, _, hlt, hc⟩ := hr.some (by omega)
  injection e3 with e3
  injection e3 with e4 e5
  subst e4 e5
  exact ⟨g, hb, rfl, fun i => frozen_of_row w g i _ _ hg, .inr ⟨g, 0, rfl, Nat.le_refl _, Nat.lt_succ_self _, hlt, hc⟩⟩
set_option maxRecDepth 100000 in
set_option maxHeartbeats 4000000 in
theorem law_core (r0 r1 r2 r3 m0 m1 m2 m3 m4 m5 n0 n1 n2 far stp gap need meas away num den tms spr x y k : Int) (a b : Nat) (ha : a < 256) (hb : b < 256) (hck : ∀ w, Calls Tryz.prog 14 #[.agg (cfL r0 r1 r2 r3 m0 m1 m2 m3 m4 m5 n0 n1 n2 far stp gap need meas away num den tms spr).toArray] w fun e w' => e = .returned (.int .i64 k) ∧ Below w.heap.size w w')
  (hrn : ∀ w, Calls Tryz.prog 5 #[] w fun e w' => e = .returned (.bool true) ∧ Below w.heap.size w w')
  (zA : Option Addr) (Z : List Int) (zn zc : Nat) (hzn : Z.length = zn) (hzc : zn ≤ zc) (hz : In16 Z) (bA : Option Addr) (B : List UInt8) (bn bc : Nat) (hbn : B.length = bn) (hbc : bn ≤ bc) (hbA : bA = none → bn = 0 ∧ bc = 0)
  (at' mask cut : Nat) (hat : at' < 65536) (hmask : mask < 256) (hcut : cut < 65536) (w : World) (hzr : RdL w 0 w.heap.size zA (Z.map z16)) (hbr : RdL w 0 w.heap.size bA (B.map bv)) :
  Calls Tryz.prog 3 #[.int .u8 (a : Int), .int .u8 (b : Int), .slice zA zn zc, .int .u16 (at' : Int), .int .u8 (mask : Int), .int .u16 (cut : Int), .agg (cfL r0 r1 r2 r3 m0 m1 m2 m3 m4 m5 n0 n1 n2 far stp gap need meas away num den tms spr).toArray, .agg #[.int .i64 x, .int .i64 y], .slice bA bn bc] w fun e w' => e = .returned (.bool true) ∧ Below w.heap.size w w' := by
 have hli := fun w => light_any r0 r1 r2 r3 m0 m1 m2 m3 m4 m5 n0 n1 n2 far stp gap need meas away num den tms spr k hck zA bA zn zc bn bc w
 obtain ⟨lt, hlt⟩ : ∃ l, l = decide (zn ≤ 1500 ∧ bn ≤ 1200 ∧ k = 0) := ⟨_, rfl⟩
 rw [← hlt] at hli
 obtain ⟨bad, hbad⟩ : ∃ l, l = (!lt || decide (800 < zn)) := ⟨_, rfl⟩
 have hckc := hck
 unfold cfL at hli ⊢
 have hb1 := Blk.mk (w.alloc (.cells #[.int .u32 r0, .int .i64 r1, .int .i64 r2, .int .i64 r3, .int .i64 m0, .int .i64 m1, .int .i64 m2, .int .i64 m3, .int .i64 m4, .int .i64 m5, .int .i64 n0, .int .i64 n1, .int .i64 n2, .int .i64 far, .int .i64 stp, .int .i64 gap, .int .i64 need, .int .i64 meas, .int .i64 away, .int .i64 num, .int .i64 den, .int .i64 tms, .int .i64 spr] 32)) 34 [.int .i64 x, .int .i64 y]
 rw [World.size_alloc] at hb1
 have HX0 : Hid (LX w (cfL r0 r1 r2 r3 m0 m1 m2 m3 m4 m5 n0 n1 n2 far stp gap need meas away num den tms spr) x y zA Z bA B ((w.alloc (.cells #[.int .u32 r0, .int .i64 r1, .int .i64 r2, .int .i64 r3, .int .i64 m0, .int .i64 m1, .int .i64 m2, .int .i64 m3, .int .i64 m4, .int .i64 m5, .int .i64 n0, .int .i64 n1, .int .i64 n2, .int .i64 far, .int .i64 stp, .int .i64 gap, .int .i64 need, .int .i64 meas, .int .i64 away, .int .i64 num, .int .i64 den, .int .i64 tms, .int .i64 spr] 32)).alloc (.cells #[.int .i64 x, .int .i64 y] 34))) := Lib.hid ⟨(Blk.mk w 32 [.int .u32 r0, .int .i64 r1, .int .i64 r2, .int .i64 r3, .int .i64 m0, .int .i64 m1, .int .i64 m2, .int .i64 m3, .int .i64 m4, .int .i64 m5, .int .i64 n0, .int .i64 n1, .int .i64 n2, .int .i64 far, .int .i64 stp, .int .i64 gap, .int .i64 need, .int .i64 meas, .int .i64 away, .int .i64 num, .int .i64 den, .int .i64 tms, .int .i64 spr]).alloc _, hb1, (hzr.alloc _).alloc _, (hbr.alloc _).alloc _, bt (bl _ _) (bl _ _)⟩
 have HLT := Lib.hid hlt
 have HBAD := Lib.hid hbad
 have HCK := Lib.hid hckc
 have HRN := Lib.hid hrn
 have HZN := Lib.hid hzn
 have HZ := Lib.hid hz
 have HBN := Lib.hid hbn
 clear hlt hbad hckc hck hrn hzn hz hbn hb1 hzr hbr
 go_enter Tryz.func3, Tryz.ntmps3
 go_upto_region 1 with fail
 go_cut [44] (fun s wx => s = .bool bad ∧ LX w (cfL r0 r1 r2 r3 m0 m1 m2 m3 m4 m5 n0 n1 n2 far stp gap need meas away num den tms spr) x y zA Z bA B wx)
 case first =>
  refine wp_region_list ?_
  cases hl : lt
  ·rw [hl] at hli
   have hbb : bad = true := by rw [HBAD.out, hl]; rfl
   go_wp2_with (refine wpList_load_midG (by rfl) 32 _ rfl w.heap.size 0 rfl ([.int .u32 r0, .int .i64 r1, .int .i64 r2, .int .i64 r3, .int .i64 m0, .int .i64 m1, .int .i64 m2, .int .i64 m3, .int .i64 m4, .int .i64 m5, .int .i64 n0, .int .i64 n1, .int .i64 n2, .int .i64 far, .int .i64 stp, .int .i64 gap, .int .i64 need, .int .i64 meas, .int .i64 away, .int .i64 num, .int .i64 den, .int .i64 tms, .int .i64 spr] : List Value) _ (range_of HX0.out.conf) Tryz.underlying32 rfl (by kernel_rfl) ?_)
   refine (hli _).mono ?_
   rintro e w2 ⟨rfl, hb2⟩
   have HX2 := Lib.hid (HX0.out.next hb2)
   clear hb2 hli
   go_wp2_with fail
   go_meet
   exact ⟨by rw [hbb], HX2.out⟩
  ·rw [hl] at hli
   have hbb : bad = decide ((800 : Int) < (zn : Int)) := by rw [HBAD.out, hl]; show (false || decide (800 < zn)) = _; rw [Bool.false_or]; exact decide_eq_decide.2 (by omega)
   go_wp2_with (refine wpList_load_midG (by rfl) 32 _ rfl w.heap.size 0 rfl ([.int .u32 r0, .int .i64 r1, .int .i64 r2, .int .i64 r3, .int .i64 m0, .int .i64 m1, .int .i64 m2, .int .i64 m3, .int .i64 m4, .int .i64 m5, .int .i64 n0, .int .i64 n1, .int .i64 n2, .int .i64 far, .int .i64 stp, .int .i64 gap, .int .i64 need, .int .i64 meas, .int .i64 away, .int .i64 num, .int .i64 den, .int .i64 tms, .int .i64 spr] : List Value) _ (range_of HX0.out.conf) Tryz.underlying32 rfl (by kernel_rfl) ?_)
   refine (hli _).mono ?_
   rintro e w2 ⟨rfl, hb2⟩
   have HX2 := Lib.hid (HX0.out.next hb2)
   clear hb2 hli
   go_wp2_with fail
   go_meet
   exact ⟨by rw [hbb], HX2.out⟩
 obtain ⟨rfl, hx⟩ := hcut
 have HX := Lib.hid hx
 clear hx HX0 hli
 by_cases hbe : bad = true
 ·subst hbe
  have hrn := HRN.out
  go_wp2_with fail
  refine (hrn _).mono ?_
  rintro e w2 ⟨rfl, hb2⟩
  have HF := Lib.hid (bt HX.out.keep hb2)
  clear hb2 hrn
  go_wp2_with fail
  go_ret
  exact ⟨rfl, HF.out⟩
 obtain rfl : bad = false := by cases bad <;> simp_all
 have hgood : lt = true ∧ ¬ 800 < zn := by
  have := HBAD.out
  cases lt
  ·cases this
  ·exact ⟨rfl, of_decide_eq_false this.symm⟩
 obtain ⟨rfl, hz8⟩ := hgood
 obtain ⟨_, hb12, rfl⟩ := of_decide_eq_true HLT.out.symm
 have hck4 := HCK.out
 have hmd := made_any a b ha hb zA Z zn zc 0 w.heap.size wc HX.out.zrd HZN.out (by omega) hzc HZ.out HX.out.keep.size
 have hfl := Lib.hid (fieldL_len a b Z)
 have hfi := field_in (a := a) (b := b) HZ.out
 obtain ⟨hW1, hW2⟩ := fieldW_le a
 obtain ⟨hH1, hH2⟩ := fieldW_le b
 generalize fieldL a b Z = F at *
 generalize fieldW a = W at *
 generalize fieldW b = H at *
 clear hbe HBAD HLT ha hb
 go_upto_region 3 with fail
 go_cut [19] (fun s wx => ∃ (L : List UInt8) (bm cm : Nat), s = .slice (some ⟨bm, 0, none⟩) L.length cm ∧ 0 < L.length ∧ L.length ≤ 100000 ∧ L.length ≤ cm ∧ w.heap.size + 1 < bm ∧ RdL wx bm (bm + 1) (some ⟨bm, 0, none⟩) (L.map bv) ∧ (∀ i, wx.frozen? ⟨bm, i, none⟩ = false) ∧ LX w (cfL r0 r1 r2 r3 m0 m1 m2 m3 m4 m5 n0 n1 n2 far stp gap need meas away num den tms spr) x y zA Z bA B wx)
 case first =>
  go_wp2_with fail
  refine hmd.mono ?_
  rintro e w2 ⟨⟨A2, c2, rfl, hc2, hr2⟩, hb2⟩
  have hcp := cput_any A2 F W H F.length c2 _ _ w2 hr2 (Nat.le_refl _) rfl hc2 hfl.out.symm hfi hW1 hW2 hH1 hH2
  have HX2 := Lib.hid (HX.out.next hb2)
  clear hmd hr2 hb2
  unfold cells at hcp ⊢
  go_wp2_with fail
  refine hcp.mono ?_
  rintro e w3 ⟨L, v, rfl, hL0, hL1, ho, hb3⟩
  have HX3 := Lib.hid (HX2.out.next hb3)
  have hsz := HX2.out.spot.lt
  obtain ⟨A3, c3, rfl, hr3, hc3, _, _⟩ := own_rd ho
  obtain ⟨bm, hbm, hA3, hfr, hr4⟩ := own_block ho hL0
  subst hA3
  have HR4 := Lib.hid hr4
  clear hcp hr3 hb3 ho hr4
  go_wp2_with fail
  go_meet
  exact ⟨L, bm, c3, rfl, hL0, hL1, hc3, by omega, HR4.out, hfr, HX3.out⟩
 obtain ⟨L, bm, cm, rfl, hL0, hL1, hcm, hbm, hrm, hfr, hx⟩ := hcut
 have m1' : (L.length == 0) = false := beq_eq_false_iff_ne.2 (by omega)
 have m0' : ((L.length : Int) == 0) = false := beq_eq_false_iff_ne.2 (by omega)
 have HXX := Lib.hid hx
 have HRM := Lib.hid hrm
 have HFR := Lib.hid hfr
 clear hx hrm hfr HX hmd
 obtain ⟨wp, rfl⟩ : ∃ wp : World, wp = wc := ⟨_, rfl⟩
 go_upto_if 56 with fail
 go_cut [] (fun wx => wx = wp)
 case first =>
  go_wp2_with fail
  go_meet
  trivial
 subst hcut
 go_step
 exact tail6 hck4 HRN.out HBN.out (by omega) hbc hbA rfl hL0 hL1 hcm hat hmask hcut (by omega) HRM.out HFR.out HXX.out.conf HXX.out.spot HXX.out.brd HXX.out.keep
end Top
end
end Go.Proofs.YtekjehbkmlodmaaGreat
