/-
  The law RecorderDoes, walked.
-/
import Derived.Test.YtijijfggppnbpaaRecG
import Derived.Deep.RegionHeld3
import Derived.Deep.CutBlock
import Derived.Deep.DeepCutAuto
namespace Go.Proofs.Ytijijfggppnbpaa
open Go.RowKit Go.Shelf
set_option linter.unusedVariables false
namespace Rec
open Frm Txt
theorem bytes_rd {w : World} {lo hi : Nat} {A : Option Addr} {L : List UInt8} (h : RdL w lo hi A (L.map bv)) : Crc.Bytes w A L := by
  rcases h with h | ⟨b, off, e, _, _, h3, hc⟩
  · exact .inl (by simpa using h)
  · exact .inr ⟨b, off, e, h3, fun i hi => hc i _ (by simp [bv, hi])⟩
theorem same_rd (A A' : Option Addr) (L : List UInt8) (N cap cap' lo hi lo' hi' : Nat) (hN : L.length = N) (hA : A = none → N = 0 ∧ cap = 0) (hA' : A' = none → N = 0 ∧ cap' = 0) (w : World) (h : RdL w lo hi A (L.map bv)) (h' : RdL w lo' hi' A' (L.map bv)) :
    Calls Try.prog 14 #[.slice A N cap, .slice A' N cap'] w fun e w' => e = .returned (.bool true) ∧ w = w' := by
  subst hN
  have := Crc.same_any A A' L L cap cap' w (bytes_rd h) hA (bytes_rd h') hA'
  simpa using this
theorem below_of_drew {w w' : World} (h : Below w.drew.heap.size w.drew w') : Below w.heap.size w w' := ⟨h.os, h.tape, h.output, h.size, h.block⟩
theorem bools_rd (w : World) (k : Nat) : RdL (w.alloc (.cells (Array.replicate k (Value.bool false)) 4)) 0 (w.alloc (.cells (Array.replicate k (Value.bool false)) 4)).heap.size (some ⟨w.heap.size, 0, none⟩) ((List.replicate k false).map bo) := by
  have h := new_rd w 4 (List.replicate k (Value.bool false))
  rw [List.toArray_replicate] at h
  rw [List.map_replicate]
  exact h.wide (Nat.zero_le _) (by simp)
set_option maxRecDepth 100000 in
theorem lawDoes_out (c : Nat) (A : Option Addr) (m cap : Nat) (n : Int) (h : 60 < m) (w : World) :
    Calls Try.prog 10 #[.int .u8 (c : Int), .slice A m cap, .int .i64 n] w fun e w' => e = .returned (.bool true) ∧ Below w.heap.size w w' := by
  have d1 : decide (60 < (m : Int)) = true := decide_eq_true (by omega)
  clear h
  go_enter Try.func10, Try.ntmps10
  go_wp2_with fail
  refine (works30_any _).mono ?_
  rintro e w1 ⟨rfl, hb⟩
  go_wp2
  go_ret
  exact ⟨rfl, hb⟩
theorem infoBool : (Try.prog.info? 4).map (fun i => (i.zero, i.size, i.bytes)) = some (some (.bool false), 1, 1) := by kernel_rfl
set_option maxRecDepth 100000 in
set_option maxHeartbeats 1000000 in
theorem lawDoes_core (c : Nat) (hc : c < 256) (A : Option Addr) (fs : List Fr) (m cap : Nat) (n : Int) (hn1 : -9223372036854775808 ≤ n) (hn2 : n ≤ 9223372036854775807) (w : World) (hrd : RdL w 0 w.heap.size A (frs fs)) (hm : fs.length = m) (hm2 : m ≤ 60) (hok : ∀ f ∈ fs, f.Ok) :
    Calls Try.prog 10 #[.int .u8 (c : Int), .slice A m cap, .int .i64 n] w fun e w' => e = .returned (.bool true) ∧ Below w.heap.size w w' := by
  obtain ⟨ib, hib, hbz0, hbz1, hbz2⟩ := info_parts infoBool
  have d1 : decide (60 < (m : Int)) = false := decide_eq_false (by omega)
  have hmade := made_any c hc A fs m cap 0 w.heap.size w hrd (Nat.le_refl _) hm (by omega) hok
  have hgood := fun wz (h : RdL wz 0 w.heap.size A (frs fs)) hs => good_any A fs m cap 0 w.heap.size wz h hs hm (by omega) hok
  have hgd := goods_good hok
  have hgl := goods_len fs
  have hk1 : 1 ≤ madeK c := by unfold madeK; omega
  have hk2 : madeK c ≤ 20 := by unfold madeK; omega
  have hmk := mk_row (P := Try.prog) 75 4 ib _ Try.underlying75 hib hbz0 rfl hbz1 (by omega) (madeK c) (by omega)
  generalize madeK c = k at *
  generalize goods fs = G at *
  obtain ⟨M, hM⟩ : ∃ M, M = G.length := ⟨_, rfl⟩
  have hM60 : M ≤ 60 := by omega
  have hstl := st_len hk1 hgd
  have hstn := st_next k G
  have hmil : G.length ≤ 1000000 := by omega
  have hall := ring_all hk1 (ring_st hk1 hgd hmil (lo := List.replicate k false) (fun x hx => (List.mem_replicate.1 hx).2)) (by simp) (N := G.length + 1) (by omega) (Nat.le_refl _)
  have hlast := ring_last hk1 hgd hmil n
  rw [Nat.add_sub_cancel, List.take_of_length_le (Nat.le_refl _), Nat.min_eq_left (keptN_le hk1).2, ← hM] at hall
  rw [← hM] at hstn hlast
  obtain ⟨B, hB⟩ : ∃ B, B = (st k G).1 := ⟨_, rfl⟩
  rw [← hB] at hstl hall hlast
  have HALL := Lib.hid hall
  have HLAST := Lib.hid hlast
  have HM := Lib.hid hM
  have HGD := Lib.hid hgd
  have HB := Lib.hid hB
  have HSTL := Lib.hid hstl
  have HRD := Lib.hid hrd
  clear hall hlast hM hgd hstl hmil hrd hm hok
  go_enter Try.func10, Try.ntmps10
  go_wp2_with fail
  refine hmade.mono ?_
  rintro e w1 ⟨gr, gb, cb, rfl, hRB, hg1, hg2, hb⟩
  rw [hstn, ← HB.out] at hRB
  have HR1 := Lib.hid hRB
  have HK1 := Lib.hid hb
  have hs1 := hb.size
  have hgo := hgood w1 (HRD.out.next hb) hs1
  clear hRB hb hmade hgood hB
  go_wp2_with fail
  refine hgo.mono ?_
  rintro e w2 ⟨⟨v9, rfl, ho9⟩, hb2⟩
  rw [← HM.out] at ho9
  obtain ⟨A9, c9, rfl, hr9, hc9, hcm9, hA9⟩ := own_rd ho9
  have HR9 := Lib.hid hr9
  have HR2 := Lib.hid (HR1.out.next hb2)
  have HK2 := Lib.hid (bt HK1.out hb2)
  have hs2 := hb2.size
  clear ho9 hr9 hb2 hgo HR1 HK1
  obtain ⟨M1, hM1⟩ : ∃ M1, M1 = M + 1 := ⟨_, rfl⟩
  obtain ⟨fr, hfr⟩ : ∃ fr, fr = keptN k M := ⟨_, rfl⟩
  have hfr1 := keptN_le (k := k) (n := M) hk1
  have hkept := kept_any k M (by omega) (by omega)
  rw [show (if k < M then M - k + 1 else 1) = fr from hfr.symm] at hkept
  rw [← hfr] at hfr1
  have HFR := Lib.hid hfr
  have wM1 : IntKind.i64.wrap ((M : Int) + 1) = (M1 : Int) := by rw [IntWalk.i64_in _ (by omega)]; omega
  have wM2 : IntKind.u64.wrap (M1 : Int) = (M1 : Int) := IntWalk.u64_in _ (by omega)
  rw [← hM1] at HR2
  have HM1 := Lib.hid hM1
  have hnx := fun wz (h : Below w2.heap.size w2 wz) => next_any (HR2.out.next h)
  have hce := fun wz (h : Below w2.heap.size w2 wz) => cells_any (HR2.out.next h) HSTL.out (by omega)
  have hby := fun wz (h : Below w2.heap.size w2 wz) => bytes_any (HR2.out.next h) (by rw [HSTL.out]; omega) (by rw [HSTL.out]; omega)
  unfold GotB at hby
  rw [HSTL.out] at hby
  obtain ⟨K, hK⟩ : ∃ K, K = 40 * k := ⟨_, rfl⟩
  rw [← hK] at hby
  have HKK := Lib.hid hK
  have hyb := fun wz (h : Below w2.heap.size w2 wz) => ybytes_any k hk1 (by omega) A9 G M c9 w1.heap.size w2.heap.size wz (HR9.out.next h) h.size HM.out.symm (by omega) HGD.out
  rw [← HB.out, ← hK] at hyb
  have hare := fun wz (h : Below w2.heap.size w2 wz) Lo (hl : RdL wz 0 wz.heap.size Lo ((List.replicate k false).map bo)) => are_any (HR2.out.next h) HSTL.out hk1 (by omega) (by omega) (by omega) A9 G M c9 (((HR9.out.next h).wide (Nat.zero_le _) h.size)) HM.out.symm (by omega) fr (by omega) (by omega) Lo (List.replicate k false) k k hl (by simp) hk1 (by omega) (by rw [HM1.out, HFR.out]; exact HALL.out)
  have e1 : ((M1 : Int) != (M1 : Int)) = false := by rw [bne_eq_false_iff_eq]
  have e2 : ((k : Int) != (k : Int)) = false := by rw [bne_eq_false_iff_eq]
  clear hfr hM1 hK
  go_upto_region 5 with fail
  go_cut [64] (fun s64 wx => s64 = .bool false ∧ Below w2.heap.size w2 wx)
  case first =>
    go_region_held3 (fun w' => Below w2.heap.size w2 w')
      (first
        | exact below_drewN (Below.refl _ _) 1
        | assumption
        | exact bt (by assumption) (by assumption)
        | exact (‹Below w2.heap.size w2 _›).alloc (‹Below w2.heap.size w2 _›).size _)
      (first
        | (go_at_call 44; (with_reducible refine (hnx _ ‹Below w2.heap.size w2 _›).mono ?_); rintro e w' ⟨rfl, rfl⟩)
        | (go_at_call 45; (with_reducible refine (hce _ ‹Below w2.heap.size w2 _›).mono ?_); rintro e w' ⟨rfl, rfl⟩)
        | (go_at_call 46; (with_reducible refine (hby _ ‹Below w2.heap.size w2 _›).mono ?_); rintro e w5 ⟨⟨v5, rfl, ho5⟩, hb5⟩; obtain ⟨A5, c5, rfl, hr5, _, _, hA5⟩ := own_rd ho5)
        | (go_at_call 47; (with_reducible refine (hyb _ ‹Below w2.heap.size w2 _›).mono ?_); rintro e w6 ⟨⟨v6, rfl, ho6⟩, hb6⟩; obtain ⟨A6, c6, rfl, hr6, _, _, hA6⟩ := own_rd ho6; have hr56 := hr5.next hb6; have hsame := same_rd A5 A6 B K c5 c6 _ _ _ _ (by rw [HSTL.out, HKK.out]) hA5 hA6 w6 hr56 hr6)
        | (go_at_call 14; (with_reducible refine hsame.mono ?_); rintro e w' ⟨rfl, rfl⟩)
        | (go_at_call 49; (with_reducible refine (hkept _).mono ?_); rintro e w' ⟨rfl, rfl⟩)
        | (go_at_call 48; (with_reducible refine (hare _ ‹Below w2.heap.size w2 _› _ (bools_rd w6 k)).mono ?_); rintro e w8 ⟨rfl, hb8⟩))
    all_goals
      go_wp2_with fail
      go_meet
      exact ⟨rfl, by assumption⟩
  obtain ⟨rfl, hbw⟩ := hcut
  have HR3 := Lib.hid (HR2.out.next hbw)
  have HR9b := Lib.hid (HR9.out.next hbw)
  have HK3 := Lib.hid (bt HK2.out hbw)
  have hs3 := hbw.size
  have hlast := last_any HR3.out HSTL.out hk1 (by omega) (by have := HM1.out; omega) (by have := HM1.out; omega) n hn1 hn2
  rw [HM1.out, HLAST.out] at hlast
  obtain ⟨wt, hwt⟩ : ∃ wt, wt = min n.toNat (min M k) := ⟨_, rfl⟩
  rw [← hwt] at hlast
  have hwM : wt ≤ M := by omega
  have hLl : (G.drop (M - wt)).length = wt := by rw [List.length_drop, ← HM.out]; omega
  have HWT := Lib.hid hwt
  clear hnx hce hby hyb hare hbw HR2 HR9 HK2 hkept wM1 wM2 hmk
  go_wp2_with fail
  refine hlast.mono ?_
  unfold GotT
  rw [hLl]
  rintro e w4 ⟨⟨A10, c10, rfl, hr10, hc10⟩, hb4⟩
  have HR10 := Lib.hid hr10
  have HR9c := Lib.hid (HR9b.out.next hb4)
  have HK4 := Lib.hid (bt HK3.out hb4)
  have hs4 := hb4.size
  clear hr10 hb4 hlast hwt
  go_upto_region 8 with fail
  go_cut [11] (fun s11 wx => s11 = .int .i64 (wt : Int) ∧ wx = w4)
  case first =>
    go_wp2_with fail
    all_goals
      go_meet
      have := HWT.out
      exact ⟨by congr 1; omega, rfl⟩
  obtain ⟨rfl, rfl⟩ := hcut
  have e3 : ((wt : Int) != (wt : Int)) = false := by rw [bne_eq_false_iff_eq]
  go_wp2_with fail
  go_loopw [12] (fun s12 wr => ∃ i : Nat, s12 = .int .i64 (i : Int) ∧ i ≤ wt ∧ Below wc.heap.size wc wr) (fun s12 _ => wt - (intOf s12).toNat)
  case atStart => exact ⟨0, rfl, by omega, Below.refl _ _⟩
  case round =>
    obtain ⟨i, rfl, hi0, hbr⟩ := hrel
    have HRA := Lib.hid (HR10.out.next hbr)
    have HRB := Lib.hid (HR9c.out.next hbr)
    have HBR := Lib.hid hbr
    clear hbr
    by_cases hi : i < wt
    · have di : decide (i < wt) = true := decide_eq_true hi
      obtain ⟨bA, oA, rfl, _, _, _, _⟩ := HRA.out.some (by rw [frs_len, hLl]; omega)
      obtain ⟨bB, oB, rfl, _, _, _, _⟩ := HRB.out.some (by rw [frs_len, ← HM.out]; omega)
      have hiL : i < (G.drop (M - wt)).length := by rw [hLl]; exact hi
      have hpL : M - wt + i < G.length := by rw [← HM.out]; omega
      have ha := fr_elem HRA.out hiL
      have hb := fr_elem HRB.out hpL
      rw [List.getElem_drop] at ha
      obtain ⟨f, hf⟩ : ∃ f, f = G[M - wt + i] := ⟨_, rfl⟩
      rw [← hf] at ha hb
      obtain ⟨p, hp⟩ : ∃ p, p = M - wt + i := ⟨_, rfl⟩
      rw [← hp] at hb
      obtain ⟨x1, x2, x3, x4, x5, x6⟩ := f
      obtain ⟨a0, a1, a2, a3, a4, a5⟩ := ha
      obtain ⟨b0, b1, b2, b3, b4, b5⟩ := hb
      dsimp only at a0 a1 a2 a3 a4 a5 b0 b1 b2 b3 b4 b5
      obtain ⟨q, hq⟩ : ∃ q, q = M - wt := ⟨_, rfl⟩
      have v1 : IntKind.i64.wrap ((M : Int) - (wt : Int)) = (q : Int) := by rw [IntWalk.i64_in _ (by omega)]; omega
      have v2 : IntKind.i64.wrap ((q : Int) + (i : Int)) = (p : Int) := by rw [IntWalk.i64_in _ (by omega)]; omega
      have i0 : (0 : Int) ≤ (i : Int) := by omega
      have i1 : (i : Int) < (wt : Int) := by omega
      have p0 : (0 : Int) ≤ (p : Int) := by omega
      have p1 : (p : Int) < (M : Int) := by omega
      have hfe := fun w => fr_neq_eq ⟨x1, x2, x3, x4, x5, x6⟩ w
      dsimp only at hfe
      clear hf hp hq hiL hpL
      go_wp2_with fail
      go_quiet (fail)
      go_wp2_with fail
      go_roundw
      case rel => exact ⟨i + 1, by go_num, by omega, below_drewN HBR.out _⟩
      case measure => simp [intOf]; omega
    · have di : decide (i < wt) = false := decide_eq_false hi
      obtain rfl : i = wt := by omega
      have HB0 := Lib.hid (bt HK4.out HBR.out)
      clear HRA HRB HR9c HR10 HBR
      by_cases hn : 1 ≤ n ∧ n ≤ 1024
      · have dn1 : decide ((1 : Int) ≤ n) = true := decide_eq_true hn.1
        have dn2 : decide (n ≤ 1024) = true := decide_eq_true hn.2
        obtain ⟨j, rfl⟩ : ∃ j : Nat, n = (j : Int) := ⟨n.toNat, by omega⟩
        have hnew := new_ok (k := j) (by omega) (by omega) wr
        clear hn
        go_wp2_with fail
        refine hnew.mono ?_
        rintro e w5 ⟨gr2, gb2, cb2, rfl, _, _, _, hb5⟩
        have HB5 := Lib.hid (bt HB0.out hb5)
        clear hb5 hnew
        go_wp2_with fail
        refine (works30_any _).mono ?_
        rintro e w6 ⟨rfl, hb6⟩
        have HB6 := Lib.hid (bt HB5.out hb6)
        clear hb6
        go_wp2_with fail
        go_ret
        exact ⟨rfl, HB6.out⟩
      · have hnew := new_bad (k := n) (by omega) wr
        by_cases hn1 : 1 ≤ n
        · have dn1 : decide ((1 : Int) ≤ n) = true := decide_eq_true hn1
          have dn2 : decide (n ≤ 1024) = false := decide_eq_false (by omega)
          clear hn
          go_wp2_with fail
          refine hnew.mono ?_
          rintro e w5 ⟨rfl, rfl⟩
          have HB5 := HB0
          clear hnew
          go_wp2_with fail
          refine (works30_any _).mono ?_
          rintro e w6 ⟨rfl, hb6⟩
          have HB6 := Lib.hid (bt HB5.out hb6)
          clear hb6
          go_wp2_with fail
          go_ret
          exact ⟨rfl, HB6.out⟩
        · have dn1 : decide ((1 : Int) ≤ n) = false := decide_eq_false hn1
          clear hn
          go_wp2_with fail
          refine hnew.mono ?_
          rintro e w5 ⟨rfl, rfl⟩
          have HB5 := HB0
          clear hnew
          go_wp2_with fail
          refine (works30_any _).mono ?_
          rintro e w6 ⟨rfl, hb6⟩
          have HB6 := Lib.hid (bt HB5.out hb6)
          clear hb6
          go_wp2_with fail
          go_ret
          exact ⟨rfl, HB6.out⟩
def FrSh : Sh := .cat (.int .i64) (.cat (.int .u16) (.cat (.int .u32) (.cat (.int .i32) (.cat (.int .i32) (.cat (.int .i32) .unit)))))
theorem open_u8 {W : World} {v : Value} (h : VSat W (.int .u8) false v) : ∃ a : Nat, v = .int .u8 (a : Int) ∧ a < 256 := by
  obtain ⟨x, e, hx⟩ := h
  injection e with e
  subst e
  have := bounds_u8 hx
  exact ⟨x.toNat, by rw [Int.toNat_of_nonneg (by omega)], by omega⟩
theorem open_i64 {W : World} {v : Value} (h : VSat W (.int .i64) false v) : ∃ a : Int, v = .int .i64 a ∧ -9223372036854775808 ≤ a ∧ a ≤ 9223372036854775807 := by
  obtain ⟨x, e, hx⟩ := h
  injection e with e
  subst e
  have := bounds_i64 hx
  exact ⟨x, rfl, this.1, this.2⟩
theorem open_frames {W : World} {v : Value} (h : VSat W (.slice FrSh) false v) : ∃ A L cap, v = .slice A (List.length L) cap ∧ RdL W 0 W.heap.size A (frs L) ∧ (∀ f ∈ L, f.Ok) := by
  obtain ⟨A, L, cap, h1, h2, h3, _⟩ := open_slice_of Fr.cells Fr.Ok FrSh 6 rfl (fun _ => rfl) (by decide) (fun cs hs => by
    obtain ⟨_, _, rfl, ⟨k, rfl, hk⟩, _, _, rfl, ⟨q, rfl, hq⟩, _, _, rfl, ⟨t, rfl, ht⟩, _, _, rfl, ⟨a, rfl, ha⟩, _, _, rfl, ⟨b, rfl, hb⟩, _, _, rfl, ⟨c, rfl, hc⟩, rfl⟩ := hs
    have h1 := bounds_i64 hk
    have h2 := bounds_u16 hq
    have h3 := bounds_u32 ht
    have h4 := bounds_i32 ha
    have h5 := bounds_i32 hb
    have h6 := bounds_i32 hc
    obtain ⟨q, rfl⟩ : ∃ m : Nat, q = (m : Int) := ⟨q.toNat, by omega⟩
    obtain ⟨t, rfl⟩ : ∃ m : Nat, t = (m : Int) := ⟨t.toNat, by omega⟩
    exact ⟨⟨k, q, t, a, b, c⟩, rfl, ⟨h1.1, h1.2, by show q < 65536; omega, by show t < 4294967296; omega, h4.1, h4.2, h5.1, h5.2, h6.1, h6.2⟩⟩) h
  exact ⟨A, L, cap, h1, h2, h3⟩
theorem walkDoes (v0 v1 v2 : Value) (W : World) (h0 : VSat W (.int .u8) false v0) (h1 : VSat W (.slice FrSh) false v1) (h2 : VSat W (.int .i64) false v2) :
    Calls Try.prog 10 #[v0, v1, v2] W fun e W' => e = .returned (.bool true) ∧ Below W.heap.size W W' := by
  obtain ⟨a, rfl, ha⟩ := open_u8 h0
  obtain ⟨A, L, cap, rfl, hr, hok⟩ := open_frames h1
  obtain ⟨n, rfl, hn1, hn2⟩ := open_i64 h2
  by_cases h : 60 < L.length
  · exact lawDoes_out a A L.length cap n h W
  · exact lawDoes_core a ha A L L.length cap n hn1 hn2 W hr rfl (by omega) hok
end Rec
end Go.Proofs.Ytijijfggppnbpaa
