/-
  The walk of package route's search: up to its loop.
-/
import Derived.Test.YtgncngpgodfijaaRouS
import Derived.Deep.DeepCutAuto
import Derived.BigRegion
namespace Go.Proofs.Ytgncngpgodfijaa
open Go.RowKit
set_option linter.unusedVariables false
namespace Rou

theorem mk_row {P : Program} (t e : TypeId) (i : TypeInfo) (z : Value) (ht : P.underlying t = some (.slice e)) (hi : P.info? e = some i) (hz : i.zero = some z) (hone : z.cells = #[z]) (h1 : i.size = 1) (hb : i.bytes ≤ 8) (n : Nat) (hn : n ≤ 4096) (w : World) :
    (Instr.makeSlice t (.int .i64 (n : Int)) (.int .i64 (n : Int))).run P w = .ok (.slice (some ⟨w.heap.size, 0, none⟩) n n) (w.alloc (.cells (List.replicate n z).toArray e)) := by
  have hm : i.bytes * n ≤ 8 * 4096 := Nat.mul_le_mul hb hn
  have hb' : (i.bytes : Int) * (n : Int) ≤ 281474976710656 := by
    have h : ((i.bytes * n : Nat) : Int) ≤ 281474976710656 := by omega
    rwa [Int.natCast_mul] at h
  have hr := run_make (P := P) w t e i z ht hi hz .i64 .i64 n n (by omega) (Int.le_refl _) hb' (by omega)
  rw [hone, h1, Nat.mul_one, Int.toNat_natCast] at hr
  rw [hr]
  have : madeCells #[z] n = (List.replicate n z).toArray := by
    apply Array.toList_inj.1
    rw [toList_madeCells_one]
  rw [this]
theorem info64 : (Try.prog.info? 2).map (fun i => (i.zero, i.size, i.bytes)) = some (some (.int .i64 0), 1, 8) := by kernel_rfl
theorem infoBool : (Try.prog.info? 4).map (fun i => (i.zero, i.size, i.bytes)) = some (some (.bool false), 1, 1) := by kernel_rfl
/-- the first tables -/
structure S1 (w : World) (W H : Int) (A : Option Addr) (n cap lo hi : Nat) (C : List Int) (gc gb : Nat) (D K : List Int) (wr : World) : Prop where
  box : Blk wr w.heap.size 82 (fdc W H A n cap)
  rd : RdL wr lo hi A (C.map iv)
  keep : Below w.heap.size w wr
  hi : hi ≤ w.heap.size
  c : Blk wr gc 2 (D.map iv)
  b : Blk wr gb 3 (K.map iv)
  g1 : w.heap.size < gc
  g2 : w.heap.size < gb
  n1 : gc ≠ gb
section
variable {w wr w' : World} {W H : Int} {A : Option Addr} {n cap lo hi : Nat} {C : List Int} {gc gb : Nat} {D K : List Int}
theorem S1.next (S : S1 w W H A n cap lo hi C gc gb D K wr) (hb : Below wr.heap.size wr w') : S1 w W H A n cap lo hi C gc gb D K w' :=
  ⟨S.box.next hb, S.rd.next hb, bt S.keep hb, S.hi, S.c.next hb, S.b.next hb, S.g1, S.g2, S.n1⟩
theorem S1.setc (S : S1 w W H A n cap lo hi C gc gb D K wr) (i : Nat) (x : Int) : S1 w W H A n cap lo hi C gc gb (D.set i x) K (wr.setCell ⟨gc, i, none⟩ (.int .i64 x)) := by
  have g1 := S.g1
  refine ⟨S.box.far (p := ⟨gc, i, none⟩) (by show w.heap.size ≠ gc; omega) _, S.rd.far (p := ⟨gc, i, none⟩) (.inr (by have := S.hi; show hi ≤ gc; omega)) _, S.keep.setCell (by show w.heap.size ≤ gc; omega) _, S.hi, ?_, S.b.far (p := ⟨gc, i, none⟩) (Ne.symm S.n1) _, S.g1, S.g2, S.n1⟩
  have := S.c.put i (.int .i64 x)
  rw [List.map_set]
  exact this
theorem S1.setb (S : S1 w W H A n cap lo hi C gc gb D K wr) (i : Nat) (x : Int) : S1 w W H A n cap lo hi C gc gb D (K.set i x) (wr.setCell ⟨gb, i, none⟩ (.int .i64 x)) := by
  have g1 := S.g2
  refine ⟨S.box.far (p := ⟨gb, i, none⟩) (by show w.heap.size ≠ gb; omega) _, S.rd.far (p := ⟨gb, i, none⟩) (.inr (by have := S.hi; show hi ≤ gb; omega)) _, S.keep.setCell (by show w.heap.size ≤ gb; omega) _, S.hi, S.c.far (p := ⟨gb, i, none⟩) S.n1 _, ?_, S.g1, S.g2, S.n1⟩
  have := S.b.put i (.int .i64 x)
  rw [List.map_set]
  exact this
end
/-- filled up to i -/
def fill (n i : Nat) : List Int := List.replicate i (-1) ++ List.replicate (n - i) 0
theorem fill_len {n i : Nat} (h : i ≤ n) : (fill n i).length = n := by simp [fill]; omega
theorem fill_set {n i : Nat} (h : i < n) : (fill n i).set i (-1) = fill n (i + 1) := by
  unfold fill
  obtain ⟨k, hk⟩ : ∃ k, n - i = k + 1 := ⟨n - i - 1, by omega⟩
  rw [hk, List.set_append_right _ _ (by simp)]
  have e : n - (i + 1) = k := by omega
  rw [e, List.length_replicate, Nat.sub_self, List.replicate_succ (n := k), List.set_cons_zero, List.replicate_succ' (n := i), List.append_assoc]
  rfl
theorem fill_all (n : Nat) : fill n n = List.replicate n (-1) := by simp [fill]
theorem fill_0 (n : Nat) : fill n 0 = List.replicate n 0 := by simp [fill]
theorem blk_rep (w : World) (t : TypeId) (n : Nat) (v : Value) : Blk (w.alloc (.cells (Array.replicate n v) t)) w.heap.size t (List.replicate n v) := by
  have := Blk.mk w t (List.replicate n v)
  rwa [List.toArray_replicate] at this
theorem fill_map (n : Nat) : (fill n 0).map iv = List.replicate n (.int .i64 0) := by rw [fill_0, List.map_replicate]; rfl
theorem s1_mk {w : World} {W H : Int} {A : Option Addr} {n cap lo hi : Nat} {C : List Int} {W0 : World} (hB : Blk W0 w.heap.size 82 (fdc W H A n cap)) (hR : RdL W0 lo hi A (C.map iv)) (hk : Below w.heap.size w W0) (hs : W0.heap.size = w.heap.size + 1) (hh : hi ≤ w.heap.size) :
    S1 w W H A n cap lo hi C (w.heap.size + 1) (w.heap.size + 1 + 1) (fill n 0) (fill n 0) ((W0.alloc (.cells (Array.replicate n (.int .i64 0)) 2)).alloc (.cells (Array.replicate n (.int .i64 0)) 3)).drew ∧
    S1 w W H A n cap lo hi C (w.heap.size + 1 + 1) (w.heap.size + 1) (fill n 0) (fill n 0) ((W0.alloc (.cells (Array.replicate n (.int .i64 0)) 3)).alloc (.cells (Array.replicate n (.int .i64 0)) 2)).drew := by
  have e : ∀ t, (W0.alloc (.cells (Array.replicate n (.int .i64 0)) t)).heap.size = w.heap.size + 1 + 1 := fun t => by rw [heap_alloc_sz, hs]
  refine ⟨⟨((hB.alloc _).alloc _).drew, ((hR.alloc _).alloc _).drew, bt (bt hk (bl _ _)) ((bl _ _).drew), hh, ?_, ?_, by omega, by omega, by omega⟩, ⟨((hB.alloc _).alloc _).drew, ((hR.alloc _).alloc _).drew, bt (bt hk (bl _ _)) ((bl _ _).drew), hh, ?_, ?_, by omega, by omega, by omega⟩⟩
  · rw [fill_map, ← hs]; exact ((blk_rep W0 _ n _).alloc _).drew
  · rw [fill_map, ← e 2]; exact (blk_rep _ _ n _).drew
  · rw [fill_map, ← e 3]; exact (blk_rep _ _ n _).drew
  · rw [fill_map, ← hs]; exact ((blk_rep W0 _ n _).alloc _).drew
/-- how long a slice is; how many are done: read off the world -/
def lenV : Option Value → Nat
  | some (.slice _ n _) => n
  | _ => 0
def trues : Option Obj → Nat
  | some (.cells cs _ _) => cs.toList.countP fun v => match v with | .bool true => true | _ => false
  | _ => 0
theorem trues_blk {w : World} {g : Nat} {t : TypeId} {N : List Bool} (h : Blk w g t (N.map Value.bool)) : trues w.heap[g]? = cnt N := by
  rw [show w.heap[g]? = _ from h]
  show List.countP _ ((N.map Value.bool).toArray.toList) = _
  unfold cnt
  simp only [List.countP_map]
  congr 1
  funext b
  cases b <;> rfl
theorem sd_start {w wr : World} {W H : Int} {A : Option Addr} {n cap lo hi : Nat} {C : List Int} {gc gb gd s : Nat} {D K : List Int} {N : List Bool} (S : S1 w W H A n cap lo hi C gc gb D K wr) (hN : Blk wr gd 4 (N.map Value.bool)) (h3 : w.heap.size < gd) (h4 : gc ≠ gd) (h5 : gb ≠ gd) :
    SD w W H A n cap lo hi C gc gb gd (wr.heap.size + 1) D K N (.slice (some ⟨wr.heap.size, 0, none⟩) 1 1) [(s, 0)] ((wr.alloc (.cells #[.int .i64 (s : Int), .int .i64 0] 117)).alloc (.cells #[.slice (some ⟨wr.heap.size, 0, none⟩) 1 1] 120)) := by
  have hb := bt (bl wr (.cells #[.int .i64 (s : Int), .int .i64 0] 117)) (bl _ (.cells #[.slice (some ⟨wr.heap.size, 0, none⟩) 1 1] 120))
  have hI := (Blk.mk wr 117 [.int .i64 (s : Int), .int .i64 0]).alloc (.cells #[.slice (some ⟨wr.heap.size, 0, none⟩) 1 1] 120)
  have hH := Blk.mk (wr.alloc (.cells #[.int .i64 (s : Int), .int .i64 0] 117)) 120 [.slice (some ⟨wr.heap.size, 0, none⟩) 1 1]
  rw [heap_alloc_sz] at hH
  have c1 := S.c.lt
  have c2 := S.b.lt
  have c3 := hN.lt
  have c4 := S.box.lt
  refine ⟨S.box.next hb, S.rd.next hb, bt S.keep hb, S.hi, S.c.next hb, S.b.next hb, hN.next hb, hH, ?_, fun e => by have h : wr.heap.size = wr.heap.size + 1 := Option.some.inj e; omega, fun k e => ?_, S.g1, S.g2, h3, by omega, S.n1, h4, by omega, h5, by omega, by omega⟩
  · exact ⟨by simp [itc], .inr ⟨wr.heap.size, 1, #[.int .i64 (s : Int), .int .i64 0], rfl, Nat.zero_le _, hI, Nat.le_refl _, by unfold maxLen; omega, by simp, by simp [itc]⟩⟩
  · have h : wr.heap.size = k := Option.some.inj e
    exact ⟨by omega, by omega, by omega, by omega⟩
theorem SD.len {w wr : World} {W H : Int} {A : Option Addr} {n cap lo hi : Nat} {C : List Int} {gc gb gd gh : Nat} {D K : List Int} {N : List Bool} {u : Value} {Q : List It} (S : SD w W H A n cap lo hi C gc gb gd gh D K N u Q wr) : lenV (wr.cell? ⟨gh, 0, none⟩) = Q.length := by
  obtain ⟨A', c', e, _, _, _, _⟩ := own_rd S.own
  rw [show wr.cell? ⟨gh, 0, none⟩ = some u from S.blk.cell 0, e]
  rfl
theorem cl_nil (w h : Nat) (C D : List Int) : Cl w h C D [] := fun j hj => by cases hj
/-- what a search hands back -/
def GotS (w : World) (W H : Nat) (C : List Int) (s : Nat) (e : Ending) (w' : World) : Prop :=
  ∃ v1 v2 D K r, e = .returned (.tuple #[v1, v2]) ∧ w'.ownsRow w.heap.size 2 1 v1 D.length (D.map iv) ∧ w'.ownsRow w.heap.size 3 1 v2 K.length (K.map iv) ∧ Sol W H C s D K r ∧ Below w.heap.size w w'
set_option maxRecDepth 100000 in
set_option maxHeartbeats 2000000 in
theorem search_any {w : World} {W H cap s lo hi : Nat} {A : Option Addr} {C : List Int} (Hk : Ok W H C) (R : RdL w lo hi A (C.map iv)) (hhi : hi ≤ w.heap.size) (hs : s < W * H) :
    Calls Try.prog 63 #[.agg #[.int .i64 (W : Int), .int .i64 (H : Int), .slice A C.length cap], .int .i64 (s : Int)] w (GotS w W H C s) := by
  obtain ⟨i0, hi0, hz0, hz1, hz2⟩ := info_parts infoInt
  obtain ⟨j0, hj0, hy0, hy1, hy2⟩ := info_parts info64
  obtain ⟨k0, hk0, hx0, hx1, hx2⟩ := info_parts infoBool
  have hbig := Hk.big
  have HK := Lib.hid Hk
  obtain ⟨n, hn⟩ : ∃ n, n = C.length := ⟨_, rfl⟩
  have hnV : n = W * H := hn.trans Hk.len
  have m1 := mk_row (P := Try.prog) 78 2 j0 _ Try.underlying78 hj0 hy0 rfl hy1 (by omega) n (by omega)
  have m2 := mk_row (P := Try.prog) 56 3 i0 _ Try.underlying56 hi0 hz0 rfl hz1 (by omega) n (by omega)
  have m3 := mk_row (P := Try.prog) 27 4 k0 _ Try.underlying27 hk0 hx0 rfl hx1 (by omega) n (by omega)
  have hB := Blk.mk w 82 (fdc W H A n cap)
  have HB := Lib.hid hB
  have HR := Lib.hid (R.alloc (.cells (fdc W H A n cap).toArray 82))
  have q2 : (w.alloc (.cells (fdc W H A n cap).toArray 82)).cell? ⟨w.heap.size, 2, none⟩ = some (.slice A n cap) := hB.cell 2
  rw [← hn]
  have HN := Lib.hid hn
  have HV := Lib.hid hnV
  have HH := Lib.hid hhi
  have HS := Lib.hid hs
  have hn4 : n ≤ 4096 := by omega
  clear R hhi hs hB hn hnV hbig Hk hi0 hz0 hz1 hz2 hj0 hy0 hy1 hy2 hk0 hx0 hx1 hx2
  unfold fdc at q2 HB HR
  go_enter Try.func63, Try.ntmps63
  go_upto_region 1 with fail
  go_cut [6, 7] (fun s6 s7 wx => ∃ gc gb, s6 = .slice (some ⟨gc, 0, none⟩) n n ∧ s7 = .slice (some ⟨gb, 0, none⟩) n n ∧ S1 w W H A n cap lo hi C gc gb (fill n 0) (fill n 0) wx)
  case first =>
    have hmk := s1_mk (n := n) (cap := cap) HB.out HR.out (bl w _) (heap_alloc_sz w _) HH.out
    unfold fdc at hmk
    have HMK := Lib.hid hmk
    clear hmk
    go_region
    · go_wp2_with fail
      go_meet
      exact ⟨_, _, rfl, rfl, HMK.out.1⟩
    · go_wp2_with fail
      go_meet
      exact ⟨_, _, rfl, rfl, HMK.out.2⟩
  obtain ⟨gc, gb, rfl, rfl, hS⟩ := hcut
  have HS1 := Lib.hid hS
  have q2 : wc.cell? ⟨w.heap.size, 2, none⟩ = some (.slice A n cap) := hS.box.cell 2
  clear HB HR hS m1 m2
  go_wp2_with fail
  have hS2 := HS1.out.next (bl wc (.cells (Array.replicate n (Value.bool false)) 4))
  have HD := Lib.hid (blk_rep wc 4 n (Value.bool false))
  have HS2 := Lib.hid hS2
  have hgd : gc < wc.heap.size ∧ gb < wc.heap.size := ⟨HS1.out.c.lt, HS1.out.b.lt⟩
  have hgw := HS1.out.keep.size
  have hbw := HS1.out.box.lt
  clear HS1 q2 hS2 m3
  generalize wc.heap.size = gd at *
  generalize wc.alloc (.cells (Array.replicate n (Value.bool false)) 4) = w2 at *
  go_loopw [29] (fun u wr => ∃ i : Nat, i ≤ n ∧ u = .int .i64 (i : Int) ∧ S1 w W H A n cap lo hi C gc gb (fill n i) (fill n i) wr ∧ Blk wr gd 4 (List.replicate n (.bool false))) (fun u _ => n - (intOf u).toNat)
  case atStart => exact ⟨0, Nat.zero_le _, rfl, HS2.out, HD.out⟩
  case round =>
    clear HS2 HD
    obtain ⟨i, hin, rfl, hS, hD⟩ := hrel
    have HS2 := Lib.hid hS
    have HD := Lib.hid hD
    clear hS hD
    by_cases hlt : i < n
    · have hltI : (i : Int) < (n : Int) := by omega
      have hi0 : (0 : Int) ≤ (i : Int) := by omega
      have yi : IntKind.i64.wrap ((i : Int) + 1) = (i : Int) + 1 := IntWalk.i64_in _ (by omega)
      have c0 := cell_iv HS2.out.c (i := i) (by rw [fill_len (by omega)]; omega)
      have c1 := cell_iv HS2.out.b (i := i) (by rw [fill_len (by omega)]; omega)
      have f0 := HS2.out.c.free i
      have f1 := HS2.out.b.free i
      have hne : gc ≠ gb := HS2.out.n1
      have hF := (HS2.out.setc i (-1)).setb i (-1)
      rw [fill_set hlt] at hF
      have hD2 := (HD.out.far (p := ⟨gc, i, none⟩) (by show gd ≠ gc; omega) (.int .i64 (-1))).far (p := ⟨gb, i, none⟩) (by show gd ≠ gb; omega) (.int .i64 (-1))
      have HF := Lib.hid hF
      have HD2 := Lib.hid hD2
      clear hF hD2
      go_wp2_with fail
      go_roundw
      case rel => exact ⟨i + 1, by omega, by go_num, HF.out, HD2.out⟩
      case measure => simp [intOf]; omega
    · obtain rfl : i = n := by omega
      rw [fill_all] at HS2
      have q2 : wr.cell? ⟨w.heap.size, 2, none⟩ = some (.slice A i cap) := HS2.out.box.cell 2
      have hsC : s < C.length := by rw [← HN.out, HV.out]; exact HS.out
      obtain ⟨ba, oa, rfl, p1, p2, p3, p4⟩ := HS2.out.rd.some (by rw [List.length_map]; omega)
      clear p1 p2 p3 p4
      have qs := cell_cs HS2.out.rd hsC
      have hsI : (s : Int) < (i : Int) := by have := HS.out; have := HV.out; omega
      have hs0 : (0 : Int) ≤ (s : Int) := by omega
      by_cases hw : cs C s = -1
      · rw [hw] at qs
        have hsol := sol_wall HS.out (by omega : cs C s < 0)
        rw [← HV.out] at hsol
        have HSOL := Lib.hid hsol
        clear hsol hw
        go_wp2_with fail
        go_ret2
        refine ⟨_, _, List.replicate i (-1), List.replicate i (-1), _, rfl, ?_, ?_, HSOL.out, HS2.out.keep⟩
        · have := own_of_blk (base := w.heap.size) HS2.out.c (by have := HS2.out.g1; omega) (by simp; unfold maxLen; omega)
          simpa using this
        · have := own_of_blk (base := w.heap.size) HS2.out.b (by have := HS2.out.g2; omega) (by simp; unfold maxLen; omega)
          simpa using this
      · have hcs := cs_bnd HK.out s
        have hcs0 : 0 ≤ cs C s := by omega
        have hw2 : (cs C s == -1) = false := by rw [beq_eq_false_iff_ne]; exact hw
        have hdi := di_start HS.out hcs0
        rw [← HV.out] at hdi
        have HDI := Lib.hid hdi
        have c0 := cell_iv HS2.out.c (i := s) (by rw [List.length_replicate]; omega)
        have f0 := HS2.out.c.free s
        have hS3 := HS2.out.setc s 0
        have hD3 := HD.out.far (p := ⟨gc, s, none⟩) (by show gd ≠ gc; omega) (.int .i64 0)
        have hD4 : Blk (wr.setCell ⟨gc, s, none⟩ (.int .i64 0)) gd 4 ((List.replicate i false).map Value.bool) := by rw [List.map_replicate]; exact hD3
        have hSD := sd_start (s := s) hS3 hD4 hbw (by omega) (by omega)
        have hsz : (wr.setCell ⟨gc, s, none⟩ (.int .i64 0)).heap.size = wr.heap.size := by simp
        rw [hsz] at hSD
        have HSD := Lib.hid hSD
        clear hdi hcs hw hS3 hD3 hD4 hSD hsz
        generalize cs C s = c at *
        go_upto_region 12 with fail
        have hH1 : HeapP [(s, 0)] := fun j h1 h2 => by simp at h2; omega
        have HH1 := Lib.hid hH1
        clear hH1 qs hcs0 hw2 c0 f0 q2 HS2 HD
        generalize ((wr.setCell ⟨gc, s, none⟩ (.int .i64 0)).alloc (.cells #[.int .i64 (s : Int), .int .i64 0] 117)).alloc (.cells #[.slice (some ⟨wr.heap.size, 0, none⟩) 1 1] 120) = w5 at *
        generalize wr.heap.size + 1 = gh at *
        go_loopw [] (fun wx => ∃ (D K : List Int) (N : List Bool) (ord : List Nat) (r : Nat → Nat) (u : Value) (Q : List It), SD w W H (some ⟨ba, oa, none⟩) i cap lo hi C gc gb gd gh D K N u Q wx ∧ DI W H C s D K N ord r Q ∧ Cl W H C D ord ∧ Q.length ≤ 4 * ord.length + 1 ∧ HeapP Q) (fun wx => 5 * (i - trues wx.heap[gd]?) + lenV (wx.cell? ⟨gh, 0, none⟩))
        case atStart => exact ⟨_, _, _, [], _, _, _, HSD.out, HDI.out, cl_nil W H C _, Nat.le_refl 1, HH1.out⟩
        case round =>
          clear HSD HDI HH1 q2
          obtain ⟨D, K, N, ord, r, u, Q, hSD, hDI, hCl, hQl, hHp⟩ := hrel
          have HSD := Lib.hid hSD
          have HDI := Lib.hid hDI
          have HCl := Lib.hid hCl
          have HHp := Lib.hid hHp
          have hol := hDI.ord_le
          rw [← HV.out] at hol
          obtain ⟨Aq, cq, hu, _, _, _, _⟩ := own_rd hSD.own
          subst hu
          have c0 : wr.cell? ⟨gh, 0, none⟩ = some (.slice Aq Q.length cq) := hSD.blk.cell 0
          have htr := trues_blk hSD.d
          rw [hDI.ct] at htr
          clear hSD hDI hCl hHp
          by_cases hQ : 0 < Q.length
          · have hQI : (0 : Int) < (Q.length : Int) := by omega
            have hpop := pop_any HSD.out.qb HHp.out hQ (by omega)
            have hmz : lenV (wr.cell? ⟨gh, 0, none⟩) = Q.length := by rw [c0]; rfl
            have HMZ := Lib.hid hmz
            have HTR := Lib.hid htr
            clear hmz htr
            obtain ⟨x, hx⟩ : ∃ x, x = at' Q 0 := ⟨_, rfl⟩
            have HXQ := Lib.hid (show x ∈ Q by rw [hx, at_eq hQ]; exact List.getElem_mem hQ)
            rw [← hx] at hpop
            clear hx
            go_wp2_with fail
            refine hpop.mono ?_
            rintro e w6 ⟨rfl, u', Q', hqb, hH', hperm, hmin⟩
            have HS6 := Lib.hid (HSD.out.heap hqb)
            have HH6 := Lib.hid hH'
            have HP6 := Lib.hid hperm
            have HM6 := Lib.hid hmin
            have hq := HDI.out.hq x HXQ.out
            rw [← HV.out] at hq
            obtain ⟨hq1, hq2, hq3⟩ := hq
            have hlen := hperm.length_eq
            rw [List.length_cons] at hlen
            clear hpop hqb hH' hperm hmin c0
            obtain ⟨x1, x2⟩ := x
            dsimp only at hq1 hq2 hq3
            have hxI : (x1 : Int) < (i : Int) := by omega
            have hx0 : (0 : Int) ≤ (x1 : Int) := by omega
            have HS7 := Lib.hid (HS6.out.next (bl w6 (.cells (itc (x1, x2)).toArray 117)))
            have hI7 := Blk.mk w6 117 (itc (x1, x2))
            have HI7 := Lib.hid hI7
            have e0 : (w6.alloc (.cells (itc (x1, x2)).toArray 117)).cell? ⟨w6.heap.size, 0, none⟩ = some (.int .i64 (x1 : Int)) := hI7.cell 0
            have hdn := HDI.out.dn x1 (by rw [← HV.out]; exact hq1)
            have d0 := cell_bv HS7.out.d (i := x1) (by rw [HDI.out.lenN, ← HV.out]; exact hq1)
            have HDN := Lib.hid hdn
            clear hI7 hdn
            unfold itc at e0 d0 HS7 HI7
            cases hb : bb N x1 with
            | true =>
              rw [hb] at d0
              have hxo := HDN.out.1 hb
              have hskip := HDI.out.skip HP6.out hxo
              have HSK := Lib.hid hskip
              have hms : 5 * (i - trues (w6.alloc (.cells #[.int .i64 (x1 : Int), .int .i64 x2] 117)).heap[gd]?) + lenV ((w6.alloc (.cells #[.int .i64 (x1 : Int), .int .i64 x2] 117)).cell? ⟨gh, 0, none⟩) < 5 * (i - trues wr.heap[gd]?) + lenV (wr.cell? ⟨gh, 0, none⟩) := by
                rw [trues_blk HS7.out.d, HS7.out.len, HTR.out, HMZ.out, HDI.out.ct]
                omega
              have HMS := Lib.hid hms
              clear hskip hxo hb hms
              go_wp2_with fail
              go_roundw
              case rel => exact ⟨D, K, N, ord, r, u', Q', HS7.out, HSK.out, HCl.out, by omega, HH6.out⟩
              case measure => exact HMS.out
            | false =>
              rw [hb] at d0
              have hxo : x1 ∉ ord := fun h => by
                have := HDN.out.2 h
                rw [hb] at this
                cases this
              obtain ⟨hxe, hDX⟩ := HDI.out.settle HCl.out HP6.out HM6.out hxo hQl
              dsimp only at hxe hDX
              have HDX := Lib.hid hDX
              have HXE := Lib.hid hxe
              have f0 := HS7.out.d.free x1
              have hgi : w6.heap.size ≠ gd := by have := HS6.out.d.lt; omega
              have HS8 := Lib.hid (HS7.out.setd x1 true)
              have HI8 := Lib.hid (HI7.out.far (p := ⟨gd, x1, none⟩) (by show w6.heap.size ≠ gd; omega) (.bool true))
              clear hDX hxe hxo hb
              go_upto_region 16 with fail
              clear f0 e0 d0 HS7 HI7
              generalize hgi' : w6.heap.size = gi at *
              have HG := Lib.hid (show gi ≠ gd ∧ gc < gi ∧ gb < gi ∧ gh < gi ∧ (∀ k, u'.ownBlock = some k → k < gi) from ⟨hgi, by rw [← hgi']; exact HS6.out.c.lt, by rw [← hgi']; exact HS6.out.b.lt, by rw [← hgi']; exact HS6.out.blk.lt, fun k e => by rw [← hgi']; exact (own_lt HS6.out.own e).2⟩)
              clear HS6 hgi hgi'
              generalize (w6.alloc (.cells #[.int .i64 (x1 : Int), .int .i64 x2] 117)).setCell ⟨gd, x1, none⟩ (.bool true) = w8 at *
              have b0 : w8.cell? ⟨w.heap.size, 0, none⟩ = some (.int .i64 (W : Int)) := HS8.out.box.cell 0
              have b1 : w8.cell? ⟨w.heap.size, 1, none⟩ = some (.int .i64 (H : Int)) := HS8.out.box.cell 1
              have b2 : w8.cell? ⟨w.heap.size, 2, none⟩ = some (.slice (some ⟨ba, oa, none⟩) i cap) := HS8.out.box.cell 2
              have e0 : w8.cell? ⟨gi, 0, none⟩ = some (.int .i64 (x1 : Int)) := HI8.out.cell 0
              have hbes := beside_any (cap := cap) (n := i) (A := some ⟨ba, oa, none⟩) (a := x1) HK.out.w1 HK.out.w2 HK.out.h1 HK.out.h2 (by rw [← HV.out]; exact hq1) w8
              go_wp2_with fail
              refine hbes.mono ?_
              rintro e w9 ⟨⟨vb, rfl, hown⟩, hb9⟩
              obtain ⟨Ab, cb, rfl, hrb, _, _, _⟩ := own_rd hown
              have HS9 := Lib.hid (HS8.out.next hb9)
              have HI9 := Lib.hid (HI8.out.next hb9)
              have HRB := Lib.hid hrb
              have hsz9 := hb9.size
              have hgi9 : gi < w8.heap.size := HI8.out.lt
              clear hbes hown hrb b0 b1 b2 e0 HS8 HI8 hb9
              generalize w8.heap.size = g8 at *
              have hbl := beside_len W H x1
              obtain ⟨Lb, hLb⟩ : ∃ Lb, Lb = besideL W H x1 := ⟨_, rfl⟩
              rw [← hLb] at HRB hbl ⊢
              have HLB := Lib.hid hLb
              have hN1 := HDX.out.i.ct
              rw [List.length_append, List.length_singleton] at hN1
              have HN1 := Lib.hid hN1
              have hol1 := HDX.out.i.ord_le
              rw [← HV.out, List.length_append, List.length_singleton] at hol1
              have hol2 : (ord ++ [x1]).length ≤ i := by rw [List.length_append, List.length_singleton]; exact hol1
              have hap9 : ∀ k, u'.ownBlock = some k → k ≠ gi ∧ (k < g8 ∨ w9.heap.size ≤ k) := fun k e => by
                have := HG.out.2.2.2.2 k e
                exact ⟨by omega, .inl (by omega)⟩
              have HAP := Lib.hid hap9
              clear hLb hN1 hap9
              generalize N.set x1 true = N1 at *
              generalize ord ++ [x1] = ord1 at *
              generalize (fun i => if i = x1 then ord.length else r i) = r1 at *
              obtain ⟨g9, hg9⟩ : ∃ g, g = w9.heap.size := ⟨_, rfl⟩
              rw [← hg9] at HRB hsz9 HAP
              have HG9 := Lib.hid hg9
              clear hg9
              go_wp2_with fail
              go_loopw [73] (fun u wx => ∃ m : Nat, u = .int .i64 (m : Int) ∧ m ≤ Lb.length ∧ (∃ (D' K' : List Int) (u2 : Value) (Q2 : List It), SD w W H (some ⟨ba, oa, none⟩) i cap lo hi C gc gb gd gh D' K' N1 u2 Q2 wx ∧ DX W H C s D' K' N1 ord1 r1 Q2 x1 (m) ∧ HeapP Q2 ∧ Blk wx gi 117 [.int .i64 (x1 : Int), .int .i64 x2] ∧ x2 = dd D' x1 ∧ RdL wx g8 g9 Ab (Lb.map ni) ∧ Q2.length ≤ Q'.length + (m) ∧ (∀ k, u2.ownBlock = some k → k ≠ gi ∧ (k < g8 ∨ g9 ≤ k)) ∧ g9 ≤ (wx).heap.size)) (fun u _ => Lb.length - (intOf u).toNat)
              case atStart => exact ⟨0, rfl, Nat.zero_le _, D, K, u', Q', HS9.out, HDX.out, HH6.out, HI9.out, HXE.out, HRB.out, Nat.le_refl _, HAP.out, Nat.le_of_eq HG9.out⟩
              case round =>
                clear HS9 HDX HH6 HI9 HXE HRB HAP HG9
                obtain ⟨m, rfl, hmL, D', K', u2, Q2, hS, hX, hH, hI, hxe, hR, hql, hap, hg9⟩ := hrel
                have HS := Lib.hid hS
                have HX := Lib.hid hX
                have HH := Lib.hid hH
                have HI := Lib.hid hI
                have HXE := Lib.hid hxe
                have HRB := Lib.hid hR
                have HAP := Lib.hid hap
                clear hS hX hH hI hxe hR hap
                by_cases hmt : m < Lb.length
                · have hmI : (m : Int) < (Lb.length : Int) := by omega
                  have hm0 : (0 : Int) ≤ (m : Int) := by omega
                  have ym : IntKind.i64.wrap ((m : Int) + 1) = (m : Int) + 1 := IntWalk.i64_in _ (by omega)
                  obtain ⟨bq, oq, rfl, _, _, _, hc⟩ := HRB.out.some (by rw [List.length_map]; omega)
                  obtain ⟨k, hk⟩ : ∃ k, k = Lb[m] := ⟨_, rfl⟩
                  have v0 : wr.cell? ⟨bq, oq + m, none⟩ = some (.int .i64 (k : Int)) := hc m _ (by rw [List.getElem?_map, List.getElem?_eq_getElem hmt, hk]; rfl)
                  have hkm : (besideL W H x1)[m]'(by rw [← HLB.out]; exact hmt) = k := by rw [hk]; congr 1; exact HLB.out.symm
                  have hkb : k ∈ besideL W H x1 := by rw [← hkm]; exact List.getElem_mem _
                  have hkl : k < W * H := beside_lt HK.out.w1 (by rw [← HV.out]; exact hq1) hkb
                  have hkC : k < C.length := by rw [← HN.out, HV.out]; exact hkl
                  have hkI : (k : Int) < (i : Int) := by have := HV.out; omega
                  have hk0 : (0 : Int) ≤ (k : Int) := by omega
                  have v1 := cell_cs HS.out.rd hkC
                  have v2 := cell_bv HS.out.d (i := k) (by rw [HX.out.i.lenN]; exact hkl)
                  have v3 := cell_iv HS.out.c (i := k) (by rw [HX.out.i.lenD]; exact hkl)
                  have b2 : wr.cell? ⟨w.heap.size, 2, none⟩ = some (.slice (some ⟨ba, oa, none⟩) i cap) := HS.out.box.cell 2
                  have hcb := cs_bnd HK.out k
                  have HPASS := Lib.hid (show (cs C k < 0 ∨ k ∈ ord1 ∨ (0 ≤ dd D' k ∧ dd D' k ≤ dd D' x1 + cs C k)) → (∃ (D' K' : List Int) (u2 : Value) (Q2 : List It), SD w W H (some ⟨ba, oa, none⟩) i cap lo hi C gc gb gd gh D' K' N1 u2 Q2 wr ∧ DX W H C s D' K' N1 ord1 r1 Q2 x1 (m + 1) ∧ HeapP Q2 ∧ Blk wr gi 117 [.int .i64 (x1 : Int), .int .i64 x2] ∧ x2 = dd D' x1 ∧ RdL wr g8 g9 (some ⟨bq, oq, none⟩) (Lb.map ni) ∧ Q2.length ≤ Q'.length + (m + 1) ∧ (∀ k, u2.ownBlock = some k → k ≠ gi ∧ (k < g8 ∨ g9 ≤ k)) ∧ g9 ≤ (wr).heap.size) from fun hp => ⟨D', K', u2, Q2, HS.out, HX.out.pass (by rw [← HLB.out]; exact hmt) hkm HK.out.w1 hp, HH.out, HI.out, HXE.out, HRB.out, by omega, HAP.out, hg9⟩)
                  have hdn := HX.out.i.dn k hkl
                  have hrg := HX.out.i.rng k hkl
                  have hxb := HX.out.xb
                  rw [← HXE.out] at hxb
                  have hxp := HX.out.i.dlab x1 HX.out.mem
                  rw [← HXE.out] at hxp
                  have HDN := Lib.hid hdn
                  have HRG := Lib.hid hrg
                  clear hc hdn hrg hk
                  generalize hck : cs C k = ck at *
                  generalize hdk : dd D' k = dk at *
                  generalize hbk : bb N1 k = bk at *
                  have HCK := Lib.hid hck
                  have HDK := Lib.hid hdk
                  clear hck hdk hbk
                  by_cases hw : ck = -1
                  · have hp := HPASS.out (.inl (by omega))
                    have HP2 := Lib.hid hp
                    have q1 : (ck == -1) = true := by rw [beq_iff_eq]; exact hw
                    clear hp hw
                    go_wp2_with fail
                    go_roundw
                    case rel => exact ⟨m + 1, by go_num, by omega, HP2.out⟩
                    case measure => simp [intOf]; omega
                  · have q1 : (ck == -1) = false := by rw [beq_eq_false_iff_ne]; exact hw
                    cases bk with
                    | true =>
                      have HP2 := Lib.hid (HPASS.out (.inr (.inl (HDN.out.1 rfl))))
                      clear hw
                      go_wp2_with fail
                      go_roundw
                      case rel => exact ⟨m + 1, by go_num, by omega, HP2.out⟩
                      case measure => simp [intOf]; omega
                    | false =>
                      have hnk : k ∉ ord1 := fun h => by have := HDN.out.2 h; cases this
                      have e1 : wr.cell? ⟨gi, 1, none⟩ = some (.int .i64 x2) := HI.out.cell 1
                      have yc : IntKind.i64.wrap (x2 + ck) = x2 + ck := IntWalk.i64_in _ (by omega)
                      have hck0 : 0 ≤ ck := by omega
                      clear hw
                      go_upto_region 20 with fail
                      go_quiet (fail)
                      have hSd := HS.out.drewN nq
                      have hId := HI.out.drewN nq
                      have hRd := HRB.out.drewN nq
                      have hpd : (ck < 0 ∨ k ∈ ord1 ∨ (0 ≤ dk ∧ dk ≤ dd D' x1 + ck)) → (∃ (D' K' : List Int) (u2 : Value) (Q2 : List It), SD w W H (some ⟨ba, oa, none⟩) i cap lo hi C gc gb gd gh D' K' N1 u2 Q2 (wr.drewN nq) ∧ DX W H C s D' K' N1 ord1 r1 Q2 x1 (m + 1) ∧ HeapP Q2 ∧ Blk (wr.drewN nq) gi 117 [.int .i64 (x1 : Int), .int .i64 x2] ∧ x2 = dd D' x1 ∧ RdL (wr.drewN nq) g8 g9 (some ⟨bq, oq, none⟩) (Lb.map ni) ∧ Q2.length ≤ Q'.length + (m + 1) ∧ (∀ k, u2.ownBlock = some k → k ≠ gi ∧ (k < g8 ∨ g9 ≤ k)) ∧ g9 ≤ ((wr.drewN nq)).heap.size) := fun hp => by
                        rw [← HCK.out, ← HDK.out] at hp
                        exact ⟨D', K', u2, Q2, hSd, HX.out.pass (by rw [← HLB.out]; exact hmt) hkm HK.out.w1 hp, HH.out, hId, HXE.out, hRd, by omega, HAP.out, hg9⟩
                      have hg9d : g9 ≤ (wr.drewN nq).heap.size := hg9
                      have HPD := Lib.hid hpd
                      have HSd := Lib.hid hSd
                      have HId := Lib.hid hId
                      have HRd := Lib.hid hRd
                      clear hSd hId hRd hpd HPASS HS HI HRB v0 v1 v2 v3 b2 e1
                      generalize wr.drewN nq = wd at *
                      have v3 := cell_iv HSd.out.c (i := k) (by rw [HX.out.i.lenD]; exact hkl)
                      rw [HDK.out] at v3
                      have hXE := HXE.out
                      by_cases hd1 : dk = -1
                      · have q2 : (dk == -1) = true := by rw [beq_iff_eq]; exact hd1
                        have hlow : dd D' k = -1 ∨ dd D' x1 + cs C k < dd D' k := .inl (by rw [HDK.out]; exact hd1)
                        have HLOW := Lib.hid hlow
                        clear hd1 hXE
                        have e0 : wd.cell? ⟨gi, 0, none⟩ = some (.int .i64 (x1 : Int)) := HId.out.cell 0
                        have v4 := cell_iv HSd.out.b (i := k) (by rw [HX.out.i.lenK]; exact hkl)
                        have f3 := HSd.out.c.free k
                        have f4 := HSd.out.b.free k
                        have hgg := HSd.out.n1
                        have hge1 : gi ≠ gc := by have := HG.out.2.1; omega
                        have hge2 : gi ≠ gb := by have := HG.out.2.2.1; omega
                        have hxk := fun (Qn : List It) (hp : List.Perm ((k, dd D' x1 + cs C k) :: Q2) Qn) => HX.out.lower (by rw [← HLB.out]; exact hmt) hkm hkl (by rw [HCK.out]; exact ⟨hck0, hcb.2⟩) hnk hlow hp
                        go_wp2_with fail
                        go_region
                        have hgh8 : gh < g8 := by have := HG.out.2.2.2.1; omega
                        have hS3 : SD w W H (some ⟨ba, oa, none⟩) i cap lo hi C gc gb gd gh (D'.set k (x2 + ck)) (K'.set k (x1 : Int)) N1 u2 Q2 (((wd.setCell ⟨gc, k, none⟩ (.int .i64 (x2 + ck))).setCell ⟨gb, k, none⟩ (.int .i64 (x1 : Int))).drew) := ((HSd.out.setc k (x2 + ck)).setb k (x1 : Int)).drewN 1
                        have hI3 : Blk (((wd.setCell ⟨gc, k, none⟩ (.int .i64 (x2 + ck))).setCell ⟨gb, k, none⟩ (.int .i64 (x1 : Int))).drew) gi 117 [.int .i64 (x1 : Int), .int .i64 x2] := ((HId.out.far (p := ⟨gc, k, none⟩) hge1 _).far (p := ⟨gb, k, none⟩) hge2 _).drew
                        have hR3 : RdL (((wd.setCell ⟨gc, k, none⟩ (.int .i64 (x2 + ck))).setCell ⟨gb, k, none⟩ (.int .i64 (x1 : Int))).drew) g8 g9 (some ⟨bq, oq, none⟩) (Lb.map ni) := ((HRd.out.far (p := ⟨gc, k, none⟩) (.inl (by show gc < g8; have := HG.out.2.1; omega)) _).far (p := ⟨gb, k, none⟩) (.inl (by show gb < g8; have := HG.out.2.2.1; omega)) _).drew
                        have hz3 : g9 ≤ (((wd.setCell ⟨gc, k, none⟩ (.int .i64 (x2 + ck))).setCell ⟨gb, k, none⟩ (.int .i64 (x1 : Int))).drew).heap.size := by rw [heap_drew_sz]; simpa using hg9d
                        have HS3 := Lib.hid hS3
                        have HI3 := Lib.hid hI3
                        have HR3 := Lib.hid hR3
                        clear hS3 hI3 hR3 HSd HId HRd HPD e0 v3 v4 f3 f4 hg9d
                        generalize ((wd.setCell ⟨gc, k, none⟩ (.int .i64 (x2 + ck))).setCell ⟨gb, k, none⟩ (.int .i64 (x1 : Int))).drew = we at *
                        have hpush := push_any HS3.out.qb HH.out (by omega) (k, x2 + ck)
                        go_wp2_with fail
                        refine hpush.mono ?_
                        rintro e wz ⟨rfl, u3, Q3, hqb, hH3, hperm⟩
                        have hkx : k ≠ x1 := fun e => hnk (by rw [e]; exact HX.out.mem)
                        have HS4 := Lib.hid (HS3.out.heap hqb)
                        have HI4 := Lib.hid (show Blk wz gi 117 [.int .i64 (x1 : Int), .int .i64 x2] from (hqb.wf.block gi HI3.out.lt (by have := HG.out.2.2.2.1; omega) (fun e => (HAP.out gi e).1 rfl)).trans HI3.out)
                        have HR4 := Lib.hid (show RdL wz g8 g9 (some ⟨bq, oq, none⟩) (Lb.map ni) from HR3.out.keep hqb.wf.size fun b h1 h2 h3 => hqb.wf.block b h3 (by omega) (fun e => by have := (HAP.out b e).2; omega))
                        have hX4 := hxk Q3 (by rw [HCK.out, ← HXE.out]; exact hperm)
                        rw [HCK.out, ← HXE.out] at hX4
                        have HX4 := Lib.hid hX4
                        have HE4 := Lib.hid (show x2 = dd (D'.set k (x2 + ck)) x1 by rw [dd_set _ (by rw [HX.out.i.lenD]; exact hkl), if_neg hkx]; exact HXE.out)
                        have HA4 := Lib.hid (show ∀ k', u3.ownBlock = some k' → k' ≠ gi ∧ (k' < g8 ∨ g9 ≤ k') from fun k' e => by
                          rcases hqb.wf.own with ho | ho
                          · rw [ho] at e; exact HAP.out k' e
                          · have := ho k' e
                            have := HI3.out.lt
                            exact ⟨by omega, .inr (by omega)⟩)
                        have hl4 := hperm.length_eq
                        rw [List.length_cons] at hl4
                        have hz4 : g9 ≤ wz.heap.size := Nat.le_trans hz3 hqb.wf.size
                        have HH4 := Lib.hid hH3
                        clear hpush hqb hH3 hperm hX4 hxk
                        go_wp2_with fail
                        go_roundw
                        case rel => exact ⟨m + 1, by go_num, by omega, _, _, u3, Q3, HS4.out, HX4.out, HH4.out, HI4.out, HE4.out, HR4.out, by omega, HA4.out, hz4⟩
                        case measure => simp [intOf]; omega
                      · have q2 : (dk == -1) = false := by rw [beq_eq_false_iff_ne]; exact hd1
                        have hd0 : 0 ≤ dk := by rcases HRG.out with h | h <;> omega
                        by_cases hd2 : x2 + ck < dk
                        · have q3 : decide (x2 + ck < dk) = true := decide_eq_true hd2
                          have hlow : dd D' k = -1 ∨ dd D' x1 + cs C k < dd D' k := .inr (by rw [HDK.out, HCK.out, ← hXE]; exact hd2)
                          clear hXE
                          have e0 : wd.cell? ⟨gi, 0, none⟩ = some (.int .i64 (x1 : Int)) := HId.out.cell 0
                          have v4 := cell_iv HSd.out.b (i := k) (by rw [HX.out.i.lenK]; exact hkl)
                          have f3 := HSd.out.c.free k
                          have f4 := HSd.out.b.free k
                          have hgg := HSd.out.n1
                          have hge1 : gi ≠ gc := by have := HG.out.2.1; omega
                          have hge2 : gi ≠ gb := by have := HG.out.2.2.1; omega
                          have hxk := fun (Qn : List It) (hp : List.Perm ((k, dd D' x1 + cs C k) :: Q2) Qn) => HX.out.lower (by rw [← HLB.out]; exact hmt) hkm hkl (by rw [HCK.out]; exact ⟨hck0, hcb.2⟩) hnk hlow hp
                          go_wp2_with fail
                          go_region
                          have hgh8 : gh < g8 := by have := HG.out.2.2.2.1; omega
                          have hS3 : SD w W H (some ⟨ba, oa, none⟩) i cap lo hi C gc gb gd gh (D'.set k (x2 + ck)) (K'.set k (x1 : Int)) N1 u2 Q2 (((wd.setCell ⟨gc, k, none⟩ (.int .i64 (x2 + ck))).setCell ⟨gb, k, none⟩ (.int .i64 (x1 : Int))).drew) := ((HSd.out.setc k (x2 + ck)).setb k (x1 : Int)).drewN 1
                          have hI3 : Blk (((wd.setCell ⟨gc, k, none⟩ (.int .i64 (x2 + ck))).setCell ⟨gb, k, none⟩ (.int .i64 (x1 : Int))).drew) gi 117 [.int .i64 (x1 : Int), .int .i64 x2] := ((HId.out.far (p := ⟨gc, k, none⟩) hge1 _).far (p := ⟨gb, k, none⟩) hge2 _).drew
                          have hR3 : RdL (((wd.setCell ⟨gc, k, none⟩ (.int .i64 (x2 + ck))).setCell ⟨gb, k, none⟩ (.int .i64 (x1 : Int))).drew) g8 g9 (some ⟨bq, oq, none⟩) (Lb.map ni) := ((HRd.out.far (p := ⟨gc, k, none⟩) (.inl (by show gc < g8; have := HG.out.2.1; omega)) _).far (p := ⟨gb, k, none⟩) (.inl (by show gb < g8; have := HG.out.2.2.1; omega)) _).drew
                          have hz3 : g9 ≤ (((wd.setCell ⟨gc, k, none⟩ (.int .i64 (x2 + ck))).setCell ⟨gb, k, none⟩ (.int .i64 (x1 : Int))).drew).heap.size := by rw [heap_drew_sz]; simpa using hg9d
                          have HS3 := Lib.hid hS3
                          have HI3 := Lib.hid hI3
                          have HR3 := Lib.hid hR3
                          clear hS3 hI3 hR3 HSd HId HRd HPD e0 v3 v4 f3 f4 hg9d
                          generalize ((wd.setCell ⟨gc, k, none⟩ (.int .i64 (x2 + ck))).setCell ⟨gb, k, none⟩ (.int .i64 (x1 : Int))).drew = we at *
                          have hpush := push_any HS3.out.qb HH.out (by omega) (k, x2 + ck)
                          go_wp2_with fail
                          refine hpush.mono ?_
                          rintro e wz ⟨rfl, u3, Q3, hqb, hH3, hperm⟩
                          have hkx : k ≠ x1 := fun e => hnk (by rw [e]; exact HX.out.mem)
                          have HS4 := Lib.hid (HS3.out.heap hqb)
                          have HI4 := Lib.hid (show Blk wz gi 117 [.int .i64 (x1 : Int), .int .i64 x2] from (hqb.wf.block gi HI3.out.lt (by have := HG.out.2.2.2.1; omega) (fun e => (HAP.out gi e).1 rfl)).trans HI3.out)
                          have HR4 := Lib.hid (show RdL wz g8 g9 (some ⟨bq, oq, none⟩) (Lb.map ni) from HR3.out.keep hqb.wf.size fun b h1 h2 h3 => hqb.wf.block b h3 (by omega) (fun e => by have := (HAP.out b e).2; omega))
                          have hX4 := hxk Q3 (by rw [HCK.out, ← HXE.out]; exact hperm)
                          rw [HCK.out, ← HXE.out] at hX4
                          have HX4 := Lib.hid hX4
                          have HE4 := Lib.hid (show x2 = dd (D'.set k (x2 + ck)) x1 by rw [dd_set _ (by rw [HX.out.i.lenD]; exact hkl), if_neg hkx]; exact HXE.out)
                          have HA4 := Lib.hid (show ∀ k', u3.ownBlock = some k' → k' ≠ gi ∧ (k' < g8 ∨ g9 ≤ k') from fun k' e => by
                            rcases hqb.wf.own with ho | ho
                            · rw [ho] at e; exact HAP.out k' e
                            · have := ho k' e
                              have := HI3.out.lt
                              exact ⟨by omega, .inr (by omega)⟩)
                          have hl4 := hperm.length_eq
                          rw [List.length_cons] at hl4
                          have hz4 : g9 ≤ wz.heap.size := Nat.le_trans hz3 hqb.wf.size
                          have HH4 := Lib.hid hH3
                          clear hpush hqb hH3 hperm hX4 hxk
                          go_wp2_with fail
                          go_roundw
                          case rel => exact ⟨m + 1, by go_num, by omega, _, _, u3, Q3, HS4.out, HX4.out, HH4.out, HI4.out, HE4.out, HR4.out, by omega, HA4.out, hz4⟩
                          case measure => simp [intOf]; omega
                        · have q3 : decide (x2 + ck < dk) = false := decide_eq_false hd2
                          have HP2 := Lib.hid (HPD.out (.inr (.inr ⟨hd0, by omega⟩)))
                          clear hXE hd1 hd2
                          go_wp2_with fail
                          go_roundw
                          case rel => exact ⟨m + 1, by go_num, by omega, HP2.out⟩
                          case measure => simp [intOf]; omega
                · obtain rfl : m = Lb.length := by omega
                  obtain ⟨hDI', hCl', hql'⟩ := HX.out.done (by rw [← HLB.out]; exact Nat.le_refl _) hbl
                  have HDI' := Lib.hid hDI'
                  have HCl' := Lib.hid hCl'
                  clear hDI' hCl'
                  go_wp2_with fail
                  go_roundw
                  case rel => exact ⟨D', K', N1, ord1, r1, u2, Q2, HS.out, HDI'.out, HCl'.out, hql', HH.out⟩
                  case measure =>
                    rw [trues_blk HS.out.d, HS.out.len, HTR.out, HMZ.out, HN1.out]
                    omega
          · have hQ0 : Q = [] := List.eq_nil_of_length_eq_zero (by omega)
            subst hQ0
            have hsol := HDI.out.sol HCl.out (by rw [← HV.out]; exact hn4)
            have HSOL := Lib.hid hsol
            clear hsol htr
            go_wp2_with fail
            go_ret2
            have lD := HSOL.out.lenD
            have lK := HSOL.out.lenK
            rw [← HV.out] at lD lK
            refine ⟨_, _, D, K, _, rfl, ?_, ?_, HSOL.out, HSD.out.keep⟩
            · have := own_of_blk (base := w.heap.size) HSD.out.c (by have := HSD.out.g1; omega) (by rw [List.length_map, lD]; unfold maxLen; omega)
              rw [List.length_map, lD] at this
              rw [lD]
              exact this
            · have := own_of_blk (base := w.heap.size) HSD.out.b (by have := HSD.out.g2; omega) (by rw [List.length_map, lK]; unfold maxLen; omega)
              rw [List.length_map, lK] at this
              rw [lK]
              exact this
end Rou
end Go.Proofs.Ytgncngpgodfijaa
