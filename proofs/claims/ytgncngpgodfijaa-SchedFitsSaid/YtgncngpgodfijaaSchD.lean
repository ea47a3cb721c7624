/-
  The walks of package sched: the tasks that are done in a slot; when a task is done next.
-/
import Derived.Test.YtgncngpgodfijaaSchO
namespace Go.Proofs.Ytgncngpgodfijaa
open Go.RowKit
set_option linter.unusedVariables false
namespace Sch

/-- task number i is done in the slot of the time t -/
def isDue (ts : List Tk) (ks : List Nat) (t i : Nat) : Bool := match ts[i]?, ks[i]? with
  | some x, some k => t % x.p == k
  | _, _ => false
/-- of the first n tasks those that are done in the slot of the time t -/
def due (ts : List Tk) (ks : List Nat) (t n : Nat) : List Nat := (List.range n).filter (isDue ts ks t)
theorem due_succ (ts : List Tk) (ks : List Nat) (t n : Nat) : due ts ks t (n + 1) = if isDue ts ks t n then due ts ks t n ++ [n] else due ts ks t n := by
  unfold due
  rw [List.range_succ, List.filter_append]
  by_cases h : isDue ts ks t n = true
  · simp [h]
  · simp [h]
theorem due_le (ts : List Tk) (ks : List Nat) (t n : Nat) : (due ts ks t n).length ≤ n := by
  unfold due
  exact Nat.le_trans (List.length_filter_le _ _) (by simp)
theorem isDue_at {ts : List Tk} {ks : List Nat} {t i : Nat} (h : i < ts.length) (h' : i < ks.length) : isDue ts ks t i = (t % ts[i].p == ks[i]) := by
  unfold isDue
  rw [List.getElem?_eq_getElem h, List.getElem?_eq_getElem h']
theorem mem_due {ts : List Tk} {ks : List Nat} {t n i : Nat} : i ∈ due ts ks t n ↔ i < n ∧ isDue ts ks t i = true := by
  unfold due
  rw [List.mem_filter, List.mem_range]
theorem modC (t p : Nat) : (t : Int) % (p : Int) = ((t % p : Nat) : Int) ∧ (t : Int).tmod (p : Int) = ((t % p : Nat) : Int) := by
  refine ⟨(Int.natCast_emod t p).symm, ?_⟩
  rw [Int.tmod_eq_emod_of_nonneg (Int.natCast_nonneg t)]
  exact (Int.natCast_emod t p).symm
set_option maxRecDepth 100000 in
set_option maxHeartbeats 1000000 in
theorem sdue_any (g : Nat) (vt vp : Value) (ts : List Tk) (ks : List Nat) (room t n : Nat) (w : World) (h : PB w g vt vp ts ks room) (hl : ks.length = ts.length) (hn : ts.length = n) (h64 : n ≤ 64) (hok : ∀ x ∈ ts, okK x) (ht : t < 18446744073709551616) :
    Calls Try.prog 42 #[.pointer (some ⟨g, 0, none⟩), .int .u64 (t : Int)] w (GotL w 3 (iv (due ts ks t n))) := by
  obtain ⟨i0, hi0, hz0, hz1, hz2⟩ := info_parts infoInt
  have t0 := h.t0
  have H := Lib.hid h
  have Hl := Lib.hid hl
  have Hn := Lib.hid hn
  have Hok := Lib.hid hok
  have Ht := Lib.hid ht
  obtain ⟨At, capt, evt, hrt, _, _, _⟩ := own_rd h.own1
  obtain ⟨Ap, capp, evp, hrp, _, _, _⟩ := own_rd h.own2
  rw [hn] at evt
  rw [hl, hn] at evp
  rw [evt] at t0
  have Hrt := Lib.hid hrt
  have Hrp := Lib.hid hrp
  have Hvp := Lib.hid evp
  have t1 := h.t1
  rw [evp] at t1
  have T1 := Lib.hid t1
  clear h hl hn hok ht hrt hrp evt evp t1
  go_enter Try.func42, Try.ntmps42
  go_wp2
  go_loopw [5, 6, 7, 13] (fun v _ _ i wr => ∃ j : Nat, j ≤ n ∧ i = .int .i64 (j : Int) ∧ wr.ownsRow w.heap.size 3 1 v (due ts ks t j).length (iv (due ts ks t j)) ∧ Below w.heap.size w wr) (fun _ _ _ i _ => n - (intOf i).toNat)
  case atStart => exact ⟨0, by omega, rfl, World.ownsRow_nil _ _ _ _, Below.refl _ _⟩
  case round =>
    clear t0
    obtain ⟨j, hj, rfl, hown, hb⟩ := hrel
    have Hown := Lib.hid hown
    have Hb := Lib.hid hb
    have hszb := hb.size
    have t1 := (hb.cell (p := ⟨g, 1, none⟩) (by have := H.out.blk.lt; dsimp only; omega)).trans T1.out
    clear hown hb
    by_cases hlt : j < n
    · have hjl : j < ts.length := by rw [Hn.out]; exact hlt
      have hjk : j < ks.length := by rw [Hl.out]; exact hjl
      have hrt1 := Hrt.out.below Hb.out (.inl (Nat.le_refl _))
      have hrp1 := Hrp.out.below Hb.out (.inl (Nat.le_refl _))
      obtain ⟨b, off, rfl, _, _, hbs, _⟩ := hrt1.some (by rw [flatMap_len tkc 2 tkc_len]; omega)
      obtain ⟨b2, off2, rfl, _, _, hbs2, hcp⟩ := hrp1.some (by rw [iv_len]; omega)
      have hc := hrt1.elem tkc 2 tkc_len hjl
      have c0 : wr.cell? ⟨b, off + j * 2, none⟩ = some (.int .i64 (ts[j].p : Int)) := hc 0 _ (by decide) rfl
      have c1 : wr.cell? ⟨b, off + j * 2 + 1, none⟩ = some (.int .i64 (ts[j].c : Int)) := hc 1 _ (by decide) rfl
      have c2 : wr.cell? ⟨b2, off2 + j, none⟩ = some (.int .i64 (ks[j] : Int)) := hcp j _ (iv_get ks j hjk)
      have hds := due_succ ts ks t j
      have hdl := due_le ts ks t j
      rw [isDue_at hjl hjk] at hds
      obtain ⟨hpw, _, _⟩ := Hok.out ts[j] (List.getElem_mem hjl)
      have Hds := Lib.hid hds
      clear hc hrt1 hrp1 hcp hds
      generalize ts[j] = x at *
      generalize ks[j] = k at *
      obtain ⟨p, c⟩ := x
      dsimp only at c0 c1 hpw
      have hpp := hpw.pos
      obtain ⟨m1, m2⟩ := modC t p
      have hr64 : t % p < 64 := Nat.lt_of_lt_of_le (Nat.mod_lt _ (by omega)) hpp.2
      have Hds2 : Hid (due ts ks t (j + 1) = if (t % p == k) = true then due ts ks t j ++ [j] else due ts ks t j) := Lib.hid Hds.out
      clear Hds
      obtain ⟨r, hr⟩ : ∃ r, r = t % p := ⟨_, rfl⟩
      rw [← hr] at m1 m2 hr64 Hds2
      clear hr
      have u1 : IntKind.u64.wrap (p : Int) = (p : Int) := IntWalk.u64_in _ (by omega)
      have u2 : IntKind.i64.wrap (r : Int) = (r : Int) := IntWalk.i64_in _ (by omega)
      have hpne : ((p : Int) == 0) = false := by rw [beq_eq_false_iff_ne]; omega
      have i1 : (j : Int) < (n : Int) := by omega
      go_wp2
      have k0 : (wr.alloc (.cells #[.int .i64 (p : Int), .int .i64 (c : Int)] 72)).cell? ⟨wr.heap.size, 0, none⟩ = some (.int .i64 (p : Int)) := (Blk.mk wr 72 [.int .i64 (p : Int), .int .i64 (c : Int)]).cell 0
      have d1 := ((bl wr (.cells #[.int .i64 (p : Int), .int .i64 (c : Int)] 72)).cell (World.block_lt_of_cell? _ _ t1)).trans t1
      have d2 := ((bl wr (.cells #[.int .i64 (p : Int), .int .i64 (c : Int)] 72)).cell (World.block_lt_of_cell? _ _ c2)).trans c2
      have hwo := own_next Hown.out (bl wr (.cells #[.int .i64 (p : Int), .int .i64 (c : Int)] 72))
      have hwb := Hb.out.alloc hszb (.cells #[.int .i64 (p : Int), .int .i64 (c : Int)] 72)
      have hwz := hwb.size
      have Hwo := Lib.hid hwo
      have Hwb := Lib.hid hwb
      clear hwo hwb t1 c0 c1 c2
      generalize wr.alloc (.cells #[.int .i64 (p : Int), .int .i64 (c : Int)] 72) = wa at *
      by_cases hrk : r = k
      · subst hrk
        go_quiet (fail)
        go_wp2_with (at_builtin; refine wpList_append_own _ rfl _ _ 56 rfl w.heap.size 3 i0 (.int .i64 0) 1 8 Try.underlying56 hi0 hz0 hz1 hz2 rfl (by decide) _ _ _ rfl (own_next (own_drewN Hwo.out _) (bl _ _)) ⟨wa.heap.size, 0, none⟩ 1 1 [.int .i64 (j : Int)] rfl rfl (cell_one_new _ _ _) (by simp [Value.oneCell']) (by unfold maxLen; omega) (by omega) (by simp; omega) ?_; intro v4 w4 hown4 hgrow4 _; have Hown4 := Lib.hid hown4; have Hgrow4 := Lib.hid hgrow4; clear hown4 hgrow4)
        go_roundw
        case rel =>
          refine ⟨j + 1, by omega, by go_num, ?_, ((below_drewN Hwb.out _).alloc (by simpa using hwz) _).grown Hgrow4.out (by simp; omega) fun q hq => (own_lt Hwo.out hq).1⟩
          rw [Hds2.out, if_pos (by simp), List.length_append, iv_append]
          exact Hown4.out
        case measure => simp [intOf]; omega
      · have hrk2 : ((r : Int) == (k : Int)) = false := by rw [beq_eq_false_iff_ne]; omega
        go_quiet (fail)
        go_wp2
        go_roundw
        case rel =>
          refine ⟨j + 1, by omega, by go_num, ?_, below_drewN Hwb.out _⟩
          rw [Hds2.out, if_neg (by simpa using hrk)]
          exact Hwo.out
        case measure => simp [intOf]; omega
    · obtain rfl : j = n := by omega
      go_wp2
      go_ret
      exact ⟨⟨_, rfl, by rw [iv_len]; exact Hown.out⟩, Hb.out⟩
set_option maxRecDepth 100000 in
set_option maxHeartbeats 1000000 in
theorem snext_any (g : Nat) (vt vp : Value) (ts : List Tk) (ks : List Nat) (room t n i : Nat) (w : World) (h : PB w g vt vp ts ks room) (hl : ks.length = ts.length) (hi : i < ts.length) (hi' : i < ks.length) (h64 : ts.length ≤ 64) (hok : ∀ x ∈ ts, okK x) (ht : t ≤ 4611686018427387904) (hk : ks[i] < ts[i].p) :
    Calls Try.prog 43 #[.pointer (some ⟨g, 0, none⟩), .int .i64 (i : Int), .int .u64 (t : Int)] w fun e w' => e = .returned (.tuple #[.int .u64 (nextAt ts[i].p ks[i] t : Int), .bool true]) ∧ w = w' := by
  have t0 := h.t0
  obtain ⟨At, capt, evt, hrt, _, _, _⟩ := own_rd h.own1
  rw [evt] at t0
  obtain ⟨b, off, rfl, _, _, hbs, _⟩ := hrt.some (by rw [flatMap_len tkc 2 tkc_len]; omega)
  have hc := hrt.elem tkc 2 tkc_len hi
  have c0 : w.cell? ⟨b, off + i * 2, none⟩ = some (.int .i64 (ts[i].p : Int)) := hc 0 _ (by decide) rfl
  have hph := sphase_in g vt vp ts ks room i w h hi' (by omega)
  obtain ⟨hpw, _, _⟩ := hok ts[i] (List.getElem_mem hi)
  have Hph := Lib.hid hph
  have i1 : (i : Int) < (ts.length : Int) := by omega
  clear hc hrt h hph evt
  generalize ks[i] = k at *
  generalize ts[i] = x at *
  generalize ts.length = m at *
  obtain ⟨p, c⟩ := x
  dsimp only at c0 hpw hk ⊢
  have hpp := hpw.pos
  unfold nextAt
  obtain ⟨m1, m2⟩ := modC t p
  obtain ⟨r, hr⟩ : ∃ r, r = t % p := ⟨_, rfl⟩
  have hrp : r < p := by rw [hr]; exact Nat.mod_lt _ (by omega)
  rw [← hr] at m1 m2 ⊢
  clear hr
  obtain ⟨s, hs⟩ : ∃ s, s = k + p - r := ⟨_, rfl⟩
  obtain ⟨n1, n2⟩ := modC s p
  obtain ⟨q, hq⟩ : ∃ q, q = s % p := ⟨_, rfl⟩
  have hqp : q < p := by rw [hq]; exact Nat.mod_lt _ (by omega)
  rw [← hs, ← hq]
  rw [← hq] at n1 n2
  have u1 : IntKind.u64.wrap (p : Int) = (p : Int) := IntWalk.u64_in _ (by omega)
  have u2 : IntKind.u64.wrap (k : Int) = (k : Int) := IntWalk.u64_in _ (by omega)
  have u3 : IntKind.u64.wrap ((k : Int) + (p : Int)) = (k : Int) + (p : Int) := IntWalk.u64_in _ (by omega)
  have u4 : IntKind.u64.wrap ((k : Int) + (p : Int) - (r : Int)) = (s : Int) := by rw [IntWalk.u64_in _ (by omega)]; omega
  have u5 : IntKind.u64.wrap ((t : Int) + (q : Int)) = ((t + q : Nat) : Int) := by rw [IntWalk.u64_in _ (by omega)]; omega
  have hpne : ((p : Int) == 0) = false := by rw [beq_eq_false_iff_ne]; omega
  have ht2 : decide ((4611686018427387904 : Int) < (t : Int)) = false := decide_eq_false (by omega)
  clear hs hq hok
  go_enter Try.func43, Try.ntmps43
  go_wp2_with fail
  refine Hph.out.mono ?_
  rintro e w2 ⟨rfl, rfl⟩
  go_wp2
  go_ret2
  exact ⟨rfl, rfl⟩
end Sch
end Go.Proofs.Ytgncngpgodfijaa
