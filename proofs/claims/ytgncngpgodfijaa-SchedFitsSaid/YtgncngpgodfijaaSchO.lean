/-
  The walks of package sched: the phase of a task, how full a slot is, what tasks need; tasks of the document as the program's.
-/
import Derived.Test.YtgncngpgodfijaaSchN
namespace Go.Proofs.Ytgncngpgodfijaa
open Go.RowKit
set_option linter.unusedVariables false
namespace Sch

set_option maxRecDepth 100000 in
set_option maxHeartbeats 1000000 in
theorem sphase_in (g : Nat) (vt vp : Value) (ts : List Tk) (ks : List Nat) (room i : Nat) (w : World) (h : PB w g vt vp ts ks room) (hi : i < ks.length) (hk : ks.length ≤ 64) :
    Calls Try.prog 39 #[.pointer (some ⟨g, 0, none⟩), .int .i64 (i : Int)] w fun e w' => e = .returned (.tuple #[.int .i64 (ks[i] : Int), .bool true]) ∧ w = w' := by
  have t1 := h.t1
  obtain ⟨Ap, capp, rfl, hrd, _, _, _⟩ := own_rd h.own2
  obtain ⟨b, off, rfl, _, _, _, hc⟩ := hrd.some (by rw [iv_len]; omega)
  have c0 : w.cell? ⟨b, off + i, none⟩ = some (.int .i64 (ks[i] : Int)) := hc i _ (iv_get ks i hi)
  clear hrd hc h
  generalize ks[i] = k at *
  generalize ks.length = m at *
  have h0 : (0 : Int) ≤ (i : Int) := by omega
  have h1 : (i : Int) < (m : Int) := by omega
  have d0 : decide ((i : Int) < 0) = false := decide_eq_false (by omega)
  have d1 : decide ((m : Int) ≤ (i : Int)) = false := decide_eq_false (by omega)
  go_enter Try.func39, Try.ntmps39
  go_wp2
  go_ret2
  exact ⟨rfl, rfl⟩
set_option maxRecDepth 100000 in
set_option maxHeartbeats 1000000 in
theorem sphase_out (g : Nat) (vt vp : Value) (ts : List Tk) (ks : List Nat) (room : Nat) (i : Int) (w : World) (h : PB w g vt vp ts ks room) (hi : i < 0 ∨ (ks.length : Int) ≤ i) (hk : ks.length ≤ 64) :
    Calls Try.prog 39 #[.pointer (some ⟨g, 0, none⟩), .int .i64 i] w fun e w' => e = .returned (.tuple #[.int .i64 0, .bool false]) ∧ w = w' := by
  have t1 := h.t1
  obtain ⟨Ap, capp, rfl, hrd, _, _, _⟩ := own_rd h.own2
  clear hrd h
  generalize ks.length = m at *
  by_cases hn : i < 0
  · go_enter Try.func39, Try.ntmps39
    go_wp2
    go_ret2
    exact ⟨rfl, rfl⟩
  · have h1 : (m : Int) ≤ i := by omega
    go_enter Try.func39, Try.ntmps39
    go_wp2
    go_ret2
    exact ⟨rfl, rfl⟩
set_option maxRecDepth 100000 in
set_option maxHeartbeats 1000000 in
theorem sload_any (g : Nat) (vt vp : Value) (ts : List Tk) (ks : List Nat) (room t : Nat) (w : World) (h : PB w g vt vp ts ks room) :
    Calls Try.prog 40 #[.pointer (some ⟨g, 0, none⟩), .int .u64 (t : Int)] w fun e w' => e = .returned (.int .i64 (load ts ks (t % 64) : Int)) ∧ w = w' := by
  have c0 := h.ld (t % 64) (Nat.mod_lt _ (by decide))
  clear h
  generalize load ts ks (t % 64) = x at *
  obtain ⟨a, ha⟩ : ∃ a, a = t % 64 := ⟨_, rfl⟩
  rw [← ha] at c0
  have e1 : (t : Int) % 64 = (a : Int) := by omega
  have e2 : (t : Int).tmod 64 = (a : Int) := by rw [Int.tmod_eq_emod_of_nonneg (by omega)]; exact e1
  have e3 : a < 64 := by omega
  clear ha
  go_enter Try.func40, Try.ntmps40
  go_wp2
  go_ret
  exact ⟨rfl, rfl⟩
theorem own_drewN {w : World} {base n size : Nat} {e : TypeId} {v : Value} {l : List Value} (h : w.ownsRow base e size v n l) (q : Nat) : (w.drewN q).ownsRow base e size v n l := h
theorem need_take (T : List Tk) (k : Nat) (h : k < T.length) : need (T.take (k + 1)) = need (T.take k) + 64 / T[k].p * T[k].c := by
  rw [List.take_succ_eq_append_getElem h, need_append]
  rfl
theorem need_le (T : List Tk) (hok : ∀ t ∈ T, okK t) : need T ≤ 64000 * T.length := by
  induction T with
  | nil => exact Nat.zero_le _
  | cons t T ih =>
    have h1 := ih (fun x hx => hok x (List.mem_cons_of_mem _ hx))
    obtain ⟨hp, hc1, hc2⟩ := hok t (List.mem_cons_self ..)
    have h2 : 64 / t.p ≤ 64 := Nat.div_le_self _ _
    have h3 : 64 / t.p * t.c ≤ 64 * 1000 := Nat.mul_le_mul h2 hc2
    rw [List.length_cons]
    show 64 / t.p * t.c + need T ≤ _
    omega
set_option maxRecDepth 100000 in
set_option maxHeartbeats 1000000 in
theorem sneed_any (A : Option Addr) (T : List Tk) (n cap lo hi : Nat) (w : World) (hT : RdL w lo hi A (T.flatMap tkc)) (hhi : hi ≤ w.heap.size) (hl : T.length = n) (hn : n ≤ 64) (hok : ∀ t ∈ T, okK t) :
    Calls Try.prog 44 #[.slice A n cap] w fun e w' => e = .returned (.int .i64 (need T : Int)) ∧ Below w.heap.size w w' := by
  have HT := Lib.hid hT
  have Hhi := Lib.hid hhi
  have Hl := Lib.hid hl
  have Hok := Lib.hid hok
  clear hT hhi hl hok
  go_enter Try.func44, Try.ntmps44
  go_wp2
  go_loopw [3, 5, 8] (fun s _ i wr => ∃ j : Nat, j ≤ n ∧ i = .int .i64 (j : Int) ∧ s = .int .i64 (need (T.take j) : Int) ∧ Below w.heap.size w wr) (fun _ _ i _ => n - (intOf i).toNat)
  case atStart => exact ⟨0, by omega, rfl, rfl, Below.refl _ _⟩
  case round =>
    obtain ⟨j, hj, rfl, rfl, hb⟩ := hrel
    have Hb := Lib.hid hb
    have hszb := hb.size
    clear hb
    by_cases hlt : j < n
    · have hjl : j < T.length := by rw [Hl.out]; exact hlt
      have hT1 := HT.out.below Hb.out (.inl Hhi.out)
      obtain ⟨b, off, rfl, _, _, hbs, _⟩ := hT1.some (by rw [flatMap_len tkc 2 tkc_len]; omega)
      have hc := hT1.elem tkc 2 tkc_len hjl
      have c0 : wr.cell? ⟨b, off + j * 2, none⟩ = some (.int .i64 (T[j].p : Int)) := hc 0 _ (by decide) rfl
      have c1 : wr.cell? ⟨b, off + j * 2 + 1, none⟩ = some (.int .i64 (T[j].c : Int)) := hc 1 _ (by decide) rfl
      have hnd := need_take T j hjl
      have hle := need_le (T.take j) (fun t ht => Hok.out t (List.mem_of_mem_take ht))
      rw [List.length_take] at hle
      obtain ⟨hpw, hc1, hc2⟩ := Hok.out T[j] (List.getElem_mem hjl)
      have Hnd := Lib.hid hnd
      clear hc hT1 hnd
      generalize T[j] = t at *
      obtain ⟨p, c⟩ := t
      dsimp only at c0 c1 hpw hc1 hc2
      generalize need (T.take j) = s at *
      have hpp := hpw.pos
      have hle2 : s ≤ 64000 * 64 := Nat.le_trans hle (Nat.mul_le_mul_left _ (by omega))
      have hb2 := Hb.out.alloc hszb (.cells #[.int .i64 (p : Int), .int .i64 (c : Int)] 72)
      have Hb2 := Lib.hid hb2
      have hp0 : (0 : Int) < (p : Int) := by omega
      have hq : (64 : Int).tdiv (p : Int) = ((64 / p : Nat) : Int) := by rw [Int.tdiv_eq_ediv_of_nonneg (by decide)]; exact (Int.natCast_ediv 64 p).symm
      have hq2 : 64 / p ≤ 64 := Nat.div_le_self _ _
      have hq3 : 64 / p * c ≤ 64 * 1000 := Nat.mul_le_mul hq2 hc2
      have Hnd2 : Hid (need (T.take (j + 1)) = s + 64 / p * c) := Lib.hid Hnd.out
      clear hb2 Hnd hle
      obtain ⟨q, hqq⟩ : ∃ q, q = 64 / p := ⟨_, rfl⟩
      rw [← hqq] at hq hq2 hq3 Hnd2
      have hm : ((q : Int) * (c : Int)) = ((q * c : Nat) : Int) := by rw [Int.natCast_mul]
      obtain ⟨x, hx⟩ : ∃ x, x = q * c := ⟨_, rfl⟩
      rw [← hx] at hm hq3 Hnd2
      have u1 : IntKind.i64.wrap ((q : Int) * (c : Int)) = (x : Int) := by rw [hm]; exact IntWalk.i64_in _ (by omega)
      have u2 : IntKind.i64.wrap ((s : Int) + (x : Int)) = (s : Int) + (x : Int) := IntWalk.i64_in _ (by omega)
      have u3 : IntKind.i64.wrap (q : Int) = (q : Int) := IntWalk.i64_in _ (by omega)
      have hpne : ((p : Int) == 0) = false := by rw [beq_eq_false_iff_ne]; omega
      clear hm hqq hx
      go_wp2
      go_quiet (fail)
      go_wp2
      go_roundw
      case rel => exact ⟨j + 1, by omega, by go_num, by rw [Hnd2.out]; go_num, below_drewN Hb2.out _⟩
      case measure => simp [intOf]; omega
    · obtain rfl : j = n := by omega
      go_wp2
      go_ret
      have e := List.take_of_length_le (show T.length ≤ j by rw [Hl.out]; exact Nat.le_refl _)
      exact ⟨by rw [e]; rfl, Hb.out⟩
set_option maxRecDepth 100000 in
set_option maxHeartbeats 1000000 in
theorem sown_any (A : Option Addr) (L : List Ti) (n cap lo hi : Nat) (w : World) (hL : RdL w lo hi A (L.flatMap tic)) (hhi : hi ≤ w.heap.size) (hl : L.length = n) (hn : n ≤ 100) :
    Calls Try.prog 35 #[.slice A n cap] w fun e w' => (∃ v, e = .returned v ∧ w'.ownsRow w.heap.size 72 2 v n (L.flatMap tic)) ∧ Below w.heap.size w w' := by
  obtain ⟨i0, hi0, hz0, hz1, hz2⟩ := info_parts infoTask
  have HT := Lib.hid hL
  have Hhi := Lib.hid hhi
  have Hl := Lib.hid hl
  clear hL hhi hl
  go_enter Try.func35, Try.ntmps35
  go_wp2
  go_loopw [3, 4] (fun v i wr => ∃ j : Nat, j ≤ n ∧ i = .int .i64 (j : Int) ∧ wr.ownsRow w.heap.size 72 2 v j ((L.take j).flatMap tic) ∧ Below w.heap.size w wr) (fun _ i _ => n - (intOf i).toNat)
  case atStart => exact ⟨0, by omega, rfl, World.ownsRow_nil _ _ _ _, Below.refl _ _⟩
  case round =>
    obtain ⟨j, hj, rfl, hown, hb⟩ := hrel
    have Hown := Lib.hid hown
    have Hb := Lib.hid hb
    have hszb := hb.size
    clear hown hb
    by_cases hlt : j < n
    · have hjl : j < L.length := by rw [Hl.out]; exact hlt
      obtain ⟨b, off, rfl, _, hbh, hbs, _⟩ := HT.out.some (by rw [flatMap_len tic 2 tic_len]; omega)
      have hc := (HT.out.below Hb.out (.inl Hhi.out)).elem tic 2 tic_len hjl
      have c0 : wr.cell? ⟨b, off + j * 2, none⟩ = some (.int .i64 L[j].p) := hc 0 _ (by decide) rfl
      have c1 : wr.cell? ⟨b, off + j * 2 + 1, none⟩ = some (.int .i64 L[j].c) := hc 1 _ (by decide) rfl
      have hnb : u3.ownBlock ≠ some b := fun e => by have := (own_lt Hown.out e).1; have := Hhi.out; omega
      have htk : (L.take (j + 1)).flatMap tic = (L.take j).flatMap tic ++ tic L[j] := by
        rw [List.take_succ_eq_append_getElem hjl, List.flatMap_append]
        simp
      have Htk := Lib.hid htk
      clear hc htk
      generalize L[j] = t at *
      obtain ⟨p, c⟩ := t
      dsimp only at c0 c1
      have i1 : (j : Int) < (n : Int) := by omega
      go_wp2_with fail
      go_region_held3 (fun w' => w'.cell? ⟨b, off + j * 2, none⟩ = some (.int .i64 p) ∧ w'.cell? ⟨b, off + j * 2 + 1, none⟩ = some (.int .i64 c))
        (first
          | go_keep
          | (go_split_ands
             refine ⟨?_, ?_⟩
             · (rw [hgrow.cell_far _ (by simp; omega) (Ne.symm hnb)]; assumption)
             · (rw [hgrow.cell_far _ (by simp; omega) (Ne.symm hnb)]; assumption)))
        ((refine step_append_lies _ (by rfl) _ _ _ (by rfl) w.heap.size 72 i0 _ 2 16 (by kernel_rfl) hi0 hz0 hz1 hz2 rfl (by omega) _ j _ (by rfl) (own_next Hown.out.drew (bl _ _))
            ⟨wr.heap.size, 0, none⟩ 1 1 [.int .i64 p, .int .i64 c] (by rfl) (by rfl) (World.news_of_block (cs := #[.int .i64 p, .int .i64 c]) (t := 72) (fr := (0, 0)) (heap_alloc_new wr.drew _)) (by simp [Value.oneCell'])
            (by omega) (by unfold maxLen; omega) (by omega) (by simp; omega) (wr.heap.size + 1) (by simp) ?_; intro gg capg w1 hown1 hgrow hat hlt2))
      have Hown1 := Lib.hid hown1
      have Hgrow := Lib.hid hgrow
      clear hown1 hgrow hat
      go_wp2
      go_roundw
      case rel => exact ⟨j + 1, by omega, by go_num, by rw [Htk.out]; exact Hown1.out, ((Hb.out.drew).alloc (by simpa using hszb) _).grown Hgrow.out (by simp; omega) fun q hq => (own_lt Hown.out hq).1⟩
      case measure => simp [intOf]; omega
    · obtain rfl : j = n := by omega
      go_wp2
      go_ret
      exact ⟨⟨_, rfl, by have := Hown.out; rw [List.take_of_length_le (by rw [Hl.out]; exact Nat.le_refl _)] at this; exact this⟩, Hb.out⟩
end Sch
end Go.Proofs.Ytgncngpgodfijaa
