/-
  The walk of sched.Run: what becomes of the tasks in a slot.
-/
import Derived.Test.YtgncngpgodfijaaSchD
namespace Go.Proofs.Ytgncngpgodfijaa
open Go.RowKit
set_option linter.unusedVariables false
namespace Sch

def needOf (takes : List Int) (i : Nat) : Nat := (takes[i]?.getD 0).toNat
def costOf (ts : List Tk) (i : Nat) : Nat := (ts[i]?.map (·.c)).getD 0
def mark (ts : List Tk) (takes : List Int) (i : Nat) : Nat := if needOf takes i ≤ costOf ts i then 1 else 2
def used (ts : List Tk) (takes : List Int) (i : Nat) : Nat := min (needOf takes i) (costOf ts i)
def marks (D : List Nat) (n : Nat) (f : Nat → Nat) : List Nat := (List.range n).map (fun i => if i ∈ D then f i else 0)
theorem marks_len (D : List Nat) (n : Nat) (f : Nat → Nat) : (marks D n f).length = n := by simp [marks]
theorem marks_at (D : List Nat) (n : Nat) (f : Nat → Nat) (i : Nat) (h : i < n) : (marks D n f)[i]? = some (if i ∈ D then f i else 0) := by simp [marks, h]
theorem marks_set (D : List Nat) (n : Nat) (f : Nat → Nat) (i x : Nat) (hx : x = f i) : (marks D n f).set i x = marks (D ++ [i]) n f := by
  apply List.ext_getElem?
  intro j
  rw [List.getElem?_set]
  by_cases hj : j < n
  · rw [marks_at _ _ _ _ hj, marks_at _ _ _ _ hj]
    by_cases e : i = j
    · subst e
      rw [if_pos rfl, if_pos (by rw [marks_len]; exact hj), if_pos (by simp), hx]
    · rw [if_neg e]
      congr 1
      have : (j ∈ D ++ [i]) ↔ j ∈ D := by simp [Ne.symm e]
      simp only [this]
  · rw [List.getElem?_eq_none (by rw [marks_len]; omega), List.getElem?_eq_none (by rw [marks_len]; omega)]
    split
    · rw [if_neg (by rw [marks_len]; omega)]
    · rfl
theorem marks_nil (n : Nat) (f : Nat → Nat) : marks [] n f = List.replicate n 0 := by
  apply List.ext_getElem?
  intro j
  by_cases hj : j < n
  · rw [marks_at _ _ _ _ hj]; simp [hj]
  · rw [List.getElem?_eq_none (by rw [marks_len]; omega), List.getElem?_eq_none (by simp; omega)]
theorem iv_set (l : List Nat) (i x : Nat) : (iv l).set i (.int .i64 (x : Int)) = iv (l.set i x) := by
  unfold iv
  rw [List.map_set]
theorem iv_zero (n : Nat) : iv (List.replicate n 0) = List.replicate n (.int .i64 0) := by
  unfold iv
  rw [List.map_replicate]
  rfl
/-- numbers, of any sign, as values -/
def jv (l : List Int) : List Value := l.map (Value.int .i64)
theorem jv_get (l : List Int) (i : Nat) (h : i < l.length) : (jv l)[i]? = some (.int .i64 l[i]) := by simp [jv, h]
theorem jv_len (l : List Int) : (jv l).length = l.length := by simp [jv]
def okI (x : Int) : Prop := -9223372036854775808 ≤ x ∧ x ≤ 9223372036854775807
def usedSum (ts : List Tk) (takes : List Int) (D : List Nat) : Nat := (D.map (used ts takes)).sum
theorem usedSum_snoc (ts : List Tk) (takes : List Int) (D : List Nat) (i : Nat) : usedSum ts takes (D ++ [i]) = usedSum ts takes D + used ts takes i := by
  unfold usedSum
  rw [List.map_append, List.sum_append]
  simp
theorem used_le {ts : List Tk} (hok : ∀ x ∈ ts, okK x) (takes : List Int) (i : Nat) : used ts takes i ≤ 1000 := by
  unfold used costOf
  by_cases h : i < ts.length
  · rw [List.getElem?_eq_getElem h]
    have := (hok ts[i] (List.getElem_mem h)).2.2
    simp only [Option.map_some, Option.getD_some]
    omega
  · rw [List.getElem?_eq_none (by omega)]
    simp
theorem usedSum_le {ts : List Tk} (hok : ∀ x ∈ ts, okK x) (takes : List Int) (D : List Nat) : usedSum ts takes D ≤ 1000 * D.length := by
  induction D with
  | nil => exact Nat.zero_le _
  | cons d D ih =>
    have h1 := used_le hok takes d
    have : usedSum ts takes (d :: D) = used ts takes d + usedSum ts takes D := by simp [usedSum]
    rw [this, List.length_cons]
    omega
set_option maxRecDepth 100000 in
set_option maxHeartbeats 1000000 in
theorem srun_any (g : Nat) (vt vp : Value) (ts : List Tk) (ks : List Nat) (room t n : Nat) (Atk : Option Addr) (takes : List Int) (m capk : Nat) (w : World) (h : PB w g vt vp ts ks room) (hl : ks.length = ts.length) (hn : ts.length = n) (h64 : n ≤ 64) (hok : ∀ x ∈ ts, okK x) (ht : t < 18446744073709551616)
    (hk : RdL w 0 w.heap.size Atk (jv takes)) (hm : takes.length = m) (hi : ∀ x ∈ takes, okI x) (D : List Nat) (hD : due ts ks t n = D) :
    Calls Try.prog 45 #[.pointer (some ⟨g, 0, none⟩), .int .u64 (t : Int), .slice Atk m capk] w fun e w' => (∃ v, e = .returned (.tuple #[v, .int .i64 (usedSum ts takes D : Int)]) ∧ w'.ownsRow w.heap.size 3 1 v n (iv (marks D n (mark ts takes)))) ∧ Below w.heap.size w w' := by
  obtain ⟨i0, hi0, hz0, hz1, hz2⟩ := info_parts infoInt
  have t0 := h.t0
  have H := Lib.hid h
  have Hl := Lib.hid hl
  have Hn := Lib.hid hn
  have Hok := Lib.hid hok
  have Ht := Lib.hid ht
  have Hk := Lib.hid hk
  have Hm := Lib.hid hm
  have Hi := Lib.hid hi
  have HD := Lib.hid hD
  obtain ⟨At, capt, evt, hrt, _, _, _⟩ := own_rd h.own1
  rw [hn] at evt
  rw [evt] at t0
  have T0 := Lib.hid t0
  have Hrt := Lib.hid hrt
  clear h hl hn hok ht hrt evt hk hm hi hD
  go_enter Try.func45, Try.ntmps45
  go_wp2_with (at_make; refine wpList_make_full _ rfl _ _ 56 rfl w.heap.size 3 i0 (.int .i64 0) 1 Try.underlying56 hi0 hz0 hz1 _ _ _ _ n rfl rfl (by rfl) (by rfl) (by rw [hz2]; omega) (by unfold maxLen; omega) (Nat.le_refl _) ?_; intro w1 hown1 hgrow1; have Hown1 := Lib.hid hown1; have Hgrow1 := Lib.hid hgrow1; clear hown1 hgrow1)
  have hown1 := Hown1.out
  have ez : (madeCells (Value.int .i64 0).cells (n * 1)).toList = iv (marks [] n (mark ts takes)) := by
    rw [marks_nil, iv_zero, Nat.mul_one]
    exact toList_madeCells_one _ _
  rw [ez] at hown1
  have Hown := Lib.hid hown1
  have hgl := H.out.blk.lt
  have hb1 : Below w.heap.size w w1 := ⟨Hgrow1.out.os, Hgrow1.out.tape, Hgrow1.out.output, Hgrow1.out.size, fun i hi => Hgrow1.out.block i hi (by simp)⟩
  have hz1b : w.heap.size < w1.heap.size := (own_lt hown1 rfl).2
  have Hb1 := Lib.hid hb1
  have Hh1 := Lib.hid (H.out.next hb1)
  clear hown1 ez Hown1 Hgrow1 hb1 t0
  go_wp2_with fail
  refine (sdue_any g vt vp ts ks room t n w1 Hh1.out Hl.out Hn.out h64 Hok.out Ht.out).mono ?_
  rw [HD.out]
  rintro e w2 ⟨⟨vd, rfl, hd⟩, hb2⟩
  rw [iv_len] at hd
  have Hown2 := Lib.hid (own_next Hown.out hb2)
  have hwb2 := Hb1.out.trans (hb2.mono (by omega))
  obtain ⟨Ad, capd, rfl, hrd, _, _, _⟩ := own_rd hd
  have hsz2 := hb2.size
  have hbo : ∀ x ∈ D, x < n ∧ isDue ts ks t x = true := fun x hx => mem_due.1 (by rw [HD.out]; exact hx)
  have hdl := due_le ts ks t n
  rw [HD.out] at hdl
  have Hbo := Lib.hid hbo
  have Hb2 := Lib.hid hwb2
  have Hrd := Lib.hid hrd
  have Hdl := Lib.hid hdl
  clear hd hb2 hwb2 hrd hbo hdl Hown Hh1
  obtain ⟨q, hq⟩ : ∃ q, q = D.length := ⟨_, rfl⟩
  rw [← hq]
  have hq64 : q ≤ 64 := by have := Hdl.out; omega
  have Hq := Lib.hid hq
  clear hq
  go_wp2
  go_loopw [9, 11, 12, 23] (fun s _ _ i wr => ∃ j : Nat, j ≤ q ∧ i = .int .i64 (j : Int) ∧ s = .int .i64 (usedSum ts takes (D.take j) : Int) ∧ wr.ownsRow w.heap.size 3 1 (.slice (some ⟨w.heap.size, 0, none⟩) n n) n (iv (marks (D.take j) n (mark ts takes))) ∧ w2.grownBy wr (some w.heap.size)) (fun _ _ _ i _ => q - (intOf i).toNat)
  case atStart => exact ⟨0, by omega, rfl, rfl, Hown2.out, only_refl _ _⟩
  case round =>
    clear Hown2
    obtain ⟨j, hj, rfl, rfl, hown, hg2⟩ := hrel
    have Hown := Lib.hid hown
    have Hg2 := Lib.hid hg2
    have hb : Below w.heap.size w wr := Hb2.out.grown hg2 Hb2.out.size (fun k hk => by injection hk with hk; omega)
    have Hb := Lib.hid hb
    have t0 := (hb.cell (p := ⟨g, 0, none⟩) hgl).trans T0.out
    clear hown hg2 hb
    by_cases hlt : j < q
    · have hjl : j < D.length := by rw [← Hq.out]; exact hlt
      have hrd1 := Hrd.out.grown Hg2.out (fun k hk => by injection hk with hk; omega)
      obtain ⟨bd, offd, rfl, hbd1, _, _, hcd⟩ := hrd1.some (by rw [iv_len]; omega)
      have c0 : wr.cell? ⟨bd, offd + j, none⟩ = some (.int .i64 (D[j] : Int)) := hcd j _ (iv_get D j hjl)
      obtain ⟨hin, hdue⟩ := Hbo.out D[j] (List.getElem_mem hjl)
      have htk := List.take_succ_eq_append_getElem hjl
      have hus := usedSum_snoc ts takes (D.take j) D[j]
      have hul := usedSum_le Hok.out takes (D.take j)
      have hms := fun (x : Nat) (hx : x = mark ts takes (D[j]'hjl)) => marks_set (D.take j) n (mark ts takes) (D[j]'hjl) x hx
      rw [← htk] at hus hms
      have hul2 : usedSum ts takes (D.take j) ≤ 64000 := Nat.le_trans hul (by rw [List.length_take]; have := Hdl.out; omega)
      have Hus := Lib.hid hus
      have Hms := Lib.hid hms
      clear hrd1 hcd htk hus hul hms hdue
      generalize D[j] = i at *
      have hit : i < ts.length := by rw [Hn.out]; exact hin
      obtain ⟨b, off, rfl, _, hbh, hbs, _⟩ := Hrt.out.some (by rw [flatMap_len tkc 2 tkc_len]; omega)
      have hc := Hrt.out.elem tkc 2 tkc_len hit
      have k1 : w.cell? ⟨b, off + i * 2 + 1, none⟩ = some (.int .i64 (ts[i].c : Int)) := hc 1 _ (by decide) rfl
      have c1 := (Hb.out.cell (p := ⟨b, off + i * 2 + 1, none⟩) hbs).trans k1
      have hco : costOf ts i = ts[i].c := by unfold costOf; rw [List.getElem?_eq_getElem hit]; rfl
      obtain ⟨_, hcc1, hcc2⟩ := Hok.out ts[i] (List.getElem_mem hit)
      have o0 := Hown.out.cellAt i (by omega)
      have o1 := Hown.out.frozenAt i
      have ho2 := fun u => Hown.out.stored i u
      rw [show (iv (marks (D.take j) n (mark ts takes)))[i]? = some (.int .i64 ((if i ∈ D.take j then mark ts takes i else 0 : Nat) : Int)) by
        unfold iv
        rw [List.getElem?_map, marks_at _ _ _ _ hin]
        rfl] at o0
      have Ho2 := Lib.hid ho2
      have Hco := Lib.hid hco
      clear hc k1 ho2 hco
      have Hgl := Lib.hid hgl
      generalize ts[i].c = c at *
      generalize (if i ∈ D.take j then mark ts takes i else 0 : Nat) = o at *
      obtain ⟨s, hs⟩ : ∃ s, s = usedSum ts takes (D.take j) := ⟨_, rfl⟩
      rw [← hs] at hul2 ⊢
      have Hus2 : Hid (usedSum ts takes (D.take (j + 1)) = s + used ts takes i) := Lib.hid (by rw [Hus.out, hs])
      clear hs Hus
      -- what the store leaves
      have s0 := (World.cell?_setCell_far wr ⟨w.heap.size, i, none⟩ ⟨g, 0, none⟩ (.int .i64 1) (by dsimp only; omega)).trans t0
      have s1 := (World.cell?_setCell_far wr ⟨w.heap.size, i, none⟩ ⟨b, off + i * 2 + 1, none⟩ (.int .i64 1) (by dsimp only; omega)).trans c1
      have s2 := (Ho2.out (.int .i64 1)).1.frozenAt i
      have s3 := (Ho2.out (.int .i64 1)).1.cellAt i (by omega)
      rw [List.getElem?_set_self (by rw [iv_len, marks_len]; exact hin)] at s3
      have i1 : (j : Int) < (q : Int) := by omega
      have i2 : (i : Int) < (n : Int) := by omega
      have hnd : needOf takes i = (takes[i]?.getD 0).toNat := rfl
      have hmk : mark ts takes i = if needOf takes i ≤ c then 1 else 2 := by unfold mark; rw [Hco.out]
      have hud : used ts takes i = min (needOf takes i) c := by unfold used; rw [Hco.out]
      have Hmk := Lib.hid hmk
      have Hud := Lib.hid hud
      clear hmk hud
      have hcase : (¬ i < m ∧ needOf takes i = 0) ∨ (i < m ∧ ∃ x : Int, x < 0 ∧ needOf takes i = 0 ∧ takes[i]? = some x) ∨ (i < m ∧ ∃ x : Nat, needOf takes i = x ∧ takes[i]? = some (x : Int)) := by
        by_cases him : i < m
        · right
          have hil : i < takes.length := by rw [Hm.out]; exact him
          rw [hnd, List.getElem?_eq_getElem hil]
          by_cases hx : takes[i] < 0
          · left
            exact ⟨him, takes[i], hx, by simp only [Option.getD_some]; omega, rfl⟩
          · right
            refine ⟨him, takes[i].toNat, rfl, ?_⟩
            rw [Int.toNat_of_nonneg (by omega)]
        · left
          refine ⟨him, ?_⟩
          rw [hnd, List.getElem?_eq_none (by rw [Hm.out]; omega)]
          rfl
      clear hnd
      have hend : ∀ (nd : Nat), needOf takes i = nd → (nd ≤ c → usedSum ts takes (D.take (j + 1)) = s + nd ∧ (wr.setCell ⟨w.heap.size, i, none⟩ (.int .i64 1)).ownsRow w.heap.size 3 1 (.slice (some ⟨w.heap.size, 0, none⟩) n n) n (iv (marks (D.take (j + 1)) n (mark ts takes))))
          ∧ (c < nd → usedSum ts takes (D.take (j + 1)) = s + c ∧ ((wr.setCell ⟨w.heap.size, i, none⟩ (.int .i64 1)).setCell ⟨w.heap.size, i, none⟩ (.int .i64 2)).ownsRow w.heap.size 3 1 (.slice (some ⟨w.heap.size, 0, none⟩) n n) n (iv (marks (D.take (j + 1)) n (mark ts takes)))) := by
        intro nd hnd
        refine ⟨fun hle => ⟨by rw [Hus2.out, Hud.out, hnd, Nat.min_eq_left hle], ?_⟩, fun hle => ⟨by rw [Hus2.out, Hud.out, hnd, Nat.min_eq_right (by omega)], ?_⟩⟩
        · have := (Ho2.out (.int .i64 ((1 : Nat) : Int))).1
          rw [iv_set, Hms.out 1 (by rw [Hmk.out, hnd, if_pos hle])] at this
          exact this
        · have := ((Ho2.out (.int .i64 1)).1.stored i (.int .i64 ((2 : Nat) : Int))).1
          rw [List.set_set, iv_set, Hms.out 2 (by rw [Hmk.out, hnd, if_neg (by omega)])] at this
          exact this
      have Hend := Lib.hid hend
      have hgs : ∀ u, w2.grownBy (wr.setCell ⟨w.heap.size, i, none⟩ u) (some w.heap.size) := fun u => only_set Hg2.out i u
      have Hgs := Lib.hid hgs
      clear hend hgs Ho2 Hms Hus2 Hmk Hud
      rcases hcase with ⟨him, hnd⟩ | ⟨him, x, hx, hnd, hget⟩ | ⟨him, x, hnd, hget⟩
      · obtain ⟨he1, -⟩ := Hend.out 0 hnd
        obtain ⟨e1, e2⟩ := he1 (by omega)
        have E1 := Lib.hid e1
        have E2 := Lib.hid e2
        have him2 : ¬ ((i : Int) < (m : Int)) := by omega
        have hcg : ¬ ((c : Int) < 0) := by omega
        have u1 : IntKind.i64.wrap ((s : Int) + 0) = (s : Int) := by rw [Int.add_zero]; exact IntWalk.i64_in _ (by omega)
        clear he1 e1 e2 Hend hnd
        go_wp2
        go_roundw
        case rel => exact ⟨j + 1, by omega, by go_num, by rw [E1.out]; rfl, E2.out, Hgs.out _⟩
        case measure => simp [intOf]; omega
      · have c2 : ∃ bk offk, Atk = some ⟨bk, offk, none⟩ ∧ wr.cell? ⟨bk, offk + i, none⟩ = some (.int .i64 x) := by
          obtain ⟨bk, offk, e, _, _, hbk, hck⟩ := Hk.out.some (by rw [jv_len, Hm.out]; omega)
          refine ⟨bk, offk, e, (Hb.out.cell (p := ⟨bk, offk + i, none⟩) hbk).trans (hck i _ ?_)⟩
          unfold jv
          rw [List.getElem?_map, hget]
          rfl
        obtain ⟨bk, offk, rfl, c2⟩ := c2
        obtain ⟨he1, -⟩ := Hend.out 0 hnd
        obtain ⟨e1, e2⟩ := he1 (by omega)
        have E1 := Lib.hid e1
        have E2 := Lib.hid e2
        have him2 : (i : Int) < (m : Int) := by omega
        have hcg : ¬ ((c : Int) < 0) := by omega
        have u1 : IntKind.i64.wrap ((s : Int) + 0) = (s : Int) := by rw [Int.add_zero]; exact IntWalk.i64_in _ (by omega)
        clear he1 e1 e2 Hend hnd hget
        go_wp2
        go_roundw
        case rel => exact ⟨j + 1, by omega, by go_num, by rw [E1.out]; rfl, E2.out, Hgs.out _⟩
        case measure => simp [intOf]; omega
      · have c2 : ∃ bk offk, Atk = some ⟨bk, offk, none⟩ ∧ wr.cell? ⟨bk, offk + i, none⟩ = some (.int .i64 (x : Int)) := by
          obtain ⟨bk, offk, e, _, _, hbk, hck⟩ := Hk.out.some (by rw [jv_len, Hm.out]; omega)
          refine ⟨bk, offk, e, (Hb.out.cell (p := ⟨bk, offk + i, none⟩) hbk).trans (hck i _ ?_)⟩
          unfold jv
          rw [List.getElem?_map, hget]
          rfl
        obtain ⟨bk, offk, rfl, c2⟩ := c2
        obtain ⟨he1, he2⟩ := Hend.out x hnd
        have him2 : (i : Int) < (m : Int) := by omega
        have hx0 : ¬ ((x : Int) < 0) := by omega
        clear Hend hnd hget
        by_cases hcx : c < x
        · obtain ⟨e1, e2⟩ := he2 hcx
          have E1 := Lib.hid e1
          have E2 := Lib.hid e2
          have hcg : (c : Int) < (x : Int) := by omega
          have u1 : IntKind.i64.wrap ((s : Int) + (c : Int)) = (s : Int) + (c : Int) := IntWalk.i64_in _ (by omega)
          have Hg3 : Hid (w2.grownBy ((wr.setCell ⟨w.heap.size, i, none⟩ (.int .i64 1)).setCell ⟨w.heap.size, i, none⟩ (.int .i64 2)) (some w.heap.size)) := Lib.hid (only_set (Hgs.out _) i _)
          clear he1 he2 e1 e2
          go_wp2
          go_roundw
          case rel => exact ⟨j + 1, by omega, by go_num, by rw [E1.out]; go_num, E2.out, Hg3.out⟩
          case measure => simp [intOf]; omega
        · obtain ⟨e1, e2⟩ := he1 (by omega)
          have E1 := Lib.hid e1
          have E2 := Lib.hid e2
          have hcg : ¬ ((c : Int) < (x : Int)) := by omega
          have u1 : IntKind.i64.wrap ((s : Int) + (x : Int)) = (s : Int) + (x : Int) := IntWalk.i64_in _ (by omega)
          clear he1 he2 e1 e2
          go_wp2
          go_roundw
          case rel => exact ⟨j + 1, by omega, by go_num, by rw [E1.out]; go_num, E2.out, Hgs.out _⟩
          case measure => simp [intOf]; omega
    · obtain rfl : j = q := by omega
      have e := List.take_of_length_le (show D.length ≤ j by rw [← Hq.out]; exact Nat.le_refl _)
      go_wp2
      go_ret2
      exact ⟨⟨_, by rw [e]; rfl, by have := Hown.out; rw [e] at this; exact this⟩, Hb.out⟩
end Sch
end Go.Proofs.Ytgncngpgodfijaa
