/-
  The walks of package vote: a new panel, a channel that is believed again; the law's own copy of what channels tell.
-/
import Derived.Test.YtoaagemofjddiaaVotW
import Derived.Deep.RegionHeld3
import Derived.BigRegion
namespace Go.Proofs.Ytoaagemofjddiaa
open Go.RowKit
set_option linter.unusedVariables false

theorem results_cell_tmp_row {P : Program} {fn : Func} {p u : Tmp} {ty : TypeId} (h : fn.results = #[.cell p ty, .tmp u]) (tmps : Array Value) (w : World) (g : Nat) (t : TypeId) (cs : Array Value) (fr : Nat × Nat) (d : TypeDesc)
    (hp : tmps.getD p undef = .pointer (some ⟨g, 0, none⟩)) (hg : w.heap[g]? = some (.cells cs t fr))
    (hu : P.underlying ty = some d) (hd : (match d with | .struct _ | .array _ _ => true | _ => false) = true) (hi : (P.info? ty).map (·.size) = some cs.size) :
    (results fn tmps).run P w = .ok (.tuple #[.agg cs, tmps.getD u undef]) w := by
  rw [results_cell_tmp h, hp]
  simp [asAddr, run_loadVar_row w g t ty cs fr d hg hu hd hi, Result.andThen]
theorem Blk.next {w w' : World} {g : Nat} {t : TypeId} {l : List Value} (h : Blk w g t l) (hb : Below w.heap.size w w') : Blk w' g t l := h.below hb h.lt
theorem Blk.row {w : World} {g : Nat} {t : TypeId} {l : List Value} (h : Blk w g t l) (cs : List Value) : Blk (w.setRow g cs.toArray) g t cs := setRow_heap w g _ _ t _ h
theorem setRow_other (w : World) (g : Nat) (cs : Array Value) (k : Nat) (hk : k ≠ g) : (w.setRow g cs).heap[k]? = w.heap[k]? := by
  simp only [World.setRow, Array.getElem?_modify]
  rw [if_neg (fun e => hk e.symm)]
theorem Below.row {B : Nat} {w wr : World} (h : Below B w wr) {g : Nat} (hg : B ≤ g) (cs : Array Value) : Below B w (wr.setRow g cs) :=
  ⟨h.os, h.tape, h.output, by simpa using h.size, fun i hi => (setRow_other wr g cs i (by omega)).trans (h.block i hi)⟩
namespace Vot

theorem infoPanel : (Try.prog.info? 69).map (·.size) = some 13 := by kernel_rfl
def zeroP : List Value := [.int .i64 0, .int .i64 0, .int .i64 0, .int .i64 0, .int .i64 0, .int .i64 0, .int .i64 0, .int .i64 0, .bool false, .bool false, .bool false, .bool false, .bool false]
/-- may there be such a panel? -/
def right (n ap most : Int) : Prop := 1 ≤ n ∧ n ≤ 5 ∧ 0 ≤ ap ∧ ap ≤ 1099511627776 ∧ 1 ≤ most ∧ most ≤ 100
theorem new_pac {n : Nat} (ap most : Int) (h : n ≤ 5) : pac (new n ap most) = [.int .i64 (n : Int), .int .i64 ap, .int .i64 most, .int .i64 0, .int .i64 0, .int .i64 0, .int .i64 0, .int .i64 0, .bool false, .bool false, .bool false, .bool false, .bool false] := by
  have e : ∀ i, (new n ap most).sk i = 0 := fun i => by
    simp [Pa.sk, new, List.getD_eq_getElem?_getD, List.getElem?_replicate]
    split <;> rfl
  have e2 : ∀ i, (new n ap most).is i = false := fun i => by
    simp [Pa.is, new, List.getD_eq_getElem?_getD, List.getElem?_replicate]
    split <;> rfl
  unfold pac
  simp only [e, e2]
  simp [new]
set_option maxRecDepth 100000 in
set_option maxHeartbeats 1000000 in
theorem new_yes (n : Nat) (ap most : Int) (h : right n ap most) (w : World) : Calls Try.prog 31 #[.int .i64 (n : Int), .int .i64 ap, .int .i64 most] w fun e w' => e = .returned (.tuple #[.agg (pac (new n ap most)).toArray, .int .i64 0]) ∧ Below w.heap.size w w' := by
  obtain ⟨h1, h2, h3, h4, h5, h6⟩ := h
  have hp := Lib.hid (new_pac (n := n) ap most (by omega))
  have d1 : decide ((n : Int) < 1) = false := decide_eq_false (by omega)
  have d2 : decide ((5 : Int) < (n : Int)) = false := decide_eq_false (by omega)
  have d3 : decide (ap < 0) = false := decide_eq_false (by omega)
  have d4 : decide (1099511627776 < ap) = false := decide_eq_false (by omega)
  have d5 : decide (most < 1) = false := decide_eq_false (by omega)
  have d6 : decide (100 < most) = false := decide_eq_false (by omega)
  have n1 : ¬ (n : Int) < 1 := by omega
  have n2 : ¬ (5 : Int) < (n : Int) := by omega
  have hz : ∀ w, (zeroValue 69).run Try.prog w = .ok (.agg zeroP.toArray) w := fun _ => by kernel_rfl
  go_enter Try.func31, Try.ntmps31
  go_wp2_with (refine wpList_store_row rfl 69 _ _ rfl w.heap.size [.int .i64 (n : Int), .int .i64 ap, .int .i64 most, .int .i64 0, .int .i64 0, .int .i64 0, .int .i64 0, .int .i64 0, .bool false, .bool false, .bool false, .bool false, .bool false].toArray rfl rfl 69 zeroP.toArray (heap_alloc_new w _) infoPanel rfl (by simp [Value.oneCell']) ?_)
  refine bodyPost_ret (results_cell_tmp_row rfl _ _ w.heap.size 69 _ (0, 0) _ rfl ((Blk.mk w 69 zeroP).row _) Try.underlying69 rfl infoPanel) rfl ?_
  exact ⟨by rw [hp.out]; rfl, Below.row (bl w _) (Nat.le_refl _) _⟩
set_option maxRecDepth 100000 in
set_option maxHeartbeats 1000000 in
theorem new_no (n ap most : Int) (h : ¬ right n ap most) (w : World) : Calls Try.prog 31 #[.int .i64 n, .int .i64 ap, .int .i64 most] w fun e w' => e = .returned (.tuple #[.agg zeroP.toArray, .int .i64 2]) ∧ Below w.heap.size w w' := by
  have hz : ∀ w, (zeroValue 69).run Try.prog w = .ok (.agg zeroP.toArray) w := fun _ => by kernel_rfl
  have h' : ((((n < 1 ∨ 5 < n) ∨ ap < 0) ∨ 1099511627776 < ap) ∨ most < 1) ∨ 100 < most := by unfold right at h; omega
  have HH := Lib.hid h'
  clear h h'
  go_enter Try.func31, Try.ntmps31
  go_wp2_with (refine wpList_store_row rfl 69 _ _ rfl w.heap.size zeroP.toArray rfl rfl 69 zeroP.toArray (heap_alloc_new w _) infoPanel rfl (by simp [zeroP, Value.oneCell']) ?_)
  all_goals first
    | (refine bodyPost_ret (results_cell_tmp_row rfl _ _ w.heap.size 69 _ (0, 0) _ rfl ((Blk.mk w 69 zeroP).row zeroP) Try.underlying69 rfl infoPanel) rfl ?_
       exact ⟨rfl, Below.row (bl w _) (Nat.le_refl _) _⟩)
    | (exfalso; have := HH.out; omega)
set_option maxRecDepth 100000 in
set_option maxHeartbeats 1000000 in
theorem reset_in {w : World} {g : Nat} {p : Pa} {B : Nat} (S : Blk w g 69 (pac p)) (hok : p.ok B) {i : Nat} (h : i < p.out.length) :
    Calls Try.prog 34 #[.pointer (some ⟨g, 0, none⟩), .int .i64 (i : Int)] w fun e w' => e = .returned (.bool true) ∧ Blk w' g 69 (pac (p.put i 0 false)) ∧ w.grownBy w' (some g) := by
  have q0 := S.cell 0
  change _ = some (Value.int .i64 (p.out.length : Int)) at q0
  have h5 := hok.five
  have q1 := (S.cell (3 + i)).trans (pac_sk p (by omega))
  have q2 := (S.cell (8 + i)).trans (pac_is p (by omega))
  have f1 := S.free (3 + i)
  have f2 := S.free (8 + i)
  have d1 : decide ((i : Int) < 0) = false := decide_eq_false (by omega)
  have d2 : decide (p.out.length ≤ i) = false := decide_eq_false (by omega)
  have i5 : (i : Int) < 5 := by omega
  have i0 : (0 : Int) ≤ (i : Int) := by omega
  have i1 : ¬ (p.out.length : Int) ≤ (i : Int) := by omega
  have e1 : Blk ((w.drew.setCell ⟨g, 3 + i, none⟩ (.int .i64 0)).setCell ⟨g, 8 + i, none⟩ (.bool false)) g 69 (pac (p.put i 0 false)) := by
    have := ((S.drew).put (3 + i) (.int .i64 (0 : Nat))).put (8 + i) (.bool false)
    rw [pac_set_sk p h hok.len h5, pac_set_is _ (by rw [(put_len _ _ _ _).2]; exact h) (by rw [(put_len _ _ _ _).1, (put_len _ _ _ _).2]; exact hok.len) (by rw [(put_len _ _ _ _).2]; exact h5), put_put, (put_out p 0 _ h hok.len).2] at this
    exact this
  have e2 : Blk ((w.drew.setCell ⟨g, 8 + i, none⟩ (.bool false)).setCell ⟨g, 3 + i, none⟩ (.int .i64 0)) g 69 (pac (p.put i 0 false)) := by
    have := ((S.drew).put (8 + i) (.bool false)).put (3 + i) (.int .i64 (0 : Nat))
    rw [pac_set_is p h hok.len h5, pac_set_sk _ (by rw [(put_len _ _ _ _).2]; exact h) (by rw [(put_len _ _ _ _).1, (put_len _ _ _ _).2]; exact hok.len) (by rw [(put_len _ _ _ _).2]; exact h5), put_put, (put_out p (p.sk i) _ h hok.len).1] at this
    exact this
  have E1 := Lib.hid e1
  have E2 := Lib.hid e2
  have HL := Lib.hid h
  clear e1 e2 S h
  go_enter Try.func34, Try.ntmps34
  go_wp2
  go_region
  all_goals
    go_wp2
    go_ret
    first
      | exact ⟨rfl, E1.out, only_set (only_set (only_drew (only_refl _ _)) _ _) _ _⟩
      | exact ⟨rfl, E2.out, only_set (only_set (only_drew (only_refl _ _)) _ _) _ _⟩
set_option maxRecDepth 100000 in
set_option maxHeartbeats 1000000 in
theorem reset_out {w : World} {g : Nat} {p : Pa} (S : Blk w g 69 (pac p)) {i : Int} (h : i < 0 ∨ (p.out.length : Int) ≤ i) :
    Calls Try.prog 34 #[.pointer (some ⟨g, 0, none⟩), .int .i64 i] w fun e w' => e = .returned (.bool false) ∧ w = w' := by
  have q0 := S.cell 0
  change _ = some (Value.int .i64 (p.out.length : Int)) at q0
  by_cases h0 : i < 0
  · have d1 : decide (i < 0) = true := decide_eq_true h0
    clear h
    go_enter Try.func34, Try.ntmps34
    go_wp2
    go_ret
    exact ⟨rfl, rfl⟩
  · have d1 : decide (i < 0) = false := decide_eq_false h0
    have h1 : (p.out.length : Int) ≤ i := by omega
    have d2 : decide ((p.out.length : Int) ≤ i) = true := decide_eq_true h1
    clear h
    go_enter Try.func34, Try.ntmps34
    go_wp2
    go_ret
    exact ⟨rfl, rfl⟩

/-- a sample's cells -/
def sac (s : Sa) : List Value := [.bool s.1, .int .i64 s.2]
theorem sac_len (s : Sa) : (sac s).length = 2 := rfl
theorem infoSample : (Try.prog.info? 92).map (fun i => (i.zero, i.size, i.bytes)) = some (some (.agg #[.bool false, .int .i64 0]), 2, 16) := by kernel_rfl
set_option maxRecDepth 100000 in
set_option maxHeartbeats 1000000 in
theorem vown_any (A : Option Addr) (L : List Sa) (cap lo hi : Nat) (w : World) (hL : RdL w lo hi A (L.flatMap sac)) (hhi : hi ≤ w.heap.size) (hn : L.length ≤ 100) :
    Calls Try.prog 37 #[.slice A L.length cap] w fun e w' => (∃ v, e = .returned v ∧ w'.ownsRow w.heap.size 92 2 v L.length (L.flatMap sac)) ∧ Below w.heap.size w w' := by
  obtain ⟨i0, hi0, hz0, hz1, hz2⟩ := info_parts infoSample
  have HT := Lib.hid hL
  have Hhi := Lib.hid hhi
  obtain ⟨n, hl⟩ : ∃ n, n = L.length := ⟨_, rfl⟩
  rw [← hl] at hn ⊢
  have Hl := Lib.hid hl
  clear hL hhi hl
  go_enter Try.func37, Try.ntmps37
  go_wp2
  go_loopw [3, 4] (fun v i wr => ∃ j : Nat, j ≤ n ∧ i = .int .i64 (j : Int) ∧ wr.ownsRow w.heap.size 92 2 v j ((L.take j).flatMap sac) ∧ Below w.heap.size w wr) (fun _ i _ => n - (intOf i).toNat)
  case atStart => exact ⟨0, by omega, rfl, World.ownsRow_nil _ _ _ _, Below.refl _ _⟩
  case round =>
    obtain ⟨j, hj, rfl, hown, hb⟩ := hrel
    have Hown := Lib.hid hown
    have Hb := Lib.hid hb
    have hszb := hb.size
    clear hown hb
    by_cases hlt : j < n
    · have hjl : j < L.length := by rw [← Hl.out]; exact hlt
      obtain ⟨b, off, rfl, _, hbh, hbs, _⟩ := HT.out.some (by rw [flatMap_len sac 2 sac_len]; omega)
      have hc := (HT.out.below Hb.out (.inl Hhi.out)).elem sac 2 sac_len hjl
      have c0 : wr.cell? ⟨b, off + j * 2, none⟩ = some (.bool L[j].1) := hc 0 _ (by decide) rfl
      have c1 : wr.cell? ⟨b, off + j * 2 + 1, none⟩ = some (.int .i64 L[j].2) := hc 1 _ (by decide) rfl
      have hnb : u3.ownBlock ≠ some b := fun e => by have := (own_lt Hown.out e).1; have := Hhi.out; omega
      have htk : (L.take (j + 1)).flatMap sac = (L.take j).flatMap sac ++ sac L[j] := by
        rw [List.take_succ_eq_append_getElem hjl, List.flatMap_append]
        simp
      have Htk := Lib.hid htk
      clear hc htk
      generalize L[j] = t at *
      obtain ⟨p, c⟩ := t
      dsimp only at c0 c1
      have i1 : (j : Int) < (n : Int) := by omega
      go_wp2_with fail
      go_region_held3 (fun w' => w'.cell? ⟨b, off + j * 2, none⟩ = some (.bool p) ∧ w'.cell? ⟨b, off + j * 2 + 1, none⟩ = some (.int .i64 c))
        (first
          | go_keep
          | (go_split_ands
             refine ⟨?_, ?_⟩
             · (rw [hgrow.cell_far _ (by simp; omega) (Ne.symm hnb)]; assumption)
             · (rw [hgrow.cell_far _ (by simp; omega) (Ne.symm hnb)]; assumption)))
        ((refine step_append_lies _ (by rfl) _ _ _ (by rfl) w.heap.size 92 i0 _ 2 16 (by kernel_rfl) hi0 hz0 hz1 hz2 rfl (by omega) _ j _ (by rfl) (own_next Hown.out.drew (bl _ _))
            ⟨wr.heap.size, 0, none⟩ 1 1 [.bool p, .int .i64 c] (by rfl) (by rfl) (World.news_of_block (cs := #[.bool p, .int .i64 c]) (t := 92) (fr := (0, 0)) (heap_alloc_new wr.drew _)) (by simp [Value.oneCell'])
            (by omega) (by unfold maxLen; omega) (by omega) (by simp; omega) (wr.heap.size + 1) (by simp) ?_; intro gg capg w1 hown1 hgrow hat hlt2))
      have Hown1 := Lib.hid hown1
      have Hgrow := Lib.hid hgrow
      clear hown1 hgrow hat
      go_wp2
      go_roundw
      case rel => exact ⟨j + 1, by omega, by go_num, by rw [Htk.out]; exact Hown1.out, ((Hb.out.drew).alloc (by simpa using hszb) _).grown Hgrow.out (by simp; omega) fun q hq => (own_lt Hown.out hq).1⟩
      case measure => simp [intOf]; omega
    · obtain rfl : j = n := by omega
      go_wp2
      go_ret
      exact ⟨⟨_, rfl, by have := Hown.out; rw [List.take_of_length_le (by rw [← Hl.out]; exact Nat.le_refl _)] at this; exact this⟩, Hb.out⟩
end Vot
end Go.Proofs.Ytoaagemofjddiaa
