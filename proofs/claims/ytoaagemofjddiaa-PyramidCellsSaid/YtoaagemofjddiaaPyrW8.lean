/-
  The walk of package pyramid's below: the cells for which one stands.
-/
import Derived.Test.YtoaagemofjddiaaPyrW6
namespace Go.Proofs.Ytoaagemofjddiaa
open Go.RowKit
set_option linter.unusedVariables false
namespace Pyr

theorem side_self2 (n : Nat) : ∀ k, side n k ≤ n
  | 0 => Nat.le_refl _
  | k + 1 => Nat.le_trans (side_le n k) (side_self2 n k)
def cand (p : Pl) (i : Nat) : Pl := ⟨p.n - 1, 2 * p.x + i % 2, 2 * p.y + i / 2⟩
def okP (W H : Nat) (q : Pl) : Bool := decide (q.x < side W q.n) && decide (q.y < side H q.n)
def subsK (W H : Nat) (p : Pl) (k : Nat) : List Pl := ((List.range k).map (cand p)).filter (okP W H)
theorem subs_K (W H : Nat) (p : Pl) : subsK W H p 4 = subs W H p := rfl
theorem subsK_snoc (W H : Nat) (p : Pl) (k : Nat) : subsK W H p (k + 1) = subsK W H p k ++ (if okP W H (cand p k) = true then [cand p k] else []) := by
  unfold subsK
  rw [List.range_succ, List.map_append, List.filter_append]
  congr 1
  by_cases h : okP W H (cand p k) = true
  · simp [h]
  · simp [h]
theorem subsK_len (W H : Nat) (p : Pl) (k : Nat) : (subsK W H p k).length ≤ k := by
  unfold subsK
  exact Nat.le_trans (List.length_filter_le _ _) (by simp)
theorem plc_one (l : List Pl) : ∀ u ∈ l.flatMap plc, u.oneCell' = true := by
  intro u hu
  obtain ⟨t, _, h⟩ := List.mem_flatMap.1 hu
  simp [plc] at h
  rcases h with rfl | rfl | rfl <;> rfl
theorem infoPlace : (Try.prog.info? 104).map (fun i => (i.zero, i.size, i.bytes)) = some (some (.agg #[.int .i64 0, .int .i64 0, .int .i64 0]), 3, 24) := by kernel_rfl
/-- on the way -/
structure BS (w : World) (p : Pl) (bp bl cl seen : Nat) (lvs : List Lv) (K : List Pl) (v : Value) (wr : World) : Prop where
  box : Blk wr w.heap.size 104 (plc p)
  own : wr.ownsRow (w.heap.size + 1) 104 3 v K.length (K.flatMap plc)
  ps : PS wr bp bl cl lvs seen
  below : Below w.heap.size w wr
section
variable {w wr w' : World} {p : Pl} {bp bl cl seen : Nat} {lvs : List Lv} {K : List Pl} {v : Value}
theorem PS.below {B : Nat} (S : PS w bp bl cl lvs seen) (hb : Below B w w') (hB : w.heap.size ≤ B) : PS w' bp bl cl lvs seen := S.next (hb.mono hB)
theorem BS.next (S : BS w p bp bl cl seen lvs K v wr) (hb : Below wr.heap.size wr w') : BS w p bp bl cl seen lvs K v w' := ⟨S.box.next hb, own_next S.own hb, S.ps.next hb, _root_.Go.Proofs.Ytoaagemofjddiaa.bt S.below hb⟩
theorem BS.drewN (S : BS w p bp bl cl seen lvs K v wr) (q : Nat) : BS w p bp bl cl seen lvs K v (wr.drewN q) := ⟨S.box.drewN q, S.own, S.ps.drewN q, below_drewN S.below q⟩
theorem BS.more (S : BS w p bp bl cl seen lvs K v wr) (S0 : PS w bp bl cl lvs seen) {v1 : Value} {q : Pl} (hg : wr.grownBy w' v.ownBlock) (ho : w'.ownsRow (w.heap.size + 1) 104 3 v1 (K.length + 1) (K.flatMap plc ++ plc q)) :
    BS w p bp bl cl seen lvs (K ++ [q]) v1 w' := by
  have hv := own_ge S.own
  have n1 : ∀ k, k < w.heap.size + 1 → some k ≠ v.ownBlock := fun k hk e => by have := hv k e.symm; omega
  have hb := S.below.grown hg S.below.size (fun k hk => by have := hv k hk; omega)
  refine ⟨S.box.grown hg (n1 _ (by omega)), ?_, S0.next hb, hb⟩
  rw [List.length_append, List.length_singleton, List.flatMap_append]
  simpa [List.flatMap] using ho
end
def GotPl (w : World) (K : List Pl) (e : Ending) (w' : World) : Prop := ∃ v, e = .returned v ∧ w'.ownsRow w.heap.size 104 3 v K.length (K.flatMap plc) ∧ Below w.heap.size w w'
set_option maxRecDepth 100000 in
set_option maxHeartbeats 2000000 in
theorem below_any {w : World} {bp bl cl seen : Nat} {lvs : List Lv} (S : PS w bp bl cl lvs seen) {W H : Nat} {z : Nat → Int} (hI : IsLv W H z lvs) (p : Pl) (hn : 0 < p.n) (hn2 : p.n < lvs.length) (hx : p.x ≤ 300) (hy : p.y ≤ 300) (hlen : lvs.length ≤ 300) (hW : W ≤ 300) (hH : H ≤ 300) :
    Calls Try.prog 49 #[.pointer (some ⟨bp, 0, Option.none⟩), plv p] w (GotPl w (subs W H p)) := by
  obtain ⟨i0, hi0, hz0, hz1, hz2⟩ := info_parts infoPlace
  have hk1 : p.n - 1 < lvs.length := by omega
  have hl : lvs[p.n - 1]? = some lvs[p.n - 1] := List.getElem?_eq_getElem hk1
  have hlw := hI.wd (p.n - 1) hk1
  have hlh := hI.h (p.n - 1) hk1
  have hw1 : side W (p.n - 1) ≤ W := side_self2 W _
  have hh1 : side H (p.n - 1) ≤ H := side_self2 H _
  generalize lvs[p.n - 1] = l at *
  have hok : ∀ i, okP W H (cand p i) = (decide (2 * p.x + i % 2 < l.wd) && decide (2 * p.y + i / 2 < l.h)) := fun i => by rw [hlw, hlh]; rfl
  have hcl : ∀ i, plc (cand p i) = [.int .i64 ((p.n - 1 : Nat) : Int), .int .i64 ((2 * p.x + i % 2 : Nat) : Int), .int .i64 ((2 * p.y + i / 2 : Nat) : Int)] := fun i => rfl
  have HOk := Lib.hid hok
  have HCl := Lib.hid hcl
  have HL := Lib.hid hl
  have hwl : l.wd ≤ 300 := by omega
  have hhl : l.h ≤ 300 := by omega
  have hS0 : BS w p bp bl cl seen lvs (subsK W H p 0) (.slice Option.none 0 0) (w.alloc (.cells (plc p).toArray 104)) := ⟨Blk.mk _ _ _, World.ownsRow_nil _ _ _ _, S.next (_root_.Go.Proofs.Ytoaagemofjddiaa.bl _ _), _root_.Go.Proofs.Ytoaagemofjddiaa.bl _ _⟩
  have HS0 := Lib.hid hS0
  have HPS := Lib.hid S
  have hsn := fun k => subsK_snoc W H p k
  have hln := fun k => subsK_len W H p k
  have h4 := subs_K W H p
  have HSn := Lib.hid hsn
  have HLn := Lib.hid hln
  have H4 := Lib.hid h4
  obtain ⟨F, hF⟩ : ∃ F, F = subsK W H p := ⟨_, rfl⟩
  rw [← hF] at HS0
  have HF := Lib.hid hF
  clear S hok hcl hl hlw hlh hw1 hh1 hS0 hsn hln h4 hF
  obtain ⟨n, x, y⟩ := p
  dsimp only at hn hn2 hx hy hk1
  unfold plv
  dsimp only
  have hni : (n : Int) - 1 = ((n - 1 : Nat) : Int) := by omega
  have hn3 : 0 < (n : Int) := by omega
  go_enter Try.func49, Try.ntmps49
  go_wp2
  go_loopw [9, 5] (fun i v wr => ∃ (k : Nat), k ≤ 4 ∧ i = .int .i64 (k : Int) ∧ BS w ⟨n, x, y⟩ bp bl cl seen lvs (F k) v wr) (fun i _ _ => 4 - (intOf i).toNat)
  case atStart => exact ⟨0, by omega, rfl, HS0.out⟩
  case round =>
    clear HS0
    obtain ⟨k, hk, rfl, Sr⟩ := hrel
    obtain ⟨Av, cv, rfl, _, _, _, _⟩ := own_rd Sr.own
    have t0 : wr.cell? ⟨w.heap.size, 0, Option.none⟩ = some (.int .i64 (n : Int)) := Sr.box.cell 0
    have t1 : wr.cell? ⟨w.heap.size, 1, Option.none⟩ = some (.int .i64 (x : Int)) := Sr.box.cell 1
    have t2 : wr.cell? ⟨w.heap.size, 2, Option.none⟩ = some (.int .i64 (y : Int)) := Sr.box.cell 2
    have e0 := Sr.ps.p0
    obtain ⟨l0, l1, _⟩ := Sr.ps.lev HL.out
    have hbz := Sr.below.size
    have hbx := Sr.box.lt
    have HSr := Lib.hid Sr
    clear Sr
    by_cases hlt : k < 4
    · have hokk := HOk.out k
      have hclk := HCl.out k
      have hsnk := HSn.out k
      have hlnk := HLn.out k
      rw [← HF.out] at hsnk hlnk
      generalize cand ⟨n, x, y⟩ k = c at *
      obtain ⟨r, hr⟩ : ∃ r, r = k % 2 := ⟨_, rfl⟩
      obtain ⟨q, hq⟩ : ∃ q, q = k / 2 := ⟨_, rfl⟩
      obtain ⟨m, hm⟩ : ∃ m, m = n - 1 := ⟨_, rfl⟩
      rw [← hr, ← hq] at hokk hclk
      rw [← hm] at hclk l0 l1
      have a1 : (k : Int) % 2 = (r : Int) := by omega
      have a2 : (k : Int) / 2 = (q : Int) := by omega
      have a3 : (k : Int).tmod 2 = (r : Int) := by rw [Int.tmod_eq_emod_of_nonneg (by omega), a1]
      have a4 : (k : Int).tdiv 2 = (q : Int) := by rw [Int.tdiv_eq_ediv_of_nonneg (by omega), a2]
      have w1 : IntKind.i64.wrap (2 * (x : Int)) = 2 * (x : Int) := IntWalk.i64_in _ (by omega)
      have w2 : IntKind.i64.wrap (2 * (x : Int) + (r : Int)) = 2 * (x : Int) + (r : Int) := IntWalk.i64_in _ (by omega)
      have w3 : IntKind.i64.wrap (2 * (y : Int)) = 2 * (y : Int) := IntWalk.i64_in _ (by omega)
      have w4 : IntKind.i64.wrap (2 * (y : Int) + (q : Int)) = 2 * (y : Int) + (q : Int) := IntWalk.i64_in _ (by omega)
      have w5 : IntKind.i64.wrap (r : Int) = (r : Int) := IntWalk.i64_in _ (by omega)
      have w6 : IntKind.i64.wrap (q : Int) = (q : Int) := IntWalk.i64_in _ (by omega)
      have hmi : (n : Int) - 1 = (m : Int) := by omega
      have w7 : IntKind.i64.wrap ((n : Int) - 1) = (m : Int) := by rw [hmi]; exact IntWalk.i64_in _ (by omega)
      have w8 : IntKind.i64.wrap (m : Int) = (m : Int) := IntWalk.i64_in _ (by omega)
      have b1 : (m : Int) < (lvs.length : Int) := by omega
      have b2 : (0 : Int) ≤ (m : Int) := by omega
      have b3 : (m : Int).toNat = m := by omega
      have hr2 : r < 2 := by omega
      have hq2 : q < 2 := by omega
      have HOkk := Lib.hid hokk
      have hclk' : plc c = [.int .i64 (m : Int), .int .i64 (2 * (x : Int) + (r : Int)), .int .i64 (2 * (y : Int) + (q : Int))] := by rw [hclk]; simp
      have HClk := Lib.hid hclk'
      clear hclk'
      have HSnk := Lib.hid hsnk
      have HHm := Lib.hid hmi
      clear hr hq hm hokk hclk hsnk hni
      by_cases h1 : 2 * x + r < l.wd
      · have d1 : decide (2 * (x : Int) + (r : Int) < (l.wd : Int)) = true := decide_eq_true (by omega)
        have d1' : 2 * (x : Int) + (r : Int) < (l.wd : Int) := by omega
        by_cases h2 : 2 * y + q < l.h
        · have d2 : decide (2 * (y : Int) + (q : Int) < (l.h : Int)) = true := decide_eq_true (by omega)
          have d2' : 2 * (y : Int) + (q : Int) < (l.h : Int) := by omega
          have hF1 : F (k + 1) = F k ++ [c] := by
            rw [HSnk.out, HOkk.out, decide_eq_true h1, decide_eq_true h2]
            rfl
          have HF1 := Lib.hid hF1
          clear hF1
          go_wp2
          go_quiet (fail)
          go_wp2
          go_quiet (fail)
          go_wp2_with (at_builtin; refine wpList_append_mine rfl (.tmp 50) (.tmp 57) 105 rfl (w.heap.size + 1) 104 i0 _ 3 24 Try.underlying105 hi0 hz0 hz1 hz2 rfl (by decide) (.slice Av (F k).length cv) (F k).length ((F k).flatMap plc) rfl (own_next (BS.own (HSr.out.drewN _)) (_root_.Go.Proofs.Ytoaagemofjddiaa.bl _ _)) (some ⟨wr.heap.size, 0, Option.none⟩) 1 1 [.int .i64 (m : Int), .int .i64 (2 * (x : Int) + (r : Int)), .int .i64 (2 * (y : Int) + (q : Int))] rfl rfl (fun h => by cases h) (new_rd _ 104 [.int .i64 (m : Int), .int .i64 (2 * (x : Int) + (r : Int)), .int .i64 (2 * (y : Int) + (q : Int))]).news (by simp [Value.oneCell']) (by simp only [maxLen]; omega) (by omega) (by simp; omega) ?_; intro v2 w2 hown hgrow hwh; rw [← HClk.out] at hown; have hmore := BS.more (((HSr.out.drewN _).next (_root_.Go.Proofs.Ytoaagemofjddiaa.bl _ _))) HPS.out (q := c) hgrow hown; have HMore := Lib.hid hmore; clear hown hgrow hwh hmore)
          go_roundw
          case rel => exact ⟨k + 1, by omega, by go_num, by rw [HF1.out]; exact HMore.out⟩
          case measure => simp [intOf]; omega
        · have d2 : decide (2 * (y : Int) + (q : Int) < (l.h : Int)) = false := decide_eq_false (by omega)
          have hF1 : F (k + 1) = F k := by
            rw [HSnk.out, HOkk.out, decide_eq_true h1, decide_eq_false h2]
            simp
          have HF1 := Lib.hid hF1
          clear hF1
          go_wp2
          go_quiet (fail)
          go_wp2
          go_quiet (fail)
          go_wp2
          go_roundw
          case rel => exact ⟨k + 1, by omega, by go_num, by rw [HF1.out]; exact HSr.out.drewN _⟩
          case measure => simp [intOf]; omega
      · have d1 : decide (2 * (x : Int) + (r : Int) < (l.wd : Int)) = false := decide_eq_false (by omega)
        have hF1 : F (k + 1) = F k := by
          rw [HSnk.out, HOkk.out, decide_eq_false h1]
          simp
        have HF1 := Lib.hid hF1
        clear hF1
        go_wp2
        go_quiet (fail)
        go_wp2
        go_quiet (fail)
        go_wp2
        go_roundw
        case rel => exact ⟨k + 1, by omega, by go_num, by rw [HF1.out]; exact HSr.out.drewN _⟩
        case measure => simp [intOf]; omega
    · obtain rfl : k = 4 := by omega
      have h4 : subs W H ⟨n, x, y⟩ = F 4 := by rw [HF.out]; exact H4.out.symm
      have HF4 := Lib.hid h4
      clear h4
      go_wp2
      go_ret
      unfold GotPl
      rw [HF4.out]
      exact ⟨_, rfl, own_down HSr.out.own (by omega), HSr.out.below⟩
end Pyr
end Go.Proofs.Ytoaagemofjddiaa
