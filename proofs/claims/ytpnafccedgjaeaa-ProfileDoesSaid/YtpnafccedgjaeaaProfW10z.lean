/-
  The walk of the reference's Add: the first height; all together.
-/
import Derived.Test.YtpnafccedgjaeaaProfW10x
import Derived.Test.YtpnafccedgjaeaaProfW10y
namespace Go.Proofs.Ytpnafccedgjaeaa
open Go.RowKit
namespace Prof

set_option maxHeartbeats 2000000 in
/-- a height is put behind the others -/
theorem radd_put (A : Option Addr) (L : List Smp) (n cap : Nat) (x y gap z : Int) (w : World) (hx : inB x) (hy : inB y) (hl : L.length = n) (hn : n ≤ 64) (h : RdS w w.heap.size A L) (hs : ∀ s ∈ L, okS s) (hnr : rnear ⟨L, x, y, gap⟩ = false) :
    Calls Try.prog 28 #[rv (.slice A n cap) x y gap, .int .i64 z] w fun e w' => (∃ v, e = .returned (.tuple #[rv v x y gap, .bool true]) ∧ OwnS w' w.heap.size v (kept L ++ [Smp.mk x y z]).length (kept L ++ [Smp.mk x y z])) ∧ Below w.heap.size w w' := by
  obtain ⟨i0, hi, hz0, hz1, hz2⟩ := info_parts info39
  obtain ⟨d, hd, hkd, hm⟩ : ∃ d, (d = 0 ∧ n < 64 ∨ d = 1 ∧ n = 64) ∧ kept L = L.drop d ∧ (kept L ++ [Smp.mk x y z]).length = n - d + 1 := by
    unfold kept
    rw [hl]
    by_cases h64 : n < 64
    · exact ⟨0, .inl ⟨rfl, h64⟩, by rw [if_pos h64], by rw [if_pos h64]; simp [hl]⟩
    · exact ⟨1, .inr ⟨rfl, by omega⟩, by rw [if_neg h64], by rw [if_neg h64]; simp [hl]⟩
  rw [hm, hkd]
  clear hm hkd
  have Hs := Lib.hid hs
  have HR := Lib.hid h
  have Hl := Lib.hid hl
  clear h hs
  have main : (n = 0 ∨ ∃ m s b, n = m + 1 ∧ A = some ⟨b, 0, none⟩ ∧ b < w.heap.size ∧ okS s ∧ w.cell? ⟨b, m * 3, none⟩ = some (.int .i64 s.dx) ∧ w.cell? ⟨b, m * 3 + 1, none⟩ = some (.int .i64 s.dy) ∧ ((decide (x - s.dx < gap) && decide (s.dx - x < gap)) = false ∨ ((decide (x - s.dx < gap) && decide (s.dx - x < gap)) = true ∧ (decide (y - s.dy < gap) && decide (s.dy - y < gap)) = false))) := by
    rcases Nat.eq_zero_or_pos n with h0 | h0
    · exact .inl h0
    · right
      obtain ⟨m, rfl⟩ : ∃ m, n = m + 1 := ⟨n - 1, by omega⟩
      obtain ⟨b, rfl, hb, hc⟩ := HR.out.at (by omega)
      have hk : m < L.length := by omega
      obtain ⟨c1, c2, _⟩ := hc m hk
      refine ⟨m, L[m], b, rfl, rfl, hb, Hs.out _ (List.getElem_mem hk), c1, c2, ?_⟩
      unfold rnear nearS at hnr
      have hg : L.getD (L.length - 1) ⟨0, 0, 0⟩ = L[m] := by
        rw [List.getD_eq_getElem?_getD, hl, Nat.add_sub_cancel, List.getElem?_eq_getElem hk]
        rfl
      dsimp only at hnr
      rw [hg, decide_eq_true (show 0 < L.length by omega), Bool.true_and, Bool.and_eq_false_iff] at hnr
      rcases hnr with h | h
      · exact .inl h
      · by_cases hq : (decide (x - L[m].dx < gap) && decide (L[m].dx - x < gap)) = true
        · exact .inr ⟨hq, h⟩
        · exact .inl (by simpa using hq)
  clear hnr hl
  unfold rv
  rcases main with rfl | ⟨m, s, b, rfl, rfl, hb, hok, c1, c2, hg⟩
  · obtain rfl : d = 0 := by omega
    have hL : L = [] := List.eq_nil_of_length_eq_zero Hl.out
    subst hL
    clear Hl HR Hs hd hx hy
    go_enter Try.func28, Try.ntmps28
    go_wp2
    go_quiet (fail)
    go_wp2
    go_loopw [8] (fun i wr => i = .int .i64 0 ∧ LoopR w A [] 0 cap 0 x y gap 0 wr) (fun _ _ => 0)
    case atStart =>
      have hsz : (((w.alloc (.cells #[.slice A 0 cap, .int .i64 x, .int .i64 y, .int .i64 gap] 46)).alloc (.cells #[.slice none 0 0, .int .i64 0, .int .i64 0, .int .i64 0] 46)).drewN nq).heap.size = w.heap.size + 1 + 1 := by simp
      have hbk := Blk.mk (((w.alloc (.cells #[.slice A 0 cap, .int .i64 x, .int .i64 y, .int .i64 gap] 46)).alloc (.cells #[.slice none 0 0, .int .i64 0, .int .i64 0, .int .i64 0] 46)).drewN nq) 46 (rcells none 0 0 x y gap)
      rw [hsz] at hbk
      have hsz1 : (w.alloc (.cells #[.slice A 0 cap, .int .i64 x, .int .i64 y, .int .i64 gap] 46)).heap.size = w.heap.size + 1 := by simp
      have hbk1 := Blk.mk (w.alloc (.cells #[.slice A 0 cap, .int .i64 x, .int .i64 y, .int .i64 gap] 46)) 46 (rcells none 0 0 0 0 0)
      rw [hsz1] at hbk1
      refine ⟨rfl, (((Blk.mk w 46 (rcells A 0 cap x y gap)).alloc _).drewN _).alloc _, (hbk1.drewN _).alloc _, none, 0, 0, hbk, .inr ⟨rfl, rfl⟩, ⟨?_, by simp⟩, bt (below_drewN (bt (bl _ _) (bl _ _)) _) (bl _ _)⟩
      have e : (List.take 0 ([] : List Smp)).drop 0 = [] := by simp
      rw [e]
      exact World.ownsRow_nil _ _ _ _
    case round =>
      obtain ⟨rfl, hB0, hB1, A', mm, cap', hB2, hmm, hown, hbel⟩ := hrel
      obtain rfl : mm = 0 := by omega
      have e : (List.take 0 ([] : List Smp)).drop 0 = [] := rfl
      rw [e] at hown
      clear e hmm
      have Hown := Lib.hid hown
      have HB2 := Lib.hid hB2
      have HB1 := Lib.hid hB1
      have g0 := hB0.lt
      have g2 := hB2.lt
      have h064 : 0 ≤ 64 := by omega
      have f0 : wr.cell? ⟨w.heap.size, 1, none⟩ = some (.int .i64 x) := hB0.cell 1
      have f1 : wr.cell? ⟨w.heap.size, 2, none⟩ = some (.int .i64 y) := hB0.cell 2
      have f2 : wr.cell? ⟨w.heap.size + 1 + 1, 0, none⟩ = some (.slice A' 0 cap') := hB2.cell 0
      have hne2 : some (w.heap.size + 1 + 1) ≠ (Value.slice A' 0 cap').ownBlock := by
        intro e
        have := own_ge Hown.out.1 (w.heap.size + 1 + 1) e.symm
        omega
      have hne1 : some (w.heap.size + 1) ≠ (Value.slice A' 0 cap').ownBlock := by
        intro e
        have := own_ge Hown.out.1 (w.heap.size + 1) e.symm
        omega
      have Hne2 := Lib.hid hne2
      have Hne1 := Lib.hid hne1
      clear hne1 hne2 hown hB0 hB1 hB2
      go_wp2_with (at_builtin; refine wpList_append_lies _ (by rfl) (.tmp 72) (.tmp 79) 44 (by rfl) (w.heap.size + 3) 39 i0 _ 3 24 Try.underlying44 hi hz0 hz1 hz2 rfl (by decide) _ 0 (flat (([] : List Smp))) (by rfl) ((OwnS.alloc (w := wr) Hown.out _).1) ⟨wr.heap.size, 0, none⟩ 1 1 (Smp.cs ⟨x, y, z⟩) (by rfl) rfl (news39 wr ⟨x, y, z⟩) (cs_one _) (by decide) (by simp only [maxLen]; omega) (by omega) (by simp; omega) (wr.heap.size + 1) (by simp) ?_; intro q1 cap1 w2 hown2 hgrow hat hgl; have hQ := (HB2.out.alloc _).grown hgrow Hne2.out; have hR := (HB1.out.alloc _).grown hgrow Hne1.out; have f3 : w2.cell? ⟨w.heap.size + 1 + 1, 0, none⟩ = some (.slice A' 0 cap') := hQ.cell 0; have f5 : w2.cell? ⟨w.heap.size + 1 + 1, 1, none⟩ = some (.int .i64 x) := hQ.cell 1; have f6 : w2.cell? ⟨w.heap.size + 1 + 1, 2, none⟩ = some (.int .i64 y) := hQ.cell 2; have f7 : w2.cell? ⟨w.heap.size + 1 + 1, 3, none⟩ = some (.int .i64 gap) := hQ.cell 3; have f4 := hQ.free; have h3 : w2.cell? ⟨w.heap.size + 1, 0, none⟩ = some (.slice none 0 0) := hR.cell 0; have h5 : w2.cell? ⟨w.heap.size + 1, 1, none⟩ = some (.int .i64 0) := hR.cell 1; have h6 : w2.cell? ⟨w.heap.size + 1, 2, none⟩ = some (.int .i64 0) := hR.cell 2; have h7 : w2.cell? ⟨w.heap.size + 1, 3, none⟩ = some (.int .i64 0) := hR.cell 3; have h4 := hR.free; have Hown2 := Lib.hid (OwnS.push hown2 Hown.out.2); clear hQ hR hown2 hat)
      refine bodyPost_ret (v := .tuple #[.agg #[.slice (some ⟨q1, 0, none⟩) 1 cap1, .int .i64 x, .int .i64 y, .int .i64 gap], .bool true]) (by simp [results, Try.results28, go_sem, *]) rfl ⟨⟨_, rfl, ?_⟩, ?_⟩
      · show OwnS _ _ _ 1 _
        exact (((((Hown2.out.set (by omega)).set (by omega)).set (by omega)).set (by omega)).set (by omega)).lower (by omega)
      · exact (((((((hbel.alloc hbel.size _).grown hgrow (by have := hbel.size; simp; omega) (fun j hj => by have := own_ge Hown.out.1 j hj; omega)).setCell (by simp; omega) _).setCell (by simp) _).setCell (by simp) _).setCell (by simp) _).setCell (by simp) _)
  · rcases hg with n1 | ⟨n1, n2⟩
    · exact radd_x L cap d m b x y gap z s w hx hy hn Hl HR hd hb hok.1 hok.2.1 c1 c2 (Lib.hid n1)
    · exact radd_y L cap d m b x y gap z s w hx hy hn Hl HR hd hb hok.1 hok.2.1 c1 c2 (Lib.hid n1) (Lib.hid n2)
end Prof
end Go.Proofs.Ytpnafccedgjaeaa
