/-
  The walk of the reference's Add: far to the side.
-/
import Derived.Test.YtpnafccedgjaeaaProfW10
namespace Go.Proofs.Ytpnafccedgjaeaa
open Go.RowKit
namespace Prof

set_option maxHeartbeats 2000000 in
theorem radd_x (L : List Smp) (cap d m b : Nat) (x y gap z : Int) (s : Smp) (w : World) (hx : inB x) (_hy : inB y) (hn : m + 1 ≤ 64) (Hl : Hid (L.length = m + 1)) (HR : Hid (RdS w w.heap.size (some ⟨b, 0, none⟩) L)) (hd : d = 0 ∧ m + 1 < 64 ∨ d = 1 ∧ m + 1 = 64)
    (hb : b < w.heap.size) (ok1 : inB s.dx) (ok2 : inB s.dy) (c1 : w.cell? ⟨b, m * 3, none⟩ = some (.int .i64 s.dx)) (c2 : w.cell? ⟨b, m * 3 + 1, none⟩ = some (.int .i64 s.dy)) (N1 : Hid ((decide (x - s.dx < gap) && decide (s.dx - x < gap)) = false)) :
    Calls Try.prog 28 #[.agg #[.slice (some ⟨b, 0, none⟩) (m + 1) cap, .int .i64 x, .int .i64 y, .int .i64 gap], .int .i64 z] w fun e w' => (∃ v, e = .returned (.tuple #[.agg #[v, .int .i64 x, .int .i64 y, .int .i64 gap], .bool true]) ∧ OwnS w' w.heap.size v (m + 1 - d + 1) (L.drop d ++ [Smp.mk x y z])) ∧ Below w.heap.size w w' := by
  obtain ⟨i0, hi, hz0, hz1, hz2⟩ := info_parts info39
  have i1 : IntKind.i64.wrap (m : Int) = (m : Int) := IntWalk.i64_in _ (by omega)
  have i2 : (m : Int) < (m : Int) + 1 := by omega
  have i3 : (0 : Int) < (m : Int) + 1 := by omega
  go_enter Try.func28, Try.ntmps28
  go_wp2
  go_quiet ((go_at_call 48; exact Calls.quiet_of_same (near_val _ _ _ false _ (by assumption) (by assumption) N1.out)))
  go_wp2
  go_loopw [8] (fun i wr => ∃ k : Nat, k ≤ m + 1 ∧ i = .int .i64 k ∧ LoopR w (some ⟨b, 0, none⟩) L (m + 1) cap d x y gap k wr) (fun i _ => m + 1 - (intOf i).toNat)
  case atStart =>
    have hsz : (((w.alloc (.cells #[.slice (some ⟨b, 0, none⟩) (m + 1) cap, .int .i64 x, .int .i64 y, .int .i64 gap] 46)).alloc (.cells #[.slice none 0 0, .int .i64 0, .int .i64 0, .int .i64 0] 46)).drewN nq).heap.size = w.heap.size + 1 + 1 := by simp
    have hbk := Blk.mk (((w.alloc (.cells #[.slice (some ⟨b, 0, none⟩) (m + 1) cap, .int .i64 x, .int .i64 y, .int .i64 gap] 46)).alloc (.cells #[.slice none 0 0, .int .i64 0, .int .i64 0, .int .i64 0] 46)).drewN nq) 46 (rcells none 0 0 x y gap)
    rw [hsz] at hbk
    have hsz1 : (w.alloc (.cells #[.slice (some ⟨b, 0, none⟩) (m + 1) cap, .int .i64 x, .int .i64 y, .int .i64 gap] 46)).heap.size = w.heap.size + 1 := by simp
    have hbk1 := Blk.mk (w.alloc (.cells #[.slice (some ⟨b, 0, none⟩) (m + 1) cap, .int .i64 x, .int .i64 y, .int .i64 gap] 46)) 46 (rcells none 0 0 0 0 0)
    rw [hsz1] at hbk1
    refine ⟨0, by omega, rfl, (((Blk.mk w 46 (rcells (some ⟨b, 0, none⟩) (m + 1) cap x y gap)).alloc _).drewN _).alloc _, (hbk1.drewN _).alloc _, none, 0, 0, hbk, .inr ⟨rfl, rfl⟩, ⟨?_, by simp⟩, bt (below_drewN (bt (bl _ _) (bl _ _)) _) (bl _ _)⟩
    have e : (List.take 0 L).drop d = [] := by simp
    rw [e]
    exact World.ownsRow_nil _ _ _ _
  case round =>
    clear c1 c2
    obtain ⟨k, hk, rfl, hB0, hB1, A', mm, cap', hB2, hmm, hown, hbel⟩ := hrel
    by_cases hlt : k < m + 1
    · have hki : (k : Int) < (m : Int) + 1 := by omega
      have g0 := hB0.lt
      have g2 := hB2.lt
      have g1 := hB1.lt
      by_cases hdk : d ≤ k
      · have hmk : mm + d = k := by omega
        have hmm64 : mm ≤ 64 := by omega
        have hkl : k < L.length := by rw [Hl.out]; exact hlt
        obtain ⟨b', e, hb', hc⟩ := (HR.out.below hbel).at (by omega)
        injection e with e
        injection e with e
        subst e
        obtain ⟨e1, e2, e3⟩ := hc k hkl
        have ht := take_more L k d hkl hdk
        clear hc hb'
        generalize L[k] = t at *
        clear hkl
        have f0 : wr.cell? ⟨w.heap.size, 0, none⟩ = some (.slice (some ⟨b, 0, none⟩) (m + 1) cap) := hB0.cell 0
        have f2 : wr.cell? ⟨w.heap.size + 1 + 1, 0, none⟩ = some (.slice A' mm cap') := hB2.cell 0
        have hgd : (0 : Int) < (k : Int) ∨ (decide (0 < k) = false ∧ (m : Int) + 1 < 64) := by
          by_cases h0 : (0 : Int) < (k : Int)
          · exact .inl h0
          · exact .inr ⟨decide_eq_false (by omega), by omega⟩
        have Ht := Lib.hid ht
        have Hown := Lib.hid hown
        have HB2 := Lib.hid hB2
        have HB1 := Lib.hid hB1
        have HB0 := Lib.hid hB0
        have Hmk := Lib.hid hmk
        have hne2 : some (w.heap.size + 1 + 1) ≠ (Value.slice A' mm cap').ownBlock := by
          intro e
          have := own_ge Hown.out.1 (w.heap.size + 1 + 1) e.symm
          omega
        have hne1 : some (w.heap.size + 1) ≠ (Value.slice A' mm cap').ownBlock := by
          intro e
          have := own_ge Hown.out.1 (w.heap.size + 1) e.symm
          omega
        have hne0 : some w.heap.size ≠ (Value.slice A' mm cap').ownBlock := by
          intro e
          have := own_ge Hown.out.1 w.heap.size e.symm
          omega
        have Hne2 := Lib.hid hne2
        have Hne1 := Lib.hid hne1
        have Hne0 := Lib.hid hne0
        clear ht hown hB2 hB1 hB0 hmk hmm hne2 hne1 hne0
        rcases hgd with hgd | ⟨hgd, hgd2⟩
        all_goals
          go_wp2
          go_region_law ((refine step_append_lies _ (by rfl) (.tmp 62) (.tmp 68) 44 (by rfl) (w.heap.size + 3) 39 i0 _ 3 24 Try.underlying44 hi hz0 hz1 hz2 rfl (by decide) _ mm (flat ((L.take k).drop d)) (by rfl) ((OwnS.alloc (w := wr.drew) Hown.out _).1) ⟨wr.heap.size, 0, none⟩ 1 1 t.cs (by rfl) rfl (news39 wr.drew t) (cs_one t) (by decide) (by simp only [maxLen]; omega) (by omega) (by simp; omega) (wr.heap.size + 1) (by simp) ?_; intro q1 cap1 w2 hown2 hgrow hat hgl; have hQ := ((HB2.out.drew).alloc _).grown hgrow Hne2.out; have f3 : w2.cell? ⟨w.heap.size + 1 + 1, 0, none⟩ = some (.slice A' mm cap') := hQ.cell 0; have f4 : w2.frozen? ⟨w.heap.size + 1 + 1, 0, none⟩ = false := hQ.free 0; clear hQ))
          all_goals
            have hown2' := OwnS.push hown2 Hown.out.2
            rw [← Ht.out] at hown2'
            have Hown2 := Lib.hid hown2'
            clear hown2 hown2' hat
            go_wp2
            go_roundw
            case rel =>
              have q0 := ((HB0.out.drew).alloc _).grown hgrow Hne0.out
              have q1 := ((HB1.out.drew).alloc _).grown hgrow Hne1.out
              have q2 := ((HB2.out.drew).alloc _).grown hgrow Hne2.out
              refine ⟨k + 1, by omega, by go_num, q0.far (by simp; omega) _, q1.far (by simp) _, _, mm + 1, _, q2.put 0 _, .inl (by have := Hmk.out; omega), Hown2.out.set (by omega), ?_⟩
              exact (((hbel.drew).alloc hbel.size _).grown hgrow (by have := hbel.size; simp; omega) (fun j hj => by have := own_ge Hown.out.1 j hj; omega)).setCell (by simp; omega) _
            case measure => simp [intOf]; omega
      · have hk0 : k = 0 := by omega
        have hgd : decide ((0 : Int) < (k : Int)) = false := decide_eq_false (by omega)
        have hgd2 : decide ((m : Int) + 1 < 64) = false := decide_eq_false (by omega)
        have HB2 := Lib.hid hB2
        have HB1 := Lib.hid hB1
        have HB0 := Lib.hid hB0
        have Hown := Lib.hid hown
        have hd1 : mm + d = k + 1 := by omega
        have Hd1 := Lib.hid hd1
        have ht : (L.take (k + 1)).drop d = (L.take k).drop d := by
          rw [hk0]
          rw [List.drop_eq_nil_of_le (by rw [List.length_take]; omega), List.drop_eq_nil_of_le (by rw [List.length_take]; omega)]
        have Ht := Lib.hid ht
        clear hk0 hown hB2 hB1 hB0 hd1 ht hmm
        go_wp2
        go_roundw
        case rel => exact ⟨k + 1, by omega, by go_num, HB0.out, HB1.out, A', mm, cap', HB2.out, .inl Hd1.out, by rw [Ht.out]; exact Hown.out, hbel⟩
        case measure => simp [intOf]; omega
    · have hkm : k = m + 1 := by omega
      have hlt' : ¬ ((k : Int) < (m : Int) + 1) := by omega
      have hmk : mm + d = k := by omega
      have hfin : m + 1 - d + 1 = mm + 1 := by omega
      have htake : (L.take k).drop d = L.drop d := by rw [hkm, ← Hl.out, List.take_length]
      rw [htake] at hown
      have Hfin := Lib.hid hfin
      have Hown := Lib.hid hown
      have HB2 := Lib.hid hB2
      have HB1 := Lib.hid hB1
      have g0 := hB0.lt
      have g2 := hB2.lt
      have hmm64 : mm ≤ 64 := by omega
      have f0 : wr.cell? ⟨w.heap.size, 1, none⟩ = some (.int .i64 x) := hB0.cell 1
      have f1 : wr.cell? ⟨w.heap.size, 2, none⟩ = some (.int .i64 y) := hB0.cell 2
      have f2 : wr.cell? ⟨w.heap.size + 1 + 1, 0, none⟩ = some (.slice A' mm cap') := hB2.cell 0
      have hne2 : some (w.heap.size + 1 + 1) ≠ (Value.slice A' mm cap').ownBlock := by
        intro e
        have := own_ge Hown.out.1 (w.heap.size + 1 + 1) e.symm
        omega
      have hne1 : some (w.heap.size + 1) ≠ (Value.slice A' mm cap').ownBlock := by
        intro e
        have := own_ge Hown.out.1 (w.heap.size + 1) e.symm
        omega
      have Hne2 := Lib.hid hne2
      have Hne1 := Lib.hid hne1
      clear hne1 hne2 hown hB0 hB1 hB2 hmk hfin htake hkm hmm hlt
      go_wp2_with (at_builtin; refine wpList_append_lies _ (by rfl) (.tmp 72) (.tmp 79) 44 (by rfl) (w.heap.size + 3) 39 i0 _ 3 24 Try.underlying44 hi hz0 hz1 hz2 rfl (by decide) _ mm (flat (L.drop d)) (by rfl) ((OwnS.alloc (w := wr) Hown.out _).1) ⟨wr.heap.size, 0, none⟩ 1 1 (Smp.cs ⟨x, y, z⟩) (by rfl) rfl (news39 wr ⟨x, y, z⟩) (cs_one _) (by decide) (by simp only [maxLen]; omega) (by omega) (by simp; omega) (wr.heap.size + 1) (by simp) ?_; intro q1 cap1 w2 hown2 hgrow hat hgl; have hQ := (HB2.out.alloc _).grown hgrow Hne2.out; have hR := (HB1.out.alloc _).grown hgrow Hne1.out; have f3 : w2.cell? ⟨w.heap.size + 1 + 1, 0, none⟩ = some (.slice A' mm cap') := hQ.cell 0; have f5 : w2.cell? ⟨w.heap.size + 1 + 1, 1, none⟩ = some (.int .i64 x) := hQ.cell 1; have f6 : w2.cell? ⟨w.heap.size + 1 + 1, 2, none⟩ = some (.int .i64 y) := hQ.cell 2; have f7 : w2.cell? ⟨w.heap.size + 1 + 1, 3, none⟩ = some (.int .i64 gap) := hQ.cell 3; have f4 := hQ.free; have h3 : w2.cell? ⟨w.heap.size + 1, 0, none⟩ = some (.slice none 0 0) := hR.cell 0; have h5 : w2.cell? ⟨w.heap.size + 1, 1, none⟩ = some (.int .i64 0) := hR.cell 1; have h6 : w2.cell? ⟨w.heap.size + 1, 2, none⟩ = some (.int .i64 0) := hR.cell 2; have h7 : w2.cell? ⟨w.heap.size + 1, 3, none⟩ = some (.int .i64 0) := hR.cell 3; have h4 := hR.free; have Hown2 := Lib.hid (OwnS.push hown2 Hown.out.2); clear hQ hR hown2 hat)
      refine bodyPost_ret (v := .tuple #[.agg #[.slice (some ⟨q1, 0, none⟩) (mm + 1) cap1, .int .i64 x, .int .i64 y, .int .i64 gap], .bool true]) (by simp [results, Try.results28, go_sem, *]) rfl ⟨⟨_, rfl, ?_⟩, ?_⟩
      · rw [Hfin.out]
        exact (((((Hown2.out.set (by omega)).set (by omega)).set (by omega)).set (by omega)).set (by omega)).lower (by omega)
      · exact (((((((hbel.alloc hbel.size _).grown hgrow (by have := hbel.size; simp; omega) (fun j hj => by have := own_ge Hown.out.1 j hj; omega)).setCell (by simp; omega) _).setCell (by simp) _).setCell (by simp) _).setCell (by simp) _).setCell (by simp) _)
end Prof
end Go.Proofs.Ytpnafccedgjaeaa
