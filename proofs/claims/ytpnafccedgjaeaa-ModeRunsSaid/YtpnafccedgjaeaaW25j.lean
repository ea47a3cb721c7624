import Derived.Test.YtpnafccedgjaeaaW25i
namespace Go.Proofs.Ytpnafccedgjaeaa
open Go.RowKit
namespace M25

theorem arr5_eq (x0 x1 x2 x3 x4 : Int) (w : World) : (binOp .eql 74 (.agg #[.int .i64 x0, .int .i64 x1, .int .i64 x2, .int .i64 x3, .int .i64 x4]) (.agg #[.int .i64 x0, .int .i64 x1, .int .i64 x2, .int .i64 x3, .int .i64 x4])).run Try.prog w = .ok (.bool true) w := by
  have := run_eql_ints w (P := Try.prog) (t := 74) (k := .i64) (n := 5) (e := 3) (by kernel_rfl) (by kernel_rfl) (by kernel_rfl) (by kernel_rfl) (by kernel_rfl) [x0, x1, x2, x3, x4] [x0, x1, x2, x3, x4] rfl rfl
  rw [decide_eq_true rfl] at this
  exact this

set_option maxRecDepth 100000 in
set_option maxHeartbeats 4000000 in
theorem lawRuns_any (m : Int) (A : Option Addr) (L : List In) (cap : Nat) (w : World) (hL : InRow w A L) (hl : L.length ≤ maxLen) :
    Calls Try.prog 11 #[.int .i64 m, .slice A L.length cap] w fun e' w' => e' = .returned (.bool true) ∧ Below w.heap.size w w' := by
  unfold maxLen at hl
  by_cases hlen : L.length ≤ 200
  · have hd : decide ((200 : Int) < (L.length : Int)) = false := by simp; omega
    obtain ⟨rm, rl, hr0⟩ : ∃ rm rl, runTo m L = (rm, rl) := ⟨_, _, rfl⟩
    have h5 : rl.length = 5 := by
      have : ∀ (l : List In) (s : Int × List Int), (l.foldl stp s).2.length = s.2.length := by
        intro l
        induction l with
        | nil => intro s; rfl
        | cons i l ih => intro s; rw [List.foldl_cons, ih, stp_len]
      have h := this L (m, [0, 0, 0, 0, 0])
      have e : L.foldl stp (m, [0, 0, 0, 0, 0]) = (rm, rl) := hr0
      rw [e] at h
      exact h
    obtain ⟨x0, x1, x2, x3, x4, rfl⟩ := list5 h5
    have Hr0 := Lib.hid hr0; clear hr0 h5
    go_enter Try.func11, Try.ntmps11
    go_wp2_with fail
    refine (run_eq (L := L) rfl Hr0.out hL (by omega)).mono ?_
    rintro e w1 ⟨rfl, hb1⟩
    go_wp2_with fail
    go_loopw [8, 9] (fun m' i' wr => ∃ k : Nat, k ≤ L.length ∧ i' = .int .i64 k ∧ m' = .int .i64 (runTo m (L.take k)).1 ∧ (runTo m (L.take k)).2.length = 5 ∧ (∀ x ∈ (runTo m (L.take k)).2, 0 ≤ x ∧ x ≤ (k : Int)) ∧ Blk wr w1.heap.size 74 [.int .i64 x0, .int .i64 x1, .int .i64 x2, .int .i64 x3, .int .i64 x4] ∧ Blk wr (w1.heap.size + 1) 74 ((runTo m (L.take k)).2.map (.int .i64 ·)) ∧ Below w.heap.size w wr ∧ w1.heap.size + 1 < wr.heap.size) (fun _ i' _ => L.length - (intOf i').toNat)
    case atStart =>
      refine ⟨0, by omega, rfl, rfl, rfl, by simp [runTo], ?_, ?_, ?_, ?_⟩
      · exact (Blk.mk w1 74 [.int .i64 x0, .int .i64 x1, .int .i64 x2, .int .i64 x3, .int .i64 x4]).alloc _
      · have := Blk.mk (w1.alloc (.cells #[.int .i64 x0, .int .i64 x1, .int .i64 x2, .int .i64 x3, .int .i64 x4] 74)) 74 [.int .i64 0, .int .i64 0, .int .i64 0, .int .i64 0, .int .i64 0]
        simpa [runTo] using this
      · exact (hb1.alloc hb1.size _).alloc (by have := hb1.size; simp; omega) _
      · simp
    case round =>
      have hw1 := hb1.size
      obtain ⟨k, hk, rfl, rfl, h5, hbd, hb0, hb1', hb, hlt1⟩ := hrel
      have hts := runTo_take m L k
      by_cases hlt : k < L.length
      · generalize hr : runTo m (L.take k) = r at *
        rcases hL with rfl | ⟨b, off, rfl, hbl, hcell⟩
        · simp at hlt
        obtain ⟨c0, c1, c2, c3, c4, c5, c6, c7, c8⟩ := hcell k hlt
        rw [← (bcell hb).1 _ _ hbl] at c0 c1 c2 c3 c4 c5 c6 c7 c8
        have hsb := stp_bd hbd (by omega) L[k]
        have hsl := stp_len (s := r) L[k]
        have hnb := nxt_bd r.1 L[k]
        rw [← hts hlt] at hsb hsl
        have Hts := Lib.hid (hts hlt); clear hts
        have Hr := Lib.hid hr; clear hr
        have H5 := Lib.hid h5; clear h5
        have Hsl := Lib.hid hsl; clear hsl
        have Hsb := Lib.hid hsb; clear hsb
        have Hbd := Lib.hid hbd; clear hbd
        clear hcell
        go_wp2_with fail
        refine (rnext_any _ _ _ _ _ _ _ _ _ _ _).mono ?_
        rintro e w2 ⟨rfl, hb2⟩
        have HN : ∃ n, nxt r.1 ⟨L[k].start, L[k].stop, L[k].broken, L[k].clear, L[k].tried, L[k].found, L[k].missed, L[k].lost, L[k].over⟩ = n := ⟨_, rfl⟩
        obtain ⟨n, hn⟩ := HN
        rw [hn]
        have hn' : nxt r.1 L[k] = n := hn
        rw [hn'] at hnb
        have Hn := Lib.hid hn'; clear hn' hn
        obtain ⟨n1, n2⟩ := n
        dsimp only at hnb
        obtain ⟨hn0, hn4⟩ := hnb
        have hz := hb2.size
        have hb0'' : Blk w2 w1.heap.size 74 _ := hb0.below hb2 (by omega)
        have hb1'' : Blk w2 (w1.heap.size + 1) 74 _ := hb1'.below hb2 (by omega)
        have hb' : Below w.heap.size w w2 := bt hb hb2
        clear hb0 hb1' hb hb2
        obtain ⟨n, rfl⟩ := Int.eq_ofNat_of_zero_le hn0
        have hv := getD_bd Hbd.out (by omega) n
        have hcn : w2.cell? ⟨w1.heap.size + 1, n, none⟩ = some (.int .i64 (r.2.getD n 0)) := by
          rw [hb1''.cell, List.getElem?_map, List.getD_eq_getElem?_getD, List.getElem?_eq_getElem (by have := H5.out; omega)]
          rfl
        have hfr : w2.frozen? ⟨w1.heap.size + 1, n, none⟩ = false := hb1''.free n
        by_cases hne : (n : Int) = r.1
        · have HE := Lib.hid hne
          have hne1 : ((n : Int) != r.1) = false := by simp [hne]
          clear hne
          go_wp2_with fail
          go_roundw
          case rel =>
            refine ⟨k + 1, by omega, by go_num, ?_, by rw [Hsl.out]; exact H5.out, ?_, hb0'', ?_, hb', by omega⟩
            · rw [Hts.out]; simp only [stp]; rw [Hn.out]
            · intro x hx; have := Hsb.out x hx; omega
            · rw [Hts.out]; simp only [stp]; rw [Hn.out]; rw [if_pos HE.out]; exact hb1''
          case measure => simp [intOf]; omega
        · have hne1 : ((n : Int) != r.1) = true := by simp [hne]
          have HE := Lib.hid hne
          clear hne
          generalize hvv : r.2.getD n 0 = v at *
          have Hvv := Lib.hid hvv; clear hvv
          go_wp2_with fail
          go_roundw
          case rel =>
            refine ⟨k + 1, by omega, by go_num, ?_, by rw [Hsl.out]; exact H5.out, ?_, hb0''.far (by simp) _, ?_, hb'.setCell (by simp; omega) _, by simp; omega⟩
            · rw [Hts.out]; simp only [stp]; rw [Hn.out]
            · intro x hx; have := Hsb.out x hx; omega
            · rw [Hts.out]; simp only [stp]; rw [Hn.out]; rw [if_neg HE.out]
              have := hb1''.put n (.int .i64 (v + 1))
              rw [Int.toNat_natCast, Hvv.out, List.map_set]
              exact this
          case measure => simp [intOf]; omega
      · obtain rfl : k = L.length := by omega
        have e : runTo m (L.take L.length) = (rm, [x0, x1, x2, x3, x4]) := by rw [List.take_length]; exact Hr0.out
        rw [e] at hb1'
        have E := Lib.hid e
        clear e hts hbd h5
        have hcc := hb1'.cell
        have c0 := hcc 0
        have c1 := hcc 1
        have c2 := hcc 2
        have c3 := hcc 3
        have c4 := hcc 4
        have hdd := hb0.cell
        have d0 := hdd 0
        have d1 := hdd 1
        have d2 := hdd 2
        have d3 := hdd 3
        have d4 := hdd 4
        clear hcc hdd
        simp at c0 c1 c2 c3 c4 d0 d1 d2 d3 d4
        rw [E.out]
        have hE := arr5_eq x0 x1 x2 x3 x4
        have hrm : (rm == rm) = true := by simp
        go_wp2_with (go_at_call 43; refine (works_any _).mono ?_; rintro e w3 ⟨rfl, hb3⟩)
        go_ret
        exact ⟨rfl, bt hb hb3⟩
  · go_enter Try.func11, Try.ntmps11
    go_wp2_with (go_at_call 43; refine (works_any _).mono ?_; rintro e w3 ⟨rfl, hb3⟩)
    go_ret
    exact ⟨rfl, hb3⟩

end M25
end Go.Proofs.Ytpnafccedgjaeaa
