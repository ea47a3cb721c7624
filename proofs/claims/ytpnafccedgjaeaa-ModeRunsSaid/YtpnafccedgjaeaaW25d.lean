import Derived.Test.YtpnafccedgjaeaaW25c
namespace Go.Proofs.Ytpnafccedgjaeaa
open Go.RowKit
namespace M25

/-- the cells of inputs -/
def In.cells (i : In) : List Value := [.bool i.start, .bool i.stop, .bool i.broken, .bool i.clear, .bool i.tried, .bool i.found, .bool i.missed, .bool i.lost, .bool i.over]
def InRow (w : World) (A : Option Addr) (L : List In) : Prop :=
  L = [] ∨ ∃ b off, A = some ⟨b, off, none⟩ ∧ b < w.heap.size ∧ ∀ (i : Nat) (h : i < L.length),
    w.cell? ⟨b, off + i * 9, none⟩ = some (.bool L[i].start) ∧ w.cell? ⟨b, off + i * 9 + 1, none⟩ = some (.bool L[i].stop) ∧ w.cell? ⟨b, off + i * 9 + 2, none⟩ = some (.bool L[i].broken)
    ∧ w.cell? ⟨b, off + i * 9 + 3, none⟩ = some (.bool L[i].clear) ∧ w.cell? ⟨b, off + i * 9 + 4, none⟩ = some (.bool L[i].tried) ∧ w.cell? ⟨b, off + i * 9 + 5, none⟩ = some (.bool L[i].found)
    ∧ w.cell? ⟨b, off + i * 9 + 6, none⟩ = some (.bool L[i].missed) ∧ w.cell? ⟨b, off + i * 9 + 7, none⟩ = some (.bool L[i].lost) ∧ w.cell? ⟨b, off + i * 9 + 8, none⟩ = some (.bool L[i].over)

/-- one step: the mode, and how often each came -/
def stp (s : Int × List Int) (i : In) : Int × List Int :=
  ((nxt s.1 i).1, if (nxt s.1 i).1 = s.1 then s.2 else s.2.set (nxt s.1 i).1.toNat (s.2.getD (nxt s.1 i).1.toNat 0 + 1))
def runTo (m : Int) (l : List In) : Int × List Int := l.foldl stp (m, [0, 0, 0, 0, 0])
theorem runTo_snoc (m : Int) (l : List In) (i : In) : runTo m (l ++ [i]) = stp (runTo m l) i := by simp [runTo, List.foldl_append]
theorem runTo_take (m : Int) (L : List In) (k : Nat) (h : k < L.length) : runTo m (L.take (k + 1)) = stp (runTo m (L.take k)) L[k] := by
  rw [List.take_succ_eq_append_getElem h, runTo_snoc]
theorem nxt_bd (m : Int) (i : In) : 0 ≤ (nxt m i).1 ∧ (nxt m i).1 ≤ 4 := by
  unfold nxt fol
  by_cases hr : 0 ≤ m ∧ m ≤ 4
  · repeat' split
    all_goals (first | (constructor <;> decide) | (simp; omega))
  · rw [if_pos (Or.inl (right_f (by omega)))]
    decide
theorem getD_bd {l : List Int} {k : Int} (h : ∀ x ∈ l, 0 ≤ x ∧ x ≤ k) (hk : 0 ≤ k) (j : Nat) : 0 ≤ l.getD j 0 ∧ l.getD j 0 ≤ k := by
  rw [List.getD_eq_getElem?_getD]
  rcases hj : l[j]? with _ | x
  · simp [hk]
  · simpa using h x (List.mem_of_getElem? hj)
theorem stp_bd {s : Int × List Int} {k : Int} (h : ∀ x ∈ s.2, 0 ≤ x ∧ x ≤ k) (hk : 0 ≤ k) (i : In) : ∀ x ∈ (stp s i).2, 0 ≤ x ∧ x ≤ k + 1 := by
  intro x hx
  unfold stp at hx
  dsimp only at hx
  split at hx
  · have := h x hx; omega
  · rcases List.mem_or_eq_of_mem_set hx with hx | rfl
    · have := h x hx; omega
    · have := getD_bd h hk (nxt s.1 i).1.toNat; omega
theorem stp_len {s : Int × List Int} (i : In) : (stp s i).2.length = s.2.length := by unfold stp; dsimp only; split <;> simp

theorem list5 {l : List Int} (h : l.length = 5) : ∃ a b c d e, l = [a, b, c, d, e] := by
  match l, h with
  | [a, b, c, d, e], _ => exact ⟨a, b, c, d, e, rfl⟩

set_option maxHeartbeats 1000000 in
theorem run_any (m : Int) (A : Option Addr) (L : List In) (cap : Nat) (w : World) (hL : InRow w A L) (hl : L.length ≤ 1000) :
    Calls Try.prog 44 #[.int .i64 m, .slice A L.length cap] w fun e' w' => e' = .returned (.tuple #[.int .i64 (runTo m L).1, .agg ((runTo m L).2.map (.int .i64 ·)).toArray]) ∧ Below w.heap.size w w' := by
  go_enter Try.func44, Try.ntmps44
  go_wp2
  go_loopw [0, 13] (fun m' i' wr => ∃ k : Nat, k ≤ L.length ∧ i' = .int .i64 k ∧ m' = .int .i64 (runTo m (L.take k)).1 ∧ (runTo m (L.take k)).2.length = 5 ∧ (∀ x ∈ (runTo m (L.take k)).2, 0 ≤ x ∧ x ≤ (k : Int)) ∧ Blk wr w.heap.size 74 [.int .i64 0, .int .i64 0, .int .i64 0, .int .i64 0, .int .i64 0] ∧ Blk wr (w.heap.size + 1) 74 ((runTo m (L.take k)).2.map (.int .i64 ·)) ∧ Below w.heap.size w wr) (fun _ i' _ => L.length - (intOf i').toNat)
  case atStart =>
    refine ⟨0, by omega, rfl, rfl, rfl, by simp [runTo], ?_, ?_, ?_⟩
    · exact (Blk.mk w 74 [.int .i64 0, .int .i64 0, .int .i64 0, .int .i64 0, .int .i64 0]).alloc _
    · have := Blk.mk (w.alloc (.cells #[.int .i64 0, .int .i64 0, .int .i64 0, .int .i64 0, .int .i64 0] 74)) 74 [.int .i64 0, .int .i64 0, .int .i64 0, .int .i64 0, .int .i64 0]
      simpa [runTo] using this
    · exact (bl w _).alloc (by simp) _
  case round =>
    obtain ⟨k, hk, rfl, rfl, h5, hbd, hb0, hb1, hb⟩ := hrel
    have hts := runTo_take m L k
    generalize hr : runTo m (L.take k) = r at *
    by_cases hlt : k < L.length
    · rcases hL with rfl | ⟨b, off, rfl, hbl, hcell⟩
      · simp at hlt
      obtain ⟨c0, c1, c2, c3, c4, c5, c6, c7, c8⟩ := hcell k hlt
      rw [← (bcell hb).1 _ _ hbl] at c0 c1 c2 c3 c4 c5 c6 c7 c8
      have hsb := stp_bd hbd (by omega) L[k]
      have hsl := stp_len (s := r) L[k]
      have hnb := nxt_bd r.1 L[k]
      rw [← hts hlt] at hsb hsl
      have Hts := Lib.hid (hts hlt); clear hts
      have Hr := Lib.hid hr; clear hr
      have H5 := Lib.hid h5; clear h5
      have Hsl := Lib.hid hsl; clear hsl
      have Hsb := Lib.hid hsb; clear hsb
      have Hbd := Lib.hid hbd; clear hbd
      clear hcell
      go_wp2_with fail
      refine (next_any _ _ _ _ _ _ _ _ _ _ _).mono ?_
      rintro e w1 ⟨rfl, hb2⟩
      have HN : ∃ n, nxt r.1 ⟨L[k].start, L[k].stop, L[k].broken, L[k].clear, L[k].tried, L[k].found, L[k].missed, L[k].lost, L[k].over⟩ = n := ⟨_, rfl⟩
      obtain ⟨n, hn⟩ := HN
      rw [hn]
      have hn' : nxt r.1 L[k] = n := hn
      rw [hn'] at hnb
      have Hn := Lib.hid hn'; clear hn' hn
      obtain ⟨n1, n2⟩ := n
      dsimp only at hnb
      obtain ⟨hn0, hn4⟩ := hnb
      have hz : wr.heap.size + 1 ≤ w1.heap.size := by simpa using hb2.size
      have hlt1 : w.heap.size + 1 < wr.heap.size := hb1.lt
      have hb0' : Blk w1 w.heap.size 74 _ := (hb0.alloc _).below hb2 (by simp; omega)
      have hb1' : Blk w1 (w.heap.size + 1) 74 _ := (hb1.alloc _).below hb2 (by simp; omega)
      have hb' : Below w.heap.size w w1 := (hb.alloc (by omega) _).trans (hb2.mono (by simp; omega))
      clear hb0 hb1 hb hb2
      obtain ⟨n, rfl⟩ := Int.eq_ofNat_of_zero_le hn0
      have hv := getD_bd Hbd.out (by omega) n
      have hcn : w1.cell? ⟨w.heap.size + 1, n, none⟩ = some (.int .i64 (r.2.getD n 0)) := by
        rw [hb1'.cell, List.getElem?_map, List.getD_eq_getElem?_getD, List.getElem?_eq_getElem (by have := H5.out; omega)]
        rfl
      have hfr : w1.frozen? ⟨w.heap.size + 1, n, none⟩ = false := hb1'.free n
      by_cases hne : (n : Int) = r.1
      · have HE := Lib.hid hne
        have hne1 : ((n : Int) != r.1) = false := by simp [hne]
        clear hne
        go_wp2_with fail
        go_roundw
        case rel =>
          refine ⟨k + 1, by omega, by go_num, ?_, by rw [Hsl.out]; exact H5.out, ?_, hb0', ?_, hb'⟩
          · rw [Hts.out]; simp only [stp]; rw [Hn.out]
          · intro x hx; have := Hsb.out x hx; omega
          · rw [Hts.out]; simp only [stp]; rw [Hn.out]; rw [if_pos HE.out]; exact hb1'
        case measure => simp [intOf]; omega
      · have hne1 : ((n : Int) != r.1) = true := by simp [hne]
        have HE := Lib.hid hne
        clear hne
        generalize hvv : r.2.getD n 0 = v at *
        have Hvv := Lib.hid hvv; clear hvv
        go_wp2_with fail
        go_roundw
        case rel =>
          refine ⟨k + 1, by omega, by go_num, ?_, by rw [Hsl.out]; exact H5.out, ?_, hb0'.far (by simp) _, ?_, hb'.setCell (by simp) _⟩
          · rw [Hts.out]; simp only [stp]; rw [Hn.out]
          · intro x hx; have := Hsb.out x hx; omega
          · rw [Hts.out]; simp only [stp]; rw [Hn.out]; rw [if_neg HE.out]
            have := hb1'.put n (.int .i64 (v + 1))
            rw [Int.toNat_natCast, Hvv.out, List.map_set]
            exact this
        case measure => simp [intOf]; omega
    · obtain rfl : k = L.length := by omega
      rw [List.take_length] at hr
      obtain ⟨r1, r2⟩ := r
      dsimp only at h5 hb1
      obtain ⟨x0, x1, x2, x3, x4, rfl⟩ := list5 h5
      have Hr := Lib.hid hr; clear hr hts hbd h5
      have hcc := hb1.cell
      have c0 := hcc 0
      have c1 := hcc 1
      have c2 := hcc 2
      have c3 := hcc 3
      have c4 := hcc 4
      have hdd := hb0.cell
      have d0 := hdd 0
      have d1 := hdd 1
      have d2 := hdd 2
      have d3 := hdd 3
      have d4 := hdd 4
      clear hcc hdd
      simp at c0 c1 c2 c3 c4 d0 d1 d2 d3 d4
      have f0 := hb0.free
      go_wp2
      have hbF : Blk (((((wr.setCell ⟨w.heap.size, 0, none⟩ (.int .i64 x0)).setCell ⟨w.heap.size, 1, none⟩ (.int .i64 x1)).setCell ⟨w.heap.size, 2, none⟩ (.int .i64 x2)).setCell ⟨w.heap.size, 3, none⟩ (.int .i64 x3)).setCell ⟨w.heap.size, 4, none⟩ (.int .i64 x4)).drew w.heap.size 74 [.int .i64 x0, .int .i64 x1, .int .i64 x2, .int .i64 x3, .int .i64 x4] :=
        (((((hb0.put 0 (.int .i64 x0)).put 1 (.int .i64 x1)).put 2 (.int .i64 x2)).put 3 (.int .i64 x3)).put 4 (.int .i64 x4)).drew
      have hbl : Below w.heap.size w (((((wr.setCell ⟨w.heap.size, 0, none⟩ (.int .i64 x0)).setCell ⟨w.heap.size, 1, none⟩ (.int .i64 x1)).setCell ⟨w.heap.size, 2, none⟩ (.int .i64 x2)).setCell ⟨w.heap.size, 3, none⟩ (.int .i64 x3)).setCell ⟨w.heap.size, 4, none⟩ (.int .i64 x4)).drew :=
        (((((hb.setCell (by simp) _).setCell (by simp) _).setCell (by simp) _).setCell (by simp) _).setCell (by simp) _).drew
      go_region
      go_wp2
      refine bodyPost_ret (v := .tuple #[.int .i64 r1, .agg #[.int .i64 x0, .int .i64 x1, .int .i64 x2, .int .i64 x3, .int .i64 x4]]) ?_ rfl ⟨by rw [Hr.out]; rfl, hbl⟩
      have e0 := hbF.cell 0
      have e1 := hbF.cell 1
      have e2 := hbF.cell 2
      have e3 := hbF.cell 3
      have e4 := hbF.cell 4
      clear hb hbl hbF hb0 hb1
      generalize (((((wr.setCell ⟨w.heap.size, 0, none⟩ (.int .i64 x0)).setCell ⟨w.heap.size, 1, none⟩ (.int .i64 x1)).setCell ⟨w.heap.size, 2, none⟩ (.int .i64 x2)).setCell ⟨w.heap.size, 3, none⟩ (.int .i64 x3)).setCell ⟨w.heap.size, 4, none⟩ (.int .i64 x4)).drew = W at *
      simp at e0 e1 e2 e3 e4
      simp [results, Try.results44, go_sem, *]
end M25
end Go.Proofs.Ytpnafccedgjaeaa
