/-
  The walk of Recorder.Last.
-/
import Derived.Test.YtijijfggppnbpaaRecI
import Derived.Maps.OwnIn
namespace Go.Proofs.Ytijijfggppnbpaa
open Go.RowKit Go.Shelf
set_option linter.unusedVariables false
namespace Rec
open Frm Txt
attribute [local go_sem] Oper.semAt_some
theorem app_frame_in {F : Fence} {nF : Nat} {wr : World} {base : Nat} {v : Value} {fs : List Fr} {f : Fr} {ops : Array Oper} {rest : List Oper} {o : Oper} {a : Act} {Q : Exit → Act → World → Prop} (hown : wr.ownsRow base 25 6 v fs.length (frs fs)) (hgd : o.guard = none) (s x : Operand)
    (ho : o.op = .call { callee := .builtin .append, args := #[s, x], argTypes := #[38, 38] }) (hs : a.eval s = v) (g : Nat) (hx : a.eval x = .slice (some ⟨g, 0, none⟩) 1 1) (hb : Blk wr g 25 f.cells) (hlen : fs.length ≤ 100000) (hbase : base ≤ wr.heap.size)
    (h : ∀ v' w', w'.ownsRow base 25 6 v' (fs ++ [f]).length (frs (fs ++ [f])) → wr.grownBy w' v.ownBlock → wpListIn F nF Try.prog ops Q rest (a.put o.dst v') w') : wpListIn F nF Try.prog ops Q (o :: rest) a wr := by
  obtain ⟨i0, hi, hz0, hz1, hz2⟩ := info_parts infoFrame
  refine wpListIn_append_own_at _ hgd s x 38 ho base 25 i0 _ 6 32 Try.underlying38 hi hz0 hz1 hz2 rfl (by decide) v fs.length (frs fs) hs hown ⟨g, 0, none⟩ 1 1 f.cells hx rfl (fun j u hu => hb.news _ rfl j u hu) (fr_cells_one f) (by unfold maxLen; omega) (by omega) hbase fun v' w' h1 h2 h3 _ => h v' w' ?_ h2
  rw [List.length_append]
  unfold frs at h1 ⊢
  rw [List.flatMap_append]
  simpa using h1
theorem RX.keep {Bs gr gb cap n : Nat} {B : List UInt8} {W W' : World} (S : RX Bs gr gb cap B n W) (hk : ∀ b, b = Bs ∨ b = gr ∨ b = gb → W'.heap[b]? = W.heap[b]?) : RX Bs gr gb cap B n W' := by
  refine ⟨?_, (hk gr (.inr (.inl rfl))).trans S.rb.box, ⟨S.rb.own.1, ?_⟩, S.rb.ne⟩
  · rw [← S.box]
    unfold World.cell?
    rw [hk Bs (.inl rfl)]
  · rcases S.rb.own.2 with h2 | ⟨g, c, cur, e1, e2, e3, r⟩
    · exact .inl h2
    · have e1' := e1
      injection e1' with e4 _ _
      injection e4 with e4
      injection e4 with e4 _ _
      exact .inr ⟨g, c, cur, e1, e2, (hk g (.inr (.inr e4.symm))).trans e3, r⟩
/-- the last so many -/
def lastL {α : Type} (l : List α) (n : Int) : List α := l.drop (l.length - n.toNat)
def GotT (w : World) (fs : List Fr) (e : Ending) (w' : World) : Prop := (∃ A c, e = .returned (.slice A fs.length c) ∧ RdL w' w.heap.size w'.heap.size A (frs fs) ∧ fs.length ≤ c) ∧ Below w.heap.size w w'
/-- the list that grows, in the world of the range -/
structure LI (W0 : World) (b5 : Nat) (pre : List (Nat × Fr)) (W : World) : Prop where
  keep : Keeps2 W0 W b5 none
  row : ∃ v, Blk W b5 38 [v] ∧ W.ownsRow W0.heap.size 25 6 v (pre.map Prod.snd).length (frs (pre.map Prod.snd))
theorem rd_putObj {W : World} {l lo : Nat} {o o' : Obj} (hl : W.heap[l]? = some o) (ho : o.isCells = false) {A : Option Addr} {xs : List Value} (h : RdL W lo W.heap.size A xs) : RdL (W.putObj l o') lo (W.putObj l o').heap.size A xs := by
  have hsz : (W.putObj l o').heap.size = W.heap.size := by simp [World.putObj]
  rw [hsz]
  rcases h with h | ⟨b, off, e, h1, h2, h3, hc⟩
  · exact .inl h
  · refine .inr ⟨b, off, e, h1, h2, by rw [hsz]; exact h3, fun j u hu => ?_⟩
    have hc' := hc j u hu
    rw [← hc']
    have hb : b ≠ l := fun e => by
      subst e
      unfold World.cell? at hc'
      simp only [hl] at hc'
      cases o <;> simp_all [Obj.isCells]
    unfold World.cell?
    rw [World.putObj_heap_other hb]
theorem flatMap_drop {α : Type} (f : α → List Value) (size : Nat) (hf : ∀ x, (f x).length = size) : ∀ (L : List α) (k : Nat), (L.flatMap f).drop (k * size) = (L.drop k).flatMap f
  | [], k => by simp
  | x :: t, 0 => by simp
  | x :: t, k + 1 => by
    rw [List.flatMap_cons, List.drop_append, List.drop_of_length_le (by rw [hf, Nat.add_mul]; omega), List.nil_append, hf, show (k + 1) * size - size = k * size by rw [Nat.add_mul]; omega, flatMap_drop f size hf t k]
    rfl
/-- the list cut at its front -/
theorem cut_got {w W : World} {A : Option Addr} {c kk : Nat} {fs : List Fr} (h : RdL W w.heap.size W.heap.size A (frs fs)) (hk : kk ≤ fs.length) (hc : fs.length ≤ c) (hA : A = none → fs.length = 0 ∧ c = 0) :
    ∃ A' c', Value.slice (if c = kk then A else A.map (fun x => x.add (kk * 6))) (fs.length - kk) (c - kk) = .slice A' (fs.drop kk).length c' ∧ RdL W w.heap.size W.heap.size A' (frs (fs.drop kk)) ∧ (fs.drop kk).length ≤ c' := by
  rw [List.length_drop]
  refine ⟨_, _, rfl, ?_, by omega⟩
  by_cases e : c = kk
  · rw [if_pos e, List.drop_eq_nil_of_le (by omega)]
    exact .inl rfl
  · rw [if_neg e]
    cases A with
    | none => have := hA rfl; omega
    | some a =>
      rcases h with h | ⟨b, off, e', h1, h2, h3, hc'⟩
      · have : fs = [] := by
          have := congrArg List.length h
          rw [frs_len] at this
          exact List.eq_nil_of_length_eq_zero (by rw [List.length_nil] at this; omega)
        subst this
        exact .inl (by simp [frs])
      · injection e' with e'
        subst e'
        have := RdL.drop (.inr ⟨b, off, rfl, h1, h2, h3, hc'⟩ : RdL W w.heap.size W.heap.size (some ⟨b, off, none⟩) (frs fs)) (kk * 6)
        rw [show (frs fs).drop (kk * 6) = frs (fs.drop kk) from flatMap_drop Fr.cells 6 (fun _ => rfl) fs kk] at this
        by_cases h0 : kk = 0
        · subst h0
          simpa [Addr.add] using this
        · have h1 : kk * 6 ≠ 0 := by omega
          simp only [Option.map_some, Addr.add, h1, if_false]
          exact this
set_option maxRecDepth 100000 in
set_option maxHeartbeats 2000000 in
theorem last_any {w : World} {gr gb cap k nx : Nat} {B : List UInt8} (S : RB w gr gb cap B nx) (hB : B.length = 40 * k) (hk1 : 1 ≤ k) (hk2 : k ≤ 1024) (hn1 : 1 ≤ nx) (hn2 : nx ≤ 9223372036854775808) (m : Int) (hm1 : -9223372036854775808 ≤ m) (hm2 : m ≤ 9223372036854775807) :
    Calls Try.prog 50 #[.pointer (some ⟨gr, 0, none⟩), .int .i64 m] w (GotT w (lastL ((allE B k nx).map Prod.snd) m)) := by
  have hgr := S.box.lt
  have hgb := (own_lt S.own (b := gb) rfl).2
  have HS := Lib.hid S
  have hall := allR_any (some ⟨gr, 0, none⟩) (w.alloc (.cells #[.slice none 0 0] 38))
  clear S
  refine callsIn_wide.1 (callsIn_of_wp_marks (n := 9) Try.func50 rfl trivial ?_ rfl)
  simp only [Try.ntmps50, List.size_toArray, List.length_cons, List.length_nil, Nat.reduceAdd, Nat.reduceSub, Array.replicate_succ, Array.replicate_zero, List.push_toArray, List.append_toArray, List.nil_append, List.cons_append]
  refine wpIn_wide.2 ?_
  go_wp2_with fail
  refine hall.mono ?_
  rintro e w1 ⟨rfl, rfl⟩
  go_wp2_with fail
  generalize hW0 : (w.alloc (.cells #[.slice none 0 0] 38)).alloc (.cells #[.pointer (some ⟨gr, 0, none⟩)] 65) = W0 at *
  have hs0 : W0.heap.size = w.heap.size + 1 + 1 := by rw [← hW0]; simp
  have hb0 : Below w.heap.size w W0 := by rw [← hW0]; exact bt (bl _ _) (bl _ _)
  have h5 : Blk W0 w.heap.size 38 [.slice none 0 0] := by rw [← hW0]; exact (Blk.mk w 38 [.slice none 0 0]).alloc _
  have hbx : RX (w.heap.size + 1) gr gb cap B nx W0 := ⟨by
    rw [← hW0]
    simp, HS.out.next hb0⟩
  clear hall hW0
  refine range_entries (s := 6) (Bs := w.heap.size + 1) rfl hB hk1 hk2 hn1 hn2 hbx (LI W0 w.heap.size) (fun _ _ _ => False)
    (fun s W W' row h hg hr => ⟨h.1.grown hg (.inr fun b hb => (hr b hb).1), ?_⟩) (fun _ _ _ _ _ hs _ _ => hs)
    ⟨Keeps2.refl _ _ _, _, h5, World.ownsRow_nil _ _ _ _⟩ (fun _ _ h => h.1.size) ?assign ?body ?done ?stop
  · obtain ⟨v, h1, h2⟩ := h.row
    refine ⟨v, h1.grown hg (fun e => by have := (hr _ e.symm).1; omega), h2.1, ?_⟩
    rcases h2.2 with h3 | ⟨g, c, cur, e1, e2, e3, r⟩
    · exact .inl h3
    · refine .inr ⟨g, c, cur, e1, e2, (hg.block g (Array.getElem?_eq_some_iff.1 e3).1 (fun e => ?_)).trans e3, r⟩
      obtain ⟨_, o, ho, hc⟩ := hr g e.symm
      rw [e3] at ho
      injection ho with ho
      subst ho
      cases hc
  case assign =>
    rintro l ⟨i, k, q, t, a, b, c⟩ W K hK
    unfold TE entC Fr.cells at hK
    unfold entC Fr.cells
    simp only [List.setIfInBounds_toArray, List.set_cons_zero, List.set_cons_succ] at hK ⊢
    gi_wp2
    exact hK
  case body =>
    rintro l pre ⟨i, x1, x2, x3, x4, x5, x6⟩ B' W hl' hI hB' hBx hlen
    obtain ⟨hkp, v, hbv, hov⟩ := hI
    have c0 : W.cell? ⟨w.heap.size, 0, none⟩ = some v := hbv.cell 0
    have y0 : W.cell? ⟨B', 0, none⟩ = some (.int .u64 (i : Int)) := hBx.cell 0
    have y1 : W.cell? ⟨B', 1, none⟩ = some (.int .i64 x1) := hBx.cell 1
    have y2 : W.cell? ⟨B', 2, none⟩ = some (.int .u16 (x2 : Int)) := hBx.cell 2
    have y3 : W.cell? ⟨B', 3, none⟩ = some (.int .u32 (x3 : Int)) := hBx.cell 3
    have y4 : W.cell? ⟨B', 4, none⟩ = some (.int .i32 x4) := hBx.cell 4
    have y5 : W.cell? ⟨B', 5, none⟩ = some (.int .i32 x5) := hBx.cell 5
    have y6 : W.cell? ⟨B', 6, none⟩ = some (.int .i32 x6) := hBx.cell 6
    have HO := Lib.hid (own_next hov (bl W (.cells (Fr.cells ⟨x1, x2, x3, x4, x5, x6⟩).toArray 25)))
    have HN := Lib.hid (Blk.mk W 25 (Fr.cells ⟨x1, x2, x3, x4, x5, x6⟩))
    have HKP := Lib.hid hkp
    have HBV := Lib.hid hbv
    clear hkp hbv hov hBx
    unfold TE entC Fr.cells
    simp only [List.setIfInBounds_toArray, List.set_cons_zero, List.set_cons_succ]
    have hsz := HKP.out.size
    have HRK : Hid (∀ W1 W2 : World, W.heap.size ≤ W1.heap.size → (∀ b, b < W.heap.size → W1.heap[b]? = W.heap[b]?) → W1.grownBy W2 v.ownBlock → ∀ u, RX (w.heap.size + 1) gr gb cap B nx W → RX (w.heap.size + 1) gr gb cap B nx (W2.setCell ⟨w.heap.size, 0, none⟩ u)) := Lib.hid (fun W1 W2 hz h1 h2 u hx => hx.keep (fun b hb => by
      have hbw : b < W0.heap.size := by rcases hb with rfl | rfl | rfl <;> omega
      have hb5 : b ≠ w.heap.size := by rcases hb with rfl | rfl | rfl <;> omega
      refine (Below.heap_setCell W2 ⟨w.heap.size, 0, none⟩ u b hb5).trans ((h2.block b (by omega) (fun e => ?_)).trans (h1 b (by omega)))
      have := own_ge HO.out b e.symm
      omega))
    clear hbx
    gi_wp2_with (gi_at_builtin; refine app_frame_in HO.out rfl (.tmp 10) (.tmp 13) rfl rfl W.heap.size rfl HN.out (by rw [List.length_map]; omega) (by simp; omega) ?_; intro v2 w2 hown2 hgrow2; obtain ⟨A2, cp2, rfl, _, _, _, _⟩ := own_rd hown2; have HO2 := Lib.hid hown2; have HG2 := Lib.hid hgrow2; have d0 := ((HBV.out.alloc (.cells (Fr.cells ⟨x1, x2, x3, x4, x5, x6⟩).toArray 25)).grown hgrow2 (fun e => by have := own_ge HO.out _ e.symm; omega)).free 0; have c1 := ((HBV.out.alloc (.cells (Fr.cells ⟨x1, x2, x3, x4, x5, x6⟩).toArray 25)).grown hgrow2 (fun e => by have := own_ge HO.out _ e.symm; omega)).cell 0; clear hown2 hgrow2)
    have hz2 := HG2.out.size
    refine ⟨?_, HRK.out _ _ (by simp) (fun b hb => Below.heap_alloc _ _ _ hb) HG2.out _, ?_, ?_⟩
    · refine ⟨by simp at hz2 ⊢; omega, fun b o hb ho hc => ?_⟩
      have hbw : b < W.heap.size := (Array.getElem?_eq_some_iff.1 ho).1
      have hb5 : b ≠ w.heap.size := by omega
      refine (Below.heap_setCell _ ⟨w.heap.size, 0, none⟩ _ b hb5).trans ((HG2.out.block b (by simp; omega) (fun e => ?_)).trans ((Below.heap_alloc _ _ _ hbw).trans ho))
      rcases HO.out.2 with ⟨hv, _⟩ | ⟨g, c, cur, e1, e2, e3, r⟩
      · rw [hv] at e; cases e
      · rw [e1] at e
        injection e with e
        subst e
        rw [Below.heap_alloc _ _ _ hbw, ho] at e3
        injection e3 with e3
        subst e3
        cases hc
    · exact (Keeps2.set ((HKP.out.next (bl W _)).grown HG2.out (.inr fun b hb => own_ge HO.out b hb)) 0 _)
    · refine ⟨_, ((HBV.out.alloc (.cells (Fr.cells ⟨x1, x2, x3, x4, x5, x6⟩).toArray 25)).grown HG2.out (fun e => by have := own_ge HO.out _ e.symm; omega)).put 0 _, ?_⟩
      have h9 := HO2.out
      have hl9 : (pre.map Prod.snd ++ [(⟨x1, x2, x3, x4, x5, x6⟩ : Fr)]).length = pre.length + 1 := by simp
      rw [hl9] at h9
      have h10 := ownsRow_setCell_other h9 (a := ⟨w.heap.size, 0, none⟩) (fun e => by have h8 : W0.heap.size ≤ w.heap.size := own_ge h9 _ e; omega) (.slice A2 (pre.length + 1) cp2)
      have hl11 : ((pre ++ [(i, (⟨x1, x2, x3, x4, x5, x6⟩ : Fr))]).map Prod.snd).length = pre.length + 1 := by simp
      rw [hl11, List.map_append]
      exact h10
  case done =>
    rintro D W hD ⟨hkp, v, hbv, hov⟩ hKD
    have hal := allFrom_len B k (firstN k nx) (nx - firstN k nx)
    have hfn := firstN_le hk1 hn1
    obtain ⟨fs, hfs⟩ : ∃ fs, fs = (allE B k nx).map Prod.snd := ⟨_, rfl⟩
    have hl : fs.length ≤ 1024 := by rw [hfs, List.length_map]; unfold allE; omega
    rw [← hfs] at hov ⊢
    obtain ⟨L, hL⟩ : ∃ L, L = fs.length := ⟨_, rfl⟩
    obtain ⟨A, c, rfl, hrd, hLc, hcm, hA⟩ := own_rd hov
    rw [← hL] at hl hbv hLc hA
    have HL := Lib.hid hL
    have HRD := Lib.hid hrd
    have HKP := Lib.hid hkp
    have HKD := Lib.hid hKD
    have c0 : W.cell? ⟨w.heap.size, 0, none⟩ = some (.slice A L c) := hbv.cell 0
    have HB : Hid (Below w.heap.size w W) := Lib.hid ⟨hkp.os.trans hb0.os, hkp.tape.trans hb0.tape, hkp.output.trans hb0.output, Nat.le_trans hb0.size hkp.size, fun b hb => (hkp.block b (by omega) (by omega) (by simp)).trans (hb0.block b hb)⟩
    have hws := hkp.size
    have HEND : Hid (∀ A' L' c', (∃ A1 c1, Value.slice A' L' c' = .slice A1 (lastL fs m).length c1 ∧ RdL W w.heap.size W.heap.size A1 (frs (lastL fs m)) ∧ (lastL fs m).length ≤ c1) → ∀ w', w' = W.putObj D (.deferred none) → GotT w (lastL fs m) (.returned (.slice A' L' c')) w') := Lib.hid (fun A' L' c' ⟨A1, c1, e, hr, hc⟩ w' hw' => by
      subst hw'
      exact ⟨⟨A1, c1, by rw [e], rd_putObj HKD.out rfl hr, hc⟩, HB.out.trans (belowK_b (w := w) (Nat.le_refl _) _ D _ _ (by omega) HKD.out rfl rfl)⟩)
    have HCUT : Hid (∀ kk, kk ≤ L → lastL fs m = fs.drop kk → ∃ A' c', Value.slice (if c = kk then A else A.map (fun x => x.add (kk * 6))) (L - kk) (c - kk) = .slice A' (lastL fs m).length c' ∧ RdL W w.heap.size W.heap.size A' (frs (lastL fs m)) ∧ (lastL fs m).length ≤ c') := Lib.hid (fun kk hk e => by
      have := cut_got (w := w) (kk := kk) (hrd.wide (by omega) (Nat.le_refl _)) (by rw [← hL]; exact hk) (by rw [← hL]; exact hLc) (by rw [← hL]; exact hA)
      rw [← hL] at this
      rw [e]
      exact this)
    have HLL : Hid (∀ kk, kk = L - m.toNat → lastL fs m = fs.drop kk) := Lib.hid (fun kk e => by unfold lastL; rw [← hL, e])
    have HFS := Lib.hid hfs
    clear hal hfn hfs hov hrd hbv hkp hKD hL hA h5 hbx
    have hLi : ¬ (L : Int) < 0 := by omega
    by_cases hm0 : m < 0
    · have wl : IntKind.i64.wrap (L : Int) = (L : Int) := IntWalk.i64_in _ (by omega)
      have hge := HCUT.out L (Nat.le_refl _) (HLL.out L (by omega))
      by_cases hck : c = L
      · rw [if_pos hck, hck, Nat.sub_self] at hge
        have HGE := Lib.hid hge
        clear hge
        go_wp2_with fail
        refine ⟨by simp, .inl ⟨_, _, rfl, run_takeDeferred HKD.out, ?_⟩⟩
        refine ⟨_, results_tmp rfl _ _ _, ?_⟩
        rw [← HFS.out]
        exact HEND.out _ _ _ HGE.out _ rfl
      · rw [if_neg hck, Nat.sub_self] at hge
        have HGE := Lib.hid hge
        clear hge
        go_wp2_with fail
        refine ⟨by simp, .inl ⟨_, _, rfl, run_takeDeferred HKD.out, ?_⟩⟩
        refine ⟨_, results_tmp rfl _ _ _, ?_⟩
        rw [← HFS.out]
        exact HEND.out _ _ _ HGE.out _ rfl
    · by_cases hmL : m ≤ (L : Int)
      · obtain ⟨kk, hkk⟩ : ∃ kk, kk = L - m.toNat := ⟨_, rfl⟩
        have wl : IntKind.i64.wrap ((L : Int) - m) = (kk : Int) := by rw [IntWalk.i64_in _ (by omega)]; omega
        have hge := HCUT.out kk (by omega) (HLL.out kk hkk)
        have hk0 : ¬ (kk : Int) < 0 := by omega
        have hkL : kk ≤ L := by omega
        have hkLi : (kk : Int) ≤ (L : Int) := by omega
        have hk1 : (0 : Int) ≤ (kk : Int) := by omega
        clear hkk
        by_cases hck : c = kk
        · rw [if_pos hck, hck, Nat.sub_self] at hge
          have HGE := Lib.hid hge
          clear hge
          go_wp2_with fail
          refine ⟨by simp, .inl ⟨_, _, rfl, run_takeDeferred HKD.out, ?_⟩⟩
          refine ⟨_, results_tmp rfl _ _ _, ?_⟩
          rw [← HFS.out]
          exact HEND.out _ _ _ HGE.out _ rfl
        · rw [if_neg hck] at hge
          have HGE := Lib.hid hge
          clear hge
          go_wp2_with fail
          refine ⟨by simp, .inl ⟨_, _, rfl, run_takeDeferred HKD.out, ?_⟩⟩
          refine ⟨_, results_tmp rfl _ _ _, ?_⟩
          rw [← HFS.out]
          exact HEND.out _ _ _ HGE.out _ rfl
      · obtain ⟨dd, hdd⟩ : ∃ dd, dd = (L : Int) - m := ⟨_, rfl⟩
        have wl : IntKind.i64.wrap ((L : Int) - m) = dd := by rw [IntWalk.i64_in _ (by omega)]; omega
        have hge := HCUT.out 0 (by omega) (HLL.out 0 (by omega))
        have hd0 : dd < 0 := by omega
        clear hdd
        by_cases hck : c = 0
        · rw [if_pos hck, hck, Nat.sub_zero, Nat.sub_zero] at hge
          have HGE := Lib.hid hge
          clear hge
          go_wp2_with fail
          refine ⟨by simp, .inl ⟨_, _, rfl, run_takeDeferred HKD.out, ?_⟩⟩
          refine ⟨_, results_tmp rfl _ _ _, ?_⟩
          rw [← HFS.out]
          exact HEND.out _ _ _ HGE.out _ rfl
        · rw [if_neg hck, show A.map (fun x => x.add (0 * 6)) = A by cases A <;> simp [Addr.add], Nat.sub_zero, Nat.sub_zero] at hge
          have HGE := Lib.hid hge
          clear hge
          go_wp2_with fail
          refine ⟨by simp, .inl ⟨_, _, rfl, run_takeDeferred HKD.out, ?_⟩⟩
          refine ⟨_, results_tmp rfl _ _ _, ?_⟩
          rw [← HFS.out]
          exact HEND.out _ _ _ HGE.out _ rfl
  case stop => exact fun _ _ _ _ _ _ h => h.elim
end Rec
end Go.Proofs.Ytijijfggppnbpaa
