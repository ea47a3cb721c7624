/-
  The walk of frame.Feed's Push.
-/
import Derived.Test.YtijijfggppnbpaaFrmJ
namespace Go.Proofs.Ytijijfggppnbpaa
open Go.RowKit
set_option linter.unusedVariables false

/-- all blocks are as they were, but g, and one row's -/
structure Keeps2 (w w' : World) (g : Nat) (r : Option Nat) : Prop where
  os : w'.os = w.os
  tape : w'.tape = w.tape
  output : w'.output = w.output
  size : w.heap.size ≤ w'.heap.size
  block : ∀ k, k < w.heap.size → k ≠ g → some k ≠ r → w'.heap[k]? = w.heap[k]?
theorem Keeps2.refl (w : World) (g : Nat) (r : Option Nat) : Keeps2 w w g r := ⟨rfl, rfl, rfl, Nat.le_refl _, fun _ _ _ _ => rfl⟩
theorem Keeps2.next {w wr w' : World} {g : Nat} {r : Option Nat} (S : Keeps2 w wr g r) (hb : Below wr.heap.size wr w') : Keeps2 w w' g r :=
  ⟨hb.os.trans S.os, hb.tape.trans S.tape, hb.output.trans S.output, Nat.le_trans S.size hb.size, fun k h1 h2 h3 => (hb.block k (Nat.lt_of_lt_of_le h1 S.size)).trans (S.block k h1 h2 h3)⟩
theorem Keeps2.grown {w wr w' : World} {g : Nat} {r row : Option Nat} (S : Keeps2 w wr g r) (hg : wr.grownBy w' row) (hr : row = r ∨ ∀ b, row = some b → w.heap.size ≤ b) : Keeps2 w w' g r :=
  ⟨hg.os.trans S.os, hg.tape.trans S.tape, hg.output.trans S.output, Nat.le_trans S.size hg.size, fun k h1 h2 h3 => (hg.block k (Nat.lt_of_lt_of_le h1 S.size) (by
    rcases hr with rfl | hr
    · exact h3
    · intro e; have := hr k e.symm; omega)).trans (S.block k h1 h2 h3)⟩
theorem Keeps2.set {w wr : World} {g : Nat} {r : Option Nat} (S : Keeps2 w wr g r) (i : Nat) (u : Value) : Keeps2 w (wr.setCell ⟨g, i, none⟩ u) g r :=
  ⟨S.os, S.tape, S.output, by simpa using S.size, fun k h1 h2 h3 => (Below.heap_setCell wr ⟨g, i, none⟩ u k h2).trans (S.block k h1 h2 h3)⟩
namespace Frm
open Txt (kind_cases bv bv_one GotB leB leB_len leB_succ leVal leVal_lt tx tx_list)

/-- a feed: what waits, and how many were passed -/
structure FeedS (w : World) (g : Nat) (v : Value) (R : List UInt8) (lost : Nat) : Prop where
  blk : Blk w g 46 [v, .int .i64 (lost : Int)]
  own : w.ownsRow (g + 1) 5 1 v R.length (R.map bv)
def GotPush (w : World) (g : Nat) (v : Value) (R : List UInt8) (lost : Nat) (M : List UInt8) (e : Ending) (w' : World) : Prop :=
  ∃ out v', e = .returned out ∧ w'.ownsRow w.heap.size 25 6 out (feedL (R ++ M) 0).1.length (frs (feedL (R ++ M) 0).1) ∧
    FeedS w' g v' ((R ++ M).drop (feedL (R ++ M) 0).2.2) (lost + (feedL (R ++ M) 0).2.1) ∧ (v'.ownBlock = none ∨ ∃ b, v'.ownBlock = some b ∧ w.heap.size ≤ b) ∧ Apart out v' ∧ Keeps2 w w' g v.ownBlock
def lenV : Option Value → Nat
  | some (.slice _ n _) => n
  | _ => 0
/-- on the way -/
structure Ph (w : World) (g : Nat) (r : Option Nat) (A : Option Addr) (n cap hh : Nat) (D : List UInt8) (lost : Nat) (out : Value) (fs : List Fr) (wr : World) : Prop where
  blk : Blk wr g 46 [.slice A n cap, .int .i64 (lost : Int)]
  rd : RdL wr (g + 1) hh A (D.map bv)
  hih : hh ≤ wr.heap.size
  len : D.length = n
  cp : n ≤ cap
  nl : A = none → n = 0 ∧ cap = 0
  own : wr.ownsRow hh 25 6 out fs.length (frs fs)
  keep : Keeps2 w wr g r
  gh : g < hh
  wh : w.heap.size ≤ hh
theorem Ph.next {w wr w' : World} {g : Nat} {r : Option Nat} {A : Option Addr} {n cap hh : Nat} {D : List UInt8} {lost : Nat} {out : Value} {fs : List Fr} (S : Ph w g r A n cap hh D lost out fs wr) (hb : Below wr.heap.size wr w') : Ph w g r A n cap hh D lost out fs w' :=
  ⟨S.blk.next hb, S.rd.next hb, Nat.le_trans S.hih hb.size, S.len, S.cp, S.nl, own_next S.own hb, S.keep.next hb, S.gh, S.wh⟩
theorem Ph.far {w wr : World} {g : Nat} {r : Option Nat} {A : Option Addr} {n cap hh : Nat} {D : List UInt8} {lost : Nat} {out : Value} {fs : List Fr} (S : Ph w g r A n cap hh D lost out fs wr) (q : Nat) (hq : out.ownBlock = some q) : g ≠ q := by
  have := (own_lt S.own hq).1
  have := S.gh
  omega
/-- the store of what is left: from a place on -/
theorem Ph.cut {w wr : World} {g : Nat} {r : Option Nat} {b off n cap hh : Nat} {D : List UInt8} {lost : Nat} {out : Value} {fs : List Fr} (S : Ph w g r (some ⟨b, off, none⟩) n cap hh D lost out fs wr) (z : Nat) (hz : z ≤ n) (A' : Addr) (hA' : cap = z ∨ A' = ⟨b, off + z, none⟩) :
    Ph w g r (some A') (n - z) (cap - z) hh (D.drop z) lost out fs (wr.setCell ⟨g, 0, none⟩ (.slice (some A') (n - z) (cap - z))) := by
  refine ⟨S.blk.put 0 _, ?_, by simpa using S.hih, by rw [List.length_drop, S.len], by have := S.cp; omega, (fun h => by cases h), ?_, S.keep.set 0 _, S.gh, S.wh⟩
  · rcases hA' with h | rfl
    · refine .inl ?_
      rw [List.drop_of_length_le (by rw [S.len]; have := S.cp; omega)]
      rfl
    · rw [List.map_drop]
      exact (S.rd.far (p := ⟨g, 0, none⟩) (.inl (by show g < g + 1; omega)) _).drop z
  · exact own_same S.own (fun q hq => Below.heap_setCell wr ⟨g, 0, none⟩ _ q (fun e => S.far q hq e.symm))
theorem Ph.loss {w wr : World} {g : Nat} {r : Option Nat} {A : Option Addr} {n cap hh : Nat} {D : List UInt8} {lost : Nat} {out : Value} {fs : List Fr} (S : Ph w g r A n cap hh D lost out fs wr) :
    Ph w g r A n cap hh D (lost + 1) out fs (wr.setCell ⟨g, 1, none⟩ (.int .i64 ((lost : Int) + 1))) := by
  have hb := S.blk.put 1 (.int .i64 ((lost : Int) + 1))
  refine ⟨hb, S.rd.far (p := ⟨g, 1, none⟩) (.inl (by show g < g + 1; omega)) _, by simpa using S.hih, S.len, S.cp, S.nl, ?_, S.keep.set 1 _, S.gh, S.wh⟩
  exact own_same S.own (fun q hq => Below.heap_setCell wr ⟨g, 1, none⟩ _ q (fun e => S.far q hq e.symm))
theorem Ph.more {w wr w' : World} {g : Nat} {r : Option Nat} {A : Option Addr} {n cap hh : Nat} {D : List UInt8} {lost : Nat} {out out' : Value} {fs fs' : List Fr} (S : Ph w g r A n cap hh D lost out fs wr) (ho : w'.ownsRow hh 25 6 out' fs'.length (frs fs')) (hg : wr.grownBy w' out.ownBlock) : Ph w g r A n cap hh D lost out' fs' w' := by
  have h1 : ∀ k, out.ownBlock = some k → hh ≤ k := fun k hk => (own_lt S.own hk).1
  refine ⟨S.blk.grown hg (fun e => S.far g e.symm rfl), S.rd.grown hg (fun q hq => .inr (h1 q hq)), Nat.le_trans S.hih hg.size, S.len, S.cp, S.nl, ho, S.keep.grown hg (.inr fun q hq => Nat.le_trans S.wh (h1 q hq)), S.gh, S.wh⟩
theorem Ph.num {w wr : World} {g : Nat} {r : Option Nat} {A : Option Addr} {n n' cap hh : Nat} {D D' : List UInt8} {lost lost' : Nat} {out : Value} {fs : List Fr} (S : Ph w g r A n cap hh D lost out fs wr) (h : n = n') (h2 : D = D') (h3 : lost = lost') : Ph w g r A n' cap hh D' lost' out fs wr := by
  subst h h2 h3
  exact S
set_option maxRecDepth 100000 in
set_option maxHeartbeats 4000000 in
theorem push_any (g : Nat) (v : Value) (R : List UInt8) (lost : Nat) (A : Option Addr) (M : List UInt8) (m cap lo hi : Nat) (w : World) (hS : FeedS w g v R lost) (h : RdL w lo hi A (M.map bv)) (hm : M.length = m) (hA : A = none → m = 0 ∧ cap = 0) (hlen : R.length + M.length ≤ 10000) (hlost : lost ≤ 10000) :
    Calls Try.prog 23 #[.pointer (some ⟨g, 0, none⟩), .slice A m cap] w (GotPush w g v R lost M) := by
  obtain ⟨i0, hi', hz0, hz1, hz2⟩ := info_parts Txt.infoByte
  have HS := Lib.hid hS
  have HR := Lib.hid h
  have HM := Lib.hid hm
  have e0 : w.cell? ⟨g, 0, none⟩ = some v := hS.blk.cell 0
  have hg := hS.blk.lt
  have hvo : ∀ k, v.ownBlock = some k → g + 1 ≤ k := own_ge hS.own
  clear hS h hm
  obtain ⟨D, hD⟩ : ∃ d, d = R ++ M := ⟨_, rfl⟩
  have hDl : D.length = R.length + m := by rw [hD, List.length_append, HM.out]
  have HD := Lib.hid hD
  obtain ⟨N, hN⟩ : ∃ k, k = R.length + m := ⟨_, rfl⟩
  rw [← hN] at hDl
  have HDl := Lib.hid hDl
  have hN2 : N ≤ 10000 := by have := HM.out; omega
  have HN := Lib.hid hN
  clear hD hDl hN
  go_enter Try.func23, Try.ntmps23
  go_wp2_with (at_builtin; refine wpList_append_mine rfl (.tmp 13) (.tmp 14) 26 rfl (g + 1) 5 i0 (.int .u8 0) 1 1 Try.underlying26 hi' hz0 hz1 hz2 rfl (by decide) v R.length (R.map bv) rfl HS.out.own A m cap (M.map bv) rfl (by rw [List.length_map, HM.out]; simp) hA HR.out.news (bv_one M) (by unfold maxLen; have := HM.out; omega) (by have := HM.out; omega) (by omega) ?_; intro v1 w1 hown1 hgrow1 hwhose1; rw [← HN.out, ← List.map_append, ← HD.out] at hown1; obtain ⟨A1, cap1, rfl, hrd1, hnc1, hcm1, hA1⟩ := own_rd hown1; have hb1 : Blk w1 g 46 [v, .int .i64 (lost : Int)] := HS.out.blk.grown hgrow1 (fun e => by have := hvo g e.symm; omega); have f0 : w1.frozen? ⟨g, 0, none⟩ = false := hb1.free 0; have e1 : w1.cell? ⟨g, 0, none⟩ = some v := hb1.cell 0; have HP : Hid (Ph w g v.ownBlock A1 N cap1 w1.heap.size D lost (.slice none 0 0) [] (w1.setCell ⟨g, 0, none⟩ (.slice A1 N cap1))) := Lib.hid ⟨hb1.put 0 _, hrd1.far (p := ⟨g, 0, none⟩) (.inl (by show g < g + 1; omega)) _, by simp, HDl.out, hnc1, hA1, World.ownsRow_nil _ _ _ _, ((Keeps2.refl w g v.ownBlock).grown hgrow1 (.inl rfl)).set 0 _, Nat.lt_of_lt_of_le hg hgrow1.size, hgrow1.size⟩; clear hown1 hgrow1 hwhose1 hrd1 hb1 hnc1 hcm1 hA1)
  go_loopw [5] (fun o wr => ∃ (i l : Nat) (fs : List Fr) (A2 : Option Addr) (cap2 : Nat), i ≤ N ∧ l ≤ i ∧ fs.length ≤ i ∧ Ph w g v.ownBlock A2 (N - i) cap2 w1.heap.size (D.drop i) (lost + l) o fs wr ∧ feedL D 0 = (fs ++ (feedL D i).1, l + (feedL D i).2.1, (feedL D i).2.2)) (fun _ wr => lenV (wr.cell? ⟨g, 0, none⟩))
  case atStart => exact ⟨0, 0, [], A1, cap1, Nat.zero_le _, Nat.le_refl _, Nat.zero_le _, HP.out, by simp⟩
  case round =>
    clear HP e1 f0 e0
    obtain ⟨i, l, fs, A2, cap2, hiN, hli, hfl, hp, hfd⟩ := hrel
    have HP := Lib.hid hp
    have HF := Lib.hid hfd
    have e0 := hp.blk.cell 0
    change _ = some (Value.slice A2 (N - i) cap2) at e0
    have hfst := first_any A2 (D.drop i) (N - i) cap2 (g + 1) w1.heap.size wr hp.rd hp.hih hp.len (by omega) hp.cp
    unfold GotI at hfst
    clear hp hfd
    have hmz : lenV (wr.cell? ⟨g, 0, none⟩) = N - i := by rw [e0]; rfl
    have HMz := Lib.hid hmz
    clear hmz
    by_cases h5 : (firstL (D.drop i)).2.2 = 5
    · have hz : (firstL (D.drop i)).1 = zeroF := by
        rcases bytes_first (D.drop i) with ⟨_, _, h⟩ | ⟨h, _⟩
        · exact h
        · rw [h5] at h; cases h
      have v0 : zeroF.v = .agg #[.int .i64 0, .int .u16 0, .int .u32 0, .int .i32 0, .int .i32 0, .int .i32 0] := rfl
      have HW := Lib.hid (feed_wait h5)
      rw [h5, hz, v0] at hfst
      clear h5 hz v0
      generalize (firstL (D.drop i)).2.1 = z at *
      go_wp2_with fail
      refine hfst.mono ?_
      rintro e w2 ⟨rfl, hb⟩
      have HPw := Lib.hid (HP.out.next hb)
      have HP2 := Lib.hid (HPw.out.next (bl w2 (.cells #[.int .i64 0, .int .u16 0, .int .u32 0, .int .i32 0, .int .i32 0, .int .i32 0] 25)))
      clear hb hfst HP e0
      have HP3 := Lib.hid (HP2.out.next (bl _ (.cells #[] 5)))
      have e2 : w2.cell? ⟨g, 0, none⟩ = some (.slice A2 (N - i) cap2) := HPw.out.blk.cell 0
      have hg2 := HPw.out.blk.lt
      have hg3 : g < w2.heap.size + 1 := by omega
      have ho3 : ((w2.alloc (.cells #[.int .i64 0, .int .u16 0, .int .u32 0, .int .i32 0, .int .i32 0, .int .i32 0] 25)).alloc (.cells #[] 5)).ownsRow (w2.heap.size + 1) 5 1 (.slice (some ⟨w2.heap.size + 1, 0, none⟩) 0 0) 0 [] := by
        have := own_new (w2.alloc (.cells #[.int .i64 0, .int .u16 0, .int .u32 0, .int .i32 0, .int .i32 0, .int .i32 0] 25)) 5 1
        simpa using this
      have HO3 := Lib.hid ho3
      have HL3 : Hid ((D.drop i).length = N - i) := Lib.hid HP2.out.len
      clear ho3
      go_wp2_with (at_builtin; refine wpList_append_mine rfl (.tmp 61) (.tmp 65) 26 rfl (w2.heap.size + 1) 5 i0 (.int .u8 0) 1 1 Try.underlying26 hi' hz0 hz1 hz2 rfl (by decide) _ 0 [] rfl HO3.out A2 (N - i) cap2 ((D.drop i).map bv) rfl (by rw [List.length_map, HL3.out]; simp) HP3.out.nl HP3.out.rd.news (bv_one _) (by unfold maxLen; omega) (by omega) (by simp) ?_; intro v5 w5 hown5 hgrow5 hwhose5; rw [Nat.zero_add, List.nil_append] at hown5; obtain ⟨A5, cap5, rfl, hrd5, hnc5, hcm5, hA5⟩ := own_rd hown5; have HO5 := Lib.hid hown5; have HG5 := Lib.hid hgrow5; have HW5 := Lib.hid hwhose5; have HP5 := Lib.hid (HP3.out.blk.grown hgrow5 (fun e => by have e' : some g = some (w2.heap.size + 1) := e; injection e' with e'; omega)); have f5 := HP5.out.free 0; have e5 : w5.cell? ⟨g, 0, none⟩ = some (.slice A2 (N - i) cap2) := HP5.out.cell 0; clear hown5 hgrow5 hwhose5 hrd5 hnc5 hcm5 hA5)
      refine bodyPost_ret (results_tmp rfl _ _ _) rfl ?_
      have hf := HF.out
      rw [HW.out] at hf
      have e1 : (feedL D 0).1 = fs := by rw [hf]; simp
      have e2' : (feedL D 0).2.1 = l := by rw [hf]; simp
      have e3 : (feedL D 0).2.2 = i := by rw [hf]
      have hK := (HP3.out.keep.grown HG5.out (.inr fun q hq => by have hq' : some (w2.heap.size + 1) = some q := hq; injection hq' with hq'; have := HPw.out.keep.size; omega)).set 0 (.slice A5 (N - i) cap5)
      have hwsz := HPw.out.keep.size
      have hown : (w5.setCell ⟨g, 0, none⟩ (.slice A5 (N - i) cap5)).ownsRow (w2.heap.size + 1) 5 1 (.slice A5 (N - i) cap5) (N - i) ((D.drop i).map bv) :=
        own_same HO5.out (fun q hq => Below.heap_setCell w5 ⟨g, 0, none⟩ _ q (fun e => by have := (own_lt HO5.out hq).1; have e : q = g := e; omega))
      have hou : (w5.setCell ⟨g, 0, none⟩ (.slice A5 (N - i) cap5)).ownsRow w1.heap.size 25 6 u5 fs.length (frs fs) := by
        refine own_same (own_kept HP3.out.own HG5.out ?_) (fun q hq => Below.heap_setCell w5 ⟨g, 0, none⟩ _ q (fun e => HP3.out.far q hq e.symm))
        intro q hq hq2
        have hq' : some (w2.heap.size + 1) = some q := hq
        injection hq' with hq'
        have := (own_lt HPw.out.own hq2).2
        omega
      refine ⟨_, .slice A5 (N - i) cap5, rfl, ?_, ⟨?_, ?_⟩, ?_, ?_, hK⟩
      · rw [← HD.out, e1]; exact own_down hou HP3.out.wh
      · rw [← HD.out, e2']; exact HP5.out.put 0 _
      · rw [← HD.out, e3, HL3.out]; exact own_down hown (by omega)
      · cases hq : (Value.slice A5 (N - i) cap5).ownBlock with
        | none => exact .inl rfl
        | some q => exact .inr ⟨q, rfl, by have := (own_lt HO5.out hq).1; omega⟩
      · intro q hq hq2
        have h1 := (own_lt HPw.out.own hq).2
        have h2 := (own_lt HO5.out hq2).1
        omega
    · have h5b : ((firstL (D.drop i)).2.2 == 5) = false := beq_eq_false_iff_ne.2 h5
      have hlt := code_lt h5
      rw [HDl.out] at hlt
      obtain ⟨b, off, rfl, _, _, _, _⟩ := HP.out.rd.some (by rw [List.length_map, List.length_drop, HDl.out]; omega)
      by_cases h0 : (firstL (D.drop i)).2.2 = 0
      · obtain ⟨he, h12, hle⟩ := feed_frame h0
        rw [HDl.out] at hle
        have HE := Lib.hid he
        rw [h0] at hfst
        obtain ⟨z, hz⟩ : ∃ z, z = (firstL (D.drop i)).2.1 := ⟨_, rfl⟩
        obtain ⟨f, hf⟩ : ∃ f, f = (firstL (D.drop i)).1 := ⟨_, rfl⟩
        rw [← hz, ← hf] at hfst
        rw [← hz] at h12 hle
        have HZ := Lib.hid hz
        have HFr := Lib.hid hf
        clear he h0 h5 h5b hz hf
        have hcs : f.v = .agg #[.int .i64 f.k, .int .u16 (f.q : Int), .int .u32 (f.t : Int), .int .i32 f.a, .int .i32 f.b, .int .i32 f.c] := rfl
        rw [hcs] at hfst
        have hzn : z ≤ N - i := by omega
        have hzI : (z : Int) ≤ ((N - i : Nat) : Int) := by omega
        have h0z : (0 : Int) ≤ (z : Int) := by omega
        have hcz : z = cap2 ∨ cap2 ≠ z := by omega
        have hsub : N - i - z = N - (i + z) := by omega
        have Hsub := Lib.hid hsub
        clear hsub
        clear hcs
        rcases hcz with rfl | hcz
        all_goals
          go_wp2_with fail
          refine hfst.mono ?_
          rintro e w2 ⟨rfl, hb⟩
          have HPw := Lib.hid (HP.out.next hb)
          have HP2 := Lib.hid (HPw.out.next (bl w2 (.cells f.cells.toArray 25)))
          have HP3 := Lib.hid (HP2.out.next (bl (w2.alloc (.cells f.cells.toArray 25)) (.cells f.cells.toArray 25)))
          have HK3 : Hid (Blk ((w2.alloc (.cells f.cells.toArray 25)).alloc (.cells f.cells.toArray 25)) (w2.heap.size + 1) 25 f.cells) := Lib.hid (by have := Blk.mk (w2.alloc (.cells f.cells.toArray 25)) 25 f.cells; simpa using this)
          clear hb hfst HP e0
          go_wp2_with (at_builtin; refine app_frame HP3.out.own rfl (.tmp 45) (.tmp 47) rfl rfl (w2.heap.size + 1) rfl HK3.out (by omega) HP3.out.hih ?_; intro v5 w5 hown5 hgrow5 _; have HP5 := Lib.hid (HP3.out.more hown5 hgrow5); have f5 := HP5.out.blk.free 0; have e5 := HP5.out.blk.cell 0; change _ = some (Value.slice (some ⟨b, off, none⟩) (N - i) _) at e5; clear hown5 hgrow5)
          go_roundw
          case rel =>
            first
              | have hc := HP5.out.cut z hzn ⟨b, off, none⟩ (.inl rfl)
              | have hc := HP5.out.cut z hzn ⟨b, off + z, none⟩ (.inr rfl)
            have hc2 := hc.num Hsub.out (List.drop_drop) rfl
            try rw [Nat.sub_self] at hc2
            have hfin : feedL D 0 = ((fs ++ [f]) ++ (feedL D (i + z)).1, l + (feedL D (i + z)).2.1, (feedL D (i + z)).2.2) := by
              rw [HF.out, HE.out, ← HZ.out, ← HFr.out, List.append_assoc]
              rfl
            exact ⟨i + z, l, fs ++ [f], _, _, by omega, by omega, by rw [List.length_append]; show fs.length + 1 ≤ i + z; omega, hc2, hfin⟩
          case measure =>
            first
              | have hc := HP5.out.cut z hzn ⟨b, off, none⟩ (.inl rfl)
              | have hc := HP5.out.cut z hzn ⟨b, off + z, none⟩ (.inr rfl)
            have hcell := hc.blk.cell 0
            try rw [Nat.sub_self] at hcell
            rw [HMz.out]
            refine Nat.lt_of_le_of_lt (Nat.le_of_eq (congrArg lenV hcell)) ?_
            show N - i - z < N - i
            omega
      · have h0b : ((firstL (D.drop i)).2.2 == 0) = false := beq_eq_false_iff_ne.2 h0
        have hz : (firstL (D.drop i)).1 = zeroF := by
          rcases bytes_first (D.drop i) with ⟨_, _, h⟩ | ⟨h, _⟩
          · exact h
          · exact absurd h h0
        have v0 : zeroF.v = .agg #[.int .i64 0, .int .u16 0, .int .u32 0, .int .i32 0, .int .i32 0, .int .i32 0] := rfl
        have HE := Lib.hid (feed_skip h5 h0)
        rw [hz, v0] at hfst
        have y1 : IntKind.i64.wrap (((lost + l : Nat) : Int) + 1) = ((lost + l : Nat) : Int) + 1 := IntWalk.i64_in _ (by omega)
        have h1n : 1 ≤ N - i := by omega
        have h1I : (1 : Int) ≤ ((N - i : Nat) : Int) := by omega
        have hcz : 1 = cap2 ∨ cap2 ≠ 1 := by omega
        have hsub : N - i - 1 = N - (i + 1) := by omega
        have Hsub := Lib.hid hsub
        have HLo := Lib.hid (show lost + (l + 1) = lost + l + 1 by omega)
        clear h5 h0 hz v0 hsub
        generalize (firstL (D.drop i)).2.2 = c at *
        generalize (firstL (D.drop i)).2.1 = z at *
        obtain ⟨q, hq⟩ : ∃ q, q = lost + l := ⟨_, rfl⟩
        rw [← hq] at HP y1 HLo
        have Hq := Lib.hid hq
        clear hq
        rcases hcz with rfl | hcz
        all_goals
          go_wp2_with fail
          refine hfst.mono ?_
          rintro e w2 ⟨rfl, hb⟩
          have HPw := Lib.hid (HP.out.next hb)
          have HP5 := Lib.hid HPw.out.loss
          have hg2 := HPw.out.blk.lt
          have f5 := HPw.out.blk.free 0
          have f6 := HPw.out.blk.free 1
          have e5 := HPw.out.blk.cell 0
          have e6 := HPw.out.blk.cell 1
          change _ = some (Value.slice (some ⟨b, off, none⟩) (N - i) _) at e5
          change _ = some (Value.int .i64 (q : Int)) at e6
          clear hb hfst HP e0
          go_wp2_with fail
          go_roundw
          case rel =>
            first
              | have hc := (HP5.out.cut 1 h1n ⟨b, off, none⟩ (.inl rfl)).next (bl _ (.cells #[.int .i64 0, .int .u16 0, .int .u32 0, .int .i32 0, .int .i32 0, .int .i32 0] 25))
              | have hc := (HP5.out.cut 1 h1n ⟨b, off + 1, none⟩ (.inr rfl)).next (bl _ (.cells #[.int .i64 0, .int .u16 0, .int .u32 0, .int .i32 0, .int .i32 0, .int .i32 0] 25))
            have hc2 := hc.num Hsub.out (List.drop_drop) HLo.out.symm
            try rw [Nat.sub_self] at hc2
            have hfin : feedL D 0 = (fs ++ (feedL D (i + 1)).1, l + 1 + (feedL D (i + 1)).2.1, (feedL D (i + 1)).2.2) := by
              rw [HF.out, HE.out]
              refine Prod.ext rfl (Prod.ext ?_ rfl)
              show l + ((feedL D (i + 1)).2.1 + 1) = l + 1 + (feedL D (i + 1)).2.1
              omega
            exact ⟨i + 1, l + 1, fs, _, _, by omega, by omega, by omega, hc2, hfin⟩
          case measure =>
            first
              | have hc := (HP5.out.cut 1 h1n ⟨b, off, none⟩ (.inl rfl)).next (bl _ (.cells #[.int .i64 0, .int .u16 0, .int .u32 0, .int .i32 0, .int .i32 0, .int .i32 0] 25))
              | have hc := (HP5.out.cut 1 h1n ⟨b, off + 1, none⟩ (.inr rfl)).next (bl _ (.cells #[.int .i64 0, .int .u16 0, .int .u32 0, .int .i32 0, .int .i32 0, .int .i32 0] 25))
            have hcell := hc.blk.cell 0
            try rw [Nat.sub_self] at hcell
            rw [HMz.out]
            refine Nat.lt_of_le_of_lt (Nat.le_of_eq (congrArg lenV hcell)) ?_
            show N - i - 1 < N - i
            omega
end Frm
end Go.Proofs.Ytijijfggppnbpaa
