/-
  The walk of package recorder's Add.
-/
import Derived.Test.YtijijfggppnbpaaRecC
import Derived.Test.YtijijfggppnbpaaFrmK
import Derived.Laws.CopyOwn
import Derived.Deep.RegionWith
import Derived.BigQuiet
namespace Go.Proofs.Ytijijfggppnbpaa
open Go.RowKit
set_option linter.unusedVariables false
namespace Rec
open Frm Txt
theorem quiet_eq {P : Program} {f : FuncId} {args : Array Value} {w : World} {n : Nat} {v : Value} (h : Calls P f args (w.drewN n) fun e w' => e = .returned v ∧ w.drewN n = w') : Calls P f args (w.drewN n) fun e w'' => e = .returned v ∧ ∃ m, w'' = w.drewN m :=
  h.mono fun _ _ ⟨he, hm⟩ => ⟨he, n, hm.symm⟩
theorem own_copy {w : World} {base n g cap : Nat} {e : TypeId} {L : List Value} (h : w.ownsRow base e 1 (.slice (some ⟨g, 0, none⟩) n cap) n L) :
    ∃ cur : Array Value, w.heap[g]? = some (.cells cur e (0, 0)) ∧ n ≤ cur.size ∧ ∀ (off : Nat) (cs : List Value), off + cs.length ≤ n →
      (w.setRow g (cur.toList.take off ++ (cs ++ cur.toList.drop (off + cs.length))).toArray).ownsRow base e 1 (.slice (some ⟨g, 0, none⟩) n cap) n (L.take off ++ (cs ++ L.drop (off + cs.length))) := by
  obtain ⟨h1, h2⟩ := h
  rcases h2 with ⟨hv, _⟩ | ⟨g', cap', cur, hv, hb, hh, h3, h4, h5, h6⟩
  · simp at hv
  · simp at hv
    obtain ⟨rfl, rfl⟩ := hv
    refine ⟨cur, hh, by omega, fun off cs hle => ⟨?_, .inr ⟨g, cap, _, rfl, hb, setRow_heap w g cur _ e _ hh, h3, h4, ?_, ?_⟩⟩⟩
    · rw [List.length_append, List.length_append, List.length_take, List.length_drop, h1]
      omega
    · simp only [List.size_toArray, List.length_append, List.length_take, List.length_drop, Array.length_toList, h5]
      omega
    · have hcl : cur.toList.length = cap := by rw [Array.length_toList, h5]; omega
      rw [← h6]
      refine List.ext_getElem? fun p => ?_
      simp only [List.getElem?_take, List.getElem?_append, List.getElem?_drop, List.length_take, Nat.mul_one]
      have hm : min off cur.toList.length = off := by omega
      have hm2 : min off (min n cur.toList.length) = off := by omega
      rw [hm, hm2]
      by_cases h8 : p < off
      · simp [h8]
      · by_cases h9 : p - off < cs.length
        · simp [h8, h9]
          omega
        · simp only [h8, h9, if_false]
          have e1 : off + cs.length + (p - off - cs.length) = p := by omega
          rw [e1]
/-- what Add hands back, and what the recorder is then -/
def GotA (w : World) (gr gb cap k : Nat) (B : List UInt8) (n : Nat) (f : Fr) (e : Ending) (w' : World) : Prop :=
  (codeF f ≠ 0 ∧ e = .returned (.tuple #[.int .u64 0, .int .i64 (codeF f)]) ∧ RB w' gr gb cap B n ∧ Keeps2 w w' gr (some gb)) ∨
  (codeF f = 0 ∧ e = .returned (.tuple #[.int .u64 (n : Int), .int .i64 0]) ∧ RB w' gr gb cap (putB B (n % k) (cellL n f)) (n + 1) ∧ Keeps2 w w' gr (some gb))
set_option maxRecDepth 100000 in
set_option maxHeartbeats 1000000 in
theorem add_any {w : World} {gr gb cap k : Nat} {B : List UInt8} {n : Nat} (f : Fr) (hf : f.Ok) (S : RB w gr gb cap B n) (hB : B.length = 40 * k) (hk1 : 1 ≤ k) (hk2 : k ≤ 1024) (hn : n < 18446744073709551615) :
    Calls Try.prog 65 #[.pointer (some ⟨gr, 0, none⟩), f.v] w (GotA w gr gb cap k B n f) := by
  have hv : f.v = .agg #[.int .i64 f.k, .int .u16 (f.q : Int), .int .u32 (f.t : Int), .int .i32 f.a, .int .i32 f.b, .int .i32 f.c] := rfl
  have hcc : f.cells.toArray = #[.int .i64 f.k, .int .u16 (f.q : Int), .int .u32 (f.t : Int), .int .i32 f.a, .int .i32 f.b, .int .i32 f.c] := rfl
  have hcell := fun X => cell_any n f hf (by omega) X
  have hS0 := S.next (bl w (.cells f.cells.toArray 25))
  have hbf := Blk.mk w 25 f.cells
  have hK0 := (Keeps2.refl w gr (some gb)).next (bl w (.cells f.cells.toArray 25))
  have hlt0 : gr < w.heap.size := S.box.lt
  have hltb : gb < w.heap.size := (own_lt S.own (b := gb) rfl).2
  have hf0 : ∀ X, Blk X w.heap.size 25 f.cells → X.cell? ⟨w.heap.size, 0, none⟩ = some (.int .i64 f.k) ∧ X.cell? ⟨w.heap.size, 1, none⟩ = some (.int .u16 (f.q : Int)) ∧ X.cell? ⟨w.heap.size, 2, none⟩ = some (.int .u32 (f.t : Int)) ∧ X.cell? ⟨w.heap.size, 3, none⟩ = some (.int .i32 f.a) ∧ X.cell? ⟨w.heap.size, 4, none⟩ = some (.int .i32 f.b) ∧ X.cell? ⟨w.heap.size, 5, none⟩ = some (.int .i32 f.c) := fun X h => ⟨h.cell 0, h.cell 1, h.cell 2, h.cell 3, h.cell 4, h.cell 5⟩
  rw [hv] at hcell ⊢
  rw [hcc] at hS0 hbf hK0
  have hfc := hf0 _ hbf
  obtain ⟨cd, hcd⟩ : ∃ cd, cd = codeF f := ⟨_, rfl⟩
  have HCD := Lib.hid hcd
  have HFO := Lib.hid hf
  have HS0 := Lib.hid hS0
  have HK0 := Lib.hid hK0
  have HB := Lib.hid hB
  obtain ⟨q0, q1⟩ := hS0.cells
  rw [hB] at q0
  obtain ⟨m, hm⟩ : ∃ m, m = 40 * k := ⟨_, rfl⟩
  rw [← hm] at q0
  have HM := Lib.hid hm
  have hltm := hltb
  clear hcd hf hS0 hK0 hbf hf0 hv hcc S hB hm
  generalize f.k = x1 at *
  generalize f.q = x2 at *
  generalize f.t = x3 at *
  generalize f.a = x4 at *
  generalize f.b = x5 at *
  generalize f.c = x6 at *
  obtain ⟨f0, f1, f2, f3, f4, f5⟩ := hfc
  go_enter Try.func65, Try.ntmps65
  go_upto_region 1 with fail
  go_cut [3, 6, 7] (fun s3 s6 s7 wx => s3 = .pointer (some ⟨w.heap.size, 0, none⟩) ∧ s7 = .int .i64 cd ∧ (cd = 0 → ∃ gx cx base, s6 = .slice (some ⟨gx, 0, none⟩) 40 cx ∧ w.heap.size ≤ gx ∧ wx.ownsRow base 5 1 (.slice (some ⟨gx, 0, none⟩) 40 cx) 40 ((cellL n f).map bv)) ∧ RB wx gr gb cap B n ∧ Keeps2 w wx gr (some gb))
  case first =>
    go_region_with (go_at_call 72; (with_reducible refine (hcell _).mono ?_); rintro e w5 ⟨v5, rfl, h5a, h5b, h5c⟩; have HX := Lib.hid (show (cd = 0 → ∃ gx cx base, v5 = .slice (some ⟨gx, 0, none⟩) 40 cx ∧ w.heap.size ≤ gx ∧ w5.ownsRow base 5 1 (.slice (some ⟨gx, 0, none⟩) 40 cx) 40 ((cellL n f).map bv)) ∧ RB w5 gr gb cap B n ∧ Keeps2 w w5 gr (some gb) by
      have hb5 : Below (w.alloc (.cells #[.int .i64 x1, .int .u16 (x2 : Int), .int .u32 (x3 : Int), .int .i32 x4, .int .i32 x5, .int .i32 x6] 25)).heap.size (w.alloc (.cells #[.int .i64 x1, .int .u16 (x2 : Int), .int .u32 (x3 : Int), .int .i32 x4, .int .i32 x5, .int .i32 x6] 25)) w5 := ⟨h5c.os, h5c.tape, h5c.output, h5c.size, h5c.block⟩
      refine ⟨fun h0 => ?_, HS0.out.next hb5, HK0.out.next hb5⟩
      have ho := h5a (HCD.out.symm.trans h0)
      obtain ⟨gx, cx, rfl⟩ := own_some ho (by decide)
      have hg := (own_lt ho (b := gx) rfl).1
      exact ⟨gx, cx, _, rfl, by simp at hg; omega, ho⟩); clear h5a h5b h5c)
    all_goals
      rw [← HCD.out]
      go_wp2_with fail
      go_meet
      exact ⟨rfl, rfl, HX.out⟩
  obtain ⟨rfl, rfl, hx, hS, hK⟩ := hcut
  have HX := Lib.hid hx
  have HS := Lib.hid hS
  have HK := Lib.hid hK
  clear hx hS hK f0 f1 f2 f3 f4 f5 q0 q1 hcell HS0 HK0
  by_cases h0 : cd = 0
  · subst h0
    have d0 : ((0 : Int) != 0) = false := rfl
    obtain ⟨gx, cx, base, rfl, hgx, hown⟩ := HX.out rfl
    obtain ⟨A, cc, e, hrx, _, _, _⟩ := own_rd hown
    injection e with e e1 e2
    subst e e2
    clear e1
    have HRX := Lib.hid hrx
    have h0 : codeF f = 0 := HCD.out.symm
    have HH0 := Lib.hid h0
    obtain ⟨q0, q1⟩ := HS.out.cells
    rw [HB.out, ← HM.out] at q0
    obtain ⟨p, hp⟩ : ∃ p, p = n % k := ⟨_, rfl⟩
    have hpk : p < k := by rw [hp]; exact Nat.mod_lt _ hk1
    obtain ⟨at1, hat⟩ : ∃ a, a = 40 * p := ⟨_, rfl⟩
    have hm := HM.out
    have ham : at1 + 40 ≤ m := by omega
    have hm3 : m ≤ 40960 := by omega
    have hcp : m ≤ cap := by
      obtain ⟨_, c', e', _, hc', _, _⟩ := own_rd HS.out.own
      injection e' with _ _ e'
      subst e'
      rw [hm, ← HB.out]
      exact hc'
    have t1 : (n : Int).tmod (k : Int) = (p : Int) := by rw [hp, Int.tmod_eq_emod_of_nonneg (by omega)]; rfl
    have wk : IntKind.u64.wrap (k : Int) = (k : Int) := IntWalk.u64_in _ (by omega)
    have wp1 : IntKind.u64.wrap (p : Int) = (p : Int) := IntWalk.u64_in _ (by omega)
    have wp2 : IntKind.i64.wrap (p : Int) = (p : Int) := IntWalk.i64_in _ (by omega)
    have wa : IntKind.i64.wrap ((p : Int) * 40) = (at1 : Int) := by rw [IntWalk.i64_in _ (by omega)]; omega
    have nz : ((k : Int) == 0) = false := by rw [beq_eq_false_iff_ne]; omega
    have nz2 : (k : Int) ≠ 0 := by omega
    have nz3 : k ≠ 0 := by omega
    have HPN := Lib.hid hp
    have HAT := Lib.hid hat
    clear hown hrx h0 hp hat hm HX
    go_upto_region 4 with fail
    go_cut [8] (fun s8 wx => s8 = .int .i64 (at1 : Int) ∧ RB wx gr gb cap B n ∧ Keeps2 w wx gr (some gb) ∧ RdL wx base wc.heap.size (some ⟨gx, 0, none⟩) ((cellL n f).map bv))
    case first =>
      go_wp2_with fail
      go_quiet ((go_at_call 45; with_reducible exact quiet_eq (cells_any (HS.out.next (below_drewN (Below.refl _ _) _)) HB.out hk2)))
      go_wp2_with fail
      go_meet
      exact ⟨rfl, HS.out.next (below_drewN (Below.refl _ _) _), HK.out.next (below_drewN (Below.refl _ _) _), HRX.out.next (below_drewN (Below.refl _ _) _)⟩
    obtain ⟨rfl, hS, hK, hR⟩ := hcut
    have HS2 := Lib.hid hS
    have HK2 := Lib.hid hK
    have HR2 := Lib.hid hR
    obtain ⟨cur, hcur, hsz, hcopy⟩ := own_copy hS.own
    rw [HB.out, ← HM.out] at hsz
    have h40 : ((cellL n f).map bv).length = 40 := by rw [List.length_map, cellL_len HFO.out HH0.out]
    have hcp2 := hcopy at1 ((cellL n f).map bv) (by rw [h40, HB.out, ← HM.out]; omega)
    rw [h40] at hcp2
    have hlist : (B.map bv).take at1 ++ ((cellL n f).map bv ++ (B.map bv).drop (at1 + 40)) = (putB B p (cellL n f)).map bv := by
      unfold putB
      rw [← HAT.out, List.map_append, List.map_append, List.map_take, List.map_drop]
    rw [hlist] at hcp2
    obtain ⟨B2, hB2⟩ : ∃ B2, B2 = putB B p (cellL n f) := ⟨_, rfl⟩
    have hlB2 : B2.length = B.length := by rw [hB2, HB.out]; exact putB_len HB.out hpk (cellL_len HFO.out HH0.out)
    rw [← hB2] at hcp2
    obtain ⟨w9, hw9⟩ : ∃ w9, w9 = wc.setRow gb (cur.toList.take at1 ++ ((cellL n f).map bv ++ cur.toList.drop (at1 + 40))).toArray := ⟨_, rfl⟩
    rw [← hw9] at hcp2
    have hoth : ∀ q, q ≠ gb → w9.heap[q]? = wc.heap[q]? := fun q hq => by rw [hw9]; exact setRow_other wc gb _ q hq
    have hbox9 : Blk w9 gr 108 [.slice (some ⟨gb, 0, none⟩) m cap, .int .u64 (n : Int)] := by
      have := hS.box
      rw [HB.out, ← HM.out] at this
      exact (hoth gr (Ne.symm hS.ne)).trans this
    have hK9 : Keeps2 w w9 gr (some gb) := by
      rw [hw9]
      exact ⟨hK.os, hK.tape, hK.output, by simpa [World.setRow] using hK.size, fun q h1 h2 h3 => (setRow_other wc gb _ q (fun e => h3 (by rw [e]))).trans (hK.block q h1 h2 h3)⟩
    rw [HB.out, ← HM.out] at hcp2
    have HO9 := Lib.hid hcp2
    have HB9 := Lib.hid hbox9
    have HK9 := Lib.hid hK9
    have HW9 := Lib.hid hw9
    have HC9 := Lib.hid hcur
    have HL9 := Lib.hid hlB2
    have HB2 := Lib.hid hB2
    have H40 := Lib.hid h40
    have HNE := Lib.hid hS.ne
    obtain ⟨q0, q1⟩ := hS.cells
    rw [HB.out, ← HM.out] at q0
    have a0 : (0 : Int) ≤ (at1 : Int) := by omega
    have a1 : (at1 : Int) ≤ (m : Int) := by omega
    have a2 : cap ≠ at1 := by omega
    obtain ⟨n1, hn1⟩ : ∃ n1, n1 = n + 1 := ⟨_, rfl⟩
    have wn : IntKind.u64.wrap ((n : Int) + 1) = (n1 : Int) := by rw [IntWalk.u64_in _ (by omega)]; omega
    have wn2 : IntKind.u64.wrap ((n1 : Int) - 1) = (n : Int) := by rw [IntWalk.u64_in _ (by omega)]; omega
    have HN1 := Lib.hid hn1
    have f9 := hbox9.free 1
    have c9 : w9.cell? ⟨gr, 1, none⟩ = some (.int .u64 (n : Int)) := hbox9.cell 1
    have c9b : w9.cell? ⟨gr, 0, none⟩ = some (.slice (some ⟨gb, 0, none⟩) m cap) := hbox9.cell 0
    clear hS hK hR hcur hcopy hlist hB2 hlB2 hw9 hoth hbox9 hK9 hcp2 h40 hn1 t1 wk wp1 wp2 wa nz nz2 nz3 HS HK HRX
    go_wp2_with (refine wpList_copy_own rfl (.tmp 36) (.tmp 37) 26 26 rfl 5 Try.underlying26 (by kernel_rfl) gb at1 (m - at1) (cap - at1) ⟨gx, 0, none⟩ 40 cx rfl rfl cur 5 HC9.out ((cellL n f).map bv) (by rw [H40.out]; exact (Nat.min_eq_left (by omega)).symm) (HR2.out.news _ rfl) (by rw [H40.out]; omega) (bv_one _) ?_; rw [H40.out, ← HW9.out])
    go_ret2
    have hn1 := HN1.out
    refine .inr ⟨HH0.out, rfl, ?_, ?_⟩
    · rw [← HPN.out, ← HB2.out, ← hn1]
      have hlm : B2.length = m := by rw [HL9.out, HB.out, HM.out]
      refine ⟨?_, ?_, HNE.out⟩
      · rw [hlm]
        exact HB9.out.put 1 _
      · rw [hlm]
        exact ownsRow_setCell_other HO9.out (a := ⟨gr, 1, none⟩) (fun e => HNE.out (Option.some.inj e)) _
    · exact HK9.out.set 1 _
  · have d0 : (cd != 0) = true := by rw [bne_iff_ne]; exact h0
    have HN0 := Lib.hid h0
    clear h0
    go_wp2_with fail
    go_ret2
    exact .inl ⟨by rw [← HCD.out]; exact HN0.out, by rw [← HCD.out]; rfl, HS.out, HK.out⟩
end Rec
end Go.Proofs.Ytijijfggppnbpaa
