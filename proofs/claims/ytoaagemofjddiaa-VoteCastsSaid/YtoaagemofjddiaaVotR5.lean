/-
  The walk of the document's answer for one cast.
-/
import Derived.Test.YtoaagemofjddiaaVotR4
import Derived.Deep.DeepCutAuto
import Derived.Deep.QuietTactic
namespace Go.Proofs.Ytoaagemofjddiaa
open Go.RowKit
set_option linter.unusedVariables false
namespace Vot

theorem quiet_eq {P : Program} {f : FuncId} {args : Array Value} {w : World} {n : Nat} {v : Value} (h : Calls P f args (w.drewN n) fun e w' => e = .returned v ∧ w.drewN n = w') : Calls P f args (w.drewN n) fun e w'' => e = .returned v ∧ ∃ m, w'' = w.drewN m :=
  h.mono fun e w' h => ⟨h.1, n, h.2.symm⟩
def zero4 : List Value := [.int .i64 0, .int .i64 0, .slice none 0 0, .slice none 0 0]
/-- the panel, the result's cell and the samples, in memory -/
structure CA (w : World) (lo hi : Nat) (p : Pa) (A1 A2 : Option Addr) (c1 c2 : Nat) (AL : Option Addr) (l : List Sa) (wr : World) : Prop where
  box : Blk wr w.heap.size 74 (rpc p A1 A2 c1 c2)
  res : Blk wr (w.heap.size + 1) 74 zero4
  rp : RP wr lo hi p A1 A2 c1 c2
  rd : RdL wr 0 w.heap.size AL (l.flatMap sac)
  keep : Below w.heap.size w wr
  sz : w.heap.size + 1 + 1 ≤ wr.heap.size
  hi : hi ≤ w.heap.size
section
variable {w wr w' : World} {lo hi : Nat} {p : Pa} {A1 A2 : Option Addr} {c1 c2 : Nat} {AL : Option Addr} {l : List Sa}
theorem CA.next (S : CA w lo hi p A1 A2 c1 c2 AL l wr) (hb : Below wr.heap.size wr w') : CA w lo hi p A1 A2 c1 c2 AL l w' :=
  ⟨S.box.next hb, S.res.next hb, S.rp.next hb, S.rd.next hb, bt S.keep hb, Nat.le_trans S.sz hb.size, S.hi⟩
theorem CA.drewN (S : CA w lo hi p A1 A2 c1 c2 AL l wr) (q : Nat) : CA w lo hi p A1 A2 c1 c2 AL l (wr.drewN q) :=
  ⟨S.box.drewN q, S.res.drewN q, S.rp.drewN q, S.rd.drewN q, below_drewN S.keep q, S.sz, S.hi⟩
theorem CA.drew (S : CA w lo hi p A1 A2 c1 c2 AL l wr) : CA w lo hi p A1 A2 c1 c2 AL l wr.drew := S.drewN 1
/-- only a block behind these has turned -/
theorem CA.grown (S : CA w lo hi p A1 A2 c1 c2 AL l wr) {r : Option Nat} (hg : wr.grownBy w' r) (hr : ∀ k, r = some k → w.heap.size + 1 + 1 ≤ k) : CA w lo hi p A1 A2 c1 c2 AL l w' :=
  ⟨S.box.grown hg (fun e => by have := hr _ e.symm; omega), S.res.grown hg (fun e => by have := hr _ e.symm; omega), ⟨S.rp.st.grown hg (fun g e => .inr (by have := hr _ e; have := S.hi; omega)), S.rp.out.grown hg (fun g e => .inr (by have := hr _ e; have := S.hi; omega))⟩,
    S.rd.grown hg (fun g e => .inr (by have := hr _ e; have := S.hi; omega)), S.keep.grown hg S.keep.size (fun k hk => by have := hr _ hk; omega), Nat.le_trans S.sz hg.size, S.hi⟩
theorem CA.set (S : CA w lo hi p A1 A2 c1 c2 AL l wr) {g : Nat} (hg : w.heap.size + 1 + 1 ≤ g) (i : Nat) (u : Value) : CA w lo hi p A1 A2 c1 c2 AL l (wr.setCell ⟨g, i, none⟩ u) :=
  S.grown (only_set (only_refl wr (some g)) i u) (fun k e => by have := Option.some.inj e; omega)
theorem CA.cells (S : CA w lo hi p A1 A2 c1 c2 AL l wr) : wr.cell? ⟨w.heap.size, 0, none⟩ = some (.int .i64 p.ap) ∧ wr.cell? ⟨w.heap.size, 1, none⟩ = some (.int .i64 p.most) ∧ wr.cell? ⟨w.heap.size, 2, none⟩ = some (.slice A1 p.st.length c1) ∧ wr.cell? ⟨w.heap.size, 3, none⟩ = some (.slice A2 p.out.length c2) :=
  ⟨S.box.cell 0, S.box.cell 1, S.box.cell 2, S.box.cell 3⟩
end
/-- .. and the panel as it becomes -/
structure CB (w : World) (lo hi : Nat) (p : Pa) (A1 A2 : Option Addr) (c1 c2 : Nat) (AL : Option Addr) (l : List Sa) (g lo' hi' : Nat) (q : Pa) (B1 B2 : Option Addr) (d1 d2 : Nat) (wr : World) : Prop where
  a : CA w lo hi p A1 A2 c1 c2 AL l wr
  o : Blk wr g 74 (rpc q B1 B2 d1 d2)
  r : RP wr lo' hi' q B1 B2 d1 d2
  g2 : w.heap.size + 1 + 1 ≤ g
  far : (lo' = lo ∧ hi' = hi) ∨ g < lo'
  hi2 : hi' ≤ wr.heap.size
section
variable {w wr w' : World} {lo hi : Nat} {p : Pa} {A1 A2 : Option Addr} {c1 c2 : Nat} {AL : Option Addr} {l : List Sa} {g lo' hi' : Nat} {q : Pa} {B1 B2 : Option Addr} {d1 d2 : Nat}
theorem CB.next (S : CB w lo hi p A1 A2 c1 c2 AL l g lo' hi' q B1 B2 d1 d2 wr) (hb : Below wr.heap.size wr w') : CB w lo hi p A1 A2 c1 c2 AL l g lo' hi' q B1 B2 d1 d2 w' :=
  ⟨S.a.next hb, S.o.next hb, S.r.next hb, S.g2, S.far, Nat.le_trans S.hi2 hb.size⟩
theorem CB.drewN (S : CB w lo hi p A1 A2 c1 c2 AL l g lo' hi' q B1 B2 d1 d2 wr) (k : Nat) : CB w lo hi p A1 A2 c1 c2 AL l g lo' hi' q B1 B2 d1 d2 (wr.drewN k) :=
  ⟨S.a.drewN k, S.o.drewN k, S.r.drewN k, S.g2, S.far, S.hi2⟩
theorem CB.drew (S : CB w lo hi p A1 A2 c1 c2 AL l g lo' hi' q B1 B2 d1 d2 wr) : CB w lo hi p A1 A2 c1 c2 AL l g lo' hi' q B1 B2 d1 d2 wr.drew := S.drewN 1
theorem CB.cells (S : CB w lo hi p A1 A2 c1 c2 AL l g lo' hi' q B1 B2 d1 d2 wr) : wr.cell? ⟨g, 0, none⟩ = some (.int .i64 q.ap) ∧ wr.cell? ⟨g, 1, none⟩ = some (.int .i64 q.most) ∧ wr.cell? ⟨g, 2, none⟩ = some (.slice B1 q.st.length d1) ∧ wr.cell? ⟨g, 3, none⟩ = some (.slice B2 q.out.length d2) :=
  ⟨S.o.cell 0, S.o.cell 1, S.o.cell 2, S.o.cell 3⟩
/-- a new panel has been put into the cell -/
theorem CB.put (S : CB w lo hi p A1 A2 c1 c2 AL l g lo' hi' q B1 B2 d1 d2 wr) {q' : Pa} {E1 E2 : Option Addr} {e1 e2 : Nat} (hb : Below wr.heap.size wr w') (R : RP w' wr.heap.size w'.heap.size q' E1 E2 e1 e2) :
    CB w lo hi p A1 A2 c1 c2 AL l g wr.heap.size w'.heap.size q' E1 E2 e1 e2 ((((w'.setCell ⟨g, 0, none⟩ (.int .i64 q'.ap)).setCell ⟨g, 1, none⟩ (.int .i64 q'.most)).setCell ⟨g, 2, none⟩ (.slice E1 q'.st.length e1)).setCell ⟨g, 3, none⟩ (.slice E2 q'.out.length e2)) := by
  have hg := S.o.lt
  have S' := S.next hb
  refine ⟨(((S'.a.set S.g2 0 _).set S.g2 1 _).set S.g2 2 _).set S.g2 3 _, ?_, (((R.far (q := ⟨g, 0, none⟩) (.inl hg) _).far (q := ⟨g, 1, none⟩) (.inl hg) _).far (q := ⟨g, 2, none⟩) (.inl hg) _).far (q := ⟨g, 3, none⟩) (.inl hg) _, S.g2, .inr hg, by simp⟩
  exact (((S'.o.put 0 (.int .i64 q'.ap)).put 1 (.int .i64 q'.most)).put 2 (.slice E1 q'.st.length e1)).put 3 (.slice E2 q'.out.length e2)
theorem CB.free (S : CB w lo hi p A1 A2 c1 c2 AL l g lo' hi' q B1 B2 d1 d2 wr) (i : Nat) : wr.frozen? ⟨g, i, none⟩ = false := S.o.free i
end
theorem told_map (o : List Bool) (l : List Sa) (k : Nat) (x : Int) : (told o l k ++ [x]).map (Value.int .i64) = (told o l k).map (Value.int .i64) ++ [.int .i64 x] := by simp
/-- what a cast hands back -/
def GotC (w : World) (lo0 hi0 : Nat) (p : Pa) (m : Int) (ok : Bool) (e : Ending) (w' : World) : Prop := ∃ lo hi A1 A2 c1 c2, e = .returned (.tuple #[rpv p A1 A2 c1 c2, .int .i64 m, .bool ok]) ∧ RP w' lo hi p A1 A2 c1 c2 ∧ hi ≤ w'.heap.size ∧ ((lo = lo0 ∧ hi = hi0) ∨ w.heap.size ≤ lo) ∧ Below w.heap.size w w'
set_option maxRecDepth 100000 in
set_option maxHeartbeats 4000000 in
theorem rcast_any {w : World} {lo hi lo2 hi2 c1 c2 cap : Nat} {p : Pa} {A1 A2 AL : Option Addr} {l : List Sa} (S : RP w lo hi p A1 A2 c1 c2) (R0 : RdL w lo2 hi2 AL (l.flatMap sac)) {B : Nat} (hok : p.ok B) (hB : B ≤ 1000) (hhi : hi ≤ w.heap.size) (hhi2 : hi2 ≤ w.heap.size) :
    Calls Try.prog 35 #[rpv p A1 A2 c1 c2, .slice AL l.length cap] w (GotC w lo hi (castAll p l) (mid (told0 p l)) (decide (0 < (told0 p l).length))) := by
  obtain ⟨i0, hi0, hz0, hz1, hz2⟩ := info_parts info64
  have R := R0.wide (lo' := 0) (hi' := w.heap.size) (Nat.zero_le _) hhi2
  have hCA : CA w lo hi p A1 A2 c1 c2 AL l ((w.alloc (.cells (rpc p A1 A2 c1 c2).toArray 74)).alloc (.cells zero4.toArray 74)) := by
    have B1 := Blk.mk (w.alloc (.cells (rpc p A1 A2 c1 c2).toArray 74)) 74 zero4
    rw [heap_alloc_sz] at B1
    exact ⟨(Blk.mk w 74 _).alloc _, B1, (S.alloc _).alloc _, (R.alloc _).alloc _, (bl _ _).alloc (by simp) _, by simp, hhi⟩
  have H0 := Lib.hid hCA
  have HOK := Lib.hid hok
  have h5 := hok.five
  clear hCA S R R0 hok hhi hhi2
  unfold rpv
  unfold rpc zero4 at H0
  go_enter Try.func35, Try.ntmps35
  go_wp2_with fail
  go_loopw [7, 8] (fun v u wr => ∃ i : Nat, i ≤ p.out.length ∧ u = .int .i64 (i : Int) ∧ CA w lo hi p A1 A2 c1 c2 AL l wr ∧ wr.ownsRow (w.heap.size + 1 + 1) 2 1 v (told p.out l i).length ((told p.out l i).map (Value.int .i64))) (fun _ u _ => p.out.length - (intOf u).toNat)
  case atStart => exact ⟨0, by omega, rfl, H0.out, World.ownsRow_nil _ _ _ _⟩
  case round =>
    clear H0
    obtain ⟨i, hile, rfl, hS, hown⟩ := hrel
    have HS := Lib.hid hS
    have HW := Lib.hid hown
    obtain ⟨q0, q1, q2, q3⟩ := hS.cells
    have htl := told_len p.out l i
    have hsz := hS.sz
    clear hS hown
    by_cases hlt : i < p.out.length
    · obtain ⟨b, off, rfl, _, hbh, hbs, qi⟩ := HS.out.rp.is hlt
      have hbw := HS.out.hi
      have hltI : (i : Int) < (p.out.length : Int) := by omega
      have hi0' : (0 : Int) ≤ (i : Int) := by omega
      have y1 : IntKind.i64.wrap ((i : Int) + 1) = (i : Int) + 1 := IntWalk.i64_in _ (by omega)
      have htells := tells_any (cap := cap) HS.out.rd i
      cases hb : p.is i with
      | true =>
        rw [hb] at qi
        have ht := told_no (l := l) (k := i) (o := p.out) (.inl hb)
        have HT := Lib.hid ht
        clear ht
        go_wp2_with fail
        go_roundw
        case rel => exact ⟨i + 1, by omega, by go_num, HS.out, by rw [HT.out]; exact HW.out⟩
        case measure => simp [intOf]; omega
      | false =>
        rw [hb] at qi
        cases ht : tells l i with
        | false =>
          rw [ht] at htells
          have ht' := told_no (l := l) (k := i) (o := p.out) (.inr ht)
          have HT := Lib.hid ht'
          clear ht' ht
          go_wp2_with fail
          refine htells.mono ?_
          rintro e w1 ⟨rfl, rfl⟩
          go_wp2_with fail
          go_roundw
          case rel => exact ⟨i + 1, by omega, by go_num, HS.out, by rw [HT.out]; exact HW.out⟩
          case measure => simp [intOf]; omega
        | true =>
          rw [ht] at htells
          have ht' := told_yes (l := l) (k := i) (o := p.out) hb ht
          obtain ⟨hil, _, _⟩ := tells_bnd ht
          obtain ⟨bs, os, rfl, hbsh, hbss, x0, x1⟩ := sam_cells HS.out.rd hil
          have hilI : (i : Int) < (l.length : Int) := by omega
          have HT := Lib.hid ht'
          clear ht' ht
          generalize hx : xat l i = x at *
          clear hx
          generalize hT : told p.out l i = T at *
          clear hT
          go_wp2_with fail
          refine htells.mono ?_
          rintro e w1 ⟨rfl, rfl⟩
          go_wp2_with (
            at_builtin
            refine wpList_append_mine ?_ (.tmp 32) (.tmp 38) 60 ?_ (w.heap.size + 1 + 1) 2 i0 (.int .i64 0) 1 8 Try.underlying60 hi0 hz0 hz1 hz2 ?_ ?_ _ T.length (T.map (Value.int .i64)) ?_ (HW.out.alloc _) (some ⟨wr.heap.size, 0, none⟩) 1 1 [.int .i64 x] ?_ ?_ ?_ ?_ ?_ ?_ ?_ ?_ ?_
            · rfl
            · rfl
            · rfl
            · decide
            · rfl
            · rfl
            · rfl
            · intro h; cases h
            · intro ad h; injection h with h; subst h; exact cell_one_new _ _ _
            · simp [Value.oneCell']
            · unfold maxLen; omega
            · omega
            · simp; omega
            intro v1 w1 own1 grow1 hw1
            have HS1 := Lib.hid ((HS.out.next (bl _ _)).grown grow1 (fun k hk => (own_lt HW.out hk).1))
            have HO1 := Lib.hid own1
            clear own1 grow1 hw1)
          go_roundw
          case rel =>
            refine ⟨i + 1, by omega, by go_num, HS1.out, ?_⟩
            rw [HT.out, List.length_append, List.map_append]
            exact HO1.out
          case measure => simp [intOf]; omega
    · obtain rfl : i = p.out.length := by omega
      obtain ⟨AT, ct, rfl, hrd, _, _, _⟩ := own_rd HW.out
      have hbnd := told_bnd p.out l p.out.length
      have hT0 : told0 p l = told p.out l p.out.length := rfl
      rw [hT0]
      have hcA : castAll p l = cast p (mid (told p.out l p.out.length)) (decide (0 < (told p.out l p.out.length).length)) l p.out.length := rfl
      have HCA := Lib.hid hcA
      clear hT0 hcA
      generalize hTT : told p.out l p.out.length = T at *
      have HTT := Lib.hid (show told0 p l = T from hTT)
      clear hTT
      have hmid := rmid_any (c := ct) T (by omega) hrd
      have hmb := mid_bnd (l := T) (a := -1099511627776) (b := 1099511627776) (by omega) (by omega) hbnd
      generalize hMM : mid T = m at *
      have HMM := Lib.hid hMM
      clear hMM
      generalize hOO : decide (0 < T.length) = ok at *
      have HOO := Lib.hid hOO
      clear hOO
      clear hbnd hrd HW
      go_wp2_with fail
      refine hmid.mono ?_
      rintro e w1 ⟨rfl, k1, rfl⟩
      have hS1 := HS.out.drewN k1
      clear q0 q1 q2 q3 HS hmid
      generalize wr.drewN k1 = w1 at *
      have hB0 : CB w lo hi p A1 A2 c1 c2 AL l w1.heap.size lo hi p A1 A2 c1 c2 (w1.alloc (.cells (rpc p A1 A2 c1 c2).toArray 74)) :=
        ⟨hS1.next (bl _ _), Blk.mk w1 74 _, hS1.rp.alloc _, hS1.sz, .inl ⟨rfl, rfl⟩, by have := hS1.hi; have := hS1.sz; simp; omega⟩
      have HB0 := Lib.hid hB0
      obtain ⟨q0, q1, q2, q3⟩ := hS1.cells
      have Bz := Blk.mk w1 74 [Value.int .i64 0, .int .i64 0, .slice none 0 0, .slice none 0 0]
      have f0 := Bz.free 0
      have f1 := Bz.free 1
      have f2 := Bz.free 2
      have f3 := Bz.free 3
      clear hB0 Bz hS1
      unfold rpc at HB0
      go_wp2_with fail
      clear q0 q1 q2 q3 f0 f1 f2 f3
      generalize w1.heap.size = g at *
      go_loopw [12, 13] (fun u _ wx => ∃ (i : Nat) (B1 B2 : Option Addr) (d1 d2 lo' hi' : Nat), i ≤ p.out.length ∧ u = .int .i64 (i : Int) ∧ CB w lo hi p A1 A2 c1 c2 AL l g lo' hi' (cast p m ok l i) B1 B2 d1 d2 wx) (fun u _ _ => p.out.length - (intOf u).toNat)
      case atStart => exact ⟨0, A1, A2, c1, c2, lo, hi, by omega, rfl, HB0.out⟩
      case round =>
        clear HB0
        obtain ⟨i, B1, B2, d1, d2, lo', hi', hile, rfl, hcb⟩ := hrel
        obtain ⟨q0, q1, q2, q3⟩ := hcb.a.cells
        obtain ⟨z0, z1, z2, z3⟩ := hcb.cells
        have HC := Lib.hid hcb
        clear hcb
        by_cases hlt : i < p.out.length
        · have hkept := cast_kept HOK.out m ok l i (by omega)
          obtain ⟨b, off, rfl, _, hbh, hbs, qi⟩ := HC.out.a.rp.is hlt
          have hltI : (i : Int) < (p.out.length : Int) := by omega
          have hi0' : (0 : Int) ≤ (i : Int) := by omega
          have y1 : IntKind.i64.wrap ((i : Int) + 1) = (i : Int) + 1 := IntWalk.i64_in _ (by omega)
          cases hb : p.is i with
          | true =>
            have hc := Lib.hid (cast_skip (m := m) (ok := ok) (l := l) hb)
            rw [hb] at qi
            clear z0 z1 z2 z3
            go_wp2_with fail
            go_roundw
            case rel => exact ⟨i + 1, B1, B2, d1, d2, lo', hi', by omega, by go_num, by rw [hc.out]; exact HC.out⟩
            case measure => simp [intOf]; omega
          | false =>
            rw [hb] at qi
            have HK := Lib.hid hkept
            have HBb := Lib.hid hb
            clear hkept hb
            have htells : ∀ k, Calls Try.prog 57 #[.slice AL l.length cap, .int .i64 (i : Int)] (wr.drewN k) fun e w' => e = .returned (.bool (tells l i)) ∧ wr.drewN k = w' := fun k => tells_any (HC.out.a.rd.drewN k) i
            go_wp2_with fail
            go_cut [87] (fun s wx => s = .bool (fine p.ap m ok l i) ∧ ∃ k, wx = wr.drewN k)
            case first =>
              cases ok with
              | false =>
                go_quiet (fail)
                go_wp2_with fail
                go_meet
                exact ⟨rfl, _, rfl⟩
              | true =>
                cases ht : tells l i with
                | false =>
                  have hF : fine p.ap m true l i = false := by unfold fine; rw [ht]; rfl
                  rw [ht] at htells
                  have HF := Lib.hid hF
                  clear hF ht
                  go_quiet ((go_at_call 57; with_reducible exact quiet_eq (htells _)))
                  go_wp2_with fail
                  go_meet
                  exact ⟨by rw [HF.out], _, rfl⟩
                | true =>
                  have hF : fine p.ap m true l i = (decide (xat l i - m ≤ p.ap) && decide (m - xat l i ≤ p.ap)) := by unfold fine; rw [ht]; rfl
                  rw [ht] at htells
                  have HF := Lib.hid hF
                  obtain ⟨hil, hx1, hx2⟩ := tells_bnd ht
                  obtain ⟨bs, os, rfl, hbsh, hbss, x0, x1⟩ := sam_cells HC.out.a.rd hil
                  have hilI : (i : Int) < (l.length : Int) := by omega
                  clear hF ht
                  generalize xat l i = x at *
                  have w1 : IntKind.i64.wrap (x - m) = x - m := IntWalk.i64_in _ (by omega)
                  have w2 : IntKind.i64.wrap (m - x) = m - x := IntWalk.i64_in _ (by omega)
                  by_cases g1 : x - m ≤ p.ap
                  · have d1 : decide (x - m ≤ p.ap) = true := decide_eq_true g1
                    by_cases g2 : m - x ≤ p.ap
                    · have d2 : decide (m - x ≤ p.ap) = true := decide_eq_true g2
                      go_quiet ((go_at_call 57; with_reducible exact quiet_eq (htells _)))
                      go_wp2_with fail
                      go_meet
                      exact ⟨by rw [HF.out, d1, d2]; rfl, _, rfl⟩
                    · have d2 : decide (m - x ≤ p.ap) = false := decide_eq_false g2
                      go_quiet ((go_at_call 57; with_reducible exact quiet_eq (htells _)))
                      go_wp2_with fail
                      go_meet
                      exact ⟨by rw [HF.out, d1, d2]; rfl, _, rfl⟩
                  · have d1 : decide (x - m ≤ p.ap) = false := decide_eq_false g1
                    go_quiet ((go_at_call 57; with_reducible exact quiet_eq (htells _)))
                    go_wp2_with fail
                    go_meet
                    exact ⟨by rw [HF.out, d1]; rfl, _, rfl⟩
            obtain ⟨rfl, k2, rfl⟩ := hcut
            have HC2 := Lib.hid (HC.out.drewN k2)
            have hilt : i < (cast p m ok l i).out.length := by rw [HK.out.out]; exact hlt
            have hist : i < (cast p m ok l i).st.length := by rw [HK.out.st, HOK.out.len]; exact hlt
            have hsb := HK.out.few i
            have hqo := Lib.hid (HK.out.ok HOK.out)
            have hq5 : (cast p m ok l i).out.length ≤ 5 := hqo.out.five
            clear q0 q1 q2 q3 z0 z1 z2 z3 qi htells HC
            generalize wr.drewN k2 = wx at *
            obtain ⟨q0, q1, q2, q3⟩ := HC2.out.a.cells
            obtain ⟨z0, z1, z2, z3⟩ := HC2.out.cells
            cases hf : fine p.ap m ok l i with
            | true =>
              have hc := Lib.hid (cast_fine HBb.out hf)
              clear hf HK HBb
              generalize cast p m ok l i = q at *
              have hset := set_any (w := wx) HC2.out.r hqo.out HC2.out.hi2 (s := 0) hilt false
              unfold rpv at hset
              go_wp2_with fail
              refine hset.mono ?_
              rintro e w2 ⟨E1, E2, e1, e2, rfl, hR, hb2⟩
              have HP := Lib.hid (HC2.out.put hb2 hR)
              have hn2 := HC2.out.next hb2
              obtain ⟨u0, u1, u2, u3⟩ := hn2.cells
              have f0 := hn2.free 0
              have f1 := hn2.free 1
              have f2 := hn2.free 2
              have f3 := hn2.free 3
              unfold rpv
              clear hset hn2 hR hb2 z0 z1 z2 z3 q0 q1 q2 q3
              go_wp2_with fail
              go_roundw
              case rel => exact ⟨i + 1, E1, E2, e1, e2, wx.heap.size, w2.heap.size, by omega, by go_num, by rw [hc.out]; exact HP.out⟩
              case measure => simp [intOf]; omega
            | false =>
              have hc := Lib.hid (cast_struck HBb.out hf)
              clear hf HK HBb
              generalize cast p m ok l i = q at *
              obtain ⟨b1, o1, rfl, _, hb1h, hb1s, si⟩ := HC2.out.r.sk hist
              have hilq : (i : Int) < (q.st.length : Int) := by omega
              have y2 : IntKind.i64.wrap ((q.sk i : Int) + 1) = (q.sk i : Int) + 1 := IntWalk.i64_in _ (by omega)
              have hbp : b1 ≠ g := by
                have := HC2.out.far
                have := HC2.out.a.hi
                have := HC2.out.g2
                omega
              by_cases hD : p.most ≤ ((q.sk i + 1 : Nat) : Int)
              · have dI : decide (p.most ≤ (q.sk i : Int) + 1) = true := decide_eq_true (by omega)
                have he : decide (1 < ins q.out) = decide ((1 : Int) < (ins q.out : Int)) := by rw [decide_eq_decide]; omega
                rw [decide_eq_true hD, Bool.true_and, he] at hc
                obtain ⟨bb, hbb⟩ : ∃ b, b = decide ((1 : Int) < (ins q.out : Int)) := ⟨_, rfl⟩
                have hset : ∀ wz, CB w lo hi p A1 (some ⟨b, off, none⟩) c1 c2 AL l g lo' hi' q (some ⟨b1, o1, none⟩) B2 d1 d2 wz → Calls Try.prog 56 #[rpv q (some ⟨b1, o1, none⟩) B2 d1 d2, .int .i64 (i : Int), .int .i64 ((q.sk i : Int) + 1), .bool (decide ((1 : Int) < (ins q.out : Int)))] wz (GotP wz (q.put i (q.sk i + 1) (decide ((1 : Int) < (ins q.out : Int))))) := fun wz hz => by
                  have := set_any (w := wz) hz.r hqo.out hz.hi2 (s := q.sk i + 1) hilt (decide ((1 : Int) < (ins q.out : Int)))
                  rw [Int.natCast_add] at this
                  exact this
                have hin : ∀ wz, CB w lo hi p A1 (some ⟨b, off, none⟩) c1 c2 AL l g lo' hi' q (some ⟨b1, o1, none⟩) B2 d1 d2 wz → Calls Try.prog 58 #[rpv q (some ⟨b1, o1, none⟩) B2 d1 d2] wz fun e w' => e = .returned (.int .i64 (ins q.out : Int)) ∧ Below wz.heap.size wz w' := fun wz hz => rin_any (w := wz) hz.r hq5
                unfold rpv at hset hin
                have hd := CB.drew HC2.out
                clear hD he hbb
                go_wp2_with fail
                go_region_with (first
                  | (go_at_call 58; (with_reducible refine (hin _ hd).mono ?_); rintro e w5 ⟨rfl, hb5⟩; have hd5 := CB.next hd hb5; obtain ⟨x0, x1, x2, x3⟩ := hd5.cells; obtain ⟨t0, t1, t2, t3⟩ := hd5.a.cells)
                  | (go_at_call 56; (with_reducible refine (hset _ hd5).mono ?_); rintro e w2 ⟨E1, E2, e1, e2, rfl, hR, hb2⟩; have HP := Lib.hid (CB.put hd5 hb2 hR); have hn2 := CB.next hd5 hb2; obtain ⟨u0, u1, u2, u3⟩ := hn2.cells; have f0 := hn2.free 0; have f1 := hn2.free 1; have f2 := hn2.free 2; have f3 := hn2.free 3; unfold rpv; clear hn2 hR hb2))
                all_goals
                  go_wp2_with fail
                  go_roundw
                  case rel => exact ⟨i + 1, E1, E2, e1, e2, _, _, by omega, by go_num, by rw [hc.out]; exact HP.out⟩
                  case measure => simp [intOf]; omega
              · have dI : decide (p.most ≤ (q.sk i : Int) + 1) = false := decide_eq_false (by omega)
                rw [decide_eq_false hD, Bool.false_and] at hc
                have hset : ∀ wz, CB w lo hi p A1 (some ⟨b, off, none⟩) c1 c2 AL l g lo' hi' q (some ⟨b1, o1, none⟩) B2 d1 d2 wz → Calls Try.prog 56 #[rpv q (some ⟨b1, o1, none⟩) B2 d1 d2, .int .i64 (i : Int), .int .i64 ((q.sk i : Int) + 1), .bool false] wz (GotP wz (q.put i (q.sk i + 1) false)) := fun wz hz => by
                  have := set_any (w := wz) hz.r hqo.out hz.hi2 (s := q.sk i + 1) hilt false
                  rw [Int.natCast_add] at this
                  exact this
                unfold rpv at hset
                have hd := CB.drew HC2.out
                clear hD
                go_wp2_with fail
                go_region_with (go_at_call 56; (with_reducible refine (hset _ hd).mono ?_); rintro e w2 ⟨E1, E2, e1, e2, rfl, hR, hb2⟩; have HP := Lib.hid (CB.put hd hb2 hR); have hn2 := CB.next hd hb2; obtain ⟨u0, u1, u2, u3⟩ := hn2.cells; have f0 := hn2.free 0; have f1 := hn2.free 1; have f2 := hn2.free 2; have f3 := hn2.free 3; unfold rpv; clear hn2 hR hb2)
                all_goals
                  go_wp2_with fail
                  go_roundw
                  case rel => exact ⟨i + 1, E1, E2, e1, e2, _, _, by omega, by go_num, by rw [hc.out]; exact HP.out⟩
                  case measure => simp [intOf]; omega
        · obtain rfl : i = p.out.length := by omega
          rw [← HCA.out] at HC z0 z1 z2 z3
          clear HCA
          generalize castAll p l = q at *
          have hr := HC.out.a.res
          have r0 : wr.cell? ⟨w.heap.size + 1, 0, none⟩ = some (.int .i64 0) := hr.cell 0
          have r1 : wr.cell? ⟨w.heap.size + 1, 1, none⟩ = some (.int .i64 0) := hr.cell 1
          have r2 : wr.cell? ⟨w.heap.size + 1, 2, none⟩ = some (.slice none 0 0) := hr.cell 2
          have r3 : wr.cell? ⟨w.heap.size + 1, 3, none⟩ = some (.slice none 0 0) := hr.cell 3
          have f0 := hr.free 0
          have f1 := hr.free 1
          have f2 := hr.free 2
          have f3 := hr.free 3
          clear hr
          go_wp2_with fail
          have hf := HC.out.far
          have hfi := HC.out.a.hi
          have hg := HC.out.g2
          refine bodyPost_ret (v := .tuple #[rpv q B1 B2 d1 d2, .int .i64 m, .bool ok]) (by simp [results, Try.results35, go_sem, rpv, r0, r1, r2, r3]) rfl ?_
          refine ⟨lo', hi', B1, B2, d1, d2, by rw [HTT.out, HMM.out, HOO.out], ?_, ?_, by omega, ?_⟩
          · exact (((HC.out.r.far (q := ⟨w.heap.size + 1, 0, none⟩) (by show w.heap.size + 1 < lo' ∨ hi' ≤ w.heap.size + 1; omega) _).far (q := ⟨w.heap.size + 1, 1, none⟩) (by show w.heap.size + 1 < lo' ∨ hi' ≤ w.heap.size + 1; omega) _).far (q := ⟨w.heap.size + 1, 2, none⟩) (by show w.heap.size + 1 < lo' ∨ hi' ≤ w.heap.size + 1; omega) _).far (q := ⟨w.heap.size + 1, 3, none⟩) (by show w.heap.size + 1 < lo' ∨ hi' ≤ w.heap.size + 1; omega) _
          · have := HC.out.hi2
            simpa using this
          · exact (((HC.out.a.keep.setCell (by show w.heap.size ≤ w.heap.size + 1; omega) _).setCell (by show w.heap.size ≤ w.heap.size + 1; omega) _).setCell (by show w.heap.size ≤ w.heap.size + 1; omega) _).setCell (by show w.heap.size ≤ w.heap.size + 1; omega) _
end Vot
end Go.Proofs.Ytoaagemofjddiaa
