/-
  The law VoteCasts, walked and joined.
-/
import Derived.Test.YtoaagemofjddiaaVotG
import Derived.Test.YtoaagemofjddiaaVotR5
import Derived.Deep.RegionHeld3
namespace Go.Proofs.Ytoaagemofjddiaa
open Go.RowKit
set_option linter.unusedVariables false
namespace Vot

/-- what is done at one time: a channel is believed again, or not, and what all tell -/
structure VO where
  r : Bool
  i : Int
  A : Option Addr
  L : List Sa
  cap : Nat
def voc (x : VO) : List Value := [.bool x.r, .int .i64 x.i, .slice x.A x.L.length x.cap]
theorem voc_len (x : VO) : (voc x).length = 3 := rfl
theorem vo_cells {w : World} {lo hi : Nat} {A : Option Addr} {L : List VO} (h : RdL w lo hi A (L.flatMap voc)) {i : Nat} (hi' : i < L.length) :
    ∃ b off, A = some ⟨b, off, none⟩ ∧ b < hi ∧ b < w.heap.size ∧ w.cell? ⟨b, off + i * 3, none⟩ = some (.bool L[i].r) ∧ w.cell? ⟨b, off + i * 3 + 1, none⟩ = some (.int .i64 L[i].i) ∧ w.cell? ⟨b, off + i * 3 + 2, none⟩ = some (.slice L[i].A L[i].L.length L[i].cap) := by
  obtain ⟨b, off, rfl, _, h2, h3, _⟩ := h.some (by rw [flatMap_len voc 3 voc_len]; omega)
  have hc := h.elem voc 3 voc_len hi'
  exact ⟨b, off, rfl, h2, h3, hc 0 _ (by decide) rfl, hc 1 _ (by decide) rfl, hc 2 _ (by decide) rfl⟩
theorem open_sams {W : World} {cs : List Value} (h : (Sh.slice (.cat .bool (.cat (.int .i64) .unit))).Sat W cs) : ∃ (A : Option Addr) (L : List Sa) (cap : Nat), cs = [.slice A L.length cap] ∧ RdL W 0 W.heap.size A (L.flatMap sac) := by
  obtain ⟨A', len, cap', rfl, _⟩ := id h
  obtain ⟨A, L, cap, h1, h2, _⟩ := open_slice_of (v := .slice A' len cap') sac (fun _ => True) (.cat .bool (.cat (.int .i64) .unit)) 2 rfl sac_len (by decide) (by
    rintro cs ⟨_, _, rfl, ⟨b, rfl⟩, _, _, rfl, ⟨x, rfl, hx⟩, rfl⟩
    exact ⟨(b, x), rfl, trivial⟩) h
  exact ⟨A, L, cap, by rw [h1], h2⟩
theorem open_ops {W : World} {v : Value} (h : VSat W (.slice (.cat .bool (.cat (.int .i64) (.cat (.slice (.cat .bool (.cat (.int .i64) .unit))) .unit)))) false v) :
    ∃ (A : Option Addr) (L : List VO) (cap : Nat), v = .slice A L.length cap ∧ RdL W 0 W.heap.size A (L.flatMap voc) ∧ (∀ x ∈ L, RdL W 0 W.heap.size x.A (x.L.flatMap sac)) := by
  obtain ⟨A, L, cap, h1, h2, h3, h4⟩ := open_slice_of voc (fun x => RdL W 0 W.heap.size x.A (x.L.flatMap sac)) _ 3 rfl voc_len (by decide) (by
    rintro cs ⟨_, _, rfl, ⟨b, rfl⟩, _, _, rfl, ⟨x, rfl, hx⟩, _, _, rfl, hs, rfl⟩
    obtain ⟨A, L, cap, rfl, hr⟩ := open_sams hs
    exact ⟨⟨b, x, A, L, cap⟩, rfl, hr⟩) h
  exact ⟨A, L, cap, h1, h2, h3⟩
/-- the panel, the document's panel and the list, in memory -/
structure VC (w : World) (A : Option Addr) (L : List VO) (gp gr : Nat) (p : Pa) (lo hi : Nat) (A1 A2 : Option Addr) (c1 c2 : Nat) (wr : World) : Prop where
  pb : Blk wr gp 69 (pac p)
  rb : Blk wr gr 74 (rpc p A1 A2 c1 c2)
  rp : RP wr lo hi p A1 A2 c1 c2
  rd : RdL wr 0 w.heap.size A (L.flatMap voc)
  rds : ∀ x ∈ L, RdL wr 0 w.heap.size x.A (x.L.flatMap sac)
  keep : Below w.heap.size w wr
  gp0 : w.heap.size ≤ gp
  gr0 : w.heap.size ≤ gr
  ne : gp ≠ gr
  fp : gp < lo ∨ hi ≤ gp
  fr : gr < lo ∨ hi ≤ gr
  hs : hi ≤ wr.heap.size
section
variable {w wr w' : World} {A : Option Addr} {L : List VO} {gp gr : Nat} {p q : Pa} {lo hi : Nat} {A1 A2 : Option Addr} {c1 c2 : Nat}
theorem VC.next (S : VC w A L gp gr p lo hi A1 A2 c1 c2 wr) (hb : Below wr.heap.size wr w') : VC w A L gp gr p lo hi A1 A2 c1 c2 w' :=
  ⟨S.pb.next hb, S.rb.next hb, S.rp.next hb, S.rd.next hb, fun x hx => (S.rds x hx).next hb, bt S.keep hb, S.gp0, S.gr0, S.ne, S.fp, S.fr, Nat.le_trans S.hs hb.size⟩
theorem VC.drewN (S : VC w A L gp gr p lo hi A1 A2 c1 c2 wr) (k : Nat) : VC w A L gp gr p lo hi A1 A2 c1 c2 (wr.drewN k) :=
  S.next (below_drewN (Below.refl _ _) k)
theorem VC.drew (S : VC w A L gp gr p lo hi A1 A2 c1 c2 wr) : VC w A L gp gr p lo hi A1 A2 c1 c2 wr.drew := S.drewN 1
theorem VC.rcells (S : VC w A L gp gr p lo hi A1 A2 c1 c2 wr) : wr.cell? ⟨gr, 0, Option.none⟩ = some (.int .i64 p.ap) ∧ wr.cell? ⟨gr, 1, Option.none⟩ = some (.int .i64 p.most) ∧ wr.cell? ⟨gr, 2, Option.none⟩ = some (.slice A1 p.st.length c1) ∧ wr.cell? ⟨gr, 3, Option.none⟩ = some (.slice A2 p.out.length c2) :=
  ⟨S.rb.cell 0, S.rb.cell 1, S.rb.cell 2, S.rb.cell 3⟩
/-- the program's panel and the document's are another one now, both the same -/
theorem VC.both (S : VC w A L gp gr p lo hi A1 A2 c1 c2 wr) {lo' hi' : Nat} {B1 B2 : Option Addr} {d1 d2 : Nat} {w1 w2 : World} (hb : Below wr.heap.size wr w1) (R : RP w1 lo' hi' q B1 B2 d1 d2) (hh : hi' ≤ w1.heap.size) (hl : (lo' = lo ∧ hi' = hi) ∨ wr.heap.size ≤ lo')
    (hw : w2 = (((w1.setCell ⟨gr, 0, none⟩ (.int .i64 q.ap)).setCell ⟨gr, 1, none⟩ (.int .i64 q.most)).setCell ⟨gr, 2, none⟩ (.slice B1 q.st.length d1)).setCell ⟨gr, 3, none⟩ (.slice B2 q.out.length d2)) (hP : Blk w' gp 69 (pac q)) (hg : w2.grownBy w' (some gp)) :
    VC w A L gp gr q lo' hi' B1 B2 d1 d2 w' := by
  have hgr := S.rb.lt
  have hgp := S.pb.lt
  have hgw := S.keep.size
  have e1 := S.gp0
  have e2 := S.gr0
  have e3 := S.fp
  have e4 := S.fr
  have far : gr < lo' ∨ hi' ≤ gr := by omega
  have fap : gp < lo' ∨ hi' ≤ gp := by omega
  have g2 : wr.grownBy w1 (some gr) := only_below hb _
  have g3 : wr.grownBy w2 (some gr) := by rw [hw]; exact only_set (only_set (only_set (only_set g2 _ _) _ _) _ _) _ _
  have b2 : Blk w2 gr 74 (rpc q B1 B2 d1 d2) := by
    rw [hw]
    exact ((((S.rb.next hb).put 0 (.int .i64 q.ap)).put 1 (.int .i64 q.most)).put 2 (.slice B1 q.st.length d1)).put 3 (.slice B2 q.out.length d2)
  have r2 : RP w2 lo' hi' q B1 B2 d1 d2 := by
    rw [hw]
    exact (((R.far (q := ⟨gr, 0, none⟩) far _).far (q := ⟨gr, 1, none⟩) far _).far (q := ⟨gr, 2, none⟩) far _).far (q := ⟨gr, 3, none⟩) far _
  have s2 : w1.heap.size ≤ w2.heap.size := by rw [hw]; simp
  have k2 : Below w.heap.size w w2 := bgrow S.keep g3 hgw e2
  refine ⟨hP, b2.grown hg (fun e => S.ne (Option.some.inj e).symm), ⟨r2.st.grown hg (fun g e => by have := Option.some.inj e; omega), r2.out.grown hg (fun g e => by have := Option.some.inj e; omega)⟩, ?_, ?_, bgrow k2 hg k2.size e1, e1, e2, S.ne, fap, far, Nat.le_trans hh (Nat.le_trans s2 hg.size)⟩
  · exact (S.rd.grown g3 (fun g e => by have := Option.some.inj e; omega)).grown hg (fun g e => by have := Option.some.inj e; omega)
  · exact fun x hx => ((S.rds x hx).grown g3 (fun g e => by have := Option.some.inj e; omega)).grown hg (fun g e => by have := Option.some.inj e; omega)
end
set_option maxRecDepth 100000 in
set_option maxHeartbeats 1000000 in
theorem lawCasts_out (n ap most : Int) (A : Option Addr) (m cap : Nat) (h : 60 < m) (w : World) :
    Calls Try.prog 9 #[.int .i64 n, .int .i64 ap, .int .i64 most, .slice A m cap] w fun e w' => e = .returned (.bool true) ∧ Below w.heap.size w w' := by
  have d1 : decide (60 < (m : Int)) = true := decide_eq_true (by omega)
  have d1' : decide (60 < m) = true := decide_eq_true h
  clear h
  go_enter Try.func9, Try.ntmps9
  go_wp2_with fail
  refine (works29_any _).mono ?_
  rintro e w1 ⟨rfl, hb⟩
  go_wp2
  go_ret
  exact ⟨rfl, hb⟩
set_option maxRecDepth 100000 in
set_option maxHeartbeats 1000000 in
theorem lawCasts_no (n ap most : Int) (A : Option Addr) (m cap : Nat) (h : ¬ 60 < m) (hr : ¬ right n ap most) (w : World) :
    Calls Try.prog 9 #[.int .i64 n, .int .i64 ap, .int .i64 most, .slice A m cap] w fun e w' => e = .returned (.bool true) ∧ Below w.heap.size w w' := by
  have d1 : decide (60 < (m : Int)) = false := decide_eq_false (by omega)
  have d1' : decide (60 < m) = false := decide_eq_false h
  have hnew := fun X => new_no n ap most hr X
  have HR := Lib.hid hr
  clear h hr
  go_enter Try.func9, Try.ntmps9
  go_wp2_with fail
  refine (hnew _).mono ?_
  rintro e w1 ⟨rfl, hb1⟩
  have HB1 := Lib.hid (bt hb1 (bl w1 (.cells zeroP.toArray 69)))
  unfold zeroP at HB1 ⊢
  clear hnew hb1
  go_upto_region 4 with fail
  go_cut [11] (fun s wx => s = .bool false ∧ Below w.heap.size w wx)
  case first =>
    have HB2 := HB1.out
    by_cases g1 : 1 ≤ n
    · have e1 : decide (1 ≤ n) = true := decide_eq_true g1
      by_cases g2 : n ≤ 5
      · have e2 : decide (n ≤ 5) = true := decide_eq_true g2
        by_cases g3 : 0 ≤ ap
        · have e3 : decide (0 ≤ ap) = true := decide_eq_true g3
          by_cases g4 : ap ≤ 1099511627776
          · have e4 : decide (ap ≤ 1099511627776) = true := decide_eq_true g4
            by_cases g5 : 1 ≤ most
            · have e5 : decide (1 ≤ most) = true := decide_eq_true g5
              have e6 : decide (most ≤ 100) = false := decide_eq_false (fun g6 => HR.out ⟨g1, g2, g3, g4, g5, g6⟩)
              go_wp2_with fail
              go_meet
              exact ⟨rfl, HB2⟩
            · have e5 : decide (1 ≤ most) = false := decide_eq_false g5
              go_wp2_with fail
              go_meet
              exact ⟨rfl, HB2⟩
          · have e4 : decide (ap ≤ 1099511627776) = false := decide_eq_false g4
            go_wp2_with fail
            go_meet
            exact ⟨rfl, HB2⟩
        · have e3 : decide (0 ≤ ap) = false := decide_eq_false g3
          go_wp2_with fail
          go_meet
          exact ⟨rfl, HB2⟩
      · have e2 : decide (n ≤ 5) = false := decide_eq_false g2
        go_wp2_with fail
        go_meet
        exact ⟨rfl, HB2⟩
    · have e1 : decide (1 ≤ n) = false := decide_eq_false g1
      go_wp2_with fail
      go_meet
      exact ⟨rfl, HB2⟩
  obtain ⟨rfl, hB⟩ := hcut
  have HB2 := Lib.hid hB
  clear hB HB1
  go_wp2_with fail
  refine (works29_any _).mono ?_
  rintro e w3 ⟨rfl, hb⟩
  go_wp2
  go_ret
  exact ⟨rfl, bt HB2.out hb⟩
theorem zcells {w : World} {g : Nat} (h : Blk w g 74 [.int .i64 0, .int .i64 0, .slice none 0 0, .slice none 0 0]) : w.cell? ⟨g, 0, Option.none⟩ = some (.int .i64 0) ∧ w.cell? ⟨g, 1, Option.none⟩ = some (.int .i64 0) ∧ w.cell? ⟨g, 2, Option.none⟩ = some (.slice Option.none 0 0) ∧ w.cell? ⟨g, 3, Option.none⟩ = some (.slice Option.none 0 0) := ⟨h.cell 0, h.cell 1, h.cell 2, h.cell 3⟩
/-- what is done ahead of a cast -/
def resets (p : Pa) (r : Bool) (i : Int) : Pa := if r = true ∧ 0 ≤ i ∧ i < (p.out.length : Int) then p.put i.toNat 0 false else p
theorem resets_ok {p : Pa} {B : Nat} (h : p.ok B) (r : Bool) (i : Int) : (resets p r i).ok B ∧ (resets p r i).out.length = p.out.length := by
  unfold resets
  split
  · rename_i hh
    exact ⟨reset_ok h (by omega), (put_len _ _ _ _).2⟩
  · exact ⟨h, rfl⟩
theorem rpc_cells {w : World} {g : Nat} {q : Pa} {B1 B2 : Option Addr} {d1 d2 : Nat} (h : Blk w g 74 (rpc q B1 B2 d1 d2)) : w.cell? ⟨g, 0, Option.none⟩ = some (.int .i64 q.ap) ∧ w.cell? ⟨g, 1, Option.none⟩ = some (.int .i64 q.most) ∧ w.cell? ⟨g, 2, Option.none⟩ = some (.slice B1 q.st.length d1) ∧ w.cell? ⟨g, 3, Option.none⟩ = some (.slice B2 q.out.length d2) := ⟨h.cell 0, h.cell 1, h.cell 2, h.cell 3⟩
/-- the document's panel as it becomes, in a cell of its own -/
def PQ (wr : World) (lo hi : Nat) (q : Pa) (s : Value) (wx : World) : Prop := ∃ (g lo' hi' : Nat) (B1 B2 : Option Addr) (d1 d2 : Nat), s = .pointer (some ⟨g, 0, none⟩) ∧ Below wr.heap.size wr wx ∧ Blk wx g 74 (rpc q B1 B2 d1 d2) ∧ RP wx lo' hi' q B1 B2 d1 d2 ∧ hi' ≤ wx.heap.size ∧ ((lo' = lo ∧ hi' = hi) ∨ wr.heap.size ≤ lo')
section
variable {wr w5 : World} {lo hi lo' hi' : Nat} {q : Pa} {B1 B2 : Option Addr} {d1 d2 : Nat}
theorem fin_new (hb : Below wr.heap.size wr w5) (R : RP w5 lo' hi' q B1 B2 d1 d2) (hh : hi' ≤ w5.heap.size) (hl : (lo' = lo ∧ hi' = hi) ∨ wr.heap.size ≤ lo') :
    PQ wr lo hi q (.pointer (some ⟨w5.heap.size, 0, none⟩)) (w5.alloc (.cells (rpc q B1 B2 d1 d2).toArray 74)) :=
  ⟨_, lo', hi', B1, B2, d1, d2, rfl, bt hb (bl _ _), Blk.mk w5 _ _, R.alloc _, by simp; omega, hl⟩
theorem fin_old (hz : Blk w5 wr.heap.size 74 [.int .i64 0, .int .i64 0, .slice none 0 0, .slice none 0 0]) (hb : Below wr.heap.size wr w5) (R : RP w5 lo' hi' q B1 B2 d1 d2) (hh : hi' ≤ w5.heap.size) (hl : (lo' = lo ∧ hi' = hi ∧ hi ≤ wr.heap.size) ∨ wr.heap.size + 1 ≤ lo') :
    PQ wr lo hi q (.pointer (some ⟨wr.heap.size, 0, none⟩)) ((((w5.setCell ⟨wr.heap.size, 0, none⟩ (.int .i64 q.ap)).setCell ⟨wr.heap.size, 1, none⟩ (.int .i64 q.most)).setCell ⟨wr.heap.size, 2, none⟩ (.slice B1 q.st.length d1)).setCell ⟨wr.heap.size, 3, none⟩ (.slice B2 q.out.length d2)) := by
  have far : wr.heap.size < lo' ∨ hi' ≤ wr.heap.size := by omega
  refine ⟨_, lo', hi', B1, B2, d1, d2, rfl, (((hb.setCell (Nat.le_refl _) _).setCell (Nat.le_refl _) _).setCell (Nat.le_refl _) _).setCell (Nat.le_refl _) _, ?_, ?_, by simpa using hh, by omega⟩
  · exact (((hz.put 0 (.int .i64 q.ap)).put 1 (.int .i64 q.most)).put 2 (.slice B1 q.st.length d1)).put 3 (.slice B2 q.out.length d2)
  · exact (((R.far (q := ⟨wr.heap.size, 0, none⟩) far _).far (q := ⟨wr.heap.size, 1, none⟩) far _).far (q := ⟨wr.heap.size, 2, none⟩) far _).far (q := ⟨wr.heap.size, 3, none⟩) far _
theorem below_drew1 {a b : World} (h : Below a.drew.heap.size a.drew b) : Below a.heap.size a b := bt (below_drewN (Below.refl _ a) 1) h
theorem below_new1 {a b : World} {o : Obj} (h : Below (a.alloc o).drew.heap.size (a.alloc o).drew b) : Below a.heap.size a b := bt (bt (bl a o) (below_drewN (Below.refl _ _) 1)) h
end
end Vot
end Go.Proofs.Ytoaagemofjddiaa
