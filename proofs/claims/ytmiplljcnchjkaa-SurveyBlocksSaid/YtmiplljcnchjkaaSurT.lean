/-
  The walk of survey.Best.
-/
import Derived.Test.YtmiplljcnchjkaaSurB
namespace Go.Proofs.Ytmiplljcnchjkaa
open Go.RowKit
set_option linter.unusedVariables false
namespace Sur
def zq : Sq := ⟨0, 0, 0, 0, 0⟩
/-- the squares of the first places -/
def picked (L : List Sq) (R : List Nat) (m : Nat) : List Sq := (R.take m).map fun k => L.getD k zq
theorem sqs_zero (m : Nat) : sqs (List.replicate m zq) = List.replicate (m * 5) (.int .i64 0) := by
  induction m with
  | zero => rfl
  | succ m ih =>
    rw [List.replicate_succ, show (m + 1) * 5 = m * 5 + 1 + 1 + 1 + 1 + 1 by omega, List.replicate_succ, List.replicate_succ, List.replicate_succ, List.replicate_succ, List.replicate_succ, ← ih]
    rfl
theorem sqs_set : ∀ (D : List Sq) (i : Nat) (b : Sq), i < D.length → sqs (D.set i b) = (((((sqs D).set (i * 5) (.int .i64 b.x)).set (i * 5 + 1) (.int .i64 b.y)).set (i * 5 + 2) (.int .i64 b.r)).set (i * 5 + 3) (.int .i64 b.n)).set (i * 5 + 4) (.int .i64 b.v)
  | [], i, b, h => absurd h (Nat.not_lt_zero _)
  | d :: D, 0, b, h => rfl
  | d :: D, i + 1, b, h => by
    have ih := sqs_set D i b (by simpa using h)
    rw [List.set_cons_succ]
    show d.cells ++ sqs (D.set i b) = _
    rw [ih]
    have e : sqs (d :: D) = d.cells ++ sqs D := rfl
    rw [e]
    have hl : d.cells.length = 5 := rfl
    rw [List.set_append_right (h := by rw [hl]; omega), List.set_append_right (h := by rw [hl]; omega), List.set_append_right (h := by rw [hl]; omega), List.set_append_right (h := by rw [hl]; omega), List.set_append_right (h := by rw [hl]; omega), hl]
    rw [show (i + 1) * 5 - 5 = i * 5 by omega, show (i + 1) * 5 + 1 - 5 = i * 5 + 1 by omega, show (i + 1) * 5 + 2 - 5 = i * 5 + 2 by omega, show (i + 1) * 5 + 3 - 5 = i * 5 + 3 by omega, show (i + 1) * 5 + 4 - 5 = i * 5 + 4 by omega]
theorem put5 {w : World} {g : Nat} {t : TypeId} {D : List Sq} (h : Blk w g t (sqs D)) (i : Nat) (b : Sq) (hi : i < D.length) : Blk (((((w.setCell ⟨g, i * 5, none⟩ (.int .i64 b.x)).setCell ⟨g, i * 5 + 1, none⟩ (.int .i64 b.y)).setCell ⟨g, i * 5 + 2, none⟩ (.int .i64 b.r)).setCell ⟨g, i * 5 + 3, none⟩ (.int .i64 b.n)).setCell ⟨g, i * 5 + 4, none⟩ (.int .i64 b.v)) g t (sqs (D.set i b)) := by
  rw [sqs_set D i b hi]
  exact ((((h.put (i * 5) _).put (i * 5 + 1) _).put (i * 5 + 2) _).put (i * 5 + 3) _).put (i * 5 + 4) _
theorem far5 {w : World} {g g' : Nat} {t : TypeId} {l : List Value} (h : Blk w g' t l) (hn : g' ≠ g) (i0 i1 i2 i3 i4 : Nat) (a b c d e : Value) : Blk (((((w.setCell ⟨g, i0, none⟩ a).setCell ⟨g, i1, none⟩ b).setCell ⟨g, i2, none⟩ c).setCell ⟨g, i3, none⟩ d).setCell ⟨g, i4, none⟩ e) g' t l :=
  ((((h.far (p := ⟨g, i0, none⟩) hn _).far (p := ⟨g, i1, none⟩) hn _).far (p := ⟨g, i2, none⟩) hn _).far (p := ⟨g, i3, none⟩) hn _).far (p := ⟨g, i4, none⟩) hn _
theorem below5 {w0 w : World} {B g : Nat} (h : Below B w0 w) (hg : B ≤ g) (i0 i1 i2 i3 i4 : Nat) (a b c d e : Value) : Below B w0 (((((w.setCell ⟨g, i0, none⟩ a).setCell ⟨g, i1, none⟩ b).setCell ⟨g, i2, none⟩ c).setCell ⟨g, i3, none⟩ d).setCell ⟨g, i4, none⟩ e) :=
  ((((h.setCell (p := ⟨g, i0, none⟩) hg _).setCell (p := ⟨g, i1, none⟩) hg _).setCell (p := ⟨g, i2, none⟩) hg _).setCell (p := ⟨g, i3, none⟩) hg _).setCell (p := ⟨g, i4, none⟩) hg _
theorem rd5 {w : World} {lo hi g : Nat} {A : Option Addr} {l : List Value} (h : RdL w lo hi A l) (hg : hi ≤ g) (i0 i1 i2 i3 i4 : Nat) (a b c d e : Value) : RdL (((((w.setCell ⟨g, i0, none⟩ a).setCell ⟨g, i1, none⟩ b).setCell ⟨g, i2, none⟩ c).setCell ⟨g, i3, none⟩ d).setCell ⟨g, i4, none⟩ e) lo hi A l :=
  ((((h.far (p := ⟨g, i0, none⟩) (.inr hg) _).far (p := ⟨g, i1, none⟩) (.inr hg) _).far (p := ⟨g, i2, none⟩) (.inr hg) _).far (p := ⟨g, i3, none⟩) (.inr hg) _).far (p := ⟨g, i4, none⟩) (.inr hg) _
/-- what Best hands back -/
def GotB (w : World) (L : List Sq) (s k : Int) (e : Ending) (w' : World) : Prop :=
  Below w.heap.size w w' ∧ ((¬ AllOk L s ∧ e = .returned (.tuple #[.slice none 0 0, .int .i64 2])) ∨
    (AllOk L s ∧ ∃ (gb : Nat) (R : List Nat) (m : Nat), Ranked (tolds L s) R ∧ m = min k.toNat L.length ∧ w.heap.size ≤ gb ∧ e = .returned (.tuple #[.slice (some ⟨gb, 0, none⟩) m m, .int .i64 0]) ∧ Blk w' gb 61 (sqs (picked L R m))))
structure BT (w : World) (gr gb lo hi : Nat) (A : Option Addr) (L : List Sq) (R : List Nat) (D : List Sq) (wr : World) : Prop where
  row : Blk wr gr 3 (R.map natv)
  out : Blk wr gb 61 (sqs D)
  rd : RdL wr lo hi A (sqs L)
  b : Below w.heap.size w wr
  h1 : w.heap.size ≤ gb
  h2 : gb ≠ gr
  h3 : hi ≤ w.heap.size
theorem BT.put {w wr : World} {gr gb lo hi : Nat} {A : Option Addr} {L : List Sq} {R : List Nat} {D : List Sq} (S : BT w gr gb lo hi A L R D wr) (i : Nat) (b : Sq) (hi' : i < D.length) : BT w gr gb lo hi A L R (D.set i b) (((((wr.setCell ⟨gb, i * 5, none⟩ (.int .i64 b.x)).setCell ⟨gb, i * 5 + 1, none⟩ (.int .i64 b.y)).setCell ⟨gb, i * 5 + 2, none⟩ (.int .i64 b.r)).setCell ⟨gb, i * 5 + 3, none⟩ (.int .i64 b.n)).setCell ⟨gb, i * 5 + 4, none⟩ (.int .i64 b.v)) :=
  ⟨far5 S.row (fun e => S.h2 e.symm) _ _ _ _ _ _ _ _ _ _, put5 S.out i b hi', rd5 S.rd (Nat.le_trans S.h3 S.h1) _ _ _ _ _ _ _ _ _ _, below5 S.b S.h1 _ _ _ _ _ _ _ _ _ _, S.h1, S.h2, S.h3⟩
set_option maxRecDepth 100000 in
set_option maxHeartbeats 1000000 in
theorem best_any (A : Option Addr) (L : List Sq) (n cap lo hh : Nat) (s k : Int) (w : World) (hrd : RdL w lo hh A (sqs L)) (hhi : hh ≤ w.heap.size) (hn : L.length = n) (hn2 : n ≤ 100000) :
    Calls Try.prog 43 #[.slice A n cap, .int .i64 s, .int .i64 k] w (GotB w L s k) := by
  obtain ⟨i6, hi6, hz0, hz1, hz2⟩ := info_parts infoBlock
  have hrank := rank_any A L n cap lo hh s w hrd hhi hn hn2
  have HRD := Lib.hid hrd
  have HN := Lib.hid hn
  clear hrd
  go_enter Try.func43, Try.ntmps43
  go_wp2_with fail
  refine hrank.mono ?_
  clear hrank
  unfold GotK
  rintro e w2 ⟨hb2, ⟨hbad, rfl⟩ | ⟨hok, gr, R, hR, hgr, rfl, hB⟩⟩
  · have HB2 := Lib.hid hb2
    have HBAD := Lib.hid hbad
    clear hb2 hbad
    go_wp2_with fail
    go_ret2
    unfold GotB
    exact ⟨HB2.out, .inl ⟨HBAD.out, rfl⟩⟩
  · have HB2 := Lib.hid hb2
    have HOK := Lib.hid hok
    have HR := Lib.hid hR
    have HB := Lib.hid hB
    have HRD2 := Lib.hid (HRD.out.next hb2)
    have hRl : Hid (R.length = n ∧ ∀ j ∈ R, j < n) := Lib.hid (by
      have h1 := hR.1
      have h2 := h1.length_eq
      have hT : (tolds L s).length = n := by unfold tolds; rw [List.length_map, HN.out]
      rw [hT] at h1 h2
      rw [List.length_range] at h2
      exact ⟨h2, fun j hj => List.mem_range.1 (h1.mem_iff.1 hj)⟩)
    rw [HN.out]
    clear hb2 hok hR hB HRD
    obtain ⟨m, hm⟩ : ∃ m, m = min k.toNat n := ⟨_, rfl⟩
    have hmn : m ≤ n := by omega
    have hmk := mk_zero (P := Try.prog) 54 61 i6 _ _ 5 Try.underlying54 hi6 hz0 five_zero (by decide) hz1 (by omega) m m (Nat.le_refl _) (by omega)
    have HM := Lib.hid hm
    go_upto_region 4 with fail
    go_cut [8] (fun s8 wx => s8 = .slice (some ⟨gr, 0, none⟩) m n ∧ wx = w2)
    case first =>
      clear hmk
      go_wp2_with fail
      all_goals
        go_meet
        exact ⟨by congr 1; omega, rfl⟩
    obtain ⟨rfl, rfl⟩ := hcut
    clear hm
    obtain ⟨P, hP⟩ : ∃ P, P = picked L R m := ⟨_, rfl⟩
    have HPl : Hid (P.length = m) := Lib.hid (by rw [hP]; unfold picked; rw [List.length_map, List.length_take, hRl.out.1]; omega)
    have HPg : Hid (∀ i (h : i < m), ∃ r, r < n ∧ R[i]? = some r ∧ P[i]? = some (L.getD r zq)) := Lib.hid (fun i h => by
      have hi : i < R.length := by rw [hRl.out.1]; omega
      refine ⟨R[i], hRl.out.2 _ (List.getElem_mem hi), List.getElem?_eq_getElem hi, ?_⟩
      rw [hP]
      unfold picked
      rw [List.getElem?_map, List.getElem?_take_of_lt h, List.getElem?_eq_getElem hi]
      rfl)
    have HP := Lib.hid hP
    obtain ⟨gb, hgb⟩ : ∃ g, g = wc.heap.size := ⟨_, rfl⟩
    have HBT : Hid (BT w gr gb lo hh A L R (P.take 0 ++ List.replicate (m - 0) zq) (wc.alloc (.cells (List.replicate (m * 5) (Value.int .i64 0)).toArray 61))) := by
      rw [hgb]
      have h1 := Blk.mk wc 61 (List.replicate (m * 5) (Value.int .i64 0))
      have g1 := HB.out.lt
      have g2 := HB2.out.size
      refine Lib.hid ⟨HB.out.alloc _, ?_, HRD2.out.alloc _, bt HB2.out (bl _ _), by omega, by omega, hhi⟩
      rw [List.take_zero, List.nil_append, Nat.sub_zero, sqs_zero]
      exact h1
    have HGB := Lib.hid hgb
    clear hP hgb
    go_wp2_with fail
    rw [← HGB.out]
    go_loopw [11, 12, 34] (fun _ _ s34 wz => ∃ i : Nat, s34 = .int .i64 (i : Int) ∧ i ≤ m ∧ BT w gr gb lo hh A L R (P.take i ++ List.replicate (m - i) zq) wz) (fun _ _ s34 _ => m - (intOf s34).toNat)
    case atStart => exact ⟨0, rfl, by omega, HBT.out⟩
    case round =>
      clear HBT HB2 HB HRD2 hmk
      obtain ⟨i, rfl, hi0, hS⟩ := hrel
      have HS := Lib.hid hS
      clear hS
      by_cases hi : i < m
      · have di : decide (i < m) = true := decide_eq_true hi
        have i0 : (0 : Int) ≤ (i : Int) := by omega
        have i1 : (i : Int) < (m : Int) := by omega
        obtain ⟨r, hrn, hRi, hPi⟩ := HPg.out i hi
        have cr : wr.cell? ⟨gr, i, none⟩ = some (.int .i64 (r : Int)) := (HS.out.row.cell i).trans (by rw [List.getElem?_map, hRi]; rfl)
        have hrL : r < L.length := by rw [HN.out]; exact hrn
        obtain ⟨bL, oL, rfl, _, hb2, hb3, _⟩ := HS.out.rd.some (by rw [sqs_len]; omega)
        have hc := sq_elem HS.out.rd hrL
        have hgd : L.getD r zq = L[r] := by rw [List.getD_eq_getElem?_getD, List.getElem?_eq_getElem hrL]; rfl
        rw [hgd] at hPi
        obtain ⟨b, hb⟩ : ∃ b, b = L[r] := ⟨_, rfl⟩
        rw [← hb] at hc hPi
        have r0 : (0 : Int) ≤ (r : Int) := by omega
        have r1 : (r : Int) < (n : Int) := by omega
        have hDl : (P.take i ++ List.replicate (m - i) zq).length = m := by rw [List.length_append, List.length_take, List.length_replicate, HPl.out]; omega
        have hex : ∀ j, j < 5 → ∃ u, wr.cell? ⟨gb, i * 5 + j, none⟩ = some u := fun j hj => ⟨_, (HS.out.out.cell (i * 5 + j)).trans (List.getElem?_eq_getElem (by rw [sqs_len, hDl]; omega))⟩
        obtain ⟨u0, e0⟩ := hex 0 (by decide)
        rw [Nat.add_zero] at e0
        obtain ⟨u1, e1⟩ := hex 1 (by decide)
        obtain ⟨u2, e2⟩ := hex 2 (by decide)
        obtain ⟨u3, e3⟩ := hex 3 (by decide)
        obtain ⟨u4, e4⟩ := hex 4 (by decide)
        have f0 := HS.out.out.free (i * 5)
        have f1 := HS.out.out.free (i * 5 + 1)
        have f2 := HS.out.out.free (i * 5 + 2)
        have f3 := HS.out.out.free (i * 5 + 3)
        have f4 := HS.out.out.free (i * 5 + 4)
        have HS2 := Lib.hid (HS.out.put i b (by rw [hDl]; exact hi))
        have HST : Hid ((P.take i ++ List.replicate (m - i) zq).set i b = P.take (i + 1) ++ List.replicate (m - (i + 1)) zq) := Lib.hid (set_take _ _ _ _ _ hi HPl.out hPi)
        obtain ⟨x1, x2, x3, x4, x5⟩ := b
        obtain ⟨c0, c1, c2, c3, c4⟩ := hc
        dsimp only at c0 c1 c2 c3 c4 HS2
        clear hDl hex hgd hb hPi hRi HS
        go_wp2_with fail
        go_roundw
        case rel => exact ⟨i + 1, by go_num, by omega, by rw [← HST.out]; exact HS2.out⟩
        case measure => simp [intOf]; omega
      · have di : decide (i < m) = false := decide_eq_false hi
        have hin : i = m := by omega
        subst i
        have hS := HS.out
        rw [List.take_of_length_le (by rw [HPl.out]; exact Nat.le_refl _), Nat.sub_self, List.replicate_zero, List.append_nil, HP.out] at hS
        have HS1 := Lib.hid hS
        clear hS HS hi hi0
        go_wp2_with fail
        go_ret2
        unfold GotB
        rw [HN.out]
        exact ⟨HS1.out.b, .inr ⟨HOK.out, gb, R, m, HR.out, HM.out, HS1.out.h1, rfl, HS1.out.out⟩⟩
end Sur
end Go.Proofs.Ytmiplljcnchjkaa
