/-
  The walks of package pyramid: a cell of a level; what some cells are together.
-/
import Derived.Test.YtoaagemofjddiaaChecked
import Derived.Test.YtoaagemofjddiaaRows
import Derived.Test.YtoaagemofjddiaaRow
import Derived.Test.YtoaagemofjddiaaPyrQ
import Derived.StillTailTactics
import Derived.Deep.QuietTactic
import Derived.BigQuiet
import Derived.IntWalk
import Derived.Outline
import Derived.Laws.Rows
namespace Go.Proofs.Ytoaagemofjddiaa
open Go.RowKit
set_option linter.unusedVariables false
namespace Pyr

def cec (c : Ce) : List Value := [.int .i16 c.lo, .int .i16 c.hi, .int .i64 (c.n : Int)]
def cev (c : Ce) : Value := .agg #[.int .i16 c.lo, .int .i16 c.hi, .int .i64 (c.n : Int)]
theorem cec_len (c : Ce) : (cec c).length = 3 := rfl
theorem cec_one (l : List Ce) : ∀ u ∈ l.flatMap cec, u.oneCell' = true := by
  intro u hu
  obtain ⟨t, _, h⟩ := List.mem_flatMap.1 hu
  simp [cec] at h
  rcases h with rfl | rfl | rfl <;> rfl
theorem infoCell : (Try.prog.info? 38).map (fun i => (i.zero, i.size, i.bytes)) = some (some (.agg #[.int .i16 0, .int .i16 0, .int .i64 0]), 3, 16) := by kernel_rfl

set_option maxRecDepth 100000 in
set_option maxHeartbeats 1000000 in
theorem at_in (wd h x y : Nat) (A : Option Addr) (L : List Ce) (n cap lo hi : Nat) (w : World) (hrd : RdL w lo hi A (L.flatMap cec)) (hl : L.length = n) (hn : n = wd * h) (hcap : n ≤ cap) (hw : wd ≤ 100000) (hh : h ≤ 100000) (hx : x < wd) (hy : y < h) :
    Calls Try.prog 43 #[.agg #[.int .i64 (wd : Int), .int .i64 (h : Int), .slice A n cap], .int .i64 (x : Int), .int .i64 (y : Int)] w fun e w' => e = .returned (cev (L.getD (y * wd + x) zc)) ∧ Below w.heap.size w w' := by
  have hlt : y * wd + x < n := by rw [hn]; exact row_lt hx hy
  have hmx : wd * h ≤ 100000 * 100000 := Nat.mul_le_mul hw hh
  have hyw : y * wd ≤ 100000 * 100000 := Nat.mul_le_mul (by omega) hw
  obtain ⟨b, off, rfl, _, _, _, _⟩ := hrd.some (by rw [flatMap_len cec 3 cec_len]; omega)
  have hlL : y * wd + x < L.length := by omega
  have hc := hrd.elem cec 3 cec_len hlL
  have eg : L.getD (y * wd + x) zc = L[y * wd + x] := by simp [hlL]
  rw [eg]
  generalize L[y * wd + x] = c at *
  obtain ⟨l, u, m⟩ := c
  have c0 : w.cell? ⟨b, off + (y * wd + x) * 3, none⟩ = some (.int .i16 l) := hc 0 _ (by decide) rfl
  have c1 : w.cell? ⟨b, off + (y * wd + x) * 3 + 1, none⟩ = some (.int .i16 u) := hc 1 _ (by decide) rfl
  have c2 : w.cell? ⟨b, off + (y * wd + x) * 3 + 2, none⟩ = some (.int .i64 (m : Int)) := hc 2 _ (by decide) rfl
  have u1 : IntKind.i64.wrap ((y : Int) * (wd : Int)) = ((y * wd : Nat) : Int) := by rw [← Int.natCast_mul]; exact IntWalk.i64_in _ (by omega)
  have e1 : (y : Int) * (wd : Int) = ((y * wd : Nat) : Int) := by rw [Int.natCast_mul]
  have hqb : y * wd ≤ 10000000000 := by omega
  generalize hq : y * wd = q at *
  have hqi : (q : Int) ≤ 10000000000 := by omega
  have d1 : decide ((x : Int) < 0) = false := decide_eq_false (by omega)
  have d2 : decide (wd ≤ x) = false := decide_eq_false (by omega)
  have d3 : decide ((y : Int) < 0) = false := decide_eq_false (by omega)
  have d4 : decide (h ≤ y) = false := decide_eq_false (by omega)
  have i1 : (x : Int) < (wd : Int) := by omega
  have i2 : (y : Int) < (h : Int) := by omega
  have hlti : (q : Int) + (x : Int) < (n : Int) := by omega
  clear hc eg hmx hyw hrd hl hn hq
  go_enter Try.func43, Try.ntmps43
  go_wp2
  exact bodyPost_ret (v := cev ⟨l, u, m⟩) (by simp [results, Try.results43, go_sem, cev]) rfl ⟨rfl, bt (bl _ _) (bl _ _)⟩
set_option maxRecDepth 100000 in
set_option maxHeartbeats 1000000 in
theorem at_out (wd h x y : Nat) (A : Option Addr) (n cap : Nat) (w : World) (hw : wd ≤ 100000) (hh : h ≤ 100000) (hx : ¬ (x < wd ∧ y < h)) :
    Calls Try.prog 43 #[.agg #[.int .i64 (wd : Int), .int .i64 (h : Int), .slice A n cap], .int .i64 (x : Int), .int .i64 (y : Int)] w fun e w' => e = .returned (cev zc) ∧ Below w.heap.size w w' := by
  have d1 : decide ((x : Int) < 0) = false := decide_eq_false (by omega)
  have d3 : decide ((y : Int) < 0) = false := decide_eq_false (by omega)
  by_cases hx' : x < wd
  · have d2 : decide (wd ≤ x) = false := decide_eq_false (by omega)
    have d4 : decide (h ≤ y) = true := decide_eq_true (by omega)
    clear hx
    go_enter Try.func43, Try.ntmps43
    go_wp2
    exact bodyPost_ret (v := cev zc) (by simp [results, Try.results43, go_sem, cev, zc]) rfl ⟨rfl, bt (bl _ _) (bl _ _)⟩
  · have d2 : decide (wd ≤ x) = true := decide_eq_true (by omega)
    clear hx
    go_enter Try.func43, Try.ntmps43
    go_wp2
    exact bodyPost_ret (v := cev zc) (by simp [results, Try.results43, go_sem, cev, zc]) rfl ⟨rfl, bt (bl _ _) (bl _ _)⟩
/-- a cell of a level; of none that there is an empty one -/
theorem at_any (wd h x y : Nat) (A : Option Addr) (L : List Ce) (n cap lo hi : Nat) (w : World) (hrd : RdL w lo hi A (L.flatMap cec)) (hl : L.length = n) (hn : n = wd * h) (hcap : n ≤ cap) (hw : wd ≤ 100000) (hh : h ≤ 100000) :
    Calls Try.prog 43 #[.agg #[.int .i64 (wd : Int), .int .i64 (h : Int), .slice A n cap], .int .i64 (x : Int), .int .i64 (y : Int)] w fun e w' => e = .returned (cev (atL wd h L x y)) ∧ Below w.heap.size w w' := by
  unfold atL
  by_cases hx : x < wd ∧ y < h
  · rw [if_pos hx]
    exact at_in wd h x y A L n cap lo hi w hrd hl hn hcap hw hh hx.1 hx.2
  · rw [if_neg hx]
    exact at_out wd h x y A n cap w hw hh hx

theorem joins_snoc (l : List Ce) (c : Ce) : joins (l ++ [c]) = join (joins l) c := by simp [joins]
theorem joins_take (l : List Ce) (k : Nat) (h : k < l.length) : joins (l.take (k + 1)) = join (joins (l.take k)) l[k] := by
  rw [List.take_add_one, List.getElem?_eq_getElem h]
  exact joins_snoc _ _
def count (l : List Ce) : Nat := (l.map Ce.n).sum
theorem join_n (a b : Ce) : (join a b).n ≤ a.n + b.n := by
  unfold join
  split
  · omega
  · split
    · omega
    · exact Nat.le_refl _
theorem joins_n (l : List Ce) : ∀ c, (l.foldl join c).n ≤ c.n + count l := by
  induction l with
  | nil => intro c; simp [count]
  | cons x t ih =>
    intro c
    have h1 := ih (join c x)
    have h2 := join_n c x
    simp only [List.foldl_cons, count, List.map_cons, List.sum_cons] at *
    omega
theorem _root_.Go.Proofs.Ytoaagemofjddiaa.Blk.next {w w' : World} {g : Nat} {t : TypeId} {l : List Value} (h : Blk w g t l) (hb : Below w.heap.size w w') : Blk w' g t l := h.below hb h.lt
/-- a result's cell, and a cell, on the way -/
structure JS (w : World) (c : Ce) (wr : World) : Prop where
  res : Blk wr w.heap.size 38 (cec zc)
  out : Blk wr (w.heap.size + 1) 38 (cec c)
  below : Below w.heap.size w wr
theorem JS.next {w wr w' : World} {c : Ce} (S : JS w c wr) (h : Below wr.heap.size wr w') : JS w c w' := ⟨S.res.next h, S.out.next h, bt S.below h⟩
theorem JS.start (w : World) : JS w zc ((w.alloc (.cells (cec zc).toArray 38)).alloc (.cells (cec zc).toArray 38)) := by
  have b0 := (Blk.mk w 38 (cec zc)).alloc (.cells (cec zc).toArray 38)
  have b2 := Blk.mk (w.alloc (.cells (cec zc).toArray 38)) 38 (cec zc)
  have e : (w.alloc (.cells (cec zc).toArray 38)).heap.size = w.heap.size + 1 := by simp
  rw [e] at b2
  exact ⟨b0, b2, bt (bl _ _) (bl _ _)⟩
theorem JS.set3 {w wr : World} {c : Ce} (S : JS w c wr) (d : Ce) : JS w d (((wr.setCell ⟨w.heap.size + 1, 0, Option.none⟩ (.int .i16 d.lo)).setCell ⟨w.heap.size + 1, 1, Option.none⟩ (.int .i16 d.hi)).setCell ⟨w.heap.size + 1, 2, Option.none⟩ (.int .i64 (d.n : Int))) := by
  have h1 : w.heap.size ≠ w.heap.size + 1 := by omega
  refine ⟨((S.res.far (p := ⟨w.heap.size + 1, 0, Option.none⟩) h1 _).far (p := ⟨w.heap.size + 1, 1, Option.none⟩) h1 _).far (p := ⟨w.heap.size + 1, 2, Option.none⟩) h1 _, ?_, ((S.below.setCell (by simp) _).setCell (by simp) _).setCell (by simp) _⟩
  exact ((S.out.put 0 (.int .i16 d.lo)).put 1 (.int .i16 d.hi)).put 2 (.int .i64 (d.n : Int))
set_option maxRecDepth 100000 in
set_option maxHeartbeats 1000000 in
theorem join_any (A : Option Addr) (L : List Ce) (n cap lo hi : Nat) (w : World) (hrd : RdL w lo hi A (L.flatMap cec)) (hl : L.length = n) (hcap : n ≤ cap) (hm : n ≤ 1000) (hc : ∀ c ∈ L, c.n ≤ 1000000000) :
    Calls Try.prog 26 #[.slice A n cap] w fun e w' => e = .returned (cev (joins L)) ∧ Below w.heap.size w w' := by
  have HR := Lib.hid hrd
  have Hl := Lib.hid hl
  have Hc := Lib.hid hc
  clear hrd hl hc
  have S0 := Lib.hid (JS.start w)
  go_enter Try.func26, Try.ntmps26
  go_wp2
  go_loopw [8] (fun i wr => ∃ k : Nat, k ≤ n ∧ i = .int .i64 (k : Int) ∧ JS w (joins (L.take k)) wr) (fun i _ => n - (intOf i).toNat)
  case atStart => exact ⟨0, Nat.zero_le _, rfl, S0.out⟩
  case round =>
    obtain ⟨k, hk, rfl, S⟩ := hrel
    have HS := Lib.hid S
    have hcn : (joins (L.take k)).n ≤ 1000000000 * 1000 := by
      have h1 := joins_n (L.take k) zc
      have h2 : count (L.take k) ≤ (L.take k).length * 1000000000 := by
        have : ∀ l : List Ce, (∀ c ∈ l, c.n ≤ 1000000000) → count l ≤ l.length * 1000000000 := by
          intro l
          induction l with
          | nil => intro _; simp [count]
          | cons x t ih =>
            intro h
            have a := ih fun c hc => h c (List.mem_cons_of_mem _ hc)
            have b := h x List.mem_cons_self
            simp only [count, List.map_cons, List.sum_cons, List.length_cons] at *
            omega
        exact this _ fun c h => Hc.out c (List.mem_of_mem_take h)
      have h3 : (L.take k).length ≤ k := List.length_take_le _ _
      have h4 : zc.n = 0 := rfl
      show (List.foldl join zc (L.take k)).n ≤ _
      omega
    obtain ⟨o, ho⟩ : ∃ o, o = joins (L.take k) := ⟨_, rfl⟩
    rw [← ho] at hcn HS
    have HO := Lib.hid ho
    have e0 : wr.cell? ⟨w.heap.size + 1, 0, Option.none⟩ = some (.int .i16 o.lo) := HS.out.out.cell 0
    have e1 : wr.cell? ⟨w.heap.size + 1, 1, Option.none⟩ = some (.int .i16 o.hi) := HS.out.out.cell 1
    have e2 : wr.cell? ⟨w.heap.size + 1, 2, Option.none⟩ = some (.int .i64 (o.n : Int)) := HS.out.out.cell 2
    have f0 := HS.out.out.free 0
    have f1 := HS.out.out.free 1
    have f2 := HS.out.out.free 2
    have hsz : w.heap.size + 1 < wr.heap.size := HS.out.out.lt
    clear S ho
    by_cases hlt : k < n
    · have hkl : k < L.length := by rw [Hl.out]; exact hlt
      have hkI : (k : Int) < (n : Int) := by omega
      have hrd := HR.out.below HS.out.below (.inr (Nat.le_refl _))
      obtain ⟨b, off, rfl, _, _, _, _⟩ := hrd.some (by rw [flatMap_len cec 3 cec_len]; omega)
      have hc := hrd.elem cec 3 cec_len hkl
      have htk := joins_take L k hkl
      have hn1 := Hc.out L[k] (List.getElem_mem hkl)
      generalize L[k] = c at *
      have HT := Lib.hid htk
      obtain ⟨l, u, m⟩ := c
      have c0 : wr.cell? ⟨b, off + k * 3, Option.none⟩ = some (.int .i16 l) := hc 0 _ (by decide) rfl
      have c1 : wr.cell? ⟨b, off + k * 3 + 1, Option.none⟩ = some (.int .i16 u) := hc 1 _ (by decide) rfl
      have c2 : wr.cell? ⟨b, off + k * 3 + 2, Option.none⟩ = some (.int .i64 (m : Int)) := hc 2 _ (by decide) rfl
      dsimp only at hn1
      clear hc htk hrd
      by_cases hm0 : m < 1
      · have m0 : (m : Int) < 1 := by omega
        go_wp2
        go_roundw
        case rel => exact ⟨k + 1, by omega, by go_num, by
          rw [HT.out, ← HO.out]
          have : join o ⟨l, u, m⟩ = o := by unfold join; rw [if_pos hm0]
          rw [this]
          exact HS.out.next (bl _ _)⟩
        case measure => simp [intOf]; omega
      · have m0 : ¬ (m : Int) < 1 := by omega
        by_cases ho0 : o.n = 0
        · have z0 : ((o.n : Int) == 0) = true := by rw [beq_iff_eq]; omega
          go_wp2
          go_roundw
          case rel => exact ⟨k + 1, by omega, by go_num, by
            rw [HT.out, ← HO.out]
            have : join o ⟨l, u, m⟩ = ⟨l, u, m⟩ := by unfold join; rw [if_neg hm0, if_pos ho0]
            rw [this]
            exact (HS.out.set3 ⟨l, u, m⟩).next (bl _ _)⟩
          case measure => simp [intOf]; omega
        · have z0 : ((o.n : Int) == 0) = false := by rw [beq_eq_false_iff_ne]; omega
          go_wp2
          go_roundw
          case rel => exact ⟨k + 1, by omega, by go_num, by
            rw [HT.out, ← HO.out]
            have : join o ⟨l, u, m⟩ = ⟨if l < o.lo then l else o.lo, if o.hi < u then u else o.hi, o.n + m⟩ := by
              unfold join
              rw [if_neg hm0, if_neg ho0]
              congr 1
              · dsimp only; split <;> omega
              · dsimp only; split <;> omega
            rw [this]
            exact (HS.out.set3 ⟨if l < o.lo then l else o.lo, if o.hi < u then u else o.hi, o.n + m⟩).next (bl _ _)⟩
          case measure => simp [intOf]; omega
    · obtain rfl : k = n := by omega
      have hg : ¬ (k : Int) < (k : Int) := by omega
      have r0 := HS.out.res.free 0
      have r1 := HS.out.res.free 1
      have r2 := HS.out.res.free 2
      have q0 : wr.cell? ⟨w.heap.size, 0, Option.none⟩ = some (.int .i16 0) := HS.out.res.cell 0
      have q1 : wr.cell? ⟨w.heap.size, 1, Option.none⟩ = some (.int .i16 0) := HS.out.res.cell 1
      have q2 : wr.cell? ⟨w.heap.size, 2, Option.none⟩ = some (.int .i64 0) := HS.out.res.cell 2
      go_wp2
      have hk' := HO.out
      rw [List.take_of_length_le (by rw [Hl.out]; exact Nat.le_refl _)] at hk'
      refine bodyPost_ret (v := cev o) (by simp [results, Try.results26, go_sem, cev, q0, q1, q2]) rfl ⟨by rw [hk'], ((HS.out.below.setCell (by simp) _).setCell (by simp) _).setCell (by simp) _⟩
end Pyr
end Go.Proofs.Ytoaagemofjddiaa
