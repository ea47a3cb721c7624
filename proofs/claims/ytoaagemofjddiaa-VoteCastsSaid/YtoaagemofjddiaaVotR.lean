/-
  The walks of the document's answer for votes: what a channel tells, how many are not out, a panel with one channel put.
-/
import Derived.Test.YtoaagemofjddiaaVotW2
namespace Go.Proofs.Ytoaagemofjddiaa
open Go.RowKit
set_option linter.unusedVariables false
namespace Vot

theorem own_block {w : World} {base n size : Nat} {e : TypeId} {v : Value} {l : List Value} (h : w.ownsRow base e size v n l) (hn : 0 < n) : ∃ g cap, v = .slice (some ⟨g, 0, Option.none⟩) n cap ∧ base ≤ g ∧ g < w.heap.size ∧ n ≤ cap ∧ cap ≤ maxLen := by
  obtain ⟨A, cap, rfl, hr, hc, hm, hA⟩ := own_rd h
  obtain ⟨hl, h2⟩ := h
  rcases h2 with ⟨e, h0⟩ | ⟨g, cap', cur, e, hb, hg, _⟩
  · omega
  · injection e with e1 e2 e3
    subst e1
    refine ⟨g, cap, rfl, hb, ?_, hc, hm⟩
    rcases Nat.lt_or_ge g w.heap.size with h' | h'
    · exact h'
    · rw [Array.getElem?_eq_none h'] at hg; cases hg
def skc (p : Pa) : List Value := p.st.map fun s : Nat => Value.int .i64 (s : Int)
def isc (p : Pa) : List Value := p.out.map Value.bool
/-- a panel of the document's -/
structure RP (w : World) (lo hi : Nat) (p : Pa) (A1 A2 : Option Addr) (c1 c2 : Nat) : Prop where
  st : RdL w lo hi A1 (skc p)
  out : RdL w lo hi A2 (isc p)
def rpv (p : Pa) (A1 A2 : Option Addr) (c1 c2 : Nat) : Value := .agg #[.int .i64 p.ap, .int .i64 p.most, .slice A1 p.st.length c1, .slice A2 p.out.length c2]
def rpc (p : Pa) (A1 A2 : Option Addr) (c1 c2 : Nat) : List Value := [.int .i64 p.ap, .int .i64 p.most, .slice A1 p.st.length c1, .slice A2 p.out.length c2]
section
variable {w w' : World} {lo hi : Nat} {p : Pa} {A1 A2 : Option Addr} {c1 c2 : Nat}
theorem RP.next (h : RP w lo hi p A1 A2 c1 c2) (hb : Below w.heap.size w w') : RP w' lo hi p A1 A2 c1 c2 := ⟨h.st.next hb, h.out.next hb⟩
theorem RP.alloc (h : RP w lo hi p A1 A2 c1 c2) (o : Obj) : RP (w.alloc o) lo hi p A1 A2 c1 c2 := h.next (bl w o)
theorem RP.drewN (h : RP w lo hi p A1 A2 c1 c2) (n : Nat) : RP (w.drewN n) lo hi p A1 A2 c1 c2 := ⟨h.st.drewN n, h.out.drewN n⟩
theorem RP.far (h : RP w lo hi p A1 A2 c1 c2) {q : Addr} (hp : q.block < lo ∨ hi ≤ q.block) (u : Value) : RP (w.setCell q u) lo hi p A1 A2 c1 c2 := ⟨h.st.far hp u, h.out.far hp u⟩
theorem RP.wide {lo' hi' : Nat} (h : RP w lo hi p A1 A2 c1 c2) (h1 : lo' ≤ lo) (h2 : hi ≤ hi') : RP w lo' hi' p A1 A2 c1 c2 := ⟨h.st.wide h1 h2, h.out.wide h1 h2⟩
/-- a cell of the strikes -/
theorem RP.sk (h : RP w lo hi p A1 A2 c1 c2) {i : Nat} (hi' : i < p.st.length) : ∃ b off, A1 = some ⟨b, off, none⟩ ∧ lo ≤ b ∧ b < hi ∧ b < w.heap.size ∧ w.cell? ⟨b, off + i, none⟩ = some (.int .i64 (p.sk i : Int)) := by
  obtain ⟨b, off, rfl, h1, h2, h3, hc⟩ := h.st.some (by simp [skc]; omega)
  refine ⟨b, off, rfl, h1, h2, h3, hc i _ ?_⟩
  simp [skc, Pa.sk, List.getD_eq_getElem?_getD, List.getElem?_eq_getElem hi']
theorem RP.is (h : RP w lo hi p A1 A2 c1 c2) {i : Nat} (hi' : i < p.out.length) : ∃ b off, A2 = some ⟨b, off, none⟩ ∧ lo ≤ b ∧ b < hi ∧ b < w.heap.size ∧ w.cell? ⟨b, off + i, none⟩ = some (.bool (p.is i)) := by
  obtain ⟨b, off, rfl, h1, h2, h3, hc⟩ := h.out.some (by simp [isc]; omega)
  refine ⟨b, off, rfl, h1, h2, h3, hc i _ ?_⟩
  simp [isc, Pa.is, List.getD_eq_getElem?_getD, List.getElem?_eq_getElem hi']
end
theorem sam_cells {w : World} {lo hi : Nat} {A : Option Addr} {l : List Sa} (h : RdL w lo hi A (l.flatMap sac)) {i : Nat} (hi' : i < l.length) :
    ∃ b off, A = some ⟨b, off, none⟩ ∧ b < hi ∧ b < w.heap.size ∧ w.cell? ⟨b, off + i * 2, none⟩ = some (.bool (here l i)) ∧ w.cell? ⟨b, off + i * 2 + 1, none⟩ = some (.int .i64 (xat l i)) := by
  obtain ⟨b, off, rfl, _, h2, h3, _⟩ := h.some (by rw [flatMap_len sac 2 sac_len]; omega)
  have hc := h.elem sac 2 sac_len hi'
  have e1 : here l i = l[i].1 := by simp [here, List.getD_eq_getElem?_getD, List.getElem?_eq_getElem hi']
  have e2 : xat l i = l[i].2 := by simp [xat, List.getD_eq_getElem?_getD, List.getElem?_eq_getElem hi']
  refine ⟨b, off, rfl, h2, h3, ?_, ?_⟩
  · rw [e1]; exact hc 0 _ (by decide) rfl
  · rw [e2]; exact hc 1 _ (by decide) rfl
set_option maxRecDepth 100000 in
set_option maxHeartbeats 1000000 in
theorem tells_any {w : World} {lo hi cap : Nat} {A : Option Addr} {l : List Sa} (R : RdL w lo hi A (l.flatMap sac)) (i : Nat) :
    Calls Try.prog 57 #[.slice A l.length cap, .int .i64 (i : Int)] w fun e w' => e = .returned (.bool (tells l i)) ∧ w = w' := by
  by_cases h : i < l.length
  · obtain ⟨b, off, rfl, _, _, q0, q1⟩ := sam_cells R h
    have ht : tells l i = (here l i && decide (-1099511627776 ≤ xat l i) && decide (xat l i ≤ 1099511627776)) := by unfold tells; rw [decide_eq_true h]; rfl
    rw [ht]
    have i1 : (i : Int) < (l.length : Int) := by omega
    have i2 : (0 : Int) ≤ (i : Int) := by omega
    have d1 : decide (i < l.length) = true := decide_eq_true h
    clear ht R
    generalize here l i = hr at *
    generalize xat l i = x at *
    cases hr
    · go_enter Try.func57, Try.ntmps57
      go_wp2
      go_ret
      exact ⟨rfl, rfl⟩
    · by_cases h1 : -1099511627776 ≤ x
      · have d2 : decide (-1099511627776 ≤ x) = true := decide_eq_true h1
        go_enter Try.func57, Try.ntmps57
        go_wp2
        go_ret
        exact ⟨by rw [d2]; rfl, rfl⟩
      · have d2 : decide (-1099511627776 ≤ x) = false := decide_eq_false h1
        go_enter Try.func57, Try.ntmps57
        go_wp2
        go_ret
        exact ⟨rfl, rfl⟩
  · rw [tells_out (by omega)]
    have d1 : decide (i < l.length) = false := decide_eq_false h
    go_enter Try.func57, Try.ntmps57
    go_wp2
    go_ret
    exact ⟨rfl, rfl⟩
set_option maxRecDepth 100000 in
set_option maxHeartbeats 1000000 in
theorem rin_any {w : World} {lo hi c1 c2 : Nat} {p : Pa} {A1 A2 : Option Addr} (S : RP w lo hi p A1 A2 c1 c2) (h5 : p.out.length ≤ 5) :
    Calls Try.prog 58 #[rpv p A1 A2 c1 c2] w fun e w' => e = .returned (.int .i64 (ins p.out : Int)) ∧ Below w.heap.size w w' := by
  have hB := Blk.mk w 74 (rpc p A1 A2 c1 c2)
  have q0 := hB.cell 3
  change _ = some (Value.slice A2 p.out.length c2) at q0
  have HS := Lib.hid (S.alloc (.cells (rpc p A1 A2 c1 c2).toArray 74))
  clear hB S
  unfold rpv
  unfold rpc at q0
  go_enter Try.func58, Try.ntmps58
  go_wp2
  go_loopw [3, 4] (fun o i wr => ∃ j : Nat, j ≤ p.out.length ∧ i = .int .i64 (j : Int) ∧ o = .int .i64 (ink p.out j : Int) ∧ wr = w.alloc (.cells (rpc p A1 A2 c1 c2).toArray 74)) (fun _ i _ => p.out.length - (intOf i).toNat)
  case atStart => exact ⟨0, by omega, rfl, rfl, rfl⟩
  case round =>
    obtain ⟨j, hj, rfl, rfl, rfl⟩ := hrel
    unfold rpc
    by_cases hlt : j < p.out.length
    · have hltI : (j : Int) < (p.out.length : Int) := by omega
      have hk := ink_le p.out j
      have y1 : IntKind.i64.wrap ((j : Int) + 1) = (j : Int) + 1 := IntWalk.i64_in _ (by omega)
      have y2 : IntKind.i64.wrap ((ink p.out j : Int) + 1) = (ink p.out j : Int) + 1 := IntWalk.i64_in _ (by omega)
      have i0 : (0 : Int) ≤ (j : Int) := by omega
      obtain ⟨b, off, rfl, _, _, hbs, q1⟩ := HS.out.is hlt
      unfold rpc at q1
      have hs := ink_succ p.out hlt
      cases hb : p.is j with
      | true =>
        rw [hb] at q1
        go_wp2
        go_roundw
        case rel => exact ⟨j + 1, by omega, by go_num, by rw [hs, show p.out.getD j false = true from hb]; rfl, trivial⟩
        case measure => simp [intOf]; omega
      | false =>
        rw [hb] at q1
        go_wp2
        go_roundw
        case rel => exact ⟨j + 1, by omega, by go_num, by rw [hs, show p.out.getD j false = false from hb]; go_num, trivial⟩
        case measure => simp [intOf]; omega
    · obtain rfl : j = p.out.length := by omega
      have hge : ¬ (p.out.length : Int) < (p.out.length : Int) := by omega
      go_wp2
      go_ret
      exact ⟨by rw [ink_all]; rfl, bl _ _⟩
end Vot
end Go.Proofs.Ytoaagemofjddiaa
