/-
  The walk of package route's Reach.
-/
import Derived.Test.YtgncngpgodfijaaRouW5
namespace Go.Proofs.Ytgncngpgodfijaa
open Go.RowKit
set_option linter.unusedVariables false
namespace Rou
/-- what Reach and Find tell of the field and a square -/
def rcode (W H : Int) (C : List Int) (s : Int) : Int := if code W H C ≠ 0 then code W H C else if s < 0 ∨ (C.length : Int) ≤ s then 9 else 0
/-- what Reach hands back -/
def GotR (w : World) (W H : Int) (C : List Int) (s : Int) (e : Ending) (w' : World) : Prop :=
  ∃ v, e = .returned (.tuple #[v, .int .i64 (rcode W H C s)]) ∧ Below w.heap.size w w' ∧ (rcode W H C s ≠ 0 → v = .slice none 0 0) ∧
    (rcode W H C s = 0 → ∃ D K r b, w.heap.size ≤ b ∧ w'.ownsRow b 2 1 v D.length (D.map iv) ∧ Sol W.toNat H.toNat C s.toNat D K r)
set_option maxRecDepth 100000 in
set_option maxHeartbeats 2000000 in
theorem reach_any {w : World} {lo hi cap : Nat} (W H s : Int) {A : Option Addr} {C : List Int} (R : RdL w lo hi A (C.map iv)) (hhi : hi ≤ w.heap.size) :
    Calls Try.prog 52 #[.agg #[.int .i64 W, .int .i64 H, .slice A C.length cap], .int .i64 s] w (GotR w W H C s) := by
  have hB := Blk.mk w 82 (fdc W H A C.length cap)
  have HB := Lib.hid hB
  have HR := Lib.hid (R.alloc (.cells (fdc W H A C.length cap).toArray 82))
  have q0 : (w.alloc (.cells (fdc W H A C.length cap).toArray 82)).cell? ⟨w.heap.size, 0, none⟩ = some (.int .i64 W) := hB.cell 0
  have q1 : (w.alloc (.cells (fdc W H A C.length cap).toArray 82)).cell? ⟨w.heap.size, 1, none⟩ = some (.int .i64 H) := hB.cell 1
  have q2 : (w.alloc (.cells (fdc W H A C.length cap).toArray 82)).cell? ⟨w.heap.size, 2, none⟩ = some (.slice A C.length cap) := hB.cell 2
  have HK := Lib.hid (bl w (.cells (fdc W H A C.length cap).toArray 82))
  have hchk := ocheck_any (cap := cap) W H HR.out
  have hsz := HK.out.size
  clear R hB
  unfold fdc at q0 q1 q2 HB HR HK hchk hsz
  obtain ⟨n, hn⟩ : ∃ n, n = C.length := ⟨_, rfl⟩
  have HN := Lib.hid hn
  rw [← hn] at HB HR q0 q1 q2 HK hchk hsz ⊢
  have HH := Lib.hid hhi
  clear hhi hn
  go_enter Try.func52, Try.ntmps52
  go_wp2_with fail
  obtain ⟨c, hc⟩ : ∃ c, c = code W H C := ⟨_, rfl⟩
  rw [← hc] at hchk
  have HC := Lib.hid hc
  clear hc
  refine hchk.mono ?_
  rintro e w1 ⟨rfl, hb1⟩
  have HB1 := Lib.hid (HB.out.next hb1)
  have HR1 := Lib.hid (HR.out.next hb1)
  have HK1 := Lib.hid (bt HK.out hb1)
  have p0 : w1.cell? ⟨w.heap.size, 0, none⟩ = some (.int .i64 W) := HB1.out.cell 0
  have p1 : w1.cell? ⟨w.heap.size, 1, none⟩ = some (.int .i64 H) := HB1.out.cell 1
  have p2 : w1.cell? ⟨w.heap.size, 2, none⟩ = some (.slice A n cap) := HB1.out.cell 2
  clear q0 q1 q2 HB HR HK hb1 hchk hsz
  by_cases h0 : c = 0
  · have d0 : ((0 : Int) != (0 : Int)) = false := rfl
    have HOK := Lib.hid (code_ok (HC.out.symm.trans h0))
    subst h0
    by_cases h1 : s < 0
    · have d1 : decide (s < 0) = true := decide_eq_true h1
      have hr : rcode W H C s = 9 := by unfold rcode; rw [← HC.out, if_neg (by omega), if_pos (.inl h1)]
      go_wp2_with fail
      go_ret2
      exact ⟨_, by rw [hr]; rfl, HK1.out, fun _ => rfl, fun e => by rw [hr] at e; omega⟩
    · have d1 : decide (s < 0) = false := decide_eq_false h1
      by_cases h2 : (n : Int) ≤ s
      · have d2 : decide ((n : Int) ≤ s) = true := decide_eq_true h2
        have hr : rcode W H C s = 9 := by unfold rcode; rw [← HC.out, if_neg (by omega), if_pos (.inr (by rw [← HN.out]; exact h2))]
        go_wp2_with fail
        go_ret2
        exact ⟨_, by rw [hr]; rfl, HK1.out, fun _ => rfl, fun e => by rw [hr] at e; omega⟩
      · have d2 : decide ((n : Int) ≤ s) = false := decide_eq_false h2
        have hr : rcode W H C s = 0 := by unfold rcode; rw [← HC.out, if_neg (by omega), if_neg (by rw [← HN.out]; omega)]
        have es : ((s.toNat : Nat) : Int) = s := by omega
        have HK2 := Lib.hid HK1.out.size
        obtain ⟨hok, eW, eH⟩ := HOK.out
        have hk2 := HK2.out
        have hsr := search_any (cap := cap) (s := s.toNat) hok HR1.out (by have := HH.out; omega) (by rw [← hok.len, ← HN.out]; omega)
        rw [← eW, ← eH, es, ← HN.out] at hsr
        clear eW eH es hok hk2
        go_wp2_with fail
        refine hsr.mono ?_
        rintro e w2 ⟨v1, v2, D, K, r, rfl, hD, hK, hsol, hb2⟩
        have HE := Lib.hid (bt HK1.out hb2)
        have HD := Lib.hid hD
        have HSL := Lib.hid hsol
        clear hD hK hsol hb2
        go_wp2_with fail
        go_ret2
        exact ⟨_, by rw [hr]; rfl, HE.out, fun e => absurd hr e, fun _ => ⟨D, K, r, _, HK2.out, HD.out, HSL.out⟩⟩
  · have d0 : (c != (0 : Int)) = true := by rw [bne_iff_ne]; exact h0
    have hr : rcode W H C s = c := by unfold rcode; rw [← HC.out, if_pos h0]
    go_wp2_with fail
    go_ret2
    exact ⟨_, by rw [hr]; rfl, HK1.out, fun _ => rfl, fun e => absurd (hr.symm.trans e) h0⟩
end Rou
end Go.Proofs.Ytgncngpgodfijaa
