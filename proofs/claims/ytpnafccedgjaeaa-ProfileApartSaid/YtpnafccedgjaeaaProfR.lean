/-
  The plain law of ProfileApart: neighbours are far from each other. No program in sight.
-/
import Derived.Test.YtpnafccedgjaeaaProfQ
namespace Go.Proofs.Ytpnafccedgjaeaa.Prof

/-- two neighbours are no less than g apart -/
def apart (g : Int) (L : List Smp) : Prop := ∀ i s t, L[i]? = some s → L[i + 1]? = some t → nearS t.dx t.dy g s = false
theorem apart_drop {g : Int} {L : List Smp} (h : apart g L) (n : Nat) : apart g (L.drop n) := by
  intro i s t hs ht
  rw [List.getElem?_drop] at hs ht
  exact h (n + i) s t hs (by rw [← ht]; congr 1)
theorem apart_push {g : Int} {L : List Smp} {u : Smp} (h : apart g L) (hu : ∀ s, L[L.length - 1]? = some s → nearS u.dx u.dy g s = false) : apart g (L ++ [u]) := by
  intro i s t hs ht
  by_cases h1 : i + 1 < L.length
  · rw [List.getElem?_append_left (by omega)] at hs ht
    exact h i s t hs ht
  · by_cases h2 : i + 1 = L.length
    · rw [List.getElem?_append_left (by omega)] at hs
      rw [List.getElem?_append_right (by omega), h2, Nat.sub_self] at ht
      injection ht with ht
      subst ht
      refine hu s ?_
      rw [← hs]
      congr 1
      omega
    · rw [List.getElem?_eq_none (by simp; omega)] at ht
      cases ht
/-- the state of a profile in the law ProfileApart -/
structure Ap (g : Int) (p : Pr) : Prop where
  ok : Prof.ok p
  gap : p.gap = g
  z : ∀ s ∈ Prof.all p, -1099511627776 ≤ s.z ∧ s.z ≤ 1099511627776
  far : apart g (Prof.all p)
theorem Ap.zero {g : Int} (h0 : 0 ≤ g) (h1 : g ≤ 65535) : Ap g (new g) := by
  refine ⟨ok_new g, ?_, ?_, ?_⟩
  · show min (max g 0) 1048576 = g; omega
  · intro s hs; cases hs
  · intro i s t hs; cases hs
theorem Ap.move {g : Int} {p : Pr} (h : Ap g p) (dx dy : Int) : Ap g (move p dx dy) := by
  have hk := ok_move h.ok dx dy
  unfold Prof.move at *
  split at hk
  · rename_i hm
    rw [if_pos hm]
    exact ⟨hk, h.gap, h.z, h.far⟩
  · rename_i hm
    rw [if_neg hm]
    exact h
theorem Ap.add {g : Int} {p : Pr} (h : Ap g p) {z : Int} (h1 : -1099511627776 ≤ z) (h2 : z ≤ 1099511627776) : Ap g (add p z) := by
  have hk := ok_add h.ok z (by omega) (by omega)
  unfold Prof.add at *
  split at hk
  · rename_i hn
    rw [if_pos hn]
    exact h
  · rename_i hn
    rw [if_neg hn]
    have hf := ok_freed h.ok
    have e : (freed p).x = p.x ∧ (freed p).y = p.y ∧ (freed p).gap = p.gap := by unfold freed; split <;> exact ⟨rfl, rfl, rfl⟩
    refine ⟨hk, ?_, ?_, ?_⟩
    · show (freed p).gap = g; rw [e.2.2, h.gap]
    · rw [all_put hf.2, all_freed]
      intro s hs
      rcases List.mem_append.1 hs with hs | hs
      · exact h.z s (List.mem_of_mem_drop hs)
      · simp only [List.mem_singleton] at hs
        subst hs
        exact ⟨h1, h2⟩
    · rw [all_put hf.2, all_freed, e.1, e.2.1]
      refine apart_push (apart_drop h.far _) ?_
      intro s hs
      rw [List.getElem?_drop] at hs
      have hn0 : 0 < p.n := by
        rcases Nat.eq_zero_or_pos p.n with h0 | h0
        · rw [List.getElem?_eq_none (by rw [all_len]; omega)] at hs; cases hs
        · exact h0
      have hl := last_all hn0
      have hidx : (if p.n = 64 then 1 else 0) + (((Prof.all p).drop (if p.n = 64 then 1 else 0)).length - 1) = p.n - 1 := by
        rw [List.length_drop, all_len]
        split <;> omega
      rw [hidx, hl] at hs
      injection hs with hs
      subst hs
      have hnr : near p = false := by simpa using hn
      unfold near at hnr
      rw [decide_eq_true hn0, Bool.true_and, h.gap] at hnr
      exact hnr
end Go.Proofs.Ytpnafccedgjaeaa.Prof
