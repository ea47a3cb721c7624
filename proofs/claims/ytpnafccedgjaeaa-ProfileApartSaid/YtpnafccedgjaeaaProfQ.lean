/-
  The plain law of ProfileForgets: heights one step apart. No program in sight.
-/
import Derived.Test.YtpnafccedgjaeaaProfP
namespace Go.Proofs.Ytpnafccedgjaeaa.Prof

def hgt (z : List Int) (i : Nat) : Int := if i < z.length then z.getD i 0 else (i : Int)
def line (z : List Int) (i : Nat) : List Smp := (List.range i).map fun (j : Nat) => (⟨(j : Int), 0, hgt z j⟩ : Smp)
theorem line_len (z : List Int) (i : Nat) : (line z i).length = i := by simp [line]
theorem line_get (z : List Int) (i j : Nat) (h : j < i) : (line z i)[j]? = some ⟨(j : Int), 0, hgt z j⟩ := by simp [line, h]
theorem line_next (z : List Int) (i : Nat) : line z (i + 1) = line z i ++ [⟨(i : Int), 0, hgt z i⟩] := by simp [line, List.range_succ]
structure St (z : List Int) (i : Nat) (p : Pr) : Prop where
  ok : ok p
  all : all p = (line z i).drop (i - 64)
  gap : p.gap = 1
  y : p.y = 0
  x : p.x = ((i - 1 : Nat) : Int)
theorem St.zero (z : List Int) : St z 0 (new 1) := ⟨ok_new 1, rfl, by decide, rfl, rfl⟩
theorem St.n {z : List Int} {i : Nat} {p : Pr} (h : St z i p) : p.n = i - (i - 64) := by
  rw [← all_len, h.all, List.length_drop, line_len]
/-- ahead of the height i -/
structure Mv (z : List Int) (i : Nat) (p : Pr) : Prop where
  ok : Prof.ok p
  all : Prof.all p = (line z i).drop (i - 64)
  gap : p.gap = 1
  y : p.y = 0
  x : p.x = (i : Int)
theorem St.first {z : List Int} {p : Pr} (h : St z 0 p) : Mv z 0 p := ⟨h.ok, h.all, h.gap, h.y, h.x⟩
theorem St.may {z : List Int} {i : Nat} {p : Pr} (h : St z i p) (hi : i ≤ 1000) : mayMove p.x p.y 1 0 = true := by
  have := h.x
  have := h.y
  have b1 : inB 1 := by unfold inB; omega
  have b2 : inB 0 := by unfold inB; omega
  have b3 : inB (p.x + 1) := by unfold inB; omega
  have b4 : inB (p.y + 0) := by unfold inB; omega
  simp only [mayMove, decide_eq_true b1, decide_eq_true b2, decide_eq_true b3, decide_eq_true b4, Bool.and_self]
theorem St.move {z : List Int} {i : Nat} {p : Pr} (h : St z i p) (h0 : 0 < i) (hi : i ≤ 1000) : Mv z i (move p 1 0) := by
  have hm := h.may hi
  have hk := ok_move h.ok 1 0
  unfold Prof.move at *
  rw [if_pos hm] at *
  exact ⟨hk, h.all, h.gap, by show p.y + 0 = 0; rw [h.y]; rfl, by show p.x + 1 = _; rw [h.x]; omega⟩
theorem Mv.n {z : List Int} {i : Nat} {p : Pr} (h : Mv z i p) : p.n = i - (i - 64) := by
  rw [← all_len, h.all, List.length_drop, line_len]
theorem Mv.far {z : List Int} {i : Nat} {p : Pr} (h : Mv z i p) : near p = false := by
  have hn := h.n
  unfold near
  by_cases h0 : 0 < p.n
  · have hl := last_all h0
    rw [h.all, List.getElem?_drop, line_get _ _ _ (by omega)] at hl
    injection hl with hl
    rw [← hl]
    have hx := h.x
    have hg := h.gap
    have : decide (p.x - ((i - 64 + (p.n - 1) : Nat) : Int) < p.gap) = false := decide_eq_false (by omega)
    simp only [nearS, this, Bool.false_and, Bool.and_false]
  · rw [decide_eq_false h0]; rfl
theorem Mv.add {z : List Int} {i : Nat} {p : Pr} (h : Mv z i p) (h1 : -9223372036854775808 ≤ hgt z i) (h2 : hgt z i ≤ 9223372036854775807) : St z (i + 1) (add p (hgt z i)) := by
  have hk := ok_add h.ok (hgt z i) h1 h2
  have hn := h.n
  unfold Prof.add at *
  rw [h.far, if_neg (by decide)] at *
  have hf := ok_freed h.ok
  have e : (freed p).x = p.x ∧ (freed p).y = p.y ∧ (freed p).gap = p.gap := by unfold freed; split <;> exact ⟨rfl, rfl, rfl⟩
  refine ⟨hk, ?_, ?_, ?_, ?_⟩
  · rw [all_put hf.2, all_freed, e.1, e.2.1, h.x, h.y, h.all, line_next]
    by_cases h64 : i < 64
    · rw [if_neg (by omega), show i - 64 = 0 by omega, show i + 1 - 64 = 0 by omega]
      simp
    · rw [if_pos (by omega), List.drop_drop, List.drop_append_of_le_length (by rw [line_len]; omega)]
      congr 2
      omega
  · show (freed p).gap = 1; rw [e.2.2, h.gap]
  · show (freed p).y = 0; rw [e.2.1, h.y]
  · show (freed p).x = _; rw [e.1, h.x]; omega
theorem St.get {z : List Int} {i : Nat} {p : Pr} (h : St z i p) (hi : 64 ≤ i) (k : Nat) (hk : k < 64) : (Prof.all p)[k]? = some ⟨((i - 64 + k : Nat) : Int), 0, hgt z (i - 64 + k)⟩ := by
  rw [h.all, List.getElem?_drop, line_get _ _ _ (by omega)]
theorem St.full {z : List Int} {i : Nat} {p : Pr} (h : St z i p) (hi : 64 ≤ i) : p.n = 64 := by
  have := h.n
  omega
end Go.Proofs.Ytpnafccedgjaeaa.Prof
