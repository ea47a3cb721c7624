/-
  Words of a line: the plain law. No program in sight.
-/
import Derived.Test.YtijijfggppnbpaaTxtP
namespace Go.Proofs.Ytijijfggppnbpaa
open Go.RowKit
set_option linter.unusedVariables false
namespace Txt

def wl : List UInt8 → List UInt8 → List (List UInt8) → Option (List (List UInt8))
  | [], _, out => some out
  | c :: r, cur, out => if c = 32 then (if cur = [] then none else wl r [] (out ++ [cur])) else wl r (cur ++ [c]) out
def words (l : List UInt8) : Option (List (List UInt8)) := if 80 < l.length then none else wl (l ++ [32]) [] []
theorem wl_skip : ∀ (m r cur : List UInt8) (out : List (List UInt8)), (∀ c ∈ m, c ≠ 32) → wl (m ++ r) cur out = wl r (cur ++ m) out
  | [], r, cur, out, _ => by simp
  | c :: m, r, cur, out, h => by
    rw [List.cons_append, wl, if_neg (h c List.mem_cons_self), wl_skip m r _ out (fun x hx => h x (List.mem_cons_of_mem _ hx)), List.append_assoc]
    rfl
theorem dec_low (l : List UInt8) (p : Nat) (h : p < l.length) (hb : l[p].toNat < 128) : Utf8.decode (tx l) p = (l[p].toNat, 1) :=
  decode_ascii (tx l) p h hb
/-- a byte that is no ASCII begins a rune of no ASCII, whose bytes are none -/
theorem dec_high (l : List UInt8) (p : Nat) (h : p < l.length) (hb : 128 ≤ l[p].toNat) :
    ∃ r n, Utf8.decode (tx l) p = (r, n) ∧ 128 ≤ r ∧ r < 1114112 ∧ 1 ≤ n ∧ p + n ≤ l.length ∧ ∀ k (hk : p + k < l.length), k < n → 128 ≤ (l[p + k]).toNat := by
  have h0 : ((tx l).get! (p + 0)).toNat = l[p].toNat := by rw [tx_get l (p + 0) (by omega)]; rfl
  have hk0 : ∀ k (hk : p + k < l.length), k < 1 → 128 ≤ (l[p + k]).toNat := fun k hk hk1 => by
    obtain rfl : k = 0 := by omega
    exact hb
  have hcont : ∀ k, (decide (p + k < (tx l).size) && ((tx l).get! (p + k)).toNat / 64 == 2) = true → ∃ hk : p + k < l.length, 128 ≤ (l[p + k]).toNat := fun k hc => by
    obtain ⟨h1, h2⟩ := Bool.and_eq_true_iff.1 hc
    have h1 : p + k < l.length := of_decide_eq_true h1
    have h2 := beq_iff_eq.1 h2
    rw [tx_get l _ h1] at h2
    exact ⟨h1, by omega⟩
  unfold Utf8.decode
  simp only [h0]
  have hx := l[p].toNat_lt
  rw [if_neg (by omega)]
  have herr : ∃ r n, ((Utf8.runeError, 1) : Nat × Nat) = (r, n) ∧ 128 ≤ r ∧ r < 1114112 ∧ 1 ≤ n ∧ p + n ≤ l.length ∧ ∀ k (hk : p + k < l.length), k < n → 128 ≤ (l[p + k]).toNat :=
    ⟨_, 1, rfl, by decide, by decide, by omega, by omega, hk0⟩
  have hv : ∀ c, Utf8.valid c = true → c < 1114112 := fun c hc => by
    unfold Utf8.valid at hc
    simp at hc
    omega
  split
  · rename_i hc
    obtain ⟨_, c1⟩ := Bool.and_eq_true_iff.1 hc
    obtain ⟨k1, b1⟩ := hcont 1 c1
    split
    · refine ⟨_, 2, rfl, by omega, by omega, by omega, by omega, fun k hk hk2 => ?_⟩
      rcases (by omega : k = 0 ∨ k = 1) with rfl | rfl
      · exact hb
      · exact b1
    · exact herr
  · split
    · rename_i hc
      obtain ⟨hc1, c2⟩ := Bool.and_eq_true_iff.1 hc
      obtain ⟨_, c1⟩ := Bool.and_eq_true_iff.1 hc1
      obtain ⟨k1, b1⟩ := hcont 1 c1
      obtain ⟨k2, b2⟩ := hcont 2 c2
      split
      · rename_i hr
        obtain ⟨hr1, hr2⟩ := Bool.and_eq_true_iff.1 hr
        refine ⟨_, 3, rfl, by have := of_decide_eq_true hr1; omega, by have := hv _ hr2; omega, by omega, by omega, fun k hk hk2 => ?_⟩
        rcases (by omega : k = 0 ∨ k = 1 ∨ k = 2) with rfl | rfl | rfl
        · exact hb
        · exact b1
        · exact b2
      · exact herr
    · split
      · rename_i hc
        obtain ⟨hc2, c3⟩ := Bool.and_eq_true_iff.1 hc
        obtain ⟨hc1, c2⟩ := Bool.and_eq_true_iff.1 hc2
        obtain ⟨_, c1⟩ := Bool.and_eq_true_iff.1 hc1
        obtain ⟨k1, b1⟩ := hcont 1 c1
        obtain ⟨k2, b2⟩ := hcont 2 c2
        obtain ⟨k3, b3⟩ := hcont 3 c3
        split
        · rename_i hr
          obtain ⟨hr1, hr2⟩ := Bool.and_eq_true_iff.1 hr
          refine ⟨_, 4, rfl, by have := of_decide_eq_true hr1; omega, by have := hv _ hr2; omega, by omega, by omega, fun k hk hk2 => ?_⟩
          rcases (by omega : k = 0 ∨ k = 1 ∨ k = 2 ∨ k = 3) with rfl | rfl | rfl | rfl
          · exact hb
          · exact b1
          · exact b2
          · exact b3
        · exact herr
      · exact herr
/-- what stands in a line from one place to another -/
def mid (l : List UInt8) (a b : Nat) : List UInt8 := (l.drop a).take (b - a)
theorem mid_snoc (l : List UInt8) (a b : Nat) (hab : a ≤ b) (hb : b < l.length) : mid l a (b + 1) = mid l a b ++ [l[b]] := by
  unfold mid
  rw [show b + 1 - a = (b - a) + 1 by omega, List.take_add_one, List.getElem?_drop, show a + (b - a) = b by omega, List.getElem?_eq_getElem hb]
  rfl
theorem mid_nil (l : List UInt8) (a b : Nat) (hab : a ≤ b) (hb : b ≤ l.length) : mid l a b = [] ↔ a = b := by
  unfold mid
  constructor
  · intro h
    have := congrArg List.length h
    rw [List.length_take, List.length_drop, List.length_nil] at this
    omega
  · intro h; subst h; simp
theorem mid_skip (l : List UInt8) (a b n : Nat) (hab : a ≤ b) (hb : b + n ≤ l.length) (out : List (List UInt8)) (hn : ∀ k (hk : b + k < l.length), k < n → l[b + k] ≠ 32) :
    wl (l.drop b) (mid l a b) out = wl (l.drop (b + n)) (mid l a (b + n)) out := by
  have e : l.drop b = mid l b (b + n) ++ l.drop (b + n) := by
    unfold mid
    rw [show b + n - b = n by omega, ← List.drop_drop]
    exact (List.take_append_drop n _).symm
  have e2 : mid l a b ++ mid l b (b + n) = mid l a (b + n) := by
    unfold mid
    rw [show b + n - b = n by omega, show b + n - a = (b - a) + n by omega, List.take_add, List.drop_drop, show a + (b - a) = b by omega]
  rw [e, wl_skip, e2]
  intro c hc
  obtain ⟨i, hi, rfl⟩ := List.mem_iff_getElem.1 hc
  have hlen : (mid l b (b + n)).length = n := by unfold mid; rw [List.length_take, List.length_drop]; omega
  have := hn i (by omega) (by omega)
  simp only [mid, List.getElem_take, List.getElem_drop]
  exact this
theorem drop_at (l : List UInt8) (b : Nat) (hb : b < l.length) : l.drop b = l[b] :: l.drop (b + 1) := List.drop_eq_getElem_cons hb
theorem wl_blank (l : List UInt8) (a b : Nat) (hab : a ≤ b) (hb : b < l.length) (h32 : l[b] = 32) (out : List (List UInt8)) :
    wl (l.drop b) (mid l a b) out = if a = b then none else wl (l.drop (b + 1)) [] (out ++ [mid l a b]) := by
  rw [drop_at l b hb, wl, if_pos h32]
  by_cases e : a = b
  · rw [if_pos ((mid_nil l a b hab (by omega)).2 e), if_pos e]
  · rw [if_neg (fun h => e ((mid_nil l a b hab (by omega)).1 h)), if_neg e]
end Txt
end Go.Proofs.Ytijijfggppnbpaa
