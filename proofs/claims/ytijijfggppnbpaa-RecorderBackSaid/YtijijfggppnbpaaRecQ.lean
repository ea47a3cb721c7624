/-
  The plain law of the ring: what stands in its cells, what All, Last and Open tell of it, also where bytes were turned. No walk.
-/
import Derived.Test.YtijijfggppnbpaaRecE
namespace Go.Proofs.Ytijijfggppnbpaa
set_option linter.unusedVariables false
namespace Rec
open Frm Txt
/-- n is among the last k of so many -/
def Valid (k M n : Nat) : Prop := 1 ≤ n ∧ n ≤ M ∧ M < n + k
theorem Valid.eq {k M a b : Nat} (ha : Valid k M a) (hb : Valid k M b) (h : a % k = b % k) : a = b := by
  obtain ⟨a1, a2, a3⟩ := ha
  obtain ⟨b1, b2, b3⟩ := hb
  have key : ∀ x y : Nat, x < y → y < x + k → x % k ≠ y % k := fun x y h1 h2 h3 => by
    have e1 := Nat.div_add_mod x k
    have e2 := Nat.div_add_mod y k
    rw [h3] at e1
    have h4 : k * (x / k) < k * (y / k) := by omega
    have h5 : x / k < y / k := Nat.lt_of_mul_lt_mul_left h4
    have h6 : k * (x / k + 1) ≤ k * (y / k) := Nat.mul_le_mul_left k h5
    rw [Nat.mul_add, Nat.mul_one] at h6
    omega
  rcases Nat.lt_trichotomy a b with h1 | h1 | h1
  · exact absurd h (key a b h1 (by omega))
  · exact h1
  · exact absurd h.symm (key b a h1 (by omega))
/-- what stands in the ring's cells -/
structure Ring (k : Nat) (m : List Fr) (lo : List Bool) (B : List UInt8) : Prop where
  hold : ∀ n (h : n - 1 < m.length), Valid k m.length n → lo.getD (n % k) false = false → readL (chunk B (n % k)) = (n, m[n - 1], true)
  none : ∀ a, a < k → (readL (chunk B a)).2.2 = true → ∃ n, Valid k m.length n ∧ n % k = a ∧ lo.getD a false = false
theorem chunk_zero {k i : Nat} (hi : i < k) : chunk (List.replicate (40 * k) (0 : UInt8)) i = List.replicate 40 0 := by
  unfold chunk
  rw [List.drop_replicate, List.take_replicate]
  congr 1
  omega
/-- the cells behind good frames -/
theorem st_cells {k : Nat} (hk : 1 ≤ k) (m : List Fr) : AllGood m → (∀ n (h : n - 1 < m.length), Valid k m.length n → chunk (st k m).1 (n % k) = cellL n m[n - 1]) ∧ (∀ a, a < k → (∀ n, Valid k m.length n → n % k ≠ a) → chunk (st k m).1 a = List.replicate 40 0) := by
  have main : ∀ r : List Fr, AllGood r.reverse → (∀ n (h : n - 1 < r.reverse.length), Valid k r.reverse.length n → chunk (st k r.reverse).1 (n % k) = cellL n r.reverse[n - 1]) ∧ (∀ a, a < k → (∀ n, Valid k r.reverse.length n → n % k ≠ a) → chunk (st k r.reverse).1 a = List.replicate 40 0) := by
    intro r
    induction r with
    | nil =>
      intro _
      refine ⟨fun n h hv => ?_, fun a ha _ => ?_⟩
      · simp at h
      · exact chunk_zero ha
    | cons f r ih =>
      intro hg
      rw [List.reverse_cons] at hg ⊢
      have hg' : AllGood r.reverse := fun g hx => hg g (by simp at hx ⊢; exact .inl hx)
      obtain ⟨i1, i2⟩ := ih hg'
      obtain ⟨hf, h0⟩ := hg f (by simp)
      generalize r.reverse = m at *
      have hl := st_len hk hg'
      have hn := st_next k m
      have hc := cellL_len (n := m.length + 1) hf h0
      rw [st_snoc, hn]
      dsimp only
      have hcp := fun j hj => chunk_put (B := (st k m).1) (c := cellL (m.length + 1) f) (i := (m.length + 1) % k) (j := j) (k := k) hl (Nat.mod_lt _ hk) hj hc
      have hlen : (m ++ [f]).length = m.length + 1 := by simp
      have hv1 : Valid k (m ++ [f]).length (m.length + 1) := ⟨by omega, by omega, by omega⟩
      refine ⟨fun n h hv => ?_, fun a ha hno => ?_⟩
      · rw [hcp _ (Nat.mod_lt _ hk)]
        by_cases e : (m.length + 1) % k = n % k
        · rw [if_pos e]
          have := hv1.eq hv e
          subst this
          congr 1
          simp
        · rw [if_neg e]
          obtain ⟨v1, v2, v3⟩ := hv
          have hne : n ≠ m.length + 1 := fun h => e (by rw [h])
          rw [hlen] at v2 v3
          rw [i1 n (by omega) ⟨v1, by omega, by omega⟩]
          congr 1
          rw [List.getElem_append_left]
      · have h1 := hno _ hv1
        rw [hcp a ha, if_neg h1]
        by_cases hex : ∃ n, Valid k m.length n ∧ n % k = a
        · obtain ⟨n, ⟨v1, v2, v3⟩, hna⟩ := hex
          by_cases hlt : m.length + 1 < n + k
          · exact absurd hna (hno n ⟨v1, by omega, by omega⟩)
          · have : m.length + 1 = n + k := by omega
            rw [this, Nat.add_mod_right] at h1
            exact absurd hna h1
        · exact i2 a ha (fun n hv hna => hex ⟨n, hv, hna⟩)
  have h := main m.reverse
  rw [List.reverse_reverse] at h
  exact h
theorem getD_false {lo : List Bool} (h : ∀ x ∈ lo, x = false) (a : Nat) : lo.getD a false = false := by
  rw [List.getD_eq_getElem?_getD]
  cases he : lo[a]? with
  | none => rfl
  | some x => exact h x (List.mem_of_getElem? he)
theorem ring_st {k : Nat} (hk : 1 ≤ k) {m : List Fr} (hg : AllGood m) (hm : m.length ≤ 1000000) {lo : List Bool} (hlo : ∀ x ∈ lo, x = false) : Ring k m lo (st k m).1 := by
  obtain ⟨h1, h2⟩ := st_cells hk m hg
  refine ⟨fun n h hv _ => ?_, fun a ha hok => ?_⟩
  · rw [h1 n h hv]
    obtain ⟨hf, h0⟩ := hg _ (List.getElem_mem h)
    exact read_cell hf h0 hv.1 (by have := hv.2.1; omega)
  · by_cases hex : ∃ n, Valid k m.length n ∧ n % k = a
    · obtain ⟨n, hv, hn⟩ := hex
      exact ⟨n, hv, hn, getD_false hlo a⟩
    · rw [h2 a ha (fun n hv hn => hex ⟨n, hv, hn⟩), read_zero] at hok
      cases hok
/-- bytes turned: one in each of the first i cells that are to be lost -/
def flipTo (B : List UInt8) (lost : List Bool) (j : Nat) : Nat → List UInt8
  | 0 => B
  | i + 1 => if lost.getD i false = true then (flipTo B lost j i).set (40 * i + j) ((flipTo B lost j i).getD (40 * i + j) 0 ^^^ 1) else flipTo B lost j i
theorem flipTo_len (B : List UInt8) (lost : List Bool) (j : Nat) : ∀ i, (flipTo B lost j i).length = B.length
  | 0 => rfl
  | i + 1 => by
    unfold flipTo
    split
    · rw [List.length_set, flipTo_len B lost j i]
    · exact flipTo_len B lost j i
theorem chunk_set {B : List UInt8} {i a j : Nat} {x : UInt8} (hj : j < 40) : chunk (B.set (40 * i + j) x) a = if i = a then (chunk B a).set j x else chunk B a := by
  refine List.ext_getElem? fun p => ?_
  by_cases hp : p < 40
  · rw [chunk_get hp, List.getElem?_set]
    by_cases hia : i = a
    · subst hia
      rw [if_pos rfl, List.getElem?_set, chunk_get hp]
      by_cases hjp : j = p
      · subst hjp
        rw [if_pos rfl, if_pos rfl]
        have : (chunk B i).length = min 40 (B.length - 40 * i) := by unfold chunk; rw [List.length_take, List.length_drop]
        by_cases hl : 40 * i + j < B.length
        · rw [if_pos hl, if_pos (by omega)]
        · rw [if_neg hl, if_neg (by omega)]
      · rw [if_neg (by omega), if_neg hjp]
    · rw [if_neg (by omega), if_neg hia, chunk_get hp]
  · have hl : ∀ C : List UInt8, (chunk C a)[p]? = none := fun C => List.getElem?_eq_none (by unfold chunk; rw [List.length_take]; omega)
    rw [hl]
    split
    · rw [List.getElem?_set_ne (by omega), hl]
    · rw [hl]
theorem flipTo_chunk {B : List UInt8} {lost : List Bool} {j : Nat} (hj : j < 40) (a : Nat) : ∀ i, chunk (flipTo B lost j i) a = if a < i ∧ lost.getD a false = true then (chunk B a).set j ((chunk B a).getD j 0 ^^^ 1) else chunk B a
  | 0 => by rw [if_neg (by omega)]; rfl
  | i + 1 => by
    have ih := flipTo_chunk (B := B) (lost := lost) hj a i
    unfold flipTo
    have hgd : (flipTo B lost j i).getD (40 * i + j) 0 = (chunk (flipTo B lost j i) i).getD j 0 := by
      rw [List.getD_eq_getElem?_getD, List.getD_eq_getElem?_getD, chunk_get hj]
    by_cases hl : lost.getD i false = true
    · rw [if_pos hl, chunk_set hj]
      by_cases hia : i = a
      · subst hia
        rw [if_pos rfl, hgd, ih, if_neg (by omega), if_pos ⟨by omega, hl⟩]
      · rw [if_neg hia, ih]
        by_cases h : a < i ∧ lost.getD a false = true
        · rw [if_pos h, if_pos ⟨by omega, h.2⟩]
        · rw [if_neg h, if_neg (fun h' => h ⟨by omega, h'.2⟩)]
    · rw [if_neg hl, ih]
      by_cases h : a < i ∧ lost.getD a false = true
      · rw [if_pos h, if_pos ⟨by omega, h.2⟩]
      · rw [if_neg h, if_neg (fun h' => h ⟨by
          have : a ≠ i := fun e => hl (e ▸ h'.2)
          omega, h'.2⟩)]
theorem xor1_ne (x : UInt8) : x ≠ x ^^^ 1 := by
  intro h
  have : x ^^^ x = x ^^^ (x ^^^ 1) := by rw [← h]
  rw [UInt8.xor_self, ← UInt8.xor_assoc, UInt8.xor_self, UInt8.zero_xor] at this
  exact absurd this (by decide)
theorem ring_flip {k : Nat} (hk : 1 ≤ k) {m : List Fr} (hg : AllGood m) (hm : m.length ≤ 1000000) {lost lo : List Bool} {j : Nat} (hj : j < 40) (hlo : ∀ a, a < k → lo.getD a false = lost.getD a false) : Ring k m lo (flipTo (st k m).1 lost j k) := by
  obtain ⟨h1, h2⟩ := st_cells hk m hg
  have hz := ring_st hk hg hm (lo := []) (by simp)
  refine ⟨fun n h hv hl => ?_, fun a ha hok => ?_⟩
  · have hnk := Nat.mod_lt n (show k > 0 by omega)
    rw [flipTo_chunk hj, if_neg (by rw [← hlo _ hnk, hl]; simp)]
    exact hz.hold n h hv rfl
  · rw [flipTo_chunk hj] at hok
    by_cases hl : lost.getD a false = true
    · rw [if_pos ⟨ha, hl⟩] at hok
      exfalso
      by_cases hex : ∃ n, Valid k m.length n ∧ n % k = a
      · obtain ⟨n, hv, hn⟩ := hex
        have hnl : n - 1 < m.length := by have := hv.1; have := hv.2.1; omega
        obtain ⟨hf, h0⟩ := hg _ (List.getElem_mem hnl)
        rw [← hn, h1 n hnl hv, read_lost hf h0 hj (xor1_ne _)] at hok
        cases hok
      · rw [h2 a ha (fun n hv hn => hex ⟨n, hv, hn⟩)] at hok
        have e := read_empty ⟨j, hj⟩ true
        have e2 : (List.replicate 40 (0 : UInt8)).getD j 0 ^^^ 1 = 1 := by
          rw [List.getD_eq_getElem?_getD, List.getElem?_replicate, if_pos hj]
          rfl
        rw [e2] at hok
        simp only [if_true] at e
        rw [e] at hok
        cases hok
    · rw [if_neg (fun h => hl h.2)] at hok
      obtain ⟨n, hv, hn, _⟩ := hz.none a ha hok
      exact ⟨n, hv, hn, by rw [hlo a ha]; simpa using hl⟩
/-- what the next number is, of cells of which some are lost -/
theorem ring_next {k : Nat} {m : List Fr} {lo : List Bool} {B : List UInt8} (R : Ring k m lo B) (hm : m.length ≤ 1000000) : ∀ j, j ≤ k →
    (nextTo B k j = 1 ∨ ∃ x, Valid k m.length x ∧ x % k < j ∧ lo.getD (x % k) false = false ∧ nextTo B k j = x + 1) ∧ (∀ x, Valid k m.length x → x % k < j → lo.getD (x % k) false = false → x + 1 ≤ nextTo B k j)
  | 0, _ => ⟨.inl rfl, fun x _ h => absurd h (Nat.not_lt_zero _)⟩
  | j + 1, hj => by
    obtain ⟨i1, i2⟩ := ring_next R hm j (by omega)
    have hold : ∀ x, Valid k m.length x → x % k = j → lo.getD (x % k) false = false → readL (chunk B j) = (x, m.getD (x - 1) zeroF, true) := fun x hv hx hl => by
      have hxl : x - 1 < m.length := by have := hv.1; have := hv.2.1; omega
      have := R.hold x hxl hv hl
      rw [hx] at this
      rw [this, List.getD_eq_getElem?_getD, List.getElem?_eq_getElem hxl]
      rfl
    unfold nextTo
    by_cases hok : (readL (chunk B j)).2.2 = true
    · obtain ⟨x, hv, hx, hl⟩ := R.none j (by omega) hok
      rw [← hx] at hl
      have he := hold x hv hx hl
      rw [he]
      dsimp only
      by_cases hle : nextTo B k j ≤ x
      · rw [if_pos ⟨rfl, hx, hle, by have := hv.2.1; omega⟩]
        refine ⟨.inr ⟨x, hv, by omega, hl, rfl⟩, fun y hy hyj hyl => ?_⟩
        by_cases hyj' : y % k < j
        · have := i2 y hy hyj' hyl
          omega
        · have : y = x := hy.eq hv (by omega)
          omega
      · rw [if_neg (fun h => hle h.2.2.1)]
        refine ⟨i1.imp id (fun ⟨y, a, b, c, d⟩ => ⟨y, a, by omega, c, d⟩), fun y hy hyj hyl => ?_⟩
        by_cases hyj' : y % k < j
        · exact i2 y hy hyj' hyl
        · have : y = x := hy.eq hv (by omega)
          omega
    · rw [if_neg (fun h => hok h.1)]
      refine ⟨i1.imp id (fun ⟨y, a, b, c, d⟩ => ⟨y, a, by omega, c, d⟩), fun y hy hyj hyl => ?_⟩
      by_cases hyj' : y % k < j
      · exact i2 y hy hyj' hyl
      · rw [hold y hy (by omega) hyl] at hok
        exact absurd rfl hok
/-- from which number on what was recorded stands there -/
def keptN (k n : Nat) : Nat := if k < n then n - k + 1 else 1
theorem keptN_le {k n : Nat} (hk : 1 ≤ k) : 1 ≤ keptN k n ∧ keptN k n ≤ n + 1 := by
  unfold keptN
  split <;> omega
theorem keptN_valid {k n x : Nat} (hk : 1 ≤ k) : keptN k n ≤ x ∧ x ≤ n ↔ Valid k n x := by
  unfold keptN Valid
  split <;> omega
theorem allFrom_add (B : List UInt8) (k n a b : Nat) : allFrom B k n (a + b) = allFrom B k n a ++ allFrom B k (n + a) b := by
  unfold allFrom
  rw [← List.filterMap_append, List.range'_append_1]
theorem filterMap_none {α β : Type} {f : α → Option β} : ∀ {l : List α}, (∀ x ∈ l, f x = none) → l.filterMap f = []
  | [], _ => rfl
  | x :: l, h => by
    rw [List.filterMap_cons_none (h x (by simp))]
    exact filterMap_none fun y hy => h y (by simp [hy])
theorem filterMap_same {α β : Type} {f g : α → Option β} : ∀ {l : List α}, (∀ x ∈ l, f x = g x) → l.filterMap f = l.filterMap g
  | [], _ => rfl
  | x :: l, h => by
    rw [List.filterMap_cons, List.filterMap_cons, h x (by simp), filterMap_same fun y hy => h y (by simp [hy])]
/-- what All tells of it -/
theorem ring_all {k : Nat} (hk : 1 ≤ k) {m : List Fr} {lo : List Bool} {B : List UInt8} (R : Ring k m lo B) (hlo : lo.length = k) {N : Nat} (h1 : 1 ≤ N) (h2 : N ≤ m.length + 1) :
    allE B k N = expF (m.take (N - 1)) lo (min (keptN k m.length) N) (N - min (keptN k m.length) N) := by
  obtain ⟨q1, q2⟩ := keptN_le (n := m.length) hk
  obtain ⟨f1, f2, f3⟩ := firstN_le (nx := N) hk h1
  have f4 : firstN k N ≤ keptN k m.length := by
    unfold firstN keptN
    split <;> split <;> omega
  obtain ⟨s, hs⟩ : ∃ s, s = min (keptN k m.length) N := ⟨_, rfl⟩
  have hs1 : s ≤ N := by omega
  have hs2 : firstN k N ≤ s := by omega
  have hs3 : s ≤ keptN k m.length := by omega
  have hs4 : s = N ∨ s = keptN k m.length := by omega
  rw [← hs]
  unfold allE
  rw [show N - firstN k N = (s - firstN k N) + (N - s) by omega, allFrom_add, show firstN k N + (s - firstN k N) = s by omega]
  have e1 : allFrom B k (firstN k N) (s - firstN k N) = [] := by
    unfold allFrom
    refine filterMap_none fun n hn => ?_
    obtain ⟨hn1, hn2⟩ := List.mem_range'_1.1 hn
    unfold entry
    rw [if_neg]
    rintro ⟨hok, he⟩
    obtain ⟨x, hv, hx, hl⟩ := R.none (n % k) (Nat.mod_lt _ hk) hok
    have hxl : x - 1 < m.length := by have := hv.1; have := hv.2.1; omega
    have hh := R.hold x hxl hv (by rw [hx]; exact hl)
    rw [hx] at hh
    rw [hh] at he
    have he : x = n := he
    have := (keptN_valid hk).2 hv
    omega
  rw [e1, List.nil_append]
  unfold allFrom expF
  refine filterMap_same fun n hn => ?_
  obtain ⟨hn1, hn2⟩ := List.mem_range'_1.1 hn
  have hv : Valid k m.length n := (keptN_valid hk).1 ⟨by omega, by omega⟩
  have hnl : n - 1 < m.length := by omega
  unfold entry exp
  rw [hlo]
  by_cases hl : lo.getD (n % k) false = true
  · rw [if_pos hl, if_neg]
    rintro ⟨hok, he⟩
    obtain ⟨x, _, _, hl2⟩ := R.none (n % k) (Nat.mod_lt _ hk) hok
    rw [hl] at hl2
    cases hl2
  · have hl' : lo.getD (n % k) false = false := by simpa using hl
    rw [if_neg hl, R.hold n hnl hv hl', if_pos ⟨rfl, rfl⟩, List.getElem?_take_of_lt (by omega), List.getElem?_eq_getElem hnl]
    rfl
theorem expF_snd {fs : List Fr} {lo : List Bool} (hlo : ∀ x ∈ lo, x = false) : ∀ d n, 1 ≤ n → n + d = fs.length + 1 → (expF fs lo n d).map Prod.snd = fs.drop (n - 1)
  | 0, n, h1, h2 => by rw [expF_zero, List.drop_of_length_le (by omega)]; rfl
  | d + 1, n, h1, h2 => by
    have hl : n - 1 < fs.length := by omega
    rw [expF_kept (getD_false hlo _) (by omega) hl, List.map_cons, Nat.add_sub_cancel, expF_snd hlo d (n + 1) (by omega) (by omega), List.drop_eq_getElem_cons hl, show n + 1 - 1 = n - 1 + 1 by omega]
/-- what Last tells of it -/
theorem ring_last {k : Nat} (hk : 1 ≤ k) {m : List Fr} (hg : AllGood m) (hm : m.length ≤ 1000000) (n : Int) : lastL ((allE (st k m).1 k (m.length + 1)).map Prod.snd) n = m.drop (m.length - min n.toNat (min m.length k)) := by
  have hlo : ∀ x ∈ List.replicate k false, x = false := fun x hx => (List.mem_replicate.1 hx).2
  obtain ⟨q1, q2⟩ := keptN_le (n := m.length) hk
  rw [ring_all hk (ring_st hk hg hm hlo) (by simp) (by omega) (Nat.le_refl _), Nat.add_sub_cancel, List.take_of_length_le (Nat.le_refl _), Nat.min_eq_left q2, expF_snd hlo _ _ q1 (by omega)]
  unfold lastL
  rw [List.length_drop, List.drop_drop]
  congr 1
  unfold keptN at q1 q2 ⊢
  split <;> omega
end Rec
end Go.Proofs.Ytijijfggppnbpaa
