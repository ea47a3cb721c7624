/-
  Package route: costs lowered till none can be, as a plain law: what the document's table is.
-/
import Derived.Test.YtgncngpgodfijaaRouQ
namespace Go.Proofs.Ytgncngpgodfijaa
set_option linter.unusedVariables false
namespace Rou
/-- what lies beside a square, one of four ways -/
def dirN (w h i k : Nat) : Option Nat :=
  if k = 0 then (if 0 < i / w then some (i - w) else none)
  else if k = 1 then (if 0 < i % w then some (i - 1) else none)
  else if k = 2 then (if i / w + 1 < h then some (i + w) else none)
  else (if i % w + 1 < w then some (i + 1) else none)
theorem dir_beside {w h i b : Nat} : b ∈ besideL w h i ↔ ∃ k, k < 4 ∧ dirN w h i k = some b := by
  rw [mem_beside]
  constructor
  · rintro (⟨hc, rfl⟩ | ⟨hc, rfl⟩ | ⟨hc, rfl⟩ | ⟨hc, rfl⟩)
    · exact ⟨0, by omega, by unfold dirN; rw [if_pos rfl, if_pos hc]⟩
    · exact ⟨1, by omega, by unfold dirN; rw [if_neg (by omega), if_pos rfl, if_pos hc]⟩
    · exact ⟨3, by omega, by unfold dirN; rw [if_neg (by omega), if_neg (by omega), if_neg (by omega), if_pos hc]⟩
    · exact ⟨2, by omega, by unfold dirN; rw [if_neg (by omega), if_neg (by omega), if_pos rfl, if_pos hc]⟩
  · rintro ⟨k, hk, h⟩
    unfold dirN at h
    split at h
    · split at h
      · injection h with h; exact .inl ⟨‹_›, h.symm⟩
      · cases h
    · split at h
      · split at h
        · injection h with h; exact .inr (.inl ⟨‹_›, h.symm⟩)
        · cases h
      · split at h
        · split at h
          · injection h with h; exact .inr (.inr (.inr ⟨‹_›, h.symm⟩))
          · cases h
        · split at h
          · injection h with h; exact .inr (.inr (.inl ⟨‹_›, h.symm⟩))
          · cases h
section
variable {w h : Nat} {C : List Int}
theorem way_unsnoc : ∀ {l : List Nat} {j i : Nat}, isWay w h C (l ++ [j] ++ [i]) → isWay w h C (l ++ [j]) ∧ i ∈ besideL w h j ∧ (i < w * h ∧ 0 ≤ cs C i) ∧ costN C (l ++ [j] ++ [i]) = costN C (l ++ [j]) + cs C i
  | [], j, i, H => by
    obtain ⟨h1, h2, h3⟩ := H
    exact ⟨h1, h2, h3, by simp [costN]⟩
  | [a], j, i, H => by
    obtain ⟨h1, h2, h3, h4, h5⟩ := H
    exact ⟨⟨h1, h2, h3⟩, h4, h5, by simp [costN]⟩
  | a :: b :: l, j, i, H => by
    obtain ⟨h1, h2, h3⟩ := H
    obtain ⟨i1, i2, i3, i4⟩ := way_unsnoc (l := b :: l) (j := j) (i := i) h3
    refine ⟨⟨h1, h2, i1⟩, i2, i3, ?_⟩
    simp only [List.cons_append, costN] at i4 ⊢
    omega
end
theorem way_last {w h : Nat} {C : List Int} : ∀ {l : List Nat} {j : Nat}, isWay w h C (l ++ [j]) → j < w * h ∧ 0 ≤ cs C j
  | [], j, H => H
  | [a], j, H => H.2.2
  | a :: b :: l, j, H => way_last (l := b :: l) H.2.2
theorem head_snoc (x : List Nat) (hx : x ≠ []) (y : Nat) : (x ++ [y]).head (by simp) = x.head hx := List.head_append_of_ne_nil hx
/-- no way of so many steps costs less than is told -/
def Lst (w h : Nat) (C : List Int) (s m : Nat) (E : List Int) : Prop := ∀ (l : List Nat) (i : Nat), isWay w h C (l ++ [i]) → (l ++ [i]).head (by simp) = s → l.length ≤ m → 0 ≤ dd E i ∧ dd E i ≤ costN C (l ++ [i])
def Snd (w h : Nat) (C : List Int) (s : Nat) (E : List Int) : Prop := ∀ i, i < w * h → dd E i = -1 ∨ (0 ≤ dd E i ∧ ∃ l : List Nat, isWay w h C (l ++ [i]) ∧ (l ++ [i]).head (by simp) = s ∧ costN C (l ++ [i]) = dd E i)
/-- ahead of a round -/
structure RI (w h : Nat) (C : List Int) (s : Nat) (E : List Int) (m t : Nat) (low : Bool) : Prop where
  len : E.length = w * h
  sound : Snd w h C s E
  least : Lst w h C s m E
  stop : low = false → ∀ m, Lst w h C s m E
  bnd : ∀ i, dd E i ≤ 1073741824 * (t : Int)
/-- in a round: E0 stood ahead of it, square i is worked, k of its four ways are through -/
structure RX (w h : Nat) (C : List Int) (s : Nat) (E0 E : List Int) (m t : Nat) (low : Bool) (i k : Nat) : Prop where
  len : E.length = w * h
  sound : Snd w h C s E
  least : Lst w h C s m E0
  mono : ∀ j, j < w * h → 0 ≤ dd E0 j → 0 ≤ dd E j ∧ dd E j ≤ dd E0 j
  rel : ∀ i' k', (i' < i ∨ (i' = i ∧ k' < k)) → k' < 4 → i' < w * h → 0 ≤ dd E0 i' → ∀ j, dirN w h i' k' = some j → 0 ≤ cs C j → 0 ≤ dd E j ∧ dd E j ≤ dd E0 i' + cs C j
  same : low = false → E = E0
  bnd : ∀ i, dd E i ≤ 1073741824 * (t : Int)
section
variable {w h s : Nat} {C E E0 : List Int} {m t i k : Nat} {low : Bool}
theorem ri_start (Hk : Ok w h C) (hs : s < w * h) (hc : 0 ≤ cs C s) : RI w h C s ((List.replicate (w * h) (-1)).set s 0) 0 0 true := by
  have e : ∀ k, dd ((List.replicate (w * h) (-1)).set s 0) k = if s = k then 0 else -1 := fun k => by
    rw [dd_set _ (by simpa using hs)]
    split
    · rfl
    · unfold dd
      rw [List.getD_eq_getElem?_getD, List.getElem?_replicate]
      split <;> rfl
  refine ⟨by simp, fun i hi => ?_, fun l i hw hh hl => ?_, fun h => by simp at h, fun i => ?_⟩
  · rw [e]
    by_cases his : s = i
    · subst his
      rw [if_pos rfl]
      exact .inr ⟨by omega, [], ⟨hs, hc⟩, rfl, rfl⟩
    · rw [if_neg his]; exact .inl rfl
  · have hl0 : l = [] := List.eq_nil_of_length_eq_zero (by omega)
    subst hl0
    have : i = s := hh
    subst this
    rw [e, if_pos rfl]
    exact ⟨by omega, by simp [costN]⟩
  · rw [e]; split <;> omega
theorem RI.enter (R : RI w h C s E m t low) : RX w h C s E E m t false 0 0 :=
  ⟨R.len, R.sound, R.least, fun j _ hj => ⟨hj, Int.le_refl _⟩, fun i' k' h => by omega, fun _ => rfl, R.bnd⟩
theorem RX.pass (R : RX w h C s E0 E m t low i k) (hp : ∀ j, dirN w h i k = some j → 0 ≤ cs C j → 0 ≤ dd E i → 0 ≤ dd E j ∧ dd E j ≤ dd E i + cs C j) : RX w h C s E0 E m (t + 1) low i (k + 1) := by
  refine ⟨R.len, R.sound, R.least, R.mono, fun i' k' h hk hi hd j hj hc => ?_, R.same, fun i => by have := R.bnd i; omega⟩
  by_cases h' : i' < i ∨ (i' = i ∧ k' < k)
  · exact R.rel i' k' h' hk hi hd j hj hc
  · obtain ⟨rfl, rfl⟩ : i' = i ∧ k' = k := by omega
    obtain ⟨m1, m2⟩ := R.mono i' hi hd
    obtain ⟨p1, p2⟩ := hp j hj hc m1
    exact ⟨p1, by omega⟩
theorem RX.lower (R : RX w h C s E0 E m t low i k) (Hk : Ok w h C) (hi : i < w * h) (hk : k < 4) {j : Nat} (hj : dirN w h i k = some j) (hc : 0 ≤ cs C j) (hd : 0 ≤ dd E i) (hl : dd E j < 0 ∨ dd E i + cs C j < dd E j) :
    RX w h C s E0 (E.set j (dd E i + cs C j)) m (t + 1) true i (k + 1) := by
  have hb : j ∈ besideL w h i := dir_beside.2 ⟨k, hk, hj⟩
  have hjl := beside_lt Hk.w1 hi hb
  have hcb := (cs_bnd Hk j).2
  have e : ∀ q, dd (E.set j (dd E i + cs C j)) q = if j = q then dd E i + cs C j else dd E q := fun q => dd_set _ (by rw [R.len]; exact hjl) q
  have down : ∀ q, 0 ≤ dd E q → 0 ≤ dd (E.set j (dd E i + cs C j)) q ∧ dd (E.set j (dd E i + cs C j)) q ≤ dd E q := fun q hq => by
    rw [e]
    split
    · rename_i h; subst h; omega
    · omega
  refine ⟨by rw [List.length_set]; exact R.len, fun q hq => ?_, R.least, fun q hq h0 => ?_, fun i' k' h hk' hi' hd' q hq hc' => ?_, fun h => by simp at h, fun q => ?_⟩
  · rw [e]
    by_cases hjq : j = q
    · subst hjq
      rw [if_pos rfl]
      rcases R.sound i hi with h1 | ⟨_, l, w1, w2, w3⟩
      · omega
      · obtain ⟨x1, x2⟩ := way_snoc w1 hb hjl hc
        exact .inr ⟨by omega, l ++ [i], x1, by rw [head_snoc _ (by simp)]; exact w2, by rw [x2, w3]⟩
    · rw [if_neg hjq]; exact R.sound q hq
  · obtain ⟨a1, a2⟩ := R.mono q hq h0
    obtain ⟨b1, b2⟩ := down q a1
    exact ⟨b1, by omega⟩
  · by_cases h' : i' < i ∨ (i' = i ∧ k' < k)
    · obtain ⟨a1, a2⟩ := R.rel i' k' h' hk' hi' hd' q hq hc'
      obtain ⟨b1, b2⟩ := down q a1
      exact ⟨b1, by omega⟩
    · obtain ⟨rfl, rfl⟩ : i' = i ∧ k' = k := by omega
      obtain rfl : j = q := by rw [hj] at hq; injection hq
      obtain ⟨m1, m2⟩ := R.mono i' hi' hd'
      rw [e, if_pos rfl]
      omega
  · have h1 := R.bnd q
    have h2 := R.bnd i
    rw [e]
    split <;> omega
theorem RX.next (R : RX w h C s E0 E m t low i 4) : RX w h C s E0 E m t low (i + 1) 0 :=
  ⟨R.len, R.sound, R.least, R.mono, fun i' k' h hk hi hd j hj hc => R.rel i' k' (by omega) hk hi hd j hj hc, R.same, R.bnd⟩
theorem RX.done (R : RX w h C s E0 E m t low (w * h) 0) (Hk : Ok w h C) : RI w h C s E (m + 1) t low := by
  have step : ∀ n, Lst w h C s n E0 → Lst w h C s (n + 1) E := by
    intro n hL l i hw hh hl
    rcases List.eq_nil_or_concat l with rfl | ⟨l, j, rfl⟩
    · have := hL [] i hw hh (by simp)
      have := R.mono i (way_head hw).1 this.1
      omega
    · rw [List.concat_eq_append] at hw hh hl ⊢
      obtain ⟨x1, x2, x3, x4⟩ := way_unsnoc hw
      obtain ⟨a1, a2⟩ := hL l j x1 ((head_snoc (l ++ [j]) (by simp) i).symm.trans hh) (by simp at hl; omega)
      obtain ⟨k, hk, hd⟩ := dir_beside.1 x2
      have hj : j < w * h := (way_last x1).1
      obtain ⟨r1, r2⟩ := R.rel j k (.inl hj) hk hj a1 i hd x3.2
      exact ⟨r1, by omega⟩
  refine ⟨R.len, R.sound, step m R.least, fun hf n => ?_, R.bnd⟩
  have he := R.same hf
  have all : ∀ n, Lst w h C s n E := fun n => by
    induction n with
    | zero => 
      intro l i hw hh hl
      have := R.least l i hw hh (by omega)
      rw [he]; exact this
    | succ n ih => exact step n (by rw [← he]; exact ih)
  exact all n
theorem RI.fix (R : RI w h C s E m t low) (hm : low = false ∨ w * h ≤ m + 1) : Fix w h C s E := by
  refine ⟨R.len, R.sound, fun l i hw hh hl => ?_⟩
  cases low with
  | false => exact R.stop rfl l.length l i hw hh (Nat.le_refl _)
  | true => exact R.least l i hw hh (by rcases hm with h | h; · cases h
                                        · omega)
theorem fix_wall (hc : cs C s < 0) : Fix w h C s (List.replicate (w * h) (-1)) := by
  refine ⟨by simp, fun i hi => .inl ?_, fun l i hw hh hl => ?_⟩
  · unfold dd
    rw [List.getD_eq_getElem?_getD, List.getElem?_replicate]
    split <;> rfl
  · exfalso
    rcases l with _ | ⟨a, l⟩
    · have h1 : i = s := hh
      have := (way_head (t := []) hw).2
      rw [h1] at this; omega
    · have h1 : a = s := hh
      have := (way_head (a := a) hw).2
      rw [h1] at this; omega
end
end Rou
end Go.Proofs.Ytgncngpgodfijaa
