/-
  What the law SchedFits goes through: how often each task was done, and when first. No program in sight.
-/
import Derived.Test.YtgncngpgodfijaaSchL9
import Derived.Test.YtgncngpgodfijaaSchQ
namespace Go.Proofs.Ytgncngpgodfijaa
open Go.RowKit
set_option linter.unusedVariables false
namespace Sch

/-- how often task i was done in the first k slots from t on -/
def timesAt (ts : List Tk) (ks : List Nat) (t k i : Nat) : Nat := match ts[i]?, ks[i]? with
  | some x, some h => times x.p h t k
  | _, _ => 0
/-- when it is done next, from t on -/
def nxt (ts : List Tk) (ks : List Nat) (t i : Nat) : Nat := match ts[i]?, ks[i]? with
  | some x, some h => nextAt x.p h t
  | _, _ => 0
theorem timesAt_at {ts : List Tk} {ks : List Nat} {t k i : Nat} (h : i < ts.length) (h' : i < ks.length) : timesAt ts ks t k i = times ts[i].p ks[i] t k := by
  unfold timesAt
  rw [List.getElem?_eq_getElem h, List.getElem?_eq_getElem h']
theorem nxt_at {ts : List Tk} {ks : List Nat} {t i : Nat} (h : i < ts.length) (h' : i < ks.length) : nxt ts ks t i = nextAt ts[i].p ks[i] t := by
  unfold nxt
  rw [List.getElem?_eq_getElem h, List.getElem?_eq_getElem h']
theorem times_succ (p k s n : Nat) : times p k s (n + 1) = times p k s n + (if (s + n) % p = k then 1 else 0) := rfl
theorem times_zero (p k s : Nat) : ∀ n, times p k s n = 0 → ∀ a, a < n → (s + a) % p ≠ k
  | 0, _, a, ha => by omega
  | n + 1, h, a, ha => by
    rw [times_succ] at h
    by_cases e : a = n
    · subst e
      intro hk
      rw [if_pos hk] at h
      omega
    · exact times_zero p k s n (by omega) a (by omega)
theorem timesAt_succ (ts : List Tk) (ks : List Nat) (t k i : Nat) : timesAt ts ks t (k + 1) i = timesAt ts ks t k i + (if isDue ts ks (t + k) i = true then 1 else 0) := by
  unfold timesAt isDue
  cases ts[i]? with
  | none => simp
  | some x =>
    cases ks[i]? with
    | none => simp
    | some h =>
      dsimp only
      rw [times_succ]
      simp
theorem nxt_now {ts : List Tk} {ks : List Nat} {t k i : Nat} (h : i < ts.length) (h' : i < ks.length) (hk : ks[i] < ts[i].p) (h0 : timesAt ts ks t k i = 0) (hd : isDue ts ks (t + k) i = true) : nxt ts ks t i = t + k := by
  rw [timesAt_at h h'] at h0
  rw [isDue_at h h'] at hd
  have hd : (t + k) % ts[i].p = ks[i] := by simpa using hd
  rw [nxt_at h h']
  obtain ⟨n1, n2, n3, n4⟩ := nextAt_spec hk t
  have hz := times_zero _ _ _ _ h0
  rcases Nat.lt_trichotomy (nextAt ts[i].p ks[i] t) (t + k) with hlt | heq | hgt
  · have := hz (nextAt ts[i].p ks[i] t - t) (by omega)
    rw [show t + (nextAt ts[i].p ks[i] t - t) = nextAt ts[i].p ks[i] t by omega] at this
    exact absurd n3 this
  · exact heq
  · exact absurd hd (n4 (t + k) (by omega) hgt)
/-- the rows on the way: the tasks D of this slot are gone through already -/
def rowT (ts : List Tk) (ks : List Nat) (t k n : Nat) (D : List Nat) : List Nat := (List.range n).map (fun i => timesAt ts ks t k i + if i ∈ D then 1 else 0)
def rowF (ts : List Tk) (ks : List Nat) (t k n : Nat) (D : List Nat) : List Nat := (List.range n).map (fun i => if timesAt ts ks t k i = 0 ∧ ¬ i ∈ D then 0 else nxt ts ks t i)
/-- numbers as values of uint64 -/
def lv64 (l : List Nat) : List Value := l.map fun (k : Nat) => Value.int .u64 (k : Int)
theorem rowT_len (ts : List Tk) (ks : List Nat) (t k n : Nat) (D : List Nat) : (rowT ts ks t k n D).length = n := by simp [rowT]
theorem rowF_len (ts : List Tk) (ks : List Nat) (t k n : Nat) (D : List Nat) : (rowF ts ks t k n D).length = n := by simp [rowF]
theorem rowT_at (ts : List Tk) (ks : List Nat) (t k n : Nat) (D : List Nat) (i : Nat) (h : i < n) : (iv (rowT ts ks t k n D))[i]? = some (.int .i64 ((timesAt ts ks t k i + if i ∈ D then 1 else 0 : Nat) : Int)) := by simp [rowT, iv, h]
theorem rowF_at (ts : List Tk) (ks : List Nat) (t k n : Nat) (D : List Nat) (i : Nat) (h : i < n) : (lv64 (rowF ts ks t k n D))[i]? = some (.int .u64 ((if timesAt ts ks t k i = 0 ∧ ¬ i ∈ D then 0 else nxt ts ks t i : Nat) : Int)) := by simp [rowF, lv64, h]
theorem list_set_map {α β : Type} (g : β → α) (f h : Nat → β) (n i : Nat) (x : β) (hi : i < n) (hx : h i = x) (hf : ∀ j, j < n → j ≠ i → f j = h j) : (((List.range n).map f).map g).set i (g x) = ((List.range n).map h).map g := by
  rw [← List.map_set]
  congr 1
  apply List.ext_getElem?
  intro j
  rw [List.getElem?_set]
  by_cases hj : j < n
  · by_cases e : i = j
    · subst e
      simp [hj, hx]
    · rw [if_neg e]
      simp [hj, hf j hj (Ne.symm e)]
  · rw [List.getElem?_eq_none (by simp; omega), List.getElem?_eq_none (by simp; omega)]
    split
    · rw [if_neg (by simp; omega)]
    · rfl
theorem rowT_set (ts : List Tk) (ks : List Nat) (t k n : Nat) (D : List Nat) (d x : Nat) (hd : d < n) (hx : x = timesAt ts ks t k d + 1) : (iv (rowT ts ks t k n D)).set d (.int .i64 (x : Int)) = iv (rowT ts ks t k n (D ++ [d])) := by
  unfold iv rowT
  refine list_set_map (fun (k : Nat) => Value.int .i64 (k : Int)) _ _ n d x hd ?_ fun j hj hne => ?_
  · simp [hx]
  · simp [hne]
theorem rowF_set (ts : List Tk) (ks : List Nat) (t k n : Nat) (D : List Nat) (d x : Nat) (hd : d < n) (hx : x = nxt ts ks t d) : (lv64 (rowF ts ks t k n D)).set d (.int .u64 (x : Int)) = lv64 (rowF ts ks t k n (D ++ [d])) := by
  unfold lv64 rowF
  refine list_set_map (fun (k : Nat) => Value.int .u64 (k : Int)) _ _ n d x hd ?_ fun j hj hne => ?_
  · simp [hx]
  · simp [hne]
theorem rowF_same (ts : List Tk) (ks : List Nat) (t k n : Nat) (D : List Nat) (d : Nat) (hx : timesAt ts ks t k d ≠ 0) : rowF ts ks t k n D = rowF ts ks t k n (D ++ [d]) := by
  unfold rowF
  apply List.map_congr_left
  intro j _
  by_cases e : j = d
  · subst e
    simp [hx]
  · simp [e]
theorem rowT_next (ts : List Tk) (ks : List Nat) (t k n : Nat) (D : List Nat) (hD : ∀ i, i < n → (i ∈ D ↔ isDue ts ks (t + k) i = true)) : rowT ts ks t k n D = rowT ts ks t (k + 1) n [] := by
  unfold rowT
  apply List.map_congr_left
  intro j hj
  rw [timesAt_succ]
  have := hD j (List.mem_range.1 hj)
  by_cases h : j ∈ D
  · rw [if_pos h, if_pos (this.1 h)]; simp
  · rw [if_neg h, if_neg (fun e => h (this.2 e))]; simp
theorem rowF_next (ts : List Tk) (ks : List Nat) (t k n : Nat) (D : List Nat) (hD : ∀ i, i < n → (i ∈ D ↔ isDue ts ks (t + k) i = true)) : rowF ts ks t k n D = rowF ts ks t (k + 1) n [] := by
  unfold rowF
  apply List.map_congr_left
  intro j hj
  rw [timesAt_succ]
  have := hD j (List.mem_range.1 hj)
  by_cases h : j ∈ D
  · rw [if_neg (fun e => e.2 h), if_pos (this.1 h), if_neg (by omega)]
  · rw [if_neg (fun e => h (this.2 e)), Nat.add_zero]
    simp [h]
theorem rowT_zero (ts : List Tk) (ks : List Nat) (t n : Nat) : rowT ts ks t 0 n [] = List.replicate n 0 := by
  unfold rowT
  apply List.ext_getElem?
  intro j
  by_cases hj : j < n
  · simp [hj, timesAt, times, sumTo]
    split <;> rfl
  · rw [List.getElem?_eq_none (by simp; omega), List.getElem?_eq_none (by simp; omega)]
theorem rowF_zero (ts : List Tk) (ks : List Nat) (t n : Nat) : rowF ts ks t 0 n [] = List.replicate n 0 := by
  unfold rowF
  apply List.ext_getElem?
  intro j
  by_cases hj : j < n
  · have : timesAt ts ks t 0 j = 0 := by unfold timesAt; split <;> rfl
    simp [hj, this]
  · rw [List.getElem?_eq_none (by simp; omega), List.getElem?_eq_none (by simp; omega)]
theorem lv64_zero (n : Nat) : lv64 (List.replicate n 0) = List.replicate n (.int .u64 0) := by
  unfold lv64
  rw [List.map_replicate]
  rfl
theorem timesAt_all {ts : List Tk} {ks : List Nat} {i : Nat} (h : i < ts.length) (h' : i < ks.length) (hp : pw ts[i].p) (hk : ks[i] < ts[i].p) (t : Nat) : timesAt ts ks t 64 i = 64 / ts[i].p := by
  rw [timesAt_at h h']
  exact times_all hp hk t
theorem pw_back {p : Nat} (h : pw p) : 1 ≤ 64 / p ∧ 64 / p * p = 64 ∧ 64 / p ≤ 64 := by
  unfold pw at h
  rcases h with rfl | rfl | rfl | rfl | rfl | rfl | rfl <;> decide
theorem due_pair (ts : List Tk) (ks : List Nat) (t n : Nat) : (due ts ks t n).Pairwise (· < ·) := by
  unfold due
  exact List.Pairwise.filter _ List.pairwise_lt_range
theorem timesAt_le (ts : List Tk) (ks : List Nat) (t i : Nat) : ∀ k, timesAt ts ks t k i ≤ k
  | 0 => by unfold timesAt; split <;> exact Nat.le_refl _
  | k + 1 => by
    have := timesAt_le ts ks t i k
    rw [timesAt_succ]
    split <;> omega
end Sch
end Go.Proofs.Ytgncngpgodfijaa
