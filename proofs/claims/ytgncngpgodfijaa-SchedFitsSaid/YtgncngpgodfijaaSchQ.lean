/-
  Tasks laid into slots: when all have room, how often each is done, and when next: the plain law. No program in sight.
-/
import Derived.Test.YtgncngpgodfijaaSchP
namespace Go.Proofs.Ytgncngpgodfijaa.Sch

/-- what tasks need together -/
def need : List Tk → Nat
  | [] => 0
  | t :: ts => 64 / t.p * t.c + need ts
theorem need_append : ∀ a b : List Tk, need (a ++ b) = need a + need b
  | [], b => by simp [need]
  | t :: a, b => by simp only [List.cons_append, need]; rw [need_append a b]; omega
/-- a sum over slots -/
def sumTo (f : Nat → Nat) : Nat → Nat
  | 0 => 0
  | n + 1 => sumTo f n + f n
theorem sumTo_add (f g : Nat → Nat) : ∀ n, sumTo (fun a => f a + g a) n = sumTo f n + sumTo g n
  | 0 => rfl
  | n + 1 => by simp only [sumTo]; rw [sumTo_add f g n]; omega
theorem sumTo_le (f : Nat → Nat) (m : Nat) : ∀ n, (∀ a, a < n → f a ≤ m) → sumTo f n ≤ n * m
  | 0, _ => by simp [sumTo]
  | n + 1, h => by
    have h1 := sumTo_le f m n (fun a ha => h a (by omega))
    have h2 := h n (by omega)
    simp only [sumTo]
    rw [Nat.succ_mul]
    omega
theorem sumTo_ge (f : Nat → Nat) (m : Nat) : ∀ n, (∀ a, a < n → m ≤ f a) → n * m ≤ sumTo f n
  | 0, _ => by simp [sumTo]
  | n + 1, h => by
    have h1 := sumTo_ge f m n (fun a ha => h a (by omega))
    have h2 := h n (by omega)
    simp only [sumTo]
    rw [Nat.succ_mul]
    omega
theorem sumTo_mul (f : Nat → Nat) (c : Nat) : ∀ n, sumTo (fun a => f a * c) n = sumTo f n * c
  | 0 => by simp [sumTo]
  | n + 1 => by simp only [sumTo]; rw [sumTo_mul f c n, Nat.add_mul]
theorem sumTo_congr {f g : Nat → Nat} : ∀ n, (∀ a, a < n → f a = g a) → sumTo f n = sumTo g n
  | 0, _ => rfl
  | n + 1, h => by simp only [sumTo]; rw [sumTo_congr n (fun a ha => h a (by omega)), h n (by omega)]
/-- how often a task is done in 64 slots from one on -/
def times (p k s n : Nat) : Nat := sumTo (fun a => if (s + a) % p = k then 1 else 0) n
theorem times_dec : ∀ p ∈ [1, 2, 4, 8, 16, 32, 64], ∀ s, s < 64 → ∀ k, k < p → times p k s 64 = 64 / p := by decide +kernel
theorem times_all {p : Nat} (h : pw p) {k : Nat} (hk : k < p) (s : Nat) : times p k s 64 = 64 / p := by
  have hm : p ∈ [1, 2, 4, 8, 16, 32, 64] := by
    rcases h with rfl | rfl | rfl | rfl | rfl | rfl | rfl <;> simp
  have h1 := times_dec p hm (s % 64) (Nat.mod_lt _ (by decide)) k hk
  rw [← h1]
  unfold times
  refine sumTo_congr 64 fun a _ => ?_
  have e : (s + a) % p = (s % 64 + a) % p := by
    rw [← h.mod (s + a), ← h.mod (s % 64 + a)]
    congr 1
    omega
  rw [e]
theorem load_sum : ∀ (ts : List Tk) (ks : List Nat), ks.length = ts.length → (∀ t ∈ ts, pw t.p) → (∀ i (h : i < ts.length) (h' : i < ks.length), ks[i] < ts[i].p) → sumTo (load ts ks) 64 = need ts
  | [], ks, _, _, _ => by
    have e : sumTo (load [] ks) 64 = sumTo (fun _ => 0) 64 := sumTo_congr 64 fun a _ => load_nil_left ks a
    rw [e]
    rfl
  | t :: ts, [], h, _, _ => by cases h
  | t :: ts, k :: ks, h, hp, hk => by
    have h0 : k < t.p := hk 0 (by simp) (by simp)
    have h1 := load_sum ts ks (by simpa using h) (fun u hu => hp u (List.mem_cons_of_mem _ hu)) (fun i hi hi' => hk (i + 1) (by simpa using hi) (by simpa using hi'))
    have h2 := times_all (hp t (List.mem_cons_self ..)) h0 0
    unfold times at h2
    simp only [Nat.zero_add] at h2
    have e : sumTo (load (t :: ts) (k :: ks)) 64 = sumTo (fun a => (if a % t.p = k then 1 else 0) * t.c + load ts ks a) 64 := by
      refine sumTo_congr 64 fun a _ => ?_
      simp only [load]
      split <;> simp
    rw [e, sumTo_add, sumTo_mul, h2, h1]
    rfl
/-- the load comes again with a period -/
def per (p : Nat) (f : Nat → Nat) : Prop := ∀ a b, a % p = b % p → f a = f b
theorem per.more {p q : Nat} {f : Nat → Nat} (h : per p f) (hd : p ∣ q) : per q f := fun a b e => h a b (by
  obtain ⟨c, rfl⟩ := hd
  rw [← Nat.mod_mul_right_mod a p c, ← Nat.mod_mul_right_mod b p c, e])
theorem pw_dvd {p q : Nat} (hp : pw p) (hq : pw q) (h : p ≤ q) : p ∣ q := by
  rcases hp with rfl | rfl | rfl | rfl | rfl | rfl | rfl <;> rcases hq with rfl | rfl | rfl | rfl | rfl | rfl | rfl <;> first | omega | decide
/-- tasks that all take one, of which none is done more often than the one ahead: one that has no room has none because all is full -/
theorem full_no (n : Nat) : ∀ (us ts : List Tk) (ks : List Nat) (p : Nat), Laid n ts ks → per p (load ts ks) → pw p → (∀ t ∈ ts ++ us, pw t.p ∧ t.c = 1) → (∀ t ∈ us, p ≤ t.p) → us.Pairwise (fun a b => a.p ≤ b.p) →
    lay n ts ks us = none → 64 * n < need (ts ++ us)
  | [], ts, ks, p, _, _, _, _, _, _, h => by simp [lay] at h
  | t :: us, ts, ks, p, hl, hper, hpp, hall, hle, hpw, h => by
    have ht := hall t (by simp)
    have hd := pw_dvd hpp ht.1 (hle t (List.mem_cons_self ..))
    have hper' := hper.more hd
    simp only [lay] at h
    split at h
    · rename_i hlt
      obtain ⟨hp1, hp2⟩ := List.pairwise_cons.1 hpw
      have := full_no n us (ts ++ [t]) (ks ++ [first (fits ts ks t n) t.p]) t.p (hl.snoc hlt ((first_spec _ _).2.1 hlt)) (fun a b e => by
        rw [load_snoc _ _ _ _ _ hl.len, load_snoc _ _ _ _ _ hl.len, hper' a b e, e]) ht.1 (fun u hu => hall u (by simpa using hu)) hp1 hp2 h
      simpa using this
    · rename_i hlt
      have hfull : ∀ a, a < 64 → n ≤ load ts ks a := by
        intro a ha
        have hmod : a % t.p < t.p := Nat.mod_lt _ ht.1.pos.1
        have hno := (first_spec (fits ts ks t n) t.p).2.2 (a % t.p) (by have := (first_spec (fits ts ks t n) t.p).1; omega)
        by_cases hlo : n ≤ load ts ks a
        · exact hlo
        · exfalso
          have : fits ts ks t n (a % t.p) = true := fits_iff.2 fun b hb e => by
            rw [hper' b a e, ht.2]
            omega
          rw [this] at hno
          cases hno
      have h1 := sumTo_ge (load ts ks) n 64 hfull
      rw [load_sum ts ks hl.len (fun u hu => (hall u (List.mem_append_left _ hu)).1) hl.ph] at h1
      rw [need_append]
      have h2 : 1 ≤ 64 / t.p := (Nat.one_le_div_iff ht.1.pos.1).2 ht.1.pos.2
      simp only [need]
      rw [ht.2]
      omega
theorem full_yes {n : Nat} {l : List Tk} {ms : List Nat} (hall : ∀ t ∈ l, pw t.p) (h : phases l n = some ms) : need l ≤ 64 * n := by
  have hl := phases_laid h
  rw [← load_sum l ms hl.len hall hl.ph]
  exact sumTo_le _ _ _ hl.le
/-- when a task is done next, from a time on -/
def nextAt (p k s : Nat) : Nat := s + (k + p - s % p) % p
theorem nextAt_spec {p k : Nat} (hk : k < p) (s : Nat) : s ≤ nextAt p k s ∧ nextAt p k s < s + p ∧ nextAt p k s % p = k ∧ ∀ a, s ≤ a → a < nextAt p k s → a % p ≠ k := by
  have hp : 0 < p := by omega
  have hr : s % p < p := Nat.mod_lt _ hp
  have hs := Nat.mod_add_div s p
  unfold nextAt
  generalize s % p = r at *
  generalize s / p = q at *
  by_cases h : r ≤ k
  · have e : (k + p - r) % p = k - r := by
      rw [show k + p - r = (k - r) + p by omega, Nat.add_mod_right, Nat.mod_eq_of_lt (by omega)]
    rw [e]
    refine ⟨by omega, by omega, ?_, fun a h1 h2 e2 => ?_⟩
    · rw [show s + (k - r) = k + p * q by omega, Nat.add_mul_mod_self_left, Nat.mod_eq_of_lt hk]
    · obtain ⟨d, rfl⟩ : ∃ d, a = (r + d) + p * q := ⟨a - s, by omega⟩
      rw [Nat.add_mul_mod_self_left, Nat.mod_eq_of_lt (by omega)] at e2
      omega
  · have e : (k + p - r) % p = k + p - r := Nat.mod_eq_of_lt (by omega)
    rw [e]
    refine ⟨by omega, by omega, ?_, fun a h1 h2 e2 => ?_⟩
    · rw [show s + (k + p - r) = k + p * (q + 1) by rw [Nat.mul_add]; omega, Nat.add_mul_mod_self_left, Nat.mod_eq_of_lt hk]
    · obtain ⟨d, rfl⟩ : ∃ d, a = (r + d) + p * q := ⟨a - s, by omega⟩
      rw [Nat.add_mul_mod_self_left] at e2
      by_cases hd : r + d < p
      · rw [Nat.mod_eq_of_lt hd] at e2; omega
      · rw [show r + d = (r + d - p) + p by omega, Nat.add_mod_right, Nat.mod_eq_of_lt (by omega)] at e2
        omega
end Go.Proofs.Ytgncngpgodfijaa.Sch
