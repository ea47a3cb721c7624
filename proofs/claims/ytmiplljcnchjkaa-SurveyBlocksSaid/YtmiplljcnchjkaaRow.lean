/-
  Slices whose cells are known, whatever their elements' type is: read, kept, opened out of an argument. No program in sight.
-/
import Derived.Test.YtmiplljcnchjkaaShape
import Derived.Maps.AppendAt
import Derived.Deep.AppendLies
namespace Go.Proofs.Ytmiplljcnchjkaa
open Go.RowKit

/-- The slice at A reads as the cells l, in a block from lo on and below hi. -/
def RdL (w : World) (lo hi : Nat) (A : Option Addr) (l : List Value) : Prop :=
  l = [] ∨ ∃ b off, A = some ⟨b, off, none⟩ ∧ lo ≤ b ∧ b < hi ∧ b < w.heap.size ∧ ∀ j u, l[j]? = some u → w.cell? ⟨b, off + j, none⟩ = some u
section
variable {w w' : World} {lo hi : Nat} {A : Option Addr} {l : List Value}
theorem RdL.keep (h : RdL w lo hi A l) (hs : w.heap.size ≤ w'.heap.size) (hk : ∀ b, lo ≤ b → b < hi → b < w.heap.size → w'.heap[b]? = w.heap[b]?) : RdL w' lo hi A l := by
  rcases h with h | ⟨b, off, e, h1, h2, h3, hc⟩
  · exact .inl h
  · refine .inr ⟨b, off, e, h1, h2, by omega, fun j u hu => ?_⟩
    have := hk b h1 h2 h3
    rw [← hc j u hu]
    unfold World.cell?
    rw [this]
theorem RdL.below {B : Nat} (h : RdL w lo hi A l) (hb : Below B w w') (hB : hi ≤ B ∨ w.heap.size ≤ B) : RdL w' lo hi A l :=
  h.keep hb.size fun b _ h2 h3 => hb.block b (by omega)
theorem RdL.next (h : RdL w lo hi A l) (hb : Below w.heap.size w w') : RdL w' lo hi A l := h.below hb (.inr (Nat.le_refl _))
theorem RdL.grown {row : Option Nat} (h : RdL w lo hi A l) (hb : w.grownBy w' row) (hr : ∀ g, row = some g → g < lo ∨ hi ≤ g) : RdL w' lo hi A l :=
  h.keep hb.size fun b h1 h2 h3 => hb.block b h3 (fun e => by have := hr b e.symm; omega)
theorem RdL.alloc (h : RdL w lo hi A l) (o : Obj) : RdL (w.alloc o) lo hi A l := h.next (bl w o)
theorem RdL.drewN (h : RdL w lo hi A l) (n : Nat) : RdL (w.drewN n) lo hi A l := h
theorem RdL.drew (h : RdL w lo hi A l) : RdL w.drew lo hi A l := h
theorem RdL.far (h : RdL w lo hi A l) {p : Addr} (hp : p.block < lo ∨ hi ≤ p.block) (u : Value) : RdL (w.setCell p u) lo hi A l :=
  h.keep (by simp) fun b h1 h2 _ => Below.heap_setCell w p u b (by omega)
theorem RdL.wide {lo' hi' : Nat} (h : RdL w lo hi A l) (h1 : lo' ≤ lo) (h2 : hi ≤ hi') : RdL w lo' hi' A l := by
  rcases h with h | ⟨b, off, e, g1, g2, g3, hc⟩
  · exact .inl h
  · exact .inr ⟨b, off, e, by omega, by omega, g3, hc⟩
theorem RdL.some (h : RdL w lo hi A l) (hn : 0 < l.length) : ∃ b off, A = some ⟨b, off, none⟩ ∧ lo ≤ b ∧ b < hi ∧ b < w.heap.size ∧ ∀ j u, l[j]? = some u → w.cell? ⟨b, off + j, none⟩ = some u := by
  rcases h with rfl | h
  · cases hn
  · exact h
theorem RdL.take (h : RdL w lo hi A l) (n : Nat) : RdL w lo hi A (l.take n) := by
  rcases h with rfl | ⟨b, off, e, h1, h2, h3, hc⟩
  · exact .inl (by simp)
  · refine .inr ⟨b, off, e, h1, h2, h3, fun j u hu => hc j u ?_⟩
    rw [List.getElem?_take] at hu
    split at hu
    · exact hu
    · cases hu
theorem RdL.drop {b off : Nat} (h : RdL w lo hi (.some ⟨b, off, none⟩) l) (n : Nat) : RdL w lo hi (.some ⟨b, off + n, none⟩) (l.drop n) := by
  rcases h with rfl | ⟨b', off', e, h1, h2, h3, hc⟩
  · exact .inl (by simp)
  · injection e with e
    injection e with e1 e2
    subst e1 e2
    refine .inr ⟨b, off + n, rfl, h1, h2, h3, fun j u hu => ?_⟩
    rw [List.getElem?_drop] at hu
    rw [Nat.add_assoc]
    exact hc _ u hu
theorem RdL.news (h : RdL w lo hi A l) : ∀ ad, A = Option.some ad → ∀ j u, l[j]? = Option.some u → w.cell? (ad.add j) = Option.some u := by
  rintro ad rfl j u hu
  rcases h with rfl | ⟨b, off, e, h1, h2, h3, hc⟩
  · simp at hu
  · injection e with e
    subst e
    rw [add_off]
    exact hc j u hu
end
theorem new_rd (w : World) (t : TypeId) (l : List Value) : RdL (w.alloc (.cells l.toArray t)) w.heap.size (w.heap.size + 1) (some ⟨w.heap.size, 0, none⟩) l :=
  .inr ⟨_, 0, rfl, Nat.le_refl _, Nat.lt_succ_self _, by simp, fun j u hu => by rw [Nat.zero_add]; exact ((Blk.mk w t l).cell j).trans hu⟩
/-- what the call made reads as its cells -/
theorem own_rd {w : World} {base n size : Nat} {e : TypeId} {v : Value} {l : List Value} (h : w.ownsRow base e size v n l) :
    ∃ A cap, v = .slice A n cap ∧ RdL w base w.heap.size A l ∧ n ≤ cap ∧ cap ≤ maxLen ∧ (A = none → n = 0 ∧ cap = 0) := by
  obtain ⟨hl, h⟩ := h
  rcases h with ⟨rfl, h0⟩ | ⟨g, cap, cur, rfl, hb, hg, hn, hm, hs, ht⟩
  · exact ⟨none, 0, by rw [h0], .inl (List.eq_nil_of_length_eq_zero (by rw [hl, h0]; simp)), by omega, by simp [maxLen], fun _ => ⟨h0, rfl⟩⟩
  · have hlt : g < w.heap.size := by
      rcases Nat.lt_or_ge g w.heap.size with h' | h'
      · exact h'
      · rw [Array.getElem?_eq_none h'] at hg; cases hg
    refine ⟨_, cap, rfl, .inr ⟨g, 0, rfl, hb, hlt, hlt, fun j u hu => ?_⟩, hn, hm, (fun h => by cases h)⟩
    rw [Nat.zero_add, cell_of_row w g j cur _ _ hg, ← Array.getElem?_toList]
    have hj : j < n * size := by
      rcases Nat.lt_or_ge j (n * size) with h' | h'
      · exact h'
      · rw [List.getElem?_eq_none (by omega)] at hu; cases hu
    have := congrArg (fun x => x[j]?) ht
    simp only [List.getElem?_take, hj, if_true] at this
    rw [this, hu]
theorem own_next {w w' : World} {base n size : Nat} {e : TypeId} {v : Value} {l : List Value} (h : w.ownsRow base e size v n l) (hb : Below w.heap.size w w') : w'.ownsRow base e size v n l :=
  h.kept (row := none) ⟨hb.os, hb.tape, hb.output, hb.size, fun i hi _ => hb.block i hi⟩ (by cases v.ownBlock <;> simp)
theorem own_down {w : World} {base base' : Nat} {e : TypeId} {size n : Nat} {v : Value} {xs : List Value} (h : w.ownsRow base e size v n xs) (hb : base' ≤ base) : w.ownsRow base' e size v n xs := by
  refine ⟨h.1, ?_⟩
  rcases h.2 with h2 | ⟨g, cap, cur, e1, e2, r⟩
  · exact .inl h2
  · exact .inr ⟨g, cap, cur, e1, Nat.le_trans hb e2, r⟩
theorem only_below {a w : World} (h : Below a.heap.size a w) (row : Option Nat) : a.grownBy w row := ⟨h.os, h.tape, h.output, h.size, fun i hi _ => h.block i hi⟩
theorem only_refl (w : World) (row : Option Nat) : w.grownBy w row := ⟨rfl, rfl, rfl, Nat.le_refl _, fun _ _ _ => rfl⟩
theorem only_trans {a b c : World} {row : Option Nat} (h : a.grownBy b row) (k : b.grownBy c row) : a.grownBy c row :=
  ⟨k.os.trans h.os, k.tape.trans h.tape, k.output.trans h.output, Nat.le_trans h.size k.size, fun i hi hr => (k.block i (Nat.lt_of_lt_of_le hi h.size) hr).trans (h.block i hi hr)⟩
theorem only_set {a w : World} {g : Nat} (h : a.grownBy w (some g)) (i : Nat) (u : Value) : a.grownBy (w.setCell ⟨g, i, none⟩ u) (some g) :=
  ⟨h.os, h.tape, h.output, by simpa using h.size, fun k hk hr => (Below.heap_setCell w ⟨g, i, none⟩ u k (by intro e; exact hr (by rw [e]))).trans (h.block k hk hr)⟩
theorem only_drewN {a w : World} {row : Option Nat} (h : a.grownBy w row) (n : Nat) : a.grownBy (w.drewN n) row := ⟨h.os, h.tape, h.output, h.size, h.block⟩
theorem only_drew {a w : World} {row : Option Nat} (h : a.grownBy w row) : a.grownBy w.drew row := ⟨h.os, h.tape, h.output, h.size, h.block⟩
theorem only_alloc {a w : World} {row : Option Nat} (h : a.grownBy w row) (o : Obj) : a.grownBy (w.alloc o) row :=
  ⟨h.os, h.tape, h.output, by simp; have := h.size; omega, fun k hk hr => (Below.heap_alloc w o k (Nat.lt_of_lt_of_le hk h.size)).trans (h.block k hk hr)⟩
theorem bgrow {B g : Nat} {a w w' : World} (h : Below B a w) (hg : w.grownBy w' (some g)) (hB : B ≤ w.heap.size) (hr : B ≤ g) : Below B a w' := h.grown hg hB (fun k hk => by injection hk with hk; omega)

section
variable {α : Type}
theorem flatMap_len (f : α → List Value) (size : Nat) (hf : ∀ x, (f x).length = size) (L : List α) : (L.flatMap f).length = L.length * size := by
  induction L with
  | nil => simp
  | cons x t ih => simp [hf, ih, Nat.add_mul, Nat.add_comm]
theorem flatMap_at (f : α → List Value) (size : Nat) (hf : ∀ x, (f x).length = size) : ∀ (L : List α) (i : Nat) (h : i < L.length) (j : Nat), j < size → (L.flatMap f)[i * size + j]? = (f L[i])[j]?
  | [], i, h, _, _ => by simp at h
  | x :: t, 0, _, j, hj => by
    rw [List.flatMap_cons, List.getElem?_append_left (by rw [hf]; omega)]
    simp
  | x :: t, i + 1, h, j, hj => by
    rw [List.flatMap_cons, List.getElem?_append_right (by rw [hf, Nat.add_mul]; omega), hf]
    have e : (i + 1) * size + j - size = i * size + j := by rw [Nat.add_mul]; omega
    rw [e, flatMap_at f size hf t i (by simpa using h) j hj]
    simp
theorem flatMap_one (g : α → Value) (L : List α) : L.flatMap (fun x => [g x]) = L.map g := by
  induction L with
  | nil => rfl
  | cons x t ih => simp [ih]
theorem RdL.elem {w : World} {lo hi b off : Nat} (f : α → List Value) (size : Nat) (hf : ∀ x, (f x).length = size) {L : List α} (h : RdL w lo hi (Option.some ⟨b, off, none⟩) (L.flatMap f)) {i : Nat} (hi' : i < L.length) :
    ∀ j u, j < size → (f L[i])[j]? = Option.some u → w.cell? ⟨b, off + i * size + j, none⟩ = Option.some u := by
  intro j u hj hu
  rw [← flatMap_at f size hf L i hi' j hj] at hu
  rcases h with h | ⟨b', off', e, _, _, _, hc⟩
  · rw [h] at hu; cases hu
  · injection e with e
    injection e with e1 e2
    subst e1 e2
    rw [Nat.add_assoc]
    exact hc _ u hu
/-- an argument that is a slice, its elements opened by f -/
theorem open_slice_of {W : World} (f : α → List Value) (p : α → Prop) (e : Sh) (size : Nat) (hsz : e.size = size) (hf : ∀ x, (f x).length = size) (hpos : 0 < size)
    (hop : ∀ cs, e.Sat W cs → ∃ x, cs = f x ∧ p x) {v : Value} (h : VSat W (.slice e) false v) :
    ∃ A L cap, v = .slice A (List.length L) cap ∧ RdL W 0 W.heap.size A (L.flatMap f) ∧ (∀ x ∈ L, p x) ∧ L.length ≤ cap ∧ cap ≤ maxLen ∧ (A = none → L.length = 0 ∧ cap = 0) := by
  obtain ⟨A, len, cap, ev, hl, hm, hc⟩ := h
  injection ev with ev
  subst ev
  by_cases h0 : len = 0
  · subst h0
    refine ⟨A, [], cap, rfl, .inl rfl, (fun x hx => by cases hx), hl, hm, fun hA => ?_⟩
    rcases hc with ⟨_, _, h⟩ | ⟨_, h⟩ | ⟨b, off, h, _⟩
    · exact ⟨rfl, h⟩
    · exact absurd hA h
    · rw [hA] at h; cases h
  rcases hc with ⟨_, h0', _⟩ | h0' | ⟨b, off, rfl, hb, hi⟩
  · exact absurd h0' h0
  · exact absurd h0'.1 h0
  · have hi' : ∀ i, i < len → ∃ x : α, (∀ j u, (f x)[j]? = some u → W.cell? ⟨b, off + i * size + j, none⟩ = some u) ∧ p x := by
      intro i hil
      obtain ⟨cs, _, hcs, hs⟩ := hi i hil
      obtain ⟨x, rfl, hx⟩ := hop cs hs
      rw [hsz] at hcs
      exact ⟨x, hcs, hx⟩
    obtain ⟨L, rfl, hL⟩ := list_of hi'
    refine ⟨_, L, cap, rfl, .inr ⟨b, off, rfl, Nat.zero_le _, hb, hb, fun j u hu => ?_⟩, fun x hx => ?_, hl, hm, (fun h => by cases h)⟩
    · have hj : j < L.length * size := by
        rw [← flatMap_len f size hf]
        exact (List.getElem?_eq_some_iff.1 hu).1
      have hq : j / size < L.length := (Nat.div_lt_iff_lt_mul hpos).2 hj
      have e1 : j = j / size * size + j % size := by rw [Nat.mul_comm]; exact (Nat.div_add_mod j size).symm
      rw [e1, flatMap_at f size hf L _ hq _ (Nat.mod_lt _ hpos)] at hu
      have := (hL _ hq).1 _ u hu
      rw [Nat.add_assoc, ← e1] at this
      exact this
    · obtain ⟨i, hi2, rfl⟩ := List.getElem_of_mem hx
      exact (hL i hi2).2
end

/-- a new slice of the call's own is handed back -/
def GotL (w : World) (et : TypeId) (cells : List Value) (e : Ending) (w' : World) : Prop := (∃ v, e = .returned v ∧ w'.ownsRow w.heap.size et 1 v cells.length cells) ∧ Below w.heap.size w w'
/-- two values that own no block in common -/
def Apart (v u : Value) : Prop := ∀ b, v.ownBlock = some b → u.ownBlock ≠ some b
theorem Apart.symm {v u : Value} (h : Apart v u) : Apart u v := fun b hb hv => h b hv hb
theorem own_lt {w : World} {base n size : Nat} {e : TypeId} {v : Value} {l : List Value} (h : w.ownsRow base e size v n l) {b : Nat} (hb : v.ownBlock = some b) : base ≤ b ∧ b < w.heap.size := by
  obtain ⟨_, h⟩ := h
  rcases h with ⟨rfl, _⟩ | ⟨g, cap, cur, rfl, hbs, hg, _⟩
  · cases hb
  · simp only [Value.ownBlock, Option.some.injEq] at hb
    subst hb
    refine ⟨hbs, ?_⟩
    rcases Nat.lt_or_ge g w.heap.size with h' | h'
    · exact h'
    · rw [Array.getElem?_eq_none h'] at hg; cases hg
theorem Apart.step {w : World} {base n size : Nat} {e : TypeId} {v v' u : Value} {l : List Value} (h : Apart v u) (hu : w.ownsRow base e size u n l) (hv : v'.ownBlock = v.ownBlock ∨ ∀ b, v'.ownBlock = some b → w.heap.size ≤ b) : Apart v' u := by
  intro b hb hub
  have := (own_lt hu hub).2
  rcases hv with hv | hv
  · exact h b (hv ▸ hb) hub
  · have := hv b hb
    omega
theorem own_kept {w w' : World} {base n size : Nat} {e : TypeId} {v u : Value} {l : List Value} (h : w.ownsRow base e size u n l) (hg : w.grownBy w' v.ownBlock) (ha : Apart v u) : w'.ownsRow base e size u n l :=
  h.kept hg (by
    cases hu : u.ownBlock with
    | none => exact .inl rfl
    | some b => exact .inr (fun e => ha b e.symm hu))
theorem own_same {w w' : World} {base n size : Nat} {e : TypeId} {u : Value} {l : List Value} (h : w.ownsRow base e size u n l) (hk : ∀ b, u.ownBlock = some b → w'.heap[b]? = w.heap[b]?) : w'.ownsRow base e size u n l := by
  refine ⟨h.1, ?_⟩
  rcases h.2 with h2 | ⟨g, cap, cur, rfl, hb, hg, r⟩
  · exact .inl h2
  · exact .inr ⟨g, cap, cur, rfl, hb, (hk g rfl).trans hg, r⟩
/-- 'append' onto a row of the call's own, the source nil, empty or not; whose block the new row lies in -/
theorem wpList_append_mine {P : Program} {w : World} {ops : Array Oper} {rest : List Oper} {o : Oper} {a : Act} {Q : Exit → Act → World → Prop} (hgd : o.guard = none) (s x : Operand) (t : TypeId)
    (ho : o.op = .call { callee := .builtin .append, args := #[s, x], argTypes := #[t, t] })
    (base : Nat) (e : TypeId) (i : TypeInfo) (z : Value) (size bytes : Nat) (ht : P.underlying t = some (.slice e)) (hi : P.info? e = some i) (hz : i.zero = some z)
    (hsize : i.size = size) (hby : i.bytes = bytes) (hzs : z.cells.size = size) (hsz : 0 < size)
    (v : Value) (n : Nat) (xs : List Value) (hs : a.eval s = v) (hown : w.ownsRow base e size v n xs)
    (ao : Option Addr) (m c : Nat) (news : List Value) (hx : a.eval x = .slice ao m c) (hl : news.length = m * size) (hnone : ao = none → m = 0 ∧ c = 0)
    (hnews : ∀ ad, ao = some ad → ∀ j u, news[j]? = some u → w.cell? (ad.add j) = some u) (h1 : ∀ u ∈ news, u.oneCell' = true)
    (h63 : n + m ≤ maxLen) (hbytes : (n + m) * bytes ≤ 140737488355328) (hbase : base ≤ w.heap.size)
    (h : ∀ v' w', w'.ownsRow base e size v' (n + m) (xs ++ news) → w.grownBy w' v.ownBlock → (v'.ownBlock = v.ownBlock ∨ ∀ b, v'.ownBlock = some b → w.heap.size ≤ b) → wpList P ops Q rest (a.put o.dst v') w') : wpList P ops Q (o :: rest) a w := by
  cases ao with
  | some ad => exact wpList_append_own_at _ hgd s x t ho base e i z size bytes ht hi hz hsize hby hzs hsz v n xs hs hown ad m c news hx hl (hnews ad rfl) h1 h63 hbytes hbase fun v' w' h1 h2 _ h4 => h v' w' h1 h2 (h4.imp id fun e b hb => by rw [e] at hb; injection hb with hb; omega)
  | none =>
    obtain ⟨rfl, rfl⟩ := hnone rfl
    have hn : news = [] := List.eq_nil_of_length_eq_zero (by simpa using hl)
    subst hn
    refine wpList_append_own_none hgd s x t ho base e i size ht hi v n xs hs hown hx ?_
    exact h v w (by simpa using hown) ⟨rfl, rfl, rfl, Nat.le_refl _, fun _ _ _ => rfl⟩ (.inl rfl)
end Go.Proofs.Ytmiplljcnchjkaa
