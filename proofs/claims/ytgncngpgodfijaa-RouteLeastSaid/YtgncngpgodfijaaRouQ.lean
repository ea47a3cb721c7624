/-
  The plain law of package route's search: what holds while squares are taken out of the heap, one behind the other, and what holds when none is left. No program in sight.
-/
import Derived.Test.YtgncngpgodfijaaRouH
namespace Go.Proofs.Ytgncngpgodfijaa
set_option linter.unusedVariables false
namespace Rou

theorem dd_set {D : List Int} {i : Nat} (x : Int) (hi : i < D.length) (k : Nat) : dd (D.set i x) k = if i = k then x else dd D k := by
  unfold dd
  rw [List.getD_eq_getElem?_getD, List.getElem?_set, List.getD_eq_getElem?_getD]
  by_cases h : i = k
  · subst h
    simp [hi]
  · simp [h]
def bb (N : List Bool) (i : Nat) : Bool := N.getD i false
theorem bb_set {N : List Bool} {i : Nat} (x : Bool) (hi : i < N.length) (k : Nat) : bb (N.set i x) k = if i = k then x else bb N k := by
  unfold bb
  rw [List.getD_eq_getElem?_getD, List.getElem?_set, List.getD_eq_getElem?_getD]
  by_cases h : i = k
  · subst h
    simp [hi]
  · simp [h]
def cnt (N : List Bool) : Nat := N.countP fun b => b
theorem cnt_set : ∀ (N : List Bool) (i : Nat), i < N.length → bb N i = false → cnt (N.set i true) = cnt N + 1
  | [], i, h, _ => by simp at h
  | a :: t, 0, _, h => by
    simp [bb] at h
    subst h
    simp [cnt]
  | a :: t, i + 1, h, hb => by
    have := cnt_set t i (by simpa using h) (by simpa [bb] using hb)
    unfold cnt at *
    simp only [List.set_cons_succ, List.countP_cons, this]
    omega
theorem cnt_le (N : List Bool) : cnt N ≤ N.length := List.countP_le_length
/-- what holds all the time -/
structure DI (w h : Nat) (C : List Int) (s : Nat) (D K : List Int) (N : List Bool) (ord : List Nat) (r : Nat → Nat) (Q : List It) : Prop where
  lenD : D.length = w * h
  lenK : K.length = w * h
  lenN : N.length = w * h
  dn : ∀ i, i < w * h → (bb N i = true ↔ i ∈ ord)
  ct : cnt N = ord.length
  lt : ∀ i ∈ ord, i < w * h
  rr : ∀ i ∈ ord, r i < ord.length
  rng : ∀ i, i < w * h → dd D i = -1 ∨ (0 ≤ dd D i ∧ dd D i ≤ 1073741824 * (ord.length : Int))
  s0 : s < w * h ∧ 0 ≤ cs C s
  st : dd D s = 0 ∧ dd K s = -1
  lab : ∀ i, i < w * h → 0 ≤ dd D i → 0 ≤ cs C i ∧ (i ≠ s → ∃ j : Nat, j ∈ ord ∧ dd K i = (j : Int) ∧ i ∈ besideL w h j ∧ dd D i = dd D j + cs C i ∧ (i ∈ ord → r j < r i))
  dlab : ∀ i ∈ ord, 0 ≤ dd D i
  mono : ∀ j ∈ ord, ∀ k, k < w * h → k ∉ ord → 0 ≤ dd D k → dd D j ≤ dd D k
  hq : ∀ q ∈ Q, q.1 < w * h ∧ 0 ≤ dd D q.1 ∧ dd D q.1 ≤ q.2
  hin : ∀ k, k < w * h → k ∉ ord → 0 ≤ dd D k → (k, dd D k) ∈ Q
/-- all squares beside those that are done are come to as cheaply -/
def Cl (w h : Nat) (C D : List Int) (ord : List Nat) : Prop := ∀ j ∈ ord, ∀ k ∈ besideL w h j, 0 ≤ cs C k → 0 ≤ dd D k ∧ dd D k ≤ dd D j + cs C k
/-- .. but for those beside x behind the first m ones -/
structure DX (w h : Nat) (C : List Int) (s : Nat) (D K : List Int) (N : List Bool) (ord : List Nat) (r : Nat → Nat) (Q : List It) (x m : Nat) : Prop where
  i : DI w h C s D K N ord r Q
  cl : ∀ j ∈ ord, ∀ k ∈ besideL w h j, (j = x → k ∈ (besideL w h x).take m) → 0 ≤ cs C k → 0 ≤ dd D k ∧ dd D k ≤ dd D j + cs C k
  mem : x ∈ ord
  top : ∀ j ∈ ord, dd D j ≤ dd D x
  xb : dd D x + 1073741824 ≤ 1073741824 * (ord.length : Int)
  ql : Q.length ≤ 4 * (ord.length - 1) + m
section
variable {w h s : Nat} {C D K : List Int} {N : List Bool} {ord : List Nat} {r : Nat → Nat} {Q Q' : List It}
theorem DI.ord_le (I : DI w h C s D K N ord r Q) : ord.length ≤ w * h := by
  rw [← I.ct, ← I.lenN]
  exact cnt_le N
theorem di_start (hs : s < w * h) (hc : 0 ≤ cs C s) : DI w h C s ((List.replicate (w * h) (-1)).set s 0) (List.replicate (w * h) (-1)) (List.replicate (w * h) false) [] (fun _ => 0) [(s, 0)] := by
  have e : ∀ i, dd ((List.replicate (w * h) (-1)).set s 0) i = if s = i then 0 else -1 := fun i => by
    rw [dd_set _ (by simpa using hs)]
    split
    · rfl
    · unfold dd
      rw [List.getD_eq_getElem?_getD, List.getElem?_replicate]
      split <;> rfl
  have e2 : ∀ i, dd (List.replicate (w * h) (-1)) i = -1 := fun i => by
    unfold dd
    rw [List.getD_eq_getElem?_getD, List.getElem?_replicate]
    split <;> rfl
  have e3 : ∀ i, bb (List.replicate (w * h) false) i = false := fun i => by
    unfold bb
    rw [List.getD_eq_getElem?_getD, List.getElem?_replicate]
    split <;> rfl
  refine ⟨by simp, by simp, by simp, fun i _ => by rw [e3]; simp, ?_, fun i h => (by cases h), fun i h => (by cases h), fun i _ => ?_, ⟨hs, hc⟩, ⟨by rw [e, if_pos rfl], e2 s⟩, fun i hi hd => ?_, fun i h => (by cases h), fun i h => (by cases h), ?_, ?_⟩
  · unfold cnt
    rw [List.length_nil, List.countP_eq_zero]
    intro b hb
    rw [List.mem_replicate] at hb
    rw [hb.2]
    decide
  · rw [e]
    split
    · exact .inr ⟨Int.le_refl _, by simp⟩
    · exact .inl rfl
  · rw [e] at hd
    split at hd
    · rename_i he
      subst he
      exact ⟨hc, fun hh => absurd rfl hh⟩
    · omega
  · intro q hq
    rw [List.mem_singleton] at hq
    subst hq
    refine ⟨hs, ?_⟩
    rw [e, if_pos rfl]
    exact ⟨Int.le_refl _, Int.le_refl _⟩
  · intro k hk _ hd
    rw [e] at hd ⊢
    split at hd
    · rename_i he
      subst he
      rw [if_pos rfl]
      simp
    · omega
/-- an item of a square that is done goes -/
theorem DI.skip (I : DI w h C s D K N ord r Q) {x : It} (hp : List.Perm (x :: Q') Q) (hx : x.1 ∈ ord) : DI w h C s D K N ord r Q' :=
  ⟨I.lenD, I.lenK, I.lenN, I.dn, I.ct, I.lt, I.rr, I.rng, I.s0, I.st, I.lab, I.dlab, I.mono, fun q hq => I.hq q (hp.subset (List.mem_cons_of_mem _ hq)), fun k hk hn hd => by
    have := hp.symm.subset (I.hin k hk hn hd)
    rcases List.mem_cons.1 this with h1 | h1
    · rw [← h1] at hx
      exact absurd hx hn
    · exact h1⟩
/-- the first item's square is done now -/
theorem DI.settle (I : DI w h C s D K N ord r Q) (hC : Cl w h C D ord) {x : It} (hp : List.Perm (x :: Q') Q) (hmin : ∀ y ∈ Q, le x y) (hx : x.1 ∉ ord) (hql : Q.length ≤ 4 * ord.length + 1) :
    x.2 = dd D x.1 ∧ DX w h C s D K (N.set x.1 true) (ord ++ [x.1]) (fun i => if i = x.1 then ord.length else r i) Q' x.1 0 := by
  obtain ⟨h1, h2, h3⟩ := I.hq x (hp.subset (List.mem_cons_self ..))
  have hin := I.hin x.1 h1 hx h2
  have hxe : x.2 = dd D x.1 := by
    have := le_cost (hmin _ hin)
    dsimp only at this
    omega
  have hle : ∀ k, k < w * h → k ∉ ord → 0 ≤ dd D k → dd D x.1 ≤ dd D k := fun k hk hn hd => by
    have := le_cost (hmin _ (I.hin k hk hn hd))
    dsimp only at this
    omega
  have hlo : ∀ j ∈ ord, dd D j ≤ dd D x.1 := fun j hj => I.mono j hj x.1 h1 hx h2
  have hol := I.ord_le
  refine ⟨hxe, ⟨⟨I.lenD, I.lenK, by rw [List.length_set]; exact I.lenN, fun i hi => ?_, ?_, ?_, ?_, fun i hi => ?_, I.s0, I.st, fun i hi hd => ?_, ?_, ?_, fun q hq => I.hq q (hp.subset (List.mem_cons_of_mem _ hq)), fun k hk hn hd => ?_⟩, ?_, by simp, ?_, ?_, ?_⟩⟩
  · rw [bb_set _ (by rw [I.lenN]; exact h1)]
    by_cases hi2 : x.1 = i
    · rw [if_pos hi2]
      subst hi2
      simp
    · rw [if_neg hi2, I.dn i hi, List.mem_append, List.mem_singleton]
      exact ⟨.inl, fun hh => hh.elim id fun e => absurd e.symm hi2⟩
  · rw [cnt_set _ _ (by rw [I.lenN]; exact h1), I.ct]
    · simp
    · cases hb : bb N x.1 with
      | false => rfl
      | true => exact absurd ((I.dn x.1 h1).1 hb) hx
  · intro i hi
    rcases List.mem_append.1 hi with hh | hh
    · exact I.lt i hh
    · rw [List.mem_singleton] at hh
      subst hh
      exact h1
  · intro i hi
    rw [List.length_append, List.length_singleton]
    split
    · omega
    · rename_i hne
      rcases List.mem_append.1 hi with hh | hh
      · have := I.rr i hh; omega
      · exact absurd (List.mem_singleton.1 hh) hne
  · rcases I.rng i hi with hh | ⟨ha, hb⟩
    · exact .inl hh
    · refine .inr ⟨ha, ?_⟩
      rw [List.length_append, List.length_singleton]
      omega
  · obtain ⟨a, b⟩ := I.lab i hi hd
    refine ⟨a, fun his => ?_⟩
    obtain ⟨j, hj, hk, hb, he, hr⟩ := b his
    refine ⟨j, List.mem_append_left _ hj, hk, hb, he, fun hio => ?_⟩
    have hjx : j ≠ x.1 := fun e => hx (e ▸ hj)
    rw [if_neg hjx]
    rcases List.mem_append.1 hio with hh | hh
    · have hix : i ≠ x.1 := fun e => hx (e ▸ hh)
      rw [if_neg hix]
      exact hr hh
    · rw [if_pos (List.mem_singleton.1 hh)]
      exact I.rr j hj
  · intro i hi
    rcases List.mem_append.1 hi with hh | hh
    · exact I.dlab i hh
    · rw [List.mem_singleton.1 hh]
      exact h2
  · intro j hj k hk hn hd
    have hn' : k ∉ ord := fun hh => hn (List.mem_append_left _ hh)
    rcases List.mem_append.1 hj with hh | hh
    · exact I.mono j hh k hk hn' hd
    · rw [List.mem_singleton.1 hh]
      exact hle k hk hn' hd
  · have hn' : k ∉ ord := fun hh => hn (List.mem_append_left _ hh)
    have := hp.symm.subset (I.hin k hk hn' hd)
    rcases List.mem_cons.1 this with hh | hh
    · exfalso
      refine hn (List.mem_append_right _ (List.mem_singleton.2 ?_))
      rw [← hh]
    · exact hh
  · intro j hj k hk hkx hc
    rcases List.mem_append.1 hj with hh | hh
    · exact hC j hh k hk hc
    · have := hkx (List.mem_singleton.1 hh)
      simp at this
  · intro j hj
    rcases List.mem_append.1 hj with hh | hh
    · exact hlo j hh
    · rw [List.mem_singleton.1 hh]
      exact Int.le_refl _
  · rcases I.rng x.1 h1 with hh | ⟨ha, hb⟩
    · omega
    · rw [List.length_append, List.length_singleton]
      omega
  · have := hp.length_eq
    rw [List.length_cons] at this
    rw [List.length_append, List.length_singleton]
    omega
theorem take_succ_mem {l : List Nat} {m k j : Nat} (hm : m < l.length) (hk : l[m] = k) (hj : j ∈ l.take (m + 1)) : j ∈ l.take m ∨ j = k := by
  rw [List.take_add_one, List.getElem?_eq_getElem hm, List.mem_append] at hj
  rcases hj with hj | hj
  · exact .inl hj
  · right
    simp at hj
    omega
variable {x m k : Nat}
/-- the next square beside x is one that need not be lowered -/
theorem DX.pass (X : DX w h C s D K N ord r Q x m) (hm : m < (besideL w h x).length) (hk : (besideL w h x)[m] = k) (hw : 0 < w) (hp : cs C k < 0 ∨ k ∈ ord ∨ (0 ≤ dd D k ∧ dd D k ≤ dd D x + cs C k)) : DX w h C s D K N ord r Q x (m + 1) := by
  refine ⟨X.i, fun j hj k' hk' hx hc => ?_, X.mem, X.top, X.xb, by have := X.ql; omega⟩
  by_cases hjx : j = x
  · subst hjx
    rcases take_succ_mem hm hk (hx rfl) with h1 | h1
    · exact X.cl j hj k' hk' (fun _ => h1) hc
    · subst h1
      rcases hp with h2 | h2 | h2
      · omega
      · have := X.top k' h2
        have := X.i.dlab k' h2
        omega
      · exact h2
  · exact X.cl j hj k' hk' (fun e => absurd e hjx) hc
/-- .. or is lowered -/
theorem DX.lower (X : DX w h C s D K N ord r Q x m) (hm : m < (besideL w h x).length) (hk : (besideL w h x)[m] = k) (hkl : k < w * h) (hc : 0 ≤ cs C k ∧ cs C k ≤ 1073741824) (hn : k ∉ ord) (hl : dd D k = -1 ∨ dd D x + cs C k < dd D k)
    (hp : List.Perm ((k, dd D x + cs C k) :: Q) Q') : DX w h C s (D.set k (dd D x + cs C k)) (K.set k (x : Int)) N ord r Q' x (m + 1) := by
  have hD := fun i => dd_set (D := D) (i := k) (dd D x + cs C k) (by rw [X.i.lenD]; exact hkl) i
  have hK := fun i => dd_set (D := K) (i := k) (x : Int) (by rw [X.i.lenK]; exact hkl) i
  have hne : ∀ j ∈ ord, k ≠ j := fun j hj e => hn (e ▸ hj)
  have hDo : ∀ j ∈ ord, dd (D.set k (dd D x + cs C k)) j = dd D j := fun j hj => by rw [hD, if_neg (hne j hj)]
  have hx0 := X.i.dlab x X.mem
  have hkb : k ∈ besideL w h x := by rw [← hk]; exact List.getElem_mem hm
  have hks : k ≠ s := fun e => by
    rw [e, X.i.st.1] at hl
    rw [e] at hc
    omega
  have hlow : ∀ i, 0 ≤ dd D i → dd (D.set k (dd D x + cs C k)) i ≤ dd D i := fun i hi => by
    rw [hD]
    split
    · rename_i e
      subst e
      omega
    · exact Int.le_refl _
  refine ⟨⟨by rw [List.length_set]; exact X.i.lenD, by rw [List.length_set]; exact X.i.lenK, X.i.lenN, X.i.dn, X.i.ct, X.i.lt, X.i.rr, fun i hi => ?_, X.i.s0, ?_, fun i hi hd => ?_, ?_, ?_, ?_, ?_⟩, ?_, X.mem, ?_, ?_, ?_⟩
  · rw [hD]
    split
    · have := X.xb
      exact .inr ⟨by omega, by omega⟩
    · exact X.i.rng i hi
  · rw [hD, hK, if_neg hks, if_neg hks]
    exact X.i.st
  · rw [hD] at hd ⊢
    rw [hK]
    by_cases hik : k = i
    · subst hik
      rw [if_pos rfl, if_pos rfl]
      refine ⟨hc.1, fun _ => ⟨x, X.mem, rfl, hkb, by rw [hDo x X.mem], fun hh => absurd hh hn⟩⟩
    · rw [if_neg hik] at hd
      rw [if_neg hik, if_neg hik]
      obtain ⟨a, b⟩ := X.i.lab i hi hd
      refine ⟨a, fun his => ?_⟩
      obtain ⟨j, hj, hk', hb, he, hr⟩ := b his
      exact ⟨j, hj, hk', hb, by rw [hDo j hj]; exact he, hr⟩
  · intro i hi
    rw [hDo i hi]
    exact X.i.dlab i hi
  · intro j hj i hi hni hd
    rw [hDo j hj]
    rw [hD] at hd ⊢
    split
    · have := X.top j hj
      omega
    · rename_i hne'
      rw [if_neg hne'] at hd
      exact X.i.mono j hj i hi hni hd
  · intro q hq
    rcases List.mem_cons.1 (hp.symm.subset hq) with h1 | h1
    · subst h1
      refine ⟨hkl, ?_⟩
      dsimp only
      rw [hD, if_pos rfl]
      omega
    · obtain ⟨a, b, c⟩ := X.i.hq q h1
      have := hlow q.1 b
      refine ⟨a, ?_, by omega⟩
      rw [hD]
      split <;> omega
  · intro i hi hni hd
    rw [hD] at hd ⊢
    by_cases hik : k = i
    · subst hik
      rw [if_pos rfl]
      exact hp.subset (List.mem_cons_self ..)
    · rw [if_neg hik] at hd ⊢
      exact hp.subset (List.mem_cons_of_mem _ (X.i.hin i hi hni hd))
  · intro j hj k' hk' hx hc'
    rw [hDo j hj]
    by_cases hkk : k = k'
    · subst hkk
      rw [hD, if_pos rfl]
      by_cases hjx : j = x
      · subst hjx; omega
      · have := X.cl j hj k hk' (fun e => absurd e hjx) hc'
        omega
    · have : 0 ≤ dd D k' ∧ dd D k' ≤ dd D j + cs C k' := by
        refine X.cl j hj k' hk' (fun e => ?_) hc'
        rcases take_succ_mem hm hk (hx e) with h1 | h1
        · exact h1
        · exact absurd h1.symm hkk
      rw [hD, if_neg hkk]
      exact this
  · intro j hj
    rw [hDo j hj, hDo x X.mem]
    exact X.top j hj
  · rw [hDo x X.mem]
    exact X.xb
  · have := hp.length_eq
    rw [List.length_cons] at this
    have := X.ql
    omega
/-- all squares beside x are through -/
theorem DX.done (X : DX w h C s D K N ord r Q x m) (hm : (besideL w h x).length ≤ m) (hm4 : m ≤ 4) : DI w h C s D K N ord r Q ∧ Cl w h C D ord ∧ Q.length ≤ 4 * ord.length + 1 := by
  refine ⟨X.i, fun j hj k hk hc => X.cl j hj k hk (fun e => ?_) hc, ?_⟩
  · rw [List.take_of_length_le hm, ← e]
    exact hk
  · have h1 := X.ql
    have : 0 < ord.length := List.length_pos_of_mem X.mem
    omega
/-- no item is left -/
theorem DI.sol (I : DI w h C s D K N ord r []) (hC : Cl w h C D ord) (hb : w * h ≤ 4096) : Sol w h C s D K r := by
  have hall : ∀ i, i < w * h → 0 ≤ dd D i → i ∈ ord := fun i hi hd => by
    by_cases hh : i ∈ ord
    · exact hh
    · have := I.hin i hi hh hd
      cases this
  have hol := I.ord_le
  refine ⟨I.lenD, I.lenK, fun i hi => ?_, fun _ => I.st, fun hs => by have := I.s0.2; omega, fun i hi hd k hk hc => hC i (hall i hi hd) k hk hc, fun i hi hd => by have := I.rr i (hall i hi hd); omega, fun i hi hd => ?_⟩
  · rcases I.rng i hi with h1 | ⟨h1, h2⟩
    · exact .inl h1
    · exact .inr ⟨h1, by omega⟩
  · obtain ⟨a, b⟩ := I.lab i hi hd
    refine ⟨a, fun his => ?_⟩
    obtain ⟨j, hj, hk, hbb, he, hr⟩ := b his
    exact ⟨j, I.lt j hj, hk, hbb, I.dlab j hj, he, hr (hall i hi hd)⟩
/-- from a wall nothing is come to -/
theorem sol_wall (hs : s < w * h) (hc : cs C s < 0) : Sol w h C s (List.replicate (w * h) (-1)) (List.replicate (w * h) (-1)) (fun _ => 0) := by
  have e2 : ∀ i, dd (List.replicate (w * h) (-1)) i = -1 := fun i => by
    unfold dd
    rw [List.getD_eq_getElem?_getD, List.getElem?_replicate]
    split <;> rfl
  refine ⟨by simp, by simp, fun i _ => .inl (e2 i), fun hh => by omega, fun _ i _ => e2 i, fun i _ hd => ?_, fun i _ hd => ?_, fun i _ hd => ?_⟩
  all_goals
    rw [e2] at hd
    omega
end
end Rou
end Go.Proofs.Ytgncngpgodfijaa
