/- A part of the proof of WholeFaults. -/
import Derived.Test.YtekjehbkmlodmaaGreatZQ
import Derived.Scope
import Derived.RangeFuncRecord
import Derived.Test.YtekjehbkmlodmaaGreatZP
set_option linter.unusedVariables false
set_option linter.unusedSimpArgs false
section
namespace Go.Ev
open Go Go.RowKit
theorem Ext.low {ρ ρ' : Nm} {f f' : Q → Option AB} {n0 nx nx' : Q} {W W' : World} (hn : n0.toN ≤ nx.toN) (h : Ext ρ f nx W ρ' f' nx' W') : Ext ρ f n0 W ρ' f' nx' W' :=
 ⟨h.le, Nat.le_trans hn h.fresh, h.os, h.tape, h.output, h.size, h.same, fun b x hb hlt => h.old b x hb (Nat.lt_of_lt_of_le hlt hn), h.org, fun b x hb => (h.nm b x hb).imp id (fun h1 => Nat.le_trans hn h1)⟩
theorem Ext.trans0 {ρ ρ' ρ'' : Nm} {f f' f'' : Q → Option AB} {n0 nx' nx'' : Q} {W W' W'' : World} (h : Ext ρ f n0 W ρ' f' nx' W') (k : Ext ρ' f' n0 W' ρ'' f'' nx'' W'') : Ext ρ f n0 W ρ'' f'' nx'' W'' where
 le := Nm.le_trans h.le k.le
 fresh := k.fresh
 os := k.os.trans h.os
 tape := k.tape.trans h.tape
 output := k.output.trans h.output
 size := Nat.le_trans h.size k.size
 same := fun g hg hn => by
  rw [k.same g (Nat.lt_of_lt_of_le hg h.size) (fun b x c hb e => ?_), h.same g hg hn]
  obtain ⟨g1, c1, h1, h2⟩ := h.org b x hb
  rw [h1] at e
  injection e with e
  injection e with e1 e2
  subst e1
  rcases h2 with h2 | ⟨b0, x0, c0, h3, h4⟩
  ·omega
  ·exact hn b0 x0 c0 h3 h4
 old := fun b x hb hlt => by
  have h1 := k.old b x hb hlt
  obtain ⟨y, hy⟩ := Option.isSome_iff_exists.1 h1
  exact h.old b y hy hlt
 org := fun b x hb => by
  obtain ⟨g, c, h1, h2⟩ := k.org b x hb
  refine ⟨g, c, h1, ?_⟩
  rcases h2 with h2 | ⟨b0, x0, c0, h3, h4⟩
  ·exact .inl (Nat.le_trans h.size h2)
  ·obtain ⟨g', c', h5, h6⟩ := h.org b0 x0 h3
   rw [h4] at h5
   injection h5 with h5
   injection h5 with h5 _
   subst h5
   exact h6
 nm := fun b x hb => by
  rcases k.nm b x hb with h1 | h1
  ·obtain ⟨y, hy⟩ := Option.isSome_iff_exists.1 h1
   exact h.nm b y hy
  ·exact .inr h1
theorem Ext.sub {ρ ρ' : Nm} {f f' f'' : Q → Option AB} {n0 nx' : Q} {W W' : World} (h : Ext ρ f n0 W ρ' f' nx' W') (hs : ∀ b x, f'' b = some x → f' b = some x) : Ext ρ f n0 W ρ' f'' nx' W' :=
 ⟨h.le, h.fresh, h.os, h.tape, h.output, h.size, h.same, fun b x hb => h.old b x (hs b x hb), fun b x hb => h.org b x (hs b x hb), h.nm⟩
def fr (g g' f : Q → Option AB) : Q → Option AB := fun b => match g' b with
 | some x => some x
 | none => match g b with
  | some _ => none
  | none => f b
theorem fr_cases {g g' f : Q → Option AB} {b : Q} {x : AB} (h : fr g g' f b = some x) : g' b = some x ∨ (g' b = none ∧ g b = none ∧ f b = some x) := by
 unfold fr at h
 split at h
 ·rename_i y hy; injection h with h; subst h; exact .inl hy
 ·rename_i hy
  split at h
  ·cases h
  ·rename_i hz; exact .inr ⟨hy, hz, h⟩
theorem frame {ρ ρ' : Nm} {f g g' : Q → Option AB} {nx nx' : Q} {W W' : World} (hR : RF ρ f nx W) (hs : ∀ b x, g b = some x → f b = some x) (hR' : RF ρ' g' nx' W') (hX : Ext ρ g nx W ρ' g' nx' W') :
  RF ρ' (fr g g' f) nx' W' ∧ Ext ρ f nx W ρ' (fr g g' f) nx' W' := by
  
 have rest : ∀ b x, g b = none → f b = some x → ∃ G c, ρ b = some (G, c) ∧ BlkR ρ W G c x ∧ ρ' b = some (G, c) ∧ W'.heap[G]? = W.heap[G]? := fun b x hg hq => by
  obtain ⟨G, c, h1, h2⟩ := hR.blk b x hq
  refine ⟨G, c, h1, h2, hX.le _ _ h1, hX.same G h2.lt fun b' x' c' hb' e => ?_⟩
  have := hR.inj b b' x x' G c c' hq (hs _ _ hb') h1 e
  subst this
  rw [hg] at hb'
  cases hb'
 have mixed : ∀ b b' x x' G c c', g' b = some x → g b' = none → f b' = some x' → ρ' b = some (G, c) → ρ' b' = some (G, c') → False := fun b b' x x' G c c' h1 h2 h3 h4 h5 => by
  obtain ⟨G2, c2, k1, k2, k3, _⟩ := rest b' x' h2 h3
  rw [k3] at h5
  injection h5 with h5
  injection h5 with h5 _
  subst h5
  obtain ⟨G3, c3, k4, k5⟩ := hX.org b x h1
  rw [k4] at h4
  injection h4 with h4
  injection h4 with h4 _
  subst h4
  rcases k5 with k5 | ⟨b0, x0, c0, k6, k7⟩
  ·have := k2.lt; omega
  ·have := hR.inj b0 b' x0 x' _ c0 c2 (hs _ _ k6) h3 k7 k1
   subst this
   rw [k6] at h2
   cases h2
 refine ⟨⟨fun b x hb => ?_, fun b b' x x' G c c' h1 h2 h3 h4 => ?_, hR'.new⟩, ⟨hX.le, hX.fresh, hX.os, hX.tape, hX.output, hX.size, fun G hG hn => hX.same G hG fun b x c hb => hn b x c (hs _ _ hb), fun b x hb hlt => ?_, fun b x hb => ?_, hX.nm⟩⟩
 ·rcases fr_cases hb with h1 | ⟨h1, h2, h3⟩
  ·exact hR'.blk b x h1
  ·obtain ⟨G, c, k1, k2, k3, k4⟩ := rest b x h2 h3
   exact ⟨G, c, k3, (k2.le hX.le).same k4⟩
 ·rcases fr_cases h1 with h1 | ⟨h1, h1', h1''⟩
  ·rcases fr_cases h2 with h2 | ⟨h2, h2', h2''⟩
   ·exact hR'.inj b b' x x' G c c' h1 h2 h3 h4
   ·exact (mixed b b' x x' G c c' h1 h2' h2'' h3 h4).elim
  ·rcases fr_cases h2 with h2 | ⟨h2, h2', h2''⟩
   ·exact (mixed b' b x' x G c' c h2 h1' h1'' h4 h3).elim
   ·obtain ⟨G1, c1, k1, _, k3, _⟩ := rest b x h1' h1''
    obtain ⟨G2, c2, l1, _, l3, _⟩ := rest b' x' h2' h2''
    rw [k3] at h3
    rw [l3] at h4
    injection h3 with h3
    injection h3 with e1 e2
    injection h4 with h4
    injection h4 with e3 e4
    subst e1 e3
    exact hR.inj b b' x x' _ c1 c2 h1'' h2'' k1 l1
 ·rcases fr_cases hb with h1 | ⟨h1, h2, h3⟩
  ·obtain ⟨y, hy⟩ := Option.isSome_iff_exists.1 (hX.old b x h1 hlt)
   rw [hs _ _ hy]; rfl
  ·rw [h3]; rfl
 ·rcases fr_cases hb with h1 | ⟨h1, h2, h3⟩
  ·obtain ⟨G, c, k1, k2⟩ := hX.org b x h1
   refine ⟨G, c, k1, k2.imp (fun h => h) fun ⟨b0, x0, c0, k3, k4⟩ => ⟨b0, x0, c0, hs _ _ k3, k4⟩⟩
  ·obtain ⟨G, c, k1, _, k3, _⟩ := rest b x h2 h3
   exact ⟨G, c, k3, .inr ⟨b, x, c, h3, k1⟩⟩
theorem makeF {ρ : Nm} {f : Q → Option AB} {n0 nx id : Q} {W : World} {obj : Obj} {c : Nat} {b : AB} (hR : RF ρ f nx W) (hid : ρ id = none) (hlt : id.toN < nx.toN) (hn0 : n0.toN ≤ id.toN) (hx : BlkR (ρ.upd id (W.heap.size, c)) (W.alloc obj) W.heap.size c b) :
  RF (ρ.upd id (W.heap.size, c)) (fun q => if q = id then some b else f q) nx (W.alloc obj) ∧ Ext ρ f n0 W (ρ.upd id (W.heap.size, c)) (fun q => if q = id then some b else f q) nx (W.alloc obj) := by
 have hle : ρ.le (ρ.upd id (W.heap.size, c)) := Nm.le_upd hid
 have ho := only_alloc W obj
 have cases_ : ∀ q x, (if q = id then some b else f q) = some x → (q = id ∧ x = b) ∨ (q ≠ id ∧ f q = some x) := fun q x h => by
  split at h
  ·rename_i hq; injection h with h; exact .inl ⟨hq, h.symm⟩
  ·rename_i hq; exact .inr ⟨hq, h⟩
 have far : ∀ q x G d, f q = some x → ρ q = some (G, d) → G < W.heap.size := fun q x G d h1 h2 => by
  obtain ⟨G', d', h3, h4⟩ := hR.blk q x h1
  rw [h2] at h3
  injection h3 with h3
  injection h3 with h3 _
  subst h3
  exact h4.lt
 refine ⟨⟨fun q x hq => ?_, fun q q' x x' G d d' h1 h2 h3 h4 => ?_, fun q x hq => ?_⟩, ⟨hle, by omega, ho.os, ho.tape, ho.output, ho.size, fun k hk _ => ho.same k hk (by omega), fun q x hq hl => ?_, fun q x hq => ?_, fun q x hq => ?_⟩⟩
 ·rcases cases_ q x hq with ⟨rfl, rfl⟩ | ⟨h1, h2⟩
  ·exact ⟨_, _, Nm.upd_same _ _ _, hx⟩
  ·obtain ⟨G, d, h3, h4⟩ := hR.blk q x h2
   exact ⟨G, d, hle _ _ h3, (h4.le hle).same (ho.same G h4.lt (by have := h4.lt; omega))⟩
 ·rcases cases_ q x h1 with ⟨rfl, rfl⟩ | ⟨k1, k2⟩
  ·rcases cases_ q' x' h2 with ⟨rfl, rfl⟩ | ⟨l1, l2⟩
   ·rfl
   ·rw [Nm.upd_same] at h3
    rw [Nm.upd_other _ _ _ _ l1] at h4
    injection h3 with h3
    injection h3 with h3 _
    have := far _ _ _ _ l2 h4
    omega
  ·rcases cases_ q' x' h2 with ⟨rfl, rfl⟩ | ⟨l1, l2⟩
   ·rw [Nm.upd_same] at h4
    rw [Nm.upd_other _ _ _ _ k1] at h3
    injection h4 with h4
    injection h4 with h4 _
    have := far _ _ _ _ k2 h3
    omega
   ·rw [Nm.upd_other _ _ _ _ k1] at h3
    rw [Nm.upd_other _ _ _ _ l1] at h4
    exact hR.inj q q' x x' G d d' k2 l2 h3 h4
 ·by_cases h : q = id
  ·subst h; exact hlt
  ·rw [Nm.upd_other _ _ _ _ h] at hq; exact hR.new q x hq
 ·rcases cases_ q x hq with ⟨rfl, rfl⟩ | ⟨h1, h2⟩
  ·omega
  ·rw [h2]; rfl
 ·rcases cases_ q x hq with ⟨rfl, rfl⟩ | ⟨h1, h2⟩
  ·exact ⟨_, _, Nm.upd_same _ _ _, .inl (Nat.le_refl _)⟩
  ·obtain ⟨G, d, h3, h4⟩ := hR.blk q x h2
   exact ⟨G, d, hle _ _ h3, .inr ⟨q, x, d, h2, h3⟩⟩
 ·by_cases h : q = id
  ·subst h; exact .inr hn0
  ·rw [Nm.upd_other _ _ _ _ h] at hq; exact .inl (by rw [hq]; rfl)
noncomputable def hq (fa : FA) (S : Nat → Bool) (h : H) (mg : Nat) : Q → Option AB := fun b => match fa.find? (fun f => decide (f.2.1 = b) && (S f.1 && !tb mg f.1)) with
 | some f => some f.2.2
 | none => h.t.get b
theorem withF_n {h : H} {mg M : Nat} : ∀ fa : FA, (withF h mg fa M).n = h.n
 | [] => rfl
 | f :: fa => by
  show (cond (tb M f.1 && !tb mg f.1) (⟨(withF h mg fa M).t.put (some f.2.2) f.2.1, (withF h mg fa M).n⟩ : H) (withF h mg fa M)).n = h.n
  cases tb M f.1 && !tb mg f.1 <;> exact withF_n fa
theorem withF_get {h : H} {mg M : Nat} : ∀ fa : FA, (withF h mg fa M).t.get = hq fa (tb M) h mg
 | [] => rfl
 | f :: fa => by
  have ih := withF_get (h := h) (mg := mg) (M := M) fa
  funext b
  show (cond (tb M f.1 && !tb mg f.1) (⟨(withF h mg fa M).t.put (some f.2.2) f.2.1, (withF h mg fa M).n⟩ : H) (withF h mg fa M)).t.get b = _
  unfold hq
  rw [List.find?_cons]
  cases hb : tb M f.1 && !tb mg f.1 with
  | false =>
   simp only [Bool.and_false, cond_false]
   rw [ih]; rfl
  | true =>
   simp only [Bool.and_true, cond_true]
   rw [T.get_put]
   by_cases e : b = f.2.1
   ·rw [if_pos e, decide_eq_true e.symm]
   ·rw [if_neg e, decide_eq_false (fun h => e h.symm), ih]; rfl
theorem withA_n {h : H} {mg : Nat} : ∀ fa : FA, (withA h mg fa).n = h.n
 | [] => rfl
 | f :: fa => by
  show (cond (tb mg f.1) (withA h mg fa) (⟨(withA h mg fa).t.put (some f.2.2) f.2.1, (withA h mg fa).n⟩ : H)).n = h.n
  cases tb mg f.1 <;> exact withA_n fa
theorem withA_get {h : H} {mg : Nat} : ∀ fa : FA, (withA h mg fa).t.get = hq fa (fun _ => true) h mg
 | [] => rfl
 | f :: fa => by
  have ih := withA_get (h := h) (mg := mg) fa
  funext b
  show (cond (tb mg f.1) (withA h mg fa) (⟨(withA h mg fa).t.put (some f.2.2) f.2.1, (withA h mg fa).n⟩ : H)).t.get b = _
  unfold hq
  rw [List.find?_cons]
  cases hb : tb mg f.1 with
  | true =>
   simp only [Bool.not_true, Bool.and_false, cond_true]
   rw [ih]; rfl
  | false =>
   simp only [Bool.not_false, Bool.and_true, cond_false]
   rw [T.get_put]
   by_cases e : b = f.2.1
   ·rw [if_pos e, decide_eq_true e.symm]
   ·rw [if_neg e, decide_eq_false (fun h => e h.symm), ih]; rfl
def ND (fa : FA) : Prop := ∀ f ∈ fa, ∀ g ∈ fa, f.2.1 = g.2.1 → f = g
theorem hf_some {fa : FA} {S : Nat → Bool} {h : H} {mg : Nat} {b : Q} {x : AB} (e : hq fa S h mg b = some x) :
  (∃ f ∈ fa, f.2.1 = b ∧ S f.1 = true ∧ tb mg f.1 = false ∧ x = f.2.2) ∨ (h.t.get b = some x ∧ ∀ f ∈ fa, f.2.1 = b → S f.1 = true → tb mg f.1 = true) := by
 unfold hq at e
 split at e
 ·rename_i f hq
  have h1 := List.find?_some hq
  have h2 := List.mem_of_find?_eq_some hq
  injection e with e
  simp only [Bool.and_eq_true, decide_eq_true_eq, Bool.not_eq_true'] at h1
  exact .inl ⟨f, h2, h1.1, h1.2.1, h1.2.2, e.symm⟩
 ·rename_i hn
  refine .inr ⟨e, fun f hq h1 h2 => ?_⟩
  have := List.find?_eq_none.1 hn f hq
  simp only [Bool.and_eq_true, decide_eq_true_eq, Bool.not_eq_true', not_and] at this
  have := this h1 h2
  simpa using this
theorem hf_float {fa : FA} (hnd : ND fa) {S : Nat → Bool} {h : H} {mg : Nat} {f : Nat × Q × AB} (hf' : f ∈ fa) (h1 : S f.1 = true) (h2 : tb mg f.1 = false) : hq fa S h mg f.2.1 = some f.2.2 := by
 unfold hq
 cases hr : fa.find? (fun g => decide (g.2.1 = f.2.1) && (S g.1 && !tb mg g.1)) with
 | none =>
  have := List.find?_eq_none.1 hr f hf'
  simp [h1, h2] at this
 | some g =>
  have h3 := List.find?_some hr
  have h4 := List.mem_of_find?_eq_some hr
  simp only [Bool.and_eq_true, decide_eq_true_eq] at h3
  rw [hnd g h4 f hf' h3.1]
theorem hf_heap {fa : FA} {S : Nat → Bool} {h : H} {mg : Nat} {b : Q} (e : ∀ f ∈ fa, f.2.1 = b → S f.1 = true → tb mg f.1 = true) : hq fa S h mg b = h.t.get b := by
 unfold hq
 cases hr : fa.find? (fun g => decide (g.2.1 = b) && (S g.1 && !tb mg g.1)) with
 | none => rfl
 | some g =>
  have h3 := List.find?_some hr
  have h4 := List.mem_of_find?_eq_some hr
  simp only [Bool.and_eq_true, decide_eq_true_eq, Bool.not_eq_true'] at h3
  rw [e g h4 h3.1 h3.2.1] at h3
  cases h3.2.2
theorem hf_sub {fa fa' : FA} (hnd : ND fa') {S S' : Nat → Bool} {h : H} {mg : Nat} (h1 : ∀ f ∈ fa, f ∈ fa') (h2 : ∀ i, S i = true → S' i = true) (ex : ∀ f ∈ fa', tb mg f.1 = false → h.t.get f.2.1 = none) :
  ∀ b x, hq fa S h mg b = some x → hq fa' S' h mg b = some x := fun b x e => by
 rcases hf_some e with ⟨f, k1, rfl, k2, k3, rfl⟩ | ⟨k1, k2⟩
 ·exact hf_float hnd (h1 f k1) (h2 _ k2) k3
 ·rw [hf_heap fun f hq hb hs => ?_]
  ·exact k1
  ·cases hm : tb mg f.1 with
   | true => rfl
   | false =>
    have := ex f hq hm
    rw [hb, k1] at this
    cases this
end Go.Ev
end
section
namespace Go.Ev
open Go Go.RowKit
def Bm (ops : Array Oper) (j : Nat) : Nat := (befs ops.toList []).getD j 0
structure TrF (call : Cl) (ops : Array Oper) (σ : Nat → St) (val : Nat → AV) (kd : Nat → Kd) : Prop where
 guard : ∀ i o, ops[i]? = some o → GuardS ops.toList o (σ i).s (kd i)
 step : ∀ i o, ops[i]? = some o → StepD call o (Bm ops i) i (σ i) (σ (i + 1)) (val i) (kd i)
structure Sum (o : Oper) (bi i : Nat) (σ σ' : St) (v : AV) (k : Kd) : Prop where
 s : σ'.s = setN σ.s o.dst v
 fa : k ≠ .float → σ'.fa = σ.fa ∧ σ'.ids = σ.ids
 eff : k ≠ .eff → σ'.h = σ.h ∧ σ'.mg = σ.mg ∧ σ'.vs = σ.vs ∧ σ'.es = σ.es
 rd : k ≠ .read → σ'.rd = σ.rd
 isfa : k = .float → ∃ id b, σ'.fa = (i, id, b) :: σ.fa ∧ σ.ids = id :: σ'.ids
 iseff : k = .eff → σ'.vs = ⟨i + 1, σ'.h, σ'.mg⟩ :: σ.vs ∧ σ'.es = (i, bi) :: σ.es
 isrd : k = .read → σ'.rd = ⟨i, bi, o.op, σ.s, v⟩ :: σ.rd
theorem sum_of {call : Cl} {o : Oper} {bi i : Nat} {σ σ' : St} {v : AV} {k : Kd} (h : StepD call o bi i σ σ' v k) : Sum o bi i σ σ' v k := by
 cases k with
 | skip =>
  obtain ⟨h1, h2⟩ := h
  subst h2
  exact ⟨rfl, fun _ => ⟨rfl, rfl⟩, fun _ => ⟨rfl, rfl, rfl, rfl⟩, fun _ => rfl, nofun, nofun, nofun⟩
 | plain =>
  obtain ⟨h1, _, h2⟩ := h
  subst h2
  exact ⟨rfl, fun _ => ⟨rfl, rfl⟩, fun _ => ⟨rfl, rfl, rfl, rfl⟩, fun _ => rfl, nofun, nofun, nofun⟩
 | read =>
  obtain ⟨h1, h2⟩ := h
  subst h2
  exact ⟨rfl, fun _ => ⟨rfl, rfl⟩, fun _ => ⟨rfl, rfl, rfl, rfl⟩, fun h => absurd rfl h, nofun, nofun, fun _ => rfl⟩
 | float =>
  obtain ⟨_, id, b, mk, ids', h1, h2, h3, h4⟩ := h
  subst h4
  exact ⟨rfl, fun h => absurd rfl h, fun _ => ⟨rfl, rfl, rfl, rfl⟩, fun _ => rfl, fun _ => ⟨id, b, rfl, h3⟩, nofun, nofun⟩
 | eff =>
  obtain ⟨h', h1, h2, h4⟩ := h
  subst h4
  exact ⟨rfl, fun _ => ⟨rfl, rfl⟩, fun h => absurd rfl h, fun _ => rfl, nofun, fun _ => ⟨rfl, rfl⟩, nofun⟩
theorem kd_dec (k k' : Kd) : k = k' ∨ k ≠ k' := by cases k <;> cases k' <;> simp
section
variable {call : Cl} {ops : Array Oper} {σ : Nat → St} {val : Nat → AV} {kd : Nat → Kd}
theorem TrF.sum (T : TrF call ops σ val kd) {i : Nat} (hi : i < ops.size) : ∃ o, ops[i]? = some o ∧ Sum o (Bm ops i) i (σ i) (σ (i + 1)) (val i) (kd i) := by
 have ho : ops[i]? = some ops[i] := by simp [hi]
 exact ⟨_, ho, sum_of (T.step i _ ho)⟩
theorem TrF.es (T : TrF call ops σ val kd) (h0 : (σ 0).es = []) : ∀ n, n ≤ ops.size → ∀ e b, (e, b) ∈ (σ n).es ↔ (e < n ∧ kd e = .eff ∧ b = Bm ops e)
 | 0, _, e, b => by rw [h0]; simp
 | n + 1, hn, e, b => by
  obtain ⟨o, ho, hs⟩ := T.sum (i := n) (by omega)
  have ih := T.es h0 n (by omega) e b
  rcases kd_dec (kd n) .eff with hk | hk
  ·rw [(hs.iseff hk).2, List.mem_cons, ih]
   constructor
   ·rintro (h | h)
    ·injection h with h1 h2
     subst h1 h2
     exact ⟨by omega, hk, rfl⟩
    ·exact ⟨by omega, h.2⟩
   ·rintro ⟨h1, h2, h3⟩
    by_cases e' : e = n
    ·subst e'; subst h3; exact .inl rfl
    ·exact .inr ⟨by omega, h2, h3⟩
  ·rw [(hs.eff hk).2.2.2, ih]
   constructor
   ·rintro ⟨h1, h2, h3⟩; exact ⟨by omega, h2, h3⟩
   ·rintro ⟨h1, h2, h3⟩
    have : e ≠ n := fun e' => by subst e'; exact hk h2
    exact ⟨by omega, h2, h3⟩
theorem TrF.faOk (T : TrF call ops σ val kd) (h0 : (σ 0).fa = []) : ∀ n, n ≤ ops.size → (∀ f ∈ (σ n).fa, f.1 < n ∧ kd f.1 = .float) ∧ (∀ f ∈ (σ n).fa, ∀ g ∈ (σ n).fa, f.1 = g.1 → f = g)
 | 0, _ => by rw [h0]; simp
 | n + 1, hn => by
  obtain ⟨o, ho, hs⟩ := T.sum (i := n) (by omega)
  obtain ⟨i1, i2⟩ := T.faOk h0 n (by omega)
  rcases kd_dec (kd n) .float with hk | hk
  ·obtain ⟨id, b, h1, h2⟩ := hs.isfa hk
   rw [h1]
   refine ⟨fun f hf => ?_, fun f hf g hg e => ?_⟩
   ·rcases List.mem_cons.1 hf with rfl | hf
    ·exact ⟨by simp, hk⟩
    ·have := i1 f hf; exact ⟨by omega, this.2⟩
   ·rcases List.mem_cons.1 hf with rfl | hf
    ·rcases List.mem_cons.1 hg with rfl | hg
     ·rfl
     ·have := (i1 g hg).1; simp at e; omega
    ·rcases List.mem_cons.1 hg with rfl | hg
     ·have := (i1 f hf).1; simp at e; omega
     ·exact i2 f hf g hg e
  ·rw [(hs.fa hk).1]
   exact ⟨fun f hf => ⟨by have := (i1 f hf).1; omega, (i1 f hf).2⟩, i2⟩
theorem TrF.faMono (T : TrF call ops σ val kd) {m : Nat} : ∀ n, m ≤ n → n ≤ ops.size → ∀ f ∈ (σ m).fa, f ∈ (σ n).fa
 | 0, h, _, f, hf => by
  have : m = 0 := by omega
  subst this; exact hf
 | n + 1, h, hn, f, hf => by
  by_cases e : m = n + 1
  ·subst e; exact hf
  ·have ih := T.faMono n (by omega) (by omega) f hf
   obtain ⟨o, ho, hs⟩ := T.sum (i := n) (by omega)
   rcases kd_dec (kd n) .float with hk | hk
   ·obtain ⟨id, b, h1, h2⟩ := hs.isfa hk
    rw [h1]; exact List.mem_cons_of_mem _ ih
   ·rw [(hs.fa hk).1]; exact ih
theorem TrF.names (T : TrF call ops σ val kd) {P : Q → Prop} (h0 : (σ 0).fa = []) (h1 : (σ 0).ids.Nodup) (h2 : ∀ x ∈ (σ 0).ids, P x) : ∀ n, n ≤ ops.size → (σ n).ids.Nodup ∧ (∀ x ∈ (σ n).ids, P x) ∧ ND (σ n).fa ∧ (∀ f ∈ (σ n).fa, P f.2.1) ∧ (∀ f ∈ (σ n).fa, f.2.1 ∉ (σ n).ids)
 | 0, _ => by
  refine ⟨h1, h2, ?_, ?_, ?_⟩ <;> rw [h0]
  ·intro f hf; cases hf
  ·intro f hf; cases hf
  ·intro f hf; cases hf
 | n + 1, hn => by
  obtain ⟨o, ho, hs⟩ := T.sum (i := n) (by omega)
  obtain ⟨i1, i2, i3, i4, i5⟩ := T.names h0 h1 h2 n (by omega)
  rcases kd_dec (kd n) .float with hk | hk
  ·obtain ⟨id, b, k1, k2⟩ := hs.isfa hk
   rw [k2] at i1 i2 i5
   obtain ⟨j1, j2⟩ := List.nodup_cons.1 i1
   rw [k1]
   refine ⟨j2, fun x hx => i2 x (List.mem_cons_of_mem _ hx), fun f hf g hg e => ?_, fun f hf => ?_, fun f hf => ?_⟩
   ·rcases List.mem_cons.1 hf with rfl | hf
    ·rcases List.mem_cons.1 hg with rfl | hg
     ·rfl
     ·exact absurd List.mem_cons_self (show id ∉ id :: _ by have := i5 g hg; rw [← e] at this; exact this)
    ·rcases List.mem_cons.1 hg with rfl | hg
     ·exact absurd List.mem_cons_self (show id ∉ id :: _ by have := i5 f hf; rw [e] at this; exact this)
     ·exact i3 f hf g hg e
   ·rcases List.mem_cons.1 hf with rfl | hf
    ·exact i2 _ List.mem_cons_self
    ·exact i4 f hf
   ·rcases List.mem_cons.1 hf with rfl | hf
    ·exact j1
    ·exact fun h => i5 f hf (List.mem_cons_of_mem _ h)
  ·rw [(hs.fa hk).1, (hs.fa hk).2]
   exact ⟨i1, i2, i3, i4, i5⟩
theorem TrF.vsOk (T : TrF call ops σ val kd) (h0 : ⟨0, (σ 0).h, (σ 0).mg⟩ ∈ (σ 0).vs) : ∀ n, n ≤ ops.size → ∀ c, c ≤ n → (c = 0 ∨ ∃ e, c = e + 1 ∧ kd e = .eff) → ⟨c, (σ c).h, (σ c).mg⟩ ∈ (σ n).vs
 | 0, _, c, hc, h => by
  have : c = 0 := by omega
  subst this; exact h0
 | n + 1, hn, c, hc, h => by
  obtain ⟨o, ho, hs⟩ := T.sum (i := n) (by omega)
  rcases kd_dec (kd n) .eff with hk | hk
  ·rw [(hs.iseff hk).1]
   by_cases e : c = n + 1
   ·subst e; exact List.mem_cons_self
   ·exact List.mem_cons_of_mem _ (T.vsOk h0 n (by omega) c (by omega) h)
  ·rw [(hs.eff hk).2.2.1]
   by_cases e : c = n + 1
   ·rcases h with h | ⟨e', h1, h2⟩
    ·omega
    ·have : e' = n := by omega
     subst this
     exact absurd h2 hk
   ·exact T.vsOk h0 n (by omega) c (by omega) h
theorem TrF.rdOk (T : TrF call ops σ val kd) : ∀ n, n ≤ ops.size → ∀ j, j < n → kd j = .read → ∀ o, ops[j]? = some o → ⟨j, Bm ops j, o.op, (σ j).s, val j⟩ ∈ (σ n).rd
 | 0, _, j, hj, _, _, _ => by omega
 | n + 1, hn, j, hj, hk, o, ho => by
  obtain ⟨o', ho', hs⟩ := T.sum (i := n) (by omega)
  by_cases e : j = n
  ·subst e
   rw [ho] at ho'
   injection ho' with ho'
   subst ho'
   rw [hs.isrd hk]
   exact List.mem_cons_self
  ·have ih := T.rdOk n (by omega) j (by omega) hk o ho
   rcases kd_dec (kd n) .read with hk' | hk'
   ·rw [hs.isrd hk']; exact List.mem_cons_of_mem _ ih
   ·rw [hs.rd hk']; exact ih
theorem TrF.same (T : TrF call ops σ val kd) {c : Nat} : ∀ n, c ≤ n → n ≤ ops.size → (∀ e, c ≤ e → e < n → kd e ≠ .eff) → (σ n).h = (σ c).h ∧ (σ n).mg = (σ c).mg
 | 0, h, _, _ => by
  have : c = 0 := by omega
  subst this; exact ⟨rfl, rfl⟩
 | n + 1, h, hn, he => by
  by_cases e : c = n + 1
  ·subst e; exact ⟨rfl, rfl⟩
  ·obtain ⟨o, ho, hs⟩ := T.sum (i := n) (by omega)
   have h1 := hs.eff (he n (by omega) (by omega))
   have ih := T.same n (by omega) (by omega) (fun e h1 h2 => he e h1 (by omega))
   exact ⟨h1.1.trans ih.1, h1.2.1.trans ih.2⟩
noncomputable def cur (s0 : T AV) (ops : Array Oper) (val : Nat → AV) (S : Nat → Bool) : Nat → Nat → Option AV
 | 0, t => s0.get (qOf t)
 | n + 1, t => if S n = true ∧ (ops[n]?.bind (·.dst)) = some t then some (val n) else cur s0 ops val S n t
theorem cur_succ (s0 : T AV) (ops : Array Oper) (val : Nat → AV) (S : Nat → Bool) (n t : Nat) : cur s0 ops val S (n + 1) t = if S n = true ∧ (ops[n]?.bind (·.dst)) = some t then some (val n) else cur s0 ops val S n t := rfl
def Due (ops : Array Oper) : Prop := ∀ i j oi oj, i < j → ops[i]? = some oi → ops[j]? = some oj → oi.apart ops oj = true ∨ tb (Bm ops j) i = true
def Back (ops : Array Oper) : Prop := ∀ j o, ops[j]? = some o → ∀ e ∈ o.after, Region.binds .any e = true → e.on < j
theorem drawOk_due {ops : Array Oper} (h : drawOk ops = true) : Due ops ∧ Back ops := by
 unfold drawOk at h
 rw [List.all_eq_true] at h
 have at_ : ∀ j o, ops[j]? = some o → (o, j) ∈ ops.toList.zipIdx := fun j o ho => by
  rw [List.mem_zipIdx_iff_getElem?]
  simpa using ho
 constructor
 ·intro i j oi oj hij hi hj
  have h1 := h _ (at_ j oj hj)
  rw [Bool.and_eq_true] at h1
  have h2 := h1.2
  rw [List.all_eq_true] at h2
  have h3 := h2 (oi, i) (by
   rw [List.mem_zipIdx_iff_getElem?]
   simp only [List.getElem?_take, hij, if_true]
   simpa using hi)
  rw [Bool.or_eq_true] at h3
  exact h3
 ·intro j o ho e he hb
  have h1 := h _ (at_ j o ho)
  rw [Bool.and_eq_true] at h1
  have h2 := h1.1
  rw [List.all_eq_true] at h2
  have h3 := h2 e (by simpa using he)
  rw [hb] at h3
  simpa [Nat.blt_eq] using h3
theorem get_setN (s : T AV) (d : Option Nat) (v : AV) (t : Nat) : (setN s d v).get (qOf t) = if d = some t then some v else s.get (qOf t) := by
 cases d with
 | none => simp [setN]
 | some d =>
  show (s.put (some v) (qOf d)).get (qOf t) = _
  by_cases e : d = t
  ·subst e; rw [T.get_put_same]; simp
  ·rw [T.get_put_other _ _ _ _ (fun h => e (qOf_inj h).symm), if_neg (fun h => e (by injection h))]
theorem TrF.get (T : TrF call ops σ val kd) {i : Nat} (hi : i < ops.size) (t : Nat) : (σ (i + 1)).s.get (qOf t) = if (ops[i]?.bind (·.dst)) = some t then some (val i) else (σ i).s.get (qOf t) := by
 obtain ⟨o, ho, hs⟩ := T.sum hi
 rw [hs.s, get_setN, ho]
 rfl
theorem cur_look (T : TrF call ops σ val kd) (hdue : Due ops) {S : Nat → Bool} (dc : ∀ i, i < ops.size → S i = true → ∀ m, tb (Bm ops i) m = true → S m = true) {j : Nat} {o : Oper} (ho : ops[j]? = some o) (hj : S j = false) (hB : ∀ m, tb (Bm ops j) m = true → S m = true) {t : Nat} (ht : t ∈ o.looksAt ops) :
  cur (σ 0).s ops val S ops.size t = (σ j).s.get (qOf t) := by
 have hjN : j < ops.size := (Array.getElem?_eq_some_iff.1 ho).1
 have low : ∀ n, n ≤ j → cur (σ 0).s ops val S n t = (σ n).s.get (qOf t) := by
  intro n
  induction n with
  | zero => intro _; rfl
  | succ n ih =>
   intro hn
   rw [T.get (by omega)]
   rw [cur_succ]
   by_cases hd : (ops[n]?.bind (·.dst)) = some t
   ·have hSn : S n = true := by
     have hn' : ops[n]? = some ops[n] := by simp [show n < ops.size by omega]
     rcases hdue n j _ _ (by omega) hn' ho with h1 | h1
     ·rw [hn'] at hd
      exact absurd ht ((Oper.apart_spec h1).1 t hd)
     ·exact hB _ h1
    rw [if_pos ⟨hSn, hd⟩, if_pos hd]
   ·rw [if_neg (fun h => hd h.2), if_neg hd]
    exact ih (by omega)
 have high : ∀ k, j + k ≤ ops.size → cur (σ 0).s ops val S (j + k) t = cur (σ 0).s ops val S j t := by
  intro k
  induction k with
  | zero => intro _; rfl
  | succ k ih =>
   intro hn
   rw [← Nat.add_assoc, cur_succ]
   rw [if_neg, ih (by omega)]
   rintro ⟨h1, h2⟩
   by_cases hk : k = 0
   ·subst hk; simp [hj] at h1
   ·have hn' : ops[j + k]? = some ops[j + k] := by simp [show j + k < ops.size by omega]
    rcases hdue j (j + k) _ _ (by omega) ho hn' with h3 | h3
    ·rw [hn'] at h2
     exact (Oper.apart_spec h3).2.2 t h2 ht
    ·have := dc (j + k) (by omega) h1 _ h3
     rw [hj] at this; cases this
 have := high (ops.size - j) (by omega)
 rw [show j + (ops.size - j) = ops.size by omega] at this
 rw [this, low j (Nat.le_refl _)]
def plus (S : Nat → Bool) (j : Nat) : Nat → Bool := fun i => decide (i = j) || S i
theorem plus_same (S : Nat → Bool) (j : Nat) : plus S j j = true := by simp [plus]
theorem plus_other {S : Nat → Bool} {i j : Nat} (h : i ≠ j) : plus S j i = S i := by simp [plus, h]
theorem plus_of {S : Nat → Bool} {i j : Nat} (h : S i = true) : plus S j i = true := by simp [plus, h]
theorem plus_inv {S : Nat → Bool} {i j : Nat} (h : plus S j i = true) : i = j ∨ S i = true := by simpa [plus] using h
theorem cur_plus (s0 : T AV) (val : Nat → AV) (hdue : Due ops) {S : Nat → Bool} (dc : ∀ i, i < ops.size → S i = true → ∀ m, tb (Bm ops i) m = true → S m = true) {j : Nat} {o : Oper} (ho : ops[j]? = some o) (hj : S j = false) (t : Nat) :
  cur s0 ops val (plus S j) ops.size t = if o.dst = some t then some (val j) else cur s0 ops val S ops.size t := by
 have hjN : j < ops.size := (Array.getElem?_eq_some_iff.1 ho).1
 have low : ∀ n, n ≤ j → cur s0 ops val (plus S j) n t = cur s0 ops val S n t := by
  intro n
  induction n with
  | zero => intro _; rfl
  | succ n ih =>
   intro hn
   rw [cur_succ, cur_succ, plus_other (by omega), ih (by omega)]
 have high : ∀ k, j + 1 + k ≤ ops.size → cur s0 ops val (plus S j) (j + 1 + k) t = if o.dst = some t then some (val j) else cur s0 ops val S (j + 1 + k) t := by
  intro k
  induction k with
  | zero =>
   intro _
   rw [Nat.add_zero, cur_succ, cur_succ]
   rw [ho, low j (Nat.le_refl _), plus_same, hj]
   simp
  | succ k ih =>
   intro hn
   rw [← Nat.add_assoc, cur_succ, cur_succ]
   rw [plus_other (by omega), ih (by omega)]
   by_cases hd : o.dst = some t
   ·rw [if_pos hd, if_neg]
    ·rw [if_pos hd]
    ·rintro ⟨h1, h2⟩
     have hn' : ops[j + 1 + k]? = some ops[j + 1 + k] := by simp [show j + 1 + k < ops.size by omega]
     rcases hdue j (j + 1 + k) _ _ (by omega) ho hn' with h3 | h3
     ·rw [hn'] at h2
      exact (Oper.apart_spec h3).2.1 t hd h2
     ·have := dc _ (by omega) h1 _ h3
      rw [hj] at this; cases this
   ·rw [if_neg hd, if_neg hd]
 have := high (ops.size - (j + 1)) (by omega)
 rw [show j + 1 + (ops.size - (j + 1)) = ops.size by omega] at this
 exact this
theorem cur_all (T : TrF call ops σ val kd) {S : Nat → Bool} (hS : ∀ i, S i = true) (t : Nat) : ∀ n, n ≤ ops.size → cur (σ 0).s ops val S n t = (σ n).s.get (qOf t)
 | 0, _ => rfl
 | n + 1, hn => by
  rw [T.get (by omega)]
  rw [cur_succ, cur_all T hS t n (by omega), hS n]
  simp
structure J (ops : Array Oper) (σ : Nat → St) (val : Nat → AV) (kd : Nat → Kd) (ρ0 : Nm) (h0 : H) (n0 : Q) (W0 : World) (a0 : Act) (S : Nat → Bool) (a : Act) (W : World) (ρ : Nm) (c : Nat) : Prop where
 cN : c ≤ ops.size
 cut : ∀ e, e < ops.size → kd e = .eff → (S e = true ↔ e < c)
 cok : c = 0 ∨ ∃ e, c = e + 1 ∧ kd e = .eff
 env : ∀ t v, cur (σ 0).s ops val S ops.size t = some v → ∃ x, a.tmps[t]? = some x ∧ conc ρ v = some x
 defers : a.defers = a0.defers
 size : a.tmps.size = a0.tmps.size
 rf : RF ρ (hq (σ ops.size).fa S (σ c).h (σ c).mg) (σ c).h.n W
 ext : Ext ρ0 h0.t.get h0.n W0 ρ (hq (σ ops.size).fa S (σ c).h (σ c).mg) (σ c).h.n W
 low : n0.toN ≤ (σ c).h.n.toN
 un : ∀ f ∈ (σ ops.size).fa, S f.1 = false → ρ f.2.1 = none
 ex : ∀ f ∈ (σ ops.size).fa, tb (σ c).mg f.1 = false → (σ c).h.t.get f.2.1 = none
 dc : ∀ i, i < ops.size → S i = true → ∀ m, tb (Bm ops i) m = true → S m = true
 mgS : ∀ f, tb (σ c).mg f = true → S f = true
theorem hq_congr {fa : FA} {S S' : Nat → Bool} {h : H} {mg : Nat} (e : ∀ f ∈ fa, S f.1 = S' f.1) : hq fa S h mg = hq fa S' h mg := by
 funext b
 unfold hq
 have : fa.find? (fun f => decide (f.2.1 = b) && (S f.1 && !tb mg f.1)) = fa.find? (fun f => decide (f.2.1 = b) && (S' f.1 && !tb mg f.1)) := by
  induction fa with
  | nil => rfl
  | cons f fa ih =>
   rw [List.find?_cons, List.find?_cons, e f List.mem_cons_self, ih fun g hg => e g (List.mem_cons_of_mem _ hg)]
 rw [this]
end
end Go.Ev
end
section
namespace Go.Ev
open Go Go.RowKit
section
variable {call : Cl} {ops : Array Oper} {σ : Nat → St} {val : Nat → AV} {kd : Nat → Kd} {ρ0 : Nm} {h0 : H} {n0 : Q} {W0 : World} {a0 : Act} {S : Nat → Bool} {a : Act} {W : World} {ρ : Nm} {c : Nat}
structure Gl (call : Cl) (ops : Array Oper) (σ : Nat → St) (val : Nat → AV) (kd : Nat → Kd) (h0 : H) (n0 : Q) : Prop where
 T : TrF call ops σ val kd
 due : Due ops
 back : Back ops
 fa0 : (σ 0).fa = []
 es0 : (σ 0).es = []
 vs0 : ⟨0, (σ 0).h, (σ 0).mg⟩ ∈ (σ 0).vs
 nd : (σ 0).ids.Nodup
 rng : ∀ x ∈ (σ 0).ids, h0.n.toN ≤ x.toN ∧ x.toN < n0.toN
 chk : ∀ e ∈ (σ ops.size).rd, ∀ p ∈ (σ ops.size).vs, compat e.j e.bj p.c (σ ops.size).es = true → ∃ h', evO e.op call0 e.s (withF p.h p.mg (σ ops.size).fa e.bj) idk = some (e.v, h')
theorem Gl.ND (G : Gl call ops σ val kd h0 n0) : ND (σ ops.size).fa := (G.T.names (P := fun x => h0.n.toN ≤ x.toN ∧ x.toN < n0.toN) G.fa0 G.nd G.rng ops.size (Nat.le_refl _)).2.2.1
theorem Gl.fr (G : Gl call ops σ val kd h0 n0) : ∀ f ∈ (σ ops.size).fa, h0.n.toN ≤ f.2.1.toN ∧ f.2.1.toN < n0.toN := (G.T.names (P := fun x => h0.n.toN ≤ x.toN ∧ x.toN < n0.toN) G.fa0 G.nd G.rng ops.size (Nat.le_refl _)).2.2.2.1
theorem un_keep (G : Gl call ops σ val kd h0 n0) (hJ : J ops σ val kd ρ0 h0 n0 W0 a0 S a W ρ c) {ρ' : Nm} {f f' : Q → Option AB} {nx' : Q} {W' : World} (hX : Ext ρ f (σ c).h.n W ρ' f' nx' W') : ∀ g ∈ (σ ops.size).fa, ρ g.2.1 = none → ρ' g.2.1 = none := fun g hg h => by
 cases e : ρ' g.2.1 with
 | none => rfl
 | some x =>
  rcases hX.nm _ _ e with h1 | h1
  ·rw [h] at h1; cases h1
  ·have := (G.fr g hg).2
   have := hJ.low
   omega
theorem env_next (G : Gl call ops σ val kd h0 n0) (hJ : J ops σ val kd ρ0 h0 n0 W0 a0 S a W ρ c) {j : Nat} {o : Oper} (ho : ops[j]? = some o) (hj : S j = false) {ρ' : Nm} (hle : ρ.le ρ') {x : Value} (hx : conc ρ' (val j) = some x) (hd : ∀ i, o.dst = some i → i < a.tmps.size) :
  ∀ t v, cur (σ 0).s ops val (plus S j) ops.size t = some v → ∃ y, (a.put o.dst x).tmps[t]? = some y ∧ conc ρ' v = some y := by
 intro t v hv
 rw [cur_plus (σ 0).s val G.due hJ.dc ho hj t] at hv
 split at hv
 ·rename_i h1
  injection hv with hv
  subst hv
  refine ⟨x, ?_, hx⟩
  rw [h1]
  simp [Act.put, hd t h1]
 ·rename_i h1
  obtain ⟨y, h2, h3⟩ := hJ.env t v hv
  refine ⟨y, ?_, conc_le hle _ _ h3⟩
  cases hdst : o.dst with
  | none => exact h2
  | some d =>
   rw [hdst] at h1
   simp only [Act.put]
   rw [Array.getElem?_setIfInBounds_ne (fun e => h1 (by rw [e]))]
   exact h2
theorem dc_next (hJ : J ops σ val kd ρ0 h0 n0 W0 a0 S a W ρ c) {j : Nat} (hB : ∀ m, tb (Bm ops j) m = true → S m = true) : ∀ i, i < ops.size → plus S j i = true → ∀ m, tb (Bm ops i) m = true → plus S j m = true := fun i hi h m hm => by
 rcases plus_inv h with rfl | h
 ·exact plus_of (hB m hm)
 ·exact plus_of (hJ.dc i hi h m hm)
theorem lk_of (G : Gl call ops σ val kd h0 n0) (hJ : J ops σ val kd ρ0 h0 n0 W0 a0 S a W ρ c) {j : Nat} {o : Oper} (ho : ops[j]? = some o) (hj : S j = false) (hB : ∀ m, tb (Bm ops j) m = true → S m = true) : ∀ x ∈ o.op.operands, LK ρ (σ j).s a.eval x := by
 intro x hx v hv
 cases x with
 | tmp t =>
  have ht : t ∈ o.looksAt ops := List.mem_append_left _ (List.mem_filterMap.2 ⟨.tmp t, by simpa using hx, rfl⟩)
  have hv' : (σ j).s.get (qOf t) = some v := hv
  rw [← cur_look G.T G.due hJ.dc ho hj hB ht] at hv'
  obtain ⟨y, h1, h2⟩ := hJ.env t v hv'
  rw [h2]
  show some y = some (a.tmps.getD t undef)
  simp [Array.getD_eq_getD_getElem?, h1]
 | const k => exact look_ok (s := .leaf) (a := a) (fun t v h => by simp at h) (.const k) v hv
 | global g => exact look_ok (s := .leaf) (a := a) (fun t v h => by simp at h) (.global g) v hv
 | func f => exact look_ok (s := .leaf) (a := a) (fun t v h => by simp at h) (.func f) v hv
theorem want_of (G : Gl call ops σ val kd h0 n0) (hJ : J ops σ val kd ρ0 h0 n0 W0 a0 S a W ρ c) {j : Nat} {o : Oper} (ho : ops[j]? = some o) (hj : S j = false) (hB : ∀ m, tb (Bm ops j) m = true → S m = true) : Region.wanted o (yielded ops a.tmps) = true ↔ kd j ≠ .skip := by
 have hg := G.T.guard j o ho
 unfold GuardS at hg
 cases hgo : o.guard with
 | none =>
  rw [hgo] at hg
  simp [Region.wanted, hgo, hg]
 | some p =>
  obtain ⟨g, w⟩ := p
  rw [hgo] at hg
  obtain ⟨oj, d, h1, h2, h3⟩ := hg
  have h1' : ops[g]? = some oj := by rw [← Array.getElem?_toList]; exact h1
  have hd : d ∈ o.looksAt ops := List.mem_append_right _ (by rw [hgo]; simp [h1', h2])
  have hc := cur_look G.T G.due hJ.dc ho hj hB hd
    
  have hE : EnvR ρ (setN .leaf (some d) ((σ j).s.get (qOf d)).get!) a.tmps ∨ True := .inr trivial
  have one : ∀ v, (σ j).s.get (qOf d) = some v → EnvR ρ ((T.leaf : T AV).put (some v) (qOf d)) a.tmps := fun v hv t w hw => by
   by_cases e : t = d
   ·subst e
    rw [T.get_put_same] at hw
    injection hw with hw
    subst hw
    exact hJ.env _ _ (by rw [hc, hv])
   ·rw [T.get_put_other _ _ _ _ (fun h => e (qOf_inj h))] at hw
    simp at hw
  rcases h3 with ⟨b, h3, h4⟩ | ⟨h3, h4⟩
  ·have := (wanted_of (one _ h3) hgo h1' h2).1 b (T.get_put_same _ _ _)
   rw [this, ← h4]
   simp
  ·have := (wanted_of (one _ h3) hgo h1' h2).2 (T.get_put_same _ _ _)
   rw [this, h4]
   simp
theorem J.stay (G : Gl call ops σ val kd h0 n0) (hJ : J ops σ val kd ρ0 h0 n0 W0 a0 S a W ρ c) {j : Nat} {o : Oper} (ho : ops[j]? = some o) (hj : S j = false) (hB : ∀ m, tb (Bm ops j) m = true → S m = true) (hk : kd j ≠ .eff) {ρ' : Nm} {W' : World} {x : Value} (hle : ρ.le ρ') (hx : conc ρ' (val j) = some x) (hd : ∀ i, o.dst = some i → i < a.tmps.size)
  (rf : RF ρ' (hq (σ ops.size).fa (plus S j) (σ c).h (σ c).mg) (σ c).h.n W') (ext : Ext ρ (hq (σ ops.size).fa S (σ c).h (σ c).mg) h0.n W ρ' (hq (σ ops.size).fa (plus S j) (σ c).h (σ c).mg) (σ c).h.n W') (un : ∀ f ∈ (σ ops.size).fa, plus S j f.1 = false → ρ' f.2.1 = none) :
  J ops σ val kd ρ0 h0 n0 W0 a0 (plus S j) (a.put o.dst x) W' ρ' c where
 cN := hJ.cN
 cut := fun e he hke => by
  rw [plus_other (fun h => by subst h; exact hk hke)]
  exact hJ.cut e he hke
 cok := hJ.cok
 env := env_next G hJ ho hj hle hx hd
 defers := by rw [put_defers]; exact hJ.defers
 size := by rw [put_size]; exact hJ.size
 rf := rf
 ext := Ext.trans0 hJ.ext ext
 low := hJ.low
 un := un
 ex := hJ.ex
 dc := dc_next hJ hB
 mgS := fun f hf => plus_of (hJ.mgS f hf)
theorem no_float (G : Gl call ops σ val kd h0 n0) {j : Nat} (hk : kd j ≠ .float) : ∀ f ∈ (σ ops.size).fa, S f.1 = plus S j f.1 := fun f hf => by
 rw [plus_other]
 intro h
 have := ((G.T.faOk G.fa0 ops.size (Nat.le_refl _)).1 f hf).2
 rw [h] at this
 exact hk this
theorem low0 (G : Gl call ops σ val kd h0 n0) (hn : h0.n.toN ≤ n0.toN) (hJ : J ops σ val kd ρ0 h0 n0 W0 a0 S a W ρ c) : h0.n.toN ≤ (σ c).h.n.toN := Nat.le_trans hn hJ.low
theorem J.skip (G : Gl call ops σ val kd h0 n0) (hn : h0.n.toN ≤ n0.toN) (hJ : J ops σ val kd ρ0 h0 n0 W0 a0 S a W ρ c) {j : Nat} {o : Oper} (ho : ops[j]? = some o) (hj : S j = false) (hB : ∀ m, tb (Bm ops j) m = true → S m = true) (hk : kd j = .skip) (hd : ∀ i, o.dst = some i → i < a.tmps.size) :
  J ops σ val kd ρ0 h0 n0 W0 a0 (plus S j) (a.put o.dst undef) W ρ c := by
 have hst := G.T.step j o ho
 rw [hk] at hst
 have e := hq_congr (h := (σ c).h) (mg := (σ c).mg) (no_float (S := S) G (j := j) (by rw [hk]; simp))
 refine J.stay G hJ ho hj hB (by rw [hk]; simp) (Nm.le_refl ρ) (by rw [hst.1]; exact conc_undef ρ) hd (by rw [← e]; exact hJ.rf) (by rw [← e]; exact Ext.low (low0 G hn hJ) (Ext.refl hJ.rf)) fun f hf h => hJ.un f hf ?_
 cases hs : S f.1 with
 | false => rfl
 | true => rw [plus_of hs] at h; cases h
theorem J.keep (G : Gl call ops σ val kd h0 n0) (hn : h0.n.toN ≤ n0.toN) (hJ : J ops σ val kd ρ0 h0 n0 W0 a0 S a W ρ c) {j : Nat} {o : Oper} (ho : ops[j]? = some o) (hj : S j = false) (hB : ∀ m, tb (Bm ops j) m = true → S m = true) (hk : kd j ≠ .eff) (hk' : kd j ≠ .float) (hd : ∀ i, o.dst = some i → i < a.tmps.size)
  {g : H} (hgn : g.n = (σ c).h.n) (hg : ∀ b x, g.t.get b = some x → hq (σ ops.size).fa S (σ c).h (σ c).mg b = some x) {W' : World} {x : Value} (hl : Left ρ g W (val j) g x W') : ∃ ρ', J ops σ val kd ρ0 h0 n0 W0 a0 (plus S j) (a.put o.dst x) W' ρ' c := by
 obtain ⟨ρ', hx, hR', hX⟩ := hl
 have hR' : RF ρ' g.t.get g.n W' := hR'
 have hX : Ext ρ g.t.get g.n W ρ' g.t.get g.n W' := hX
 rw [hgn] at hR' hX
 have hfr := frame hJ.rf hg hR' hX
 have e : Go.Ev.fr g.t.get g.t.get (hq (σ ops.size).fa S (σ c).h (σ c).mg) = hq (σ ops.size).fa (plus S j) (σ c).h (σ c).mg := by
  rw [← hq_congr (no_float (S := S) G (j := j) hk')]
  funext b
  unfold Go.Ev.fr
  cases hb : g.t.get b with
  | none => rfl
  | some y => exact (hg b y hb).symm
 rw [e] at hfr
 refine ⟨ρ', J.stay G hJ ho hj hB hk hX.le hx hd hfr.1 (Ext.low (low0 G hn hJ) hfr.2) fun f hf h => un_keep G hJ hX f hf (hJ.un f hf ?_)⟩
 cases hs : S f.1 with
 | false => rfl
 | true => rw [plus_of hs] at h; cases h
end
end Go.Ev
end
section
namespace Go.Ev
open Go Go.RowKit
section
variable {call : Cl} {ops : Array Oper} {σ : Nat → St} {val : Nat → AV} {kd : Nat → Kd} {ρ0 : Nm} {h0 : H} {n0 : Q} {W0 : World} {a0 : Act} {S : Nat → Bool} {a : Act} {W : World} {ρ : Nm} {c : Nat}
theorem J.float (G : Gl call ops σ val kd h0 n0) (hn : h0.n.toN ≤ n0.toN) (hJ : J ops σ val kd ρ0 h0 n0 W0 a0 S a W ρ c) {j : Nat} {o : Oper} (ho : ops[j]? = some o) (hj : S j = false) (hB : ∀ m, tb (Bm ops j) m = true → S m = true) (hk : kd j = .float) (hd : ∀ i, o.dst = some i → i < a.tmps.size) :
  clsOf o.op = .float ∧ ∃ obj x ρ', (execOp a.eval o).run PP W = .ok (.value x) (W.alloc obj) ∧ J ops σ val kd ρ0 h0 n0 W0 a0 (plus S j) (a.put o.dst x) (W.alloc obj) ρ' c := by
 have hjN : j < ops.size := (Array.getElem?_eq_some_iff.1 ho).1
 have hst := G.T.step j o ho
 rw [hk] at hst
 obtain ⟨hcls, id, b, mk, ids', hfl, hv, hids, hσ⟩ := hst
 refine ⟨hcls, ?_⟩
 obtain ⟨obj, x, cc, h1, h2⟩ := hfl ρ W a.eval (lk_of G hJ ho hj hB)
 have hmem : (j, id, b) ∈ (σ ops.size).fa := G.T.faMono ops.size (m := j + 1) (by omega) (Nat.le_refl _) _ (by rw [hσ]; exact List.mem_cons_self)
 have hid : ρ id = none := hJ.un _ hmem hj
 have hrng := G.fr _ hmem
 have hle : ρ.le (ρ.upd id (W.heap.size, cc)) := Nm.le_upd hid
 obtain ⟨h3, h4⟩ := h2 _ id hle (Nm.upd_same _ _ _)
 have hlt : id.toN < (σ c).h.n.toN := Nat.lt_of_lt_of_le hrng.2 hJ.low
 obtain ⟨m1, m2⟩ := makeF (n0 := h0.n) hJ.rf hid hlt hrng.1 h4
 have hsub : ∀ q y, hq (σ ops.size).fa (plus S j) (σ c).h (σ c).mg q = some y → (if q = id then some b else hq (σ ops.size).fa S (σ c).h (σ c).mg q) = some y := fun q y hy => by
  rcases hf_some hy with ⟨f, k1, rfl, k2, k3, rfl⟩ | ⟨k1, k2⟩
  ·by_cases e : f.2.1 = id
   ·have := G.ND f k1 _ hmem e
    subst this
    rw [if_pos rfl]
   ·rw [if_neg e]
    refine hf_float G.ND k1 ?_ k3
    rcases plus_inv k2 with h | h
    ·have := (G.T.faOk G.fa0 ops.size (Nat.le_refl _)).2 f k1 _ hmem h
     subst this
     exact absurd rfl e
    ·exact h
  ·have hmg : tb (σ c).mg j = false := by
    cases hm : tb (σ c).mg j with
    | false => rfl
    | true => have := hJ.mgS j hm; rw [hj] at this; cases this
   have : q ≠ id := fun e => by
    subst e
    have := hJ.ex _ hmem hmg
    rw [k1] at this
    cases this
   rw [if_neg this, hf_heap fun f hf hb hs => k2 f hf hb (plus_of hs)]
   exact k1
 refine ⟨obj, x, _, h1, J.stay G hJ ho hj hB (by rw [hk]; simp) hle (by rw [hv]; exact h3) hd (RF.sub m1 hsub) (Ext.sub m2 hsub) fun f hf h => ?_⟩
 have hne : f.2.1 ≠ id := fun e => by
  have := G.ND f hf _ hmem e
  subst this
  rw [plus_same] at h
  cases h
 rw [Nm.upd_other _ _ _ _ hne]
 refine hJ.un f hf ?_
 cases hs : S f.1 with
 | false => rfl
 | true => rw [plus_of hs] at h; cases h
theorem J.at (G : Gl call ops σ val kd h0 n0) (hJ : J ops σ val kd ρ0 h0 n0 W0 a0 S a W ρ c) {j : Nat} {o : Oper} (ho : ops[j]? = some o) (hj : S j = false) (hB : ∀ m, tb (Bm ops j) m = true → S m = true) (hk : kd j = .eff) :
  (σ j).h = (σ c).h ∧ (σ j).mg = (σ c).mg ∧ c ≤ j ∧ ∀ e, e < j → kd e = .eff → e < c := by
 have hjN : j < ops.size := (Array.getElem?_eq_some_iff.1 ho).1
 have hst := G.T.step j o ho
 rw [hk] at hst
 obtain ⟨h', h1, _, _⟩ := hst
 rw [List.all_eq_true] at h1
 have hlow : ∀ e, e < j → kd e = .eff → e < c := fun e he hke => by
  have := h1 _ ((G.T.es G.es0 j (by omega) e (Bm ops e)).2 ⟨he, hke, rfl⟩)
  exact (hJ.cut e (by omega) hke).1 (hB e this)
 have hcj : c ≤ j := by
  rcases Nat.lt_or_ge j c with h | h
  ·have := (hJ.cut j hjN hk).2 h
   rw [hj] at this; cases this
  ·exact h
 have := G.T.same (c := c) j hcj (by omega) fun e h2 h3 h4 => by have := hlow e h3 h4; omega
 exact ⟨this.1, this.2, hcj, hlow⟩
theorem J.eff (G : Gl call ops σ val kd h0 n0) (hn : h0.n.toN ≤ n0.toN) (hJ : J ops σ val kd ρ0 h0 n0 W0 a0 S a W ρ c) {j : Nat} {o : Oper} (ho : ops[j]? = some o) (hj : S j = false) (hB : ∀ m, tb (Bm ops j) m = true → S m = true) (hk : kd j = .eff) (hd : ∀ i, o.dst = some i → i < a.tmps.size) :
  ∃ h', evO o.op call (σ j).s (withF (σ j).h (σ j).mg (σ j).fa (Bm ops j)) idk = some (val j, h') ∧ R ρ (withF (σ j).h (σ j).mg (σ j).fa (Bm ops j)) W ∧
  ∀ x W', Left ρ (withF (σ j).h (σ j).mg (σ j).fa (Bm ops j)) W (val j) h' x W' → ∃ ρ' c', J ops σ val kd ρ0 h0 n0 W0 a0 (plus S j) (a.put o.dst x) W' ρ' c' := by
 have hjN : j < ops.size := (Array.getElem?_eq_some_iff.1 ho).1
 obtain ⟨e1, e2, hcj, hlow⟩ := J.at G hJ ho hj hB hk
 have hst := G.T.step j o ho
 rw [hk] at hst
 obtain ⟨h', h1, h2, h3⟩ := hst
 have hmono := G.T.faMono (m := j) ops.size (by omega) (Nat.le_refl _)
 have hg : ∀ b x, (withF (σ j).h (σ j).mg (σ j).fa (Bm ops j)).t.get b = some x → hq (σ ops.size).fa S (σ c).h (σ c).mg b = some x := by
  rw [withF_get, e1, e2]
  exact hf_sub G.ND hmono hB hJ.ex
 have hnn : (withF (σ j).h (σ j).mg (σ j).fa (Bm ops j)).n = (σ c).h.n := by rw [withF_n, e1]
 refine ⟨h', h2, ?_, fun x W' hl => ?_⟩
 ·show RF ρ _ (withF (σ j).h (σ j).mg (σ j).fa (Bm ops j)).n W
  rw [hnn]
  exact RF.sub hJ.rf hg
 ·obtain ⟨ρ', hx, hR', hX⟩ := hl
  have hR' : RF ρ' h'.t.get h'.n W' := hR'
  have hX : Ext ρ (withF (σ j).h (σ j).mg (σ j).fa (Bm ops j)).t.get (withF (σ j).h (σ j).mg (σ j).fa (Bm ops j)).n W ρ' h'.t.get h'.n W' := hX
  rw [hnn] at hX
  have hfr := frame hJ.rf hg hR' hX
  have s1 : (σ (j + 1)).h = h' := by rw [h3]
  have s2 : (σ (j + 1)).mg = Nat.lor (σ c).mg (Bm ops j) := by rw [h3, ← e2]
    
  have exN : ∀ f ∈ (σ ops.size).fa, tb (σ (j + 1)).mg f.1 = false → h'.t.get f.2.1 = none := fun f hf hm => by
   rw [s2, tb_lor, Bool.or_eq_false_iff] at hm
   cases hy : h'.t.get f.2.1 with
   | none => rfl
   | some y =>
    have hlt : f.2.1.toN < (σ c).h.n.toN := Nat.lt_of_lt_of_le (G.fr f hf).2 hJ.low
    obtain ⟨z, hz⟩ := Option.isSome_iff_exists.1 (hX.old _ _ hy hlt)
    rw [withF_get] at hz
    rcases hf_some hz with ⟨g, k1, k2, k3, k4, _⟩ | ⟨k1, _⟩
    ·have := G.ND g (hmono g k1) f hf k2
     subst this
     rw [hm.2] at k3
     cases k3
    ·rw [e1, hJ.ex f hf hm.1] at k1
     cases k1
  have hsub : ∀ q y, hq (σ ops.size).fa (plus S j) (σ (j + 1)).h (σ (j + 1)).mg q = some y → Go.Ev.fr (withF (σ j).h (σ j).mg (σ j).fa (Bm ops j)).t.get h'.t.get (hq (σ ops.size).fa S (σ c).h (σ c).mg) q = some y := fun q y hy => by
   rcases hf_some hy with ⟨f, k1, rfl, k2, k3, rfl⟩ | ⟨k1, k2⟩
   ·have hn1 := exN f k1 k3
    have k3' := k3
    rw [s2, tb_lor, Bool.or_eq_false_iff] at k3'
    have hSf : S f.1 = true := by
     rw [no_float (S := S) G (j := j) (by rw [hk]; simp) f k1]; exact k2
    have hn2 : (withF (σ j).h (σ j).mg (σ j).fa (Bm ops j)).t.get f.2.1 = none := by
     cases hz : (withF (σ j).h (σ j).mg (σ j).fa (Bm ops j)).t.get f.2.1 with
     | none => rfl
     | some z =>
      rw [withF_get] at hz
      rcases hf_some hz with ⟨g, l1, l2, l3, l4, _⟩ | ⟨l1, _⟩
      ·have := G.ND g (hmono g l1) f k1 l2
       subst this
       rw [k3'.2] at l3
       cases l3
      ·rw [e1, hJ.ex f k1 k3'.1] at l1
       cases l1
    unfold Go.Ev.fr
    rw [hn1, hn2]
    exact hf_float G.ND k1 hSf k3'.1
   ·rw [s1] at k1
    unfold Go.Ev.fr
    rw [k1]
  refine ⟨ρ', j + 1, ?_⟩
  refine { cN := by omega, cut := fun e he hke => ?_, cok := .inr ⟨j, rfl, hk⟩, env := env_next G hJ ho hj hX.le hx hd, defers := by rw [put_defers]; exact hJ.defers, size := by rw [put_size]; exact hJ.size, rf := ?_, ext := ?_, low := ?_, un := fun f hf h => un_keep G hJ hX f hf (hJ.un f hf ?_), ex := fun f hf hm => by rw [s1]; exact exN f hf hm, dc := dc_next hJ hB, mgS := fun f hf => ?_ }
  ·by_cases e : e = j
   ·subst e; rw [plus_same]; simp
   ·rw [plus_other e, hJ.cut _ he hke]
    constructor
    ·intro h; omega
    ·intro h; exact hlow _ (by omega) hke
  ·rw [s1]; rw [s1] at hsub; exact RF.sub hfr.1 hsub
  ·rw [s1]; rw [s1] at hsub; exact Ext.trans0 hJ.ext (Ext.sub (Ext.low (low0 G hn hJ) hfr.2) hsub)
  ·rw [s1]; exact Nat.le_trans hJ.low hX.fresh
  ·cases hs : S f.1 with
   | false => rfl
   | true => rw [plus_of hs] at h; cases h
  ·rw [s2, tb_lor, Bool.or_eq_true] at hf
   rcases hf with hf | hf
   ·exact plus_of (hJ.mgS f hf)
   ·exact plus_of (hB f hf)
theorem call0_ok : CallS call0 := fun rl g args h k r e => by cases e
theorem J.op (hcall : CallS call) (G : Gl call ops σ val kd h0 n0) (hn : h0.n.toN ≤ n0.toN) (hJ : J ops σ val kd ρ0 h0 n0 W0 a0 S a W ρ c) {j : Nat} {o : Oper} (ho : ops[j]? = some o) (hj : S j = false) (hB : ∀ m, tb (Bm ops j) m = true → S m = true) (hok : okOper a.tmps.size o = true)
  {rl : Option Nat} {n : Nat} {Q : Exit → Act → World → Prop} {K : Act → World → Prop} (hK : ∀ a' W' ρ' c', J ops σ val kd ρ0 h0 n0 W0 a0 (plus S j) a' W' ρ' c' → K a' W') : wpOpIn (FF rl) n PP ops Q j K a W := by
 have hjN : j < ops.size := (Array.getElem?_eq_some_iff.1 ho).1
 have hd := okOper_dst hok
 have hw := want_of G hJ ho hj hB
 unfold wpOpIn
 rw [ho]
 dsimp only
 have hst := G.T.step j o ho
 have hl := lk_of G hJ ho hj hB
 cases hk : kd j with
 | skip =>
  rw [if_neg (fun h => hw.1 h hk)]
  exact ⟨fun f _ => FF_fn rl f, hK _ _ _ _ (J.skip G hn hJ ho hj hB hk hd)⟩
 | plain =>
  rw [if_pos (hw.2 (by rw [hk]; simp))]
  rw [hk] at hst
  obtain ⟨hc, ⟨h', he⟩, _⟩ := hst
  obtain ⟨v', h1, h2⟩ := plain_pure hc _ _ _ he
  injection h1 with h1
  injection h1 with h1 _
  subst h1
  have he' := h2 rfl ⟨.leaf, (σ c).h.n⟩ idk
  have hg : ∀ b x, (⟨.leaf, (σ c).h.n⟩ : H).t.get b = some x → hq (σ ops.size).fa S (σ c).h (σ c).mg b = some x := fun b x h => by simp at h
  refine op_ok call0_ok (k := idk) (r := (val j, ⟨.leaf, (σ c).h.n⟩)) (h := ⟨.leaf, (σ c).h.n⟩) he' (okOper_op hok) hl (RF.sub hJ.rf hg) fun v h2 x W' hk2 hleft => ?_
  injection hk2 with hk2
  injection hk2 with e1 e2
  subst e1 e2
  obtain ⟨ρ', hJ'⟩ := J.keep G hn hJ ho hj hB (by rw [hk]; simp) (by rw [hk]; simp) hd (g := ⟨.leaf, (σ c).h.n⟩) rfl hg hleft
  exact hK _ _ _ _ hJ'
 | read =>
  rw [if_pos (hw.2 (by rw [hk]; simp))]
  rw [hk] at hst
  obtain ⟨hc, _⟩ := hst
  have hrd := G.T.rdOk ops.size (Nat.le_refl _) j hjN hk o ho
  have hvs := G.T.vsOk G.vs0 ops.size (Nat.le_refl _) c hJ.cN hJ.cok
  have hcomp : compat j (Bm ops j) c (σ ops.size).es = true := by
   unfold compat
   rw [List.all_eq_true]
   rintro ⟨e, b⟩ he
   obtain ⟨k1, k2, rfl⟩ := (G.T.es G.es0 ops.size (Nat.le_refl _) e b).1 he
   dsimp only
   have hcut := hJ.cut e k1 k2
   cases hb : Nat.blt e c with
   | true =>
    have hec : e < c := by simpa [Nat.blt_eq] using hb
    have hSe := hcut.2 hec
    rw [cond_true]
    cases ht : tb (Bm ops e) j with
    | false => simp
    | true =>
     have := hJ.dc e k1 hSe j ht
     rw [hj] at this; cases this
   | false =>
    rw [cond_false]
    cases ht : tb (Bm ops j) e with
    | false => simp
    | true =>
     have := hcut.1 (hB e ht)
     have : Nat.blt e c = true := by simpa [Nat.blt_eq] using this
     rw [this] at hb; cases hb
  obtain ⟨h', he⟩ := G.chk _ hrd _ hvs hcomp
  dsimp only at he
  obtain ⟨v', h1, _⟩ := read_keeps hc _ _ _ he
  injection h1 with h1
  injection h1 with h1 h3
  subst h1
  have hg : ∀ b x, (withF (σ c).h (σ c).mg (σ ops.size).fa (Bm ops j)).t.get b = some x → hq (σ ops.size).fa S (σ c).h (σ c).mg b = some x := by
   rw [withF_get]
   exact hf_sub G.ND (fun f hf => hf) hB hJ.ex
  have hgn : (withF (σ c).h (σ c).mg (σ ops.size).fa (Bm ops j)).n = (σ c).h.n := withF_n _
  rw [← h3] at he
  refine op_ok call0_ok he (okOper_op hok) hl (by show RF ρ _ _ W; rw [hgn]; exact RF.sub hJ.rf hg) fun v h2 x W' hk2 hleft => ?_
  injection hk2 with hk2
  injection hk2 with e1 e2
  subst e1 e2
  obtain ⟨ρ', hJ'⟩ := J.keep G hn hJ ho hj hB (by rw [hk]; simp) (by rw [hk]; simp) hd hgn hg hleft
  exact hK _ _ _ _ hJ'
 | float =>
  rw [if_pos (hw.2 (by rw [hk]; simp))]
  obtain ⟨hcls, obj, x, ρ', h1, h2⟩ := J.float G hn hJ ho hj hB hk hd
  refine ⟨fun f _ => FF_fn rl f, ?_⟩
  rw [Oper.semAt_eq _ _ _ (fun cc h => by rw [h] at hcls; cases cc with | mk callee args ts => cases callee with | builtin b => cases b <;> cases hcls | _ => cases hcls), h1]
  exact hK _ _ _ _ h2
 | eff =>
  rw [if_pos (hw.2 (by rw [hk]; simp))]
  obtain ⟨h', he, hR, hnext⟩ := J.eff G hn hJ ho hj hB hk hd
  refine op_ok hcall he (okOper_op hok) hl hR fun v h2 x W' hk2 hleft => ?_
  injection hk2 with hk2
  injection hk2 with e1 e2
  subst e1 e2
  obtain ⟨ρ', c', hJ'⟩ := hnext x W' hleft
  exact hK _ _ _ _ hJ'
def LS (listed : Array Bool) (i : Nat) : Bool := listed.getD i true
theorem LS_set {listed : Array Bool} {j : Nat} (hj : j < listed.size) : LS (listed.setIfInBounds j true) = plus (LS listed) j := by
 funext i
 unfold LS plus
 by_cases e : i = j
 ·subst e; simp [Array.getD_eq_getD_getElem?, hj]
 ·simp [Array.getD_eq_getD_getElem?, Array.getElem?_setIfInBounds_ne (Ne.symm e), e]
def left_ (N : Nat) (S : Nat → Bool) : Nat := (List.range N).countP fun i => !S i
theorem countP_lt {p q : Nat → Bool} (hpq : ∀ i, q i = true → p i = true) {j : Nat} (h1 : p j = true) (h2 : q j = false) : ∀ {l : List Nat}, j ∈ l → l.countP q < l.countP p
 | [], h => by cases h
 | x :: l, h => by
  have le : ∀ l : List Nat, l.countP q ≤ l.countP p := fun l => List.countP_mono_left fun i _ h => hpq i h
  rw [List.countP_cons, List.countP_cons]
  rcases List.mem_cons.1 h with rfl | h
  ·rw [h1, h2]
   have := le l
   simp
   omega
  ·have ih := countP_lt hpq h1 h2 h
   by_cases hq : q x = true
   ·rw [hq, hpq x hq]; simp; omega
   ·simp only [hq]
    simp
    split <;> omega
theorem left_plus {N : Nat} {S : Nat → Bool} {j : Nat} (hjN : j < N) (hj : S j = false) : left_ N (plus S j) < left_ N S :=
 countP_lt (j := j) (fun i h => by
  cases hs : S i with
  | false => rfl
  | true => simp [plus_of (j := j) hs] at h) (by simp [hj]) (by simp [plus_same]) (by simpa using hjN)
theorem J.go (hcall : CallS call) (G : Gl call ops σ val kd h0 n0) (hn : h0.n.toN ≤ n0.toN) (hok : ops.toList.all (okOper a0.tmps.size) = true) {rl : Option Nat} {n : Nat} {Q : Exit → Act → World → Prop}
  (hfin : ∀ S a W ρ c, (∀ i, S i = true) → J ops σ val kd ρ0 h0 n0 W0 a0 S a W ρ c → Q .normal a W) :
  ∀ (fuel : Nat) (listed : Array Bool) (a : Act) (W : World) (ρ : Nm) (c : Nat), listed.size = ops.size → J ops σ val kd ρ0 h0 n0 W0 a0 (LS listed) a W ρ c → left_ ops.size (LS listed) ≤ fuel → wpAnyIn (FF rl) n PP .any ops Q fuel listed a W := by
  
 have done : ∀ (listed : Array Bool) (a : Act) (W : World) (ρ : Nm) (c : Nat), listed.size = ops.size → J ops σ val kd ρ0 h0 n0 W0 a0 (LS listed) a W ρ c → Region.ready .any ops listed = [] → Q .normal a W := by
  intro listed a W ρ c hs hJ hr
  refine hfin _ a W ρ c ?_ hJ
  intro i
  induction i using Nat.strongRecOn with
  | _ i ih =>
   cases hi : LS listed i with
   | true => rfl
   | false =>
    exfalso
    have hlt : i < ops.size := by
     rcases Nat.lt_or_ge i ops.size with h | h
     ·exact h
     ·unfold LS at hi
      rw [Array.getD_eq_getD_getElem?, Array.getElem?_eq_none (by omega)] at hi
      cases hi
    have ho : ops[i]? = some ops[i] := by simp [hlt]
    have : i ∈ Region.ready .any ops listed := mem_ready.2 ⟨hi, _, ho, fun e he hb => by
     have hlt2 := G.back i _ ho e he hb
     have := ih e.on hlt2
     unfold LS at this
     rw [Array.getD_eq_getD_getElem?] at this ⊢
     have h3 : e.on < listed.size := by omega
     simpa [h3] using this⟩
    rw [hr] at this
    cases this
 intro fuel
 induction fuel with
 | zero =>
  intro listed a W ρ c hs hJ hl
  have hr : Region.ready .any ops listed = [] := by
   rw [List.eq_nil_iff_forall_not_mem]
   intro j hj
   obtain ⟨h1, o, ho, _⟩ := mem_ready.1 hj
   have hjN : j < ops.size := (Array.getElem?_eq_some_iff.1 ho).1
   have := left_plus (S := LS listed) hjN h1
   omega
  exact ⟨hr, done listed a W ρ c hs hJ hr⟩
 | succ fuel ih =>
  intro listed a W ρ c hs hJ hl
  refine ⟨done listed a W ρ c hs hJ, fun j hj => ?_⟩
  obtain ⟨h1, o, ho, hedge⟩ := mem_ready.1 hj
  have hjN : j < ops.size := (Array.getElem?_eq_some_iff.1 ho).1
  have hB : ∀ m, tb (Bm ops j) m = true → LS listed m = true := fun m hm => by
   have ho' : ops.toList[j]? = some o := by rw [Array.getElem?_toList]; exact ho
   obtain ⟨e, he, hb, hx⟩ := befs_spec ho' hm
   have h2 := hedge e (by simpa using he) hb
   have hlt2 := G.back j o ho e (by simpa using he) hb
   have h3 : LS listed e.on = true := by
    unfold LS
    rw [Array.getD_eq_getD_getElem?] at h2 ⊢
    have h3 : e.on < listed.size := by omega
    simpa [h3] using h2
   rcases hx with hx | hx
   ·rw [← hx]; exact h3
   ·exact hJ.dc e.on (by omega) h3 m hx
  have hoko : okOper a.tmps.size o = true := by
   rw [hJ.size]
   rw [List.all_eq_true] at hok
   exact hok o (by rw [Array.mem_toList_iff]; exact Array.mem_of_getElem? ho)
  refine J.op hcall G hn hJ ho h1 hB hoko fun a' W' ρ' c' hJ' => ?_
  rw [← LS_set (by omega)] at hJ'
  refine ih _ a' W' ρ' c' (by simpa using hs) hJ' ?_
  rw [LS_set (by omega)]
  have := left_plus (S := LS listed) hjN h1
  omega
end
theorem RF.up {ρ : Nm} {f : Q → Option AB} {nx nx' : Q} {W : World} (h : RF ρ f nx W) (hn : nx.toN ≤ nx'.toN) : RF ρ f nx' W := ⟨h.blk, h.inj, fun b x e => Nat.lt_of_lt_of_le (h.new b x e) hn⟩
theorem draw_ok {call : Cl} (hcall : CallS call) {rl : Option Nat} {id : Nat} {ops : Array Oper} {K : KS} {r : AV × H} {n : Nat} {Q : Exit → Act → World → Prop} {s : T AV} {h : H} (e : evDraw call ops s h K = some r) {ρ : Nm} {W : World} {a : Act} (hE : EnvR ρ s a.tmps) (hR : R ρ h W) (hok : ops.toList.all (okOper a.tmps.size) = true) (hdr : drawOk ops = true)
  (hQ : ∀ s' h' ρ' W' a', K s' h' = some r → EnvR ρ' s' a'.tmps → a'.defers = a.defers → R ρ' h' W' → Ex ρ h W ρ' h' W' → a'.tmps.size = a.tmps.size → Q .normal a' W') : (Code.region id ops true).wpIn (FF rl) n PP Q a W := by
 obtain ⟨ids, n0, h1, h2, h3, h4, h5⟩ := namesK_some _ (show namesK (ops.toList.countP fun o => isFloat o.op) h.n (fun ids n => dGo call ops.toList (ops.toList.zip (befs ops.toList [])) 0 s ⟨h.t, n⟩ 0 [] [⟨0, ⟨h.t, n⟩, 0⟩] [] [] ids K) = some r from e)
 obtain ⟨σf, h6, h7⟩ := dGo_tr _ 0 { s := s, h := ⟨h.t, n0⟩, mg := 0, fa := [], vs := [⟨0, ⟨h.t, n0⟩, 0⟩], es := [], rd := [], ids := ids } h1
 obtain ⟨σ, val, kd, g1, g2, g3⟩ := tr_fun _ 0 _ _ h6
 have hlen : (ops.toList.zip (befs ops.toList [])).length = ops.size := by
  rw [List.length_zip, befs_len]; simp
 rw [hlen] at g2
 have hnle : h.n.toN ≤ n0.toN := by omega
 have hat : ∀ i o, ops[i]? = some o → (ops.toList.zip (befs ops.toList []))[i]? = some (o, Bm ops i) := fun i o ho => by
  have hi : i < ops.size := (Array.getElem?_eq_some_iff.1 ho).1
  rw [List.getElem?_zip_eq_some]
  refine ⟨by rw [Array.getElem?_toList]; exact ho, ?_⟩
  unfold Bm
  rw [List.getD_eq_getElem?_getD]
  have : i < (befs ops.toList []).length := by rw [befs_len]; simp; exact hi
  simp [this]
 have h8 : chkR σf.fa σf.es σf.vs σf.rd (K σf.s (withA σf.h σf.mg σf.fa)) = some r := h7
 obtain ⟨h9, h10⟩ := chkR_some _ h8
 have hdue := drawOk_due hdr
 have G : Gl call ops σ val kd h n0 := {
  T := ⟨fun i o ho => (g3 i _ (hat i o ho)).1, fun i o ho => by have := (g3 i _ (hat i o ho)).2; rw [Nat.zero_add] at this; exact this⟩
  due := hdue.1
  back := hdue.2
  fa0 := by rw [g1]
  es0 := by rw [g1]
  vs0 := by rw [g1]; exact List.mem_cons_self
  nd := by rw [g1]; exact h5
  rng := by rw [g1]; exact h4
  chk := by rw [g2]; exact h10 }
 have hhq : hq (σ ops.size).fa (LS (Array.replicate ops.size false)) (σ 0).h (σ 0).mg = h.t.get := by
  funext b
  rw [hf_heap fun f hf hb hs => ?_, g1]
  have := (G.T.faOk G.fa0 ops.size (Nat.le_refl _)).1 f hf
  unfold LS at hs
  rw [Array.getD_eq_getD_getElem?] at hs
  simp [this.1] at hs
 have hLS : ∀ i, i < ops.size → LS (Array.replicate ops.size false) i = false := fun i hi => by
  unfold LS
  rw [Array.getD_eq_getD_getElem?]
  simp [hi]
 refine wpIn_region_any rfl ?_
 have hRW : RF ρ h.t.get n0 { W with drawn := W.drawn + 1 } := by
  have := RF.up hR hnle
  exact ⟨fun b x hb => by obtain ⟨g, c, k1, k2⟩ := this.blk b x hb; exact ⟨g, c, k1, k2.same rfl⟩, this.inj, this.new⟩
 have curF : ∀ t m, m ≤ ops.size → cur (σ 0).s ops val (LS (Array.replicate ops.size false)) m t = (σ 0).s.get (qOf t) := fun t m => by
  induction m with
  | zero => intro _; rfl
  | succ m ih => intro hm; rw [cur_succ, hLS m (by omega), ih (by omega)]; simp
 refine J.go (a0 := a) (ρ0 := ρ) (h0 := h) (n0 := n0) (W0 := W) hcall G hnle hok ?_ ops.size _ a _ ρ 0 (by simp) ?_ ?_
 ·intro S a' W' ρ' c hS hJ
  have hsame := G.T.same (c := c) ops.size hJ.cN (Nat.le_refl _) fun e h1 h2 h3 => by
   have := (hJ.cut e h2 h3).1 (hS e)
   omega
  have hsub : ∀ b x, (withA σf.h σf.mg σf.fa).t.get b = some x → hq (σ ops.size).fa S (σ c).h (σ c).mg b = some x := by
   rw [withA_get, ← g2, hsame.1, hsame.2]
   exact hf_sub G.ND (fun f hf => hf) (fun i _ => hS i) hJ.ex
  have hnn : (withA σf.h σf.mg σf.fa).n = (σ c).h.n := by rw [withA_n, ← g2, hsame.1]
  refine hQ _ _ ρ' W' a' h9 ?_ hJ.defers ?_ ?_ hJ.size
  ·intro t v hv
   rw [← g2, ← cur_all G.T hS t ops.size (Nat.le_refl _)] at hv
   exact hJ.env t v hv
  ·show RF ρ' _ (withA σf.h σf.mg σf.fa).n W'
   rw [hnn]
   exact RF.sub hJ.rf hsub
  ·show Ext ρ _ _ W ρ' _ (withA σf.h σf.mg σf.fa).n W'
   rw [hnn]
   exact Ext.sub hJ.ext hsub
 ·refine { cN := Nat.zero_le _, cut := fun e he hk => ?_, cok := .inl rfl, env := fun t v hv => ?_, defers := rfl, size := rfl, rf := ?_, ext := ?_, low := ?_, un := fun f hf _ => ?_, ex := fun f hf _ => ?_, dc := fun i hi hs => ?_, mgS := fun f hf => ?_ }
  ·rw [hLS e he]; simp
  ·rw [curF t ops.size (Nat.le_refl _), g1] at hv
   exact hE t v hv
  ·rw [hhq, g1]; exact hRW
  ·rw [hhq, g1]
   exact ⟨Nm.le_refl ρ, hnle, rfl, rfl, rfl, Nat.le_refl _, fun _ _ _ => rfl, fun b x e _ => by rw [e]; rfl, fun b x e => by obtain ⟨g, c, k1, _⟩ := hR.blk b x e; exact ⟨g, c, k1, .inr ⟨b, x, c, e, k1⟩⟩, Nm.nm_same⟩
  ·rw [g1]; exact Nat.le_refl _
  ·exact hR.free (G.fr f hf).1
  ·rw [g1]
   cases hx : h.t.get f.2.1 with
   | none => rfl
   | some x =>
    obtain ⟨g, c, k1, _⟩ := hR.blk _ x hx
    rw [hR.free (G.fr f hf).1] at k1
    cases k1
  ·rw [hLS i hi] at hs; cases hs
  ·rw [g1, tb_zero] at hf; cases hf
 ·unfold left_
  exact Nat.le_trans List.countP_le_length (by simp)
end Go.Ev
end
section
namespace Go.Ev
open Go Go.RowKit
def MR (ρ : Nm) : List Q → List Deferred → Prop
 | [], [] => True
 | d :: ds, e :: es => (∃ g c, ρ d = some (g, c) ∧ e = { target := .collected g, args := #[] }) ∧ MR ρ ds es
 | _, _ => False
theorem MR.le {ρ ρ' : Nm} (hl : ρ.le ρ') : ∀ {ds : List Q} {es : List Deferred}, MR ρ ds es → MR ρ' ds es
 | [], [], _ => trivial
 | d :: ds, e :: es, ⟨⟨g, c, h1, h2⟩, h3⟩ => ⟨⟨g, c, hl _ _ h1, h2⟩, MR.le hl h3⟩
 | [], _ :: _, h => h.elim
 | _ :: _, [], h => h.elim
def xOf : X → Exit
 | .normal => .normal
 | .exit id => .exit id
 | .ret => .ret
def LoopIn (F : Fence) (n : Nat) (c : Code) (Q : Exit → Act → World → Prop) (a : Act) (w : World) : Prop :=
 ∀ (b : Frame) (k : List Item) (cs : List Frame), b.roundOf = F.round → F.fn b.fn → F.room (cs.length + 1 + n) →
  ∃ e a' w', Q e a' w' ∧ ArrivesIn (Machine.fenced PP F) PP (lone (b.atR a (.code c :: .inLoop c :: k)) cs w) b k cs e a' w'
theorem loop_of {F : Fence} {n : Nat} {c : Code} {Q : Exit → Act → World → Prop} {a : Act} {w : World} (h : LoopIn F n c Q a w) : (Code.loop c).wpIn F n PP Q a w := fun b k cs hro hb hr =>
 let ⟨e, a', w', hq, harr⟩ := h b k cs hro hb hr
 ⟨e, a', w', hq, .of_steps (.one (fenced_calm hb hr rfl) stepR_loop) harr⟩
theorem loopIn_step {F : Fence} {n : Nat} {c : Code} {Q : Exit → Act → World → Prop} {a : Act} {w : World} (h : c.wpIn F n PP (Exit.then (LoopIn F n c Q) Q) a w) : LoopIn F n c Q a w := by
 intro b k cs hro hb hr
 obtain ⟨e, a₁, w₁, hq, harr⟩ := h b (.inLoop c :: k) cs hro hb hr
 cases e with
 | normal =>
  obtain ⟨e₂, a₂, w₂, hq₂, harr₂⟩ := hq b k cs hro hb hr
  exact ⟨e₂, a₂, w₂, hq₂, .of_steps (StepsIn.trans harr (.one (fenced_calm hb hr rfl) stepR_inLoop)) harr₂⟩
 | exit id => exact ⟨_, a₁, w₁, hq, .pass (x := .inLoop c) rfl (fun _ _ => .inl (by simp)) harr⟩
 | goto l => exact ⟨_, a₁, w₁, hq, .pass (x := .inLoop c) rfl (fun _ _ => .inl (by simp)) harr⟩
 | ret => exact ⟨_, a₁, w₁, hq, .pass (x := .inLoop c) rfl (fun _ _ => .inl (by simp)) harr⟩
 | panic ch => exact ⟨_, a₁, w₁, hq, .pass (x := .inLoop c) rfl (fun _ _ => .inl (by simp)) harr⟩
 | outgrown => exact ⟨_, a₁, w₁, hq, .pass (x := .inLoop c) rfl (fun _ _ => .inl (by simp)) harr⟩
abbrev Ends (k : KX) (r : AV × H) (ρ : Nm) (h : H) (W : World) (a : Act) (Q : Exit → Act → World → Prop) : Prop :=
 ∀ x s' ds' h' ρ' W' a', k x s' ds' h' = some r → EnvR ρ' s' a'.tmps → MR ρ' ds' a'.defers → R ρ' h' W' → Ex ρ h W ρ' h' W' → a'.tmps.size = a.tmps.size → Q (xOf x) a' W'
def CW (rl : Option Nat) (n : Nat) (c : Code) (Q : Exit → Act → World → Prop) (a : Act) (W : World) : Prop :=
 c.wpIn (FF rl) n PP Q a W ∧ ∀ b, c = .loop b → LoopIn (FF rl) n b Q a W
def RunS (run : Run) : Prop := ∀ (rl : Option Nat) (c : Code) (s : T AV) (ds : List Q) (h : H) (k : KX) (r : AV × H), run c rl.isSome s ds h k = some r →
 ∀ (ρ : Nm) (W : World) (a : Act), EnvR ρ s a.tmps → MR ρ ds a.defers → R ρ h W → okC a.tmps.size c = true → ∀ n Q, Ends k r ρ h W a Q → CW rl n c Q a W
theorem ends_step {k : KX} {r : AV × H} {ρ ρ1 : Nm} {h h1 : H} {W W1 : World} {a a1 : Act} {Q : Exit → Act → World → Prop} (hR : R ρ h W) (hQ : Ends k r ρ h W a Q) (hX : Ex ρ h W ρ1 h1 W1) (hs : a1.tmps.size = a.tmps.size) : Ends k r ρ1 h1 W1 a1 Q :=
 fun x s' ds' h' ρ' W' a' hk hE hM hR' hX' hs' => hQ x s' ds' h' ρ' W' a' hk hE hM hR' (Ext.trans hR hX hX') (hs'.trans hs)
theorem only_putObj (W : World) (g : Nat) (o : Obj) : Only W (W.putObj g o) g := ⟨rfl, rfl, rfl, by simp [World.putObj], fun k hk hkg => World.putObj_heap_other hkg⟩
theorem cw_of {rl : Option Nat} {n : Nat} {c : Code} {Q : Exit → Act → World → Prop} {a : Act} {W : World} (h : c.wpIn (FF rl) n PP Q a W) (hc : ∀ b, c ≠ .loop b) : CW rl n c Q a W := ⟨h, fun b e => absurd e (hc b)⟩
theorem evC_ok {call : Cl} {run : Run} (hrun : RunS run) (hcall : CallS call) : ∀ (c : Code) (rl : Option Nat) (s : T AV) (ds : List Q) (h : H) (k : KX) (r : AV × H), evC c call run rl.isSome s ds h k = some r →
  ∀ (ρ : Nm) (W : World) (a : Act), EnvR ρ s a.tmps → MR ρ ds a.defers → R ρ h W → okC a.tmps.size c = true → ∀ n Q, Ends k r ρ h W a Q → CW rl n c Q a W := by
 intro c
 induction c with
 | skip =>
  intro rl s ds h k r e ρ W a hE hM hR hok n Q hQ
  exact cw_of (wpIn_skip (hQ .normal s ds h ρ W a e hE hM hR (Ext.refl hR) rfl)) (by simp)
 | region id ops dr =>
  intro rl s ds h k r e ρ W a hE hM hR hok n Q hQ
  refine cw_of ?_ (by simp)
  simp only [okC, Bool.and_eq_true] at hok
  cases dr with
  | false =>
   refine wpIn_region_list (ops_ok hcall ops.toList (show evOps ops.toList ops.toList call s h (fun s h => k .normal s ds h) = some r from e) hE hR hok.1 ?_)
   intro s' h' ρ' W' a' hk hE' hd hR' hX hs
   exact hQ .normal s' ds h' ρ' W' a' hk hE' (by rw [hd]; exact hM.le hX.le) hR' hX hs
  | true =>
   refine draw_ok hcall (show evDraw call ops s h (fun s h => k .normal s ds h) = some r from e) hE hR hok.1 (by simpa using hok.2) ?_
   intro s' h' ρ' W' a' hk hE' hd hR' hX hs
   exact hQ .normal s' ds h' ρ' W' a' hk hE' (by rw [hd]; exact hM.le hX.le) hR' hX hs
 | seq x y ihx ihy =>
  intro rl s ds h k r e ρ W a hE hM hR hok n Q hQ
  simp only [okC, Bool.and_eq_true] at hok
  refine cw_of (wpIn_seq ?_) (by simp)
  refine (ihx rl s ds h _ r (show evC x call run rl.isSome s ds h (fun x s ds h => xSeqK x (evC y) k call run rl.isSome s ds h) = some r from e) ρ W a hE hM hR hok.1 n _ ?_).1
  intro xx s' ds' h' ρ' W' a' hk hE' hM' hR' hX hs
  cases xx with
  | normal => exact (ihy rl s' ds' h' k r hk ρ' W' a' hE' hM' hR' (by rw [hs]; exact hok.2) n Q (ends_step hR hQ hX hs)).1
  | exit id => exact hQ (.exit id) s' ds' h' ρ' W' a' hk hE' hM' hR' hX hs
  | ret => exact hQ .ret s' ds' h' ρ' W' a' hk hE' hM' hR' hX hs
 | cond c x y ihx ihy =>
  intro rl s ds h k r e ρ W a hE hM hR hok n Q hQ
  simp only [okC, Bool.and_eq_true] at hok
  obtain ⟨v, h1, h2⟩ := lookK_some (show lookK s c (fun c => elimBool c (evC x call run rl.isSome s ds h k) (evC y call run rl.isSome s ds h k)) = some r from e)
  obtain ⟨b, rfl, h3⟩ := elimBool_some h2
  have hc : a.eval c = .bool b := evBool (look_ok hE c) h1
  refine cw_of (wpIn_cond hc ?_) (by simp)
  cases b with
  | true => exact (ihx rl s ds h k r h3 ρ W a hE hM hR hok.1 n Q hQ).1
  | false => exact (ihy rl s ds h k r h3 ρ W a hE hM hR hok.2 n Q hQ).1
 | block id c ih =>
  intro rl s ds h k r e ρ W a hE hM hR hok n Q hQ
  simp only [okC] at hok
  refine cw_of (wpIn_block ?_) (by simp)
  refine (ih rl s ds h _ r (show evC c call run rl.isSome s ds h (fun x s ds h => xBlockK x id k s ds h) = some r from e) ρ W a hE hM hR hok n _ ?_).1
  intro xx s' ds' h' ρ' W' a' hk hE' hM' hR' hX hs
  cases xx with
  | normal => exact hQ .normal s' ds' h' ρ' W' a' hk hE' hM' hR' hX hs
  | exit id' =>
   show (if id' = id then Q .normal a' W' else Q (.exit id') a' W')
   rcases ifB_some (show ifB (Nat.beq id' id) (k .normal s' ds' h') (k (.exit id') s' ds' h') = some r from hk) with ⟨h1, h2⟩ | ⟨h1, h2⟩
   ·rw [if_pos (Nat.eq_of_beq_eq_true h1)]
    exact hQ .normal s' ds' h' ρ' W' a' h2 hE' hM' hR' hX hs
   ·rw [if_neg (fun e => by subst e; rw [Nat.beq_refl] at h1; cases h1)]
    exact hQ (.exit id') s' ds' h' ρ' W' a' h2 hE' hM' hR' hX hs
  | ret => exact hQ .ret s' ds' h' ρ' W' a' hk hE' hM' hR' hX hs
 | loop c ih =>
  intro rl s ds h k r e ρ W a hE hM hR hok n Q hQ
  have hl : LoopIn (FF rl) n c Q a W := by
   refine loopIn_step ?_
   refine (ih rl s ds h _ r (show evC c call run rl.isSome s ds h (fun x s ds h => xLoopK x c k run rl.isSome s ds h) = some r from e) ρ W a hE hM hR (by simpa only [okC] using hok) n _ ?_).1
   intro xx s' ds' h' ρ' W' a' hk hE' hM' hR' hX hs
   cases xx with
   | normal => exact (hrun rl (.loop c) s' ds' h' k r hk ρ' W' a' hE' hM' hR' (by rw [hs]; exact hok) n Q (ends_step hR hQ hX hs)).2 c rfl
   | exit id => exact hQ (.exit id) s' ds' h' ρ' W' a' hk hE' hM' hR' hX hs
   | ret => exact hQ .ret s' ds' h' ρ' W' a' hk hE' hM' hR' hX hs
  exact ⟨loop_of hl, fun b e => by injection e with e; subst e; exact hl⟩
 | rangeFunc f ps asg body iha ihb =>
  intro rl s ds h k r e ρ W a hE hM hR hok n Q hQ
  simp only [okC, Bool.and_eq_true] at hok
  refine cw_of ?_ (by simp)
  rcases ifB_some (show ifB rl.isSome none (lookK s f fun g => elimFn g (fun f a b => call (.fn f a b) [.yld h.n.succ] (newB (newB h .dfr) (.loop 0 none s ps.toList asg body)) fun _ h' => endRange ds h.n h.n.succ s k h') (fun _ => none)) = some r from e) with ⟨_, h2⟩ | ⟨h1, h2⟩
  ·cases h2
  cases rl with
  | some l => cases h1
  | none =>
  obtain ⟨g, h3, h4⟩ := lookK_some h2
  rcases elimFn_some h4 with ⟨nf, fa, fb, rfl, h5⟩ | ⟨l, _, h5⟩
  ·have hg := look_ok hE f _ h3
   refine wpIn_rangeFunc fun fn _ => ?_
      
   let D := W.heap.size
   let W1 := W.alloc (.deferred (some []))
   let rec_ : Loop := { state := .ready, pending := none, fn := fn, tmps := a.tmps, params := ps, assign := asg, body := body, defers := D }
   let W2 := W1.alloc (.loop rec_)
   have hL : W1.heap.size = D + 1 := by simp [W1, D]
   have m1 := R.make (c := 0) (x := .dfr) hR (only_alloc W _) (Nat.le_refl _) (by simp) (heap_alloc_new W (.deferred (some [])))
   have hle1 := m1.2.le
   have m2 := R.make (c := 0) (x := .loop 0 none s ps.toList asg body) m1.1 (only_alloc W1 (.loop rec_)) (Nat.le_refl _) (by simp) ⟨rec_, heap_alloc_new W1 _, rfl, rfl, rfl, rfl, rfl, (hE.le hle1).le (Nm.le_upd (m1.1.free (Nat.le_refl _))), hok.1.2, hok.2, hok.1.1⟩
   have hX2 := Ext.trans hR m1.2 m2.2
   have hy : concL ((ρ.upd h.n (W.heap.size, 0)).upd (newB h .dfr).n (W1.heap.size, 0)) [AV.yld h.n.succ] = some [Value.func (.yield W1.heap.size) #[] #[]] := by
    have : ((ρ.upd h.n (W.heap.size, 0)).upd (newB h .dfr).n (W1.heap.size, 0)) h.n.succ = some (W1.heap.size, 0) := Nm.upd_same _ _ _
    simp only [concL, conc, this]
   have hK : ∀ (v : AV) (h' : H) (x : Value) (W' : World), endRange ds h.n h.n.succ s k h' = some r → Left ((ρ.upd h.n (W.heap.size, 0)).upd (newB h .dfr).n (W1.heap.size, 0)) (newB (newB h .dfr) (.loop 0 none s ps.toList asg body)) W2 v h' x W' → rangePost (FF none) n PP W1.heap.size Q { a with defers := { target := .collected D, args := #[] } :: a.defers } (.returned x) W' := by
    intro v h' x W' hk hleft
    obtain ⟨ρ', _, hR', hX'⟩ := hleft
    have hX3 := Ext.trans hR hX2 hX'
    unfold endRange at hk
    split at hk
    ·rename_i st pend s0 ps0 asg0 body0 hlk
     obtain ⟨g', c', hb', rr, hr1, hr2, hr3, _⟩ := hR'.blk _ _ hlk
     have hbl : ρ' h.n.succ = some (W1.heap.size, 0) := hX'.le _ _ (Nm.upd_same _ _ _)
     have hbd : ρ' h.n = some (D, 0) := hX'.le _ _ (m2.2.le _ _ (Nm.upd_same _ _ _))
     rw [hbl] at hb'
     injection hb' with hb'
     injection hb' with e1 e2
     subst e1 e2
          
     let W4 := W'.putObj W1.heap.size (.loop { rr with state := .exhausted })
     have hend : st ≠ 1 → (Instr.endLoop W1.heap.size).run PP W' = .ok pend W4 := fun hst => by
      have hbusy : rr.state ≠ .busy := fun hs => by rw [hs] at hr2; exact hst hr2.symm
      rw [← hr3]
      exact run_endLoop hr1 hbusy
     have hdrop := R.drop hR' hlk hbl (only_putObj W' W1.heap.size (.loop { rr with state := .exhausted }))
     have fin : ∀ (xx : X), k xx s (h.n :: ds) (setB h' h.n.succ none) = some r → Q (xOf xx) { a with defers := { target := .collected D, args := #[] } :: a.defers } W4 := fun xx hkx =>
      hQ xx s (h.n :: ds) _ ρ' W4 _ hkx (hE.le hX3.le) ⟨⟨D, 0, hbd, rfl⟩, hM.le hX3.le⟩ hdrop.1 (Ext.trans hR hX3 hdrop.2) rfl
     split at hk
     ·cases hk
     ·rename_i hst
      split at hk
      ·exact ⟨_, W4, hend hst, fin .normal hk⟩
      ·exact ⟨_, W4, hend hst, wpIn_ret (fin .ret hk)⟩
      ·exact ⟨_, W4, hend hst, wpIn_exit (fin (.exit _) hk)⟩
      ·cases hk
    ·cases hk
   obtain ⟨nx, g1, g2, g3⟩ := hcall none _ _ _ _ r h5 _ W2 _ _ (conc_le hX2.le _ _ hg) hy m2.1 (n - 1) (fun x W' => rangePost (FF none) n PP W1.heap.size Q { a with defers := { target := .collected D, args := #[] } :: a.defers } (.returned x) W') hK
   ·obtain ⟨f', ys, rfl⟩ := g3 ⟨_, _, _, rfl⟩ ⟨_, rfl⟩
    simp only [callSem] at g1
    cases hev : a.eval f with
    | func fnn first caps =>
     rw [hev] at g1
     refine ⟨W1.heap.size, [{ target := .collected D, args := #[] }], W2, { target := .fn fnn caps, args := first ++ #[.func (.yield W1.heap.size) #[] #[]] }, W2, f', ys, W2, ?_, ?_, fun _ _ => FF_fn none _, ?_, FF_depth none n, ?_⟩
     ·rfl
     ·have : (resolve a.eval (rangeCall f W1.heap.size) 0) = Deferred.ofValue (a.eval f) #[a.eval (.const (.func (.yield W1.heap.size) #[] #[]))] := by
       simp [resolve]
      rw [this, hev]
      rfl
     ·exact g1
     ·exact CallsIn.mono g2 fun e' W' ⟨x, hx1, hx2⟩ => by subst hx1; exact hx2
    | _ => rw [hev] at g1; cases g1
  ·cases h5
 | exit id =>
  intro rl s ds h k r e ρ W a hE hM hR hok n Q hQ
  exact cw_of (wpIn_exit (hQ (.exit id) s ds h ρ W a e hE hM hR (Ext.refl hR) rfl)) (by simp)
 | scope c ih =>
  intro rl s ds h k r e ρ W a hE hM hR hok n Q hQ
  rcases ifB_some (show ifB rl.isSome none (evC c call run rl.isSome s ds h k) = some r from e) with ⟨_, h2⟩ | ⟨h1, h2⟩
  ·cases h2
  ·cases rl with
   | some l => cases h1
   | none =>
    refine cw_of (wpIn_wide.2 (wp_scope_straight (wpIn_wide (n := n).1 ?_))) (by simp)
    refine (ih none s ds h k r h2 ρ W a hE hM hR (by simpa only [okC] using hok) n _ ?_).1
    intro xx s' ds' h' ρ' W' a' hk hE' hM' hR' hX hs
    have := hQ xx s' ds' h' ρ' W' a' hk hE' hM' hR' hX hs
    cases xx <;> exact this
 | label l =>
  intro rl s ds h k r e ρ W a hE hM hR hok n Q hQ
  exact cw_of (wpIn_label (hQ .normal s ds h ρ W a e hE hM hR (Ext.refl hR) rfl)) (by simp)
 | goto l => intro rl s ds h k r e; cases e
 | ret =>
  intro rl s ds h k r e ρ W a hE hM hR hok n Q hQ
  exact cw_of (wpIn_ret (hQ .ret s ds h ρ W a e hE hM hR (Ext.refl hR) rfl)) (by simp)
 | refuse w => intro rl s ds h k r e; cases e
end Go.Ev
end
section
namespace Go.Ev
open Go Go.RowKit
theorem blt_mono {a m n : Nat} (h : m ≤ n) (e : Nat.blt a m = true) : Nat.blt a n = true := by
 rw [Nat.blt_eq] at e ⊢
 omega
theorem MR.nil {ρ : Nm} : MR ρ [] [] := trivial
theorem okOper_mono {m n : Nat} (h : m ≤ n) {o : Oper} (e : okOper m o = true) : okOper n o = true := by
 unfold okOper at e ⊢
 rw [Bool.and_eq_true] at e ⊢
 refine ⟨e.1, ?_⟩
 have e2 := e.2
 cases hd : o.dst with
 | none => rfl
 | some d =>
  rw [hd] at e2
  exact blt_mono h e2
theorem all_mono {α : Type} {p q : α → Bool} (h : ∀ x, p x = true → q x = true) : ∀ {l : List α}, l.all p = true → l.all q = true
 | [], _ => rfl
 | x :: l, e => by
  rw [List.all_cons, Bool.and_eq_true] at e ⊢
  exact ⟨h x e.1, all_mono h e.2⟩
theorem okC_mono {m n : Nat} (h : m ≤ n) : ∀ {c : Code}, okC m c = true → okC n c = true := by
 intro c
 induction c with
 | region id ops dr => intro e; simp only [okC, Bool.and_eq_true] at e ⊢; exact ⟨all_mono (fun o he => okOper_mono h he) e.1, e.2⟩
 | seq a b iha ihb => intro e; simp only [okC, Bool.and_eq_true] at e ⊢; exact ⟨iha e.1, ihb e.2⟩
 | cond x a b iha ihb => intro e; simp only [okC, Bool.and_eq_true] at e ⊢; exact ⟨iha e.1, ihb e.2⟩
 | block i a iha => intro e; simp only [okC] at e ⊢; exact iha e
 | loop a iha => intro e; simp only [okC] at e ⊢; exact iha e
 | rangeFunc f ps a b iha ihb =>
  intro e
  simp only [okC, Bool.and_eq_true] at e ⊢
  refine ⟨⟨all_mono (fun p hp => blt_mono h hp) e.1.1, iha e.1.2⟩, ihb e.2⟩
 | scope a iha => intro e; simp only [okC] at e ⊢; exact iha e
 | _ => intro e; rfl
def OrcS (f : Nat) (g : List AV → H → Option (AV × H)) : Prop := ∀ args h v h', g args h = some (v, h') → ∀ (ρ : Nm) (W : World) (xs : List Value), concL ρ args = some xs → R ρ h W →
 ∀ n, CallsIn (FF none) n PP f xs.toArray W fun e W' => ∃ x, e = .returned x ∧ Left ρ h W v h' x W'
def ExtS (f : Nat) (g : List AV → Option AV) : Prop := ∃ fu, PP.funcs[f]? = some fu ∧ ∀ args v, g args = some v → ∀ (ρ : Nm) (W : World) (xs : List Value), concL ρ args = some xs → ∃ x, conc ρ v = some x ∧ (callFunc f xs.toArray).run PP W = .ok (.value x) W
def FnOK (f : Nat) (fn : Fn) : Prop := (∃ g, fn = .ext g ∧ ExtS f g) ∨ ∃ fu c, PP.funcs[f]? = some fu ∧ (fu.name == "runtime.NumGoroutine") = false ∧ fu.body = some c ∧
 match fn with
 | .code body res => c = body ∧ fu.results.toList = res ∧ okC fu.ntmps body = true
 | .orc g => OrcS f g
 | .mix body res g => c = body ∧ fu.results.toList = res ∧ okC fu.ntmps body = true ∧ OrcS f g
 | .ext _ => False
def FtOK (F : TB Fn) : Prop := ∀ f fn, F.get (qB f) = some fn → FnOK f fn
theorem leaves_ok {s : T AV} {fn : Func} {tmps : Array Value} {n : Nat} {k : KV} {r : AV × H} {R0 : Ending → World → Prop} :
  ∀ (ds : List Q) (es : List Deferred) (h : H) (ρ : Nm) (W : World), EnvR ρ s tmps → MR ρ ds es → R ρ h W → dropMarks ds h (fun h => evRes fn.results.toList s h fun vs => k (one vs) h) = some r →
  (∀ v h' x W', k v h' = some r → conc ρ v = some x → R ρ h' W' → Ex ρ h W ρ h' W' → R0 (.returned x) W') → LeavesInM (FF none) n PP fn tmps R0 es .returning W
 | [], [], h, ρ, W, hE, hM, hR, e, hK => by
  obtain ⟨vs, x, h1, h2, h3⟩ := results_ok (fn := fn) hE hR (K := fun vs => k (one vs) h) e
  exact ⟨x, h3, hK _ _ _ _ h1 h2 hR (Ext.refl hR)⟩
 | d :: ds, ee :: es, h, ρ, W, hE, hM, hR, e, hK => by
  obtain ⟨⟨g, c, h1, rfl⟩, hM'⟩ := hM
  have e' : (match h.t.get d with
   | some .dfr => dropMarks ds (setB h d none) (fun h => evRes fn.results.toList s h fun vs => k (one vs) h)
   | _ => none) = some r := e
  split at e'
  ·rename_i hd
   obtain ⟨g', c', h2, h3⟩ := hR.blk _ _ hd
   rw [h1] at h2
   injection h2 with h2
   injection h2 with e1 e2
   subst e1 e2
   have hdrop := R.drop hR hd h1 (only_putObj W g (.deferred none))
   refine ⟨by simp, .inl ⟨g, W.putObj g (.deferred none), rfl, run_takeDeferred h3, ?_⟩⟩
   exact leaves_ok ds es _ ρ _ hE hM' hdrop.1 e' fun v h' x W' hk hx hR' hX => hK v h' x W' hk hx hR' (Ext.trans hR hdrop.2 hX)
  ·cases e'
 | [], _ :: _, _, _, _, _, hM, _, _, _ => hM.elim
 | _ :: _, [], _, _, _, _, hM, _, _, _ => hM.elim
theorem concL_append {ρ : Nm} : ∀ {a b : List AV} {x y : List Value}, concL ρ a = some x → concL ρ b = some y → concL ρ (a ++ b) = some (x ++ y)
 | [], b, x, y, h, k => by
  simp only [concL] at h
  injection h with h
  subst h
  exact k
 | v :: a, b, x, y, h, k => by
  obtain ⟨z, l, rfl, h1, h2⟩ := concL_cons.1 h
  exact concL_cons.2 ⟨z, l ++ y, rfl, h1, concL_append h2 k⟩
theorem env_args {ρ : Nm} {args : List AV} {xs : List Value} (h : concL ρ args = some xs) (m : Nat) : EnvR ρ (storeL args 0 .leaf) (xs.toArray ++ Array.replicate m undef) := by
 intro t v hv
 rw [get_storeL] at hv
 split at hv
 ·rename_i hlt
  simp only [Nat.sub_zero] at hv
  obtain ⟨x, h1, h2⟩ := concL_at h t v hv
  refine ⟨x, ?_, h2⟩
  have hl : t < xs.length := (List.getElem?_eq_some_iff.1 h1).1
  rw [Array.getElem?_append_left (by simpa using hl)]
  simpa using h1
 ·simp at hv
theorem code_ok {run : Run} (hrun : RunS run) {f : Nat} {fu : Func} {body : Code} (hf : PP.funcs[f]? = some fu) (hb : fu.body = some body) (hok : okC fu.ntmps body = true) {args : List AV} {h : H} {k : KV} {r : AV × H}
  (e : callCode body fu.results.toList run args h k = some r) {ρ : Nm} {W : World} {xs : List Value} (hx : concL ρ args = some xs) (hR : R ρ h W) {n : Nat} {K : Value → World → Prop} (hK : ∀ v h' x W', k v h' = some r → Left ρ h W v h' x W' → K x W') :
  CallsIn (FF none) n PP f xs.toArray W fun e W' => ∃ x, e = .returned x ∧ K x W' := by
 refine callsIn_of_wp_marks hf hb (FF_fn none f) ?_ rfl
 refine (hrun none body _ [] h _ r e ρ W _ (env_args hx _) MR.nil hR (okC_mono (by simp; omega) hok) n _ ?_).1
 intro x s' ds' h' ρ' W' a' hk hE' hM' hR' hX hs
 cases x with
 | normal => exact leaves_ok ds' _ h' ρ' W' hE' hM' hR' hk fun v h2 x W2 hk2 hx2 hR2 hX2 => ⟨x, rfl, hK v h2 x W2 hk2 ⟨ρ', hx2, hR2, Ext.trans hR hX hX2⟩⟩
 | ret => exact leaves_ok ds' _ h' ρ' W' hE' hM' hR' hk fun v h2 x W2 hk2 hx2 hR2 hX2 => ⟨x, rfl, hK v h2 x W2 hk2 ⟨ρ', hx2, hR2, Ext.trans hR hX hX2⟩⟩
 | exit id => cases hk
theorem envR_set {ρ : Nm} {s : T AV} {t : Array Value} (hE : EnvR ρ s t) {p : Nat} {v : AV} {x : Value} (hp : p < t.size) (hx : conc ρ v = some x) : EnvR ρ (s.put (some v) (qOf p)) (t.setIfInBounds p x) := by
 intro j w hw
 by_cases hj : j = p
 ·subst hj
  rw [T.get_put_same] at hw
  injection hw with hw
  subst hw
  exact ⟨x, by simp [hp], hx⟩
 ·rw [T.get_put_other _ _ _ _ (fun e => hj (qOf_inj e))] at hw
  obtain ⟨y, h1, h2⟩ := hE j w hw
  exact ⟨y, by rw [Array.getElem?_setIfInBounds_ne (Ne.symm hj)]; exact h1, h2⟩
theorem setArgs_ok {ρ : Nm} : ∀ (ps : List Nat) {vs : List AV} {xs : List Value} {s s1 : T AV} {t : Array Value}, setArgs ps vs s = some s1 → EnvR ρ s t → concL ρ vs = some xs → ps.all (fun p => Nat.blt p t.size) = true →
  xs.length = ps.length ∧ EnvR ρ s1 ((ps.zip xs).foldl (fun t p => t.setIfInBounds p.1 p.2) t) ∧ ((ps.zip xs).foldl (fun t p => t.setIfInBounds p.1 p.2) t).size = t.size
 | [], [], xs, s, s1, t, e, hE, hx, _ => by
  have := concL_nil hx
  subst this
  injection (show some s = some s1 from e) with e
  subst e
  exact ⟨rfl, hE, rfl⟩
 | [], _ :: _, xs, s, s1, t, e, _, _, _ => by cases e
 | p :: ps, [], xs, s, s1, t, e, _, _, _ => by cases e
 | p :: ps, v :: vs, xs, s, s1, t, e, hE, hx, ha => by
  obtain ⟨x, l, rfl, h1, h2⟩ := concL_cons.1 hx
  rw [List.all_cons, Bool.and_eq_true] at ha
  have hp : p < t.size := by simpa [Nat.blt_eq] using ha.1
  obtain ⟨g1, g2, g3⟩ := setArgs_ok ps (show setArgs ps vs (s.put (some v) (qOf p)) = some s1 from e) (envR_set hE hp h1) h2 (by simpa using ha.2)
  exact ⟨by simp [g1], g2, by rw [List.zip_cons_cons, List.foldl_cons, g3]; simp⟩
theorem round_ok {run : Run} (hrun : RunS run) {l : Q} {args : List AV} {h : H} {k : KV} {r : AV × H} (e : callYield run l args h k = some r) {ρ : Nm} {W : World} {xs : List Value} {g c : Nat} (hl : ρ l = some (g, c)) (hx : concL ρ args = some xs) (hR : R ρ h W) {rl : Option Nat} {n : Nat}
  {K : Value → World → Prop} (hK : ∀ v h' x W', k v h' = some r → Left ρ h W v h' x W' → K x W') : ∃ nx, (Instr.yield g xs.toArray).run PP W = .ok nx W ∧ NextS rl n K nx W := by
 unfold callYield at e
 split at e
 ·rename_i st pend s ps asg body hlk
  split at e
  ·rename_i s1 hs1
   obtain ⟨g', c', hb', rr, hr1, hr2, hr3, hr4, hr5, hr6, hr7, hr8, hr9, hr10⟩ := hR.blk _ _ hlk
   rw [hl] at hb'
   injection hb' with hb'
   injection hb' with e1 e2
   subst e1 e2
   obtain ⟨g1, g2, g3⟩ := setArgs_ok ps hs1 hr7 hx hr10
   have hy := run_yield (P := PP) (args := xs.toArray) hr1 (by rw [← Array.length_toList (xs := rr.params), hr4]; simpa using g1)
   refine ⟨_, hy, ?_⟩
   have hfold : (rr.params.zip xs.toArray).foldl (fun tmps (t, a) => tmps.setIfInBounds t a) rr.tmps = (ps.zip xs).foldl (fun t p => t.setIfInBounds p.1 p.2) rr.tmps := by
    rw [← hr4, ← Array.foldl_toList]
    simp
   rw [hfold]
   refine roundIn_of_wpIn (F := FF rl) (FF_fn rl _) ?_
   rw [hr5, hr6]
   refine (hrun (some g) asg s1 [] h _ r e ρ W _ g2 MR.nil hR (by rw [g3]; exact hr8) n _ ?_).1
   intro x s2 ds2 h2 ρ2 W2 a2 hk hE2 hM2 hR2 hX2 hs2
   change midRound run l k body x s2 ds2 h2 = some r at hk
   unfold midRound at hk
   split at hk
   ·split at hk
    ·rename_i pend2 s02 ps2 asg2 body2 hlk2
     have hl2 : ρ2 l = some (g, c) := hX2.le _ _ hl
     obtain ⟨g', c', hb', q, q1, q2, q3, q4, q5, q6, q7⟩ := hR2.blk _ _ hlk2
     rw [hl2] at hb'
     injection hb' with hb'
     injection hb' with e1 e2
     subst e1 e2
     have hready : q.state = .ready := by cases hq : q.state <;> first | rfl | (rw [hq] at q2; cases q2)
     have hlt : g < W2.heap.size := (show BlkR ρ2 W2 g c (.loop 0 pend2 s02 ps2 asg2 body2) from ⟨q, q1, q2, q3, q4, q5, q6, q7⟩).lt
     have hset := R.set hR2 hlk2 hl2 (only_putObj W2 g (.loop { q with state := .busy })) (y := .loop 1 pend2 s02 ps2 asg2 body2) ⟨{ q with state := .busy }, World.putObj_heap_same hlt, rfl, q3, q4, q5, q6, q7⟩
     refine ⟨_, run_beginRound q1 hready, ?_⟩
     refine (hrun (some g) body s2 [] _ _ r hk ρ2 _ a2 hE2 hM2 hset.1 (by rw [hs2, g3]; exact hr9) n _ ?_).1
     intro x3 s3 ds3 h3 ρ3 W3 a3 hk3 hE3 hM3 hR3 hX3 hs3
     have hXX := Ext.trans hR hX2 (Ext.trans hR2 hset.2 hX3)
     change endRound l k x3 ds3 h3 = some r at hk3
     unfold endRound at hk3
     split at hk3
     ·split at hk3
      ·rename_i pend4 s04 ps4 asg4 body4 hlk4
       have hl4 : ρ3 l = some (g, c) := hXX.le _ _ hl
       obtain ⟨g', c', hb', q', t1, t2, t3, t4, t5, t6, t7⟩ := hR3.blk _ _ hlk4
       rw [hl4] at hb'
       injection hb' with hb'
       injection hb' with e1 e2
       subst e1 e2
       have hlt4 : g < W3.heap.size := (show BlkR ρ3 W3 g c (.loop 1 pend4 s04 ps4 asg4 body4) from ⟨q', t1, t2, t3, t4, t5, t6, t7⟩).lt
       have fin : ∀ (jump : Option Code) (b : Bool), b = jump.isNone → k (.bool b) (setB h3 l (some (.loop (if jump.isNone then 0 else 2) jump s04 ps4 asg4 body4))) = some r → ∃ v w', (Instr.endRound g jump).run PP W3 = .ok v w' ∧ ∃ x, Ending.returned v = .returned x ∧ K x w' := fun jump b hb hkk => by
        have hset4 := R.set hR3 hlk4 hl4 (only_putObj W3 g (.loop { q' with state := if jump.isNone then .ready else .done, pending := jump })) (y := .loop (if jump.isNone then 0 else 2) jump s04 ps4 asg4 body4)
         ⟨{ q' with state := if jump.isNone then .ready else .done, pending := jump }, World.putObj_heap_same hlt4, by cases jump <;> rfl, rfl, t4, t5, t6, t7⟩
        exact ⟨_, _, run_endRound jump t1, _, rfl, hK _ _ _ _ hkk ⟨ρ3, by rw [hb]; exact conc_bool, hset4.1, Ext.trans hR hXX hset4.2⟩⟩
       cases x3 with
       | normal => exact fin none true rfl hk3
       | exit id => exact fin (some (.exit id)) false rfl hk3
       | ret => exact fin (some .ret) false rfl hk3
      ·cases hk3
     ·cases hk3
    ·cases hk
   ·cases hk
  ·cases e
 ·cases e
theorem evCall_ok {F : TB Fn} (hF : FtOK F) {run : Run} (hrun : RunS run) : CallS (evCall F run) := by
 intro rl g args h k r e ρ W gv xs hg hx hR n K hK
 rcases elimFn_some e with ⟨f, first, caps, rfl, h1⟩ | ⟨l, rfl, h1⟩
 ·simp only [conc] at hg
  split at hg
  ·rename_i a b ha hb
   injection hg with hg
   subst hg
   have h1' : callOpt (F.get (qB f)) run (first ++ args ++ caps) h k = some r := h1
   cases hfn : F.get (qB f) with
   | none => rw [hfn] at h1'; cases h1'
   | some fn =>
    rw [hfn] at h1'
    have hargs : concL ρ (first ++ args ++ caps) = some (a ++ xs ++ b) := concL_append (concL_append ha hx) hb
    have hsem : (callSem (.func (.func f) a.toArray b.toArray) xs).run PP W = (callFunc f ((a.toArray ++ xs.toArray) ++ b.toArray)).run PP W := by
     rfl
    rcases hF f fn hfn with ⟨g, rfl, fu, hf1, hf2⟩ | ⟨fu, c, hf1, hf2, hf3, hf4⟩
    ·obtain ⟨k1, k2⟩ := when_some (show when_ (allInt (first ++ args ++ caps)) (bindV (g (first ++ args ++ caps)) fun v => k v h) = some r from h1')
     obtain ⟨v, k3, k4⟩ := bindV_some k2
     obtain ⟨x, k5, k6⟩ := hf2 _ _ k3 ρ W _ hargs
     refine ⟨.value x, ?_, hK v h x W k4 ⟨ρ, k5, hR, Ext.refl hR⟩, fun _ ⟨l, hl⟩ => ?_⟩
     ·rw [hsem, ← k6]
      simp
     ·subst hl
      have : ∀ p : List AV, allInt (p ++ [AV.yld l] ++ caps) = true → False := fun p => by
       induction p with
       | nil => intro e; cases e
       | cons y p ih =>
        intro e
        have e' : cond (isIntV y) (allInt (p ++ [AV.yld l] ++ caps)) false = true := e
        cases hy : isIntV y with
        | false => rw [hy] at e'; cases e'
        | true => rw [hy] at e'; exact ih e'
      exact (this _ k1).elim
    refine ⟨.enter f (a ++ xs ++ b).toArray, ?_, ?_, fun _ _ => ⟨_, _, rfl⟩⟩
    ·rw [hsem, Go.MuLone.run_callFunc_enter hf1 hf2 hf3]
     simp
    ·refine callsIn_round (rl := none) ?_
     cases fn with
     | code body res =>
      obtain ⟨rfl, rfl, h5⟩ := hf4
      exact code_ok hrun hf1 hf3 h5 h1' hargs hR hK
     | orc g =>
      have h6 : bindR (g (first ++ args ++ caps) h) k = some r := h1'
      cases hgo : g (first ++ args ++ caps) h with
      | none => rw [hgo] at h6; cases h6
      | some p =>
       rw [hgo] at h6
       obtain ⟨v, h'⟩ := p
       exact CallsIn.mono (hf4 _ _ _ _ hgo ρ W _ hargs hR n) fun e W' ⟨x, hx1, hx2⟩ => ⟨x, hx1, hK _ _ _ _ h6 hx2⟩
     | mix body res g =>
      obtain ⟨rfl, rfl, h5, h7⟩ := hf4
      have h6 : callMix c fu.results.toList g run (first ++ args ++ caps) h k = some r := h1'
      unfold callMix at h6
      cases hgo : g (first ++ args ++ caps) h with
      | none =>
       rw [hgo] at h6
       exact code_ok hrun hf1 hf3 h5 h6 hargs hR hK
      | some p =>
       rw [hgo] at h6
       obtain ⟨v, h'⟩ := p
       exact CallsIn.mono (h7 _ _ _ _ hgo ρ W _ hargs hR n) fun e W' ⟨x, hx1, hx2⟩ => ⟨x, hx1, hK _ _ _ _ h6 hx2⟩
     | ext g => exact hf4.elim
  ·cases hg
 ·simp only [conc] at hg
  split at hg
  ·rename_i b c hb
   injection hg with hg
   subst hg
   obtain ⟨nx, h2, h3⟩ := round_ok hrun h1 hb hx hR hK (rl := rl) (n := n)
   refine ⟨nx, ?_, h3, fun ⟨f, a, b, e⟩ _ => by cases e⟩
   rw [← h2]
   show (Instr.yield _ (#[] ++ xs.toArray)).run PP W = _
   simp
  ·cases hg
theorem run_ok {F : TB Fn} (hF : FtOK F) : ∀ n, RunS (run F n)
 | 0 => fun rl c s ds h k r e => by cases e
 | n + 1 => fun rl c s ds h k r e => evC_ok (run_ok hF n) (evCall_ok hF (run_ok hF n)) c rl s ds h k r e
def isExt : Option Fn → Bool
 | some (.ext _) => true
 | _ => false
theorem calls_ok {F : TB Fn} (hF : FtOK F) (fuel : Nat) {f : Nat} {args : List AV} {h : H} {v : AV} {h' : H} (e : evCall F (run F fuel) (.fn f [] []) args h (fun v h => some (v, h)) = some (v, h')) (hne : isExt (F.get (qB f)) = false) {ρ : Nm} {W : World} {xs : List Value} (hx : concL ρ args = some xs) (hR : R ρ h W) (n : Nat) :
  CallsIn (FF none) n PP f xs.toArray W fun e W' => ∃ x, e = .returned x ∧ Left ρ h W v h' x W' := by
 obtain ⟨nx, h1, h2, h3⟩ := evCall_ok hF (run_ok hF fuel) none _ _ _ _ _ e ρ W (.func (.func f) #[] #[]) xs (by simp only [conc, concL]) hx hR n (fun x W' => Left ρ h W v h' x W') (fun v2 h2 x W' hk hl => by
  injection hk with hk
  injection hk with e1 e2
  subst e1 e2
  exact hl)
 have hfu : callOpt (F.get (qB f)) (run F fuel) ([] ++ args ++ []) h (fun v h => some (v, h)) = some (v, h') := e
 cases hfn : F.get (qB f) with
 | none => rw [hfn] at hfu; cases hfu
 | some fn =>
  rcases hF f fn hfn with ⟨g, rfl, _⟩ | ⟨fu, c, hf1, hf2, hf3, hf4⟩
  ·rw [hfn] at hne; cases hne
  have : (callSem (.func (.func f) #[] #[]) xs).run PP W = (callFunc f ((#[] ++ xs.toArray) ++ #[])).run PP W := rfl
  rw [this, Go.MuLone.run_callFunc_enter hf1 hf2 hf3] at h1
  injection h1 with h1
  subst h1
  have : (#[] ++ xs.toArray) ++ #[] = xs.toArray := by simp
  rw [this] at h2
  exact h2
end Go.Ev
end
section
namespace Go.Ev
open Go Go.RowKit
section treeB
variable {α : Type}
def TB.put (x : Option α) : QB → TB α → TB α
 | .h, .leaf => .node .leaf x .leaf
 | .h, .node l _ r => .node l x r
 | .o p, .leaf => .node (TB.put x p .leaf) none .leaf
 | .o p, .node l v r => .node (TB.put x p l) v r
 | .i p, .leaf => .node .leaf none (TB.put x p .leaf)
 | .i p, .node l v r => .node l v (TB.put x p r)
theorem TB.get_put_same (x : Option α) : ∀ (p : QB) (t : TB α), (TB.put x p t).get p = x
 | .h, .leaf => rfl
 | .h, .node _ _ _ => rfl
 | .o p, .leaf => by simp only [TB.put, TB.get_o]; exact TB.get_put_same x p .leaf
 | .o p, .node l _ _ => by simp only [TB.put, TB.get_o]; exact TB.get_put_same x p l
 | .i p, .leaf => by simp only [TB.put, TB.get_i]; exact TB.get_put_same x p .leaf
 | .i p, .node _ _ r => by simp only [TB.put, TB.get_i]; exact TB.get_put_same x p r
theorem TB.get_put_other (x : Option α) : ∀ (p q : QB) (t : TB α), q ≠ p → (TB.put x p t).get q = t.get q
 | .h, .h, _, h => absurd rfl h
 | .h, .o q, .leaf, _ => by simp [TB.put]
 | .h, .o q, .node _ _ _, _ => rfl
 | .h, .i q, .leaf, _ => by simp [TB.put]
 | .h, .i q, .node _ _ _, _ => rfl
 | .o p, .h, .leaf, _ => rfl
 | .o p, .h, .node _ _ _, _ => rfl
 | .o p, .o q, .leaf, h => by simp only [TB.put, TB.get_o]; rw [TB.get_put_other x p q .leaf (fun e => h (by rw [e]))]; simp
 | .o p, .o q, .node l _ _, h => by simp only [TB.put, TB.get_o]; exact TB.get_put_other x p q l (fun e => h (by rw [e]))
 | .o p, .i q, .leaf, _ => by simp [TB.put]
 | .o p, .i q, .node _ _ _, _ => rfl
 | .i p, .h, .leaf, _ => rfl
 | .i p, .h, .node _ _ _, _ => rfl
 | .i p, .o q, .leaf, _ => by simp [TB.put]
 | .i p, .o q, .node _ _ _, _ => rfl
 | .i p, .i q, .leaf, h => by simp only [TB.put, TB.get_i]; rw [TB.get_put_other x p q .leaf (fun e => h (by rw [e]))]; simp
 | .i p, .i q, .node _ _ r, h => by simp only [TB.put, TB.get_i]; exact TB.get_put_other x p q r (fun e => h (by rw [e]))
end treeB
theorem FtOK.put {F : TB Fn} (hF : FtOK F) {f : Nat} {fn : Fn} (h : FnOK f fn) : FtOK (TB.put (some fn) (qB f) F) := fun g fn' e => by
 by_cases hg : g = f
 ·subst hg
  rw [TB.get_put_same] at e
  injection e with e
  subst e
  exact h
 ·rw [TB.get_put_other _ _ _ _ (fun k => hg (by rw [← toN_qB g, k, toN_qB]))] at e
  exact hF g fn' e
theorem FnOK.mix {F : TB Fn} (hF : FtOK F) {f : Nat} {body : Code} {res : List ResultVar} (h : F.get (qB f) = some (.code body res)) {g : List AV → H → Option (AV × H)} (hg : OrcS f g) : FnOK f (.mix body res g) := by
 rcases hF f _ h with ⟨_, e, _⟩ | ⟨fu, c, h1, h2, h3, h4, h5, h6⟩
 ·cases e
 ·exact .inr ⟨fu, c, h1, h2, h3, h4, h5, h6, hg⟩
theorem FnOK.orc {F : TB Fn} (hF : FtOK F) {f : Nat} {body : Code} {res : List ResultVar} (h : F.get (qB f) = some (.code body res)) {g : List AV → H → Option (AV × H)} (hg : OrcS f g) : FnOK f (.orc g) := by
 rcases hF f _ h with ⟨_, e, _⟩ | ⟨fu, c, h1, h2, h3, h4, h5, h6⟩
 ·cases e
 ·exact .inr ⟨fu, c, h1, h2, h3, hg⟩
noncomputable def mixOf (o : Option Fn) (g : List AV → H → Option (AV × H)) : Option Fn := match o with
 | some (.code b r) => some (.mix b r g)
 | _ => none
noncomputable def orcOf (o : Option Fn) (g : List AV → H → Option (AV × H)) : Option Fn := match o with
 | some (.code _ _) => some (.orc g)
 | _ => none
theorem FtOK.putO {F : TB Fn} (hF : FtOK F) {f : Nat} {o : Option Fn} (h : ∀ fn, o = some fn → FnOK f fn) : FtOK (TB.put o (qB f) F) := fun g fn' e => by
 by_cases hg : g = f
 ·subst hg
  rw [TB.get_put_same] at e
  exact h _ e
 ·rw [TB.get_put_other _ _ _ _ (fun k => hg (by rw [← toN_qB g, k, toN_qB]))] at e
  exact hF g fn' e
theorem FtOK.mix {F G : TB Fn} (hF : FtOK F) (hG : FtOK G) {f : Nat} {g : List AV → H → Option (AV × H)} (hg : OrcS f g) : FtOK (TB.put (mixOf (G.get (qB f)) g) (qB f) F) :=
 hF.putO fun fn e => by
  unfold mixOf at e
  split at e
  ·rename_i b r h
   injection e with e
   subst e
   exact FnOK.mix hG h hg
  ·cases e
theorem FtOK.orc {F G : TB Fn} (hF : FtOK F) (hG : FtOK G) {f : Nat} {g : List AV → H → Option (AV × H)} (hg : OrcS f g) : FtOK (TB.put (orcOf (G.get (qB f)) g) (qB f) F) :=
 hF.putO fun fn e => by
  unfold orcOf at e
  split at e
  ·rename_i b r h
   injection e with e
   subst e
   exact FnOK.orc hG h hg
  ·cases e
theorem FtOK.ext {F : TB Fn} (hF : FtOK F) {f : Nat} {g : List AV → Option AV} (hg : ExtS f g) : FtOK (TB.put (some (.ext g)) (qB f) F) :=
 hF.put (.inl ⟨g, rfl, hg⟩)
def ρ0 : Nm := fun _ => none
def H0 : H := ⟨.leaf, .h⟩
theorem R.empty (W : World) : R ρ0 H0 W := ⟨fun b x e => by simp [H0] at e, fun b b' x x' g c c' e => by simp [H0] at e, fun b x e => by cases e⟩
theorem ρ0_le (ρ : Nm) : ρ0.le ρ := fun b x e => by cases e
theorem Ext.below {ρ' : Nm} {h' : H} {W W' : World} (h : Ex ρ0 H0 W ρ' h' W') : Below W.heap.size W W' :=
 ⟨h.os, h.tape, h.output, h.size, fun g hg => h.same g hg fun b x c e => by simp [H0] at e⟩
noncomputable def ifO (b : Bool) (x y : Option (AV × H)) : Option (AV × H) := Bool.rec (motive := fun _ => Option (AV × H) → Option (AV × H) → Option (AV × H)) (fun _ y => y) (fun x _ => x) b x y
theorem ifO_some {b : Bool} {x y : Option (AV × H)} {r} (h : ifO b x y = some r) : (b = true ∧ x = some r) ∨ (b = false ∧ y = some r) := by
 cases b
 ·exact .inr ⟨rfl, h⟩
 ·exact .inl ⟨rfl, h⟩
noncomputable def memoI (l : List (List AV × AV)) (args : List AV) (h : H) : Option (AV × H) :=
 List.rec (motive := fun _ => Option (AV × H)) none (fun p _ ih => ifO (eqAVL p.1 args) (some (p.2, h)) ih) l
noncomputable def chkI (F : TB Fn) (n f : Nat) (p : List AV × AV) : Bool :=
 !(isExt (F.get (qB f))) && ((concL ρ0 p.1).isSome && ((conc ρ0 p.2).isSome && (match evCall F (runX F n) (.fn f [] []) p.1 H0 idk with
  | some (v, _) => eqAV v p.2
  | none => false)))
theorem pure_left {ρ : Nm} {h : H} {W W' : World} {v : AV} {x : Value} (hR : R ρ h W) (hb : Below W.heap.size W W') (hv : conc ρ0 v = some x) : Left ρ h W v h x W' :=
 ⟨ρ, conc_le (ρ0_le ρ) _ _ hv, (R.step hR hb).1, (R.step hR hb).2⟩
theorem chkI_ok {F : TB Fn} (hF : FtOK F) {n f : Nat} {p : List AV × AV} (h : chkI F n f p = true) {ρ : Nm} {W : World} {xs : List Value} {hh : H} (hx : concL ρ p.1 = some xs) (hR : R ρ hh W) (m : Nat) :
  CallsIn (FF none) m PP f xs.toArray W fun e W' => ∃ x, e = .returned x ∧ Left ρ hh W p.2 hh x W' := by
 unfold chkI at h
 rw [Bool.and_eq_true, Bool.and_eq_true, Bool.and_eq_true] at h
 obtain ⟨hne, h1, h2, h3⟩ := h
 have hne : isExt (F.get (qB f)) = false := by simpa using hne
 obtain ⟨ys, hy⟩ := Option.isSome_iff_exists.1 h1
 obtain ⟨y, hv⟩ := Option.isSome_iff_exists.1 h2
 have := concL_le (ρ0_le ρ) _ _ hy
 rw [hx] at this
 injection this with this
 subst this
 split at h3
 ·rename_i v h' he
  have hveq := eqAV_eq _ _ h3
  subst hveq
  rw [runX_eq] at he
  refine CallsIn.mono (calls_ok hF n he hne hy (R.empty W) m) ?_
  rintro e W' ⟨x, rfl, ρ', g1, g2, g3⟩
  have := conc_le g3.le _ _ hv
  rw [g1] at this
  injection this with this
  subst this
  exact ⟨_, rfl, pure_left hR (Ext.below g3) hv⟩
 ·cases h3
theorem memoI_ok {f : Nat} {l : List (List AV × AV)} (h : ∀ p ∈ l, ∃ F n, FtOK F ∧ chkI F n f p = true) : OrcS f (memoI l) := by
 intro args hh v h' e ρ W xs hx hR m
 induction l with
 | nil => cases e
 | cons p l ih =>
  rcases ifO_some (show ifO (eqAVL p.1 args) (some (p.2, hh)) (memoI l args hh) = some (v, h') from e) with ⟨h1, h2⟩ | ⟨h1, h2⟩
  ·have := eqAVL_eq _ _ h1
   subst this
   injection h2 with h2
   injection h2 with e1 e2
   subst e1 e2
   obtain ⟨F, n, hF, hc⟩ := h p (List.mem_cons_self ..)
   exact chkI_ok hF hc hx hR m
  ·exact ih (fun p hp => h p (List.mem_cons_of_mem _ hp)) h2
def AB.le : AB → AB → Prop
 | .cells n row t, .cells n' row' t' => n = n' ∧ row = row' ∧ ∀ o v, t.get (qOf o) = some v → t'.get (qOf o) = some v
 | a, b => a = b
theorem AB.le_refl : ∀ a : AB, a.le a
 | .cells _ _ _ => ⟨rfl, rfl, fun _ _ h => h⟩
 | .loop .. => rfl
 | .dfr => rfl
theorem BlkR.mono {ρ : Nm} {W : World} {g c : Nat} {a b : AB} (h : a.le b) (hb : BlkR ρ W g c b) : BlkR ρ W g c a := by
  cases a with
  | cells n row t =>
    cases b with
    | cells n' row' t' =>
      obtain ⟨rfl, rfl, h3⟩ := h
      obtain ⟨cs, ty, k1, k2, k3, k4, k5⟩ := hb
      exact ⟨cs, ty, k1, k2, k3, fun o v hv => k4 o v (h3 o v hv), fun o v hv => k5 o v (h3 o v hv)⟩
    | _ => cases h
  | loop st p s ps x y => have : AB.loop st p s ps x y = b := by cases b <;> exact h
                          subst this; exact hb
  | dfr => have : AB.dfr = b := by cases b <;> exact h
           subst this; exact hb
theorem RF.weak {ρ : Nm} {f g : Q → Option AB} {nx : Q} {W : World} (h : RF ρ f nx W) (hs : ∀ b x, g b = some x → ∃ y, f b = some y ∧ x.le y) : RF ρ g nx W :=
  ⟨fun b x hb => by
    obtain ⟨y, h1, h2⟩ := hs b x hb
    obtain ⟨G, c, h3, h4⟩ := h.blk b y h1
    exact ⟨G, c, h3, h4.mono h2⟩,
   fun b b' x x' G c c' h1 h2 => by
    obtain ⟨y, h3, _⟩ := hs b x h1
    obtain ⟨y', h4, _⟩ := hs b' x' h2
    exact h.inj b b' y y' G c c' h3 h4, h.new⟩
theorem Ext.weak {ρ ρ' : Nm} {f f' f'' : Q → Option AB} {nx nx' : Q} {W W' : World} (h : Ext ρ f nx W ρ' f' nx' W') (hs : ∀ b x, f'' b = some x → (f' b).isSome = true) : Ext ρ f nx W ρ' f'' nx' W' :=
 ⟨h.le, h.fresh, h.os, h.tape, h.output, h.size, h.same, fun b x hb => by
  obtain ⟨y, hy⟩ := Option.isSome_iff_exists.1 (hs b x hb)
  exact h.old b y hy, fun b x hb => by
  obtain ⟨y, hy⟩ := Option.isSome_iff_exists.1 (hs b x hb)
  exact h.org b y hy, h.nm⟩
theorem Ext.dom {ρ ρ' : Nm} {f f0 f' : Q → Option AB} {nx nx' : Q} {W W' : World} (h : Ext ρ f0 nx W ρ' f' nx' W') (hs : ∀ b, (f b).isSome = (f0 b).isSome) : Ext ρ f nx W ρ' f' nx' W' := by
 have to : ∀ b x, f b = some x → ∃ y, f0 b = some y := fun b x e => Option.isSome_iff_exists.1 (by rw [← hs, e]; rfl)
 have fro : ∀ b x, f0 b = some x → ∃ y, f b = some y := fun b x e => Option.isSome_iff_exists.1 (by rw [hs, e]; rfl)
 refine ⟨h.le, h.fresh, h.os, h.tape, h.output, h.size, fun g hg hn => h.same g hg fun b x c hb => ?_, fun b x hb hlt => by rw [hs]; exact h.old b x hb hlt, fun b x hb => ?_, h.nm⟩
 ·obtain ⟨y, hy⟩ := fro b x hb
  exact hn b y c hy
 ·obtain ⟨G, c, h1, h2⟩ := h.org b x hb
  refine ⟨G, c, h1, h2.imp id ?_⟩
  rintro ⟨b0, x0, c0, h3, h4⟩
  obtain ⟨y, hy⟩ := fro b0 x0 h3
  exact ⟨b0, y, c0, hy, h4⟩
structure MB where
 b : Q
 n : Nat
 row : Option (Nat × Nat)
 cs : List AV
structure ME where
 args : List AV
 n0 : Q
 l0 : List MB
 v : AV
 n1 : Q
 l1 : List MB
noncomputable def MB.ab (m : MB) : AB := .cells m.n m.row (storeF m.cs 0 .leaf)
noncomputable def lay (l : List MB) (t : T AB) : T AB := List.rec (motive := fun _ => T AB) t (fun m _ ih => ih.put (some m.ab) m.b) l
noncomputable def dropL (l : List MB) (t : T AB) : T AB := List.rec (motive := fun _ => T AB) t (fun m _ ih => ih.put none m.b) l
def rowEq : Option (Nat × Nat) → Option (Nat × Nat) → Bool
 | none, none => true
 | some (a, b), some (c, d) => Nat.beq a c && Nat.beq b d
 | _, _ => false
theorem rowEq_eq {a b : Option (Nat × Nat)} (h : rowEq a b = true) : a = b := by
 unfold rowEq at h
 split at h
 ·rfl
 ·rw [Bool.and_eq_true] at h; rw [Nat.eq_of_beq_eq_true h.1, Nat.eq_of_beq_eq_true h.2]
 ·cases h
noncomputable def optEq (o : Option AV) (v : AV) : Bool := Option.rec (motive := fun _ => AV → Bool) (fun _ => false) (fun w v => eqAV w v) o v
noncomputable def cellsEq (vs : List AV) (o : Nat) (t : T AV) : Bool :=
 List.rec (motive := fun _ => Nat → T AV → Bool) (fun _ _ => true) (fun v _ ih o t => cond (optEq (t.get (qOf o)) v) (ih (Nat.add o 1) t) false) vs o t
noncomputable def hasO (m : MB) (o : Option AB) : Bool := Option.rec (motive := fun _ => Bool) false (fun x => AB.rec (motive := fun _ => Bool) (fun n row t => Nat.beq n m.n && (rowEq row m.row && cellsEq m.cs 0 t)) (fun _ _ _ _ _ _ => false) false x) o
noncomputable def hasB (h : H) (m : MB) : Bool := hasO m (h.t.get m.b)
noncomputable def hasL (h : H) (l : List MB) : Bool := List.rec (motive := fun _ => Bool) true (fun m _ ih => cond (hasB h m) ih false) l
def eqQ (a b : Q) : Bool := Nat.beq a.toN b.toN
theorem eqQ_eq {a b : Q} (h : eqQ a b = true) : a = b := toN_inj (Nat.eq_of_beq_eq_true h)
noncomputable def memoE (l : List ME) (args : List AV) (h : H) : Option (AV × H) :=
 List.rec (motive := fun _ => Option (AV × H)) none (fun e _ ih => ifO (eqAVL e.args args && (eqQ e.n0 h.n && hasL h e.l0)) (some (e.v, ⟨lay e.l1 (dropL e.l0 h.t), e.n1⟩)) ih) l
noncomputable def chkE (F : TB Fn) (n f : Nat) (e : ME) : Bool := !(isExt (F.get (qB f))) && (match evCall F (runX F n) (.fn f [] []) e.args ⟨lay e.l0 .leaf, e.n0⟩ idk with
 | some (v, h) => eqAV v e.v && (eqQ h.n e.n1 && hasL h e.l1)
 | none => false)
theorem cellsEq_ok : ∀ {vs : List AV} {o : Nat} {t : T AV}, cellsEq vs o t = true → ∀ i v, vs[i]? = some v → t.get (qOf (o + i)) = some v
 | [], _, _, _, i, v, h => by simp at h
 | w :: vs, o, t, h, i, v, hv => by
  have h' : cond (optEq (t.get (qOf o)) w) (cellsEq vs (o + 1) t) false = true := h
  cases hb : optEq (t.get (qOf o)) w with
  | false => rw [hb] at h'; cases h'
  | true =>
   rw [hb] at h'
   cases i with
   | zero =>
    simp only [List.getElem?_cons_zero, Option.some.injEq] at hv
    subst hv
    cases hg : t.get (qOf o) with
    | none => rw [hg] at hb; cases hb
    | some u => rw [hg] at hb; rw [eqAV_eq _ _ (show eqAV u w = true from hb)]
   | succ i =>
    have := cellsEq_ok (show cellsEq vs (o + 1) t = true from h') i v (by simpa using hv)
    rw [show o + (i + 1) = o + 1 + i by omega]
    exact this
theorem hasB_ok {h : H} {m : MB} (e : hasB h m = true) : ∃ y, h.t.get m.b = some y ∧ m.ab.le y := by
 unfold hasB at e
 cases hg : h.t.get m.b with
 | none => rw [hg] at e; cases e
 | some y =>
  rw [hg] at e
  refine ⟨y, rfl, ?_⟩
  cases y with
  | cells n row t =>
   have e' : (Nat.beq n m.n && (rowEq row m.row && cellsEq m.cs 0 t)) = true := e
   rw [Bool.and_eq_true, Bool.and_eq_true] at e'
   refine ⟨(Nat.eq_of_beq_eq_true e'.1).symm, (rowEq_eq e'.2.1).symm, fun o v hv => ?_⟩
   rw [storeF_eq, get_storeL] at hv
   split at hv
   ·rename_i hlt
    have := cellsEq_ok e'.2.2 (o - 0) v hv
    simpa using this
   ·simp at hv
  | loop _ _ _ _ _ _ => cases e
  | dfr => cases e
theorem hasL_ok {h : H} : ∀ {l : List MB}, hasL h l = true → ∀ m ∈ l, ∃ y, h.t.get m.b = some y ∧ m.ab.le y
 | [], _, m, hm => by cases hm
 | a :: l, e, m, hm => by
  have e' : cond (hasB h a) (hasL h l) false = true := e
  cases hb : hasB h a with
  | false => rw [hb] at e'; cases e'
  | true =>
   rw [hb] at e'
   cases hm with
   | head => exact hasB_ok hb
   | tail _ hm => exact hasL_ok (show hasL h l = true from e') m hm
theorem lay_get {t : T AB} {b : Q} : ∀ {l : List MB}, (∃ m ∈ l, m.b = b ∧ (lay l t).get b = some m.ab) ∨ ((∀ m ∈ l, m.b ≠ b) ∧ (lay l t).get b = t.get b)
 | [] => .inr ⟨fun m hm => (by cases hm), rfl⟩
 | a :: l => by
  have e : lay (a :: l) t = (lay l t).put (some a.ab) a.b := rfl
  rw [e, T.get_put]
  split
  ·rename_i h; exact .inl ⟨a, List.mem_cons_self .., h.symm, rfl⟩
  ·rename_i h
   rcases lay_get (t := t) (b := b) (l := l) with ⟨m, h1, h2, h3⟩ | ⟨h1, h2⟩
   ·exact .inl ⟨m, List.mem_cons_of_mem _ h1, h2, h3⟩
   ·refine .inr ⟨fun m hm => ?_, h2⟩
    cases hm with
    | head => exact fun e => h e.symm
    | tail _ hm => exact h1 m hm
theorem dropL_get {t : T AB} {b : Q} : ∀ {l : List MB}, ((∃ m ∈ l, m.b = b) ∧ (dropL l t).get b = none) ∨ ((∀ m ∈ l, m.b ≠ b) ∧ (dropL l t).get b = t.get b)
 | [] => .inr ⟨fun m hm => (by cases hm), rfl⟩
 | a :: l => by
  have e : dropL (a :: l) t = (dropL l t).put none a.b := rfl
  rw [e, T.get_put]
  split
  ·rename_i h; exact .inl ⟨⟨a, List.mem_cons_self .., h.symm⟩, rfl⟩
  ·rename_i h
   rcases dropL_get (t := t) (b := b) (l := l) with ⟨⟨m, h1, h2⟩, h3⟩ | ⟨h1, h2⟩
   ·exact .inl ⟨⟨m, List.mem_cons_of_mem _ h1, h2⟩, h3⟩
   ·refine .inr ⟨fun m hm => ?_, h2⟩
    cases hm with
    | head => exact fun e => h e.symm
    | tail _ hm => exact h1 m hm
theorem chkE_ok {F : TB Fn} (hF : FtOK F) {n f : Nat} {e : ME} (hc : chkE F n f e = true) {ρ : Nm} {W : World} {xs : List Value} {h : H} (hx : concL ρ e.args = some xs) (hR : R ρ h W) (hn : e.n0 = h.n) (hl : hasL h e.l0 = true) (m : Nat) :
  CallsIn (FF none) m PP f xs.toArray W fun en W' => ∃ x, en = .returned x ∧ Left ρ h W e.v ⟨lay e.l1 (dropL e.l0 h.t), e.n1⟩ x W' := by
 unfold chkE at hc
 rw [Bool.and_eq_true] at hc
 obtain ⟨hne, hc⟩ := hc
 have hne : isExt (F.get (qB f)) = false := by simpa using hne
 split at hc
 ·rename_i v h' he
  rw [Bool.and_eq_true, Bool.and_eq_true] at hc
  obtain ⟨c1, c2, c3⟩ := hc
  have c1 := eqAV_eq _ _ c1
  have c2 := eqQ_eq c2
  subst c1
  rw [runX_eq] at he
  have hl := hasL_ok hl
    
  have d0 : ∀ b, (h.t.get b).isSome = ((lay e.l0 h.t).get b).isSome := fun b => by
   rcases lay_get (t := h.t) (b := b) (l := e.l0) with ⟨m, k1, k2, k3⟩ | ⟨k1, k2⟩
   ·obtain ⟨y, k4, _⟩ := hl m k1
    rw [k3, ← k2, k4]; rfl
   ·rw [k2]
  have hR0 : RF ρ (lay e.l0 h.t).get h.n W := RF.weak hR fun b x hb => by
   rcases lay_get (t := h.t) (b := b) (l := e.l0) with ⟨m, k1, k2, k3⟩ | ⟨k1, k2⟩
   ·obtain ⟨y, k4, k5⟩ := hl m k1
    rw [k3] at hb
    injection hb with hb
    subst hb
    exact ⟨y, by rw [← k2]; exact k4, k5⟩
   ·rw [k2] at hb
    exact ⟨x, hb, AB.le_refl _⟩
  have sub0 : ∀ b x, (lay e.l0 (.leaf : T AB)).get b = some x → (lay e.l0 h.t).get b = some x := fun b x hb => by
   have key : ∀ l : List MB, (lay l (.leaf : T AB)).get b = some x → (lay l h.t).get b = some x := fun l => by
    induction l with
    | nil => intro hb; simp [lay] at hb
    | cons a l ih =>
     intro hb
     have e1 : lay (a :: l) (.leaf : T AB) = (lay l .leaf).put (some a.ab) a.b := rfl
     have e2 : lay (a :: l) h.t = (lay l h.t).put (some a.ab) a.b := rfl
     rw [e1, T.get_put] at hb
     rw [e2, T.get_put]
     split at hb
     ·rename_i hq; rw [if_pos hq]; exact hb
     ·rename_i hq; rw [if_neg hq]; exact ih hb
   exact key _ hb
  have hRs : R ρ ⟨lay e.l0 .leaf, e.n0⟩ W := by
   show RF ρ (lay e.l0 .leaf).get e.n0 W
   rw [hn]
   exact RF.sub hR0 sub0
  refine CallsIn.mono (calls_ok hF n he hne hx hRs m) ?_
  rintro en W' ⟨x, rfl, ρ', g1, g2, g3⟩
  have g3 : Ext ρ (lay e.l0 (.leaf : T AB)).get e.n0 W ρ' h'.t.get h'.n W' := g3
  rw [hn] at g3
  obtain ⟨q1, q2⟩ := frame hR0 sub0 g2 g3
  have fin : ∀ b x, (lay e.l1 (dropL e.l0 h.t)).get b = some x → ∃ y, fr (lay e.l0 (.leaf : T AB)).get h'.t.get (lay e.l0 h.t).get b = some y ∧ x.le y := fun b x hb => by
   rcases lay_get (t := dropL e.l0 h.t) (b := b) (l := e.l1) with ⟨m, k1, k2, k3⟩ | ⟨k1, k2⟩
   ·obtain ⟨y, k4, k5⟩ := hasL_ok c3 m k1
    rw [k3] at hb
    injection hb with hb
    subst hb
    rw [k2] at k4
    exact ⟨y, by unfold fr; rw [k4], k5⟩
   ·rw [k2] at hb
    rcases dropL_get (t := h.t) (b := b) (l := e.l0) with ⟨_, k3⟩ | ⟨k3, k4⟩
    ·rw [k3] at hb; cases hb
    ·rw [k4] at hb
     obtain ⟨G, c, r1, _⟩ := hR.blk b x hb
     have hlt := hR.new b _ r1
     have hgn : (lay e.l0 (.leaf : T AB)).get b = none := by
      rcases lay_get (t := (.leaf : T AB)) (b := b) (l := e.l0) with ⟨m, s1, s2, _⟩ | ⟨_, s2⟩
      ·exact absurd s2 (k3 m s1)
      ·rw [s2]; simp
     have hg' : h'.t.get b = none := by
      cases hq : h'.t.get b with
      | none => rfl
      | some y => have := g3.old b y hq hlt; rw [hgn] at this; cases this
     refine ⟨x, ?_, AB.le_refl _⟩
     unfold fr
     rw [hg', hgn]
     rcases lay_get (t := h.t) (b := b) (l := e.l0) with ⟨m, s1, s2, _⟩ | ⟨_, s2⟩
     ·exact absurd s2 (k3 m s1)
     ·show (lay e.l0 h.t).get b = some x
      rw [s2]; exact hb
  refine ⟨x, rfl, ρ', g1, ?_, ?_⟩
  ·show RF ρ' (lay e.l1 (dropL e.l0 h.t)).get e.n1 W'
   rw [← c2]
   exact RF.weak q1 fin
  ·show Ext ρ h.t.get h.n W ρ' (lay e.l1 (dropL e.l0 h.t)).get e.n1 W'
   rw [← c2]
   exact Ext.dom (Ext.weak q2 fun b x hb => by obtain ⟨y, k1, _⟩ := fin b x hb; rw [k1]; rfl) d0
 ·cases hc
theorem memoE_ok {f : Nat} {l : List ME} (h : ∀ e ∈ l, ∃ F n, FtOK F ∧ chkE F n f e = true) : OrcS f (memoE l) := by
 intro args hh v h' eq ρ W xs hx hR m
 induction l with
 | nil => cases eq
 | cons p l ih =>
  rcases ifO_some (show ifO (eqAVL p.args args && (eqQ p.n0 hh.n && hasL hh p.l0)) (some (p.v, ⟨lay p.l1 (dropL p.l0 hh.t), p.n1⟩)) (memoE l args hh) = some (v, h') from eq) with ⟨h1, h2⟩ | ⟨h1, h2⟩
  ·rw [Bool.and_eq_true, Bool.and_eq_true] at h1
   have := eqAVL_eq _ _ h1.1
   subst this
   injection h2 with h2
   injection h2 with e1 e2
   subst e1 e2
   obtain ⟨F, n, hF, hc⟩ := h p (List.mem_cons_self ..)
   exact chkE_ok hF hc hx hR (eqQ_eq h1.2.1) h1.2.2 m
  ·exact ih (fun p hp => h p (List.mem_cons_of_mem _ hp)) h2
noncomputable def forceL (a : Nat) (f : Nat → List AV) : List AV := Nat.rec (motive := fun _ => (Nat → List AV) → List AV) (fun f => f 0) (fun p _ f => f (Nat.succ p)) a f
noncomputable def unp (k : IntKind) (b n x : Nat) : List AV := Nat.rec (motive := fun _ => Nat → List AV) (fun _ => []) (fun _ ih x => forceL (Nat.mod x b) fun u => forceL (Nat.div x b) fun y => .int k u :: ih y) n x
theorem all_mem {α : Type} {P : α → Prop} {p : α → Bool} (h : ∀ x, p x = true → P x) : ∀ {l : List α}, l.all p = true → ∀ x ∈ l, P x
 | a :: l, e, x, hx => by
  rw [List.all_cons, Bool.and_eq_true] at e
  cases hx with
  | head => exact h _ e.1
  | tail _ hx => exact all_mem h e.2 x hx
theorem memI {F : TB Fn} (hF : FtOK F) {n f : Nat} {l : List (List AV × AV)} (h : l.all (chkI F n f) = true) : ∀ p ∈ l, ∃ F n, FtOK F ∧ chkI F n f p = true :=
 all_mem (fun x hx => ⟨F, n, hF, hx⟩) h
end Go.Ev
end
