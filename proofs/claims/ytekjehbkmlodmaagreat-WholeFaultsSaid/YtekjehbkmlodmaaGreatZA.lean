/- A part of the proof of WholeFaults. -/
import Derived.WalkKit
import Derived.WalkSpells
import Derived.WalkLawsBesides
import Derived.Lib.Hide
import Derived.Deep.DeepMust
import Derived.ChangeKeysEq
import Derived.Laws.AppendOwnNone
import Derived.ProofKit
import Derived.OpenShut
import Derived.ShutString
import Derived.ChangeOld
import Derived.Deep.Slices
import Derived.Maps.AppendAt
import Derived.Deep.AppendLies
import Derived.Deep.QuietTactic
import Derived.BigQuiet
import Derived.OrdersIn
import Derived.StillTail
import Derived.Deep.RegionHeld3
set_option linter.unusedVariables false
set_option linter.unusedSimpArgs false
namespace Go.Proofs.YtekjehbkmlodmaaGreat
section
open Go.RowKit
def Blk (w : World) (g : Nat) (t : TypeId) (l : List Value) : Prop := w.heap[g]? = some (.cells l.toArray t (0, 0))
section
variable {w w' : World} {g : Nat} {t : TypeId} {l : List Value}
theorem Blk.lt (h : Blk w g t l) : g < w.heap.size := by
 rcases Nat.lt_or_ge g w.heap.size with hlt | hge
 ·exact hlt
 ·rw [Blk, Array.getElem?_eq_none hge] at h; cases h
theorem Blk.cell (h : Blk w g t l) (i : Nat) : w.cell? ⟨g, i, none⟩ = l[i]? := by
 have := cell_of_row w g i l.toArray t (0, 0) h
 simpa using this
theorem Blk.free (h : Blk w g t l) (i : Nat) : w.frozen? ⟨g, i, none⟩ = false := frozen_of_row w g i _ t h
theorem add_off (b off j : Nat) : (⟨b, off, none⟩ : Addr).add j = ⟨b, off + j, none⟩ := by
 unfold Addr.add
 split
 ·rename_i h0; rw [h0]; rfl
 ·rfl
theorem Blk.news (h : Blk w g t l) : ∀ ad, some (⟨g, 0, none⟩ : Addr) = some ad → ∀ j u, l[j]? = some u → w.cell? (ad.add j) = some u := by
 rintro ad e j u hu
 injection e with e
 subst e
 rw [add_off, Nat.zero_add, h.cell, hu]
theorem own_ge {base : Nat} {e : TypeId} {size n : Nat} {v : Value} {xs : List Value} (h : w.ownsRow base e size v n xs) : ∀ k, v.ownBlock = some k → base ≤ k := by
 intro k hk
 rcases h.2 with ⟨rfl, _⟩ | ⟨g, cap, cur, rfl, hb, _⟩
 ·simp [Value.ownBlock] at hk
 ·simp [Value.ownBlock] at hk; omega
theorem own_new (w : World) (e : TypeId) (size : Nat) : (w.alloc (.cells #[] e)).ownsRow w.heap.size e size (.slice (some ⟨w.heap.size, 0, none⟩) 0 0) 0 [] :=
 ⟨by simp, .inr ⟨_, 0, #[], rfl, Nat.le_refl _, heap_alloc_new w _, Nat.le_refl _, by simp [maxLen], by simp, by simp⟩⟩
theorem Blk.mk (w : World) (t : TypeId) (l : List Value) : Blk (w.alloc (.cells l.toArray t)) w.heap.size t l := heap_alloc_new w _
theorem Blk.drew (h : Blk w g t l) : Blk w.drew g t l := h
theorem Blk.drewN (h : Blk w g t l) (n : Nat) : Blk (w.drewN n) g t l := h
theorem Blk.alloc (h : Blk w g t l) (o : Obj) : Blk (w.alloc o) g t l := (Below.heap_alloc w o g h.lt).trans h
theorem Blk.put (h : Blk w g t l) (i : Nat) (u : Value) : Blk (w.setCell ⟨g, i, none⟩ u) g t (l.set i u) := by
 have := heap_setCell_same w g i _ t u h
 rw [Blk, this]
 simp
theorem Blk.far (h : Blk w g t l) {p : Addr} (hp : g ≠ p.block) (u : Value) : Blk (w.setCell p u) g t l := (Below.heap_setCell w p u g hp).trans h
theorem Blk.below {B : Nat} (h : Blk w g t l) (hb : Below B w w') (hg : g < B) : Blk w' g t l := (hb.block g hg).trans h
theorem Blk.grown {row : Option Nat} (h : Blk w g t l) (hb : w.grownBy w' row) (hr : some g ≠ row) : Blk w' g t l := (hb.block g h.lt hr).trans h
end
section
variable {w w' : World}
theorem bl (w : World) (o : Obj) : Below w.heap.size w (w.alloc o) := (Below.refl _ _).alloc (Nat.le_refl _) _
theorem below_drewN {B : Nat} {a w : World} (h : Below B a w) (n : Nat) : Below B a (w.drewN n) := ⟨h.os, h.tape, h.output, h.size, h.block⟩
theorem bt {a b c : World} (h : Below a.heap.size a b) (k : Below b.heap.size b c) : Below a.heap.size a c := h.trans (k.mono h.size)
theorem bcell {W w1 : World} {B : Nat} (hb : Below B W w1) : (∀ b o, b < B → w1.cell? ⟨b, o, none⟩ = W.cell? ⟨b, o, none⟩) ∧ (∀ b o, b < B → w1.frozen? ⟨b, o, none⟩ = W.frozen? ⟨b, o, none⟩) :=
 ⟨fun b o h => hb.cell (p := ⟨b, o, none⟩) h, fun b o h => hb.frozen (p := ⟨b, o, none⟩) h⟩
end
section
variable {P : Program}
end
section
variable {w w' : World} {B B' size n : Nat} {A : Option Addr} {xs : List Value}
end
theorem wpList_append_both {P : Program} {w : World} {ops : Array Oper} {rest : List Oper} {o : Oper} {a : Act} {Q : Exit → Act → World → Prop} (hgd : o.guard = none) (s x : Operand) (t : TypeId)
  (ho : o.op = .call { callee := .builtin .append, args := #[s, x], argTypes := #[t, t] })
  (base : Nat) (e : TypeId) (i : TypeInfo) (z : Value) (size bytes : Nat) (ht : P.underlying t = some (.slice e)) (hi : P.info? e = some i) (hz : i.zero = some z)
  (hsize : i.size = size) (hby : i.bytes = bytes) (hzs : z.cells.size = size) (hsz : 0 < size)
  (v : Value) (n : Nat) (xs : List Value) (hs : a.eval s = v) (hown : w.ownsRow base e size v n xs)
  (ao : Option Addr) (m c : Nat) (news : List Value) (hx : a.eval x = .slice ao m c) (hl : news.length = m * size) (hnone : ao = none → m = 0 ∧ c = 0)
  (hnews : ∀ ad, ao = some ad → ∀ j u, news[j]? = some u → w.cell? (ad.add j) = some u) (h1 : ∀ u ∈ news, u.oneCell' = true)
  (h63 : n + m ≤ maxLen) (hbytes : (n + m) * bytes ≤ 140737488355328) (hbase : base ≤ w.heap.size)
  (h : ∀ v' w', w'.ownsRow base e size v' (n + m) (xs ++ news) → w.grownBy w' v.ownBlock → wpList P ops Q rest (a.put o.dst v') w') : wpList P ops Q (o :: rest) a w := by
 cases ao with
 | some ad => exact wpList_append_own w hgd s x t ho base e i z size bytes ht hi hz hsize hby hzs hsz v n xs hs hown ad m c news hx hl (hnews ad rfl) h1 h63 hbytes hbase fun v' w' h1 h2 _ => h v' w' h1 h2
 | none =>
  obtain ⟨rfl, rfl⟩ := hnone rfl
  have hn : news = [] := List.eq_nil_of_length_eq_zero (by simpa using hl)
  subst hn
  refine wpList_append_own_none hgd s x t ho base e i size ht hi v n xs hs hown hx ?_
  exact h v w (by simpa using hown) ⟨rfl, rfl, rfl, Nat.le_refl _, fun _ _ _ => rfl⟩
end
section
open Go.ChangeShapes Go.WideShapes Go.ChangeAt Go.RowKit
inductive Sh where
 | int (k : IntKind)
 | bool
 | str
 | unit
 | cat (a b : Sh)
 | slice (e : Sh)
def Sh.size : Sh → Nat
 | .int _ => 1
 | .bool => 1
 | .str => 1
 | .unit => 0
 | .cat a b => a.size + b.size
 | .slice _ => 1
def Sh.Sat (w : World) : Sh → List Value → Prop
 | .int k, cs => ∃ n, cs = [.int k n] ∧ (Lit.int k n).wf = true
 | .bool, cs => ∃ b, cs = [.bool b]
 | .str, cs => ∃ s : ByteArray, cs = [.string s] ∧ s.size ≤ maxLen
 | .unit, cs => cs = []
 | .cat a b, cs => ∃ xs ys, cs = xs ++ ys ∧ Sh.Sat w a xs ∧ Sh.Sat w b ys
 | .slice e, cs => ∃ A len cap, cs = [.slice A len cap] ∧ len ≤ cap ∧ cap ≤ maxLen ∧
   ((A = none ∧ len = 0 ∧ cap = 0) ∨ (len = 0 ∧ A ≠ none) ∨ ∃ b off, A = some ⟨b, off, none⟩ ∧ b < w.heap.size ∧
    ∀ i, i < len → ∃ cs', cs'.length = e.size ∧ (∀ j u, cs'[j]? = some u → w.cell? ⟨b, off + i * e.size + j, none⟩ = some u) ∧ Sh.Sat w e cs')
mutual
def shapeOf (P : Program) : Nat → TypeId → Option Sh
 | 0, _ => none
 | d + 1, t =>
  match P.underlying t with
  | some .bool => some .bool
  | some (.int k) => some (.int k)
  | some .string => some .str
  | some (.slice e) =>
   match shapeOf P d e with
   | some s => if s.size = P.cellsOf e ∧ 0 < s.size then some (.slice s) else none
   | none => none
  | some (.struct fs) => shapeFields P d 0 fs.toList (P.cellsOf t)
  | _ => none
def shapeFields (P : Program) : Nat → Nat → List Field → Nat → Option Sh
 | 0, _, _, _ => none
 | _ + 1, off, [], n => if off = n then some .unit else none
 | d + 1, off, f :: fs, n =>
  match shapeOf P d f.type with
  | some s =>
   if s.size = P.cellsOf f.type ∧ f.offset = off then
    match shapeFields P d (off + s.size) fs n with
    | some r => some (.cat s r)
    | none => none
   else none
  | none => none
end
theorem Sh.Sat.len {w : World} : ∀ {s : Sh} {cs : List Value}, s.Sat w cs → cs.length = s.size
 | .int _, _, ⟨_, e, _⟩ => by rw [e]; rfl
 | .bool, _, ⟨_, e⟩ => by rw [e]; rfl
 | .str, _, ⟨_, e, _⟩ => by rw [e]; rfl
 | .unit, _, e => by simp [Sh.Sat] at e; rw [e]; rfl
 | .cat a b, _, ⟨xs, ys, e, ha, hb⟩ => by rw [e, List.length_append, Sh.Sat.len ha, Sh.Sat.len hb]; rfl
 | .slice _, _, ⟨_, _, _, e, _⟩ => by rw [e]; rfl
section
variable {H : Type} {enc : TypeId × Value → H} {P : Program} {w : World} {base : Nat} {spare : Nat → Bool} {held : Bool}
mutual
theorem sat_of {d : Nat} {t : TypeId} {s : Sh} {fuel : Nat} {cs : List Value} {x : DataW H × List MemPlace} (hs : shapeOf P d t = some s) (h : DataW.trod enc P w base spare held fuel t cs = some x) : s.Sat w cs := by
 cases d with
 | zero => simp [shapeOf] at hs
 | succ d =>
  unfold shapeOf at hs
  split at hs
  ·rename_i ht
   injection hs with hs
   subst hs
   obtain ⟨b, rfl, _⟩ := DataW.trod_bool ht h
   exact ⟨b, rfl⟩
  ·rename_i k ht
   injection hs with hs
   subst hs
   obtain ⟨n, rfl, _, hw⟩ := DataW.trod_int ht h
   exact ⟨n, rfl, hw⟩
  ·rename_i ht
   injection hs with hs
   subst hs
   obtain ⟨b, rfl, _, hw⟩ := DataW.trod_string ht h
   exact ⟨b, rfl, hw⟩
  ·rename_i e ht
   split at hs
   ·rename_i s' hse
    split at hs
    ·rename_i hsz
     injection hs with hs
     subst hs
     rcases Deep.open_slice ht h with ⟨rfl, _⟩ | ⟨a, len, cap, m, n, D, Pl, rfl, hb, hl, hm, hmm, _, hi⟩
     ·exact ⟨none, 0, 0, rfl, Nat.le_refl _, by unfold maxLen; omega, .inl ⟨rfl, rfl, rfl⟩⟩
     ·refine ⟨some a, len, cap, rfl, hl, hm, .inr ?_⟩
      by_cases h0 : len = 0
      ·exact .inl ⟨h0, by simp⟩
      ·have hlm : len ≤ m := by rw [hmm]; split <;> omega
       have ha : a.spot = none ∧ a.block < w.heap.size := by
        obtain ⟨cs', hc, _⟩ := hi 0 (by omega)
        obtain ⟨_, hcl, hat⟩ := World.cells?_some hc
        have h1 := hat 0 (by omega)
        rw [List.getElem?_eq_getElem (by omega)] at h1
        rw [Deep.add_add] at h1
        have : a.add (0 * P.cellsOf e + 0) = a := by simp [Addr.add]
        rw [this] at h1
        exact ⟨World.cell?_spot h1, block_lt_of_cell h1⟩
       obtain ⟨b, off, sp⟩ := a
       obtain ⟨rfl, hbl⟩ := ha
       refine .inr ⟨b, off, rfl, hbl, fun i him => ?_⟩
       obtain ⟨cs', hc, ht'⟩ := hi i (by omega)
       obtain ⟨_, hcl, hat⟩ := World.cells?_some hc
       refine ⟨cs', by omega, fun j u hu => ?_, sat_of hse ht'⟩
       have hj : j < cs'.length := (List.getElem?_eq_some_iff.1 hu).1
       have h1 := hat j (by omega)
       rw [Deep.add_add, hu] at h1
       rw [← h1, hsz.1]
       have : (⟨b, off, none⟩ : Addr).add (i * P.cellsOf e + j) = ⟨b, off + i * P.cellsOf e + j, none⟩ := by
        unfold Addr.add
        split
        ·rename_i hz
         have e1 : i * P.cellsOf e = 0 := by omega
         have e2 : j = 0 := by omega
         rw [e1, e2]; rfl
        ·rw [Nat.add_assoc]
       rw [this]
    ·cases hs
   ·cases hs
  ·rename_i fs ht
   obtain ⟨xs, n, _, _, hlen, hxl, hf⟩ := DataW.trod_struct ht h
   refine sat_fields (off := 0) (pre := []) (fs := fs.toList) hs rfl hlen (xs := xs) (n := n) (fun i f hi => ?_) (by simpa using hxl)
   exact hf i f (by simpa using hi)
  ·cases hs
theorem sat_fields {d off N : Nat} {fs : List Field} {s : Sh} {pre cs : List Value} {n : Nat} {xs : List (DataW H × List MemPlace)} (hs : shapeFields P d off fs N = some s) (hoff : pre.length = off) (hlen : (pre ++ cs).length = N)
  (hf : ∀ (i : Nat) (f : Field), fs[i]? = some f → DataW.trod enc P w base spare held n f.type (((pre ++ cs).drop f.offset).take (P.cellsOf f.type)) = xs[i]?) (hx : xs.length = fs.length) : s.Sat w cs := by
 cases d with
 | zero => simp [shapeFields] at hs
 | succ d =>
  cases fs with
  | nil =>
   simp only [shapeFields] at hs
   split at hs
   ·injection hs with hs
    subst hs
    rw [List.length_append] at hlen
    exact List.length_eq_zero_iff.1 (by omega)
   ·cases hs
  | cons f fs =>
   simp only [shapeFields] at hs
   split at hs
   ·rename_i s1 h1
    split at hs
    ·rename_i hsz
     split at hs
     ·rename_i r hr
      injection hs with hs
      subst hs
      have h0 := hf 0 f rfl
      rw [List.getElem?_eq_getElem (by rw [hx]; simp)] at h0
      have hs1 := sat_of h1 h0
      have hl1 := hs1.len
      rw [hsz.2, ← hoff, List.drop_append_of_le_length (Nat.le_refl _), List.drop_length, List.nil_append] at hs1 hl1
      rw [← hsz.1] at hs1 hl1
      refine ⟨cs.take s1.size, cs.drop s1.size, (List.take_append_drop _ _).symm, hs1, ?_⟩
      refine sat_fields (off := off + s1.size) (pre := pre ++ cs.take s1.size) (xs := xs.tail) (n := n) hr (by rw [List.length_append, hl1, hoff]) (by rw [List.append_assoc, List.take_append_drop]; exact hlen) (fun i g hi => ?_) (by simp [hx])
      rw [List.append_assoc, List.take_append_drop]
      have := hf (i + 1) g hi
      rw [this]
      cases xs with
      | nil => simp at hx
      | cons y ys => simp
     ·cases hs
    ·cases hs
   ·cases hs
end
def VSat (w : World) (s : Sh) (agg : Bool) (v : Value) : Prop :=
 match agg with
 | true => ∃ cs, v = .agg (.mk cs) ∧ s.Sat w cs
 | false => s.Sat w [v]
def isAggT (P : Program) (t : TypeId) : Bool :=
 match P.underlying t with
 | some (.struct _) => true
 | some (.array _ _) => true
 | _ => false
theorem vsat_of {r : Reach} {b0 d : Nat} {t : TypeId} {s : Sh} {v : Value} {dd : DataW H} {p : List MemPlace} (hs : shapeOf P d t = some s) (hv : Value.okWide P w r b0 t v) (h : DataW.Trod enc P w base spare held t v dd p) : VSat w s (isAggT P t) v := by
 obtain ⟨fuel, h⟩ := h
 have h1 := sat_of hs h
 unfold Value.okWide at hv
 unfold VSat isAggT
 split at hv
 ·rename_i fs ht
  obtain ⟨cs, rfl, _, _⟩ := hv
  simp only [ht]
  exact ⟨cs.toList, rfl, h1⟩
 ·rename_i n e ht
  obtain ⟨cs, rfl, _, _⟩ := hv
  simp only [ht]
  exact ⟨cs.toList, rfl, h1⟩
 ·rename_i hn1 hn2
  have : (match P.underlying t with | some (.struct _) => true | some (.array _ _) => true | _ => false) = false := by
   split
   ·rename_i fs ht; exact absurd ht (hn1 fs)
   ·rename_i n e ht; exact absurd ht (hn2 n e)
   ·rfl
  rw [this]
  have hc : v.cells.toList = [v] := by
   cases v <;> first | rfl | skip
   exfalso
   unfold Cell.okWide at hv
   split at hv
   all_goals first | (simp [Cell.ok] at hv; done) | (exfalso; simp_all; done) | trace_state
  rw [hc] at h1
  exact h1
end
theorem list_of {α : Type} {n : Nat} {p : Nat → α → Prop} (h : ∀ i, i < n → ∃ x, p i x) : ∃ L : List α, L.length = n ∧ ∀ i (hi : i < L.length), p i L[i] := by
 induction n with
 | zero => exact ⟨[], rfl, fun i hi => by simp at hi⟩
 | succ n ih =>
  obtain ⟨L, hL, hp⟩ := ih fun i hi => h i (by omega)
  obtain ⟨x, hx⟩ := h n (by omega)
  refine ⟨L ++ [x], by simp [hL], fun i hi => ?_⟩
  by_cases hi' : i < L.length
  ·rw [List.getElem_append_left hi']; exact hp i hi'
  ·have : i = L.length := by simp at hi; omega
   subst this
   simp [hL, hx]
end
section
open Go.RowKit
def RdL (w : World) (lo hi : Nat) (A : Option Addr) (l : List Value) : Prop :=
 l = [] ∨ ∃ b off, A = some ⟨b, off, none⟩ ∧ lo ≤ b ∧ b < hi ∧ b < w.heap.size ∧ ∀ j u, l[j]? = some u → w.cell? ⟨b, off + j, none⟩ = some u
section
variable {w w' : World} {lo hi : Nat} {A : Option Addr} {l : List Value}
theorem RdL.keep (h : RdL w lo hi A l) (hs : w.heap.size ≤ w'.heap.size) (hk : ∀ b, lo ≤ b → b < hi → b < w.heap.size → w'.heap[b]? = w.heap[b]?) : RdL w' lo hi A l := by
 rcases h with h | ⟨b, off, e, h1, h2, h3, hc⟩
 ·exact .inl h
 ·refine .inr ⟨b, off, e, h1, h2, by omega, fun j u hu => ?_⟩
  have := hk b h1 h2 h3
  rw [← hc j u hu]
  unfold World.cell?
  rw [this]
theorem RdL.below {B : Nat} (h : RdL w lo hi A l) (hb : Below B w w') (hB : hi ≤ B ∨ w.heap.size ≤ B) : RdL w' lo hi A l :=
 h.keep hb.size fun b _ h2 h3 => hb.block b (by omega)
theorem RdL.next (h : RdL w lo hi A l) (hb : Below w.heap.size w w') : RdL w' lo hi A l := h.below hb (.inr (Nat.le_refl _))
theorem RdL.grown {row : Option Nat} (h : RdL w lo hi A l) (hb : w.grownBy w' row) (hr : ∀ g, row = some g → g < lo ∨ hi ≤ g) : RdL w' lo hi A l :=
 h.keep hb.size fun b h1 h2 h3 => hb.block b h3 (fun e => by have := hr b e.symm; omega)
theorem RdL.alloc (h : RdL w lo hi A l) (o : Obj) : RdL (w.alloc o) lo hi A l := h.next (bl w o)
theorem RdL.drewN (h : RdL w lo hi A l) (n : Nat) : RdL (w.drewN n) lo hi A l := h
theorem RdL.drew (h : RdL w lo hi A l) : RdL w.drew lo hi A l := h
theorem RdL.far (h : RdL w lo hi A l) {p : Addr} (hp : p.block < lo ∨ hi ≤ p.block) (u : Value) : RdL (w.setCell p u) lo hi A l :=
 h.keep (by simp) fun b h1 h2 _ => Below.heap_setCell w p u b (by omega)
theorem RdL.wide {lo' hi' : Nat} (h : RdL w lo hi A l) (h1 : lo' ≤ lo) (h2 : hi ≤ hi') : RdL w lo' hi' A l := by
 rcases h with h | ⟨b, off, e, g1, g2, g3, hc⟩
 ·exact .inl h
 ·exact .inr ⟨b, off, e, by omega, by omega, g3, hc⟩
theorem RdL.some (h : RdL w lo hi A l) (hn : 0 < l.length) : ∃ b off, A = some ⟨b, off, none⟩ ∧ lo ≤ b ∧ b < hi ∧ b < w.heap.size ∧ ∀ j u, l[j]? = some u → w.cell? ⟨b, off + j, none⟩ = some u := by
 rcases h with rfl | h
 ·cases hn
 ·exact h
theorem RdL.take (h : RdL w lo hi A l) (n : Nat) : RdL w lo hi A (l.take n) := by
 rcases h with rfl | ⟨b, off, e, h1, h2, h3, hc⟩
 ·exact .inl (by simp)
 ·refine .inr ⟨b, off, e, h1, h2, h3, fun j u hu => hc j u ?_⟩
  rw [List.getElem?_take] at hu
  split at hu
  ·exact hu
  ·cases hu
theorem RdL.drop {b off : Nat} (h : RdL w lo hi (.some ⟨b, off, none⟩) l) (n : Nat) : RdL w lo hi (.some ⟨b, off + n, none⟩) (l.drop n) := by
 rcases h with rfl | ⟨b', off', e, h1, h2, h3, hc⟩
 ·exact .inl (by simp)
 ·injection e with e
  injection e with e1 e2
  subst e1 e2
  refine .inr ⟨b, off + n, rfl, h1, h2, h3, fun j u hu => ?_⟩
  rw [List.getElem?_drop] at hu
  rw [Nat.add_assoc]
  exact hc _ u hu
theorem RdL.news (h : RdL w lo hi A l) : ∀ ad, A = Option.some ad → ∀ j u, l[j]? = Option.some u → w.cell? (ad.add j) = Option.some u := by
 rintro ad rfl j u hu
 rcases h with rfl | ⟨b, off, e, h1, h2, h3, hc⟩
 ·simp at hu
 ·injection e with e
  subst e
  rw [add_off]
  exact hc j u hu
end
theorem new_rd (w : World) (t : TypeId) (l : List Value) : RdL (w.alloc (.cells l.toArray t)) w.heap.size (w.heap.size + 1) (some ⟨w.heap.size, 0, none⟩) l :=
 .inr ⟨_, 0, rfl, Nat.le_refl _, Nat.lt_succ_self _, by simp, fun j u hu => by rw [Nat.zero_add]; exact ((Blk.mk w t l).cell j).trans hu⟩
theorem own_rd {w : World} {base n size : Nat} {e : TypeId} {v : Value} {l : List Value} (h : w.ownsRow base e size v n l) :
  ∃ A cap, v = .slice A n cap ∧ RdL w base w.heap.size A l ∧ n ≤ cap ∧ cap ≤ maxLen ∧ (A = none → n = 0 ∧ cap = 0) := by
 obtain ⟨hl, h⟩ := h
 rcases h with ⟨rfl, h0⟩ | ⟨g, cap, cur, rfl, hb, hg, hn, hm, hs, ht⟩
 ·exact ⟨none, 0, by rw [h0], .inl (List.eq_nil_of_length_eq_zero (by rw [hl, h0]; simp)), by omega, by simp [maxLen], fun _ => ⟨h0, rfl⟩⟩
 ·have hlt : g < w.heap.size := by
   rcases Nat.lt_or_ge g w.heap.size with h' | h'
   ·exact h'
   ·rw [Array.getElem?_eq_none h'] at hg; cases hg
  refine ⟨_, cap, rfl, .inr ⟨g, 0, rfl, hb, hlt, hlt, fun j u hu => ?_⟩, hn, hm, (fun h => by cases h)⟩
  rw [Nat.zero_add, cell_of_row w g j cur _ _ hg, ← Array.getElem?_toList]
  have hj : j < n * size := by
   rcases Nat.lt_or_ge j (n * size) with h' | h'
   ·exact h'
   ·rw [List.getElem?_eq_none (by omega)] at hu; cases hu
  have := congrArg (fun x => x[j]?) ht
  simp only [List.getElem?_take, hj, if_true] at this
  rw [this, hu]
theorem own_next {w w' : World} {base n size : Nat} {e : TypeId} {v : Value} {l : List Value} (h : w.ownsRow base e size v n l) (hb : Below w.heap.size w w') : w'.ownsRow base e size v n l :=
 h.kept (row := none) ⟨hb.os, hb.tape, hb.output, hb.size, fun i hi _ => hb.block i hi⟩ (by cases v.ownBlock <;> simp)
theorem own_down {w : World} {base base' : Nat} {e : TypeId} {size n : Nat} {v : Value} {xs : List Value} (h : w.ownsRow base e size v n xs) (hb : base' ≤ base) : w.ownsRow base' e size v n xs := by
 refine ⟨h.1, ?_⟩
 rcases h.2 with h2 | ⟨g, cap, cur, e1, e2, r⟩
 ·exact .inl h2
 ·exact .inr ⟨g, cap, cur, e1, Nat.le_trans hb e2, r⟩
theorem only_below {a w : World} (h : Below a.heap.size a w) (row : Option Nat) : a.grownBy w row := ⟨h.os, h.tape, h.output, h.size, fun i hi _ => h.block i hi⟩
theorem only_refl (w : World) (row : Option Nat) : w.grownBy w row := ⟨rfl, rfl, rfl, Nat.le_refl _, fun _ _ _ => rfl⟩
theorem only_trans {a b c : World} {row : Option Nat} (h : a.grownBy b row) (k : b.grownBy c row) : a.grownBy c row :=
 ⟨k.os.trans h.os, k.tape.trans h.tape, k.output.trans h.output, Nat.le_trans h.size k.size, fun i hi hr => (k.block i (Nat.lt_of_lt_of_le hi h.size) hr).trans (h.block i hi hr)⟩
theorem only_set {a w : World} {g : Nat} (h : a.grownBy w (some g)) (i : Nat) (u : Value) : a.grownBy (w.setCell ⟨g, i, none⟩ u) (some g) :=
 ⟨h.os, h.tape, h.output, by simpa using h.size, fun k hk hr => (Below.heap_setCell w ⟨g, i, none⟩ u k (by intro e; exact hr (by rw [e]))).trans (h.block k hk hr)⟩
theorem only_drewN {a w : World} {row : Option Nat} (h : a.grownBy w row) (n : Nat) : a.grownBy (w.drewN n) row := ⟨h.os, h.tape, h.output, h.size, h.block⟩
theorem only_drew {a w : World} {row : Option Nat} (h : a.grownBy w row) : a.grownBy w.drew row := ⟨h.os, h.tape, h.output, h.size, h.block⟩
theorem bgrow {B g : Nat} {a w w' : World} (h : Below B a w) (hg : w.grownBy w' (some g)) (hB : B ≤ w.heap.size) (hr : B ≤ g) : Below B a w' := h.grown hg hB (fun k hk => by injection hk with hk; omega)
section
variable {α : Type}
theorem flatMap_len (f : α → List Value) (size : Nat) (hf : ∀ x, (f x).length = size) (L : List α) : (L.flatMap f).length = L.length * size := by
 induction L with
 | nil => simp
 | cons x t ih => simp [hf, ih, Nat.add_mul, Nat.add_comm]
theorem flatMap_at (f : α → List Value) (size : Nat) (hf : ∀ x, (f x).length = size) : ∀ (L : List α) (i : Nat) (h : i < L.length) (j : Nat), j < size → (L.flatMap f)[i * size + j]? = (f L[i])[j]?
 | [], i, h, _, _ => by simp at h
 | x :: t, 0, _, j, hj => by
  rw [List.flatMap_cons, List.getElem?_append_left (by rw [hf]; omega)]
  simp
 | x :: t, i + 1, h, j, hj => by
  rw [List.flatMap_cons, List.getElem?_append_right (by rw [hf, Nat.add_mul]; omega), hf]
  have e : (i + 1) * size + j - size = i * size + j := by rw [Nat.add_mul]; omega
  rw [e, flatMap_at f size hf t i (by simpa using h) j hj]
  simp
theorem flatMap_one (g : α → Value) (L : List α) : L.flatMap (fun x => [g x]) = L.map g := by
 induction L with
 | nil => rfl
 | cons x t ih => simp [ih]
theorem RdL.elem {w : World} {lo hi b off : Nat} (f : α → List Value) (size : Nat) (hf : ∀ x, (f x).length = size) {L : List α} (h : RdL w lo hi (Option.some ⟨b, off, none⟩) (L.flatMap f)) {i : Nat} (hi' : i < L.length) :
  ∀ j u, j < size → (f L[i])[j]? = Option.some u → w.cell? ⟨b, off + i * size + j, none⟩ = Option.some u := by
 intro j u hj hu
 rw [← flatMap_at f size hf L i hi' j hj] at hu
 rcases h with h | ⟨b', off', e, _, _, _, hc⟩
 ·rw [h] at hu; cases hu
 ·injection e with e
  injection e with e1 e2
  subst e1 e2
  rw [Nat.add_assoc]
  exact hc _ u hu
theorem open_slice_of {W : World} (f : α → List Value) (p : α → Prop) (e : Sh) (size : Nat) (hsz : e.size = size) (hf : ∀ x, (f x).length = size) (hpos : 0 < size)
  (hop : ∀ cs, e.Sat W cs → ∃ x, cs = f x ∧ p x) {v : Value} (h : VSat W (.slice e) false v) :
  ∃ A L cap, v = .slice A (List.length L) cap ∧ RdL W 0 W.heap.size A (L.flatMap f) ∧ (∀ x ∈ L, p x) ∧ L.length ≤ cap ∧ cap ≤ maxLen ∧ (A = none → L.length = 0 ∧ cap = 0) := by
 obtain ⟨A, len, cap, ev, hl, hm, hc⟩ := h
 injection ev with ev
 subst ev
 by_cases h0 : len = 0
 ·subst h0
  refine ⟨A, [], cap, rfl, .inl rfl, (fun x hx => by cases hx), hl, hm, fun hA => ?_⟩
  rcases hc with ⟨_, _, h⟩ | ⟨_, h⟩ | ⟨b, off, h, _⟩
  ·exact ⟨rfl, h⟩
  ·exact absurd hA h
  ·rw [hA] at h; cases h
 rcases hc with ⟨_, h0', _⟩ | h0' | ⟨b, off, rfl, hb, hi⟩
 ·exact absurd h0' h0
 ·exact absurd h0'.1 h0
 ·have hi' : ∀ i, i < len → ∃ x : α, (∀ j u, (f x)[j]? = some u → W.cell? ⟨b, off + i * size + j, none⟩ = some u) ∧ p x := by
   intro i hil
   obtain ⟨cs, _, hcs, hs⟩ := hi i hil
   obtain ⟨x, rfl, hx⟩ := hop cs hs
   rw [hsz] at hcs
   exact ⟨x, hcs, hx⟩
  obtain ⟨L, rfl, hL⟩ := list_of hi'
  refine ⟨_, L, cap, rfl, .inr ⟨b, off, rfl, Nat.zero_le _, hb, hb, fun j u hu => ?_⟩, fun x hx => ?_, hl, hm, (fun h => by cases h)⟩
  ·have hj : j < L.length * size := by
    rw [← flatMap_len f size hf]
    exact (List.getElem?_eq_some_iff.1 hu).1
   have hq : j / size < L.length := (Nat.div_lt_iff_lt_mul hpos).2 hj
   have e1 : j = j / size * size + j % size := by rw [Nat.mul_comm]; exact (Nat.div_add_mod j size).symm
   rw [e1, flatMap_at f size hf L _ hq _ (Nat.mod_lt _ hpos)] at hu
   have := (hL _ hq).1 _ u hu
   rw [Nat.add_assoc, ← e1] at this
   exact this
  ·obtain ⟨i, hi2, rfl⟩ := List.getElem_of_mem hx
   exact (hL i hi2).2
end
def Apart (v u : Value) : Prop := ∀ b, v.ownBlock = some b → u.ownBlock ≠ some b
theorem Apart.symm {v u : Value} (h : Apart v u) : Apart u v := fun b hb hv => h b hv hb
theorem own_lt {w : World} {base n size : Nat} {e : TypeId} {v : Value} {l : List Value} (h : w.ownsRow base e size v n l) {b : Nat} (hb : v.ownBlock = some b) : base ≤ b ∧ b < w.heap.size := by
 obtain ⟨_, h⟩ := h
 rcases h with ⟨rfl, _⟩ | ⟨g, cap, cur, rfl, hbs, hg, _⟩
 ·cases hb
 ·simp only [Value.ownBlock, Option.some.injEq] at hb
  subst hb
  refine ⟨hbs, ?_⟩
  rcases Nat.lt_or_ge g w.heap.size with h' | h'
  ·exact h'
  ·rw [Array.getElem?_eq_none h'] at hg; cases hg
theorem Apart.step {w : World} {base n size : Nat} {e : TypeId} {v v' u : Value} {l : List Value} (h : Apart v u) (hu : w.ownsRow base e size u n l) (hv : v'.ownBlock = v.ownBlock ∨ ∀ b, v'.ownBlock = some b → w.heap.size ≤ b) : Apart v' u := by
 intro b hb hub
 have := (own_lt hu hub).2
 rcases hv with hv | hv
 ·exact h b (hv ▸ hb) hub
 ·have := hv b hb
  omega
theorem own_kept {w w' : World} {base n size : Nat} {e : TypeId} {v u : Value} {l : List Value} (h : w.ownsRow base e size u n l) (hg : w.grownBy w' v.ownBlock) (ha : Apart v u) : w'.ownsRow base e size u n l :=
 h.kept hg (by
  cases hu : u.ownBlock with
  | none => exact .inl rfl
  | some b => exact .inr (fun e => ha b e.symm hu))
theorem own_same {w w' : World} {base n size : Nat} {e : TypeId} {u : Value} {l : List Value} (h : w.ownsRow base e size u n l) (hk : ∀ b, u.ownBlock = some b → w'.heap[b]? = w.heap[b]?) : w'.ownsRow base e size u n l := by
 refine ⟨h.1, ?_⟩
 rcases h.2 with h2 | ⟨g, cap, cur, rfl, hb, hg, r⟩
 ·exact .inl h2
 ·exact .inr ⟨g, cap, cur, rfl, hb, (hk g rfl).trans hg, r⟩
theorem wpList_append_mine {P : Program} {w : World} {ops : Array Oper} {rest : List Oper} {o : Oper} {a : Act} {Q : Exit → Act → World → Prop} (hgd : o.guard = none) (s x : Operand) (t : TypeId)
  (ho : o.op = .call { callee := .builtin .append, args := #[s, x], argTypes := #[t, t] })
  (base : Nat) (e : TypeId) (i : TypeInfo) (z : Value) (size bytes : Nat) (ht : P.underlying t = some (.slice e)) (hi : P.info? e = some i) (hz : i.zero = some z)
  (hsize : i.size = size) (hby : i.bytes = bytes) (hzs : z.cells.size = size) (hsz : 0 < size)
  (v : Value) (n : Nat) (xs : List Value) (hs : a.eval s = v) (hown : w.ownsRow base e size v n xs)
  (ao : Option Addr) (m c : Nat) (news : List Value) (hx : a.eval x = .slice ao m c) (hl : news.length = m * size) (hnone : ao = none → m = 0 ∧ c = 0)
  (hnews : ∀ ad, ao = some ad → ∀ j u, news[j]? = some u → w.cell? (ad.add j) = some u) (h1 : ∀ u ∈ news, u.oneCell' = true)
  (h63 : n + m ≤ maxLen) (hbytes : (n + m) * bytes ≤ 140737488355328) (hbase : base ≤ w.heap.size)
  (h : ∀ v' w', w'.ownsRow base e size v' (n + m) (xs ++ news) → w.grownBy w' v.ownBlock → (v'.ownBlock = v.ownBlock ∨ ∀ b, v'.ownBlock = some b → w.heap.size ≤ b) → wpList P ops Q rest (a.put o.dst v') w') : wpList P ops Q (o :: rest) a w := by
 cases ao with
 | some ad => exact wpList_append_own_at _ hgd s x t ho base e i z size bytes ht hi hz hsize hby hzs hsz v n xs hs hown ad m c news hx hl (hnews ad rfl) h1 h63 hbytes hbase fun v' w' h1 h2 _ h4 => h v' w' h1 h2 (h4.imp id fun e b hb => by rw [e] at hb; injection hb with hb; omega)
 | none =>
  obtain ⟨rfl, rfl⟩ := hnone rfl
  have hn : news = [] := List.eq_nil_of_length_eq_zero (by simpa using hl)
  subst hn
  refine wpList_append_own_none hgd s x t ho base e i size ht hi v n xs hs hown hx ?_
  exact h v w (by simpa using hown) ⟨rfl, rfl, rfl, Nat.le_refl _, fun _ _ _ => rfl⟩ (.inl rfl)
end
section
open Go
section
variable {P : Program} {ops : Array Oper} {md : Region.Mode} {C : World → Prop} {l n : Nat}
def noDefer (ops : Array Oper) : Bool := ops.all fun o => match o.op with | .defer _ => false | _ => true
theorem noDefer_spec (h : noDefer ops = true) {i : Nat} {o : Oper} (ho : ops[i]? = some o) : ∀ c, o.op ≠ .defer c := by
 intro c e
 obtain ⟨hi, rfl⟩ := Array.getElem?_eq_some_iff.1 ho
 have := Array.all_eq_true.1 h i hi
 simp [e] at this
theorem op_round {o : Oper} {a : Act} {K : Act → Prop} {K' : Act → World → Prop} {Q' : Exit → Act → World → Prop} {w : World} (hp : ∀ c, o.op ≠ .defer c) (hw : C w) (h : ∀ a w', C w' → K a → K' a w') (hh : o.quiet P a C K) :
  o.wpIn (Fence.wide.inRound l) n P a w K' Q' := by
 obtain ⟨v, h1, h2⟩ := hh
 have h3 : o.quietAt P a C w v := h1 w hw
 refine ⟨fun _ _ => trivial, ?_⟩
 rw [Oper.semAt_eq _ _ _ hp]
 unfold Oper.quietAt at h3
 revert h3
 generalize (execOp a.eval o).run P w = r
 intro h3
 cases r with
 | halt _ _ => exact h3.elim
 | ok x w' =>
  cases x with
  | value u => obtain ⟨rfl, rfl⟩ := h3; exact h _ _ hw h2
  | skip => obtain ⟨rfl, rfl⟩ := h3; exact h _ _ hw h2
  | enter f args =>
   obtain ⟨rfl, hc⟩ := h3
   refine ⟨(fun h => by cases h), ?_⟩
   show CallsIn Fence.wide _ _ _ _ _ _
   exact callsIn_wide.2 (hc.mono fun e w'' ⟨he, hw''⟩ => by subst he; exact h _ _ hw'' h2)
  | _ => exact h3.elim
end
end
section
open Go
section
variable {P : Program} {C : World → Prop} {l n : Nat}
def boolLists : Nat → List (List Bool)
 | 0 => [[]]
 | k + 1 => (boolLists k).flatMap fun t => [false :: t, true :: t]
theorem mem_boolLists : ∀ (k : Nat) (t : List Bool), t.length = k → t ∈ boolLists k
 | 0, [], _ => by simp [boolLists]
 | k + 1, b :: t, h => by
  simp only [boolLists, List.mem_flatMap]
  exact ⟨t, mem_boolLists k t (by simpa using h), by cases b <;> simp⟩
def tailB (hs : List Oper) (o : Oper) : Bool :=
 (boolLists hs.length).all fun t => Region.ready .any (hs ++ [o]).toArray (t ++ [false]).toArray == (if Region.ready .any hs.toArray t.toArray == [] then [hs.length] else Region.ready .any hs.toArray t.toArray)
def endB (hs : List Oper) (o : Oper) : Bool := (boolLists hs.length).all fun t => Region.ready .any (hs ++ [o]).toArray (t ++ [true]).toArray == [] || !(Region.ready .any hs.toArray t.toArray == [])
theorem tailB_spec {hs : List Oper} {o : Oper} (h : tailB hs o = true) (t : List Bool) (ht : t.length = hs.length) :
  Region.ready .any (hs ++ [o]).toArray (t ++ [false]).toArray = if Region.ready .any hs.toArray t.toArray = [] then [hs.length] else Region.ready .any hs.toArray t.toArray := by
 have := List.all_eq_true.1 h t (mem_boolLists _ t ht)
 rw [beq_iff_eq] at this
 rw [this]
 by_cases h0 : Region.ready .any hs.toArray t.toArray = [] <;> simp [h0]
theorem endB_spec {hs : List Oper} {o : Oper} (h : endB hs o = true) (t : List Bool) (ht : t.length = hs.length) (h0 : Region.ready .any hs.toArray t.toArray = []) : Region.ready .any (hs ++ [o]).toArray (t ++ [true]).toArray = [] := by
 have := List.all_eq_true.1 h t (mem_boolLists _ t ht)
 rw [h0] at this
 simpa using this
theorem noGuard_wanted {ops : Array Oper} {a : Array Value} {o : Oper} (h : o.guard = none) : Region.wanted o (yielded ops a) = true := by
 unfold Region.wanted
 rw [h]
def plainB (ops : List Oper) : Bool := ops.all fun o => o.guard.isNone
theorem plainB_spec {ops : List Oper} (h : plainB ops = true) {i : Nat} {o : Oper} (ho : ops[i]? = some o) : o.guard = none := by
 have := List.all_eq_true.1 h o (List.mem_of_getElem? ho)
 simpa using this
theorem ready_lt {ops : Array Oper} {t : Array Bool} {i : Nat} (h : i ∈ Region.ready .any ops t) : i < ops.size := by
 unfold Region.ready at h
 exact List.mem_range.1 (List.mem_filter.1 h).1
theorem set_push (t : List Bool) (b : Bool) (i : Nat) (h : i < t.length) : (t ++ [b]).toArray.setIfInBounds i true = (t.set i true ++ [b]).toArray := by
 simp [h]
theorem any_round_tail {hs : List Oper} {o : Oper} (hd : noDefer (hs ++ [o]).toArray = true) (hp : plainB (hs ++ [o]) = true) (ht : tailB hs o = true) (he : endB hs o = true) {Qm : Act → Prop} {Q' : Exit → Act → World → Prop}
  (hQ : ∀ a w, C w → Qm a → o.wpIn (Fence.wide.inRound l) n P a w (fun a' w' => Q' .normal a' w') Q') : ∀ (fuel : Nat) (t : List Bool) (a : Act) (w : World), t.length = hs.length → C w →
  wpAnyQ P .any hs.toArray C Qm fuel t.toArray a → wpAnyIn (Fence.wide.inRound l) n P .any (hs ++ [o]).toArray Q' (fuel + 1) (t ++ [false]).toArray a w := by
 have hlast : (hs ++ [o]).toArray[hs.length]? = some o := by simp
 have fin : ∀ (fuel : Nat) (t : List Bool) (a : Act) (w : World), t.length = hs.length → C w → Region.ready .any hs.toArray t.toArray = [] → Qm a → wpAnyIn (Fence.wide.inRound l) n P .any (hs ++ [o]).toArray Q' (fuel + 1) (t ++ [false]).toArray a w := fun fuel t a w hl hw h0 hq => by
  have hr := tailB_spec ht t hl
  rw [if_pos h0] at hr
  refine ⟨fun e => (by rw [hr] at e; cases e), fun i hi => ?_⟩
  rw [hr, List.mem_singleton] at hi
  subst hi
  unfold wpOpIn
  rw [hlast]
  dsimp only
  rw [noGuard_wanted (plainB_spec hp (i := hs.length) (by simp)), if_pos rfl]
  refine Oper.wpIn_mono (fun a' w' hq' => ?_) (hQ a w hw hq)
  have hs2 : (t ++ [false]).toArray.setIfInBounds hs.length true = (t ++ [true]).toArray := by
   simp [← hl]
  rw [hs2]
  have hz := endB_spec he t hl h0
  cases fuel with
  | zero => exact ⟨hz, hq'⟩
  | succ k => exact ⟨fun _ => hq', fun i hi => (by rw [hz] at hi; cases hi)⟩
 intro fuel
 induction fuel with
 | zero => exact fun t a w hl hw h => fin 0 t a w hl hw h.1 h.2
 | succ fuel ih =>
  intro t a w hl hw h
  by_cases h0 : Region.ready .any hs.toArray t.toArray = []
  ·exact fin (fuel + 1) t a w hl hw h0 (h.1 h0)
  ·have hr := tailB_spec ht t hl
   rw [if_neg h0] at hr
   refine ⟨fun e => absurd (by rw [hr] at e; exact e) h0, fun i hi => ?_⟩
   rw [hr] at hi
   have h1 := h.2 i hi
   have hlt : i < hs.length := by simpa using ready_lt hi
   have ho : hs.toArray[i]? = some hs[i] := by simp [hlt]
   have ho2 : (hs ++ [o]).toArray[i]? = some hs[i] := by simp [List.getElem?_append, hlt]
   have hg : hs[i].guard = none := plainB_spec hp (i := i) (by rw [List.getElem?_append_left hlt]; simp)
   unfold qOp at h1
   unfold wpOpIn
   rw [ho] at h1
   rw [ho2]
   simp only [noGuard_wanted hg, if_true] at h1 ⊢
   refine op_round (noDefer_spec hd ho2) hw (fun a' w' hw' h2 => ?_) h1
   rw [set_push t false i (by omega)]
   exact ih (t.set i true) a' w' (by simpa using hl) hw' (by simpa using h2)
theorem region_round_tail {id : Nat} {Q : Exit → Act → World → Prop} {a : Act} {w : World} (hs : List Oper) (o : Oper) (hm : P.follows .mixedOrders = true) (hB : Region.lexB .any hs.toArray = true) (hd : noDefer (hs ++ [o]).toArray = true) (hp : plainB (hs ++ [o]) = true) (ht : tailB hs o = true) (he : endB hs o = true)
  (h : wpQuiet P hs.toArray (fun w' => ∃ n, w' = w.drewN n) (fun a' => ∀ w', (∃ n, w' = w.drewN n) → o.wpIn (Fence.wide.inRound l) n P a' w' (fun a'' w'' => Q .normal a'' w'') Q) hs a) : (Code.region id (hs ++ [o]).toArray true).wpIn (Fence.wide.inRound l) n P Q a w := by
 simp only [Region.lexB, Bool.and_eq_true] at hB
 refine wpIn_region_any hm ?_
 have h1 := wpAnyQ_lex (C := fun w' => ∃ n, w' = w.drewN n) (md := .any) hB.1 hs 0 (Array.replicate hs.toArray.size false) a (by simp) (by simpa using hB.2) h
 have h2 := any_round_tail (n := n) (l := l) (C := fun w' => ∃ n, w' = w.drewN n) hd hp ht he (Qm := fun a' => ∀ w', (∃ n, w' = w.drewN n) → o.wpIn (Fence.wide.inRound l) n P a' w' (fun a'' w'' => Q .normal a'' w'') Q) (fun a w hw hq => hq w hw) hs.length (List.replicate hs.length false) a (w.drewN 1) (by simp) ⟨1, rfl⟩ (by simpa using h1)
 have e : (List.replicate hs.length false ++ [false]).toArray = Array.replicate (hs ++ [o]).toArray.size false := by
  rw [← List.replicate_succ']
  simp
 rw [e] at h2
 have e3 : (hs ++ [o]).toArray.size = hs.length + 1 := by simp
 rw [e3] at h2 ⊢
 exact h2
theorem wpQuiet_mono {ops : Array Oper} {C : World → Prop} {Q Q' : Act → Prop} (h : ∀ a, Q a → Q' a) {os : List Oper} {a : Act} (hq : wpQuiet P ops C Q os a) : wpQuiet P ops C Q' os a := by
 induction os generalizing a with
 | nil => exact h _ hq
 | cons o os ih =>
  simp only [wpQuiet] at hq ⊢
  split
  ·rename_i hw
   rw [if_pos hw] at hq
   obtain ⟨v, h1, h2⟩ := hq
   exact ⟨v, h1, ih h2⟩
  ·rename_i hw
   rw [if_neg hw] at hq
   exact ih hq
theorem region_round_tailL {id : Nat} {Q : Exit → Act → World → Prop} {a : Act} {w : World} (hs : List Oper) (o : Oper) (hm : P.follows .mixedOrders = true) (hB : Region.lexB .any hs.toArray = true) (hd : noDefer (hs ++ [o]).toArray = true) (hp : plainB (hs ++ [o]) = true) (ht : tailB hs o = true) (he : endB hs o = true)
  (h : wpQuiet P hs.toArray (fun w' => ∃ n, w' = w.drewN n) (fun a' => ∀ w', (∃ n, w' = w.drewN n) → wpListIn (Fence.wide.inRound l) n P (hs ++ [o]).toArray Q [o] a' w') hs a) : (Code.region id (hs ++ [o]).toArray true).wpIn (Fence.wide.inRound l) n P Q a w := by
 refine region_round_tail hs o hm hB hd hp ht he (wpQuiet_mono (fun a' h' w' hw' => ?_) h)
 have := h' w' hw'
 unfold wpListIn at this
 rw [noGuard_wanted (plainB_spec hp (i := hs.length) (by simp)), if_pos rfl] at this
 exact this
end
end
section
open Go.RowKit
section
variable {P : Program} {md : Region.Mode} {Q : Exit → Act → World → Prop} {ops : Array Oper} {tl : List Oper}
def TailPost (P : Program) (ops : Array Oper) (Q : Exit → Act → World → Prop) (tl : List Oper) : Exit → Act → World → Prop
 | .normal, a, w => wpList P ops Q tl a w
 | e, a, w => Q e a w
theorem upon_tail {o : Oper} {a : Act} {K K' : Act → World → Prop} {r : Result Next} (hK : ∀ a w, K' a w → K a w) (h : o.upon P a K' (TailPost P ops Q tl) r) : o.upon P a K Q r := by
 cases r with
 | ok n w' =>
  cases n <;> simp only [Oper.upon] at h ⊢
  case value u => exact hK _ _ h
  case skip => exact hK _ _ h
  case defer d => exact hK _ _ h
  case enter f args =>
   refine Calls.mono h fun e w'' he => ?_
   cases e with
   | returned u => exact hK _ _ he
   | panicked c => exact he
   | outgrown => exact he
  case row row args => exact Rows.mono h fun u w'' he => hK _ _ he
 | halt x w' =>
  cases x <;> simp only [Oper.upon] at h ⊢
  case panic u => exact h
theorem wpOp_tail {l : List Oper} {n i : Nat} {a : Act} {w : World} {K K' : Act → World → Prop} (hin : i < n) (hnl : n < l.length) (hg : l.all (fun o => o.guard.isNone) = true) (hK : ∀ a w, K' a w → K a w)
  (h : wpOp P (l.take n).toArray (TailPost P l.toArray Q tl) i K' a w) : wpOp P l.toArray Q i K a w := by
 have hi : i < l.length := by omega
 have e1 : (l.take n).toArray[i]? = some l[i] := by simp [hin, hi]
 have e2 : l.toArray[i]? = some l[i] := by simp [hi]
 have hgd : l[i].guard = none := by
  have := List.all_eq_true.1 hg l[i] (List.getElem_mem hi)
  simpa using this
 unfold wpOp at *
 rw [e1] at h
 rw [e2]
 simp only [Region.wanted, hgd, if_true] at h ⊢
 rcases h with h | ⟨h1, h2⟩
 ·exact .inl (upon_tail hK h)
 ·exact .inr ⟨h1, h2⟩
def lowB (md : Region.Mode) (l : List Oper) (n : Nat) : Bool :=
 (List.range n).all fun i => match l[i]? with
  | some o => o.after.all fun e => !Region.binds md e || decide (e.on < i)
  | none => false
theorem getD_app {n m i : Nat} {x : Bool} {l : Array Bool} (hs : l.size = n) (hi : i < n) : (l ++ Array.replicate m false).getD i x = l.getD i x := by
 have h1 : i < l.size := by omega
 rw [Array.getD_eq_getD_getElem?, Array.getD_eq_getD_getElem?, Array.getElem?_append_left h1]
theorem set_up {l : Array Bool} {i k : Nat} (h : l.getD k true = true) : (l.setIfInBounds i true).getD k true = true := by
 by_cases e : i = k
 ·subst e
  rw [Array.getD_eq_getD_getElem?]
  rcases Nat.lt_or_ge i l.size with h' | h'
  ·simp [h']
  ·simp
 ·rw [getD_set_ne true e]; exact h
theorem set_app {n m i : Nat} {l : Array Bool} (hs : l.size = n) (hi : i < n) : (l ++ Array.replicate m false).setIfInBounds i true = l.setIfInBounds i true ++ Array.replicate m false := by
 rw [Array.setIfInBounds_append, if_pos (by omega)]
theorem ready_low {md : Region.Mode} {l : List Oper} {n : Nat} {listed : Array Bool} (hnl : n < l.length) (hlow : lowB md l n = true) (hs : listed.size = n) {i : Nat} (hi : i < n) :
  i ∈ Region.ready md l.toArray (listed ++ Array.replicate (l.length - n) false) ↔ i ∈ Region.ready md (l.take n).toArray listed := by
 have e1 : (l.take n).toArray[i]? = l.toArray[i]? := by simp [hi]
 have hlo := List.all_eq_true.1 hlow i (List.mem_range.2 hi)
 rw [mem_ready, mem_ready, e1, getD_app hs hi]
 refine and_congr Iff.rfl ?_
 constructor
 ·rintro ⟨o, ho, h⟩
  have ho' : l[i]? = some o := by simpa using ho
  rw [ho'] at hlo
  refine ⟨o, ho, fun e he hb => ?_⟩
  have := Array.all_eq_true'.1 hlo e he
  simp only [hb, Bool.not_true, Bool.false_or, decide_eq_true_eq] at this
  rw [← getD_app (m := l.length - n) hs (by omega)]
  exact h e he hb
 ·rintro ⟨o, ho, h⟩
  have ho' : l[i]? = some o := by simpa using ho
  rw [ho'] at hlo
  refine ⟨o, ho, fun e he hb => ?_⟩
  have := Array.all_eq_true'.1 hlo e he
  simp only [hb, Bool.not_true, Bool.false_or, decide_eq_true_eq] at this
  rw [getD_app (m := l.length - n) hs (by omega)]
  exact h e he hb
theorem head_ready {md : Region.Mode} {l : List Oper} {n : Nat} {listed : Array Bool} (hnl : n < l.length) (hlow : lowB md l n = true) (hs : listed.size = n) :
  ∀ i, i < n → listed.getD i true = false → ∃ j, j ∈ Region.ready md (l.take n).toArray listed := by
 intro i
 induction i using Nat.strongRecOn with
 | _ i ih =>
  intro hi hu
  have hlo := List.all_eq_true.1 hlow i (List.mem_range.2 hi)
  have hi' : i < l.length := by omega
  have ho : l[i]? = some l[i] := List.getElem?_eq_getElem hi'
  rw [ho] at hlo
  by_cases hall : ∀ e ∈ l[i].after, Region.binds md e = true → listed.getD e.on false = true
  ·exact ⟨i, mem_ready.2 ⟨hu, l[i], by simp [hi, hi'], hall⟩⟩
  ·simp only [Classical.not_forall] at hall
   obtain ⟨e, he, hb, hne⟩ := hall
   have := Array.all_eq_true'.1 hlo e he
   simp only [hb, Bool.not_true, Bool.false_or, decide_eq_true_eq] at this
   refine ih e.on this (by omega) (getD_in (by omega) ?_)
   cases h : listed.getD e.on false with
   | true => exact absurd h hne
   | false => rfl
def sinkX (md : Region.Mode) (ops : Array Oper) (n : Nat) (L : Array Bool) : Bool :=
 (List.range n).all fun i => L.getD i true || (List.range (n + 1)).any fun j => decide (i < j) && Region.waitsFor md ops j i
theorem tail_waitsX {md : Region.Mode} {ops : Array Oper} {n : Nat} {L listed : Array Bool} (hs : sinkX md ops n L = true) (hc : Region.chainB md ops n = true) (hn : n < ops.size) (hL : ∀ i, i < n → L.getD i true = true → listed.getD i true = true) (inv : HeadInv md ops n listed) :
  ∀ (d i : Nat), n - i = d → i < n → listed.getD i true = false → ∀ t, n ≤ t → t ∉ Region.ready md ops listed := by
 intro d
 induction d using Nat.strongRecOn with
 | _ d ih =>
  intro i hd hi hun t ht hr
  obtain ⟨_, ot, hot, hall⟩ := mem_ready.1 hr
  have htlt : t < ops.size := (Array.getElem?_eq_some_iff.1 hot).1
  rcases Nat.lt_or_ge n t with htn | htn
  ·rcases Bool.or_eq_true_iff.1 (List.all_eq_true.1 hc t (List.mem_range.2 htlt)) with h1 | h1
   ·have := of_decide_eq_true h1
    omega
   ·obtain ⟨o', ho', e, he, hb, hon⟩ := Region.waitsFor_spec h1
    obtain rfl : o' = ot := Option.some.inj (ho'.symm.trans hot)
    have h2 := hall e he hb
    rw [hon, getD_both (inv.tail (t - 1) (by omega) (by omega))] at h2
    cases h2
  ·obtain rfl : t = n := by omega
   have h1 := List.all_eq_true.1 hs i (List.mem_range.2 hi)
   rcases Bool.or_eq_true_iff.1 h1 with h1 | h1
   ·rw [hL i hi h1] at hun; cases hun
   ·obtain ⟨j, hj, hj2⟩ := List.any_eq_true.1 h1
    simp only [Bool.and_eq_true, decide_eq_true_eq] at hj2
    obtain ⟨hij, hw⟩ := hj2
    obtain ⟨oj, hoj, e, he, hb, hon⟩ := Region.waitsFor_spec hw
    have hjle := List.mem_range.1 hj
    by_cases hjt : j = t
    ·subst hjt
     obtain rfl : oj = ot := Option.some.inj (hoj.symm.trans hot)
     have h2 := hall e he hb
     rw [hon, getD_both hun] at h2
     cases h2
    ·cases hl : listed.getD j false with
     | true =>
      have h2 := inv.closed j oj hoj hl e he hb
      rw [hon, getD_both hun] at h2
      cases h2
     | false => exact ih (t - j) (by omega) j rfl (by omega) (getD_in (by rw [inv.size]; omega) hl) t (Nat.le_refl _) hr
theorem wpAny_of_split {l : List Oper} {n : Nat} (hnl : n < l.length) (hg : l.all (fun o => o.guard.isNone) = true) (hlow : lowB md l n = true)
  {L : Array Bool} (hs : sinkX md l.toArray n L = true) (hc : Region.chainB md l.toArray n = true)
  (hseq : Region.seqB md l.toArray (l.length - n) n (Array.replicate n true ++ Array.replicate (l.length - n) false) = true) :
  ∀ (f : Nat) (listed : Array Bool) (a : Act) (w : World), listed.size = n → (∀ i, i < n → L.getD i true = true → listed.getD i true = true) → HeadInv md l.toArray n (listed ++ Array.replicate (l.length - n) false) → listed.toList.count false = f →
   wpAny P md (l.take n).toArray (TailPost P l.toArray Q (l.drop n)) f listed a w → wpAny P md l.toArray Q (f + (l.length - n)) (listed ++ Array.replicate (l.length - n) false) a w := by
 intro f
 induction f with
 | zero =>
  intro listed a w hsz hL inv hcnt h
  have e : listed = Array.replicate n true := by
   apply Array.toList_inj.1
   rw [Array.toList_replicate]
   refine List.eq_replicate_iff.2 ⟨by simpa using hsz, fun b hb => ?_⟩
   cases b with
   | true => rfl
   | false => exact absurd (List.count_pos_iff.2 hb) (by omega)
  rw [e, Nat.zero_add]
  have := wpAny_of_seq (P := P) (md := md) (ops := l.toArray) (Q' := Q) (l.drop n) n _ a w (fun j => by simp [List.getElem?_drop]) (by rw [List.length_drop]; exact hseq) h.2
  rwa [List.length_drop] at this
 | succ f ih =>
  intro listed a w hsz hL inv hcnt h
  obtain ⟨i0, hi0, hu0⟩ : ∃ i, i < n ∧ listed.getD i true = false := by
   have : false ∈ listed.toList := List.count_pos_iff.1 (by omega)
   obtain ⟨i, hi, he⟩ := List.getElem_of_mem this
   refine ⟨i, by simpa [hsz] using hi, ?_⟩
   have hi' : i < listed.size := by simpa using hi
   rw [Array.getD_eq_getD_getElem?, Array.getElem?_eq_getElem hi']
   simpa using he
  obtain ⟨j0, hj0⟩ := head_ready hnl hlow hsz i0 hi0 hu0
  have hlt : ∀ i, i ∈ Region.ready md l.toArray (listed ++ Array.replicate (l.length - n) false) → i < n := by
   intro i hi
   rcases Nat.lt_or_ge i n with h' | h'
   ·exact h'
   ·exact absurd hi (tail_waitsX hs hc (by simpa using hnl) (fun i hi h => by rw [getD_app hsz hi]; exact hL i hi h) inv (n - i0) i0 rfl hi0 (by rw [getD_app hsz hi0]; exact hu0) i h')
  have hjn : ∀ j, j ∈ Region.ready md (l.take n).toArray listed → j < n := by
   intro j hj
   obtain ⟨_, o, ho, _⟩ := mem_ready.1 hj
   have := (Array.getElem?_eq_some_iff.1 ho).1
   simp at this
   omega
  rw [Nat.succ_add]
  refine ⟨fun hr => ?_, fun i hi => ?_⟩
  ·have := (ready_low hnl hlow hsz (hjn j0 hj0)).2 hj0
   rw [hr] at this
   cases this
  ·have hin := hlt i hi
   have hir := (ready_low hnl hlow hsz hin).1 hi
   refine wpOp_tail hin hnl hg (fun a' w' h' => ?_) (h.2 i hir)
   rw [set_app hsz hin]
   refine ih _ a' w' (by simpa using hsz) (fun k hk h => set_up (hL k hk h)) (by rw [← set_app hsz hin]; exact inv.set hi hin) ?_ h'
   have hus := (mem_ready.1 hir).1
   have hi' : i < listed.toList.length := by simpa [hsz] using hin
   rw [Array.toList_setIfInBounds, List.count_set hi']
   have : listed.toList[i] = false := by
    rw [Array.getD_eq_getD_getElem?, Array.getElem?_eq_getElem (by simpa using hi')] at hus
    simpa using hus
   simp [this, hcnt]
def splitB (md : Region.Mode) (l : List Oper) (n : Nat) (L : Array Bool) (f : Nat) : Bool :=
 decide (n < l.length) && decide (L.size = n) && decide (L.toList.count false = f) && l.all (fun o => o.guard.isNone) && lowB md l n && sinkX md l.toArray n L && Region.chainB md l.toArray n
  && Region.seqB md l.toArray (l.length - n) n (Array.replicate n true ++ Array.replicate (l.length - n) false)
  && (List.range n).all fun j => !L.getD j false || match l[j]? with
   | some o => o.after.all fun e => !Region.binds md e || L.getD e.on false
   | none => true
theorem wpAny_split {f : Nat} {L : Array Bool} {a : Act} {w : World} {l : List Oper} (n : Nat) {S : World → Prop} (hB : splitB md l n L f = true) (hS : S w)
  (h : S w → wpAnyH P md (l.take n).toArray (TailPost P l.toArray Q (l.drop n)) S f L a w) : wpAny P md l.toArray Q (f + (l.length - n)) (L ++ Array.replicate (l.length - n) false) a w := by
 simp only [splitB, Bool.and_eq_true, decide_eq_true_eq] at hB
 obtain ⟨⟨⟨⟨⟨⟨⟨⟨hnl, hsz⟩, hcnt⟩, hg⟩, hlow⟩, hs⟩, hc⟩, hseq⟩, hcl⟩ := hB
 refine wpAny_of_split hnl hg hlow hs hc hseq f L a w hsz (fun _ _ h => h) ⟨by simp; omega, fun j oj hj hl e he hb => ?_, fun t ht ht' => ?_⟩ hcnt (wpAny_of_held _ _ _ _ (h hS))
 ·have hjn : j < n := by
   rcases Nat.lt_or_ge j n with h' | h'
   ·exact h'
   ·rw [Array.getD_eq_getD_getElem?, Array.getElem?_append_right (by omega), ← Array.getD_eq_getD_getElem?, getD_replicate_false] at hl
    cases hl
  rw [getD_app hsz hjn] at hl
  have h1 := List.all_eq_true.1 hcl j (List.mem_range.2 hjn)
  have ho : l[j]? = some oj := by simpa using hj
  rw [hl, ho] at h1
  have h2 : oj.after.all (fun e => !Region.binds md e || L.getD e.on false) = true := by simpa using h1
  have h3 := Array.all_eq_true'.1 h2 e he
  rw [hb] at h3
  have h4 : L.getD e.on false = true := by simpa using h3
  have hen : e.on < n := by
   rcases Nat.lt_or_ge e.on n with h' | h'
   ·exact h'
   ·rw [Array.getD_eq_getD_getElem?, Array.getElem?_eq_none (by omega)] at h4
    cases h4
  rw [getD_app hsz hen]
  exact h4
 ·refine getD_in (by simp at ht' ⊢; omega) ?_
  rw [Array.getD_eq_getD_getElem?, Array.getElem?_append_right (by omega), ← Array.getD_eq_getD_getElem?, getD_replicate_false]
end
end
end Go.Proofs.YtekjehbkmlodmaaGreat
