/-
  Arguments opened by their type's shape: what the cells of a reading look like, whatever the type: integers, bools, strings, structs and arrays of these, and slices of all of them. No program in sight.
-/
import Derived.Test.YtmiplljcnchjkaaBase
import Derived.ProofKit
import Derived.OpenShut
import Derived.ShutString
import Derived.ChangeOld
import Derived.Deep.Slices
namespace Go.Proofs.Ytmiplljcnchjkaa
open Go.ChangeShapes Go.WideShapes Go.ChangeAt Go.RowKit

/-- The shape of a type. -/
inductive Sh where
  | int (k : IntKind)
  | bool
  | str
  | unit
  | cat (a b : Sh)
  | slice (e : Sh)

def Sh.size : Sh → Nat
  | .int _ => 1
  | .bool => 1
  | .str => 1
  | .unit => 0
  | .cat a b => a.size + b.size
  | .slice _ => 1

/-- The cells cs have the shape. -/
def Sh.Sat (w : World) : Sh → List Value → Prop
  | .int k, cs => ∃ n, cs = [.int k n] ∧ (Lit.int k n).wf = true
  | .bool, cs => ∃ b, cs = [.bool b]
  | .str, cs => ∃ s : ByteArray, cs = [.string s] ∧ s.size ≤ maxLen
  | .unit, cs => cs = []
  | .cat a b, cs => ∃ xs ys, cs = xs ++ ys ∧ Sh.Sat w a xs ∧ Sh.Sat w b ys
  | .slice e, cs => ∃ A len cap, cs = [.slice A len cap] ∧ len ≤ cap ∧ cap ≤ maxLen ∧
      ((A = none ∧ len = 0 ∧ cap = 0) ∨ (len = 0 ∧ A ≠ none) ∨ ∃ b off, A = some ⟨b, off, none⟩ ∧ b < w.heap.size ∧
        ∀ i, i < len → ∃ cs', cs'.length = e.size ∧ (∀ j u, cs'[j]? = some u → w.cell? ⟨b, off + i * e.size + j, none⟩ = some u) ∧ Sh.Sat w e cs')

mutual
/-- The shape of a type of a program, if it has one. -/
def shapeOf (P : Program) : Nat → TypeId → Option Sh
  | 0, _ => none
  | d + 1, t =>
    match P.underlying t with
    | some .bool => some .bool
    | some (.int k) => some (.int k)
    | some .string => some .str
    | some (.slice e) =>
      match shapeOf P d e with
      | some s => if s.size = P.cellsOf e ∧ 0 < s.size then some (.slice s) else none
      | none => none
    | some (.struct fs) => shapeFields P d 0 fs.toList (P.cellsOf t)
    | _ => none
def shapeFields (P : Program) : Nat → Nat → List Field → Nat → Option Sh
  | 0, _, _, _ => none
  | _ + 1, off, [], n => if off = n then some .unit else none
  | d + 1, off, f :: fs, n =>
    match shapeOf P d f.type with
    | some s =>
      if s.size = P.cellsOf f.type ∧ f.offset = off then
        match shapeFields P d (off + s.size) fs n with
        | some r => some (.cat s r)
        | none => none
      else none
    | none => none
end

theorem Sh.Sat.len {w : World} : ∀ {s : Sh} {cs : List Value}, s.Sat w cs → cs.length = s.size
  | .int _, _, ⟨_, e, _⟩ => by rw [e]; rfl
  | .bool, _, ⟨_, e⟩ => by rw [e]; rfl
  | .str, _, ⟨_, e, _⟩ => by rw [e]; rfl
  | .unit, _, e => by simp [Sh.Sat] at e; rw [e]; rfl
  | .cat a b, _, ⟨xs, ys, e, ha, hb⟩ => by rw [e, List.length_append, Sh.Sat.len ha, Sh.Sat.len hb]; rfl
  | .slice _, _, ⟨_, _, _, e, _⟩ => by rw [e]; rfl

section
variable {H : Type} {enc : TypeId × Value → H} {P : Program} {w : World} {base : Nat} {spare : Nat → Bool} {held : Bool}

theorem block_of_cell' {a : Addr} {v : Value} (h : w.cell? a = some v) : a.block < w.heap.size := block_lt_of_cell h

mutual
theorem sat_of {d : Nat} {t : TypeId} {s : Sh} {fuel : Nat} {cs : List Value} {x : DataW H × List MemPlace} (hs : shapeOf P d t = some s) (h : DataW.trod enc P w base spare held fuel t cs = some x) : s.Sat w cs := by
  cases d with
  | zero => simp [shapeOf] at hs
  | succ d =>
    unfold shapeOf at hs
    split at hs
    · rename_i ht
      injection hs with hs
      subst hs
      obtain ⟨b, rfl, _⟩ := DataW.trod_bool ht h
      exact ⟨b, rfl⟩
    · rename_i k ht
      injection hs with hs
      subst hs
      obtain ⟨n, rfl, _, hw⟩ := DataW.trod_int ht h
      exact ⟨n, rfl, hw⟩
    · rename_i ht
      injection hs with hs
      subst hs
      obtain ⟨b, rfl, _, hw⟩ := DataW.trod_string ht h
      exact ⟨b, rfl, hw⟩
    · rename_i e ht
      split at hs
      · rename_i s' hse
        split at hs
        · rename_i hsz
          injection hs with hs
          subst hs
          rcases Deep.open_slice ht h with ⟨rfl, _⟩ | ⟨a, len, cap, m, n, D, Pl, rfl, hb, hl, hm, hmm, _, hi⟩
          · exact ⟨none, 0, 0, rfl, Nat.le_refl _, by unfold maxLen; omega, .inl ⟨rfl, rfl, rfl⟩⟩
          · refine ⟨some a, len, cap, rfl, hl, hm, .inr ?_⟩
            by_cases h0 : len = 0
            · exact .inl ⟨h0, by simp⟩
            · have hlm : len ≤ m := by rw [hmm]; split <;> omega
              have ha : a.spot = none ∧ a.block < w.heap.size := by
                obtain ⟨cs', hc, _⟩ := hi 0 (by omega)
                obtain ⟨_, hcl, hat⟩ := World.cells?_some hc
                have h1 := hat 0 (by omega)
                rw [List.getElem?_eq_getElem (by omega)] at h1
                rw [Deep.add_add] at h1
                have : a.add (0 * P.cellsOf e + 0) = a := by simp [Addr.add]
                rw [this] at h1
                exact ⟨World.cell?_spot h1, block_lt_of_cell h1⟩
              obtain ⟨b, off, sp⟩ := a
              obtain ⟨rfl, hbl⟩ := ha
              refine .inr ⟨b, off, rfl, hbl, fun i him => ?_⟩
              obtain ⟨cs', hc, ht'⟩ := hi i (by omega)
              obtain ⟨_, hcl, hat⟩ := World.cells?_some hc
              refine ⟨cs', by omega, fun j u hu => ?_, sat_of hse ht'⟩
              have hj : j < cs'.length := (List.getElem?_eq_some_iff.1 hu).1
              have h1 := hat j (by omega)
              rw [Deep.add_add, hu] at h1
              rw [← h1, hsz.1]
              have : (⟨b, off, none⟩ : Addr).add (i * P.cellsOf e + j) = ⟨b, off + i * P.cellsOf e + j, none⟩ := by
                unfold Addr.add
                split
                · rename_i hz
                  have e1 : i * P.cellsOf e = 0 := by omega
                  have e2 : j = 0 := by omega
                  rw [e1, e2]; rfl
                · rw [Nat.add_assoc]
              rw [this]
        · cases hs
      · cases hs
    · rename_i fs ht
      obtain ⟨xs, n, _, _, hlen, hxl, hf⟩ := DataW.trod_struct ht h
      refine sat_fields (off := 0) (pre := []) (fs := fs.toList) hs rfl hlen (xs := xs) (n := n) (fun i f hi => ?_) (by simpa using hxl)
      exact hf i f (by simpa using hi)
    · cases hs
theorem sat_fields {d off N : Nat} {fs : List Field} {s : Sh} {pre cs : List Value} {n : Nat} {xs : List (DataW H × List MemPlace)} (hs : shapeFields P d off fs N = some s) (hoff : pre.length = off) (hlen : (pre ++ cs).length = N)
    (hf : ∀ (i : Nat) (f : Field), fs[i]? = some f → DataW.trod enc P w base spare held n f.type (((pre ++ cs).drop f.offset).take (P.cellsOf f.type)) = xs[i]?) (hx : xs.length = fs.length) : s.Sat w cs := by
  cases d with
  | zero => simp [shapeFields] at hs
  | succ d =>
    cases fs with
    | nil =>
      simp only [shapeFields] at hs
      split at hs
      · injection hs with hs
        subst hs
        rw [List.length_append] at hlen
        exact List.length_eq_zero_iff.1 (by omega)
      · cases hs
    | cons f fs =>
      simp only [shapeFields] at hs
      split at hs
      · rename_i s1 h1
        split at hs
        · rename_i hsz
          split at hs
          · rename_i r hr
            injection hs with hs
            subst hs
            have h0 := hf 0 f rfl
            rw [List.getElem?_eq_getElem (by rw [hx]; simp)] at h0
            have hs1 := sat_of h1 h0
            have hl1 := hs1.len
            rw [hsz.2, ← hoff, List.drop_append_of_le_length (Nat.le_refl _), List.drop_length, List.nil_append] at hs1 hl1
            rw [← hsz.1] at hs1 hl1
            refine ⟨cs.take s1.size, cs.drop s1.size, (List.take_append_drop _ _).symm, hs1, ?_⟩
            refine sat_fields (off := off + s1.size) (pre := pre ++ cs.take s1.size) (xs := xs.tail) (n := n) hr (by rw [List.length_append, hl1, hoff]) (by rw [List.append_assoc, List.take_append_drop]; exact hlen) (fun i g hi => ?_) (by simp [hx])
            rw [List.append_assoc, List.take_append_drop]
            have := hf (i + 1) g hi
            rw [this]
            cases xs with
            | nil => simp at hx
            | cons y ys => simp
          · cases hs
        · cases hs
      · cases hs
end

/-- A value of a shape: 'agg' says that the type is a struct. -/
def VSat (w : World) (s : Sh) (agg : Bool) (v : Value) : Prop :=
  match agg with
  | true => ∃ cs, v = .agg (.mk cs) ∧ s.Sat w cs
  | false => s.Sat w [v]

def isAggT (P : Program) (t : TypeId) : Bool :=
  match P.underlying t with
  | some (.struct _) => true
  | some (.array _ _) => true
  | _ => false

theorem vsat_of {r : Reach} {b0 d : Nat} {t : TypeId} {s : Sh} {v : Value} {dd : DataW H} {p : List MemPlace} (hs : shapeOf P d t = some s) (hv : Value.okWide P w r b0 t v) (h : DataW.Trod enc P w base spare held t v dd p) : VSat w s (isAggT P t) v := by
  obtain ⟨fuel, h⟩ := h
  have h1 := sat_of hs h
  unfold Value.okWide at hv
  unfold VSat isAggT
  split at hv
  · rename_i fs ht
    obtain ⟨cs, rfl, _, _⟩ := hv
    simp only [ht]
    exact ⟨cs.toList, rfl, h1⟩
  · rename_i n e ht
    obtain ⟨cs, rfl, _, _⟩ := hv
    simp only [ht]
    exact ⟨cs.toList, rfl, h1⟩
  · rename_i hn1 hn2
    have : (match P.underlying t with | some (.struct _) => true | some (.array _ _) => true | _ => false) = false := by
      split
      · rename_i fs ht; exact absurd ht (hn1 fs)
      · rename_i n e ht; exact absurd ht (hn2 n e)
      · rfl
    rw [this]
    have hc : v.cells.toList = [v] := by
      cases v <;> first | rfl | skip
      exfalso
      unfold Cell.okWide at hv
      split at hv
      all_goals first | (simp [Cell.ok] at hv; done) | (exfalso; simp_all; done) | trace_state
    rw [hc] at h1
    exact h1
end

/-- A list out of what there is at each place. -/
theorem list_of {α : Type} {n : Nat} {p : Nat → α → Prop} (h : ∀ i, i < n → ∃ x, p i x) : ∃ L : List α, L.length = n ∧ ∀ i (hi : i < L.length), p i L[i] := by
  induction n with
  | zero => exact ⟨[], rfl, fun i hi => by simp at hi⟩
  | succ n ih =>
    obtain ⟨L, hL, hp⟩ := ih fun i hi => h i (by omega)
    obtain ⟨x, hx⟩ := h n (by omega)
    refine ⟨L ++ [x], by simp [hL], fun i hi => ?_⟩
    by_cases hi' : i < L.length
    · rw [List.getElem_append_left hi']; exact hp i hi'
    · have : i = L.length := by simp at hi; omega
      subst this
      simp [hL, hx]

end Go.Proofs.Ytmiplljcnchjkaa
