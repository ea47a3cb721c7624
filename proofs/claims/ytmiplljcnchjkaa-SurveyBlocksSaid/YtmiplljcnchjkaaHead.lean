/-
  A region that draws its order, whose last operations come in one order alone: the head goes by a condition on the world, the tail goes as a list. No program in sight.
-/
import Derived.Test.YtmiplljcnchjkaaRow
import Derived.StillTail
import Derived.Deep.RegionHeld3
namespace Go.Proofs.Ytmiplljcnchjkaa
open Go.RowKit
set_option linter.unusedVariables false
section
variable {P : Program} {md : Region.Mode} {Q : Exit → Act → World → Prop} {ops : Array Oper} {tl : List Oper}

/-- the post of the head: what follows is the tail, in its order -/
def TailPost (P : Program) (ops : Array Oper) (Q : Exit → Act → World → Prop) (tl : List Oper) : Exit → Act → World → Prop
  | .normal, a, w => wpList P ops Q tl a w
  | e, a, w => Q e a w
theorem upon_tail {o : Oper} {a : Act} {K K' : Act → World → Prop} {r : Result Next} (hK : ∀ a w, K' a w → K a w) (h : o.upon P a K' (TailPost P ops Q tl) r) : o.upon P a K Q r := by
  cases r with
  | ok n w' =>
    cases n <;> simp only [Oper.upon] at h ⊢
    case value u => exact hK _ _ h
    case skip => exact hK _ _ h
    case defer d => exact hK _ _ h
    case enter f args =>
      refine Calls.mono h fun e w'' he => ?_
      cases e with
      | returned u => exact hK _ _ he
      | panicked c => exact he
      | outgrown => exact he
    case row row args => exact Rows.mono h fun u w'' he => hK _ _ he
  | halt x w' =>
    cases x <;> simp only [Oper.upon] at h ⊢
    case panic u => exact h
theorem wpOp_tail {l : List Oper} {n i : Nat} {a : Act} {w : World} {K K' : Act → World → Prop} (hin : i < n) (hnl : n < l.length) (hg : l.all (fun o => o.guard.isNone) = true) (hK : ∀ a w, K' a w → K a w)
    (h : wpOp P (l.take n).toArray (TailPost P l.toArray Q tl) i K' a w) : wpOp P l.toArray Q i K a w := by
  have hi : i < l.length := by omega
  have e1 : (l.take n).toArray[i]? = some l[i] := by simp [hin, hi]
  have e2 : l.toArray[i]? = some l[i] := by simp [hi]
  have hgd : l[i].guard = none := by
    have := List.all_eq_true.1 hg l[i] (List.getElem_mem hi)
    simpa using this
  unfold wpOp at *
  rw [e1] at h
  rw [e2]
  simp only [Region.wanted, hgd, if_true] at h ⊢
  rcases h with h | ⟨h1, h2⟩
  · exact .inl (upon_tail hK h)
  · exact .inr ⟨h1, h2⟩
/-- the edges of the head's operations lead back -/
def lowB (md : Region.Mode) (l : List Oper) (n : Nat) : Bool :=
  (List.range n).all fun i => match l[i]? with
    | some o => o.after.all fun e => !Region.binds md e || decide (e.on < i)
    | none => false
theorem getD_app {n m i : Nat} {x : Bool} {l : Array Bool} (hs : l.size = n) (hi : i < n) : (l ++ Array.replicate m false).getD i x = l.getD i x := by
  have h1 : i < l.size := by omega
  rw [Array.getD_eq_getD_getElem?, Array.getD_eq_getD_getElem?, Array.getElem?_append_left h1]
theorem set_up {l : Array Bool} {i k : Nat} (h : l.getD k true = true) : (l.setIfInBounds i true).getD k true = true := by
  by_cases e : i = k
  · subst e
    rw [Array.getD_eq_getD_getElem?]
    rcases Nat.lt_or_ge i l.size with h' | h'
    · simp [h']
    · simp [Array.getElem?_eq_none h']
  · rw [getD_set_ne true e]; exact h
theorem set_app {n m i : Nat} {l : Array Bool} (hs : l.size = n) (hi : i < n) : (l ++ Array.replicate m false).setIfInBounds i true = l.setIfInBounds i true ++ Array.replicate m false := by
  rw [Array.setIfInBounds_append, if_pos (by omega)]
theorem ready_low {md : Region.Mode} {l : List Oper} {n : Nat} {listed : Array Bool} (hnl : n < l.length) (hlow : lowB md l n = true) (hs : listed.size = n) {i : Nat} (hi : i < n) :
    i ∈ Region.ready md l.toArray (listed ++ Array.replicate (l.length - n) false) ↔ i ∈ Region.ready md (l.take n).toArray listed := by
  have e1 : (l.take n).toArray[i]? = l.toArray[i]? := by simp [hi]
  have hlo := List.all_eq_true.1 hlow i (List.mem_range.2 hi)
  rw [mem_ready, mem_ready, e1, getD_app hs hi]
  refine and_congr Iff.rfl ?_
  constructor
  · rintro ⟨o, ho, h⟩
    have ho' : l[i]? = some o := by simpa using ho
    rw [ho'] at hlo
    refine ⟨o, ho, fun e he hb => ?_⟩
    have := Array.all_eq_true'.1 hlo e he
    simp only [hb, Bool.not_true, Bool.false_or, decide_eq_true_eq] at this
    rw [← getD_app (m := l.length - n) hs (by omega)]
    exact h e he hb
  · rintro ⟨o, ho, h⟩
    have ho' : l[i]? = some o := by simpa using ho
    rw [ho'] at hlo
    refine ⟨o, ho, fun e he hb => ?_⟩
    have := Array.all_eq_true'.1 hlo e he
    simp only [hb, Bool.not_true, Bool.false_or, decide_eq_true_eq] at this
    rw [getD_app (m := l.length - n) hs (by omega)]
    exact h e he hb
theorem head_ready {md : Region.Mode} {l : List Oper} {n : Nat} {listed : Array Bool} (hnl : n < l.length) (hlow : lowB md l n = true) (hs : listed.size = n) :
    ∀ i, i < n → listed.getD i true = false → ∃ j, j ∈ Region.ready md (l.take n).toArray listed := by
  intro i
  induction i using Nat.strongRecOn with
  | _ i ih =>
    intro hi hu
    have hlo := List.all_eq_true.1 hlow i (List.mem_range.2 hi)
    have hi' : i < l.length := by omega
    have ho : l[i]? = some l[i] := List.getElem?_eq_getElem hi'
    rw [ho] at hlo
    by_cases hall : ∀ e ∈ l[i].after, Region.binds md e = true → listed.getD e.on false = true
    · exact ⟨i, mem_ready.2 ⟨hu, l[i], by simp [hi, hi'], hall⟩⟩
    · simp only [Classical.not_forall] at hall
      obtain ⟨e, he, hb, hne⟩ := hall
      have := Array.all_eq_true'.1 hlo e he
      simp only [hb, Bool.not_true, Bool.false_or, decide_eq_true_eq] at this
      refine ih e.on this (by omega) (getD_in (by omega) ?_)
      cases h : listed.getD e.on false with
      | true => exact absurd h hne
      | false => rfl
/-- each operation of the head, but those that are listed already, is waited for from further on, up to n -/
def sinkX (md : Region.Mode) (ops : Array Oper) (n : Nat) (L : Array Bool) : Bool :=
  (List.range n).all fun i => L.getD i true || (List.range (n + 1)).any fun j => decide (i < j) && Region.waitsFor md ops j i
theorem tail_waitsX {md : Region.Mode} {ops : Array Oper} {n : Nat} {L listed : Array Bool} (hs : sinkX md ops n L = true) (hc : Region.chainB md ops n = true) (hn : n < ops.size) (hL : ∀ i, i < n → L.getD i true = true → listed.getD i true = true) (inv : HeadInv md ops n listed) :
    ∀ (d i : Nat), n - i = d → i < n → listed.getD i true = false → ∀ t, n ≤ t → t ∉ Region.ready md ops listed := by
  intro d
  induction d using Nat.strongRecOn with
  | _ d ih =>
    intro i hd hi hun t ht hr
    obtain ⟨_, ot, hot, hall⟩ := mem_ready.1 hr
    have htlt : t < ops.size := (Array.getElem?_eq_some_iff.1 hot).1
    rcases Nat.lt_or_ge n t with htn | htn
    · rcases Bool.or_eq_true_iff.1 (List.all_eq_true.1 hc t (List.mem_range.2 htlt)) with h1 | h1
      · have := of_decide_eq_true h1
        omega
      · obtain ⟨o', ho', e, he, hb, hon⟩ := Region.waitsFor_spec h1
        obtain rfl : o' = ot := Option.some.inj (ho'.symm.trans hot)
        have h2 := hall e he hb
        rw [hon, getD_both (inv.tail (t - 1) (by omega) (by omega))] at h2
        cases h2
    · obtain rfl : t = n := by omega
      have h1 := List.all_eq_true.1 hs i (List.mem_range.2 hi)
      rcases Bool.or_eq_true_iff.1 h1 with h1 | h1
      · rw [hL i hi h1] at hun; cases hun
      · obtain ⟨j, hj, hj2⟩ := List.any_eq_true.1 h1
        simp only [Bool.and_eq_true, decide_eq_true_eq] at hj2
        obtain ⟨hij, hw⟩ := hj2
        obtain ⟨oj, hoj, e, he, hb, hon⟩ := Region.waitsFor_spec hw
        have hjle := List.mem_range.1 hj
        by_cases hjt : j = t
        · subst hjt
          obtain rfl : oj = ot := Option.some.inj (hoj.symm.trans hot)
          have h2 := hall e he hb
          rw [hon, getD_both hun] at h2
          cases h2
        · cases hl : listed.getD j false with
          | true =>
            have h2 := inv.closed j oj hoj hl e he hb
            rw [hon, getD_both hun] at h2
            cases h2
          | false => exact ih (t - j) (by omega) j rfl (by omega) (getD_in (by rw [inv.size]; omega) hl) t (Nat.le_refl _) hr
theorem wpAny_of_split {l : List Oper} {n : Nat} (hnl : n < l.length) (hg : l.all (fun o => o.guard.isNone) = true) (hlow : lowB md l n = true)
    {L : Array Bool} (hs : sinkX md l.toArray n L = true) (hc : Region.chainB md l.toArray n = true)
    (hseq : Region.seqB md l.toArray (l.length - n) n (Array.replicate n true ++ Array.replicate (l.length - n) false) = true) :
    ∀ (f : Nat) (listed : Array Bool) (a : Act) (w : World), listed.size = n → (∀ i, i < n → L.getD i true = true → listed.getD i true = true) → HeadInv md l.toArray n (listed ++ Array.replicate (l.length - n) false) → listed.toList.count false = f →
      wpAny P md (l.take n).toArray (TailPost P l.toArray Q (l.drop n)) f listed a w → wpAny P md l.toArray Q (f + (l.length - n)) (listed ++ Array.replicate (l.length - n) false) a w := by
  intro f
  induction f with
  | zero =>
    intro listed a w hsz hL inv hcnt h
    have e : listed = Array.replicate n true := by
      apply Array.toList_inj.1
      rw [Array.toList_replicate]
      refine List.eq_replicate_iff.2 ⟨by simpa using hsz, fun b hb => ?_⟩
      cases b with
      | true => rfl
      | false => exact absurd (List.count_pos_iff.2 hb) (by omega)
    rw [e, Nat.zero_add]
    have := wpAny_of_seq (P := P) (md := md) (ops := l.toArray) (Q' := Q) (l.drop n) n _ a w (fun j => by simp [List.getElem?_drop]) (by rw [List.length_drop]; exact hseq) h.2
    rwa [List.length_drop] at this
  | succ f ih =>
    intro listed a w hsz hL inv hcnt h
    obtain ⟨i0, hi0, hu0⟩ : ∃ i, i < n ∧ listed.getD i true = false := by
      have : false ∈ listed.toList := List.count_pos_iff.1 (by omega)
      obtain ⟨i, hi, he⟩ := List.getElem_of_mem this
      refine ⟨i, by simpa [hsz] using hi, ?_⟩
      have hi' : i < listed.size := by simpa using hi
      rw [Array.getD_eq_getD_getElem?, Array.getElem?_eq_getElem hi']
      simpa using he
    obtain ⟨j0, hj0⟩ := head_ready hnl hlow hsz i0 hi0 hu0
    have hlt : ∀ i, i ∈ Region.ready md l.toArray (listed ++ Array.replicate (l.length - n) false) → i < n := by
      intro i hi
      rcases Nat.lt_or_ge i n with h' | h'
      · exact h'
      · exact absurd hi (tail_waitsX hs hc (by simpa using hnl) (fun i hi h => by rw [getD_app hsz hi]; exact hL i hi h) inv (n - i0) i0 rfl hi0 (by rw [getD_app hsz hi0]; exact hu0) i h')
    have hjn : ∀ j, j ∈ Region.ready md (l.take n).toArray listed → j < n := by
      intro j hj
      obtain ⟨_, o, ho, _⟩ := mem_ready.1 hj
      have := (Array.getElem?_eq_some_iff.1 ho).1
      simp at this
      omega
    rw [Nat.succ_add]
    refine ⟨fun hr => ?_, fun i hi => ?_⟩
    · have := (ready_low hnl hlow hsz (hjn j0 hj0)).2 hj0
      rw [hr] at this
      cases this
    · have hin := hlt i hi
      have hir := (ready_low hnl hlow hsz hin).1 hi
      refine wpOp_tail hin hnl hg (fun a' w' h' => ?_) (h.2 i hir)
      rw [set_app hsz hin]
      refine ih _ a' w' (by simpa using hsz) (fun k hk h => set_up (hL k hk h)) (by rw [← set_app hsz hin]; exact inv.set hi hin) ?_ h'
      have hus := (mem_ready.1 hir).1
      have hi' : i < listed.toList.length := by simpa [hsz] using hin
      rw [Array.toList_setIfInBounds, List.count_set hi']
      have : listed.toList[i] = false := by
        rw [Array.getD_eq_getD_getElem?, Array.getElem?_eq_getElem (by simpa using hi')] at hus
        simpa using hus
      simp [this, hcnt]
/-- All that the split asks of the region, when the operations that L tells have come up. -/
def splitB (md : Region.Mode) (l : List Oper) (n : Nat) (L : Array Bool) (f : Nat) : Bool :=
  decide (n < l.length) && decide (L.size = n) && decide (L.toList.count false = f) && l.all (fun o => o.guard.isNone) && lowB md l n && sinkX md l.toArray n L && Region.chainB md l.toArray n
    && Region.seqB md l.toArray (l.length - n) n (Array.replicate n true ++ Array.replicate (l.length - n) false)
    && (List.range n).all fun j => !L.getD j false || match l[j]? with
      | some o => o.after.all fun e => !Region.binds md e || L.getD e.on false
      | none => true
theorem wpAny_split {f : Nat} {L : Array Bool} {a : Act} {w : World} {l : List Oper} (n : Nat) {S : World → Prop} (hB : splitB md l n L f = true) (hS : S w)
    (h : S w → wpAnyH P md (l.take n).toArray (TailPost P l.toArray Q (l.drop n)) S f L a w) : wpAny P md l.toArray Q (f + (l.length - n)) (L ++ Array.replicate (l.length - n) false) a w := by
  simp only [splitB, Bool.and_eq_true, decide_eq_true_eq] at hB
  obtain ⟨⟨⟨⟨⟨⟨⟨⟨hnl, hsz⟩, hcnt⟩, hg⟩, hlow⟩, hs⟩, hc⟩, hseq⟩, hcl⟩ := hB
  refine wpAny_of_split hnl hg hlow hs hc hseq f L a w hsz (fun _ _ h => h) ⟨by simp; omega, fun j oj hj hl e he hb => ?_, fun t ht ht' => ?_⟩ hcnt (wpAny_of_held _ _ _ _ (h hS))
  · have hjn : j < n := by
      rcases Nat.lt_or_ge j n with h' | h'
      · exact h'
      · rw [Array.getD_eq_getD_getElem?, Array.getElem?_append_right (by omega), ← Array.getD_eq_getD_getElem?, getD_replicate_false] at hl
        cases hl
    rw [getD_app hsz hjn] at hl
    have h1 := List.all_eq_true.1 hcl j (List.mem_range.2 hjn)
    have ho : l[j]? = some oj := by simpa using hj
    rw [hl, ho] at h1
    have h2 : oj.after.all (fun e => !Region.binds md e || L.getD e.on false) = true := by simpa using h1
    have h3 := Array.all_eq_true'.1 h2 e he
    rw [hb] at h3
    have h4 : L.getD e.on false = true := by simpa using h3
    have hen : e.on < n := by
      rcases Nat.lt_or_ge e.on n with h' | h'
      · exact h'
      · rw [Array.getD_eq_getD_getElem?, Array.getElem?_eq_none (by omega)] at h4
        cases h4
    rw [getD_app hsz hen]
    exact h4
  · refine getD_in (by simp at ht' ⊢; omega) ?_
    rw [Array.getD_eq_getD_getElem?, Array.getElem?_append_right (by omega), ← Array.getD_eq_getD_getElem?, getD_replicate_false]
end
end Go.Proofs.Ytmiplljcnchjkaa
