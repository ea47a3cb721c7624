/-
  The contract of the sort of some places, by what each tells.
-/
import Derived.Test.YtmiplljcnchjkaaSurK0
import Derived.Test.YtmiplljcnchjkaaSurSp
namespace Go.Proofs.Ytmiplljcnchjkaa
open Go.RowKit Go.Shelf Go.Sort
set_option linter.unusedVariables false
namespace Sur
instance beforeDec (T : List Int) (a b : Nat) : Decidable (before T a b) := by unfold before; infer_instance
def cmpF {n : Nat} (T : List Int) (a b : Fin n) : Int := cmpT T a.val b.val
theorem cmpF_lt {n : Nat} (T : List Int) (a b : Fin n) : ltOf (cmpF T) a b = decide (before T a.val b.val) := by
  unfold ltOf cmpF
  exact decide_eq_decide.2 (cmpT_lt T a.val b.val)
theorem cmpF_swo {n : Nat} (T : List Int) : SWO (ltOf (cmpF (n := n) T)) where
  irrefl x := by rw [cmpF_lt]; unfold before; simp
  trans x y z h1 h2 := by
    rw [cmpF_lt] at *
    rw [decide_eq_true_eq] at *
    unfold before at *
    omega
  ntrans x y z h1 h2 := by
    rw [cmpF_lt] at *
    rw [decide_eq_false_iff_not] at *
    unfold before at *
    omega
def fv {n : Nat} (a : Fin n) : Value := .int .i64 (a.val : Int)
theorem ext_all {α : Type} (a : Array α) (k : Nat) (h : a.size = k) : a.extract 0 k = a := by
  subst h
  simp
theorem sort_pos (T : List Int) (n g gt gr : Nat) (hn : T.length = n) (h0 : 0 < n) (w : World) (hg : w.cell? ⟨g, 0, none⟩ = some (.slice (some ⟨gt, 0, none⟩) n n)) (ht : ∀ i, i < n → w.cell? ⟨gt, i, none⟩ = some (.int .i64 (T.getD i 0))) (hr : Blk w gr 3 ((List.range n).map natv)) (h1 : gr ≠ g) (h2 : gr ≠ gt) (hn2 : n ≤ 100000) :
    Calls Try.prog 66 #[.slice (some ⟨gr, 0, none⟩) n n, .func (.func 67) #[] #[.pointer (some ⟨g, 0, none⟩)]] w (GotS w T gr) := by
  haveI : Inhabited (Fin n) := ⟨⟨0, h0⟩⟩
  have eg : ∀ args w, (callFunc 67 args).run Try.prog w = .ok (.enter 67 args) w := enters_of Try.func67 (by kernel_rfl) rfl
  obtain ⟨d, hd⟩ : ∃ d : Array (Fin n), d = (List.finRange n).toArray := ⟨_, rfl⟩
  have hds : d.size = n := by rw [hd]; simp
  have hlt := hr.lt
  have hH : Holds (fv (n := n)) w gr 0 d := by
    intro j hj
    rw [hds] at hj
    refine ⟨?_, hr.free _⟩
    rw [Nat.zero_add]
    refine (hr.cell j).trans ?_
    rw [List.getElem?_map, List.getElem?_range hj]
    have e : d[j]! = (⟨j, hj⟩ : Fin n) := by
      rw [hd]
      simp [hj]
    rw [e]
    rfl
  have hheap : ∀ (m : Nat) (os : Array Obj) (dk : Array (Fin n)), (∀ k, k < w.heap.size → k ≠ gr → (sortWorld (fv (n := n)) w gr 0 m dk os).heap[k]? = w.heap[k]?) := fun m os dk k hk hne => by
    unfold sortWorld
    rw [heap_grow_old _ _ (by rw [size_putRow]; exact hk)]
    unfold putRow mapBlock
    simp only [Array.getElem?_modify]
    rw [if_neg (fun e => hne e.symm)]
    rfl
  have hcmp : CmpLays1 Try.prog 67 #[.pointer (some ⟨g, 0, none⟩)] (fv (n := n)) (cmpF T) gr 0 d.size w := by
    intro m os dk hs x y
    have hlg := World.block_lt_of_cell? w ⟨g, 0, none⟩ hg
    have hlt2 := World.block_lt_of_cell? w ⟨gt, 0, none⟩ (ht 0 h0)
    have hgs : ∀ (b : Nat) (o : Nat), b < w.heap.size → b ≠ gr → (sortWorld (fv (n := n)) w gr 0 m dk os).cell? ⟨b, o, none⟩ = w.cell? ⟨b, o, none⟩ := fun b o hb hne => by
      unfold World.cell?
      rw [hheap m os dk b hb hne]
    have hx := rank1_any T n g gt x.val y.val hn x.isLt y.isLt (sortWorld (fv (n := n)) w gr 0 m dk os) (by rw [hgs g 0 hlg (fun e => h1 e.symm)]; exact hg) (fun i hi => by rw [hgs gt i hlt2 (fun e => h2 e.symm)]; exact ht i hi)
    refine hx.mono ?_
    rintro e w' ⟨he, q, hq⟩
    exact ⟨he, q, #[], by rw [hq, grow_empty]⟩
  have hcon := Any.slices_SortFunc sortF (fv (n := n)) (fun _ => rfl) (cmpF T) (cmpF_swo T) 67 #[.pointer (some ⟨g, 0, none⟩)] gr 0 n d w eg hcmp hH hlt (by rw [hds]; omega)
  rw [hds] at hcon
  refine hcon.mono ?_
  rintro e w' ⟨rfl, d', nn, os, hp, hs, rfl⟩
  obtain ⟨p1, _, p3⟩ := hp
  have hds' : d'.size = n := by rw [p1, hds]
  have hval : ∀ j, j < n → (d'.toList.map Fin.val).getD j 0 = (d'[j]!).val := fun j hj => by
    rw [List.getD_eq_getElem?_getD, List.getElem?_map, Array.getElem?_toList, getElem!_pos d' j (by rw [hds']; exact hj), Array.getElem?_eq_getElem (by rw [hds']; exact hj)]
    rfl
  refine ⟨rfl, d'.toList.map Fin.val, ⟨?_, ?_⟩, ?_, ?_⟩
  · rw [hn]
    have e1 : d'.extract 0 n = d' := ext_all d' n hds'
    have e2 : d.extract 0 n = d := ext_all d n hds
    rw [e1, e2] at p3
    have e3 : d.toList.map Fin.val = List.range n := by
      rw [hd]
      refine List.ext_getElem (by simp) fun i h1 h2 => ?_
      simp
    rw [← e3]
    exact p3.map _
  · intro i j hij hj
    rw [hn] at hj
    rw [hval i (by omega), hval j hj]
    have := hs i j (Nat.zero_le _) hij hj
    rw [cmpF_lt, decide_eq_false_iff_not] at this
    exact this
  · have hr' : w.heap[gr]? = some (.cells ((List.range n).map natv).toArray 3 (0, 0)) := hr
    have e : (sortWorld (fv (n := n)) w gr 0 nn d' os).heap[gr]? = some (.cells (putCells (fv (n := n)) 0 d' ((List.range n).map natv).toArray) 3 (0, 0)) := by
      unfold sortWorld
      rw [heap_grow_old _ _ (by rw [size_putRow]; exact hlt)]
      unfold putRow mapBlock
      simp only [Array.getElem?_modify]
      rw [if_pos trivial]
      show Option.map _ w.heap[gr]? = _
      rw [hr']
      rfl
    have e2 : putCells (fv (n := n)) 0 d' ((List.range n).map natv).toArray = ((d'.toList.map Fin.val).map natv).toArray := by
      apply Array.ext
      · simp [putCells, hds']
      · intro i h1 h2
        have hi : i < n := by simpa [putCells] using h1
        simp [putCells, hds', hi]
        rfl
    rw [e2] at e
    exact e
  · intro w0 hb hle
    refine ⟨hb.os, hb.tape, hb.output, ?_, fun k hk => ?_⟩
    · have : w.heap.size ≤ (sortWorld (fv (n := n)) w gr 0 nn d' os).heap.size := by
        unfold sortWorld
        rw [size_grow, size_putRow]
        show w.heap.size ≤ w.heap.size + _
        omega
      exact Nat.le_trans hb.size this
    · have := hb.size
      rw [hheap nn os d' k (by omega) (by omega)]
      exact hb.block k hk
theorem ins_none (p : Option Addr) (cap : Nat) (f : Value) (w : World) : Calls Try.prog 86 #[.slice p 0 cap, .int .i64 0, .int .i64 0, f] w fun e w' => e = .returned (.tuple #[]) ∧ w = w' := by
  go_enter Try.func86, Try.ntmps86
  go_wp2_with fail
  go_loop [8, 9] (fun i _ => i = .int .i64 1) (fun _ _ => 0)
  case atStart => rfl
  case round =>
    subst hrel
    go_wp2_with fail
    go_end0
    exact ⟨rfl, rfl⟩
theorem pdq_none (p : Option Addr) (cap : Nat) (l : Value) (f : Value) (w : World) : Calls Try.prog 77 #[.slice p 0 cap, .int .i64 0, .int .i64 0, l, f] w fun e w' => e = .returned (.tuple #[]) ∧ w = w' := by
  have h := ins_none p cap f
  go_enter Try.func77, Try.ntmps77
  go_wp2_with fail
  go_loop [1, 2, 3, 10, 11, 12, 13, 14, 15, 16, 17, 18, 19, 20] (fun a b _ _ _ _ _ _ _ _ _ _ _ _ => a = .int .i64 0 ∧ b = .int .i64 0) (fun _ _ _ _ _ _ _ _ _ _ _ _ _ _ => 0)
  case atStart => exact ⟨rfl, rfl⟩
  case round =>
    obtain ⟨rfl, rfl⟩ := hrel
    go_wp2_with fail
    refine (h _).mono ?_
    rintro e w2 ⟨rfl, rfl⟩
    go_wp2_with fail
    refine bodyPost_ret (results_none rfl _ _ _) rfl ?_
    exact ⟨rfl, rfl⟩
theorem lenI_any (w : World) : Calls Try.prog 78 #[.int .u64 0] w fun e w' => (∃ v, e = .returned v) ∧ w = w' := by
  have h := Root.len64_any 0 (by decide) w
  go_enter Try.func78, Try.ntmps78
  go_wp2_with fail
  refine h.mono ?_
  rintro e w2 ⟨rfl, rfl⟩
  go_wp2_with fail
  go_ret
  exact ⟨⟨_, rfl⟩, rfl⟩
theorem sort_none (p : Option Addr) (cap : Nat) (f : Value) (w : World) : Calls Try.prog 66 #[.slice p 0 cap, f] w fun e w' => e = .returned (.tuple #[]) ∧ w = w' := by
  have h1 := lenI_any w
  have h2 := fun l => pdq_none p cap l f w
  go_enter Try.func66, Try.ntmps66
  go_wp2_with fail
  refine h1.mono ?_
  rintro e w2 ⟨⟨v, rfl⟩, rfl⟩
  go_wp2_with fail
  refine (h2 _).mono ?_
  rintro e w2 ⟨rfl, rfl⟩
  go_wp2_with fail
  go_end0
  exact ⟨rfl, rfl⟩
theorem sort_any (T : List Int) (n g gt gr : Nat) (hn : T.length = n) (w : World) (hg : w.cell? ⟨g, 0, none⟩ = some (.slice (some ⟨gt, 0, none⟩) n n)) (ht : ∀ i, i < n → w.cell? ⟨gt, i, none⟩ = some (.int .i64 (T.getD i 0))) (hr : Blk w gr 3 ((List.range n).map natv)) (h1 : gr ≠ g) (h2 : gr ≠ gt) (hn2 : n ≤ 100000) :
    Calls Try.prog 66 #[.slice (some ⟨gr, 0, none⟩) n n, .func (.func 67) #[] #[.pointer (some ⟨g, 0, none⟩)]] w (GotS w T gr) := by
  by_cases h0 : n = 0
  · subst h0
    refine (sort_none _ _ _ w).mono ?_
    rintro e w' ⟨rfl, rfl⟩
    exact ⟨rfl, [], ⟨by rw [hn]; exact List.Perm.refl _, fun i j _ hj => by omega⟩, hr, fun w0 hb _ => hb⟩
  · exact sort_pos T n g gt gr hn (by omega) w hg ht hr h1 h2 hn2
end Sur
end Go.Proofs.Ytmiplljcnchjkaa
