/-
  The walk of profile.All.
-/
import Derived.Test.YtpnafccedgjaeaaProfW3d
import Derived.Deep.RegionLaw
import Derived.Deep.AppendLies
namespace Go.Proofs.Ytpnafccedgjaeaa
open Go.RowKit
namespace Prof

def Smp.cs (s : Smp) : List Value := [.int .i64 s.dx, .int .i64 s.dy, .int .i64 s.z]
def flat (L : List Smp) : List Value := L.flatMap Smp.cs
theorem flat_len (L : List Smp) : (flat L).length = L.length * 3 := by
  induction L with
  | nil => rfl
  | cons s L ih => simp only [flat, List.flatMap_cons, List.length_append, List.length_cons] at *; rw [ih]; simp only [Smp.cs, List.length_cons, List.length_nil]; omega
theorem flat_append (a b : List Smp) : flat (a ++ b) = flat a ++ flat b := by simp [flat]
theorem flat_one (s : Smp) : flat [s] = s.cs := by simp [flat]
theorem flat_get : ∀ (L : List Smp) (i : Nat) (h : i < L.length), (flat L)[i * 3]? = some (.int .i64 L[i].dx) ∧ (flat L)[i * 3 + 1]? = some (.int .i64 L[i].dy) ∧ (flat L)[i * 3 + 2]? = some (.int .i64 L[i].z)
  | s :: L, 0, _ => ⟨rfl, rfl, rfl⟩
  | s :: L, i + 1, h => by
    have := flat_get L i (by simpa using h)
    have e : flat (s :: L) = s.cs ++ flat L := by simp [flat]
    rw [e]
    have hl : s.cs.length = 3 := rfl
    refine ⟨?_, ?_, ?_⟩
    · rw [List.getElem?_append_right (by omega), hl, show (i + 1) * 3 - 3 = i * 3 by omega]; exact this.1
    · rw [List.getElem?_append_right (by omega), hl, show (i + 1) * 3 + 1 - 3 = i * 3 + 1 by omega]; exact this.2.1
    · rw [List.getElem?_append_right (by omega), hl, show (i + 1) * 3 + 2 - 3 = i * 3 + 2 by omega]; exact this.2.2
theorem cs_one (s : Smp) : ∀ u ∈ s.cs, u.oneCell' = true := by
  intro u hu
  simp only [Smp.cs, List.mem_cons, List.not_mem_nil, or_false] at hu
  rcases hu with rfl | rfl | rfl <;> rfl

theorem info39 : (Try.prog.info? 39).map (fun i => (i.zero, i.size, i.bytes)) = some (some (.agg #[.int .i64 0, .int .i64 0, .int .i64 0]), 3, 24) := by kernel_rfl
/-- what the call made, from block B on, reads as the heights L -/
def OwnS (w : World) (B : Nat) (v : Value) (n : Nat) (L : List Smp) : Prop := w.ownsRow B 39 3 v n (flat L) ∧ L.length = n
def GotS (w : World) (L : List Smp) (e : Ending) (w' : World) : Prop := (∃ v, e = .returned v ∧ OwnS w' w.heap.size v L.length L) ∧ Below w.heap.size w w'
theorem all_take (p : Pr) (k : Nat) (h : k < p.n) : (all p).take (k + 1) = (all p).take k ++ [p.l ((p.first + k) % 64)] := by
  rw [List.take_add_one, all_get p k h]
  rfl
theorem OwnS.alloc {w : World} {B n : Nat} {v : Value} {L : List Smp} (h : OwnS w B v n L) (o : Obj) : OwnS (w.alloc o) B v n L := ⟨h.1.alloc o, h.2⟩
theorem OwnS.push {w : World} {B n : Nat} {v : Value} {L : List Smp} {s : Smp} (h : w.ownsRow B 39 3 v (n + 1) (flat L ++ s.cs)) (hl : L.length = n) : OwnS w B v (n + 1) (L ++ [s]) :=
  ⟨by rw [flat_append, flat_one]; exact h, by rw [List.length_append, hl]; rfl⟩
theorem news39 (w : World) (s : Smp) : ∀ j u, s.cs[j]? = some u → (w.alloc (.cells #[.int .i64 s.dx, .int .i64 s.dy, .int .i64 s.z] 39)).cell? ((⟨w.heap.size, 0, none⟩ : Addr).add j) = some u :=
  World.news_of_block (heap_alloc_new w (.cells #[.int .i64 s.dx, .int .i64 s.dy, .int .i64 s.z] 39))

set_option maxHeartbeats 1000000 in
theorem all_any (g : Nat) (p : Pr) (w : World) (h : PB w g p) (hk : ok p) :
    Calls Try.prog 34 #[.pointer (some ⟨g, 0, none⟩)] w (GotS w (all p)) := by
  obtain ⟨i0, hi, hz0, hz1, hz2⟩ := info_parts info39
  have H := Lib.hid h
  have hg := h.lt
  obtain ⟨_, _, _, c0, c1, _⟩ := h.cells
  obtain ⟨hk1, hk2, _⟩ := hk
  clear h
  go_enter Try.func34, Try.ntmps34
  go_wp2
  go_loopw [3, 9] (fun v i wr => ∃ k : Nat, k ≤ p.n ∧ i = .int .i64 k ∧ OwnS wr w.heap.size v k ((all p).take k) ∧ Below w.heap.size w wr) (fun _ i _ => p.n - (intOf i).toNat)
  case atStart => exact ⟨0, by omega, rfl, ⟨World.ownsRow_nil w _ _ _, rfl⟩, Below.refl _ _⟩
  case round =>
    obtain ⟨k, hkn, rfl, hown, hb⟩ := hrel
    by_cases hlt : k < p.n
    · have ht := all_take p k hlt
      have hP := H.out.below hb hg
      obtain ⟨ix, hix⟩ : ∃ ix, ix = (p.first + k) % 64 := ⟨_, rfl⟩
      have hix64 : ix < 64 := by omega
      have s1 : IntKind.i64.wrap ((p.first : Int) + (k : Int)) = (p.first : Int) + (k : Int) := IntWalk.i64_in _ (by omega)
      have s4 : ((p.first : Int) + (k : Int)).tmod 64 = (ix : Int) := by rw [Int.tmod_eq_emod_of_nonneg (by omega)]; omega
      rw [← hix] at ht
      have hixi : (ix : Int) < 64 := by omega
      clear hix
      obtain ⟨b1, b2, b3, d0, _⟩ := hP.cells
      replace b1 := b1 ix hix64
      replace b2 := b2 ix hix64
      replace b3 := b3 ix hix64
      clear hP c0 c1
      generalize p.l ix = s at *
      generalize (all p).take k = L at *
      have Ht := Lib.hid ht; clear ht
      have Hown := Lib.hid hown
      go_wp2
      go_region_law ((refine step_append_lies _ (by rfl) (.tmp 12) (.tmp 25) 44 (by rfl) w.heap.size 39 i0 _ 3 24 Try.underlying44 hi hz0 hz1 hz2 rfl (by decide) _ k (flat L) (by rfl) ((OwnS.alloc (w := wr.drew) Hown.out _).1) ⟨wr.heap.size, 0, none⟩ 1 1 s.cs (by rfl) rfl (news39 wr.drew s) (cs_one s) (by decide) (by simp only [maxLen]; omega) (by omega) (by have := hb.size; simp; omega) (wr.heap.size + 1) (by simp) ?_; intro g1 cap1 w2 hown2 hgrow hat hgl))
      have hown2' := OwnS.push hown2 Hown.out.2
      rw [← Ht.out] at hown2'
      have Hown2 := Lib.hid hown2'
      clear hown2 hown2' hat
      go_wp2
      go_roundw
      case rel => exact ⟨k + 1, by omega, by go_num, Hown2.out, ((hb.alloc hb.size _).drew).grown hgrow (by have := hb.size; simp; omega) (own_ge hown.1)⟩
      case measure => simp [intOf]; omega
    · obtain rfl : k = p.n := by omega
      have hall : (all p).take p.n = all p := by rw [← all_len p]; exact List.take_length
      rw [hall] at hown
      have Hown := Lib.hid hown
      clear hown
      go_wp2
      go_ret
      exact ⟨⟨_, rfl, by rw [all_len]; exact Hown.out⟩, hb⟩
end Prof
end Go.Proofs.Ytpnafccedgjaeaa
