/-
  The walks of crc.Put and of the reference's.
-/
import Derived.Test.YtijijfggppnbpaaCrcW2
namespace Go.Proofs.Ytijijfggppnbpaa
open Go.RowKit
namespace Crc

theorem infoByte : (Try.prog.info? 5).map (fun i => (i.zero, i.size, i.bytes)) = some (some (.int .u8 0), 1, 1) := by kernel_rfl

/-- bytes as values -/
def bv (c : UInt8) : Value := .int .u8 (c.toNat : Int)
/-- what the call made, from block 'base' on, reads as the bytes l -/
def Own (w : World) (base : Nat) (v : Value) (l : List UInt8) : Prop := w.ownsRow base 5 1 v l.length (l.map bv)
theorem own_append {w : World} {base : Nat} {v : Value} {a b : List UInt8} (h : w.ownsRow base 5 1 v (a.length + b.length) (a.map bv ++ b.map bv)) : Own w base v (a ++ b) := by
  unfold Own
  rw [List.length_append, List.map_append]
  exact h
theorem Own.bytes {w : World} {base : Nat} {v : Value} {l : List UInt8} (h : Own w base v l) : ∃ A cap, v = .slice A l.length cap ∧ Bytes w A l ∧ cap ≤ maxLen ∧ (A = none → l.length = 0 ∧ cap = 0) := by
  obtain ⟨hl, h⟩ := h
  rcases h with ⟨rfl, h0⟩ | ⟨g, cap, cur, rfl, hb, hg, hn, hm, hs, ht⟩
  · exact ⟨none, 0, by rw [h0], .inl (List.eq_nil_of_length_eq_zero h0), by simp [maxLen], fun _ => ⟨h0, rfl⟩⟩
  · refine ⟨_, cap, rfl, ?_, hm, fun h => by cases h⟩
    by_cases h0 : l = []
    · exact .inl h0
    · refine .inr ⟨g, 0, rfl, lt_of_block' hg, fun i hi => ?_⟩
      rw [cell_of_row w g (0 + i) cur _ _ hg, ← Array.getElem?_toList, Nat.zero_add]
      have := congrArg (fun x => x[i]?) ht
      simp only [Nat.mul_one, List.getElem?_take, hi, if_true, List.getElem?_map] at this
      rw [this, List.getElem?_eq_getElem hi]
      rfl
where
  lt_of_block' {w : World} {b : Nat} {o : Obj} (h : w.heap[b]? = some o) : b < w.heap.size := by
    rcases Nat.lt_or_ge b w.heap.size with h' | h'
    · exact h'
    · rw [Array.getElem?_eq_none h'] at h; cases h
theorem bv_one (l : List UInt8) : ∀ u ∈ l.map bv, u.oneCell' = true := by
  intro u hu
  obtain ⟨c, _, rfl⟩ := List.mem_map.1 hu
  rfl
theorem Bytes.news {w : World} {A : Option Addr} {l : List UInt8} (h : Bytes w A l) : ∀ ad, A = some ad → ∀ j u, (l.map bv)[j]? = some u → w.cell? (ad.add j) = some u := by
  rintro ad rfl j u hu
  rcases h with rfl | ⟨b, off, e, hb, hc⟩
  · simp at hu
  · injection e with e
    subst e
    have hj : j < l.length := by
      rcases Nat.lt_or_ge j l.length with h' | h'
      · exact h'
      · rw [List.getElem?_eq_none (by simpa using h')] at hu; cases hu
    rw [add_off, hc j hj]
    rw [List.getElem?_map, List.getElem?_eq_getElem hj] at hu
    exact hu

def put (l : List UInt8) : List UInt8 := l ++ le4 (sum l)

theorem byteAt_u (s : BitVec 32) (i : Nat) : u s / 2 ^ (8 * i) % 256 = ((byteAt s i).toNat : Int) := by
  unfold byteAt u
  rw [UInt8.toNat_ofNat']
  have : ((s.toNat : Int)) / 2 ^ (8 * i) = ((s.toNat / 2 ^ (8 * i) : Nat) : Int) := by simp
  rw [this]
  omega

set_option maxHeartbeats 1000000 in
theorem put_any (A : Option Addr) (l : List UInt8) (cap : Nat) (w : World) (hA : Bytes w A l) (hn : A = none → l.length = 0 ∧ cap = 0) (hl : l.length ≤ 1000000) :
    Calls Try.prog 54 #[.slice A l.length cap] w fun e w' => ∃ v, e = .returned v ∧ Own w' w.heap.size v (put l) ∧ Below w.heap.size w w' := by
  obtain ⟨i0, hi, hz0, hz1, hz2⟩ := info_parts infoByte
  have hs0 := byteAt_u (sum l) 0
  have hs1 := byteAt_u (sum l) 1
  have hs2 := byteAt_u (sum l) 2
  have hs3 := byteAt_u (sum l) 3
  simp at hs0 hs1 hs2 hs3
  go_enter Try.func54, Try.ntmps54
  go_wp2_with (first | (go_at_call 69; refine (sum_any _ _ _ _ hA (by unfold maxLen; omega)).mono ?_; rintro e w' ⟨rfl, rfl⟩) | (at_builtin; (refine wpList_append_both rfl (.tmp 6) (.tmp 7) 26 rfl w.heap.size 5 i0 (.int .u8 0) 1 1 Try.underlying26 hi hz0 hz1 hz2 rfl (by decide) _ 0 [] rfl ?o1 A l.length cap (l.map bv) rfl (by simp) hn ?n1 (bv_one l) ?b1 ?b2 ?b3 ?_); rotate_right; intro v1 w1 hown1 hg1) | (at_builtin; refine wpList_append_both rfl (.tmp 8) (.tmp 20) 26 rfl w.heap.size 5 i0 (.int .u8 0) 1 1 Try.underlying26 hi hz0 hz1 hz2 rfl (by decide) _ l.length (l.map bv) rfl ?o2 _ 4 4 ((le4 (sum l)).map bv) rfl rfl (by simp) ?n2 (bv_one _) ?b4 ?b5 ?b6 ?_; rotate_right; intro v2 w2 hown2 hg2))
  · go_ret
    have hw1 : Below w.heap.size w w1 := (bl w _).grown hg1 (by simp) (fun k hk => own_ge (own_new w 5 1) k hk)
    exact ⟨v2, rfl, own_append (b := le4 (sum l)) hown2, (hw1.alloc hw1.size _).grown hg2 (by have := hw1.size; simp; omega) (own_ge hown1)⟩
  case o2 => show World.ownsRow _ _ _ _ v1 _ _; simpa using hown1.alloc _
  case n2 => exact (Blk.mk w1 5 ((le4 (sum l)).map bv)).news
  case b4 => simp only [maxLen]; omega
  case b5 => omega
  case b6 => have := hg1.size; simp at this; simp; omega
  case o1 => exact own_new w _ _
  case n1 => exact (hA.below (bl w _) (Nat.le_refl _)).news
  case b1 => simp only [maxLen]; omega
  case b2 => omega
  case b3 => simp
end Crc
end Go.Proofs.Ytijijfggppnbpaa
