/-
  The walk of Profile.Add.
-/
import Derived.Test.YtpnafccedgjaeaaProfW2
namespace Go.Proofs.Ytpnafccedgjaeaa
open Go.RowKit
namespace Prof

/-- the greatest of four -/
def mx4 (a b c d : Int) : Int := if d > (if c > (if b > a then b else a) then c else (if b > a then b else a)) then d else (if c > (if b > a then b else a) then c else (if b > a then b else a))
theorem run_max4 {P : Program} (w : World) (ts : Array TypeId) (t : TypeId) (k : IntKind) (a b c d : Int) : (Builtin.max_ ts t #[.int k a, .int k b, .int k c, .int k d]).run P w = .ok (.int k (mx4 a b c d)) w := by
  unfold mx4
  simp [Builtin.max_, Builtin.max2]
theorem mx4_lt (a b g : Int) : mx4 a (-a) b (-b) < g ↔ (a < g ∧ -a < g ∧ b < g ∧ -b < g) := by
  unfold mx4
  omega
theorem near_eq (p : Pr) (hn : 0 < p.n) : near p = (decide (p.x - (last p).dx < p.gap) && decide ((last p).dx - p.x < p.gap) && (decide (p.y - (last p).dy < p.gap) && decide ((last p).dy - p.y < p.gap))) := by
  unfold near nearS
  simp [hn]

set_option maxHeartbeats 2000000 in
theorem add_near (g : Nat) (p : Pr) (z : Int) (w : World) (h : PB w g p) (hk : ok p) (hnr : near p = true) :
    Calls Try.prog 29 #[.pointer (some ⟨g, 0, none⟩), .int .i64 z] w fun e w' => e = .returned (.bool false) ∧ PB w' g p ∧ w.grownBy w' (some g) := by
  have hn : 0 < p.n := by
    unfold near at hnr
    simp at hnr
    exact hnr.1
  rw [near_eq p hn] at hnr
  simp only [Bool.and_eq_true, decide_eq_true_eq] at hnr
  obtain ⟨⟨n1, n2⟩, n3, n4⟩ := hnr
  have hll := (hk.2.2.2.2.2.2 ((p.first + p.n + 63) % 64) (Nat.mod_lt _ (by decide)))
  obtain ⟨⟨l1, l2⟩, ⟨l3, l4⟩, l5, l6⟩ := hll
  have hlast := fun w hw => last_any g p w hw hk
  have e : p.l ((p.first + p.n + 63) % 64) = last p := rfl
  rw [e] at l1 l2 l3 l4 l5 l6
  clear e
  generalize last p = s at *
  obtain ⟨sx, sy, sz⟩ := s
  dsimp only at *
  have Hlast := Lib.hid hlast; clear hlast
  have hg := h.lt
  have H := Lib.hid h
  obtain ⟨_, _, _, c0, c1, c2, c3, c4⟩ := h.cells
  have hnn : (0 : Int) < (p.n : Int) := by omega
  obtain ⟨_, _, ⟨hx1, hx2⟩, ⟨hy1, hy2⟩, hg1, hg2, _⟩ := hk
  clear h
  have hm4 := fun (w : World) (a b c d : Int) => run_max4 (P := Try.prog) w #[2, 2, 2, 2] 2 .i64 a b c d
  have hlt : mx4 (p.x - sx) (-(p.x - sx)) (p.y - sy) (-(p.y - sy)) < p.gap := (mx4_lt _ _ _).2 (by omega)
  go_enter Try.func29, Try.ntmps29
  go_wp2_with fail
  refine (Hlast.out _ H.out).mono ?_
  rintro e w1 ⟨rfl, hb1⟩
  have h1 := H.out.below hb1 hg
  have H1 := Lib.hid h1
  obtain ⟨_, _, _, d0, d1, d2, d3, d4⟩ := (h1.alloc (.cells #[.int .i64 sx, .int .i64 sy, .int .i64 sz] 39)).cells
  clear h1
  unfold Smp.v
  dsimp only
  have w1' : IntKind.i64.wrap (p.x - sx) = p.x - sx := IntWalk.i64_in _ (by omega)
  have w2' : IntKind.i64.wrap (p.y - sy) = p.y - sy := IntWalk.i64_in _ (by omega)
  go_wp2
  go_quiet (fail)
  clear w1' w2'
  go_wp2
  go_ret
  have hbw : Below w.heap.size w ((w1.alloc (.cells #[.int .i64 sx, .int .i64 sy, .int .i64 sz] 39)).drewN nq) := below_drewN (bt hb1 (bl w1 _)) _
  exact ⟨rfl, (H1.out.alloc _).drewN _, only_below hbw _⟩

theorem Fits.setFirst {cs : Array Value} {p : Pr} (h : Fits cs p) (f : Nat) : Fits (cs.setIfInBounds 192 (.int .i64 (f : Int))) { p with first := f } := by
  have hs := h.size
  refine ⟨by simp [hs], fun i hi => ?_, fun i hi => ?_, fun i hi => ?_, ?_, ?_, ?_, ?_, ?_⟩
  · rw [Array.getElem?_setIfInBounds_ne (by omega)]; exact h.dx i hi
  · rw [Array.getElem?_setIfInBounds_ne (by omega)]; exact h.dy i hi
  · rw [Array.getElem?_setIfInBounds_ne (by omega)]; exact h.z i hi
  · rw [Array.getElem?_setIfInBounds_self_of_lt (by omega)]
  · rw [Array.getElem?_setIfInBounds_ne (by omega)]; exact h.n
  · rw [Array.getElem?_setIfInBounds_ne (by omega)]; exact h.x
  · rw [Array.getElem?_setIfInBounds_ne (by omega)]; exact h.y
  · rw [Array.getElem?_setIfInBounds_ne (by omega)]; exact h.gap
theorem Fits.setN {cs : Array Value} {p : Pr} (h : Fits cs p) (m : Nat) : Fits (cs.setIfInBounds 193 (.int .i64 (m : Int))) { p with n := m } := by
  have hs := h.size
  refine ⟨by simp [hs], fun i hi => ?_, fun i hi => ?_, fun i hi => ?_, ?_, ?_, ?_, ?_, ?_⟩
  · rw [Array.getElem?_setIfInBounds_ne (by omega)]; exact h.dx i hi
  · rw [Array.getElem?_setIfInBounds_ne (by omega)]; exact h.dy i hi
  · rw [Array.getElem?_setIfInBounds_ne (by omega)]; exact h.z i hi
  · rw [Array.getElem?_setIfInBounds_ne (by omega)]; exact h.first
  · rw [Array.getElem?_setIfInBounds_self_of_lt (by omega)]
  · rw [Array.getElem?_setIfInBounds_ne (by omega)]; exact h.x
  · rw [Array.getElem?_setIfInBounds_ne (by omega)]; exact h.y
  · rw [Array.getElem?_setIfInBounds_ne (by omega)]; exact h.gap
theorem Fits.setS {cs : Array Value} {p : Pr} (h : Fits cs p) (r : Nat) (hr : r < 64) (s : Smp) :
    Fits (((cs.setIfInBounds (r * 3) (.int .i64 s.dx)).setIfInBounds (r * 3 + 1) (.int .i64 s.dy)).setIfInBounds (r * 3 + 2) (.int .i64 s.z)) { p with l := upd p.l r s } := by
  have hs := h.size
  have ne : ∀ j, j ≠ r * 3 → j ≠ r * 3 + 1 → j ≠ r * 3 + 2 → (((cs.setIfInBounds (r * 3) (.int .i64 s.dx)).setIfInBounds (r * 3 + 1) (.int .i64 s.dy)).setIfInBounds (r * 3 + 2) (.int .i64 s.z))[j]? = cs[j]? := by
    intro j h1 h2 h3
    rw [Array.getElem?_setIfInBounds_ne (by omega), Array.getElem?_setIfInBounds_ne (by omega), Array.getElem?_setIfInBounds_ne (by omega)]
  refine ⟨by simp [hs], fun i hi => ?_, fun i hi => ?_, fun i hi => ?_, ?_, ?_, ?_, ?_, ?_⟩
  · show _ = some (Value.int .i64 (upd p.l r s i).dx)
    unfold upd
    by_cases e : i = r
    · subst e
      rw [if_pos rfl, Array.getElem?_setIfInBounds_ne (by omega), Array.getElem?_setIfInBounds_ne (by omega), Array.getElem?_setIfInBounds_self_of_lt (by omega)]
    · rw [if_neg e, ne _ (by omega) (by omega) (by omega)]; exact h.dx i hi
  · show _ = some (Value.int .i64 (upd p.l r s i).dy)
    unfold upd
    by_cases e : i = r
    · subst e
      rw [if_pos rfl, Array.getElem?_setIfInBounds_ne (by omega), Array.getElem?_setIfInBounds_self_of_lt (by simp; omega)]
    · rw [if_neg e, ne _ (by omega) (by omega) (by omega)]; exact h.dy i hi
  · show _ = some (Value.int .i64 (upd p.l r s i).z)
    unfold upd
    by_cases e : i = r
    · subst e
      rw [if_pos rfl, Array.getElem?_setIfInBounds_self_of_lt (by simp; omega)]
    · rw [if_neg e, ne _ (by omega) (by omega) (by omega)]; exact h.z i hi
  · rw [ne _ (by omega) (by omega) (by omega)]; exact h.first
  · rw [ne _ (by omega) (by omega) (by omega)]; exact h.n
  · rw [ne _ (by omega) (by omega) (by omega)]; exact h.x
  · rw [ne _ (by omega) (by omega) (by omega)]; exact h.y
  · rw [ne _ (by omega) (by omega) (by omega)]; exact h.gap
section
variable {w : World} {g : Nat} {p : Pr}
theorem PB.setFirst (h : PB w g p) (f : Nat) : PB (w.setCell ⟨g, 192, none⟩ (.int .i64 (f : Int))) g { p with first := f } := h.set fun _ hf => hf.setFirst f
theorem PB.setN (h : PB w g p) (m : Nat) : PB (w.setCell ⟨g, 193, none⟩ (.int .i64 (m : Int))) g { p with n := m } := h.set fun _ hf => hf.setN m
theorem PB.setS (h : PB w g p) (r : Nat) (hr : r < 64) (s : Smp) : PB (((w.setCell ⟨g, r * 3, none⟩ (.int .i64 s.dx)).setCell ⟨g, r * 3 + 1, none⟩ (.int .i64 s.dy)).setCell ⟨g, r * 3 + 2, none⟩ (.int .i64 s.z)) g { p with l := upd p.l r s } := by
  obtain ⟨cs, h, hf⟩ := h
  refine ⟨_, ?_, hf.setS r hr s⟩
  exact heap_setCell_same _ g _ _ 42 _ (heap_setCell_same _ g _ _ 42 _ (heap_setCell_same w g _ cs 42 _ h))
end

set_option maxHeartbeats 4000000 in
theorem add_empty (g : Nat) (p : Pr) (z : Int) (w : World) (h : PB w g p) (hk : ok p) (hn : p.n = 0) :
    Calls Try.prog 29 #[.pointer (some ⟨g, 0, none⟩), .int .i64 z] w fun e w' => e = .returned (.bool true) ∧ PB w' g (put p z) ∧ w.grownBy w' (some g) := by
  have hg := h.lt
  have H := Lib.hid h
  obtain ⟨ix, hix⟩ : ∃ ix, ix = (p.first + p.n) % 64 := ⟨_, rfl⟩
  have hix64 : ix < 64 := by omega
  obtain ⟨cd, cy, cz, c0, c1, c2, c3, c4⟩ := h.cells
  have d1 := cd ix hix64
  have d2 := cy ix hix64
  have d3 := cz ix hix64
  clear cd cy cz
  have f := h.free
  obtain ⟨hk1, hk2, _⟩ := hk
  have s1 : IntKind.i64.wrap ((p.first : Int) + 0) = (p.first : Int) := IntWalk.i64_in _ (by omega)
  have s4 : (p.first : Int).tmod 64 = (ix : Int) := by rw [Int.tmod_eq_emod_of_nonneg (by omega)]; omega
  have Hix := Lib.hid hix; clear hix
  have Hn := Lib.hid hn
  rw [hn] at c1
  have hn0 : ((0 : Nat) : Int) = 0 := rfl
  rw [hn0] at c1
  clear hn h hn0
  go_enter Try.func29, Try.ntmps29
  go_wp2
  go_region
  go_wp2
  go_ret
  have e : put p z = { { p with l := upd p.l ix ⟨p.x, p.y, z⟩ } with n := 1 } := by unfold put; rw [← Hix.out, Hn.out]
  refine ⟨rfl, ?_, only_set (only_drew (only_set (only_set (only_set (only_refl _ _) _ _) _ _) _ _)) _ _⟩
  rw [e]
  exact ((H.out.setS ix hix64 ⟨p.x, p.y, z⟩).drew).setN 1

end Prof
end Go.Proofs.Ytpnafccedgjaeaa
