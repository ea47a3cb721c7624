/-
  The walks of package sched: a plan in memory; whether a task has room.
-/
import Derived.Test.YtgncngpgodfijaaSchW5
namespace Go.Proofs.Ytgncngpgodfijaa
open Go.RowKit
set_option linter.unusedVariables false
namespace Sch

/-- the cells of a plan -/
def pcells (vt vp : Value) (ld : Nat → Nat) (room : Nat) : List Value := vt :: vp :: ((List.range 64).map (fun (a : Nat) => Value.int .i64 (ld a : Int)) ++ [.int .i64 (room : Int)])
theorem pcells_ld (vt vp : Value) (ld : Nat → Nat) (room a : Nat) (h : a < 64) : (pcells vt vp ld room)[2 + a]? = some (.int .i64 (ld a : Int)) := by
  unfold pcells
  rw [show 2 + a = a + 1 + 1 by omega, List.getElem?_cons_succ, List.getElem?_cons_succ, List.getElem?_append_left (by simpa using h)]
  simp [h]
theorem pcells_room (vt vp : Value) (ld : Nat → Nat) (room : Nat) : (pcells vt vp ld room)[66]? = some (.int .i64 (room : Int)) := by
  unfold pcells
  rw [List.getElem?_cons_succ, List.getElem?_cons_succ, List.getElem?_append_right (by simp)]
  simp
theorem pcells_set (vt vp : Value) (ld : Nat → Nat) (room a x : Nat) (h : a < 64) : (pcells vt vp ld room).set (2 + a) (.int .i64 (x : Int)) = pcells vt vp (fun b => if b = a then x else ld b) room := by
  unfold pcells
  rw [show 2 + a = a + 1 + 1 by omega, List.set_cons_succ, List.set_cons_succ, List.set_append_left _ _ (by simpa using h)]
  congr 3
  apply List.ext_getElem?
  intro i
  rw [List.getElem?_set]
  by_cases e : a = i
  · subst e
    simp [h]
  · rw [if_neg e]
    simp only [List.getElem?_map]
    by_cases hi : i < 64
    · simp [hi, Ne.symm e]
    · simp [hi]
theorem pcells_ext (vt vp : Value) {ld ld' : Nat → Nat} (room : Nat) (h : ∀ a, a < 64 → ld a = ld' a) : pcells vt vp ld room = pcells vt vp ld' room := by
  unfold pcells
  congr 3
  apply List.map_congr_left
  intro a ha
  rw [h a (List.mem_range.1 ha)]
/-- the plan at g holds the tasks ts, by the phases ks -/
structure PB (w : World) (g : Nat) (vt vp : Value) (ts : List Tk) (ks : List Nat) (room : Nat) : Prop where
  blk : Blk w g 107 (pcells vt vp (load ts ks) room)
  own1 : w.ownsRow (g + 1) 72 2 vt ts.length (ts.flatMap tkc)
  own2 : w.ownsRow (g + 1) 3 1 vp ks.length (iv ks)
  ap : Apart vt vp
section
variable {w w' : World} {g : Nat} {vt vp : Value} {ts : List Tk} {ks : List Nat} {room : Nat}
theorem PB.next (h : PB w g vt vp ts ks room) (hb : Below w.heap.size w w') : PB w' g vt vp ts ks room :=
  ⟨h.blk.below hb h.blk.lt, own_next h.own1 hb, own_next h.own2 hb, h.ap⟩
theorem PB.ld (h : PB w g vt vp ts ks room) (a : Nat) (ha : a < 64) : w.cell? ⟨g, 2 + a, none⟩ = some (.int .i64 (load ts ks a : Int)) := (h.blk.cell _).trans (pcells_ld _ _ _ _ _ ha)
theorem PB.rm (h : PB w g vt vp ts ks room) : w.cell? ⟨g, 66, none⟩ = some (.int .i64 (room : Int)) := (h.blk.cell _).trans (pcells_room _ _ _ _)
theorem PB.t0 (h : PB w g vt vp ts ks room) : w.cell? ⟨g, 0, none⟩ = some vt := h.blk.cell 0
theorem PB.t1 (h : PB w g vt vp ts ks room) : w.cell? ⟨g, 1, none⟩ = some vp := h.blk.cell 1
end
set_option maxRecDepth 100000 in
set_option maxHeartbeats 1000000 in
theorem sfits_any (g : Nat) (vt vp : Value) (ts : List Tk) (ks : List Nat) (room p c k : Nat) (w : World) (h : PB w g vt vp ts ks room) (hp : 1 ≤ p ∧ p ≤ 64) (hk : k < p) (hc : c ≤ 1000) (hroom : room ≤ 1048576) (hld : ∀ a, load ts ks a ≤ 100000) :
    Calls Try.prog 64 #[.pointer (some ⟨g, 0, none⟩), .agg #[.int .i64 (p : Int), .int .i64 (c : Int)], .int .i64 (k : Int)] w fun e w' => e = .returned (.bool (fits ts ks ⟨p, c⟩ room k)) ∧ Below w.heap.size w w' := by
  have H := Lib.hid h
  have Hld := Lib.hid hld
  have hg := h.blk.lt
  clear h hld
  go_enter Try.func64, Try.ntmps64
  go_wp2
  go_loopw [7] (fun i wr => ∃ a q : Nat, a % p = k ∧ a < 64 + p ∧ i = .int .i64 (a : Int) ∧ (∀ a', a' < a → a' % p = k → load ts ks a' + c ≤ room) ∧ wr = (w.alloc (.cells #[.int .i64 (p : Int), .int .i64 (c : Int)] 72)).drewN q) (fun i _ => 64 + 64 - (intOf i).toNat)
  case atStart => exact ⟨k, 0, Nat.mod_eq_of_lt hk, by omega, rfl, fun a' h1 h2 => by (rw [Nat.mod_eq_of_lt (by omega)] at h2; omega), rfl⟩
  case round =>
    obtain ⟨a, q, ham, ha, rfl, hall, hwr⟩ := hrel
    have g0 : wr.cell? ⟨w.heap.size, 0, none⟩ = some (.int .i64 (p : Int)) := by rw [hwr]; exact ((Blk.mk w 72 [.int .i64 (p : Int), .int .i64 (c : Int)]).drewN q).cell 0
    have g1 : wr.cell? ⟨w.heap.size, 1, none⟩ = some (.int .i64 (c : Int)) := by rw [hwr]; exact ((Blk.mk w 72 [.int .i64 (p : Int), .int .i64 (c : Int)]).drewN q).cell 1
    have Hr : Hid (PB wr g vt vp ts ks room) := by rw [hwr]; exact (H.out.next (bl w _)).next (below_drewN (Below.refl _ _) q)
    have Hwr := Lib.hid hwr
    have Hall := Lib.hid hall
    have Ham := Lib.hid ham
    clear hwr hall ham
    by_cases hlt : a < 64
    · have c0 := Hr.out.ld a hlt
      have c1 := Hr.out.rm
      have hle := Hld.out a
      have Hla := Lib.hid (Hall.out)
      obtain ⟨ld, hl⟩ : ∃ ld, ld = load ts ks a := ⟨_, rfl⟩
      rw [← hl] at c0 hle
      have HL := Lib.hid hl
      clear hl
      have u2 : IntKind.i64.wrap ((ld : Int) + (c : Int)) = (ld : Int) + (c : Int) := IntWalk.i64_in _ (by omega)
      by_cases hf : room < ld + c
      · have hfi : (room : Int) < (ld : Int) + (c : Int) := by omega
        have hff : fits ts ks ⟨p, c⟩ room k = false := fits_false (a := a) hlt Ham.out (by rw [← HL.out]; exact hf)
        have Hff := Lib.hid hff
        clear hff
        go_wp2
        go_quiet (fail)
        go_wp2
        go_ret
        exact ⟨by rw [Hff.out]; rfl, by rw [Hwr.out]; exact below_drewN (below_drewN (bl w _) _) _⟩
      · have hfi : ¬ (room : Int) < (ld : Int) + (c : Int) := by omega
        go_wp2
        go_quiet (fail)
        go_wp2
        go_roundw
        case rel =>
          refine ⟨a + p, _, by rw [Nat.add_mod_right]; exact Ham.out, by omega, by go_num, fun a' h1 h2 => ?_, by rw [Hwr.out, World.drewN_drewN]⟩
          by_cases e : a' < a
          · exact Hall.out a' e h2
          · by_cases e2 : a' = a
            · subst e2; rw [← HL.out]; omega
            · exfalso
              have h3 := Ham.out
              have d1 := Nat.div_add_mod a' p
              have d2 := Nat.div_add_mod a p
              rw [h2] at d1
              rw [h3] at d2
              have : p * (a' / p) < p * (a / p + 1) := by rw [Nat.mul_add]; omega
              have h4 := Nat.lt_of_mul_lt_mul_left this
              have h5 : p * (a' / p) ≤ p * (a / p) := Nat.mul_le_mul_left p (by omega)
              omega
        case measure => simp [intOf]; omega
    · have hff : fits ts ks ⟨p, c⟩ room k = true := fits_iff.2 fun a' h1 h2 => Hall.out a' (by omega) h2
      have Hff := Lib.hid hff
      clear hff
      go_wp2
      go_ret
      exact ⟨by rw [Hff.out]; rfl, by rw [Hwr.out]; exact below_drewN (bl w _) _⟩
end Sch
end Go.Proofs.Ytgncngpgodfijaa
