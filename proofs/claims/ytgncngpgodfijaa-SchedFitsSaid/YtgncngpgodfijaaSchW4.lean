/-
  The walk of the reference of package sched: has the next task room?
-/
import Derived.Test.YtgncngpgodfijaaSchW3
namespace Go.Proofs.Ytgncngpgodfijaa
open Go.RowKit
set_option linter.unusedVariables false
namespace Sch

theorem fits_false {ts : List Tk} {ks : List Nat} {t : Tk} {room k a : Nat} (ha : a < 64) (hk : a % t.p = k) (hr : room < load ts ks a + t.c) : fits ts ks t room k = false := by
  rw [Bool.eq_false_iff]
  intro h
  have := fits_iff.1 h a ha hk
  omega
set_option maxRecDepth 100000 in
set_option maxHeartbeats 1000000 in
theorem gfits_any (A Ap : Option Addr) (T : List Tk) (ks : List Nat) (t : Tk) (n cap m capp k room lo hi lo' hi' : Nat) (w : World) (hT : RdL w lo hi A (T.flatMap tkc)) (hK : RdL w lo' hi' Ap (iv ks)) (hl : T.length = n) (hm : ks.length = m)
    (ht : T[m]? = some t) (hn : n ≤ 100) (hok : ∀ t ∈ T, okK t) (hroom : room ≤ 1048576) :
    Calls Try.prog 60 #[.slice A n cap, .slice Ap m capp, .int .i64 (k : Int), .int .i64 (room : Int)] w fun e w' => e = .returned (.bool (fits (T.take m) ks t room k)) ∧ Below w.heap.size w w' := by
  have HT := Lib.hid hT
  have HK := Lib.hid hK
  have Hl := Lib.hid hl
  have Hm := Lib.hid hm
  have Hok := Lib.hid hok
  obtain ⟨hml, htm⟩ := List.getElem?_eq_some_iff.1 ht
  have hmn : m < n := by omega
  obtain ⟨hpw, hc1, hc2⟩ := hok t (htm ▸ List.getElem_mem hml)
  have hpp := hpw.pos
  obtain ⟨b, off, rfl, _, _, _, _⟩ := hT.some (by rw [flatMap_len tkc 2 tkc_len]; omega)
  have hc := hT.elem tkc 2 tkc_len hml
  rw [htm] at hc
  have c0 : w.cell? ⟨b, off + m * 2, none⟩ = some (.int .i64 (t.p : Int)) := hc 0 _ (by decide) rfl
  have c1 : w.cell? ⟨b, off + m * 2 + 1, none⟩ = some (.int .i64 (t.c : Int)) := hc 1 _ (by decide) rfl
  have hlo := fun a => load_take (T.take m) (T.drop m) ks a (by rw [hm]; simp; omega)
  rw [List.take_append_drop] at hlo
  have Hlo := Lib.hid hlo
  clear hT hK hl hm hok ht hc hlo htm hml hpw
  obtain ⟨p, c⟩ := t
  dsimp only at *
  have hmi : (m : Int) < (n : Int) := by omega
  go_enter Try.func60, Try.ntmps60
  go_wp2
  go_loopw [10] (fun i wr => ∃ a q : Nat, a ≤ 64 ∧ i = .int .i64 (a : Int) ∧ (∀ a', a' < a → a' % p = k → load (T.take m) ks a' + c ≤ room) ∧ wr = (w.alloc (.cells #[.int .i64 (p : Int), .int .i64 (c : Int)] 67)).drewN q) (fun i _ => 64 - (intOf i).toNat)
  case atStart => exact ⟨0, 0, by omega, rfl, fun a' h => by omega, rfl⟩
  case round =>
    clear c0 c1
    obtain ⟨a, q, ha, rfl, hall, hwr⟩ := hrel
    have HTr : Hid (RdL wr lo hi (some ⟨b, off, none⟩) (T.flatMap tkc)) := by rw [hwr]; exact (HT.out.alloc _).drewN q
    have HKr : Hid (RdL wr lo' hi' Ap (iv ks)) := by rw [hwr]; exact (HK.out.alloc _).drewN q
    have g0 : wr.cell? ⟨w.heap.size, 0, none⟩ = some (.int .i64 (p : Int)) := by rw [hwr]; exact ((Blk.mk w 67 [.int .i64 (p : Int), .int .i64 (c : Int)]).drewN q).cell 0
    have g1 : wr.cell? ⟨w.heap.size, 1, none⟩ = some (.int .i64 (c : Int)) := by rw [hwr]; exact ((Blk.mk w 67 [.int .i64 (p : Int), .int .i64 (c : Int)]).drewN q).cell 1
    have Hwr := Lib.hid hwr
    clear hwr
    have Hall := Lib.hid hall
    clear hall
    by_cases hlt : a < 64
    · obtain ⟨r, hr⟩ : ∃ r, r = a % p := ⟨_, rfl⟩
      have hrm : (a : Int).tmod (p : Int) = (r : Int) := by rw [Int.tmod_eq_emod_of_nonneg (by omega), hr]; rfl
      have hrm2 : (a : Int) % (p : Int) = (r : Int) := by rw [hr]; rfl
      have Hr := Lib.hid hr
      have u1 : IntKind.i64.wrap ((a : Int) % (p : Int)) = (r : Int) := by rw [hrm2]; exact IntWalk.i64_in _ (by have := Nat.mod_lt a (show p > 0 by omega); omega)
      have hp0 : ((p : Int) == 0) = false := by rw [beq_eq_false_iff_ne]; omega
      clear hr
      have Hload := Lib.hid (fun W (hT : RdL W lo hi (some ⟨b, off, none⟩) (T.flatMap tkc)) (hK : RdL W lo' hi' Ap (iv ks)) => gload_any (some ⟨b, off, none⟩) Ap T ks n cap m capp a lo hi lo' hi' W hT hK Hl.out Hm.out (by omega) hn Hok.out hlt)
      have hle := load_le T ks a Hok.out
      rw [Hl.out] at hle
      have Hlo2 := Lib.hid (Hlo.out a)
      by_cases hrk : r = k
      · have e : ((r : Int) == (k : Int)) = true := by rw [beq_iff_eq]; omega
        have Hrk := Lib.hid hrk
        clear hrk
        generalize load T ks a = ld at *
        have u2 : IntKind.i64.wrap ((ld : Int) + (c : Int)) = (ld : Int) + (c : Int) := IntWalk.i64_in _ (by omega)
        by_cases hf : room < ld + c
        · have hfi : (room : Int) < (ld : Int) + (c : Int) := by omega
          have hff : fits (T.take m) ks ⟨p, c⟩ room k = false := fits_false (a := a) hlt (by rw [← Hrk.out]; exact Hr.out.symm) (by rw [← Hlo2.out]; exact hf)
          have Hff := Lib.hid hff
          clear hff
          go_wp2
          go_quiet ((go_at_call 41; exact Calls.quiet_of (Hload.out _ (HTr.out.drewN _) (HKr.out.drewN _))))
          go_wp2
          go_ret
          exact ⟨by rw [Hff.out]; rfl, by rw [Hwr.out]; exact below_drewN (below_drewN (bl w _) _) _⟩
        · have hfi : ¬ (room : Int) < (ld : Int) + (c : Int) := by omega
          go_wp2
          go_quiet ((go_at_call 41; exact Calls.quiet_of (Hload.out _ (HTr.out.drewN _) (HKr.out.drewN _))))
          go_wp2
          go_roundw
          case rel =>
            refine ⟨a + 1, _, by omega, by go_num, fun a' h1 h2 => ?_, by rw [Hwr.out, World.drewN_drewN]⟩
            by_cases e : a' = a
            · subst e; have := Hlo2.out; omega
            · exact Hall.out a' (by omega) h2
          case measure => simp [intOf]; omega
      · have e : ((r : Int) == (k : Int)) = false := by rw [beq_eq_false_iff_ne]; omega
        have Hrk := Lib.hid hrk
        clear hrk
        go_wp2
        go_quiet (fail)
        go_wp2
        go_roundw
        case rel =>
          refine ⟨a + 1, _, by omega, by go_num, fun a' h1 h2 => ?_, by rw [Hwr.out, World.drewN_drewN]⟩
          by_cases e : a' = a
          · subst e; exact absurd (Hr.out.trans h2) Hrk.out
          · exact Hall.out a' (by omega) h2
        case measure => simp [intOf]; omega
    · obtain rfl : a = 64 := by omega
      have hff : fits (T.take m) ks ⟨p, c⟩ room k = true := fits_iff.2 fun a' h1 h2 => Hall.out a' h1 h2
      have Hff := Lib.hid hff
      clear hff
      go_wp2
      go_ret
      exact ⟨by rw [Hff.out]; rfl, by rw [Hwr.out]; exact below_drewN (bl w _) _⟩
end Sch
end Go.Proofs.Ytgncngpgodfijaa
