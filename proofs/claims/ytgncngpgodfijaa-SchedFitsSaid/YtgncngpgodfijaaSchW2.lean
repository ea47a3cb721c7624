/-
  The walk of sched.Check.
-/
import Derived.Test.YtgncngpgodfijaaSchW
namespace Go.Proofs.Ytgncngpgodfijaa
open Go.RowKit
set_option linter.unusedVariables false
namespace Sch

def pwI (p : Int) : Prop := p = 1 ∨ p = 2 ∨ p = 4 ∨ p = 8 ∨ p = 16 ∨ p = 32 ∨ p = 64
instance (p : Int) : Decidable (pwI p) := by unfold pwI; infer_instance
theorem mask_dec : ∀ p : Nat, p < 65 → 1 ≤ p → ((Go.bits .and .i64 (p : Int) ((p : Int) - 1) == 0) = decide (pwI (p : Int))) := by decide +kernel
theorem mask_pw {p : Int} (h1 : 1 ≤ p) (h2 : p ≤ 64) : (Go.bits .and .i64 p (p - 1) == 0) = decide (pwI p) := by
  have := mask_dec p.toNat (by omega) (by omega)
  rwa [Int.toNat_of_nonneg (by omega)] at this
set_option maxRecDepth 100000 in
set_option maxHeartbeats 2000000 in
theorem scheck_any (A : Option Addr) (L : List Ti) (n cap lo hi : Nat) (room : Int) (w : World) (hrd : RdL w lo hi A (L.flatMap tic)) (hhi : hi ≤ w.heap.size) (hl : L.length = n) (hn : n ≤ maxLen) :
    Calls Try.prog 37 #[.slice A n cap, .int .i64 room] w fun e w' => e = .returned (.int .i64 (code L room)) ∧ Below w.heap.size w w' := by
  have HR := Lib.hid hrd
  have Hl := Lib.hid hl
  have Hhi := Lib.hid hhi
  clear hrd hl hhi
  unfold maxLen at hn
  by_cases h64 : n ≤ 64
  · have d64 : decide ((64 : Int) < (n : Int)) = false := decide_eq_false (by omega)
    by_cases hr : 1 ≤ room ∧ room ≤ 1048576
    · obtain ⟨hr1, hr2⟩ := hr
      have dr1 : decide (room < 1) = false := decide_eq_false (by omega)
      have dr2 : decide ((1048576 : Int) < room) = false := decide_eq_false (by omega)
      go_enter Try.func37, Try.ntmps37
      go_wp2
      go_loopw [6, 18] (fun _ i wr => ∃ k : Nat, k ≤ n ∧ i = .int .i64 (k : Int) ∧ goodTo L k ∧ Below w.heap.size w wr) (fun _ i _ => n - (intOf i).toNat)
      case atStart => exact ⟨0, by omega, rfl, (fun i _ h => by omega), Below.refl _ _⟩
      case round =>
        obtain ⟨k, hk, rfl, hgood, hb⟩ := hrel
        have Hgood := Lib.hid hgood
        clear hgood
        by_cases hlt : k < n
        · have hkl : k < L.length := by rw [Hl.out]; exact hlt
          have hrd := HR.out.below hb (.inl Hhi.out)
          obtain ⟨b, off, rfl, _, _, hbs, _⟩ := hrd.some (by rw [flatMap_len tic 2 tic_len]; omega)
          have hc := hrd.elem tic 2 tic_len hkl
          have c0 : (_ : World).cell? ⟨b, off + k * 2, none⟩ = some (.int .i64 L[k].p) := hc 0 _ (by decide) rfl
          have c1 : (_ : World).cell? ⟨b, off + k * 2 + 1, none⟩ = some (.int .i64 L[k].c) := hc 1 _ (by decide) rfl
          have hnx := fun h0 => goodTo_next Hgood.out hkl h0
          have hat := fun x hx hne => code_at (room := room) (x := x) (by rw [Hl.out]; exact h64) hr1 hr2 Hgood.out hkl hx hne
          have Hnx := Lib.hid hnx
          have Hat := Lib.hid hat
          have hb2 := hb.alloc hb.size (.cells #[.int .i64 L[k].p, .int .i64 L[k].c] 72)
          clear hc hnx hat hrd
          generalize L[k] = t at *
          obtain ⟨p, c⟩ := t
          dsimp only at c0 c1 hb2
          by_cases hp1 : p < 1
          · have e := Hat.out 1 (codeT_p (by dsimp only; omega)) (by decide)
            have E := Lib.hid e
            clear e
            go_wp2
            go_ret
            exact ⟨by rw [E.out]; rfl, hb2⟩
          · by_cases hp2 : 64 < p
            · have e := Hat.out 1 (codeT_p (by dsimp only; omega)) (by decide)
              have E := Lib.hid e
              clear e
              go_wp2
              go_ret
              exact ⟨by rw [E.out]; rfl, hb2⟩
            · have hm := mask_pw (p := p) (by omega) (by omega)
              have u1 : IntKind.i64.wrap (p - 1) = p - 1 := IntWalk.i64_in _ (by omega)
              by_cases hp : pwI p
              · rw [decide_eq_true hp] at hm
                have hm2 : (Go.bits .and .i64 p (p - 1) != 0) = false := by rw [bne, hm]; rfl
                by_cases hc1 : c < 1
                · have e := Hat.out 2 (codeT_c hp (by dsimp only; omega)) (by decide)
                  have E := Lib.hid e
                  clear e hp
                  go_wp2
                  go_ret
                  exact ⟨by rw [E.out]; rfl, hb2⟩
                · by_cases hc2 : 1000 < c
                  · have e := Hat.out 2 (codeT_c hp (by dsimp only; omega)) (by decide)
                    have E := Lib.hid e
                    clear e hp
                    go_wp2
                    go_ret
                    exact ⟨by rw [E.out]; rfl, hb2⟩
                  · have e := Hnx.out (codeT_0 hp (by dsimp only; omega))
                    have E := Lib.hid e
                    clear e hp
                    go_wp2
                    go_roundw
                    case rel => exact ⟨k + 1, by omega, by go_num, E.out, hb2⟩
                    case measure => simp [intOf]; omega
              · rw [decide_eq_false hp] at hm
                have hm2 : (Go.bits .and .i64 p (p - 1) != 0) = true := by rw [bne, hm]; rfl
                have e := Hat.out 1 (codeT_p hp) (by decide)
                have E := Lib.hid e
                clear e hp
                go_wp2
                go_ret
                exact ⟨by rw [E.out]; rfl, hb2⟩
        · obtain rfl : k = n := by omega
          have e := code_all (room := room) (L := L) (by rw [Hl.out]; exact h64) hr1 hr2 (by rw [Hl.out]; exact Hgood.out)
          have E := Lib.hid e
          clear e
          go_wp2
          go_ret
          exact ⟨by rw [E.out]; rfl, hb⟩
    · have e : code L room = 2 := by unfold code; rw [if_neg (by rw [Hl.out]; omega), if_pos (by omega)]
      have E := Lib.hid e
      clear e
      by_cases hr1 : room < 1
      · clear hr
        go_enter Try.func37, Try.ntmps37
        go_wp2
        go_ret
        exact ⟨by rw [E.out]; rfl, Below.refl _ _⟩
      · have hr2 : 1048576 < room := by omega
        clear hr
        go_enter Try.func37, Try.ntmps37
        go_wp2
        go_ret
        exact ⟨by rw [E.out]; rfl, Below.refl _ _⟩
  · have e : code L room = 5 := by unfold code; rw [if_pos (by rw [Hl.out]; omega)]
    have E := Lib.hid e
    clear e
    have i1 : (64 : Int) < (n : Int) := by omega
    go_enter Try.func37, Try.ntmps37
    go_wp2
    go_ret
    exact ⟨by rw [E.out]; rfl, Below.refl _ _⟩
end Sch
end Go.Proofs.Ytgncngpgodfijaa
