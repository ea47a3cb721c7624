/-
  The walks of package sched and of its reference: how tasks read, the checks.
-/
import Derived.Test.YtgncngpgodfijaaChecked
import Derived.Test.YtgncngpgodfijaaRows
import Derived.Test.YtgncngpgodfijaaRow
import Derived.Test.YtgncngpgodfijaaSchQ
import Derived.StillTailTactics
import Derived.Deep.QuietTactic
import Derived.BigQuiet
import Derived.IntWalk
namespace Go.Proofs.Ytgncngpgodfijaa
open Go.RowKit
set_option linter.unusedVariables false
namespace Sch

/-- a task as it is given: whatever numbers -/
structure Ti where
  p : Int
  c : Int
def tic (t : Ti) : List Value := [.int .i64 t.p, .int .i64 t.c]
theorem tic_len (t : Ti) : (tic t).length = 2 := rfl
theorem tic_one (l : List Ti) : ∀ u ∈ l.flatMap tic, u.oneCell' = true := by
  intro u hu
  obtain ⟨t, _, h⟩ := List.mem_flatMap.1 hu
  simp [tic] at h
  rcases h with rfl | rfl <;> rfl
def okT (t : Ti) : Prop := (-9223372036854775808 ≤ t.p ∧ t.p ≤ 9223372036854775807) ∧ (-9223372036854775808 ≤ t.c ∧ t.c ≤ 9223372036854775807)
def TaskSh : Sh := .cat (.int .i64) (.cat (.int .i64) .unit)
theorem open_task {W : World} {cs : List Value} (h : TaskSh.Sat W cs) : ∃ t : Ti, cs = tic t ∧ okT t := by
  obtain ⟨_, _, rfl, ⟨a, rfl, ha⟩, _, _, rfl, ⟨b, rfl, hb⟩, h0⟩ := h
  simp only [Sh.Sat] at h0
  subst h0
  exact ⟨⟨a, b⟩, rfl, bounds_i64 ha, bounds_i64 hb⟩
theorem open_tasks {W : World} {v : Value} (h : VSat W (.slice TaskSh) false v) :
    ∃ A L cap, v = .slice A (List.length L) cap ∧ RdL W 0 W.heap.size A (L.flatMap tic) ∧ (∀ t ∈ L, okT t) ∧ L.length ≤ cap ∧ cap ≤ maxLen ∧ (A = none → L.length = 0 ∧ cap = 0) :=
  open_slice_of tic okT TaskSh 2 rfl tic_len (by decide) (fun cs h => open_task h) h
/-- what is wrong with a task -/
def codeT (t : Ti) : Int := if t.p = 1 ∨ t.p = 2 ∨ t.p = 4 ∨ t.p = 8 ∨ t.p = 16 ∨ t.p = 32 ∨ t.p = 64 then (if 1 ≤ t.c ∧ t.c ≤ 1000 then 0 else 2) else 1
/-- the first thing that is wrong -/
def codeL : List Ti → Int
  | [] => 0
  | t :: l => if codeT t = 0 then codeL l else codeT t
def code (l : List Ti) (room : Int) : Int := if 64 < l.length then 5 else if room < 1 ∨ 1048576 < room then 2 else codeL l
theorem codeL_take (l : List Ti) (k : Nat) (h : k < l.length) (h0 : ∀ i (hi : i < l.length), i < k → codeT l[i] = 0) : codeT l[k] ≠ 0 → codeL l = codeT l[k] := by
  intro hne
  induction l generalizing k with
  | nil => cases h
  | cons t l ih =>
    unfold codeL
    cases k with
    | zero => rw [if_neg (by simpa using hne)]; rfl
    | succ k =>
      rw [if_pos (show codeT t = 0 from h0 0 (by simp) (by omega))]
      exact ih k (by simpa using h) (fun i hi hik => h0 (i + 1) (by simpa using hi) (by omega)) (by simpa using hne)
theorem codeL_none (l : List Ti) (h0 : ∀ i (hi : i < l.length), codeT l[i] = 0) : codeL l = 0 := by
  induction l with
  | nil => rfl
  | cons t l ih =>
    unfold codeL
    rw [if_pos (show codeT t = 0 from h0 0 (by simp))]
    exact ih fun i hi => h0 (i + 1) (by simpa using hi)

/-- all tasks ahead of one are right -/
def goodTo (L : List Ti) (k : Nat) : Prop := ∀ i (hi : i < L.length), i < k → codeT L[i] = 0
theorem goodTo_next {L : List Ti} {k : Nat} (h : goodTo L k) (hk : k < L.length) (h0 : codeT L[k] = 0) : goodTo L (k + 1) := fun i hi hik => by
  by_cases e : i = k
  · subst e; exact h0
  · exact h i hi (by omega)
theorem code_at {L : List Ti} {k : Nat} {room x : Int} (h64 : L.length ≤ 64) (hr1 : 1 ≤ room) (hr2 : room ≤ 1048576) (h : goodTo L k) (hk : k < L.length) (hx : codeT L[k] = x) (hne : x ≠ 0) : code L room = x := by
  unfold code
  rw [if_neg (by omega), if_neg (by omega), codeL_take L k hk h (by rw [hx]; exact hne), hx]
theorem code_all {L : List Ti} {room : Int} (h64 : L.length ≤ 64) (hr1 : 1 ≤ room) (hr2 : room ≤ 1048576) (h : goodTo L L.length) : code L room = 0 := by
  unfold code
  rw [if_neg (by omega), if_neg (by omega), codeL_none L fun i hi => h i hi hi]
theorem codeT_p {t : Ti} (h : ¬ (t.p = 1 ∨ t.p = 2 ∨ t.p = 4 ∨ t.p = 8 ∨ t.p = 16 ∨ t.p = 32 ∨ t.p = 64)) : codeT t = 1 := by unfold codeT; rw [if_neg h]
theorem codeT_c {t : Ti} (h : t.p = 1 ∨ t.p = 2 ∨ t.p = 4 ∨ t.p = 8 ∨ t.p = 16 ∨ t.p = 32 ∨ t.p = 64) (hc : ¬ (1 ≤ t.c ∧ t.c ≤ 1000)) : codeT t = 2 := by unfold codeT; rw [if_pos h, if_neg hc]
theorem codeT_0 {t : Ti} (h : t.p = 1 ∨ t.p = 2 ∨ t.p = 4 ∨ t.p = 8 ∨ t.p = 16 ∨ t.p = 32 ∨ t.p = 64) (hc : 1 ≤ t.c ∧ t.c ≤ 1000) : codeT t = 0 := by unfold codeT; rw [if_pos h, if_pos hc]

set_option maxRecDepth 100000 in
set_option maxHeartbeats 2000000 in
theorem gcheck_any (A : Option Addr) (L : List Ti) (n cap lo hi : Nat) (room : Int) (w : World) (hrd : RdL w lo hi A (L.flatMap tic)) (hl : L.length = n) (hn : n ≤ maxLen) :
    Calls Try.prog 36 #[.slice A n cap, .int .i64 room] w fun e w' => e = .returned (.int .i64 (code L room)) ∧ w = w' := by
  have HR := Lib.hid hrd
  have Hl := Lib.hid hl
  clear hrd hl
  unfold maxLen at hn
  by_cases h64 : n ≤ 64
  · have d64 : decide ((64 : Int) < (n : Int)) = false := decide_eq_false (by omega)
    by_cases hr : 1 ≤ room ∧ room ≤ 1048576
    · obtain ⟨hr1, hr2⟩ := hr
      have dr1 : decide (room < 1) = false := decide_eq_false (by omega)
      have dr2 : decide ((1048576 : Int) < room) = false := decide_eq_false (by omega)
      go_enter Try.func36, Try.ntmps36
      go_wp2
      go_loop [5, 6] (fun i _ => ∃ k : Nat, k ≤ n ∧ i = .int .i64 (k : Int) ∧ goodTo L k) (fun i _ => n - (intOf i).toNat)
      case atStart => exact ⟨0, by omega, rfl, fun i _ h => by omega⟩
      case round =>
        obtain ⟨k, hk, rfl, hgood⟩ := hrel
        have Hgood := Lib.hid hgood
        clear hgood
        by_cases hlt : k < n
        · have hkl : k < L.length := by rw [Hl.out]; exact hlt
          obtain ⟨b, off, rfl, _, _, _, _⟩ := HR.out.some (by rw [flatMap_len tic 2 tic_len]; omega)
          have hc := HR.out.elem tic 2 tic_len hkl
          have c0 : w.cell? ⟨b, off + k * 2, none⟩ = some (.int .i64 L[k].p) := hc 0 _ (by decide) rfl
          have c1 : w.cell? ⟨b, off + k * 2 + 1, none⟩ = some (.int .i64 L[k].c) := hc 1 _ (by decide) rfl
          have hnx := fun h0 => goodTo_next Hgood.out hkl h0
          have hat := fun x hx hne => code_at (room := room) (x := x) (by rw [Hl.out]; exact h64) hr1 hr2 Hgood.out hkl hx hne
          have Hnx := Lib.hid hnx
          have Hat := Lib.hid hat
          clear hc hnx hat
          generalize L[k] = t at *
          obtain ⟨p, c⟩ := t
          dsimp only at c0 c1
          by_cases hp : p = 1 ∨ p = 2 ∨ p = 4 ∨ p = 8 ∨ p = 16 ∨ p = 32 ∨ p = 64
          · have Hp := Lib.hid hp
            rcases hp with rfl | rfl | rfl | rfl | rfl | rfl | rfl
            all_goals
              by_cases hc1 : c < 1
              · have e := Hat.out 2 (codeT_c Hp.out (by dsimp only; omega)) (by decide)
                have E := Lib.hid e
                clear e
                go_wp2
                go_ret
                exact ⟨by rw [E.out]; rfl, rfl⟩
              · by_cases hc2 : 1000 < c
                · have e := Hat.out 2 (codeT_c Hp.out (by dsimp only; omega)) (by decide)
                  have E := Lib.hid e
                  clear e
                  go_wp2
                  go_ret
                  exact ⟨by rw [E.out]; rfl, rfl⟩
                · have e := Hnx.out (codeT_0 Hp.out (by dsimp only; omega))
                  have E := Lib.hid e
                  clear e
                  go_wp2
                  go_round
                  case rel => exact ⟨k + 1, by omega, by go_num, E.out⟩
                  case measure => simp [intOf]; omega
          · have e := Hat.out 1 (codeT_p hp) (by decide)
            have E := Lib.hid e
            have e1 : (p == 1) = false := by rw [beq_eq_false_iff_ne]; omega
            have e2 : (p == 2) = false := by rw [beq_eq_false_iff_ne]; omega
            have e4 : (p == 4) = false := by rw [beq_eq_false_iff_ne]; omega
            have e8 : (p == 8) = false := by rw [beq_eq_false_iff_ne]; omega
            have e16 : (p == 16) = false := by rw [beq_eq_false_iff_ne]; omega
            have e32 : (p == 32) = false := by rw [beq_eq_false_iff_ne]; omega
            have e64 : (p == 64) = false := by rw [beq_eq_false_iff_ne]; omega
            have f1 : (p != 1) = true := by rw [bne_iff_ne]; omega
            have f2 : (p != 2) = true := by rw [bne_iff_ne]; omega
            have f4 : (p != 4) = true := by rw [bne_iff_ne]; omega
            have f8 : (p != 8) = true := by rw [bne_iff_ne]; omega
            have f16 : (p != 16) = true := by rw [bne_iff_ne]; omega
            have f32 : (p != 32) = true := by rw [bne_iff_ne]; omega
            have f64 : (p != 64) = true := by rw [bne_iff_ne]; omega
            clear e hp
            go_wp2
            go_ret
            exact ⟨by rw [E.out]; rfl, rfl⟩
        · obtain rfl : k = n := by omega
          have e := code_all (room := room) (L := L) (by rw [Hl.out]; exact h64) hr1 hr2 (by rw [Hl.out]; exact Hgood.out)
          have E := Lib.hid e
          clear e
          go_wp2
          go_ret
          exact ⟨by rw [E.out]; rfl, rfl⟩
    · have e : code L room = 2 := by unfold code; rw [if_neg (by rw [Hl.out]; omega), if_pos (by omega)]
      have E := Lib.hid e
      clear e
      by_cases hr1 : room < 1
      · clear hr
        go_enter Try.func36, Try.ntmps36
        go_wp2
        go_ret
        exact ⟨by rw [E.out]; rfl, rfl⟩
      · have hr2 : 1048576 < room := by omega
        clear hr
        go_enter Try.func36, Try.ntmps36
        go_wp2
        go_ret
        exact ⟨by rw [E.out]; rfl, rfl⟩
  · have e : code L room = 5 := by unfold code; rw [if_pos (by rw [Hl.out]; omega)]
    have E := Lib.hid e
    clear e
    have i1 : (64 : Int) < (n : Int) := by omega
    go_enter Try.func36, Try.ntmps36
    go_wp2
    go_ret
    exact ⟨by rw [E.out]; rfl, rfl⟩
end Sch
end Go.Proofs.Ytgncngpgodfijaa
