/-
  The walks of the reference of package sched: how full a slot is, whether a task has room.
-/
import Derived.Test.YtgncngpgodfijaaSchW2
namespace Go.Proofs.Ytgncngpgodfijaa
open Go.RowKit
set_option linter.unusedVariables false
namespace Sch

def ti (t : Tk) : Ti := ⟨(t.p : Int), (t.c : Int)⟩
def tkc (t : Tk) : List Value := [.int .i64 (t.p : Int), .int .i64 (t.c : Int)]
theorem tkc_len (t : Tk) : (tkc t).length = 2 := rfl
/-- numbers as values -/
def iv (l : List Nat) : List Value := l.map fun (k : Nat) => Value.int .i64 (k : Int)
theorem iv_len (l : List Nat) : (iv l).length = l.length := by simp [iv]
theorem iv_append (a b : List Nat) : iv (a ++ b) = iv a ++ iv b := by simp [iv]
theorem iv_get (l : List Nat) (i : Nat) (h : i < l.length) : (iv l)[i]? = some (.int .i64 (l[i] : Int)) := by simp [iv, h]
theorem iv_one (l : List Nat) : ∀ u ∈ iv l, u.oneCell' = true := by
  intro u hu
  obtain ⟨c, _, rfl⟩ := List.mem_map.1 hu
  rfl
def okK (t : Tk) : Prop := pw t.p ∧ 1 ≤ t.c ∧ t.c ≤ 1000
theorem load_le : ∀ (ts : List Tk) (ks : List Nat) (a : Nat), (∀ t ∈ ts, okK t) → load ts ks a ≤ 1000 * ts.length
  | [], ks, a, _ => by rw [load_nil_left]; omega
  | t :: ts, [], a, _ => by rw [load_nil_right]; omega
  | t :: ts, k :: ks, a, h => by
    have h1 := load_le ts ks a (fun u hu => h u (List.mem_cons_of_mem _ hu))
    have h2 := (h t (List.mem_cons_self ..)).2.2
    simp only [load, List.length_cons]
    split <;> omega
theorem load_take_succ (ts : List Tk) (ks : List Nat) (a j : Nat) (h : j < ts.length) (h' : j < ks.length) : load (ts.take (j + 1)) (ks.take (j + 1)) a = load (ts.take j) (ks.take j) a + (if a % ts[j].p = ks[j] then ts[j].c else 0) := by
  rw [List.take_succ_eq_append_getElem h, List.take_succ_eq_append_getElem h']
  exact load_snoc _ _ _ _ _ (by simp; omega)
theorem load_take_all (ts : List Tk) (ks : List Nat) (a : Nat) (h : ks.length ≤ ts.length) : load (ts.take ks.length) ks a = load ts ks a := by
  have := load_take (ts.take ks.length) (ts.drop ks.length) ks a (by simp; omega)
  rw [List.take_append_drop] at this
  exact this.symm

set_option maxRecDepth 100000 in
set_option maxHeartbeats 1000000 in
theorem gload_any (A Ap : Option Addr) (T : List Tk) (ks : List Nat) (n cap m capp a lo hi lo' hi' : Nat) (w : World) (hT : RdL w lo hi A (T.flatMap tkc)) (hK : RdL w lo' hi' Ap (iv ks)) (hl : T.length = n) (hm : ks.length = m)
    (hmn : m ≤ n) (hn : n ≤ 100) (hok : ∀ t ∈ T, okK t) (ha : a < 64) :
    Calls Try.prog 41 #[.slice A n cap, .slice Ap m capp, .int .i64 (a : Int)] w fun e w' => e = .returned (.int .i64 (load T ks a : Int)) ∧ ∃ q, w' = w.drewN q := by
  have HT := Lib.hid hT
  have HK := Lib.hid hK
  have Hl := Lib.hid hl
  have Hm := Lib.hid hm
  have Hok := Lib.hid hok
  clear hT hK hl hm hok
  go_enter Try.func41, Try.ntmps41
  go_wp2
  go_loopw [7, 8] (fun s i wr => ∃ j q : Nat, j ≤ m ∧ i = .int .i64 (j : Int) ∧ s = .int .i64 (load (T.take j) (ks.take j) a : Int) ∧ wr = w.drewN q) (fun _ i _ => m - (intOf i).toNat)
  case atStart => exact ⟨0, 0, by omega, rfl, by simp [load], rfl⟩
  case round =>
    obtain ⟨j, q, hj, rfl, rfl, rfl⟩ := hrel
    by_cases hlt : j < m
    · have hjt : j < T.length := by rw [Hl.out]; omega
      have hjk : j < ks.length := by rw [Hm.out]; exact hlt
      obtain ⟨b, off, rfl, _, _, _, _⟩ := HT.out.some (by rw [flatMap_len tkc 2 tkc_len]; omega)
      obtain ⟨b', off', rfl, _, _, _, hck⟩ := HK.out.some (by rw [iv_len]; omega)
      have hc := HT.out.elem tkc 2 tkc_len hjt
      have c0 : w.cell? ⟨b, off + j * 2, none⟩ = some (.int .i64 (T[j].p : Int)) := hc 0 _ (by decide) rfl
      have c1 : w.cell? ⟨b, off + j * 2 + 1, none⟩ = some (.int .i64 (T[j].c : Int)) := hc 1 _ (by decide) rfl
      have d0 := hck j _ (iv_get ks j hjk)
      have hst := load_take_succ T ks a j hjt hjk
      have hle := load_le (T.take j) (ks.take j) a (fun t ht => Hok.out t (List.mem_of_mem_take ht))
      have hle2 : load (T.take j) (ks.take j) a ≤ 100000 := by rw [List.length_take] at hle; omega
      obtain ⟨hpw, hc1, hc2⟩ := Hok.out T[j] (List.getElem_mem _)
      have hpp := hpw.pos
      have Hst := Lib.hid hst
      clear hc hck hst hle hpw
      generalize T[j] = t at *
      generalize ks[j] = kj at *
      generalize load (T.take j) (ks.take j) a = ld at *
      obtain ⟨p, c⟩ := t
      dsimp only at *
      obtain ⟨r, hr⟩ : ∃ r, r = a % p := ⟨_, rfl⟩
      have hrm : (a : Int).tmod (p : Int) = (r : Int) := by rw [Int.tmod_eq_emod_of_nonneg (by omega), hr]; rfl
      have hrm2 : (a : Int) % (p : Int) = (r : Int) := by rw [hr]; rfl
      have hjn : (j : Int) < (n : Int) := by omega
      have Hr := Lib.hid hr
      clear hr
      have u1 : IntKind.i64.wrap ((a : Int) % (p : Int)) = (r : Int) := by rw [hrm2]; exact IntWalk.i64_in _ (by have := Hr.out; have := Nat.mod_lt a (show p > 0 by omega); omega)
      have hp0 : ((p : Int) == 0) = false := by rw [beq_eq_false_iff_ne]; omega
      by_cases hrk : r = kj
      · have e : ((r : Int) == (kj : Int)) = true := by rw [beq_iff_eq]; omega
        have Hrk := Lib.hid hrk
        clear hrk
        go_wp2
        go_quiet (fail)
        go_wp2
        go_roundw
        case rel => exact ⟨j + 1, _, by omega, by go_num, by rw [Hst.out, ← Hr.out, if_pos Hrk.out]; go_num, rfl⟩
        case measure => simp [intOf]; omega
      · have e : ((r : Int) == (kj : Int)) = false := by rw [beq_eq_false_iff_ne]; omega
        have Hrk := Lib.hid hrk
        clear hrk
        go_wp2
        go_quiet (fail)
        go_wp2
        go_roundw
        case rel => exact ⟨j + 1, _, by omega, by go_num, by rw [Hst.out, ← Hr.out, if_neg Hrk.out]; go_num, rfl⟩
        case measure => simp [intOf]; omega
    · obtain rfl : j = m := by omega
      go_wp2
      go_ret
      refine ⟨?_, _, rfl⟩
      have h1 := load_take_all T ks a (by rw [Hl.out, Hm.out]; exact hmn)
      rw [Hm.out] at h1
      rw [List.take_of_length_le (show ks.length ≤ j by rw [Hm.out]; exact Nat.le_refl _), h1]
      rfl
end Sch
end Go.Proofs.Ytgncngpgodfijaa
