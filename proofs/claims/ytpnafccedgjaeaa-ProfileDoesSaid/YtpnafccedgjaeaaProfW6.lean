/-
  The walk of profile.Steep.
-/
import Derived.Test.YtpnafccedgjaeaaProfW5
namespace Go.Proofs.Ytpnafccedgjaeaa
open Go.RowKit
namespace Prof

def zB (s : Smp) : Prop := -1099511627776 ≤ s.z ∧ s.z ≤ 1099511627776
def zat (L : List Smp) (k : Nat) : Int := (L.getD k ⟨0, 0, 0⟩).z
def steepTo (L : List Smp) : Nat → Int
  | 0 => 0
  | k + 1 => steepTo L k + max (zat L (k + 1) - zat L k) (-(zat L (k + 1) - zat L k))
def steep (L : List Smp) : Int := steepTo L (L.length - 1)
theorem zat_get (L : List Smp) (k : Nat) (h : k < L.length) : zat L k = L[k].z := by
  unfold zat
  rw [List.getD_eq_getElem?_getD, List.getElem?_eq_getElem h]
  rfl
theorem zat_b (L : List Smp) (hz : ∀ s ∈ L, zB s) (k : Nat) : -1099511627776 ≤ zat L k ∧ zat L k ≤ 1099511627776 := by
  by_cases h : k < L.length
  · rw [zat_get L k h]
    exact hz _ (List.getElem_mem h)
  · unfold zat
    rw [List.getD_eq_getElem?_getD, List.getElem?_eq_none (by omega)]
    show (-1099511627776 : Int) ≤ 0 ∧ (0 : Int) ≤ 1099511627776
    omega
theorem steep_b (L : List Smp) (hz : ∀ s ∈ L, zB s) : ∀ k, 0 ≤ steepTo L k ∧ steepTo L k ≤ k * 2199023255552
  | 0 => by show (0 : Int) ≤ 0 ∧ (0 : Int) ≤ ((0 : Nat) : Int) * _; omega
  | k + 1 => by
    have := steep_b L hz k
    have h1 := zat_b L hz k
    have h2 := zat_b L hz (k + 1)
    unfold steepTo
    omega
theorem run_max2 {P : Program} (w : World) (ts : Array TypeId) (ty : TypeId) (k : IntKind) (a b : Int) :
    (Builtin.max_ ts ty #[.int k a, .int k b]).run P w = .ok (.int k (max a b)) w := by
  have : max a b = if b > a then b else a := by omega
  rw [this]
  simp [Builtin.max_, Builtin.max2]

set_option maxHeartbeats 1000000 in
theorem steep_any (g : Nat) (p : Pr) (w : World) (h : PB w g p) (hk : ok p) (hz : ∀ s ∈ all p, zB s) :
    Calls Try.prog 36 #[.pointer (some ⟨g, 0, none⟩)] w fun e w' => e = .returned (.int .i64 (steep (all p))) ∧ Below w.heap.size w w' := by
  have H := Lib.hid h
  have hg := h.lt
  have Hall := Lib.hid (fun w hw => all_any g p w hw hk)
  have hlen := all_len p
  have hn64 := hk.2.1
  clear h hk
  generalize all p = L at *
  rw [← hlen] at hn64
  clear hlen
  unfold steep
  have Hz := Lib.hid hz; clear hz
  have hm2 := fun (w : World) (a b : Int) => run_max2 (P := Try.prog) w #[2, 2] 2 .i64 a b
  go_enter Try.func36, Try.ntmps36
  go_wp2_with fail
  refine (Hall.out _ H.out).mono ?_
  rintro e w1 ⟨⟨v, rfl, hown⟩, hb1⟩
  obtain ⟨A, cap, rfl, hrd, _, _⟩ := hown.rd
  have Hrd := Lib.hid hrd
  clear hown hrd
  go_wp2
  go_loopw [3, 5] (fun s i wr => ∃ k : Nat, (k = 0 ∨ k + 1 ≤ L.length) ∧ i = .int .i64 ((k : Int) + 1) ∧ s = .int .i64 (steepTo L k) ∧ Below w1.heap.size w1 wr) (fun _ i _ => L.length + 1 - (intOf i).toNat)
  case atStart => exact ⟨0, .inl rfl, rfl, rfl, Below.refl _ _⟩
  case round =>
    obtain ⟨k, hkn, rfl, rfl, hb⟩ := hrel
    by_cases hlt : k + 1 < L.length
    · have hlti : (k : Int) + 1 < (L.length : Int) := by omega
      have hr := Hrd.out.below hb
      obtain ⟨q, rfl, hq, hc⟩ := hr.at (by omega)
      obtain ⟨_, _, c1⟩ := hc k (by omega)
      obtain ⟨_, _, c2⟩ := hc (k + 1) hlt
      clear hc hr
      rw [← zat_get] at c1 c2
      obtain ⟨z1, z2⟩ := zat_b L Hz.out k
      obtain ⟨z3, z4⟩ := zat_b L Hz.out (k + 1)
      obtain ⟨s1, s2⟩ := steep_b L Hz.out k
      have hst : steepTo L (k + 1) = steepTo L k + max (zat L (k + 1) - zat L k) (-(zat L (k + 1) - zat L k)) := rfl
      have Hst := Lib.hid hst; clear hst
      generalize zat L (k + 1) = za at *
      generalize zat L k = zb at *
      generalize steepTo L k = sm at *
      have w0' : IntKind.i64.wrap ((k : Int) + 1 - 1) = (k : Int) := by rw [IntWalk.i64_in _ (by omega)]; omega
      have w1' : IntKind.i64.wrap (za - zb) = za - zb := IntWalk.i64_in _ (by omega)
      have w2' : IntKind.i64.wrap (-(za - zb)) = -(za - zb) := IntWalk.i64_in _ (by omega)
      have w3' : IntKind.i64.wrap (sm + max (za - zb) (-(za - zb))) = sm + max (za - zb) (-(za - zb)) := IntWalk.i64_in _ (by omega)
      have n1 : ((k : Int) + 1).toNat = k + 1 := by omega
      have n2 : (0 : Int) ≤ (k : Int) + 1 := by omega
      have n3 : (k : Int) < (L.length : Int) := by omega
      go_wp2
      go_quiet (fail)
      go_wp2
      go_roundw
      case rel => exact ⟨k + 1, .inr (by omega), by go_num, by rw [Hst.out], below_drewN hb _⟩
      case measure => simp [intOf]; omega
    · have hnlt : ¬ ((k : Int) + 1 < (L.length : Int)) := by omega
      have e : L.length - 1 = k := by omega
      have E := Lib.hid e; clear e
      go_wp2
      go_ret
      exact ⟨by rw [E.out]; rfl, bt hb1 hb⟩
end Prof
end Go.Proofs.Ytpnafccedgjaeaa
