/-
  The law RouteReach, walked and joined.
-/
import Derived.Test.YtgncngpgodfijaaRouG
import Derived.Test.YtgncngpgodfijaaRouM
namespace Go.Proofs.Ytgncngpgodfijaa
open Go.RowKit
set_option linter.unusedVariables false
namespace Rou
/-- a field of the statement's, in memory -/
structure FM (w : World) (gb : Nat) (W H : Nat) (n cap lo hi : Nat) (A : Option Addr) (C : List Int) (wr : World) : Prop where
  box : Blk wr gb 80 [.int .i64 (W : Int), .int .i64 (H : Int), .slice A n cap]
  rd : RdL wr lo hi A (C.map iv)
  keep : Below w.heap.size w wr
  hi : hi ≤ wr.heap.size
section
variable {w wr w' : World} {gb W H n cap lo hi : Nat} {A : Option Addr} {C : List Int}
theorem FM.next (S : FM w gb W H n cap lo hi A C wr) (hb : Below wr.heap.size wr w') : FM w gb W H n cap lo hi A C w' := ⟨S.box.next hb, S.rd.next hb, bt S.keep hb, Nat.le_trans S.hi hb.size⟩
theorem FM.drewN (S : FM w gb W H n cap lo hi A C wr) (q : Nat) : FM w gb W H n cap lo hi A C (wr.drewN q) := S.next (below_drewN (Below.refl _ _) q)
theorem FM.cells (S : FM w gb W H n cap lo hi A C wr) : wr.cell? ⟨gb, 0, none⟩ = some (.int .i64 (W : Int)) ∧ wr.cell? ⟨gb, 1, none⟩ = some (.int .i64 (H : Int)) ∧ wr.cell? ⟨gb, 2, none⟩ = some (.slice A n cap) := ⟨S.box.cell 0, S.box.cell 1, S.box.cell 2⟩
end
theorem open_i16 {W : World} {v : Value} (h : VSat W (.slice (.int .i16)) false v) : ∃ (A : Option Addr) (L : List Int) (cap : Nat), v = .slice A L.length cap ∧ RdL W 0 W.heap.size A (L.map zv16) ∧ (∀ x ∈ L, -32768 ≤ x ∧ x ≤ 32767) := by
  obtain ⟨A, L, cap, h1, h2, h3, _⟩ := open_slice_of (fun x : Int => [zv16 x]) (fun x => -32768 ≤ x ∧ x ≤ 32767) (.int .i16) 1 rfl (fun _ => rfl) (by decide) (by
    rintro cs ⟨i, rfl, hi⟩
    exact ⟨i, rfl, bounds_i16 hi⟩) h
  rw [flatMap_one] at h2
  exact ⟨A, L, cap, h1, h2, h3⟩
theorem open_u8 {W : World} {v : Value} (h : VSat W (.int .u8) false v) : ∃ m : Nat, v = .int .u8 (m : Int) ∧ m < 256 := by
  obtain ⟨n, e, hw⟩ := h
  injection e with e
  subst e
  have hb := bounds_u8 hw
  obtain ⟨m, rfl⟩ : ∃ m : Nat, n = (m : Int) := ⟨n.toNat, by omega⟩
  exact ⟨m, rfl, by omega⟩
/-- the law's end: true, and all that was stays -/
def LawEnd (w : World) (e : Ending) (w' : World) : Prop := e = .returned (.bool true) ∧ Below w.heap.size w w'
theorem rcode_ok {W H s : Nat} {C : List Int} (Hk : Ok W H C) (hs : s < W * H) : rcode (W : Int) (H : Int) C (s : Int) = 0 := by
  unfold rcode
  rw [ok_code Hk, if_neg (by decide), if_neg (by have := Hk.len; omega)]
theorem lawReach_out (a b c : Nat) (A : Option Addr) (m cap : Nat) (h : 200 < m) (w : World) :
    Calls Try.prog 11 #[.int .u8 (a : Int), .int .u8 (b : Int), .slice A m cap, .int .u8 (c : Int)] w (LawEnd w) := by
  have d1 : decide (200 < (m : Int)) = true := decide_eq_true (by omega)
  go_enter Try.func11, Try.ntmps11
  go_wp2_with fail
  refine (works39_any _).mono ?_
  rintro e w1 ⟨rfl, hb⟩
  go_wp2
  go_ret
  exact ⟨rfl, hb⟩
set_option maxRecDepth 100000 in
set_option maxHeartbeats 2000000 in
theorem lawReach_core (a b c : Nat) (ha : a < 256) (hb : b < 256) (hc : c < 256) (A0 : Option Addr) (Z : List Int) (m cap0 : Nat) (w : World) (hrd : RdL w 0 w.heap.size A0 (Z.map zv16)) (hl : Z.length = m) (hz : ∀ x ∈ Z, -32768 ≤ x ∧ x ≤ 32767) (hm : m ≤ 200) :
    Calls Try.prog 11 #[.int .u8 (a : Int), .int .u8 (b : Int), .slice A0 m cap0, .int .u8 (c : Int)] w (LawEnd w) := by
  have d1 : decide (200 < (m : Int)) = false := decide_eq_false (by omega)
  have hmade := made_any a b ha hb A0 Z m cap0 0 w.heap.size w hrd hl (by omega) (Nat.le_refl _) hz
  have hok := made_ok a b Z hz
  have hbg := hok.big
  have hln := hok.len
  have hW : madeW a ≤ 12 := by unfold madeW; omega
  have hH : madeW b ≤ 12 := by unfold madeW; omega
  have hWH := Nat.mul_le_mul hW hH
  generalize madeL a b Z = C at *
  generalize madeW a = W at *
  generalize madeW b = H at *
  obtain ⟨n, hn⟩ : ∃ n, n = C.length := ⟨_, rfl⟩
  have hnV : n = W * H := hn.trans hln
  have hn1 : 1 ≤ n := by omega
  have hn2 : n ≤ 144 := by omega
  obtain ⟨s, hs⟩ : ∃ s, s = c % n := ⟨_, rfl⟩
  have hsn : s < n := by rw [hs]; exact Nat.mod_lt _ hn1
  have t1 : (c : Int).tmod (n : Int) = (s : Int) := by rw [tmodN, hs]
  have w0 : IntKind.i64.wrap (c : Int) = (c : Int) := IntWalk.i64_in _ (by omega)
  have w1 : IntKind.i64.wrap (s : Int) = (s : Int) := IntWalk.i64_in _ (by omega)
  have nz : ((n : Int) == 0) = false := by rw [beq_eq_false_iff_ne]; omega
  have nz2 : (n : Int) ≠ 0 := by omega
  have nz3 : n ≠ 0 := by omega
  have HOK := Lib.hid hok
  have HN := Lib.hid hn
  have HV := Lib.hid hnV
  have hcs : c ≤ 255 := by omega
  clear hrd hl hz hok hln hbg hW hH hWH hn hnV hs
  go_enter Try.func11, Try.ntmps11
  go_wp2_with fail
  refine hmade.mono ?_
  rintro e wa ⟨v, rfl, hown, hba⟩
  rw [← HN.out] at hown
  obtain ⟨A, cap, rfl, hra, _, _, _⟩ := own_rd hown
  have S1 : FM w wa.heap.size W H n cap w.heap.size wa.heap.size A C (wa.alloc (.cells #[.int .i64 (W : Int), .int .i64 (H : Int), .slice A n cap] 80)) := ⟨Blk.mk _ _ _, hra.alloc _, hba.alloc hba.size _, by simp⟩
  have HS1 := Lib.hid S1
  have hsz1 := hba.size
  clear hown hba hra S1 hmade
  go_wp2_with fail
  refine (own_any _ _ _ _ _).mono ?_
  rintro e w2 ⟨rfl, hb⟩
  have HS2 := Lib.hid (HS1.out.next hb)
  obtain ⟨p0, p1, p2⟩ := HS2.out.cells
  have hre := reach_any (cap := cap) (W : Int) (H : Int) (s : Int) HS2.out.rd HS2.out.hi
  rw [← HN.out] at hre
  clear hb HS1
  go_wp2_with fail
  refine hre.mono ?_
  rintro e w3 ⟨v, rfl, hb, _, h0⟩
  obtain ⟨D, K, r, bb, hbb, hO, hsol⟩ := h0 (rcode_ok HOK.out (by rw [← HV.out]; exact hsn))
  rw [rcode_ok HOK.out (by rw [← HV.out]; exact hsn)]
  have hsol : Sol W H C s D K r := hsol
  have hlD : D.length = n := hsol.lenD.trans HV.out.symm
  rw [hlD] at hO
  obtain ⟨Ar, cr, rfl, hrr, _, _, _⟩ := own_rd hO
  have HS3 := Lib.hid (HS2.out.next hb)
  have HRR := Lib.hid hrr
  have HSOL := Lib.hid hsol
  have HLD := Lib.hid hlD
  clear p0 p1 p2
  obtain ⟨p0, p1, p2⟩ := HS3.out.cells
  have hure := ureach_any (cap := cap) (s := s) HOK.out HS3.out.rd HS3.out.hi (by rw [← HV.out]; exact hsn)
  rw [← HN.out] at hure
  clear hb h0 hO hsol hrr hre HS2 hlD
  go_wp2_with fail
  refine hure.mono ?_
  rintro e w4 ⟨v, E, rfl, hO, hfix, hb⟩
  obtain rfl := HSOL.out.fix hfix
  rw [HLD.out] at hO
  obtain ⟨Ae, ce, rfl, hre, _, _, _⟩ := own_rd hO
  have HS4 := Lib.hid (HS3.out.next hb)
  have HR4 := Lib.hid (HRR.out.next hb)
  have HE4 := Lib.hid hre
  clear hb hO hfix hre HRR HS3 p0 p1 p2 hure
  obtain ⟨br, orr, rfl, _, _, _, _⟩ := HR4.out.some (by rw [List.length_map, HLD.out]; exact hn1)
  obtain ⟨be, oe, rfl, _, _, _, _⟩ := HE4.out.some (by rw [List.length_map, HLD.out]; exact hn1)
  have d5 : ((n : Int) != (n : Int)) = false := by rw [bne_eq_false_iff_eq]
  go_wp2_with fail
  go_loopw [14] (fun x wr => ∃ i : Nat, x = .int .i64 (i : Int) ∧ i ≤ n ∧ FM w wa.heap.size W H n cap w.heap.size wa.heap.size A C wr ∧ RdL wr bb w3.heap.size (some ⟨br, orr, none⟩) (E.map iv) ∧ RdL wr w3.heap.size w4.heap.size (some ⟨be, oe, none⟩) (E.map iv)) (fun x _ => n - (intOf x).toNat)
  case atStart => exact ⟨0, rfl, by omega, HS4.out, HR4.out, HE4.out⟩
  case round =>
    obtain ⟨i, rfl, hi, hS, hR, hE⟩ := hrel
    by_cases hlt : i < n
    · have dl : decide (i < n) = true := decide_eq_true hlt
      obtain ⟨x, hx⟩ : ∃ x, x = dd E i := ⟨_, rfl⟩
      have c1 : wr.cell? ⟨br, orr + i, none⟩ = some (.int .i64 x) := by rw [hx]; exact cell_dd hR (by rw [HLD.out]; exact hlt)
      have c2 : wr.cell? ⟨be, oe + i, none⟩ = some (.int .i64 x) := by rw [hx]; exact cell_dd hE (by rw [HLD.out]; exact hlt)
      have dx : (x != x) = false := by rw [bne_eq_false_iff_eq]
      have i0 : (0 : Int) ≤ (i : Int) := by omega
      have i1 : (i : Int) < (n : Int) := by omega
      have HS5 := Lib.hid hS
      have HR5 := Lib.hid hR
      have HE5 := Lib.hid hE
      clear hS hR hE hx
      go_wp2_with fail
      go_quiet (fail)
      go_wp2_with fail
      go_roundw
      case rel => exact ⟨i + 1, by go_num, by omega, HS5.out.drewN _, HR5.out.drewN _, HE5.out.drewN _⟩
      case measure => simp [intOf]; omega
    · have dl : decide (i < n) = false := decide_eq_false hlt
      obtain rfl : n = i := by omega
      have HS5 := Lib.hid hS
      clear hS hR hE
      go_wp2_with fail
      refine (works39_any _).mono ?_
      rintro e w6 ⟨rfl, hb⟩
      go_wp2
      go_ret
      exact ⟨rfl, bt HS5.out.keep hb⟩
theorem walkReach (v0 v1 v2 v3 : Value) (W : World) (h0 : VSat W (.int .u8) false v0) (h1 : VSat W (.int .u8) false v1) (h2 : VSat W (.slice (.int .i16)) false v2) (h3 : VSat W (.int .u8) false v3) :
    Calls Try.prog 11 #[v0, v1, v2, v3] W fun e W' => e = .returned (.bool true) ∧ Below W.heap.size W W' := by
  obtain ⟨a, rfl, ha⟩ := open_u8 h0
  obtain ⟨b, rfl, hb⟩ := open_u8 h1
  obtain ⟨A, Z, cap, rfl, hr, hz⟩ := open_i16 h2
  obtain ⟨c, rfl, hc⟩ := open_u8 h3
  by_cases h : 200 < Z.length
  · exact lawReach_out a b c A Z.length cap h W
  · exact lawReach_core a b c ha hb hc A Z Z.length cap W hr rfl hz (by omega)
end Rou
end Go.Proofs.Ytgncngpgodfijaa
