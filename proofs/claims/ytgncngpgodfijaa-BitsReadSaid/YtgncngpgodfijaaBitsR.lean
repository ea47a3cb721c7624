/-
  The walks of bits.Reader.
-/
import Derived.Test.YtgncngpgodfijaaBitsW4
import Derived.Deep.QuietTactic
import Derived.BigQuiet
namespace Go.Proofs.Ytgncngpgodfijaa
open Go.RowKit
namespace Bits

/-- the reader at g has read n bits of the bytes B -/
def RB (w : World) (g : Nat) (B : List UInt8) (n : Nat) (wrong : Bool) : Prop :=
  ∃ A cap, Blk w g 104 [.slice A B.length cap, .int .i64 (n : Int), .bool wrong] ∧ RdL w 0 g A (B.map bv)
section
variable {w w' : World} {g n : Nat} {B : List UInt8} {wrong : Bool}
theorem RB.lt (h : RB w g B n wrong) : g < w.heap.size := by obtain ⟨_, _, h, _⟩ := h; exact h.lt
theorem RB.drewN (h : RB w g B n wrong) (k : Nat) : RB (w.drewN k) g B n wrong := h
theorem RB.drew (h : RB w g B n wrong) : RB w.drew g B n wrong := h
theorem RB.below {b : Nat} (h : RB w g B n wrong) (hb : Below b w w') (hg : g < b) : RB w' g B n wrong := by
  obtain ⟨A, cap, h1, h2⟩ := h
  exact ⟨A, cap, h1.below hb hg, h2.below hb (.inl (by omega))⟩
theorem RB.setN (h : RB w g B n wrong) (m : Nat) : RB (w.setCell ⟨g, 1, none⟩ (.int .i64 (m : Int))) g B m wrong := by
  obtain ⟨A, cap, h1, h2⟩ := h
  exact ⟨A, cap, h1.put 1 _, h2.far (.inr (Nat.le_refl _)) _⟩
theorem RB.setW (h : RB w g B n wrong) (x : Bool) : RB (w.setCell ⟨g, 2, none⟩ (.bool x)) g B n x := by
  obtain ⟨A, cap, h1, h2⟩ := h
  exact ⟨A, cap, h1.put 2 _, h2.far (.inr (Nat.le_refl _)) _⟩
end

set_option maxHeartbeats 400000 in
theorem left_any (g : Nat) (B : List UInt8) (n : Nat) (wrong : Bool) (w : World) (h : RB w g B n wrong) (hn : n ≤ 8 * B.length) (hB : B.length ≤ 100000) :
    Calls Try.prog 32 #[.pointer (some ⟨g, 0, none⟩)] w fun e w' => e = .returned (.int .i64 ((8 * B.length - n : Nat) : Int)) ∧ ∃ k, w' = w.drewN k := by
  obtain ⟨A, cap, h1, _⟩ := h
  have c0 : w.cell? ⟨g, 0, none⟩ = some (.slice A B.length cap) := h1.cell 0
  have c1 : w.cell? ⟨g, 1, none⟩ = some (.int .i64 (n : Int)) := h1.cell 1
  clear h1
  have u1 : IntKind.i64.wrap (8 * (B.length : Int)) = 8 * (B.length : Int) := IntWalk.i64_in _ (by omega)
  have u2 : IntKind.i64.wrap (8 * (B.length : Int) - (n : Int)) = ((8 * B.length - n : Nat) : Int) := by rw [IntWalk.i64_in _ (by omega)]; omega
  go_enter Try.func32, Try.ntmps32
  go_wp2
  go_quiet (fail)
  go_wp2
  go_ret
  exact ⟨rfl, _, rfl⟩

theorem mask_walk (c : UInt8) (n : Nat) : (Go.bits .and .u8 (c.toNat : Int) ((128 : Int) / 2 ^ (n % 8)) == 0) = !cb c (n % 8) := by
  have hlt := c.toNat_lt
  have hr : n % 8 < 8 := Nat.mod_lt _ (by decide)
  unfold cb
  generalize c.toNat = c at *
  generalize n % 8 = r at *
  revert c
  have hc : r = 0 ∨ r = 1 ∨ r = 2 ∨ r = 3 ∨ r = 4 ∨ r = 5 ∨ r = 6 ∨ r = 7 := by omega
  rcases hc with rfl | rfl | rfl | rfl | rfl | rfl | rfl | rfl <;> decide +kernel

set_option maxRecDepth 100000 in
set_option maxHeartbeats 400000 in
theorem rbit_ok (g : Nat) (B : List UInt8) (n : Nat) (w : World) (h : RB w g B n false) (hn : n < 8 * B.length) (hB : B.length ≤ 100000) :
    Calls Try.prog 30 #[.pointer (some ⟨g, 0, none⟩)] w fun e w' => e = .returned (.bool (rb B n)) ∧ RB w' g B (n + 1) false ∧ w.grownBy w' (some g) := by
  have H := Lib.hid h
  obtain ⟨A, cap, h1, h2⟩ := h
  have hk : n / 8 < B.length := by omega
  obtain ⟨b, off, rfl, _, hbg, _, hc⟩ := h2.some (by rw [List.length_map]; omega)
  have q0 : w.cell? ⟨b, off + n / 8, none⟩ = some (.int .u8 (B[n / 8].toNat : Int)) := hc _ _ (by rw [List.getElem?_map, List.getElem?_eq_getElem hk]; rfl)
  have hrb : rb B n = cb B[n / 8] (n % 8) := by unfold rb; rw [List.getD_eq_getElem?_getD, List.getElem?_eq_getElem hk]; rfl
  rw [hrb]
  have c0 : w.cell? ⟨g, 0, none⟩ = some (.slice (some ⟨b, off, none⟩) B.length cap) := h1.cell 0
  have c1 : w.cell? ⟨g, 1, none⟩ = some (.int .i64 (n : Int)) := h1.cell 1
  have c2 : w.cell? ⟨g, 2, none⟩ = some (.bool false) := h1.cell 2
  have f1 := h1.free 1
  have hm := mask_walk B[n / 8] n
  clear h1 h2 hc hrb
  generalize B[n / 8] = c at *
  generalize cb c (n % 8) = bb at *
  have hm2 : (Go.bits .and .u8 (c.toNat : Int) ((128 : Int) / 2 ^ (n % 8)) != 0) = bb := by
    rw [bne, hm]; simp
  have i1 : (n : Int) / 8 < (B.length : Int) := by omega
  have i2 : (0 : Int) ≤ (n : Int) / 8 := by omega
  have i3 : ((n : Int) / 8).toNat = n / 8 := by omega
  have i4 : (0 : Int) ≤ (n : Int) % 8 := by omega
  have i5 : (n : Int) % 8 ≤ 8 := by omega
  have u1 : IntKind.i64.wrap ((n : Int) / 8) = (n : Int) / 8 := IntWalk.i64_in _ (by omega)
  have u2 : (n : Int).tmod 8 = (n : Int) % 8 := Int.tmod_eq_emod_of_nonneg (by omega)
  have d1 : 1 ≤ ((8 * B.length - n : Nat) : Int) := by omega
  have Hhn := Lib.hid hn
  have HBl := Lib.hid hB
  clear hk
  go_enter Try.func30, Try.ntmps30
  go_wp2_with (go_at_call 32; refine (left_any g B n false _ H.out (by have := Hhn.out; omega) HBl.out).mono ?_; rintro e w' ⟨rfl, k, rfl⟩)
  go_quiet (fail)
  go_wp2
  go_ret
  exact ⟨rfl, H.out.setN (n + 1), only_set (only_drewN (only_refl w _) _) 1 _⟩

set_option maxRecDepth 100000 in
set_option maxHeartbeats 400000 in
theorem rbit_no (g : Nat) (B : List UInt8) (n : Nat) (wrong : Bool) (w : World) (h : RB w g B n wrong) (hw : wrong = true ∨ n = 8 * B.length) (hn : n ≤ 8 * B.length) (hB : B.length ≤ 100000) :
    Calls Try.prog 30 #[.pointer (some ⟨g, 0, none⟩)] w fun e w' => e = .returned (.bool false) ∧ RB w' g B n true ∧ w.grownBy w' (some g) := by
  have H := Lib.hid h
  obtain ⟨A, cap, h1, h2⟩ := h
  have c2 : w.cell? ⟨g, 2, none⟩ = some (.bool wrong) := h1.cell 2
  have f2 := h1.free 2
  clear h1 h2
  rcases hw with rfl | hw
  · go_enter Try.func30, Try.ntmps30
    go_wp2
    go_ret
    exact ⟨rfl, H.out.setW true, only_set (only_refl w _) 2 _⟩
  · cases wrong
    · have hz : 8 * B.length - n = 0 := by omega
      have Hz := Lib.hid hz
      clear hz hw
      go_enter Try.func30, Try.ntmps30
      go_wp2_with (go_at_call 32; refine (left_any g B n false _ H.out hn hB).mono ?_; rintro e w' ⟨rfl, k, rfl⟩; rw [Hz.out])
      go_ret
      exact ⟨rfl, (H.out.drewN _).setW true, only_set (only_drewN (only_refl w _) _) 2 _⟩
    · clear hw
      go_enter Try.func30, Try.ntmps30
      go_wp2
      go_ret
      exact ⟨rfl, H.out.setW true, only_set (only_refl w _) 2 _⟩

theorem at_any (g : Nat) (B : List UInt8) (n : Nat) (wrong : Bool) (w : World) (h : RB w g B n wrong) :
    Calls Try.prog 26 #[.pointer (some ⟨g, 0, none⟩)] w fun e w' => e = .returned (.int .i64 (n : Int)) ∧ w = w' := by
  obtain ⟨A, cap, h1, _⟩ := h
  have c1 : w.cell? ⟨g, 1, none⟩ = some (.int .i64 (n : Int)) := h1.cell 1
  clear h1
  go_enter Try.func26, Try.ntmps26
  go_wp2
  go_ret
  exact ⟨rfl, rfl⟩
theorem right_any (g : Nat) (B : List UInt8) (n : Nat) (wrong : Bool) (w : World) (h : RB w g B n wrong) :
    Calls Try.prog 27 #[.pointer (some ⟨g, 0, none⟩)] w fun e w' => e = .returned (.bool (!wrong)) ∧ w = w' := by
  obtain ⟨A, cap, h1, _⟩ := h
  have c1 : w.cell? ⟨g, 2, none⟩ = some (.bool wrong) := h1.cell 2
  clear h1
  go_enter Try.func27, Try.ntmps27
  go_wp2
  go_ret
  exact ⟨rfl, rfl⟩

/-- a new reader of bytes -/
def GotRd (w : World) (B : List UInt8) (e : Ending) (w' : World) : Prop := ∃ g, e = .returned (.pointer (some ⟨g, 0, none⟩)) ∧ RB w' g B 0 false ∧ w.heap.size ≤ g ∧ Below w.heap.size w w'
set_option maxRecDepth 100000 in
set_option maxHeartbeats 400000 in
theorem read_any (A : Option Addr) (B : List UInt8) (n cap lo hi : Nat) (w : World) (h : RdL w lo hi A (B.map bv)) (hn : B.length = n) (hA : A = none → n = 0 ∧ cap = 0) (hl : n ≤ 100000) :
    Calls Try.prog 22 #[.slice A n cap] w (GotRd w B) := by
  obtain ⟨i0, hi', hz0, hz1, hz2⟩ := info_parts infoByte
  have H := Lib.hid h
  have HA := Lib.hid hA
  have Hn := Lib.hid hn
  clear h hA hn
  go_enter Try.func22, Try.ntmps22
  go_wp2_with (at_builtin; refine wpList_append_both rfl _ _ 24 rfl w.heap.size 5 i0 (.int .u8 0) 1 1 Try.underlying24 hi' hz0 hz1 hz2 rfl (by decide) _ 0 [] rfl (own_new w 5 1) A n cap (B.map bv) rfl (by rw [List.length_map, Hn.out]; simp) HA.out (H.out.alloc _).news (bv_one B) (by unfold maxLen; omega) (by omega) (by simp) ?_; intro v' w2 hown hgrow; rw [Nat.zero_add, List.nil_append] at hown; have hown' := hown; obtain ⟨A2, cap2, hv2, hrd2, _, _, _⟩ := own_rd hown'; rw [hv2]; have hsz2 := hgrow.size; simp only [World.size_alloc] at hsz2; have Hrd2 := Lib.hid hrd2; have Hgrow := Lib.hid hgrow; clear hown hown' hv2 hrd2 hgrow)
  go_ret
  refine ⟨_, rfl, ⟨A2, cap2, ?_, ?_⟩, by omega, ?_⟩
  · rw [Hn.out]; exact Blk.mk _ _ _
  · exact (Hrd2.out.alloc _).wide (Nat.zero_le _) (Nat.le_refl _)
  · exact ((bl w _).grown Hgrow.out (by simp) (fun k hk => by injection hk with hk; dsimp only at hk; omega)).alloc (by omega) _
end Bits
end Go.Proofs.Ytgncngpgodfijaa
