/-
  The walks of the reference of package wide: how often a magnitude is in another one, and what is left.
-/
import Derived.Test.YtmiplljcnchjkaaNumD
namespace Go.Proofs.Ytmiplljcnchjkaa
open Go.RowKit
set_option linter.unusedVariables false
namespace Num

theorem bitN_mul (j c k : Nat) : bitN (2 ^ j * c) k = if k < j then 0 else bitN c (k - j) := by
  unfold bitN
  by_cases h : k < j
  · rw [if_pos h]
    have e : 2 ^ j = 2 ^ k * (2 * 2 ^ (j - k - 1)) := by rw [← Nat.pow_succ', ← Nat.pow_add]; congr 1; omega
    rw [e, Nat.mul_assoc, Nat.mul_div_cancel_left _ (Nat.two_pow_pos k), Nat.mul_assoc, Nat.mul_mod_right]
  · rw [if_neg h]
    have e : 2 ^ k = 2 ^ j * 2 ^ (k - j) := by rw [← Nat.pow_add]; congr 1; omega
    rw [e, ← Nat.div_div_eq_div_mul, Nat.mul_div_cancel_left _ (Nat.two_pow_pos j)]
theorem bitN_succ (c i : Nat) : bitN c (i + 1) = bitN (c / 2) i := by
  unfold bitN
  rw [Nat.pow_succ', Nat.div_div_eq_div_mul]
theorem bt_quot {a i : Nat} (hi : i < 129) : (bt (2 ^ (i + 1) * a)).set i (.int .i64 1) = bt (2 ^ i * (2 * a + 1)) := by
  have h := bt_set (2 ^ (i + 1) * a) (2 ^ i * (2 * a + 1)) i 1 hi (fun j hj => by
    rw [bitN_mul, bitN_mul]
    by_cases e : j = i
    · subst e
      rw [if_pos rfl, if_neg (by omega), Nat.sub_self]
      unfold bitN
      rw [Nat.pow_zero, Nat.div_one]
      omega
    · rw [if_neg e]
      by_cases h : j < i
      · rw [if_pos h, if_pos (by omega)]
      · rw [if_neg h, if_neg (by omega)]
        obtain ⟨d, hd⟩ : ∃ d, j - i = d + 1 := ⟨j - i - 1, by omega⟩
        rw [hd, bitN_succ, show (2 * a + 1) / 2 = a by omega, show j - (i + 1) = d by omega])
  exact h
theorem bt_low (r b : Nat) (hb : b < 2) : (bt (2 * r)).set 0 (.int .i64 (b : Int)) = bt (2 * r + b) := by
  refine bt_set _ _ 0 b (by decide) fun j hj => ?_
  by_cases e : j = 0
  · subst e
    rw [if_pos rfl]
    unfold bitN
    rw [Nat.pow_zero, Nat.div_one]
    omega
  · rw [if_neg e]
    obtain ⟨d, rfl⟩ : ∃ d, j = d + 1 := ⟨j - 1, by omega⟩
    rw [bitN_succ, bitN_succ, show (2 * r + b) / 2 = 2 * r / 2 by omega]
/-- what stands in the cells of a division -/
structure DV' (B : World) (g0 g1 g2 g3 g4 g5 X Y P S Q R : Nat) (wr : World) : Prop where
  x : Blk wr g0 30 (bt X)
  y : Blk wr g1 30 (bt Y)
  p : Blk wr g2 30 (bt P)
  s : Blk wr g3 30 (bt S)
  q : Blk wr g4 30 (bt Q)
  r : Blk wr g5 30 (bt R)
  b : Below B.heap.size B wr
section
variable {B wr w' : World} {g0 g1 g2 g3 g4 g5 X Y Q R : Nat}
abbrev DV (B : World) (g0 g1 g2 g3 g4 g5 X Y Q R : Nat) (wr : World) : Prop := DV' B g0 g1 g2 g3 g4 g5 X Y 0 0 Q R wr
theorem DV'.next (S : DV B g0 g1 g2 g3 g4 g5 X Y Q R wr) (h : Below wr.heap.size wr w') : DV B g0 g1 g2 g3 g4 g5 X Y Q R w' :=
  ⟨S.x.next h, S.y.next h, S.p.next h, S.s.next h, S.q.next h, S.r.next h, _root_.Go.Proofs.Ytmiplljcnchjkaa.bt S.b h⟩
/-- the blocks lie one behind the other -/
structure Six (b g0 g1 g2 g3 g4 g5 : Nat) : Prop where
  h0 : b ≤ g0
  h1 : g0 < g1
  h2 : g1 < g2
  h3 : g2 < g3
  h4 : g3 < g4
  h5 : g4 < g5
theorem DV'.setR (S : DV B g0 g1 g2 g3 g4 g5 X Y Q R wr) (H : Six B.heap.size g0 g1 g2 g3 g4 g5) (R' : Nat) : DV B g0 g1 g2 g3 g4 g5 X Y Q R' (wr.setCells g5 0 (bt R')) := by
  obtain ⟨h0, h1, h2, h3, h4, h5⟩ := H
  exact ⟨blk_apart _ _ _ _ S.x (by omega), blk_apart _ _ _ _ S.y (by omega), blk_apart _ _ _ _ S.p (by omega), blk_apart _ _ _ _ S.s (by omega), blk_apart _ _ _ _ S.q (by omega), full_mid S.r _ (by rw [bt_len, bt_len]), below_cells _ _ _ _ S.b (by omega)⟩
theorem DV'.putR (S : DV B g0 g1 g2 g3 g4 g5 X Y Q R wr) (H : Six B.heap.size g0 g1 g2 g3 g4 g5) {R' i b : Nat} (h : (bt R).set i (.int .i64 (b : Int)) = bt R') : DV B g0 g1 g2 g3 g4 g5 X Y Q R' (wr.setCell ⟨g5, i, none⟩ (.int .i64 (b : Int))) := by
  obtain ⟨h0, h1, h2, h3, h4, h5⟩ := H
  refine ⟨S.x.far (p := ⟨g5, i, none⟩) (show g0 ≠ g5 by omega) _, S.y.far (p := ⟨g5, i, none⟩) (show g1 ≠ g5 by omega) _, S.p.far (p := ⟨g5, i, none⟩) (show g2 ≠ g5 by omega) _, S.s.far (p := ⟨g5, i, none⟩) (show g3 ≠ g5 by omega) _, S.q.far (p := ⟨g5, i, none⟩) (show g4 ≠ g5 by omega) _, ?_, S.b.setCell (p := ⟨g5, i, none⟩) (show B.heap.size ≤ g5 by omega) _⟩
  rw [← h]
  exact S.r.put i _
theorem DV'.putQ (S : DV B g0 g1 g2 g3 g4 g5 X Y Q R wr) (H : Six B.heap.size g0 g1 g2 g3 g4 g5) {Q' i : Nat} (h : (bt Q).set i (.int .i64 1) = bt Q') : DV B g0 g1 g2 g3 g4 g5 X Y Q' R (wr.setCell ⟨g4, i, none⟩ (.int .i64 1)) := by
  obtain ⟨h0, h1, h2, h3, h4, h5⟩ := H
  refine ⟨S.x.far (p := ⟨g4, i, none⟩) (show g0 ≠ g4 by omega) _, S.y.far (p := ⟨g4, i, none⟩) (show g1 ≠ g4 by omega) _, S.p.far (p := ⟨g4, i, none⟩) (show g2 ≠ g4 by omega) _, S.s.far (p := ⟨g4, i, none⟩) (show g3 ≠ g4 by omega) _, ?_, S.r.far (p := ⟨g4, i, none⟩) (show g5 ≠ g4 by omega) _, S.b.setCell (p := ⟨g4, i, none⟩) (show B.heap.size ≤ g4 by omega) _⟩
  rw [← h]
  exact S.q.put i _
theorem DV'.setP {P T : Nat} (S : DV' B g0 g1 g2 g3 g4 g5 X Y P T Q R wr) (H : Six B.heap.size g0 g1 g2 g3 g4 g5) (P' : Nat) : DV' B g0 g1 g2 g3 g4 g5 X Y P' T Q R (wr.setCells g2 0 (bt P')) := by
  obtain ⟨h0, h1, h2, h3, h4, h5⟩ := H
  exact ⟨blk_apart _ _ _ _ S.x (by omega), blk_apart _ _ _ _ S.y (by omega), full_mid S.p _ (by rw [bt_len, bt_len]), blk_apart _ _ _ _ S.s (by omega), blk_apart _ _ _ _ S.q (by omega), blk_apart _ _ _ _ S.r (by omega), below_cells _ _ _ _ S.b (by omega)⟩
theorem DV'.setS {P T : Nat} (S : DV' B g0 g1 g2 g3 g4 g5 X Y P T Q R wr) (H : Six B.heap.size g0 g1 g2 g3 g4 g5) (T' : Nat) : DV' B g0 g1 g2 g3 g4 g5 X Y P T' Q R (wr.setCells g3 0 (bt T')) := by
  obtain ⟨h0, h1, h2, h3, h4, h5⟩ := H
  exact ⟨blk_apart _ _ _ _ S.x (by omega), blk_apart _ _ _ _ S.y (by omega), blk_apart _ _ _ _ S.p (by omega), full_mid S.s _ (by rw [bt_len, bt_len]), blk_apart _ _ _ _ S.q (by omega), blk_apart _ _ _ _ S.r (by omega), below_cells _ _ _ _ S.b (by omega)⟩
theorem DV'.there (S : DV B g0 g1 g2 g3 g4 g5 X Y Q R wr) (Z : Nat) : wr.there g5 0 (bt Z).toArray.size := by rw [btA]; exact blk_there S.r 0 129 (by rw [bt_len]; decide)
theorem DV.start (w : World) (X Y : Nat) : DV w w.heap.size (w.heap.size + 1) (w.heap.size + 1 + 1) (w.heap.size + 1 + 1 + 1) (w.heap.size + 1 + 1 + 1 + 1) (w.heap.size + 1 + 1 + 1 + 1 + 1) X Y 0 0 ((((((w.alloc (.cells (bt X).toArray 30)).alloc (.cells (bt Y).toArray 30)).alloc (.cells (bt 0).toArray 30)).alloc (.cells (bt 0).toArray 30)).alloc (.cells (bt 0).toArray 30)).alloc (.cells (bt 0).toArray 30)) := by
  refine ⟨?_, ?_, ?_, ?_, ?_, ?_, ?_⟩
  · exact ((((Blk.mk w 30 (bt X)).alloc _).alloc _).alloc _).alloc _ |>.alloc _
  · have h := (((Blk.mk (w.alloc (.cells (bt X).toArray 30)) 30 (bt Y)).alloc (.cells (bt 0).toArray 30)).alloc (.cells (bt 0).toArray 30)).alloc (.cells (bt 0).toArray 30) |>.alloc (.cells (bt 0).toArray 30)
    rwa [show (w.alloc (.cells (bt X).toArray 30)).heap.size = w.heap.size + 1 by simp] at h
  · have h := ((Blk.mk ((w.alloc (.cells (bt X).toArray 30)).alloc (.cells (bt Y).toArray 30)) 30 (bt 0)).alloc (.cells (bt 0).toArray 30)).alloc (.cells (bt 0).toArray 30) |>.alloc (.cells (bt 0).toArray 30)
    rwa [show ((w.alloc (.cells (bt X).toArray 30)).alloc (.cells (bt Y).toArray 30)).heap.size = w.heap.size + 1 + 1 by simp] at h
  · have h := (Blk.mk (((w.alloc (.cells (bt X).toArray 30)).alloc (.cells (bt Y).toArray 30)).alloc (.cells (bt 0).toArray 30)) 30 (bt 0)).alloc (.cells (bt 0).toArray 30) |>.alloc (.cells (bt 0).toArray 30)
    rwa [show (((w.alloc (.cells (bt X).toArray 30)).alloc (.cells (bt Y).toArray 30)).alloc (.cells (bt 0).toArray 30)).heap.size = w.heap.size + 1 + 1 + 1 by simp] at h
  · have h := (Blk.mk ((((w.alloc (.cells (bt X).toArray 30)).alloc (.cells (bt Y).toArray 30)).alloc (.cells (bt 0).toArray 30)).alloc (.cells (bt 0).toArray 30)) 30 (bt 0)).alloc (.cells (bt 0).toArray 30)
    rwa [show ((((w.alloc (.cells (bt X).toArray 30)).alloc (.cells (bt Y).toArray 30)).alloc (.cells (bt 0).toArray 30)).alloc (.cells (bt 0).toArray 30)).heap.size = w.heap.size + 1 + 1 + 1 + 1 by simp] at h
  · have h := Blk.mk (((((w.alloc (.cells (bt X).toArray 30)).alloc (.cells (bt Y).toArray 30)).alloc (.cells (bt 0).toArray 30)).alloc (.cells (bt 0).toArray 30)).alloc (.cells (bt 0).toArray 30)) 30 (bt 0)
    rwa [show (((((w.alloc (.cells (bt X).toArray 30)).alloc (.cells (bt Y).toArray 30)).alloc (.cells (bt 0).toArray 30)).alloc (.cells (bt 0).toArray 30)).alloc (.cells (bt 0).toArray 30)).heap.size = w.heap.size + 1 + 1 + 1 + 1 + 1 by simp] at h
  · exact _root_.Go.Proofs.Ytmiplljcnchjkaa.bt (bl w _) (_root_.Go.Proofs.Ytmiplljcnchjkaa.bt (bl _ _) (_root_.Go.Proofs.Ytmiplljcnchjkaa.bt (bl _ _) (_root_.Go.Proofs.Ytmiplljcnchjkaa.bt (bl _ _) (_root_.Go.Proofs.Ytmiplljcnchjkaa.bt (bl _ _) (bl _ _)))))
end
/-- one step of a division -/
theorem div_step {X Y i b r a R2 : Nat} (hY0 : 0 < Y) (hb : b = bitN X i) (hr : r = X / 2 ^ (i + 1) % Y) (ha : a = X / 2 ^ (i + 1) / Y) (hR2 : R2 = 2 * r + b) :
    (R2 < Y → X / 2 ^ i / Y = 2 * a ∧ X / 2 ^ i % Y = R2) ∧ (Y ≤ R2 → X / 2 ^ i / Y = 2 * a + 1 ∧ X / 2 ^ i % Y = R2 - Y) := by
  have hdx := div_next X i
  have hbl := bitN_lt X i
  rw [← hb] at hdx hbl
  obtain ⟨A, hA⟩ : ∃ A, A = X / 2 ^ (i + 1) := ⟨_, rfl⟩
  rw [← hA] at hdx hr ha
  have hrY : r < Y := by rw [hr]; exact Nat.mod_lt _ hY0
  have hAe : Y * a + r = A := by rw [ha, hr]; exact Nat.div_add_mod A Y
  subst hR2
  refine ⟨fun h => ?_, fun h => ?_⟩
  · have e : X / 2 ^ i = (2 * r + b) + Y * (2 * a) := by rw [hdx, ← hAe]; rw [show Y * (2 * a) = 2 * (Y * a) by rw [Nat.mul_left_comm]]; omega
    rw [e, Nat.add_mul_div_left _ _ hY0, Nat.div_eq_of_lt h, Nat.add_mul_mod_self_left, Nat.mod_eq_of_lt h]
    exact ⟨Nat.zero_add _, rfl⟩
  · have e : X / 2 ^ i = (2 * r + b - Y) + Y * (2 * a + 1) := by rw [hdx, ← hAe]; rw [show Y * (2 * a + 1) = 2 * (Y * a) + Y by rw [Nat.mul_add, Nat.mul_one, Nat.mul_left_comm]]; omega
    have h2 : 2 * r + b - Y < Y := by omega
    rw [e, Nat.add_mul_div_left _ _ hY0, Nat.div_eq_of_lt h2, Nat.add_mul_mod_self_left, Nat.mod_eq_of_lt h2]
    exact ⟨Nat.zero_add _, rfl⟩
set_option maxRecDepth 100000 in
set_option maxHeartbeats 1000000 in
theorem divide_any (X Y Q R : Nat) (hX : X < 2 ^ 129) (hY0 : 0 < Y) (hY : Y < 2 ^ 128) (hQ : X / Y = Q) (hR : X % Y = R) (w : World) :
    Calls Try.prog 74 #[av X, av Y] w fun e w' => e = .returned (.tuple #[av Q, av R]) ∧ Below w.heap.size w w' := by
  have HY := Lib.hid hY
  have HY0 := Lib.hid hY0
  have HQ := Lib.hid hQ
  have HR := Lib.hid hR
  have hst := Lib.hid (DV.start w X Y)
  have hE : Hid (X / 2 ^ 129 = 0) := Lib.hid (Nat.div_eq_of_lt hX)
  have hsix : Hid (Six w.heap.size w.heap.size (w.heap.size + 1) (w.heap.size + 1 + 1) (w.heap.size + 1 + 1 + 1) (w.heap.size + 1 + 1 + 1 + 1) (w.heap.size + 1 + 1 + 1 + 1 + 1)) := Lib.hid ⟨by omega, by omega, by omega, by omega, by omega, by omega⟩
  have hzA := zeroA
  clear hX hY hQ hR hY0
  unfold av
  go_enter Try.func74, Try.ntmps74
  go_wp2
  generalize (((((w.alloc (.cells (bt X).toArray 30)).alloc (.cells (bt Y).toArray 30)).alloc (.cells (bt 0).toArray 30)).alloc (.cells (bt 0).toArray 30)).alloc (.cells (bt 0).toArray 30)).alloc (.cells (bt 0).toArray 30) = W at *
  clear hzA
  obtain ⟨g5, h5⟩ : ∃ g, g = w.heap.size + 1 + 1 + 1 + 1 + 1 := ⟨_, rfl⟩
  rw [← h5] at hst hsix ⊢
  obtain ⟨g4, h4⟩ : ∃ g, g = w.heap.size + 1 + 1 + 1 + 1 := ⟨_, rfl⟩
  rw [← h4] at hst hsix ⊢
  obtain ⟨g3, h3⟩ : ∃ g, g = w.heap.size + 1 + 1 + 1 := ⟨_, rfl⟩
  rw [← h3] at hst hsix ⊢
  obtain ⟨g2, h2⟩ : ∃ g, g = w.heap.size + 1 + 1 := ⟨_, rfl⟩
  rw [← h2] at hst hsix ⊢
  obtain ⟨g1, h1⟩ : ∃ g, g = w.heap.size + 1 := ⟨_, rfl⟩
  rw [← h1] at hst hsix ⊢
  clear h1 h2 h3 h4 h5
  go_loopw [8] (fun i wr => ∃ (j : Int), -1 ≤ j ∧ j ≤ 128 ∧ i = .int .i64 j ∧ DV w w.heap.size g1 g2 g3 g4 g5 X Y (2 ^ (j + 1).toNat * (X / 2 ^ (j + 1).toNat / Y)) (X / 2 ^ (j + 1).toNat % Y) wr) (fun i _ => (intOf i + 1).toNat)
  case atStart => exact ⟨128, by omega, by omega, rfl, by rw [show ((128 : Int) + 1).toNat = 129 by decide, hE.out, Nat.zero_div, Nat.mul_zero, Nat.zero_mod]; exact hst.out⟩
  case round =>
    clear hst
    obtain ⟨j, hj1, hj2, rfl, S⟩ := hrel
    by_cases h0 : 0 ≤ j
    · obtain ⟨i, rfl⟩ : ∃ i : Nat, j = (i : Int) := ⟨j.toNat, by omega⟩
      rw [show ((i : Int) + 1).toNat = i + 1 by omega] at S
      have i1 : (i : Int) < 129 := by omega
      have u4 : IntKind.i64.wrap ((i : Int) - 1) = (i : Int) - 1 := IntWalk.i64_in _ (by omega)
      obtain ⟨b, hbb⟩ : ∃ b, b = bitN X i := ⟨_, rfl⟩
      obtain ⟨r, hr⟩ : ∃ r, r = X / 2 ^ (i + 1) % Y := ⟨_, rfl⟩
      obtain ⟨a, ha⟩ : ∃ a, a = X / 2 ^ (i + 1) / Y := ⟨_, rfl⟩
      obtain ⟨R2, hR2⟩ : ∃ R2, R2 = 2 * r + b := ⟨_, rfl⟩
      have hds := div_step HY0.out hbb hr ha hR2
      have hrY : r < Y := by rw [hr]; exact Nat.mod_lt _ HY0.out
      have hb := bitN_lt X i
      rw [← hbb] at hb
      have hY128 := HY.out
      have Hsh : Hid ((r + r) % 2 ^ 129 = 2 * r) := Lib.hid (by rw [Nat.mod_eq_of_lt (by omega)]; omega)
      have HR2l : Hid (R2 < 2 ^ 129 ∧ Y < 2 ^ 129) := Lib.hid ⟨by omega, by omega⟩
      have Hlow : Hid ((bt (2 * r)).set 0 (.int .i64 (b : Int)) = bt R2) := Lib.hid (by rw [hR2]; exact bt_low r b hb)
      have HDS := Lib.hid hds
      rw [← ha, ← hr] at S
      have HS := Lib.hid S
      have c0' : (bt X)[i]? = some (.int .i64 (b : Int)) := by rw [hbb]; exact bt_at X i (by omega)
      have C0 := Lib.hid c0'
      clear hds hrY hb hY128 hR2 S hr ha hbb c0'
      go_wp2_with (refine wpList_load_mid rfl 30 _ rfl g5 0 rfl (bt r) _ ?hr Try.underlying30 rfl (infoA3 _) ?_; (case hr => exact arr_range HS.out.r))
      refine (shift_any r (2 * r) Hsh.out _).mono ?_
      rintro e w2 ⟨rfl, hb2⟩
      have HS2 := Lib.hid (HS.out.next hb2)
      have HS3 := Lib.hid (HS2.out.setR hsix.out (2 * r))
      have iD := infoA2 (2 * r)
      have oD := bt_one (2 * r)
      clear hb2 HS
      unfold av
      go_wp2_with (first
        | (refine wpList_store_mid rfl 30 _ _ rfl g5 0 (bt (2 * r)).toArray rfl rfl ?ht iD (all_oneCell_toArray oD) ?_; (case ht => exact HS2.out.there _); generalize w2.setCells g5 0 (bt (2 * r)) = w3 at *; clear HS2 iD oD; have c0 := (HS3.out.x.cell i).trans C0.out; have c5 := (HS3.out.r.cell 0).trans (bt_at _ 0 (by decide)); have f5 := HS3.out.r.free 0; have HS4 := Lib.hid (HS3.out.putR hsix.out Hlow.out))
        | (refine wpList_load_mid rfl 30 _ rfl g5 0 rfl (bt R2) _ ?hr Try.underlying30 rfl (infoA3 _) ?_; (case hr => exact arr_range HS4.out.r))
        | (refine wpList_load_mid rfl 30 _ rfl g1 0 rfl (bt Y) _ ?hr Try.underlying30 rfl (infoA3 _) ?_; (case hr => exact arr_range HS4.out.y)))
      clear HS3 c0 c5 f5
      refine (less_any R2 Y HR2l.out.1 HR2l.out.2 _).mono ?_
      rintro e w5 ⟨rfl, hb5⟩
      have HS5 := Lib.hid (HS4.out.next hb5)
      clear hb5 HS4
      by_cases hlt : R2 < Y
      · have dl : decide (R2 < Y) = true := decide_eq_true hlt
        have hq := HDS.out.1 hlt
        have HS6 : Hid (DV w w.heap.size g1 g2 g3 g4 g5 X Y (2 ^ i * (X / 2 ^ i / Y)) (X / 2 ^ i % Y) w5) := Lib.hid (by
          rw [hq.1, hq.2, show 2 ^ i * (2 * a) = 2 ^ (i + 1) * a by rw [Nat.pow_succ, Nat.mul_assoc]]
          exact HS5.out)
        clear hq hlt HS5
        rw [dl]
        go_wp2_with fail
        go_roundw
        case rel => exact ⟨(i : Int) - 1, by omega, by omega, rfl, by rw [show ((i : Int) - 1 + 1).toNat = i by omega]; exact HS6.out⟩
        case measure => first | (simp [intOf]; done) | (simp [intOf]; omega)
      · have dl : decide (R2 < Y) = false := decide_eq_false hlt
        have hq := HDS.out.2 (by omega)
        have hle : Y ≤ R2 := by omega
        have HS6 : Hid (Y + (R2 - Y) = R2 ∧ R2 - Y < 2 ^ 129) := Lib.hid ⟨by omega, by have := HR2l.out.1; omega⟩
        have HQQ : Hid (X / 2 ^ i / Y = 2 * a + 1 ∧ X / 2 ^ i % Y = R2 - Y) := Lib.hid hq
        obtain ⟨R3, hR3⟩ : ∃ R3, R3 = R2 - Y := ⟨_, rfl⟩
        rw [← hR3] at HS6 HQQ
        clear hq hlt hle hR3
        rw [dl]
        go_wp2_with (first
          | (refine wpList_load_mid rfl 30 _ rfl g5 0 rfl (bt R2) _ ?hr Try.underlying30 rfl (infoA3 _) ?_; (case hr => exact arr_range HS5.out.r))
          | (refine wpList_load_mid rfl 30 _ rfl g1 0 rfl (bt Y) _ ?hr Try.underlying30 rfl (infoA3 _) ?_; (case hr => exact arr_range HS5.out.y)))
        refine (sub_any R2 Y R3 HS6.out.1 HS6.out.2 _).mono ?_
        rintro e w6 ⟨rfl, hb6⟩
        have HS7 := Lib.hid (HS5.out.next hb6)
        have HS8 := Lib.hid (HS7.out.setR hsix.out R3)
        have iD := infoA2 R3
        have oD := bt_one R3
        clear hb6 HS5
        have Hqt : Hid ((bt (2 ^ (i + 1) * a)).set i (.int .i64 1) = bt (2 ^ i * (2 * a + 1))) := Lib.hid (bt_quot (by omega))
        have Hqi : Hid (i < 129) := Lib.hid (by omega)
        unfold av
        go_wp2_with (refine wpList_store_mid rfl 30 _ _ rfl g5 0 (bt R3).toArray rfl rfl ?ht iD (all_oneCell_toArray oD) ?_; (case ht => exact HS7.out.there _); generalize w6.setCells g5 0 (bt R3) = w7 at *; clear HS7 iD oD; have c4 := (HS8.out.q.cell i).trans (bt_at _ i Hqi.out); have f4 := HS8.out.q.free i; have HS9 := Lib.hid (HS8.out.putQ hsix.out Hqt.out))
        go_roundw
        case rel => exact ⟨(i : Int) - 1, by omega, by omega, rfl, by rw [show ((i : Int) - 1 + 1).toNat = i by omega, HQQ.out.1, HQQ.out.2]; exact HS9.out⟩
        case measure => first | (simp [intOf]; done) | (simp [intOf]; omega)
    · have hje : j = -1 := Int.le_antisymm (by omega) hj1
      subst hje
      rw [show ((-1 : Int) + 1).toNat = 0 by decide, Nat.pow_zero, Nat.div_one, Nat.one_mul, HQ.out, HR.out] at S
      have HS := Lib.hid S
      clear S
      go_wp2_with fail
      refine wp_region_held_drew (S := fun w' => w'.rangeAt g4 0 (bt Q) ∧ w'.rangeAt g5 0 (bt R)) (by kernel_rfl) ⟨arr_range HS.out.q, arr_range HS.out.r⟩ (fun hHeld => ?_)
      change wpAnyH _ _ _ _ _ _ _ _ wr.drew
      have HD : Hid (DV w w.heap.size g1 g2 g3 g4 g5 X Y Q R wr.drew) := Lib.hid (HS.out.next ⟨rfl, rfl, rfl, Nat.le_refl _, fun _ _ => rfl⟩)
      clear HS
      generalize wr.drew = wd at *
      refine wpAnyH_take (i := 0) (oi := ⟨some 28, _, _, _, _, _⟩) (v := .agg (bt Q).toArray) rfl (by kernel_rfl) (by kernel_rfl) (by kernel_rfl) (fun _ _ _ h => h) (yieldsIf_load_mid (by rfl) _ _ rfl g4 0 rfl (bt Q) _ (fun w h => h.1) Try.underlying30 rfl (infoA3 _)) (by assumption) ?_
      simp only [Act.put, List.setIfInBounds_toArray, List.set_cons_zero, List.set_cons_succ]
      refine wpAnyH_take (i := 1) (oi := ⟨some 29, _, _, _, _, _⟩) (v := .agg (bt R).toArray) rfl (by kernel_rfl) (by kernel_rfl) (by kernel_rfl) (fun _ _ _ h => h) (yieldsIf_load_mid (by rfl) _ _ rfl g5 0 rfl (bt R) _ (fun w h => h.2) Try.underlying30 rfl (infoA3 _)) (by assumption) ?_
      simp only [Act.put, List.setIfInBounds_toArray, List.set_cons_zero, List.set_cons_succ]
      refine wpAnyH_ready (rs := [2]) (by kernel_rfl) (by simp) ?_
      refine AllReadyH.cons (o := ⟨none, _, _, _, _, _⟩) rfl (fun K hK => ?_) ?_
      · rw [if_pos (by rfl)]
        refine wp_store_mid 30 _ _ rfl g2 0 (bt Q).toArray rfl rfl (by rw [btA]; exact blk_there HD.out.p 0 129 (by rw [bt_len]; decide)) (infoA2 Q) (all_oneCell_toArray (bt_one _)) ?_
        have HE := Lib.hid (HD.out.setP hsix.out Q)
        clear HD
        dsimp only at HE ⊢
        generalize wd.setCells g2 0 (bt Q) = we at *
        refine hK.out _ _ ⟨arr_range HE.out.q, arr_range HE.out.r⟩ (fun hHeld => ?_)
        clear hK K
        refine wpAnyH_ready (rs := [3]) (by kernel_rfl) (by simp) ?_
        refine AllReadyH.cons (o := ⟨none, _, _, _, _, _⟩) rfl (fun K hK => ?_) ?_
        · rw [if_pos (by rfl)]
          refine wp_store_mid 30 _ _ rfl g3 0 (bt R).toArray rfl rfl (by rw [btA]; exact blk_there HE.out.s 0 129 (by rw [bt_len]; decide)) (infoA2 R) (all_oneCell_toArray (bt_one _)) ?_
          have HF := Lib.hid (HE.out.setS hsix.out R)
          clear HE
          dsimp only at HF ⊢
          generalize we.setCells g3 0 (bt R) = wf at *
          refine hK.out _ _ ⟨arr_range HF.out.q, arr_range HF.out.r⟩ (fun hHeld => ?_)
          clear hK K
          refine wpAnyH_done (by kernel_rfl) ?_ _
          go_wp2_with fail
          refine bodyPost_ret (results_row_row rfl _ _ g2 g3 30 30 (bt Q).toArray (bt R).toArray (0, 0) (0, 0) _ _ rfl HF.out.p rfl HF.out.s Try.underlying30 rfl (infoA2 _) Try.underlying30 rfl (infoA2 _)) rfl ?_
          exact ⟨rfl, HF.out.b⟩
        · exact AllReadyH.nil
      · exact AllReadyH.nil
end Num
end Go.Proofs.Ytmiplljcnchjkaa
