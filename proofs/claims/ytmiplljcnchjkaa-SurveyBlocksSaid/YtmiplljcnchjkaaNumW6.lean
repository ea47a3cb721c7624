/-
  The statement's own sums and squares of numbers.
-/
import Derived.Test.YtmiplljcnchjkaaNumL
namespace Go.Proofs.Ytmiplljcnchjkaa
open Go.RowKit
set_option linter.unusedVariables false
namespace Num

set_option maxRecDepth 100000 in
set_option maxHeartbeats 1000000 in
theorem plus_any (X Y Z : Nat) (hX : X < 2 ^ 128) (hY : Y < 2 ^ 128) (hZ : X + Y = Z) (w : World) :
    Calls Try.prog 22 #[nv false X, nv false Y] w fun e w' => e = .returned (nv false Z) ∧ Below w.heap.size w w' := by
  have add1 := fun w => add_any X Y Z _ hX hY hZ rfl w
  have hzN := zeroN
  obtain ⟨L0, hL0⟩ : ∃ L0, L0 = num false 0 := ⟨_, rfl⟩
  rw [← hL0] at hzN
  have hnl : L0.length = 130 := by rw [hL0]; exact num_len _ _
  have hnl2 : (num false Z).length = L0.length := by rw [hnl]; exact num_len _ _
  have HL0 := Lib.hid hL0
  have Hnl := Lib.hid hnl
  have Hnl2 := Lib.hid hnl2
  have iE := infoN2 false Z
  have oE := num_one false Z
  have k0 := ((Blk.mk w 32 (num false X)).alloc (.cells (num false Y).toArray 32)).alloc (.cells L0.toArray 32)
  have k1 := (Blk.mk (w.alloc (.cells (num false X).toArray 32)) 32 (num false Y)).alloc (.cells L0.toArray 32)
  have k2 := Blk.mk ((w.alloc (.cells (num false X).toArray 32)).alloc (.cells (num false Y).toArray 32)) 32 L0
  have kb := _root_.Go.Proofs.Ytmiplljcnchjkaa.bt (bl w (.cells (num false X).toArray 32)) (_root_.Go.Proofs.Ytmiplljcnchjkaa.bt (bl _ (.cells (num false Y).toArray 32)) (bl _ (.cells L0.toArray 32)))
  rw [show (w.alloc (.cells (num false X).toArray 32)).heap.size = w.heap.size + 1 by simp] at k1
  rw [show ((w.alloc (.cells (num false X).toArray 32)).alloc (.cells (num false Y).toArray 32)).heap.size = w.heap.size + 1 + 1 by simp] at k2
  have R0 := Lib.hid (nums_range k0)
  have R1 := Lib.hid (nums_range k1)
  have K2 := Lib.hid k2
  have KB := Lib.hid kb
  clear hX hY hZ hL0 hnl hnl2 k0 k1 k2 kb
  unfold nv at add1 ⊢
  obtain ⟨LX, hLX⟩ : ∃ L, L = num false X := ⟨_, rfl⟩
  obtain ⟨LY, hLY⟩ : ∃ L, L = num false Y := ⟨_, rfl⟩
  have iX : (Try.prog.info? 32).map (·.size) = some LX.length := by rw [hLX]; exact infoN3 _ _
  have iY : (Try.prog.info? 32).map (·.size) = some LY.length := by rw [hLY]; exact infoN3 _ _
  rw [← hLX] at add1 R0 ⊢
  rw [← hLY] at add1 R1 ⊢
  rw [← hLX] at R1 K2 KB
  rw [← hLY] at R0 K2 KB
  clear hLX hLY
  go_enter Try.func22, Try.ntmps22
  go_wp2_with (first
    | (refine wpList_load_mid rfl 32 _ rfl w.heap.size 0 rfl LX _ ?hr Try.underlying32 rfl iX ?_; (case hr => exact R0.out))
    | (refine wpList_load_mid rfl 32 _ rfl (w.heap.size + 1) 0 rfl LY _ ?hr Try.underlying32 rfl iY ?_; (case hr => exact R1.out)))
  refine (add1 _).mono ?_
  rintro e w5 ⟨rfl, hb5⟩
  have B5 := Lib.hid (_root_.Go.Proofs.Ytmiplljcnchjkaa.bt KB.out hb5)
  have X2 := K2.out.next hb5
  have hs5 := hb5.size
  have hlt2 := X2.lt
  have T5 : Hid ((w5.alloc (.cells L0.toArray 32)).there w5.heap.size 0 (num false Z).toArray.size) := Lib.hid (by rw [numA]; exact blk_there (Blk.mk w5 32 L0) 0 130 (by rw [Hnl.out]; decide))
  have X5 : Hid (Blk ((w5.alloc (.cells L0.toArray 32)).setCells w5.heap.size 0 (num false Z)) w5.heap.size 32 (num false Z)) := Lib.hid (full_mid (Blk.mk w5 32 L0) _ Hnl2.out)
  have X6 : Hid (Blk ((w5.alloc (.cells L0.toArray 32)).setCells w5.heap.size 0 (num false Z)) (w.heap.size + 1 + 1) 32 L0) := Lib.hid (blk_apart _ _ _ _ (X2.alloc _) (by omega))
  have XB : Hid (Below w.heap.size w ((w5.alloc (.cells L0.toArray 32)).setCells w5.heap.size 0 (num false Z))) := Lib.hid (below_cells _ _ _ _ (_root_.Go.Proofs.Ytmiplljcnchjkaa.bt B5.out (bl _ _)) (show w.heap.size ≤ w5.heap.size from B5.out.size))
  clear B5 hb5 X2 hs5 hlt2 R0 R1 K2 KB add1
  go_wp2_with (first
    | (refine wpList_store_mid rfl 32 _ _ rfl w5.heap.size 0 (num false Z).toArray rfl rfl ?ht iE (all_oneCell_toArray oE) ?_; (case ht => exact T5.out); generalize (w5.alloc (.cells L0.toArray 32)).setCells w5.heap.size 0 (num false Z) = w6 at *)
    | (refine wpList_load_mid rfl 32 _ rfl w5.heap.size 0 rfl (num false Z) _ ?hr Try.underlying32 rfl (infoN3 _ _) ?_; (case hr => exact nums_range X5.out))
    | (refine wpList_store_mid rfl 32 _ _ rfl (w.heap.size + 1 + 1) 0 (num false Z).toArray rfl rfl ?ht iE (all_oneCell_toArray oE) ?_; (case ht => (rw [numA]; exact blk_there X6.out 0 130 (by rw [Hnl.out]; decide)))))
  refine bodyPost_ret (results_cell_row rfl _ _ (w.heap.size + 1 + 1) 32 (num false Z).toArray (0, 0) _ rfl (full_mid X6.out _ Hnl2.out) Try.underlying32 rfl (infoN2 _ _)) rfl ?_
  exact ⟨rfl, below_cells _ _ _ _ XB.out (by omega)⟩
theorem halves (k : Nat) (hk : k < 18446744073709551616) : (k : Int).tdiv 2 = ((k / 2 : Nat) : Int) ∧ (k : Int) / 2 = ((k / 2 : Nat) : Int) ∧ (k : Int).tmod 2 = ((k % 2 : Nat) : Int) ∧ (k : Int) % 2 = ((k % 2 : Nat) : Int) ∧ IntKind.u64.wrap ((k / 2 : Nat) : Int) = ((k / 2 : Nat) : Int) ∧ IntKind.i64.wrap ((k / 2 : Nat) : Int) = ((k / 2 : Nat) : Int) ∧ IntKind.u64.wrap ((k % 2 : Nat) : Int) = ((k % 2 : Nat) : Int) ∧ IntKind.i64.wrap ((k % 2 : Nat) : Int) = ((k % 2 : Nat) : Int) := by
  refine ⟨by rw [Int.tdiv_eq_ediv_of_nonneg (by omega)]; omega, by omega, by rw [Int.tmod_eq_emod_of_nonneg (by omega)]; omega, by omega, IntWalk.u64_in _ (by omega), IntWalk.i64_in _ (by omega), IntWalk.u64_in _ (by omega), IntWalk.i64_in _ (by omega)⟩
set_option maxRecDepth 100000 in
set_option maxHeartbeats 1000000 in
theorem number_any (k : Nat) (hk : k < 18446744073709551616) (w : World) :
    Calls Try.prog 23 #[.int .u64 (k : Int)] w fun e w' => e = .returned (nv false k) ∧ Below w.heap.size w w' := by
  obtain ⟨e1, e2, e3, e4, e5, e6, e7, e8⟩ := halves k hk
  obtain ⟨h, hh⟩ : ∃ h, h = k / 2 := ⟨_, rfl⟩
  obtain ⟨l, hl⟩ : ∃ l, l = k % 2 := ⟨_, rfl⟩
  rw [← hh] at e1 e2 e5 e6
  rw [← hl] at e3 e4 e7 e8
  have of1 := fun w => of_pos h (by omega) w
  have of2 := fun w => of_pos l (by omega) w
  have p1 := fun w => plus_any h h (h + h) (by omega) (by omega) rfl w
  have p2 := fun w => plus_any (h + h) l k (by omega) (by omega) (by omega) w
  have hzN := zeroN
  obtain ⟨L0, hL0⟩ : ∃ L0, L0 = num false 0 := ⟨_, rfl⟩
  rw [← hL0] at hzN
  have hnl : L0.length = 130 := by rw [hL0]; exact num_len _ _
  have hnl2 : (num false h).length = L0.length := by rw [hnl]; exact num_len _ _
  have hnl3 : (num false k).length = L0.length := by rw [hnl]; exact num_len _ _
  have iE := infoN2 false h
  have oE := num_one false h
  have iF := infoN2 false k
  have oF := num_one false k
  have K2 := Lib.hid (Blk.mk w 32 L0)
  have KB := Lib.hid (bl w (.cells L0.toArray 32))
  have Hnl := Lib.hid hnl
  have Hnl2 := Lib.hid hnl2
  have Hnl3 := Lib.hid hnl3
  clear hk hL0 hnl hnl2 hnl3 hh hl
  unfold nv at *
  go_enter Try.func23, Try.ntmps23
  go_wp2_with fail
  refine (of1 _).mono ?_
  rintro e w5 ⟨rfl, hb5⟩
  have B5 := Lib.hid (_root_.Go.Proofs.Ytmiplljcnchjkaa.bt KB.out hb5)
  have X2 := K2.out.next hb5
  have hlt2 := X2.lt
  have T5 : Hid ((w5.alloc (.cells L0.toArray 32)).there w5.heap.size 0 (num false h).toArray.size) := Lib.hid (by rw [numA]; exact blk_there (Blk.mk w5 32 L0) 0 130 (by rw [Hnl.out]; decide))
  have X5 : Hid (Blk ((w5.alloc (.cells L0.toArray 32)).setCells w5.heap.size 0 (num false h)) w5.heap.size 32 (num false h)) := Lib.hid (full_mid (Blk.mk w5 32 L0) _ Hnl2.out)
  have X6 : Hid (Blk ((w5.alloc (.cells L0.toArray 32)).setCells w5.heap.size 0 (num false h)) w.heap.size 32 L0) := Lib.hid (blk_apart _ _ _ _ (X2.alloc _) (by omega))
  have XB : Hid (Below w.heap.size w ((w5.alloc (.cells L0.toArray 32)).setCells w5.heap.size 0 (num false h))) := Lib.hid (below_cells _ _ _ _ (_root_.Go.Proofs.Ytmiplljcnchjkaa.bt B5.out (bl _ _)) (show w.heap.size ≤ w5.heap.size from B5.out.size))
  clear B5 hb5 X2 hlt2 K2 KB
  go_wp2_with (first
    | (refine wpList_store_mid rfl 32 _ _ rfl w5.heap.size 0 (num false h).toArray rfl rfl ?ht iE (all_oneCell_toArray oE) ?_; (case ht => exact T5.out); generalize (w5.alloc (.cells L0.toArray 32)).setCells w5.heap.size 0 (num false h) = w6 at *)
    | (refine wpList_load_mid rfl 32 _ rfl w5.heap.size 0 rfl (num false h) _ ?hr Try.underlying32 rfl (infoN3 _ _) ?_; (case hr => exact nums_range X5.out)))
  refine (p1 _).mono ?_
  rintro e w7 ⟨rfl, hb7⟩
  have X7 := Lib.hid (X6.out.next hb7)
  have B7 := Lib.hid (_root_.Go.Proofs.Ytmiplljcnchjkaa.bt XB.out hb7)
  clear hb7 X5 X6 XB T5
  go_wp2_with fail
  refine (of2 _).mono ?_
  rintro e w8 ⟨rfl, hb8⟩
  have X8 := Lib.hid (X7.out.next hb8)
  have B8 := Lib.hid (_root_.Go.Proofs.Ytmiplljcnchjkaa.bt B7.out hb8)
  clear hb8 X7 B7
  go_wp2_with fail
  refine (p2 _).mono ?_
  rintro e w9 ⟨rfl, hb9⟩
  have X9 := Lib.hid (X8.out.next hb9)
  have B9 := Lib.hid (_root_.Go.Proofs.Ytmiplljcnchjkaa.bt B8.out hb9)
  clear hb9 X8 B8
  go_wp2_with (refine wpList_store_mid rfl 32 _ _ rfl w.heap.size 0 (num false k).toArray rfl rfl ?ht iF (all_oneCell_toArray oF) ?_; (case ht => (rw [numA]; exact blk_there X9.out 0 130 (by rw [Hnl.out]; decide))))
  refine bodyPost_ret (results_cell_row rfl _ _ w.heap.size 32 (num false k).toArray (0, 0) _ rfl (full_mid X9.out _ Hnl3.out) Try.underlying32 rfl (infoN2 _ _)) rfl ?_
  exact ⟨rfl, below_cells _ _ _ _ B9.out (Nat.le_refl _)⟩
theorem square_plain (k h l p q : Nat) (hk : k < 18446744073709551616) (hh : h = k / 2) (hl : l = k % 2) (hp : h * h = p) (hq : h * l = q) : p + q < 2 ^ 126 ∧ k * k = ((p + q) + (p + q)) + ((p + q) + (p + q)) + l := by
  have hk2 : k = 2 * h + l := by omega
  have hll : l * l = l := by
    have : l = 0 ∨ l = 1 := by omega
    rcases this with e | e <;> rw [e]
  have h1 : p ≤ 9223372036854775807 * 9223372036854775807 := by rw [← hp]; exact Nat.mul_le_mul (by omega) (by omega)
  have h2 : q ≤ 9223372036854775807 * 1 := by rw [← hq]; exact Nat.mul_le_mul (by omega) (by omega)
  refine ⟨Nat.lt_of_le_of_lt (Nat.add_le_add h1 h2) (by decide), ?_⟩
  rw [hk2]
  have : (2 * h + l) * (2 * h + l) = 4 * (h * h) + 4 * (h * l) + l * l := by
    rw [Nat.mul_add, Nat.add_mul, Nat.add_mul]
    have a1 : 2 * h * (2 * h) = 4 * (h * h) := by rw [Nat.mul_mul_mul_comm]
    have a2 : l * (2 * h) = 2 * (h * l) := by rw [Nat.mul_comm, Nat.mul_assoc]
    have a3 : 2 * h * l = 2 * (h * l) := Nat.mul_assoc _ _ _
    rw [a1, a2, a3]
    omega
  rw [this, hll, hp, hq]
  omega
set_option maxRecDepth 100000 in
set_option maxHeartbeats 1000000 in
theorem square_any (k K : Nat) (hk : k < 18446744073709551616) (hK : k * k = K) (w : World) :
    Calls Try.prog 21 #[.int .u64 (k : Int)] w fun e w' => e = .returned (nv false K) ∧ Below w.heap.size w w' := by
  obtain ⟨e1, e2, e3, e4, e5, e6, e7, e8⟩ := halves k hk
  obtain ⟨h, hh⟩ : ∃ h, h = k / 2 := ⟨_, rfl⟩
  obtain ⟨l, hl⟩ : ∃ l, l = k % 2 := ⟨_, rfl⟩
  rw [← hh] at e1 e2 e5 e6
  rw [← hl] at e3 e4 e7 e8
  obtain ⟨p, hp⟩ : ∃ p, h * h = p := ⟨_, rfl⟩
  obtain ⟨q, hq⟩ : ∃ q, h * l = q := ⟨_, rfl⟩
  obtain ⟨hlt, hsq⟩ := square_plain k h l p q hk hh hl hp hq
  obtain ⟨a, ha⟩ : ∃ a, p + q = a := ⟨_, rfl⟩
  obtain ⟨b, hb⟩ : ∃ b, a + a = b := ⟨_, rfl⟩
  obtain ⟨c, hc⟩ : ∃ c, b + b = c := ⟨_, rfl⟩
  have hcK : c + l = K := by omega
  have of1 := fun w => of_pos h (by omega) w
  have of2 := fun w => of_pos l (by omega) w
  have m1 := fun w => mul_any (h : Int) (h : Int) false h h p of1 of1 (by omega) (by omega) hp w
  have m2 := fun w => mul_any (h : Int) (l : Int) false h l q of1 of2 (by omega) (by omega) hq w
  have p1 := fun w => plus_any p q a (by omega) (by omega) ha w
  have p2 := fun w => plus_any a a b (by omega) (by omega) hb w
  have p3 := fun w => plus_any b b c (by omega) (by omega) hc w
  have p4 := fun w => plus_any c l K (by omega) (by omega) hcK w
  have hzN := zeroN
  obtain ⟨L0, hL0⟩ : ∃ L0, L0 = num false 0 := ⟨_, rfl⟩
  rw [← hL0] at hzN
  have hnl : L0.length = 130 := by rw [hL0]; exact num_len _ _
  have Hnl := Lib.hid hnl
  have Hnlx := fun Z => Lib.hid (show (num false Z).length = 130 from num_len _ _)
  have iE := infoN2 false a
  have oE := num_one false a
  have iF := infoN2 false b
  have oF := num_one false b
  have iG := infoN2 false K
  have oG := num_one false K
  have K2 := Lib.hid (Blk.mk w 32 L0)
  have KB := Lib.hid (bl w (.cells L0.toArray 32))
  clear hk hL0 hnl hh hl hp hq hlt hsq ha hb hc hcK hK of1
  unfold nv at *
  go_enter Try.func21, Try.ntmps21
  go_wp2_with fail
  refine (m1 _).mono ?_
  rintro e w2 ⟨rfl, hb2⟩
  have X2 := Lib.hid (K2.out.next hb2)
  have B2 := Lib.hid (_root_.Go.Proofs.Ytmiplljcnchjkaa.bt KB.out hb2)
  clear hb2 K2 KB
  go_wp2_with fail
  refine (m2 _).mono ?_
  rintro e w3 ⟨rfl, hb3⟩
  have X3 := Lib.hid (X2.out.next hb3)
  have B3 := Lib.hid (_root_.Go.Proofs.Ytmiplljcnchjkaa.bt B2.out hb3)
  clear hb3 X2 B2
  go_wp2_with fail
  refine (p1 _).mono ?_
  rintro e w5 ⟨rfl, hb5⟩
  have B5 := Lib.hid (_root_.Go.Proofs.Ytmiplljcnchjkaa.bt B3.out hb5)
  have X2 := X3.out.next hb5
  have hlt2 := X2.lt
  have T5 : Hid ((w5.alloc (.cells L0.toArray 32)).there w5.heap.size 0 (num false a).toArray.size) := Lib.hid (by rw [numA]; exact blk_there (Blk.mk w5 32 L0) 0 130 (by rw [Hnl.out]; decide))
  have X5 : Hid (Blk ((w5.alloc (.cells L0.toArray 32)).setCells w5.heap.size 0 (num false a)) w5.heap.size 32 (num false a)) := Lib.hid (full_mid (Blk.mk w5 32 L0) _ (by rw [(Hnlx a).out, Hnl.out]))
  have X6 : Hid (Blk ((w5.alloc (.cells L0.toArray 32)).setCells w5.heap.size 0 (num false a)) w.heap.size 32 L0) := Lib.hid (blk_apart _ _ _ _ (X2.alloc _) (by omega))
  have hs6 : w5.heap.size ≠ w.heap.size := by omega
  have hs5 : w.heap.size ≤ w5.heap.size := by omega
  have XB : Hid (Below w.heap.size w ((w5.alloc (.cells L0.toArray 32)).setCells w5.heap.size 0 (num false a))) := Lib.hid (below_cells _ _ _ _ (_root_.Go.Proofs.Ytmiplljcnchjkaa.bt B5.out (bl _ _)) (show w.heap.size ≤ w5.heap.size from B5.out.size))
  clear B5 hb5 X2 hlt2 X3 B3
  go_wp2_with (first
    | (refine wpList_store_mid rfl 32 _ _ rfl w5.heap.size 0 (num false a).toArray rfl rfl ?ht iE (all_oneCell_toArray oE) ?_; (case ht => exact T5.out); generalize (w5.alloc (.cells L0.toArray 32)).setCells w5.heap.size 0 (num false a) = w6 at *)
    | (refine wpList_load_mid rfl 32 _ rfl w5.heap.size 0 rfl (num false a) _ ?hr Try.underlying32 rfl (infoN3 _ _) ?_; (case hr => exact nums_range X5.out)))
  generalize hg5 : w5.heap.size = g5 at *
  clear hg5
  refine (p2 _).mono ?_
  rintro e w7 ⟨rfl, hb7⟩
  have X7 := Lib.hid (X6.out.next hb7)
  have Y7 := Lib.hid (X5.out.next hb7)
  have B7 := Lib.hid (_root_.Go.Proofs.Ytmiplljcnchjkaa.bt XB.out hb7)
  clear hb7 X5 X6 XB T5
  have T7 : Hid (w7.there g5 0 (num false b).toArray.size) := Lib.hid (by rw [numA]; exact blk_there Y7.out 0 130 (by rw [(Hnlx a).out]; decide))
  have X8 : Hid (Blk (w7.setCells g5 0 (num false b)) g5 32 (num false b)) := Lib.hid (full_mid Y7.out _ (by rw [(Hnlx a).out, (Hnlx b).out]))
  have Y8 : Hid (Blk (w7.setCells g5 0 (num false b)) w.heap.size 32 L0) := Lib.hid (blk_apart _ _ _ _ X7.out (Ne.symm hs6))
  have B8 : Hid (Below w.heap.size w (w7.setCells g5 0 (num false b))) := Lib.hid (below_cells _ _ _ _ B7.out hs5)
  clear X7 Y7 B7
  go_wp2_with (first
    | (refine wpList_store_mid rfl 32 _ _ rfl g5 0 (num false b).toArray rfl rfl ?ht iF (all_oneCell_toArray oF) ?_; (case ht => exact T7.out); generalize w7.setCells g5 0 (num false b) = w8 at *)
    | (refine wpList_load_mid rfl 32 _ rfl g5 0 rfl (num false b) _ ?hr Try.underlying32 rfl (infoN3 _ _) ?_; (case hr => exact nums_range X8.out)))
  refine (p3 _).mono ?_
  rintro e w9 ⟨rfl, hb9⟩
  have X9 := Lib.hid (Y8.out.next hb9)
  have B9 := Lib.hid (_root_.Go.Proofs.Ytmiplljcnchjkaa.bt B8.out hb9)
  clear hb9 X8 Y8 B8 T7
  go_wp2_with fail
  refine (of2 _).mono ?_
  rintro e w10 ⟨rfl, hb10⟩
  have X10 := Lib.hid (X9.out.next hb10)
  have B10 := Lib.hid (_root_.Go.Proofs.Ytmiplljcnchjkaa.bt B9.out hb10)
  clear hb10 X9 B9
  go_wp2_with fail
  refine (p4 _).mono ?_
  rintro e w11 ⟨rfl, hb11⟩
  have X11 := Lib.hid (X10.out.next hb11)
  have B11 := Lib.hid (_root_.Go.Proofs.Ytmiplljcnchjkaa.bt B10.out hb11)
  clear hb11 X10 B10
  go_wp2_with (refine wpList_store_mid rfl 32 _ _ rfl w.heap.size 0 (num false K).toArray rfl rfl ?ht iG (all_oneCell_toArray oG) ?_; (case ht => (rw [numA]; exact blk_there X11.out 0 130 (by rw [Hnl.out]; decide))))
  refine bodyPost_ret (results_cell_row rfl _ _ w.heap.size 32 (num false K).toArray (0, 0) _ rfl (full_mid X11.out _ (by rw [(Hnlx K).out, Hnl.out])) Try.underlying32 rfl (infoN2 _ _)) rfl ?_
  exact ⟨rfl, below_cells _ _ _ _ B11.out (Nat.le_refl _)⟩
end Num
end Go.Proofs.Ytmiplljcnchjkaa
