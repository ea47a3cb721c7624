/-
  The walks of the reference of package wide: whether a number has room; products.
-/
import Derived.Test.YtmiplljcnchjkaaNumW2
namespace Go.Proofs.Ytmiplljcnchjkaa
open Go.RowKit
set_option linter.unusedVariables false
namespace Num

theorem top_bit (Z i : Nat) (h : Z < 2 ^ (i + 1)) : Z / 2 ^ i = bitN Z i := by
  rw [div_next, Nat.div_eq_of_lt h]
  omega
theorem low_of_bit {Z i : Nat} (h : Z < 2 ^ (i + 1)) (h0 : bitN Z i = 0) : Z < 2 ^ i := by
  have h1 := top_bit Z i h
  rcases Nat.lt_or_ge Z (2 ^ i) with h' | h'
  · exact h'
  · have := Nat.div_pos h' (Nat.two_pow_pos i)
    omega
theorem high_of_bit {Z i : Nat} (h0 : bitN Z i = 1) : 2 ^ i ≤ Z := by
  apply Classical.byContradiction
  intro hn
  unfold bitN at h0
  rw [Nat.div_eq_of_lt (by omega)] at h0
  omega
set_option maxRecDepth 100000 in
set_option maxHeartbeats 1000000 in
theorem fits_any (Z : Nat) (r : Bool) (hr : r = decide (Z < 2 ^ 127)) (hZ : Z < 2 ^ 129) (w : World) :
    Calls Try.prog 54 #[nv false Z, .int .i64 127] w fun e w' => e = .returned (.bool r) ∧ Below w.heap.size w w' := by
  have hblk := Blk.mk w 32 (num false Z)
  have c128 : (w.alloc (.cells (num false Z).toArray 32)).cell? ⟨w.heap.size, 129, none⟩ = some (.int .i64 (bitN Z 128 : Int)) := (hblk.cell (1 + 128)).trans (num_at _ _ 128 (by decide))
  have c127 : (w.alloc (.cells (num false Z).toArray 32)).cell? ⟨w.heap.size, 128, none⟩ = some (.int .i64 (bitN Z 127 : Int)) := (hblk.cell (1 + 127)).trans (num_at _ _ 127 (by decide))
  have cm : (w.alloc (.cells (num false Z).toArray 32)).cell? ⟨w.heap.size, 0, none⟩ = some (.bool false) := hblk.cell 0
  have call := fun (j : Nat) (hj : j < 129) => (hblk.cell (1 + j)).trans (num_at _ _ j hj)
  have hb128 := bitN_lt Z 128
  have hb127 := bitN_lt Z 127
  have h1 : bitN Z 128 = 1 → decide (Z < 2 ^ 127) = false := fun h => decide_eq_false (Nat.not_lt.2 (Nat.le_trans (by decide) (high_of_bit h)))
  have h2 : bitN Z 127 = 1 → decide (Z < 2 ^ 127) = false := fun h => decide_eq_false (by have := high_of_bit h; omega)
  have h3 : bitN Z 128 = 0 → bitN Z 127 = 0 → decide (Z < 2 ^ 127) = true := fun h h' => decide_eq_true (low_of_bit (low_of_bit hZ h) h')
  rw [← hr] at h1 h2 h3
  have Call := Lib.hid call
  clear hblk hZ hr call
  unfold nv
  generalize (num false Z).toArray = aN at *
  generalize bitN Z 128 = x at *
  generalize bitN Z 127 = y at *
  have hcase : (x = 1 ∧ r = false) ∨ (x = 0 ∧ y = 0 ∧ r = true) ∨ (x = 0 ∧ y = 1 ∧ r = false) := by
    have hx : x = 0 ∨ x = 1 := by omega
    have hy : y = 0 ∨ y = 1 := by omega
    rcases hx with hx | hx
    · rcases hy with hy | hy
      · exact .inr (.inl ⟨hx, hy, h3 hx hy⟩)
      · exact .inr (.inr ⟨hx, hy, h2 hy⟩)
    · exact .inl ⟨hx, h1 hx⟩
  clear h1 h2 h3 hb128 hb127
  rcases hcase with ⟨rfl, rfl⟩ | ⟨rfl, rfl, rfl⟩ | ⟨rfl, rfl, rfl⟩
  · go_enter Try.func54, Try.ntmps54
    go_wp2
    go_loop [5] (fun i => i = .int .i64 128) (fun i => 129 - (intOf i).toNat)
    case atStart => rfl
    case round =>
      subst hrel
      go_wp2
      go_ret
      exact ⟨rfl, bl _ _⟩
  · go_enter Try.func54, Try.ntmps54
    go_wp2
    go_loop [5] (fun i => i = .int .i64 128 ∨ i = .int .i64 129) (fun i => 129 - (intOf i).toNat)
    case atStart => exact .inl rfl
    case round =>
      rcases hrel with rfl | rfl
      · go_wp2
        go_round
        case rel => exact .inr rfl
        case measure => first | (simp [intOf]; done) | (simp [intOf]; omega)
      · go_wp2
        go_ret
        exact ⟨rfl, bl _ _⟩
  · go_enter Try.func54, Try.ntmps54
    go_wp2
    go_loop [5] (fun i => i = .int .i64 128 ∨ i = .int .i64 129) (fun i => 129 - (intOf i).toNat)
    case atStart => exact .inl rfl
    case round =>
      rcases hrel with rfl | rfl
      · go_wp2
        go_round
        case rel => exact .inr rfl
        case measure => first | (simp [intOf]; done) | (simp [intOf]; omega)
      · go_wp2
        go_loop [6] (fun i => ∃ j : Nat, j ≤ 127 ∧ i = .int .i64 (j : Int)) (fun i => 127 - (intOf i).toNat)
        case atStart => exact ⟨0, by omega, rfl⟩
        case round =>
          obtain ⟨j, hj, rfl⟩ := hrel
          by_cases hlt : j < 127
          · have cj := Call.out j (by omega)
            have hb := bitN_lt Z j
            generalize bitN Z j = b at *
            have i1 : (j : Int) < 129 := by omega
            have i2 : (j : Int) < 127 := by omega
            by_cases h0 : b = 0
            · subst h0
              go_wp2
              go_round
              case rel => exact ⟨j + 1, by omega, by go_num⟩
              case measure => first | (simp [intOf]; done) | (simp [intOf]; omega)
            · obtain rfl : b = 1 := by omega
              go_wp2
              go_ret
              exact ⟨rfl, bl _ _⟩
          · obtain rfl : j = 127 := by omega
            go_wp2
            go_ret
            exact ⟨rfl, bl _ _⟩
set_option maxRecDepth 100000 in
set_option maxHeartbeats 2000000 in
theorem mul_any (a b : Int) (s : Bool) (A B P : Nat) (hA : ∀ w, Calls Try.prog 48 #[.int .i64 a] w fun e w' => e = .returned (nv s A) ∧ Below w.heap.size w w') (hB : ∀ w, Calls Try.prog 48 #[.int .i64 b] w fun e w' => e = .returned (nv s B) ∧ Below w.heap.size w w')
    (hAl : A ≤ 9223372036854775808) (hBl : B ≤ 9223372036854775808) (hP : A * B = P) (w : World) :
    Calls Try.prog 27 #[.int .i64 a, .int .i64 b] w fun e w' => e = .returned (nv false P) ∧ Below w.heap.size w w' := by
  have HA := Lib.hid hA
  have HB := Lib.hid hB
  have HP := Lib.hid hP
  have HAl := Lib.hid hAl
  have HBl := Lib.hid hBl
  have hzN := zeroN
  have hzA := zeroA
  obtain ⟨L0, hL0⟩ : ∃ L0, L0 = num false 0 := ⟨_, rfl⟩
  obtain ⟨Z0, hZ0⟩ : ∃ Z0, Z0 = bt 0 := ⟨_, rfl⟩
  rw [← hL0] at hzN
  rw [← hZ0] at hzA
  have hnl : L0.length = 130 := by rw [hL0]; exact num_len _ _
  have hzl : Z0.length = 129 := by rw [hZ0]; exact bt_len _
  have HL0 := Lib.hid hL0
  have HZ0 := Lib.hid hZ0
  have Hnl := Lib.hid hnl
  have Hzl := Lib.hid hzl
  have k4 := Blk.mk w 32 L0
  have b4 := bl w (.cells L0.toArray 32)
  have hnn : ¬ L0 = [] := by intro e; rw [e] at hnl; cases hnl
  have K4 := Lib.hid k4
  have B4 := Lib.hid b4
  clear hA hB hP hAl hBl hL0 hZ0 hnl hzl k4 b4
  go_enter Try.func27, Try.ntmps27
  go_wp2_with fail
  refine (HA.out _).mono ?_
  rintro e w2 ⟨rfl, hb2⟩
  have K4b := Lib.hid (K4.out.next hb2)
  have B2 := Lib.hid (_root_.Go.Proofs.Ytmiplljcnchjkaa.bt B4.out hb2)
  have z5 : (w2.alloc (.cells L0.toArray 32)).there w2.heap.size 0 (num s A).toArray.size := by rw [numA]; exact blk_there (Blk.mk w2 32 L0) 0 130 (by rw [Hnl.out]; decide)
  have K5 := Lib.hid (full_mid (Blk.mk w2 32 L0) (num s A) (by rw [num_len, Hnl.out]))
  have B5 := Lib.hid (below_cells (num s A) _ w2.heap.size 0 (bl w2 (.cells L0.toArray 32)) (Nat.le_refl _))
  clear hb2 K4 B4
  have iA := infoN2 s A
  have oA := num_one s A
  unfold nv
  go_wp2_with (refine wpList_store_mid rfl 32 _ _ rfl w2.heap.size 0 (num s A).toArray rfl rfl z5 iA (all_oneCell_toArray oA) ?_; generalize (w2.alloc (.cells L0.toArray 32)).setCells w2.heap.size 0 (num s A) = w3 at *)
  have B3 := Lib.hid (_root_.Go.Proofs.Ytmiplljcnchjkaa.bt B2.out B5.out)
  have K4c := Lib.hid (K4b.out.next B5.out)
  have hg5 := K5.out.lt
  have hg45 := K4b.out.lt
  clear z5 iA oA B5 K4b
  refine (HB.out _).mono ?_
  rintro e w4 ⟨rfl, hb4⟩
  have hs4 := hb4.size
  have B4' := Lib.hid (_root_.Go.Proofs.Ytmiplljcnchjkaa.bt B3.out hb4)
  have K4d := Lib.hid (K4c.out.next hb4)
  have K5d := Lib.hid (K5.out.next hb4)
  have iB := infoN2 s B
  have oB := num_one s B
  have iC := infoA2 A
  have oC := bt_one A
  have z6 : (w4.alloc (.cells L0.toArray 32)).there w4.heap.size 0 (num s B).toArray.size := by rw [numA]; exact blk_there (Blk.mk w4 32 L0) 0 130 (by rw [Hnl.out]; decide)
  have K6 := Lib.hid (full_mid (Blk.mk w4 32 L0) (num s B) (by rw [num_len, Hnl.out]))
  have B6 := Lib.hid (below_cells (num s B) _ w4.heap.size 0 (bl w4 (.cells L0.toArray 32)) (Nat.le_refl _))
  have hlt6 : w4.heap.size < ((w4.alloc (.cells L0.toArray 32)).setCells w4.heap.size 0 (num s B)).heap.size := K6.out.lt
  have B7 := Lib.hid (_root_.Go.Proofs.Ytmiplljcnchjkaa.bt B4'.out B6.out)
  have K4e := Lib.hid (K4d.out.next B6.out)
  have K5e := Lib.hid (K5d.out.next B6.out)
  obtain ⟨g6, hg6⟩ : ∃ g6, g6 = w4.heap.size := ⟨_, rfl⟩
  obtain ⟨g5, hg5e⟩ : ∃ g5, g5 = w2.heap.size := ⟨_, rfl⟩
  have hg56 : g5 < g6 := by omega
  have hg46 : w.heap.size < g5 := by omega
  have G6 := Lib.hid hg6
  have G5 := Lib.hid hg5e
  clear hb4 B3 K4c K5 K4d K5d B4' hg5 hg45 hs4 hg6 hg5e
  -- what the words behind the store find
  have hr5 : ∀ E : World, Blk E w2.heap.size 32 (num s A) → (E.alloc (.cells L0.toArray 32)).rangeAt w2.heap.size 1 (bt A) := fun E h => num_range (h.alloc _)
  have ht8 : ∀ E : World, ((E.alloc (.cells L0.toArray 32)).alloc (.cells Z0.toArray 30)).there (E.heap.size + 1) 0 (bt A).toArray.size := fun E => by
    rw [btA]
    have := blk_there (Blk.mk (E.alloc (.cells L0.toArray 32)) 30 Z0) 0 129 (by rw [Hzl.out]; decide)
    rwa [show (E.alloc (.cells L0.toArray 32)).heap.size = E.heap.size + 1 by simp] at this
  have r5 := hr5 _ K5e.out
  have t8 := ht8 ((w4.alloc (.cells L0.toArray 32)).setCells w4.heap.size 0 (num s B))
  have R5 := Lib.hid r5
  have T8 := Lib.hid t8
  have Z6 := Lib.hid z6
  have Hlt6 := Lib.hid hlt6
  clear hr5 ht8 r5 t8 z6 hlt6
  unfold nv
  go_wp2_with (first
    | (refine wpList_store_mid rfl 32 _ _ rfl w4.heap.size 0 (num s B).toArray rfl rfl ?ht iB (all_oneCell_toArray oB) ?_; (case ht => exact Z6.out); generalize (w4.alloc (.cells L0.toArray 32)).setCells w4.heap.size 0 (num s B) = w5 at *)
    | (refine wpList_load_mid rfl 30 _ rfl w2.heap.size 1 rfl (bt A) _ ?hr Try.underlying30 rfl (infoA3 _) ?_; (case hr => exact R5.out))
    | (refine wpList_store_mid rfl 30 _ _ rfl (w5.heap.size + 1) 0 (bt A).toArray rfl rfl ?ht iC (all_oneCell_toArray oC) ?_; (case ht => exact T8.out)))
  have hlt6 := Hlt6.out
  have hs1 : (w5.alloc (.cells L0.toArray 32)).heap.size = w5.heap.size + 1 := by simp
  have k8 := Blk.mk (w5.alloc (.cells L0.toArray 32)) 30 Z0
  rw [hs1] at k8
  have q4 := blk_apart (bt A) _ (w5.heap.size + 1) 0 ((K4e.out.alloc (.cells L0.toArray 32)).alloc (.cells Z0.toArray 30)) (by have := K4e.out.lt; omega)
  have q5 := blk_apart (bt A) _ (w5.heap.size + 1) 0 ((K5e.out.alloc (.cells L0.toArray 32)).alloc (.cells Z0.toArray 30)) (by have := K5e.out.lt; omega)
  have q6 := blk_apart (bt A) _ (w5.heap.size + 1) 0 ((K6.out.alloc (.cells L0.toArray 32)).alloc (.cells Z0.toArray 30)) (by have := K6.out.lt; omega)
  have q7 := blk_apart (bt A) _ (w5.heap.size + 1) 0 ((Blk.mk w5 32 L0).alloc (.cells Z0.toArray 30)) (show w5.heap.size ≠ w5.heap.size + 1 by omega)
  have q8 := full_mid k8 (bt A) (by rw [bt_len, Hzl.out])
  have qb := below_cells (bt A) _ (w5.heap.size + 1) 0 (_root_.Go.Proofs.Ytmiplljcnchjkaa.bt B7.out (_root_.Go.Proofs.Ytmiplljcnchjkaa.bt (bl w5 (.cells L0.toArray 32)) (bl (w5.alloc (.cells L0.toArray 32)) (.cells Z0.toArray 30)))) (by have := B7.out.size; omega)
  have Q4 := Lib.hid q4
  have Q5 := Lib.hid q5
  have Q6 := Lib.hid q6
  have Q7 := Lib.hid q7
  have Q8 := Lib.hid q8
  have QB := Lib.hid qb
  have hww := B7.out.size
  clear k8 q4 q5 q6 q7 q8 qb hs1 R5 T8 Z6 Hlt6 K4e K5e K6 B6 B7 B2 hzN hzA
  generalize ((w5.alloc (.cells L0.toArray 32)).alloc (.cells Z0.toArray 30)).setCells (w5.heap.size + 1) 0 (bt A) = W at *
  obtain ⟨g7, hg7⟩ : ∃ g7, g7 = w5.heap.size := ⟨_, rfl⟩
  rw [← hg7] at Q7 Q8 ⊢
  have e67 : g6 < g7 := by have := G6.out; omega
  rw [← G6.out] at Q6 ⊢
  rw [← G5.out] at Q5 ⊢
  have hw5 : w.heap.size < g5 := hg46
  obtain ⟨g4, hg4⟩ : ∃ g4, g4 = w.heap.size := ⟨_, rfl⟩
  rw [← hg4] at Q4 hw5 ⊢
  have G4 := Lib.hid hg4
  clear hg7 G5 G6 hg4 hlt6 hww hg46
  have z7 : A * (B % 2 ^ 0) = 0 := by rw [Nat.pow_zero, Nat.mod_one, Nat.mul_zero]
  have z8 : A * 2 ^ 0 = A := by rw [Nat.pow_zero, Nat.mul_one]
  have S7 : Hid (Blk W g7 32 (num false (A * (B % 2 ^ 0)))) := Lib.hid (by rw [z7, ← HL0.out]; exact Q7.out)
  have S8 : Hid (Blk W (g7 + 1) 30 (bt (A * 2 ^ 0))) := Lib.hid (by rw [z8]; exact Q8.out)
  clear z7 z8
  go_loopw [9] (fun i wr => ∃ j : Nat, j ≤ 65 ∧ i = .int .i64 (j : Int) ∧ Blk wr g4 32 L0 ∧ Blk wr g5 32 (num s A) ∧ Blk wr g6 32 (num s B) ∧ Blk wr g7 32 (num false (A * (B % 2 ^ j))) ∧ Blk wr (g7 + 1) 30 (bt (A * 2 ^ j)) ∧ Below w.heap.size w wr) (fun i _ => 65 - (intOf i).toNat)
  case atStart => exact ⟨0, Nat.zero_le _, rfl, Q4.out, Q5.out, Q6.out, S7.out, S8.out, QB.out⟩
  case round =>
    clear Q4 Q5 Q6 Q7 Q8 QB S7 S8
    obtain ⟨j, hj, rfl, q4, q5, q6, q7, q8, qb⟩ := hrel
    have Q4 := Lib.hid q4
    have Q5 := Lib.hid q5
    have Q6 := Lib.hid q6
    have Q7 := Lib.hid q7
    have Q8 := Lib.hid q8
    have QB := Lib.hid qb
    clear q4 q5 q6 q7 q8 qb
    by_cases hlt : j < 65
    · have c6 := (Q6.out.cell (1 + j)).trans (num_at s B j (by omega))
      have hb := bitN_lt B j
      have hmn := mod_next B j
      have hp65 : A * 2 ^ (j + 1) < 2 ^ 129 := by
        have h1 : A * 2 ^ (j + 1) ≤ 9223372036854775808 * 2 ^ 65 := Nat.mul_le_mul HAl.out (Nat.pow_le_pow_right (by decide) (by omega))
        exact Nat.lt_of_le_of_lt h1 (by decide)
      have hshift : (A * 2 ^ j + A * 2 ^ j) % 2 ^ 129 = A * 2 ^ (j + 1) := by
        rw [Nat.mod_eq_of_lt (by rw [← Nat.mul_two, Nat.mul_assoc, ← Nat.pow_succ]; exact hp65), ← Nat.mul_two, Nat.mul_assoc, ← Nat.pow_succ]
      have hadd : A * (B % 2 ^ j) + A * 2 ^ j < 2 ^ 129 := by
        have h0 : B % 2 ^ j ≤ 2 ^ j := Nat.le_of_lt (Nat.mod_lt _ (Nat.two_pow_pos j))
        have h1 : A * (B % 2 ^ j) ≤ A * 2 ^ j := Nat.mul_le_mul_left _ h0
        have h2 : A * 2 ^ j + A * 2 ^ j = A * 2 ^ (j + 1) := by rw [← Nat.mul_two, Nat.mul_assoc, ← Nat.pow_succ]
        omega
      have i1 : (j : Int) < 129 := by omega
      have i2 : (j : Int) < 65 := by omega
      obtain ⟨pt, hpt⟩ : ∃ pt, pt = A * 2 ^ j := ⟨_, rfl⟩
      obtain ⟨pn, hpn⟩ : ∃ pn, pn = A * 2 ^ (j + 1) := ⟨_, rfl⟩
      obtain ⟨ou, hou⟩ : ∃ ou, ou = A * (B % 2 ^ j) := ⟨_, rfl⟩
      rw [← hpt] at Q8 hshift hadd
      rw [← hpn] at hshift
      rw [← hou] at Q7 hadd
      have Hsh := Lib.hid hshift
      have Hpn := Lib.hid hpn
      have hon : ou + (if bitN B j = 1 then pt else 0) = A * (B % 2 ^ (j + 1)) := by
        rw [hmn, Nat.mul_add, ← hou, hpt]
        split
        · rename_i e
          rw [e, Nat.mul_one]
        · rename_i e
          have e0 : bitN B j = 0 := by omega
          rw [e0, Nat.mul_zero, Nat.mul_zero]
      have Hon := Lib.hid hon
      have hal : (ou + pt) % 2 ^ 129 = ou + pt := Nat.mod_eq_of_lt hadd
      have Hal := Lib.hid hal
      clear hshift hpt hpn hou hmn hp65 hadd hon hal
      obtain ⟨b', hb'⟩ : ∃ b', b' = bitN B j := ⟨_, rfl⟩
      rw [← hb'] at c6 hb
      have Hb' := Lib.hid hb'
      clear hb'
      by_cases h0 : b' = 0
      · have e0 : ou = A * (B % 2 ^ (j + 1)) := by have := Hon.out; rw [← Hb'.out, h0] at this; simpa using this
        have E0 := Lib.hid e0
        subst h0
        clear e0 hb
        have R8 := Lib.hid (arr_range Q8.out)
        go_wp2_with (refine wpList_load_mid rfl 30 _ rfl (g7 + 1) 0 rfl (bt pt) _ ?hr Try.underlying30 rfl (infoA3 _) ?_; (case hr => exact R8.out))
        refine (shift_any pt pn Hsh.out _).mono ?_
        rintro e w8 ⟨rfl, hb8⟩
        have P4 := Lib.hid (Q4.out.next hb8)
        have P5 := Lib.hid (Q5.out.next hb8)
        have P6 := Lib.hid (Q6.out.next hb8)
        have P7 := Lib.hid (Q7.out.next hb8)
        have P8 := Lib.hid (Q8.out.next hb8)
        have PB := Lib.hid (_root_.Go.Proofs.Ytmiplljcnchjkaa.bt QB.out hb8)
        have T8 : Hid (w8.there (g7 + 1) 0 (bt pn).toArray.size) := Lib.hid (by rw [btA]; exact blk_there P8.out 0 129 (by rw [bt_len]; decide))
        have iD := infoA2 pn
        have oD := bt_one pn
        clear hb8 Q4 Q5 Q6 Q7 Q8 QB R8 c6
        unfold av
        go_wp2_with (refine wpList_store_mid rfl 30 _ _ rfl (g7 + 1) 0 (bt pn).toArray rfl rfl ?ht iD (all_oneCell_toArray oD) ?_; (case ht => exact T8.out))
        go_roundw
        case rel => exact ⟨j + 1, by omega, by go_num, blk_apart _ _ _ _ P4.out (by omega), blk_apart _ _ _ _ P5.out (by omega), blk_apart _ _ _ _ P6.out (by omega), by rw [← E0.out]; exact blk_apart _ _ _ _ P7.out (by omega), by rw [← Hpn.out]; exact full_mid P8.out _ (by rw [bt_len, bt_len]), below_cells _ _ _ _ PB.out (by have := G4.out; omega)⟩
        case measure => first | (simp [intOf]; done) | (simp [intOf]; omega)
      · have hb1 : b' = 1 := by omega
        have e0 : ou + pt = A * (B % 2 ^ (j + 1)) := by have := Hon.out; rw [← Hb'.out, hb1] at this; simpa using this
        have E0 := Lib.hid e0
        subst hb1
        clear e0 hb h0
        have R7 := Lib.hid (num_range Q7.out)
        have R8 := Lib.hid (arr_range Q8.out)
        go_wp2_with (first
          | (refine wpList_load_mid rfl 30 _ rfl g7 1 rfl (bt ou) _ ?hr Try.underlying30 rfl (infoA3 _) ?_; (case hr => exact R7.out))
          | (refine wpList_load_mid rfl 30 _ rfl (g7 + 1) 0 rfl (bt pt) _ ?hr Try.underlying30 rfl (infoA3 _) ?_; (case hr => exact R8.out)))
        refine (addBits_any ou pt (ou + pt) Hal.out _).mono ?_
        rintro e w8 ⟨rfl, hb8⟩
        have P4 := Lib.hid (Q4.out.next hb8)
        have P5 := Lib.hid (Q5.out.next hb8)
        have P6 := Lib.hid (Q6.out.next hb8)
        have P7 := Lib.hid (Q7.out.next hb8)
        have P8 := Lib.hid (Q8.out.next hb8)
        have PB := Lib.hid (_root_.Go.Proofs.Ytmiplljcnchjkaa.bt QB.out hb8)
        obtain ⟨on, hon⟩ : ∃ on, on = ou + pt := ⟨_, rfl⟩
        rw [← hon] at E0 ⊢
        have T7 : Hid (w8.there g7 1 (bt on).toArray.size) := Lib.hid (by rw [btA]; exact blk_there P7.out 1 129 (by rw [num_len]; decide))
        have iD := infoA2 on
        have oD := bt_one on
        have N4 := Lib.hid (blk_apart (bt on) w8 g7 1 P4.out (by omega))
        have N5 := Lib.hid (blk_apart (bt on) w8 g7 1 P5.out (by omega))
        have N6 := Lib.hid (blk_apart (bt on) w8 g7 1 P6.out (by omega))
        have N7 := Lib.hid (num_mid P7.out on)
        have N8 := Lib.hid (blk_apart (bt on) w8 g7 1 P8.out (by omega))
        have NB := Lib.hid (below_cells (bt on) w8 g7 1 PB.out (by have := G4.out; omega))
        have R9 := Lib.hid (arr_range N8.out)
        clear hb8 Q4 Q5 Q6 Q7 Q8 QB R7 R8 c6 hon P4 P5 P6 P7 P8 PB
        unfold av
        go_wp2_with (first
          | (refine wpList_store_mid rfl 30 _ _ rfl g7 1 (bt on).toArray rfl rfl ?ht iD (all_oneCell_toArray oD) ?_; (case ht => exact T7.out); generalize w8.setCells g7 1 (bt on) = w9 at *)
          | (refine wpList_load_mid rfl 30 _ rfl (g7 + 1) 0 rfl (bt pt) _ ?hr Try.underlying30 rfl (infoA3 _) ?_; (case hr => exact R9.out)))
        refine (shift_any pt pn Hsh.out _).mono ?_
        rintro e w10 ⟨rfl, hb8⟩
        have P4 := Lib.hid (N4.out.next hb8)
        have P5 := Lib.hid (N5.out.next hb8)
        have P6 := Lib.hid (N6.out.next hb8)
        have P7 := Lib.hid (N7.out.next hb8)
        have P8 := Lib.hid (N8.out.next hb8)
        have PB := Lib.hid (_root_.Go.Proofs.Ytmiplljcnchjkaa.bt NB.out hb8)
        have T8 : Hid (w10.there (g7 + 1) 0 (bt pn).toArray.size) := Lib.hid (by rw [btA]; exact blk_there P8.out 0 129 (by rw [bt_len]; decide))
        have iE := infoA2 pn
        have oE := bt_one pn
        clear hb8 N4 N5 N6 N7 N8 NB R9 T7 iD oD
        unfold av
        go_wp2_with (refine wpList_store_mid rfl 30 _ _ rfl (g7 + 1) 0 (bt pn).toArray rfl rfl ?ht iE (all_oneCell_toArray oE) ?_; (case ht => exact T8.out))
        go_roundw
        case rel => exact ⟨j + 1, by omega, by go_num, blk_apart _ _ _ _ P4.out (by omega), blk_apart _ _ _ _ P5.out (by omega), blk_apart _ _ _ _ P6.out (by omega), by rw [← E0.out]; exact blk_apart _ _ _ _ P7.out (by omega), by rw [← Hpn.out]; exact full_mid P8.out _ (by rw [bt_len, bt_len]), below_cells _ _ _ _ PB.out (by have := G4.out; omega)⟩
        case measure => first | (simp [intOf]; done) | (simp [intOf]; omega)
    · obtain rfl : j = 65 := by omega
      have hBm : B % 2 ^ 65 = B := Nat.mod_eq_of_lt (Nat.lt_of_le_of_lt HBl.out (by decide))
      have q7 := Q7.out
      rw [hBm, HP.out] at q7
      have cs : wr.cell? ⟨g5, 0, none⟩ = some (.bool s) := Q5.out.cell 0
      have ct : wr.cell? ⟨g6, 0, none⟩ = some (.bool s) := Q6.out.cell 0
      have c7 : wr.cell? ⟨g7, 0, none⟩ = some (.bool false) := q7.cell 0
      have f7 := q7.free 0
      have p7 : Blk (wr.setCell ⟨g7, 0, none⟩ (.bool false)) g7 32 (num false P) := q7.put 0 (.bool false)
      have p4 := Q4.out.far (p := ⟨g7, 0, none⟩) (show g4 ≠ g7 by omega) (.bool false)
      have pb := QB.out.setCell (p := ⟨g7, 0, none⟩) (show w.heap.size ≤ g7 by have := G4.out; omega) (.bool false)
      have R7 := Lib.hid (nums_range p7)
      have T4 : Hid ((wr.setCell ⟨g7, 0, none⟩ (.bool false)).there g4 0 (num false P).toArray.size) := Lib.hid (by rw [numA]; exact blk_there p4 0 130 (by rw [Hnl.out]; decide))
      have iF := infoN2 false P
      have oF := num_one false P
      have P4 := Lib.hid p4
      have PB := Lib.hid pb
      have hxx : (s != s) = false := by cases s <;> rfl
      clear q7 hBm p7 p4 pb Q4 Q5 Q6 Q7 Q8 QB
      go_wp2_with (first
        | (refine wpList_load_mid rfl 32 _ rfl g7 0 rfl (num false P) _ ?hr Try.underlying32 rfl (infoN3 _ _) ?_; (case hr => exact R7.out))
        | (refine wpList_store_mid rfl 32 _ _ rfl g4 0 (num false P).toArray rfl rfl ?ht iF (all_oneCell_toArray oF) ?_; (case ht => exact T4.out)))
      all_goals
        refine bodyPost_ret (results_cell_row rfl _ _ g4 32 (num false P).toArray (0, 0) _ rfl (full_mid P4.out _ (by rw [num_len, Hnl.out])) Try.underlying32 rfl (infoN2 _ _)) rfl ?_
        exact ⟨rfl, below_cells _ _ _ _ PB.out (by have := G4.out; omega)⟩
end Num
end Go.Proofs.Ytmiplljcnchjkaa
