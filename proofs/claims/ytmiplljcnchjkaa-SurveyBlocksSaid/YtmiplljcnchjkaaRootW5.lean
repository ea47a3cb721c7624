/-
  The walks of package root: the root of 128 bits; the root of a sum of two squares.
-/
import Derived.Test.YtmiplljcnchjkaaRootW4
import Derived.Shelf.Spec.BitsCarry
import Derived.Deep.RegionHeld3
namespace Go.Proofs.Ytmiplljcnchjkaa
open Go.RowKit
set_option linter.unusedVariables false
namespace Root

def carryRen : Go.Shelf.Ren := ⟨fun x => if x = 25 then 72 else x, fun x => if x = 22 then 22 else x, fun x => x⟩
theorem carryLays : Lays7.n25 Try.prog carryRen where
  mixed := by kernel_rfl
  f25 := by kernel_rfl
  t22 := by kernel_rfl
  a22 := fun _ => by kernel_rfl
  z22 := fun _ => by kernel_rfl
  v22 := fun _ => by kernel_rfl
  i22 := by kernel_rfl
theorem add64_run (x y c : Nat) (hc : c ≤ 1) (w : World) : (callFunc 72 #[.int .u64 (x : Int), .int .u64 (y : Int), .int .u64 (c : Int)]).run Try.prog w =
    .ok (.value (.tuple #[.int .u64 (((x + y + c) % 18446744073709551616 : Nat) : Int), .int .u64 (((x + y + c) / 18446744073709551616 : Nat) : Int)])) w := Any7.bits_Add64 carryLays x y c hc w
theorem add64_run0 (x y : Nat) (w : World) : (callFunc 72 #[.int .u64 (x : Int), .int .u64 (y : Int), .int .u64 0]).run Try.prog w =
    .ok (.value (.tuple #[.int .u64 (((x + y) % 18446744073709551616 : Nat) : Int), .int .u64 (((x + y) / 18446744073709551616 : Nat) : Int)])) w := add64_run x y 0 (by decide) w
theorem wmag_any (a : Int) (h1 : -9223372036854775808 ≤ a) (h2 : a ≤ 9223372036854775807) (w : World) :
    Calls Try.prog 70 #[.int .i64 a] w fun e w' => e = .returned (.int .u64 (a.natAbs : Int)) ∧ w = w' := by
  by_cases h0 : a < 0
  · have u1 : IntKind.u64.wrap a = a + 18446744073709551616 := by rw [IntKind.wrap_u64]; omega
    have u2 : IntKind.u64.wrap (-(a + 18446744073709551616)) = (a.natAbs : Int) := by rw [IntKind.wrap_u64]; omega
    have u3 : IntKind.u64.wrap (-a) = (a.natAbs : Int) := by rw [IntKind.wrap_u64]; omega
    go_enter Try.func70, Try.ntmps70
    go_wp2
    go_ret
    refine ⟨?_, rfl⟩
    first | rfl | (congr 2; omega)
  · have u1 : IntKind.u64.wrap a = a := IntWalk.u64_in _ (by omega)
    have e : (a.natAbs : Int) = a := by omega
    rw [e]
    go_enter Try.func70, Try.ntmps70
    go_wp2
    go_ret
    exact ⟨rfl, rfl⟩
/-- a number of 128 bits that is not below 0, as a value -/
def wv (N : Nat) : Value := .agg #[.int .i64 ((N / 18446744073709551616 : Nat) : Int), .int .u64 ((N % 18446744073709551616 : Nat) : Int)]
set_option maxRecDepth 100000 in
set_option maxHeartbeats 1000000 in
theorem wsq_aux (a : Int) (m P h l : Nat) (h1 : -9223372036854775808 ≤ a) (h2 : a ≤ 9223372036854775807) (hm : a.natAbs = m) (hP : m * m = P) (hh : P / 18446744073709551616 = h) (hl : P % 18446744073709551616 = l) (w : World) :
    Calls Try.prog 46 #[.int .i64 a, .int .i64 a] w fun e w' => e = .returned (.agg #[.int .i64 (h : Int), .int .u64 (l : Int)]) ∧ Below w.heap.size w w' := by
  have hml : m ≤ 9223372036854775808 := by omega
  have hmm : m * m ≤ 9223372036854775808 * 9223372036854775808 := Nat.mul_le_mul hml hml
  rw [hP] at hmm
  have H1 := Lib.hid h1
  have H2 := Lib.hid h2
  have Hm := Lib.hid hm
  have HP := Lib.hid hP
  have Hh := Lib.hid hh
  have Hl := Lib.hid hl
  have Hml := Lib.hid hml
  have u1 : IntKind.i64.wrap (h : Int) = (h : Int) := IntWalk.i64_in _ (by omega)
  clear hmm hP hh hl hm h1 h2 hml
  go_enter Try.func46, Try.ntmps46
  go_wp2_with fail
  refine (wmag_any a H1.out H2.out _).mono ?_
  rw [Hm.out]
  rintro e w' ⟨rfl, rfl⟩
  go_wp2_with fail
  refine (wmag_any a H1.out H2.out _).mono ?_
  rw [Hm.out]
  rintro e w' ⟨rfl, rfl⟩
  go_wp2_with fail
  refine (mul64_any m m (by have := Hml.out; omega) (by have := Hml.out; omega) _).mono ?_
  rw [HP.out, Hh.out, Hl.out]
  rintro e w' ⟨rfl, rfl⟩
  by_cases hn : a < 0
  all_goals
    go_wp2
    simp [bodyPost, results, Try.results46, go_sem]
    exact _root_.Go.Proofs.Ytmiplljcnchjkaa.bt (bl _ _) (bl _ _)
set_option maxRecDepth 100000 in
set_option maxHeartbeats 1000000 in
theorem wadd_any (ah al bh bl' h l : Nat) (ok : Bool) (ha : ah ≤ 4611686018427387904) (hb : bh ≤ 4611686018427387904) (hal : al < 18446744073709551616) (hbl : bl' < 18446744073709551616) (c : Nat) (hl : (al + bl') % 18446744073709551616 = l) (hc : (al + bl') / 18446744073709551616 = c) (hh : ah + bh + c = h) (hok : ok = decide (h < 9223372036854775808)) (x : Int) (hx : x = if h < 9223372036854775808 then (h : Int) else -9223372036854775808) (h63 : h ≤ 9223372036854775808) (w : World) :
    Calls Try.prog 51 #[.agg #[.int .i64 (ah : Int), .int .u64 (al : Int)], .agg #[.int .i64 (bh : Int), .int .u64 (bl' : Int)]] w fun e w' => e = .returned (.tuple #[.agg #[.int .i64 x, .int .u64 (l : Int)], .bool ok]) ∧ Below w.heap.size w w' := by
  have hc1 : c ≤ 1 := by omega
  have a0 := add64_run0 al bl'
  rw [hl, hc] at a0
  have a1 := add64_run ah bh c hc1
  rw [hh, Nat.mod_eq_of_lt (by omega), Nat.div_eq_of_lt (by omega)] at a1
  have u1 : IntKind.u64.wrap (ah : Int) = (ah : Int) := IntWalk.u64_in _ (by omega)
  have u2 : IntKind.u64.wrap (bh : Int) = (bh : Int) := IntWalk.u64_in _ (by omega)
  have u3 : IntKind.i64.wrap (h : Int) = x := by
    rw [hx]
    split
    · exact IntWalk.i64_in _ (by omega)
    · rw [show h = 9223372036854775808 by omega]; decide
  have n1 : decide ((ah : Int) < 0) = false := decide_eq_false (by omega)
  have n2 : decide ((bh : Int) < 0) = false := decide_eq_false (by omega)
  have hxo : (decide (x < 0) = true ∧ ok = false) ∨ (decide (x < 0) = false ∧ ok = true) := by
    by_cases h' : h < 9223372036854775808
    · right; rw [hok, hx, if_pos h', decide_eq_true h']; exact ⟨decide_eq_false (by omega), rfl⟩
    · left; rw [hok, hx, if_neg h', decide_eq_false h']; exact ⟨by decide, rfl⟩
  clear hl hc hh hok hx h63 ha hb hal hbl hc1
  rcases hxo with ⟨hx0, rfl⟩ | ⟨hx0, rfl⟩
  all_goals
    go_enter Try.func51, Try.ntmps51
    go_wp2_with (first | simp only [a0] | simp only [a1])
    go_region_held3 (fun w' => w'.cell? ⟨w.heap.size, 0, none⟩ = some (.int .i64 (ah : Int)) ∧ w'.cell? ⟨w.heap.size + 1, 0, none⟩ = some (.int .i64 (bh : Int)) ∧ w'.cell? ⟨w.heap.size + 3, 0, none⟩ = some (.int .i64 x) ∧ w'.cell? ⟨w.heap.size + 3, 1, none⟩ = some (.int .u64 (l : Int))) (simp [go_sem, World.cell?_alloc_past]) (fail)
    go_wp2
    simp [bodyPost, results, Try.results51, go_sem]
    exact (_root_.Go.Proofs.Ytmiplljcnchjkaa.bt (bl _ _) (_root_.Go.Proofs.Ytmiplljcnchjkaa.bt (bl _ _) (_root_.Go.Proofs.Ytmiplljcnchjkaa.bt (bl _ _) (bl _ _)))).drew
theorem div64_lt {P Q : Nat} (h : P / 18446744073709551616 < Q / 18446744073709551616) : P < Q := by
  apply Classical.byContradiction
  intro hn
  have := Nat.div_le_div_right (c := 18446744073709551616) (show Q ≤ P by omega)
  omega
theorem RB.wide {x r k : Nat} (h : RB x r (k + 1)) (hr : r < 18446744073709551616) (hk : k ≤ 63) : r + 2 ^ k < 18446744073709551616 := by
  have h2 : 2 ^ k < 2 ^ 64 := Nat.pow_lt_pow_right (by decide) (by omega)
  rw [← or_add h.dvd]
  exact Nat.or_lt_two_pow (n := 64) hr h2
set_option maxRecDepth 100000 in
set_option maxHeartbeats 1000000 in
theorem rwide_any (N hi lo : Nat) (hN : N < 170141183460469231731687303715884105728) (hh : N / 18446744073709551616 = hi) (hl : N % 18446744073709551616 = lo) (w : World) :
    Calls Try.prog 19 #[.agg #[.int .i64 (hi : Int), .int .u64 (lo : Int)]] w fun e w' => ∃ r : Nat, e = .returned (.int .u64 (r : Int)) ∧ IsRoot N r ∧ Below w.heap.size w w' := by
  have hst : RB N 0 64 := RB.start (by omega)
  have Hst := Lib.hid hst
  have HN := Lib.hid hN
  have Hh := Lib.hid hh
  have Hl := Lib.hid hl
  have hhl : hi < 9223372036854775808 := by omega
  have hll : lo < 18446744073709551616 := by omega
  have n1 : decide ((hi : Int) < 0) = false := decide_eq_false (by omega)
  have u1 : IntKind.u64.wrap (hi : Int) = (hi : Int) := IntWalk.u64_in _ (by omega)
  clear hst hN hh hl hhl hll
  go_enter Try.func19, Try.ntmps19
  go_wp2
  go_loop [3, 4, 5, 6, 7] (fun q i _ _ _ => ∃ (r : Nat) (at' : Int), q = .int .u64 (r : Int) ∧ i = .int .i64 at' ∧ -1 ≤ at' ∧ at' ≤ 63 ∧ RB N r (at' + 1).toNat ∧ r < 18446744073709551616) (fun _ i _ _ _ => (intOf i + 1).toNat)
  case atStart => exact ⟨0, 63, rfl, rfl, by omega, by omega, Hst.out, by omega⟩
  case round =>
    clear Hst
    obtain ⟨r, at', rfl, rfl, h1, h2, hrb, hr64⟩ := hrel
    have Hrb := Lib.hid hrb
    have Hr64 := Lib.hid hr64
    clear hrb hr64
    by_cases h0 : 0 ≤ at'
    · obtain ⟨k, rfl⟩ : ∃ k : Nat, at' = (k : Int) := ⟨at'.toNat, by omega⟩
      have hrb := Hrb.out
      rw [show ((k : Int) + 1).toNat = k + 1 by omega] at hrb
      have hor := hrb.or Hr64.out (by omega)
      have hnl := hrb.wide Hr64.out (by omega)
      have hyes := fun h => hrb.yes h
      have hno := fun h => hrb.no h
      have Hyes := Lib.hid hyes
      have Hno := Lib.hid hno
      clear hrb Hrb hyes hno
      have hpk : 2 ^ k < 18446744073709551616 := Nat.lt_of_le_of_lt (Nat.pow_le_pow_right (by decide) (show k ≤ 63 by omega)) (by decide)
      have hpe : (2 : Int) ^ k = ((2 ^ k : Nat) : Int) := by simp
      obtain ⟨e, he⟩ : ∃ e, e = 2 ^ k := ⟨_, rfl⟩
      rw [← he] at hpk hpe hor hnl
      obtain ⟨nx, hnx⟩ : ∃ nx, nx = r + e := ⟨_, rfl⟩
      rw [← hnx] at hor hnl
      have Hnx : Hid (nx = r + 2 ^ k) := Lib.hid (by rw [hnx, he])
      have Hnl := Lib.hid hnl
      have i0 : (k : Int) < 64 := by omega
      have i1 : (k : Int) ≤ 64 := by omega
      have i2 : (0 : Int) ≤ (k : Int) := by omega
      have u2 : IntKind.u64.wrap (e : Int) = (e : Int) := IntWalk.u64_in _ (by omega)
      have u3 : IntKind.i64.wrap ((k : Int) - 1) = (k : Int) - 1 := IntWalk.i64_in _ (by omega)
      clear he hnx hnl hpk
      go_wp2_with fail
      refine (mul64_any nx nx Hnl.out Hnl.out _).mono ?_
      rintro e' w' ⟨rfl, rfl⟩
      obtain ⟨P, hP⟩ : ∃ P, P = nx * nx := ⟨_, rfl⟩
      have HP : Hid (P = (r + 2 ^ k) * (r + 2 ^ k)) := Lib.hid (by rw [hP, Hnx.out])
      rw [← hP]
      clear hP
      obtain ⟨h, hh⟩ : ∃ h, h = P / 18446744073709551616 := ⟨_, rfl⟩
      obtain ⟨l, hl⟩ : ∃ l, l = P % 18446744073709551616 := ⟨_, rfl⟩
      rw [← hh, ← hl]
      have hcase : (h < hi ∧ P ≤ N) ∨ (h = hi ∧ l ≤ lo ∧ P ≤ N) ∨ (h = hi ∧ lo < l ∧ N < P) ∨ (hi < h ∧ N < P) := by
        have e1 := Hh.out
        have e2 := Hl.out
        rcases Nat.lt_trichotomy h hi with hlt | heq | hgt
        · exact .inl ⟨hlt, Nat.le_of_lt (div64_lt (by omega))⟩
        · by_cases hll : l ≤ lo
          · exact .inr (.inl ⟨heq, hll, by omega⟩)
          · exact .inr (.inr (.inl ⟨heq, by omega, by omega⟩))
        · exact .inr (.inr (.inr ⟨hgt, div64_lt (by omega)⟩))
      clear hh hl
      rcases hcase with ⟨g1, g2⟩ | ⟨g0, g1, g2⟩ | ⟨g0, g1, g2⟩ | ⟨g1, g2⟩
      · have hy := Hyes.out (by rw [← HP.out]; exact g2)
        have Hy : Hid (RB N nx k) := Lib.hid (by rw [Hnx.out]; exact hy)
        have g1i : (h : Int) < (hi : Int) := by omega
        clear hy Hyes Hno g2 g1
        go_wp2
        go_round
        case rel => exact ⟨nx, (k : Int) - 1, rfl, rfl, by omega, by omega, by rw [show ((k : Int) - 1 + 1).toNat = k by omega]; exact Hy.out, Hnl.out⟩
        case measure => first | (simp [intOf]; done) | (simp [intOf]; omega)
      · have hy := Hyes.out (by rw [← HP.out]; exact g2)
        have Hy : Hid (RB N nx k) := Lib.hid (by rw [Hnx.out]; exact hy)
        have g1i : (l : Int) ≤ (lo : Int) := by omega
        clear hy Hyes Hno g2 g1
        subst g0
        go_wp2
        go_round
        case rel => exact ⟨nx, (k : Int) - 1, rfl, rfl, by omega, by omega, by rw [show ((k : Int) - 1 + 1).toNat = k by omega]; exact Hy.out, Hnl.out⟩
        case measure => first | (simp [intOf]; done) | (simp [intOf]; omega)
      · have hy := Hno.out (by rw [← HP.out]; exact g2)
        have Hy := Lib.hid hy
        have g1i : ¬ (l : Int) ≤ (lo : Int) := by omega
        clear hy Hyes Hno g2 g1
        subst g0
        go_wp2
        go_round
        case rel => exact ⟨r, (k : Int) - 1, rfl, rfl, by omega, by omega, by rw [show ((k : Int) - 1 + 1).toNat = k by omega]; exact Hy.out, Hr64.out⟩
        case measure => first | (simp [intOf]; done) | (simp [intOf]; omega)
      · have hy := Hno.out (by rw [← HP.out]; exact g2)
        have Hy := Lib.hid hy
        have g1i : ¬ (h : Int) < (hi : Int) := by omega
        have g3 : ((h : Int) == (hi : Int)) = false := by rw [beq_eq_false_iff_ne]; omega
        have g4 : ¬ (h : Int) = (hi : Int) := by omega
        clear hy Hyes Hno g2 g1
        go_wp2
        go_round
        case rel => exact ⟨r, (k : Int) - 1, rfl, rfl, by omega, by omega, by rw [show ((k : Int) - 1 + 1).toNat = k by omega]; exact Hy.out, Hr64.out⟩
        case measure => first | (simp [intOf]; done) | (simp [intOf]; omega)
    · have hat : at' = -1 := Int.le_antisymm (by omega) h1
      subst hat
      have hr := Hrb.out.done
      have Hr := Lib.hid hr
      clear hr Hrb
      go_wp2
      go_ret
      exact ⟨r, rfl, Hr.out, bl _ _⟩
theorem rwide_neg (hi : Int) (lo : Nat) (hn : hi < 0) (w : World) :
    Calls Try.prog 19 #[.agg #[.int .i64 hi, .int .u64 (lo : Int)]] w fun e w' => e = .returned (.int .u64 0) ∧ Below w.heap.size w w' := by
  go_enter Try.func19, Try.ntmps19
  go_wp2
  go_ret
  exact ⟨rfl, bl _ _⟩
set_option maxRecDepth 100000 in
set_option maxHeartbeats 1000000 in
theorem rhypot_any (a b : Int) (h1 : -9223372036854775808 ≤ a) (h2 : a ≤ 9223372036854775807) (h3 : -9223372036854775808 ≤ b) (h4 : b ≤ 9223372036854775807) (N : Nat) (hN : a.natAbs * a.natAbs + b.natAbs * b.natAbs = N) (w : World) :
    Calls Try.prog 25 #[.int .i64 a, .int .i64 b] w fun e w' => ((N < 170141183460469231731687303715884105728 ∧ ∃ r : Nat, e = .returned (.tuple #[.int .u64 (r : Int), .bool true]) ∧ IsRoot N r) ∨ (170141183460469231731687303715884105728 ≤ N ∧ e = .returned (.tuple #[.int .u64 0, .bool false]))) ∧ Below w.heap.size w w' := by
  obtain ⟨m, hm⟩ : ∃ m, a.natAbs = m := ⟨_, rfl⟩
  obtain ⟨n, hn⟩ : ∃ n, b.natAbs = n := ⟨_, rfl⟩
  rw [hm, hn] at hN
  have ha : m * m ≤ 9223372036854775808 * 9223372036854775808 := Nat.mul_le_mul (by omega) (by omega)
  have hb : n * n ≤ 9223372036854775808 * 9223372036854775808 := Nat.mul_le_mul (by omega) (by omega)
  obtain ⟨A, hA⟩ : ∃ A, m * m = A := ⟨_, rfl⟩
  obtain ⟨B, hB⟩ : ∃ B, n * n = B := ⟨_, rfl⟩
  rw [hA] at ha hN
  rw [hB] at hb hN
  obtain ⟨ah, hah⟩ : ∃ x, A / 18446744073709551616 = x := ⟨_, rfl⟩
  obtain ⟨al, hal⟩ : ∃ x, A % 18446744073709551616 = x := ⟨_, rfl⟩
  obtain ⟨bh, hbh⟩ : ∃ x, B / 18446744073709551616 = x := ⟨_, rfl⟩
  obtain ⟨bl', hbl⟩ : ∃ x, B % 18446744073709551616 = x := ⟨_, rfl⟩
  obtain ⟨c, hc⟩ : ∃ x, (al + bl') / 18446744073709551616 = x := ⟨_, rfl⟩
  obtain ⟨l, hl⟩ : ∃ x, (al + bl') % 18446744073709551616 = x := ⟨_, rfl⟩
  obtain ⟨h, hh⟩ : ∃ x, ah + bh + c = x := ⟨_, rfl⟩
  have eN1 : N / 18446744073709551616 = h := by omega
  have eN2 : N % 18446744073709551616 = l := by omega
  have c1 := fun w => wsq_aux a m A ah al h1 h2 hm hA hah hal w
  have c2 := fun w => wsq_aux b n B bh bl' h3 h4 hn hB hbh hbl w
  have c3 := fun ok hok x hx w => wadd_any ah al bh bl' h l ok (by omega) (by omega) (by omega) (by omega) c hl hc hh hok x hx (by omega) w
  have C1 := Lib.hid c1
  have C2 := Lib.hid c2
  by_cases hbig : N < 170141183460469231731687303715884105728
  · have hs : h < 9223372036854775808 := by omega
    have c4 := fun w => c3 true (by rw [decide_eq_true hs]) (h : Int) (by rw [if_pos hs]) w
    have C4 := Lib.hid c4
    have Hbig := Lib.hid hbig
    have E1 := Lib.hid eN1
    have E2 := Lib.hid eN2
    clear c1 c2 c3 c4 hbig hs eN1 eN2 hh hl hc hbl hbh hal hah hB hA ha hb hN hm hn h1 h2 h3 h4
    go_enter Try.func25, Try.ntmps25
    go_wp2_with fail
    refine (C1.out _).mono ?_
    rintro e w1 ⟨rfl, hb1⟩
    go_wp2_with fail
    refine (C2.out _).mono ?_
    rintro e w2 ⟨rfl, hb2⟩
    go_wp2_with fail
    refine (C4.out _).mono ?_
    rintro e w3 ⟨rfl, hb3⟩
    have hb4 := _root_.Go.Proofs.Ytmiplljcnchjkaa.bt hb1 (_root_.Go.Proofs.Ytmiplljcnchjkaa.bt hb2 (_root_.Go.Proofs.Ytmiplljcnchjkaa.bt hb3 (bl w3 (.cells #[.int .i64 (h : Int), .int .u64 (l : Int)] 28))))
    have Hb4 := Lib.hid hb4
    clear hb1 hb2 hb3 hb4
    go_wp2_with fail
    refine (rwide_any N h l Hbig.out E1.out E2.out _).mono ?_
    rintro e w4 ⟨r, rfl, hr, hb5⟩
    have Hb5 := Lib.hid (_root_.Go.Proofs.Ytmiplljcnchjkaa.bt Hb4.out hb5)
    have Hr := Lib.hid hr
    clear hr hb5
    go_wp2
    go_ret2
    exact ⟨.inl ⟨Hbig.out, r, rfl, Hr.out⟩, Hb5.out⟩
  · have hs : ¬ h < 9223372036854775808 := by omega
    have c4 := fun w => c3 false (by rw [decide_eq_false hs]) (-9223372036854775808) (by rw [if_neg hs]) w
    have C4 := Lib.hid c4
    have Hbig := Lib.hid hbig
    clear c1 c2 c3 c4 hbig hs eN1 eN2 hh hl hc hbl hbh hal hah hB hA ha hb hN hm hn h1 h2 h3 h4
    go_enter Try.func25, Try.ntmps25
    go_wp2_with fail
    refine (C1.out _).mono ?_
    rintro e w1 ⟨rfl, hb1⟩
    go_wp2_with fail
    refine (C2.out _).mono ?_
    rintro e w2 ⟨rfl, hb2⟩
    go_wp2_with fail
    refine (C4.out _).mono ?_
    rintro e w3 ⟨rfl, hb3⟩
    have hb4 := _root_.Go.Proofs.Ytmiplljcnchjkaa.bt hb1 (_root_.Go.Proofs.Ytmiplljcnchjkaa.bt hb2 (_root_.Go.Proofs.Ytmiplljcnchjkaa.bt hb3 (bl w3 (.cells #[.int .i64 (-9223372036854775808), .int .u64 (l : Int)] 28))))
    have Hb4 := Lib.hid hb4
    clear hb1 hb2 hb3 hb4
    go_wp2
    go_ret2
    exact ⟨.inr ⟨by have := Hbig.out; omega, rfl⟩, Hb4.out⟩
end Root
end Go.Proofs.Ytmiplljcnchjkaa
