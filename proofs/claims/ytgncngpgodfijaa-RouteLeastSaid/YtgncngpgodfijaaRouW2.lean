/-
  The walks of package route: the squares beside one; of the document: is one beside another one?
-/
import Derived.Test.YtgncngpgodfijaaRouW
import Derived.Deep.DeepCutAuto
namespace Go.Proofs.Ytgncngpgodfijaa
open Go.RowKit
set_option linter.unusedVariables false
namespace Rou

def ni (x : Nat) : Value := .int .i64 (x : Int)
theorem infoInt : (Try.prog.info? 3).map (fun i => (i.zero, i.size, i.bytes)) = some (some (.int .i64 0), 1, 8) := by kernel_rfl
theorem tmodN (a w : Nat) : ((a : Int)).tmod (w : Int) = ((a % w : Nat) : Int) := by rw [Int.tmod_eq_emod_of_nonneg (by omega)]; rfl
theorem tdivN (a w : Nat) : ((a : Int)).tdiv (w : Int) = ((a / w : Nat) : Int) := by rw [Int.tdiv_eq_ediv_of_nonneg (by omega)]; rfl
theorem one_iff {p q : Int} : p * p + q * q = 1 ↔ (p = 0 ∧ (q = 1 ∨ q = -1)) ∨ (q = 0 ∧ (p = 1 ∨ p = -1)) := by
  constructor
  · intro h
    have hp := sq_nonneg p
    have hq := sq_nonneg q
    have b1 : -1 ≤ p ∧ p ≤ 1 := by
      refine ⟨?_, ?_⟩
      · by_cases g : p < -1
        · exfalso
          have : 2 * 2 ≤ (-p) * (-p) := Int.mul_le_mul (by omega) (by omega) (by omega) (by omega)
          rw [Int.neg_mul_neg] at this
          omega
        · omega
      · by_cases g : 1 < p
        · exfalso
          have : 2 * 2 ≤ p * p := Int.mul_le_mul (by omega) (by omega) (by omega) (by omega)
          omega
        · omega
    have b2 : -1 ≤ q ∧ q ≤ 1 := by
      refine ⟨?_, ?_⟩
      · by_cases g : q < -1
        · exfalso
          have : 2 * 2 ≤ (-q) * (-q) := Int.mul_le_mul (by omega) (by omega) (by omega) (by omega)
          rw [Int.neg_mul_neg] at this
          omega
        · omega
      · by_cases g : 1 < q
        · exfalso
          have : 2 * 2 ≤ q * q := Int.mul_le_mul (by omega) (by omega) (by omega) (by omega)
          omega
        · omega
    have e1 : p = -1 ∨ p = 0 ∨ p = 1 := by omega
    have e2 : q = -1 ∨ q = 0 ∨ q = 1 := by omega
    rcases e1 with rfl | rfl | rfl <;> rcases e2 with rfl | rfl | rfl <;> simp_all
  · rintro (⟨rfl, rfl | rfl⟩ | ⟨rfl, rfl | rfl⟩) <;> rfl
/-- two squares are beside each other just if so -/
theorem beside_iff {w h a b : Nat} (hw : 0 < w) (ha : a < w * h) (hb : b < w * h) :
    b ∈ besideL w h a ↔ (((a % w : Nat) : Int) - ((b % w : Nat) : Int)) * (((a % w : Nat) : Int) - ((b % w : Nat) : Int)) + (((a / w : Nat) : Int) - ((b / w : Nat) : Int)) * (((a / w : Nat) : Int) - ((b / w : Nat) : Int)) = 1 := by
  rw [one_iff, mem_beside]
  have ea := dm w a
  have eb := dm w b
  have ma := Nat.mod_lt a hw
  have mb := Nat.mod_lt b hw
  have qa : a / w < h := Nat.div_lt_of_lt_mul ha
  have qb : b / w < h := Nat.div_lt_of_lt_mul hb
  have uniq : ∀ q r, r < w → b = w * q + r → b / w = q ∧ b % w = r := fun q r hr e => by
    subst e
    exact ⟨by rw [Nat.mul_add_div hw, Nat.div_eq_of_lt hr, Nat.add_zero], by rw [Nat.mul_add_mod, Nat.mod_eq_of_lt hr]⟩
  generalize hx : a % w = x at *
  generalize hy : a / w = y at *
  constructor
  · rintro (⟨h1, e⟩ | ⟨h1, e⟩ | ⟨h1, e⟩ | ⟨h1, e⟩)
    · obtain ⟨u, v⟩ := uniq (y - 1) x ma (by
        obtain ⟨y', rfl⟩ : ∃ y', y = y' + 1 := ⟨y - 1, by omega⟩
        rw [Nat.mul_add] at ea
        simp only [Nat.add_sub_cancel]
        omega)
      rw [u, v]
      omega
    · obtain ⟨u, v⟩ := uniq y (x - 1) (by omega) (by omega)
      rw [u, v]
      omega
    · obtain ⟨u, v⟩ := uniq y (x + 1) (by omega) (by omega)
      rw [u, v]
      omega
    · obtain ⟨u, v⟩ := uniq (y + 1) x ma (by rw [Nat.mul_add]; omega)
      rw [u, v]
      omega
  · generalize b % w = x' at *
    generalize b / w = y' at *
    rintro (⟨h1, h2 | h2⟩ | ⟨h1, h2 | h2⟩)
    · refine .inl ⟨by omega, ?_⟩
      obtain rfl : y = y' + 1 := by omega
      rw [Nat.mul_add] at ea
      omega
    · refine .inr (.inr (.inr ⟨by omega, ?_⟩))
      obtain rfl : y' = y + 1 := by omega
      rw [Nat.mul_add] at eb
      omega
    · refine .inr (.inl ⟨by omega, ?_⟩)
      obtain rfl : y = y' := by omega
      omega
    · refine .inr (.inr (.inl ⟨by omega, ?_⟩))
      obtain rfl : y = y' := by omega
      omega
set_option maxRecDepth 100000 in
set_option maxHeartbeats 1000000 in
theorem ubeside_any {W H a b : Nat} (hw : 0 < W) (hW : W ≤ 64) (hH : H ≤ 64) (ha : a < W * H) (hb : b < W * H) (w : World) :
    Calls Try.prog 62 #[.int .i64 (W : Int), .int .i64 (a : Int), .int .i64 (b : Int)] w fun e w' => e = .returned (.bool (decide (b ∈ besideL W H a))) ∧ ∃ q, w' = w.drewN q := by
  have hm := Nat.mul_le_mul hW hH
  have ma := Nat.mod_lt a hw
  have mb := Nat.mod_lt b hw
  have qa : a / W < H := Nat.div_lt_of_lt_mul ha
  have qb : b / W < H := Nat.div_lt_of_lt_mul hb
  have t1 := tmodN a W
  have t2 := tmodN b W
  have t3 := tdivN a W
  have t4 := tdivN b W
  have hB := Lib.hid (beside_iff hw ha hb)
  have hnz : ((W : Int) == 0) = false := by rw [beq_eq_false_iff_ne]; omega
  have hnz2 : (W : Int) ≠ 0 := by omega
  generalize a % W = x at *
  generalize b % W = x' at *
  generalize a / W = y at *
  generalize b / W = y' at *
  obtain ⟨p, hp⟩ : ∃ p : Int, p = (x : Int) - (x' : Int) := ⟨_, rfl⟩
  obtain ⟨q, hq⟩ : ∃ q : Int, q = (y : Int) - (y' : Int) := ⟨_, rfl⟩
  have w1 : IntKind.i64.wrap (x : Int) = (x : Int) := IntWalk.i64_in _ (by omega)
  have w2 : IntKind.i64.wrap (x' : Int) = (x' : Int) := IntWalk.i64_in _ (by omega)
  have w3 : IntKind.i64.wrap (y : Int) = (y : Int) := IntWalk.i64_in _ (by omega)
  have w4 : IntKind.i64.wrap (y' : Int) = (y' : Int) := IntWalk.i64_in _ (by omega)
  have w5 : IntKind.i64.wrap ((x : Int) - (x' : Int)) = p := by rw [← hp]; exact IntWalk.i64_in _ (by omega)
  have w6 : IntKind.i64.wrap ((y : Int) - (y' : Int)) = q := by rw [← hq]; exact IntWalk.i64_in _ (by omega)
  have hBp := hB.out
  rw [← hp, ← hq] at hBp
  have HB := Lib.hid hBp
  have hp2 : p * p ≤ 4096 ∧ 0 ≤ p * p := by
    refine ⟨?_, sq_nonneg p⟩
    rcases Int.le_total 0 p with g | g
    · have := Int.mul_le_mul (a := p) (b := p) (c := 64) (d := 64) (by omega) (by omega) (by omega) (by omega); omega
    · have := Int.mul_le_mul (a := -p) (b := -p) (c := 64) (d := 64) (by omega) (by omega) (by omega) (by omega); rw [Int.neg_mul_neg] at this; omega
  have hq2 : q * q ≤ 4096 ∧ 0 ≤ q * q := by
    refine ⟨?_, sq_nonneg q⟩
    rcases Int.le_total 0 q with g | g
    · have := Int.mul_le_mul (a := q) (b := q) (c := 64) (d := 64) (by omega) (by omega) (by omega) (by omega); omega
    · have := Int.mul_le_mul (a := -q) (b := -q) (c := 64) (d := 64) (by omega) (by omega) (by omega) (by omega); rw [Int.neg_mul_neg] at this; omega
  have w7 : IntKind.i64.wrap (p * p) = p * p := IntWalk.i64_in _ (by omega)
  have w8 : IntKind.i64.wrap (q * q) = q * q := IntWalk.i64_in _ (by omega)
  have w9 : IntKind.i64.wrap (p * p + q * q) = p * p + q * q := IntWalk.i64_in _ (by omega)
  clear hp hq hB hBp
  go_enter Try.func62, Try.ntmps62
  go_wp2
  go_quiet (fail)
  go_wp2
  go_quiet (fail)
  go_wp2
  go_ret
  refine ⟨?_, _, rfl⟩
  have : (p * p + q * q == 1) = decide (b ∈ besideL W H a) := by
    rw [Bool.eq_iff_iff, beq_iff_eq, decide_eq_true_eq]
    exact HB.out.symm
  rw [← this]
  rfl
/-- the field's box, and what has been made behind it -/
structure BS (w : World) (W H : Nat) (A : Option Addr) (n cap : Nat) (wr : World) : Prop where
  box : Blk wr w.heap.size 82 (fdc W H A n cap)
  keep : Below w.heap.size w wr
  sz : w.heap.size + 1 ≤ wr.heap.size
section
variable {w wr w' : World} {W H n cap : Nat} {A : Option Addr}
theorem BS.next (S : BS w W H A n cap wr) (hb : Below wr.heap.size wr w') : BS w W H A n cap w' := ⟨S.box.next hb, bt S.keep hb, Nat.le_trans S.sz hb.size⟩
theorem BS.drewN (S : BS w W H A n cap wr) (q : Nat) : BS w W H A n cap (wr.drewN q) := S.next (below_drewN (Below.refl _ _) q)
theorem BS.grown (S : BS w W H A n cap wr) {r : Option Nat} (hg : wr.grownBy w' r) (hr : ∀ k, r = some k → w.heap.size + 1 ≤ k) : BS w W H A n cap w' :=
  ⟨S.box.grown hg (fun e => by have := hr _ e.symm; omega), S.keep.grown hg S.keep.size (fun k hk => by have := hr _ hk; omega), Nat.le_trans S.sz hg.size⟩
end
set_option maxRecDepth 100000 in
set_option maxHeartbeats 2000000 in
theorem beside_any {W H n cap a : Nat} {A : Option Addr} (hw : 0 < W) (hW : W ≤ 64) (hh : 0 < H) (hH : H ≤ 64) (ha : a < W * H) (w : World) :
    Calls Try.prog 61 #[.agg #[.int .i64 (W : Int), .int .i64 (H : Int), .slice A n cap], .int .i64 (a : Int)] w fun e w' => (∃ v, e = .returned v ∧ w'.ownsRow w.heap.size 3 1 v (besideL W H a).length ((besideL W H a).map ni)) ∧ Below w.heap.size w w' := by
  obtain ⟨i0, hi0, hz0, hz1, hz2⟩ := info_parts infoInt
  have hm := Nat.mul_le_mul hW hH
  have ma := Nat.mod_lt a hw
  have qa : a / W < H := Nat.div_lt_of_lt_mul ha
  have ea := dm W a
  have t1 := tmodN a W
  have t3 := tdivN a W
  have hyW : 0 < a / W → W ≤ a := fun h => by
    have := Nat.mul_le_mul_left W h
    omega
  have hxa : a % W ≤ a := Nat.mod_le a W
  have hnz : ((W : Int) == 0) = false := by rw [beq_eq_false_iff_ne]; omega
  have hnz2 : (W : Int) ≠ 0 := by omega
  obtain ⟨b1, hb1⟩ : ∃ b, b = a - W := ⟨_, rfl⟩
  obtain ⟨b2, hb2⟩ : ∃ b, b = a - 1 := ⟨_, rfl⟩
  obtain ⟨b3, hb3⟩ : ∃ b, b = a + 1 := ⟨_, rfl⟩
  obtain ⟨b4, hb4⟩ : ∃ b, b = a + W := ⟨_, rfl⟩
  obtain ⟨L0, hL0⟩ : ∃ L : List Nat, L = [] := ⟨_, rfl⟩
  have hbl : besideL W H a = (((L0 ++ if 0 < a / W then [b1] else []) ++ if 0 < a % W then [b2] else []) ++ if a % W + 1 < W then [b3] else []) ++ if a / W + 1 < H then [b4] else [] := by rw [hL0, hb1, hb2, hb3, hb4]; rfl
  have HBL := Lib.hid hbl
  have HL0 := Lib.hid hL0
  have hl0 : L0.length ≤ 0 := by rw [hL0]; decide
  clear hbl ea hL0
  generalize a % W = x at *
  generalize a / W = y at *
  have w1 : IntKind.i64.wrap (x : Int) = (x : Int) := IntWalk.i64_in _ (by omega)
  have w3 : IntKind.i64.wrap (y : Int) = (y : Int) := IntWalk.i64_in _ (by omega)
  have w5 : IntKind.i64.wrap ((W : Int) - 1) = (W : Int) - 1 := IntWalk.i64_in _ (by omega)
  have w6 : IntKind.i64.wrap ((H : Int) - 1) = (H : Int) - 1 := IntWalk.i64_in _ (by omega)
  have z1 : 0 < y → IntKind.i64.wrap ((a : Int) - (W : Int)) = (b1 : Int) := fun h => by rw [IntWalk.i64_in _ (by omega)]; have := hyW h; omega
  have z2 : 0 < x → IntKind.i64.wrap ((a : Int) - 1) = (b2 : Int) := fun h => by rw [IntWalk.i64_in _ (by omega)]; omega
  have z3 : IntKind.i64.wrap ((a : Int) + 1) = (b3 : Int) := by rw [IntWalk.i64_in _ (by omega)]; omega
  have z4 : IntKind.i64.wrap ((a : Int) + (W : Int)) = (b4 : Int) := by rw [IntWalk.i64_in _ (by omega)]; omega
  have Z1 := Lib.hid z1
  have Z2 := Lib.hid z2
  have hB := Blk.mk w 82 (fdc W H A n cap)
  have q0 : (w.alloc (.cells (fdc W H A n cap).toArray 82)).cell? ⟨w.heap.size, 0, none⟩ = some (.int .i64 (W : Int)) := hB.cell 0
  have HS := Lib.hid (⟨hB, bl w _, by simp⟩ : BS w W H A n cap (w.alloc (.cells (fdc W H A n cap).toArray 82)))
  clear hB z1 z2 hb1 hb2 hb3 hb4
  unfold fdc at q0 HS
  go_enter Try.func61, Try.ntmps61
  go_wp2
  go_quiet (fail)
  have HS0 := Lib.hid (HS.out.drewN nq)
  clear HS q0
  generalize (World.alloc w _).drewN nq = ws0 at *
  have HO0 := Lib.hid (show ws0.ownsRow (w.heap.size + 1) 3 1 (.slice none 0 0) L0.length (L0.map ni) by rw [HL0.out]; exact World.ownsRow_nil _ _ _ _)
  have q0 : ws0.cell? ⟨w.heap.size, 0, none⟩ = some (.int .i64 (W : Int)) := HS0.out.box.cell 0
  have q1 : ws0.cell? ⟨w.heap.size, 1, none⟩ = some (.int .i64 (H : Int)) := HS0.out.box.cell 1
  go_upto_if 17 with fail
  go_cut [7] (fun s wx => BS w W H A n cap wx ∧ wx.ownsRow (w.heap.size + 1) 3 1 s (L0 ++ if 0 < y then [b1] else []).length ((L0 ++ if 0 < y then [b1] else []).map ni))
  case first =>
    by_cases hc : 0 < y
    · have dc : decide (0 < y) = true := decide_eq_true hc
      have dcI : decide ((0 : Int) < (y : Int)) = true := decide_eq_true (by omega)
      have hcI : (0 : Int) < (y : Int) := by omega
      have HC := Lib.hid hc
      have z := Z1.out hc
      clear hc
      go_wp2_with (
        at_builtin
        refine wpList_append_mine ?_ (.tmp 18) (.tmp 23) 56 ?_ (w.heap.size + 1) 3 i0 (.int .i64 0) 1 8 Try.underlying56 hi0 hz0 hz1 hz2 ?_ ?_ _ L0.length (L0.map ni) ?_ (own_next HO0.out (bl _ _)) (some ⟨ws0.heap.size, 0, none⟩) 1 1 [.int .i64 (b1 : Int)] ?_ ?_ ?_ ?_ ?_ ?_ ?_ ?_ ?_
        · rfl
        · rfl
        · rfl
        · decide
        · rfl
        · rfl
        · rfl
        · intro h; cases h
        · intro ad h; injection h with h; subst h; exact cell_one_new _ _ _
        · simp [Value.oneCell']
        · unfold maxLen; omega
        · omega
        · have := HS0.out.sz; simp; omega
        intro v1 w1 own1 grow1 hw1
        have HS1 := Lib.hid ((HS0.out.next (bl _ _)).grown grow1 (fun k hk => (own_lt HO0.out hk).1))
        have HO1 := Lib.hid own1
        clear own1 grow1 hw1)
      go_meet
      refine ⟨HS1.out, ?_⟩
      rw [if_pos HC.out, List.length_append, List.map_append]
      exact HO1.out
    · have dc : decide (0 < y) = false := decide_eq_false hc
      have dcI : decide ((0 : Int) < (y : Int)) = false := decide_eq_false (by omega)
      have hcI : ¬ ((0 : Int) < (y : Int)) := by omega
      have HC := Lib.hid hc
      clear hc
      go_wp2_with fail
      go_meet
      rw [if_neg HC.out, List.append_nil]
      exact ⟨HS0.out, HO0.out⟩
  obtain ⟨hS, hO⟩ := hcut
  have HS1 := Lib.hid hS
  have HO1 := Lib.hid hO
  have hl1 : (L0 ++ if 0 < y then [b1] else []).length ≤ 1 := by rw [List.length_append]; split <;> simp only [List.length_cons, List.length_nil] <;> omega
  clear hS hO HS0 HO0 q0 q1
  generalize (L0 ++ if 0 < y then [b1] else []) = L1 at *
  generalize wc = ws1 at *
  have q0 : ws1.cell? ⟨w.heap.size, 0, none⟩ = some (.int .i64 (W : Int)) := HS1.out.box.cell 0
  have q1 : ws1.cell? ⟨w.heap.size, 1, none⟩ = some (.int .i64 (H : Int)) := HS1.out.box.cell 1
  go_upto_if 26 with fail
  go_cut [7] (fun s wx => BS w W H A n cap wx ∧ wx.ownsRow (w.heap.size + 1) 3 1 s (L1 ++ if 0 < x then [b2] else []).length ((L1 ++ if 0 < x then [b2] else []).map ni))
  case first =>
    by_cases hc : 0 < x
    · have dc : decide (0 < x) = true := decide_eq_true hc
      have dcI : decide ((0 : Int) < (x : Int)) = true := decide_eq_true (by omega)
      have hcI : (0 : Int) < (x : Int) := by omega
      have HC := Lib.hid hc
      have z := Z2.out hc
      clear hc
      go_wp2_with (
        at_builtin
        refine wpList_append_mine ?_ (.tmp 27) (.tmp 30) 56 ?_ (w.heap.size + 1) 3 i0 (.int .i64 0) 1 8 Try.underlying56 hi0 hz0 hz1 hz2 ?_ ?_ _ L1.length (L1.map ni) ?_ (own_next HO1.out (bl _ _)) (some ⟨ws1.heap.size, 0, none⟩) 1 1 [.int .i64 (b2 : Int)] ?_ ?_ ?_ ?_ ?_ ?_ ?_ ?_ ?_
        · rfl
        · rfl
        · rfl
        · decide
        · rfl
        · rfl
        · rfl
        · intro h; cases h
        · intro ad h; injection h with h; subst h; exact cell_one_new _ _ _
        · simp [Value.oneCell']
        · unfold maxLen; omega
        · omega
        · have := HS1.out.sz; simp; omega
        intro v1 w1 own1 grow1 hw1
        have HS1 := Lib.hid ((HS1.out.next (bl _ _)).grown grow1 (fun k hk => (own_lt HO1.out hk).1))
        have HO1 := Lib.hid own1
        clear own1 grow1 hw1)
      go_meet
      refine ⟨HS1.out, ?_⟩
      rw [if_pos HC.out, List.length_append, List.map_append]
      exact HO1.out
    · have dc : decide (0 < x) = false := decide_eq_false hc
      have dcI : decide ((0 : Int) < (x : Int)) = false := decide_eq_false (by omega)
      have hcI : ¬ ((0 : Int) < (x : Int)) := by omega
      have HC := Lib.hid hc
      clear hc
      go_wp2_with fail
      go_meet
      rw [if_neg HC.out, List.append_nil]
      exact ⟨HS1.out, HO1.out⟩
  obtain ⟨hS, hO⟩ := hcut
  have HS2 := Lib.hid hS
  have HO2 := Lib.hid hO
  have hl2 : (L1 ++ if 0 < x then [b2] else []).length ≤ 2 := by rw [List.length_append]; split <;> simp only [List.length_cons, List.length_nil] <;> omega
  clear hS hO HS1 HO1 q0 q1
  generalize (L1 ++ if 0 < x then [b2] else []) = L2 at *
  generalize wc = ws2 at *
  have q0 : ws2.cell? ⟨w.heap.size, 0, none⟩ = some (.int .i64 (W : Int)) := HS2.out.box.cell 0
  have q1 : ws2.cell? ⟨w.heap.size, 1, none⟩ = some (.int .i64 (H : Int)) := HS2.out.box.cell 1
  go_upto_if 36 with fail
  go_cut [7] (fun s wx => BS w W H A n cap wx ∧ wx.ownsRow (w.heap.size + 1) 3 1 s (L2 ++ if x + 1 < W then [b3] else []).length ((L2 ++ if x + 1 < W then [b3] else []).map ni))
  case first =>
    by_cases hc : x + 1 < W
    · have dc : decide (x + 1 < W) = true := decide_eq_true hc
      have dcI : decide ((x : Int) < (W : Int) - 1) = true := decide_eq_true (by omega)
      have hcI : (x : Int) < (W : Int) - 1 := by omega
      have HC := Lib.hid hc
      clear hc
      go_wp2_with (
        at_builtin
        refine wpList_append_mine ?_ (.tmp 37) (.tmp 40) 56 ?_ (w.heap.size + 1) 3 i0 (.int .i64 0) 1 8 Try.underlying56 hi0 hz0 hz1 hz2 ?_ ?_ _ L2.length (L2.map ni) ?_ (own_next HO2.out (bl _ _)) (some ⟨ws2.heap.size, 0, none⟩) 1 1 [.int .i64 (b3 : Int)] ?_ ?_ ?_ ?_ ?_ ?_ ?_ ?_ ?_
        · rfl
        · rfl
        · rfl
        · decide
        · rfl
        · rfl
        · rfl
        · intro h; cases h
        · intro ad h; injection h with h; subst h; exact cell_one_new _ _ _
        · simp [Value.oneCell']
        · unfold maxLen; omega
        · omega
        · have := HS2.out.sz; simp; omega
        intro v1 w1 own1 grow1 hw1
        have HS1 := Lib.hid ((HS2.out.next (bl _ _)).grown grow1 (fun k hk => (own_lt HO2.out hk).1))
        have HO1 := Lib.hid own1
        clear own1 grow1 hw1)
      go_meet
      refine ⟨HS1.out, ?_⟩
      rw [if_pos HC.out, List.length_append, List.map_append]
      exact HO1.out
    · have dc : decide (x + 1 < W) = false := decide_eq_false hc
      have dcI : decide ((x : Int) < (W : Int) - 1) = false := decide_eq_false (by omega)
      have hcI : ¬ ((x : Int) < (W : Int) - 1) := by omega
      have HC := Lib.hid hc
      clear hc
      go_wp2_with fail
      go_meet
      rw [if_neg HC.out, List.append_nil]
      exact ⟨HS2.out, HO2.out⟩
  obtain ⟨hS, hO⟩ := hcut
  have HS3 := Lib.hid hS
  have HO3 := Lib.hid hO
  have hl3 : (L2 ++ if x + 1 < W then [b3] else []).length ≤ 3 := by rw [List.length_append]; split <;> simp only [List.length_cons, List.length_nil] <;> omega
  clear hS hO HS2 HO2 q0 q1
  generalize (L2 ++ if x + 1 < W then [b3] else []) = L3 at *
  generalize wc = ws3 at *
  have q0 : ws3.cell? ⟨w.heap.size, 0, none⟩ = some (.int .i64 (W : Int)) := HS3.out.box.cell 0
  have q1 : ws3.cell? ⟨w.heap.size, 1, none⟩ = some (.int .i64 (H : Int)) := HS3.out.box.cell 1
  go_upto_if 46 with fail
  go_cut [7] (fun s wx => BS w W H A n cap wx ∧ wx.ownsRow (w.heap.size + 1) 3 1 s (L3 ++ if y + 1 < H then [b4] else []).length ((L3 ++ if y + 1 < H then [b4] else []).map ni))
  case first =>
    by_cases hc : y + 1 < H
    · have dc : decide (y + 1 < H) = true := decide_eq_true hc
      have dcI : decide ((y : Int) < (H : Int) - 1) = true := decide_eq_true (by omega)
      have hcI : (y : Int) < (H : Int) - 1 := by omega
      have HC := Lib.hid hc
      clear hc
      go_wp2_with (
        at_builtin
        refine wpList_append_mine ?_ (.tmp 47) (.tmp 52) 56 ?_ (w.heap.size + 1) 3 i0 (.int .i64 0) 1 8 Try.underlying56 hi0 hz0 hz1 hz2 ?_ ?_ _ L3.length (L3.map ni) ?_ (own_next HO3.out (bl _ _)) (some ⟨ws3.heap.size, 0, none⟩) 1 1 [.int .i64 (b4 : Int)] ?_ ?_ ?_ ?_ ?_ ?_ ?_ ?_ ?_
        · rfl
        · rfl
        · rfl
        · decide
        · rfl
        · rfl
        · rfl
        · intro h; cases h
        · intro ad h; injection h with h; subst h; exact cell_one_new _ _ _
        · simp [Value.oneCell']
        · unfold maxLen; omega
        · omega
        · have := HS3.out.sz; simp; omega
        intro v1 w1 own1 grow1 hw1
        have HS1 := Lib.hid ((HS3.out.next (bl _ _)).grown grow1 (fun k hk => (own_lt HO3.out hk).1))
        have HO1 := Lib.hid own1
        clear own1 grow1 hw1)
      go_meet
      refine ⟨HS1.out, ?_⟩
      rw [if_pos HC.out, List.length_append, List.map_append]
      exact HO1.out
    · have dc : decide (y + 1 < H) = false := decide_eq_false hc
      have dcI : decide ((y : Int) < (H : Int) - 1) = false := decide_eq_false (by omega)
      have hcI : ¬ ((y : Int) < (H : Int) - 1) := by omega
      have HC := Lib.hid hc
      clear hc
      go_wp2_with fail
      go_meet
      rw [if_neg HC.out, List.append_nil]
      exact ⟨HS3.out, HO3.out⟩
  obtain ⟨hS, hO⟩ := hcut
  have HS4 := Lib.hid hS
  have HO4 := Lib.hid hO
  have hl4 : (L3 ++ if y + 1 < H then [b4] else []).length ≤ 4 := by rw [List.length_append]; split <;> simp only [List.length_cons, List.length_nil] <;> omega
  clear hS hO HS3 HO3 q0 q1
  generalize (L3 ++ if y + 1 < H then [b4] else []) = L4 at *
  generalize wc = ws4 at *
  go_wp2_with fail
  go_ret
  exact ⟨⟨_, rfl, by rw [HBL.out]; exact own_down HO4.out (by omega)⟩, HS4.out.keep⟩
end Rou
end Go.Proofs.Ytgncngpgodfijaa
