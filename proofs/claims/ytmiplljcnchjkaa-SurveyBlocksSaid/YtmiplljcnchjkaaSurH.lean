/-
  The square as the program's; each height is counted once; what the law SurveyBlocks holds.
-/
import Derived.Test.YtmiplljcnchjkaaSurO
import Derived.Test.YtmiplljcnchjkaaSurF
namespace Go.Proofs.Ytmiplljcnchjkaa
open Go.RowKit
set_option linter.unusedVariables false
namespace Sur
theorem own_any (b : Sq) (w : World) : Calls Try.prog 37 #[b.val] w fun e w' => e = .returned b.val ∧ Below w.heap.size w w' := by
  obtain ⟨x1, x2, x3, x4, x5⟩ := b
  unfold Sq.val
  go_enter Try.func37, Try.ntmps37
  go_wp2
  exact bodyPost_ret (v := .agg #[.int .i64 x1, .int .i64 x2, .int .i64 x3, .int .i64 x4, .int .i64 x5]) (by simp [results, Try.results37, go_sem]) rfl ⟨rfl, (bl _ _).alloc (by simp) _⟩
/-- how many heights the first squares have, missing or not, of the first so many -/
def cntT (W : Nat) (Z : List Int) (t : Nat) : Nat → Int
  | 0 => 0
  | k + 1 => cntT W Z t k + ((smT W Z k t).n + (smT W Z k t).v)
theorem cntT_zero (W : Nat) (Z : List Int) : ∀ m, cntT W Z 0 m = 0
  | 0 => rfl
  | m + 1 => by
    show cntT W Z 0 m + (0 + 0) = 0
    rw [cntT_zero W Z m]
    rfl
theorem cntT_step (W : Nat) (Z : List Int) (t : Nat) : ∀ m, cntT W Z (t + 1) m = cntT W Z t m + (if blk W t < m then 1 else 0)
  | 0 => rfl
  | m + 1 => by
    have ih := cntT_step W Z t m
    show cntT W Z (t + 1) m + ((smT W Z m (t + 1)).n + (smT W Z m (t + 1)).v) = cntT W Z t m + ((smT W Z m t).n + (smT W Z m t).v) + _
    rw [ih]
    show _ + ((if blk W t = m then _ else _ : Sm).n + (if blk W t = m then _ else _ : Sm).v) = _
    by_cases h : blk W t = m
    · rw [if_pos h, if_neg (by omega), if_pos (by omega)]
      unfold Sm.add
      split <;> dsimp only <;> omega
    · rw [if_neg h]
      by_cases h2 : blk W t < m
      · rw [if_pos h2, if_pos (by omega)]
        omega
      · rw [if_neg h2, if_neg (by omega)]
        omega
theorem cntT_all {W m : Nat} (Z : List Int) : ∀ t, (∀ s, s < t → blk W s < m) → cntT W Z t m = (t : Int)
  | 0, _ => cntT_zero W Z m
  | t + 1, h => by
    rw [cntT_step, cntT_all Z t (fun s hs => h s (by omega)), if_pos (h t (by omega))]
    rfl
theorem cntT_end {W H : Nat} (hW : 0 < W) (Z : List Int) : cntT W Z (W * H) (sd W * sd H) = ((W * H : Nat) : Int) := cntT_all Z _ fun s hs => blk_lt hW hs
theorem cntT_in {W H : Nat} {Z : List Int} (hW : 0 < W) (hz : InZ Z) : ∀ k, 0 ≤ cntT W Z (W * H) k ∧ cntT W Z (W * H) k ≤ 128 * (k : Int)
  | 0 => ⟨Int.le_refl _, Int.le_refl _⟩
  | k + 1 => by
    have ih := cntT_in (H := H) hW hz k
    obtain ⟨h1, h2, _, _, _, _, h3, h4⟩ := smT_end (H := H) hW hz k
    show 0 ≤ cntT W Z (W * H) k + _ ∧ cntT W Z (W * H) k + _ ≤ _
    omega
theorem sqOf_nv (W H : Nat) (Z : List Int) (k : Nat) : cntT W Z (W * H) (k + 1) = cntT W Z (W * H) k + ((sqOf W H Z k).n + (sqOf W H Z k).v) := rfl
theorem fieldZ_in {Z : List Int} (hz : InZ Z) (i : Nat) : -32768 ≤ fieldZ Z i ∧ fieldZ Z i ≤ 32767 := by
  unfold fieldZ
  split
  · exact hz.get i
  · split
    · exact half_in _ (hz.get _)
    · omega
theorem fieldL_in (a b : Nat) {Z : List Int} (hz : InZ Z) : InZ (fieldL a b Z) := by
  intro x hx
  unfold fieldL at hx
  obtain ⟨i, _, rfl⟩ := List.mem_map.1 hx
  exact fieldZ_in hz i
/-- what the law holds behind its two calls of Blocks -/
structure LB (w : World) (gf lo hi W H n cf : Nat) (Af : Option Addr) (F : List Int) (lo2 hi2 : Nat) (Al : Option Addr) (L : List Sq) (wr : World) : Prop where
  box : Blk wr gf 53 [.int .i64 (W : Int), .int .i64 (H : Int), .slice Af n cf]
  rf : RdL wr lo hi Af (F.map z16)
  rl : RdL wr lo2 hi2 Al (sqs L)
  b : Below w.heap.size w wr
  s : hi ≤ wr.heap.size
section
variable {w wr w' : World} {gf lo hi W H n cf lo2 hi2 : Nat} {Af Al : Option Addr} {F : List Int} {L : List Sq}
theorem LB.next (S : LB w gf lo hi W H n cf Af F lo2 hi2 Al L wr) (h : Below wr.heap.size wr w') : LB w gf lo hi W H n cf Af F lo2 hi2 Al L w' := ⟨S.box.next h, S.rf.next h, S.rl.next h, bt S.b h, by have := h.size; have := S.s; omega⟩
theorem LB.drewN (S : LB w gf lo hi W H n cf Af F lo2 hi2 Al L wr) (k : Nat) : LB w gf lo hi W H n cf Af F lo2 hi2 Al L (wr.drewN k) := S.next (below_drewN (Below.refl _ _) _)
theorem LB.drew (S : LB w gf lo hi W H n cf Af F lo2 hi2 Al L wr) : LB w gf lo hi W H n cf Af F lo2 hi2 Al L wr.drew := S.drewN 1
end
/-- three boxes of the field, five of a square -/
def At3 (w : World) (g W H n cf : Nat) (A : Option Addr) : Prop := w.cell? ⟨g, 0, none⟩ = some (.int .i64 (W : Int)) ∧ w.cell? ⟨g, 1, none⟩ = some (.int .i64 (H : Int)) ∧ w.cell? ⟨g, 2, none⟩ = some (.slice A n cf)
theorem sq_neq_eq (x1 x2 x3 x4 x5 : Int) (w : World) : (binOp .neq 61 (.agg #[.int .i64 x1, .int .i64 x2, .int .i64 x3, .int .i64 x4, .int .i64 x5]) (.agg #[.int .i64 x1, .int .i64 x2, .int .i64 x3, .int .i64 x4, .int .i64 x5])).run Try.prog w = .ok (.bool false) w := by
  simp [go_sem]
def HeSh : Sh := .cat (.int .i64) (.cat (.int .i64) (.cat (.slice (.int .i16)) .unit))
theorem flatMap_z16 : ∀ L : List Int, L.flatMap (fun x => [z16 x]) = L.map z16
  | [] => rfl
  | b :: L => by rw [List.flatMap_cons, flatMap_z16 L]; rfl
theorem open_i16 {W : World} {v : Value} (h : VSat W (.slice (.int .i16)) false v) : ∃ (A : Option Addr) (L : List Int) (cap : Nat), v = .slice A L.length cap ∧ RdL W 0 W.heap.size A (L.map z16) ∧ InZ L ∧ L.length ≤ cap ∧ L.length ≤ maxLen := by
  obtain ⟨A, L, cap, h1, h2, h3, h4, h5, _⟩ := open_slice_of (fun x : Int => [z16 x]) (fun x => -32768 ≤ x ∧ x ≤ 32767) (.int .i16) 1 rfl (fun _ => rfl) (by decide) (by
    rintro cs ⟨i, rfl, hi⟩
    have hb := hi
    refine ⟨i, rfl, ?_⟩
    exact bounds_i16 hi) h
  rw [flatMap_z16] at h2
  exact ⟨A, L, cap, h1, h2, h3, h4, Nat.le_trans h4 h5⟩
end Sur
end Go.Proofs.Ytmiplljcnchjkaa
