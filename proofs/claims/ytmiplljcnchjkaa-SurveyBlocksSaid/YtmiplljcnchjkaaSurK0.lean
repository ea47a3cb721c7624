/-
  Squares as values; a sorted row of places; what the sort hands back.
-/
import Derived.Test.YtmiplljcnchjkaaSurR
namespace Go.Proofs.Ytmiplljcnchjkaa
open Go.RowKit
set_option linter.unusedVariables false
namespace Sur
theorem mk_row {P : Program} (t e : TypeId) (i : TypeInfo) (z : Value) (ht : P.underlying t = some (.slice e)) (hi : P.info? e = some i) (hz : i.zero = some z) (hone : z.cells = #[z]) (h1 : i.size = 1) (hb : i.bytes ≤ 8) (n : Nat) (hn : n ≤ 100000) (w : World) :
    (Instr.makeSlice t (.int .i64 (n : Int)) (.int .i64 (n : Int))).run P w = .ok (.slice (some ⟨w.heap.size, 0, none⟩) n n) (w.alloc (.cells (List.replicate n z).toArray e)) := by
  have hm : i.bytes * n ≤ 8 * 100000 := Nat.mul_le_mul hb hn
  have hb' : (i.bytes : Int) * (n : Int) ≤ 281474976710656 := by
    have h : ((i.bytes * n : Nat) : Int) ≤ 281474976710656 := by omega
    rwa [Int.natCast_mul] at h
  have hr := run_make (P := P) w t e i z ht hi hz .i64 .i64 n n (by omega) (Int.le_refl _) hb' (by omega)
  rw [hone, h1, Nat.mul_one, Int.toNat_natCast] at hr
  rw [hr]
  have : madeCells #[z] n = (List.replicate n z).toArray := by
    apply Array.toList_inj.1
    rw [toList_madeCells_one]
  rw [this]
theorem infoI64 : (Try.prog.info? 2).map (fun i => (i.zero, i.size, i.bytes)) = some (some (.int .i64 0), 1, 8) := by kernel_rfl
theorem infoInt : (Try.prog.info? 3).map (fun i => (i.zero, i.size, i.bytes)) = some (some (.int .i64 0), 1, 8) := by kernel_rfl
theorem info_parts {P : Program} {t : TypeId} {z : Value} {s b : Nat} (h : (P.info? t).map (fun i => (i.zero, i.size, i.bytes)) = some (some z, s, b)) : ∃ i, P.info? t = some i ∧ i.zero = some z ∧ i.size = s ∧ i.bytes = b := by
  cases hi : P.info? t with
  | none => rw [hi] at h; cases h
  | some i =>
    rw [hi] at h
    simp at h
    exact ⟨i, rfl, h.1, h.2.1, h.2.2⟩
/-- a square -/
structure Sq where
  x : Int
  y : Int
  r : Int
  n : Int
  v : Int
def Sq.cells (b : Sq) : List Value := [.int .i64 b.x, .int .i64 b.y, .int .i64 b.r, .int .i64 b.n, .int .i64 b.v]
def Sq.val (b : Sq) : Value := .agg #[.int .i64 b.x, .int .i64 b.y, .int .i64 b.r, .int .i64 b.n, .int .i64 b.v]
def sqs (L : List Sq) : List Value := L.flatMap Sq.cells
theorem sqs_len (L : List Sq) : (sqs L).length = L.length * 5 := flatMap_len Sq.cells 5 (fun _ => rfl) L
theorem sq_elem {w : World} {lo hi b off : Nat} {L : List Sq} (h : RdL w lo hi (some ⟨b, off, none⟩) (sqs L)) {i : Nat} (hi' : i < L.length) :
    w.cell? ⟨b, off + i * 5, none⟩ = some (.int .i64 L[i].x) ∧ w.cell? ⟨b, off + i * 5 + 1, none⟩ = some (.int .i64 L[i].y) ∧ w.cell? ⟨b, off + i * 5 + 2, none⟩ = some (.int .i64 L[i].r) ∧ w.cell? ⟨b, off + i * 5 + 3, none⟩ = some (.int .i64 L[i].n) ∧ w.cell? ⟨b, off + i * 5 + 4, none⟩ = some (.int .i64 L[i].v) := by
  have he := RdL.elem Sq.cells 5 (fun _ => rfl) h hi'
  exact ⟨he 0 _ (by decide) rfl, he 1 _ (by decide) rfl, he 2 _ (by decide) rfl, he 3 _ (by decide) rfl, he 4 _ (by decide) rfl⟩
def natv (k : Nat) : Value := .int .i64 (k : Int)
def zv (k : Int) : Value := .int .i64 k
/-- what each square tells -/
def tolds (L : List Sq) (s : Int) : List Int := L.map fun b => (infoC b.r s).1
def AllOk (L : List Sq) (s : Int) : Prop := ∀ b ∈ L, (infoC b.r s).2 = 0
/-- one place comes ahead of another one -/
def before (T : List Int) (a b : Nat) : Prop := T.getD b 0 < T.getD a 0 ∨ (T.getD a 0 = T.getD b 0 ∧ a < b)
/-- each place once, in order -/
def Ranked (T : List Int) (R : List Nat) : Prop := R.Perm (List.range T.length) ∧ ∀ i j, i < j → j < T.length → ¬ before T (R.getD j 0) (R.getD i 0)
theorem cmpT_lt (T : List Int) (a b : Nat) : cmpT T a b < 0 ↔ before T a b := by
  unfold cmpT before
  generalize T.getD b 0 = y
  generalize T.getD a 0 = x
  rcases Int.lt_trichotomy y x with h | h | h
  · have e : cmpZ y x = -1 := by unfold cmpZ; rw [if_pos h]
    rw [e, if_pos (by decide)]
    exact ⟨fun _ => .inl h, fun _ => by decide⟩
  · have e : cmpZ y x = 0 := by unfold cmpZ; rw [if_neg (by omega), if_neg (by omega)]
    rw [e, if_neg (by decide)]
    unfold cmpZ
    by_cases h1 : (a : Int) < (b : Int)
    · rw [if_pos h1]
      exact ⟨fun _ => .inr ⟨by omega, by omega⟩, fun _ => by decide⟩
    · rw [if_neg h1]
      by_cases h2 : (b : Int) < (a : Int)
      · rw [if_pos h2]
        exact ⟨fun h => absurd h (by decide), fun h => by omega⟩
      · rw [if_neg h2]
        exact ⟨fun h => absurd h (by decide), fun h => by omega⟩
  · have e : cmpZ y x = 1 := by unfold cmpZ; rw [if_neg (by omega), if_pos h]
    rw [e, if_pos (by decide)]
    exact ⟨fun h => absurd h (by decide), fun h => by omega⟩
def GotS (w : World) (T : List Int) (gr : Nat) (e : Ending) (w' : World) : Prop :=
  e = .returned (.tuple #[]) ∧ ∃ R, Ranked T R ∧ Blk w' gr 3 (R.map natv) ∧ ∀ w0 : World, Below w0.heap.size w0 w → w0.heap.size ≤ gr → Below w0.heap.size w0 w'
end Sur
end Go.Proofs.Ytmiplljcnchjkaa
