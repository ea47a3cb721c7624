/-
  The walks of survey.Worth and survey.Best.
-/
import Derived.Test.YtmiplljcnchjkaaSurK
namespace Go.Proofs.Ytmiplljcnchjkaa
open Go.RowKit
set_option linter.unusedVariables false
namespace Sur
theorem made_same (z : Array Value) (v : Value) (h : ∀ i, i < z.size → z[i]! = v) (h0 : 0 < z.size) (n : Nat) : madeCells z n = (List.replicate n v).toArray := by
  apply Array.ext
  · simp [madeCells]
  · intro i h1 h2
    simp only [madeCells, Array.getElem_map, Array.getElem_range, List.getElem_toArray, List.getElem_replicate]
    exact h _ (Nat.mod_lt _ h0)
theorem mk_zero {P : Program} (t e : TypeId) (i : TypeInfo) (z v : Value) (k : Nat) (ht : P.underlying t = some (.slice e)) (hi : P.info? e = some i) (hz : i.zero = some z) (hv : ∀ j, j < z.cells.size → z.cells[j]! = v) (hk0 : 0 < z.cells.size) (h1 : i.size = k) (hb : i.bytes ≤ 40) (l n : Nat) (hl : l ≤ n) (hn : n ≤ 100000) (w : World) :
    (Instr.makeSlice t (.int .i64 (l : Int)) (.int .i64 (n : Int))).run P w = .ok (.slice (some ⟨w.heap.size, 0, none⟩) l n) (w.alloc (.cells (List.replicate (n * k) v).toArray e)) := by
  have hm : i.bytes * n ≤ 40 * 100000 := Nat.mul_le_mul hb hn
  have hb' : (i.bytes : Int) * (n : Int) ≤ 281474976710656 := by
    have h : ((i.bytes * n : Nat) : Int) ≤ 281474976710656 := by omega
    rwa [Int.natCast_mul] at h
  have hr := run_make (P := P) w t e i z ht hi hz .i64 .i64 l n (by omega) (by omega) hb' (by omega)
  rw [h1, Int.toNat_natCast, Int.toNat_natCast] at hr
  rw [hr, made_same z.cells v hv hk0]
theorem infoBlock : (Try.prog.info? 61).map (fun i => (i.zero, i.size, i.bytes)) = some (some (.agg #[.int .i64 0, .int .i64 0, .int .i64 0, .int .i64 0, .int .i64 0]), 5, 40) := by kernel_rfl
theorem five_zero : ∀ j, j < (Value.agg #[.int .i64 0, .int .i64 0, .int .i64 0, .int .i64 0, .int .i64 0]).cells.size → (Value.agg #[.int .i64 0, .int .i64 0, .int .i64 0, .int .i64 0, .int .i64 0]).cells[j]! = .int .i64 0 := by
  intro j hj
  have h : j < 5 := hj
  have : j = 0 ∨ j = 1 ∨ j = 2 ∨ j = 3 ∨ j = 4 := by omega
  rcases this with rfl | rfl | rfl | rfl | rfl <;> rfl
def sum64 (l : List Int) : Int := l.foldl (· + ·) 0
theorem sum64_snoc (l : List Int) (x : Int) : sum64 (l ++ [x]) = sum64 l + x := by unfold sum64; rw [List.foldl_append]; rfl
theorem tolds_nat (L : List Sq) (s : Int) : ∀ x ∈ tolds L s, 0 ≤ x ∧ x < 2097152 := by
  intro x hx
  obtain ⟨b, _, rfl⟩ := List.mem_map.1 hx
  rcases infoC_two b.r s with h | ⟨n, h1, h⟩
  · rw [h]; decide
  · rw [h]
    show 0 ≤ (n : Int) ∧ (n : Int) < 2097152
    omega
theorem sum64_take (T : List Int) (hT : ∀ x ∈ T, 0 ≤ x ∧ x < 2097152) : ∀ i, i ≤ T.length → 0 ≤ sum64 (T.take i) ∧ sum64 (T.take i) ≤ 2097152 * (i : Int)
  | 0, _ => by rw [List.take_zero]; exact ⟨Int.le_refl _, Int.le_refl _⟩
  | i + 1, h => by
    obtain ⟨h1, h2⟩ := sum64_take T hT i (by omega)
    have hx := hT T[i] (List.getElem_mem _)
    rw [List.take_succ_eq_append_getElem (by omega), sum64_snoc]
    omega
def GotW (w : World) (L : List Sq) (s : Int) (e : Ending) (w' : World) : Prop :=
  Below w.heap.size w w' ∧ ((¬ AllOk L s ∧ e = .returned (.tuple #[.int .i64 0, .int .i64 2])) ∨ (AllOk L s ∧ e = .returned (.tuple #[.int .i64 (sum64 (tolds L s)), .int .i64 0])))
/-- the squares stand in memory -/
structure WT (w : World) (lo hi : Nat) (A : Option Addr) (L : List Sq) (wr : World) : Prop where
  rd : RdL wr lo hi A (sqs L)
  b : Below w.heap.size w wr
theorem WT.next {w wr w' : World} {lo hi : Nat} {A : Option Addr} {L : List Sq} (S : WT w lo hi A L wr) (h : Below wr.heap.size wr w') : WT w lo hi A L w' := ⟨S.rd.next h, bt S.b h⟩
set_option maxRecDepth 100000 in
set_option maxHeartbeats 1000000 in
theorem worth_any (A : Option Addr) (L : List Sq) (n cap lo hh : Nat) (s : Int) (w : World) (hrd : RdL w lo hh A (sqs L)) (hn : L.length = n) (hn2 : n ≤ 100000) :
    Calls Try.prog 42 #[.slice A n cap, .int .i64 s] w (GotW w L s) := by
  have HT : Hid ((tolds L s).length = n) := Lib.hid (by unfold tolds; rw [List.length_map, hn])
  have HN := Lib.hid hn
  have HK : Hid (WT w lo hh A L w) := Lib.hid ⟨hrd, Below.refl _ _⟩
  clear hrd
  go_enter Try.func42, Try.ntmps42
  go_wp2_with fail
  go_loopw [6, 8, 9, 10, 13] (fun s6 _ _ _ s13 wr => ∃ i : Nat, s13 = .int .i64 (i : Int) ∧ i ≤ n ∧ s6 = .int .i64 (sum64 ((tolds L s).take i)) ∧ (∀ j (h : j < L.length), j < i → (infoC L[j].r s).2 = 0) ∧ WT w lo hh A L wr) (fun _ _ _ _ s13 _ => n - (intOf s13).toNat)
  case atStart => exact ⟨0, rfl, by omega, by rw [List.take_zero]; rfl, fun j h h0 => absurd h0 (Nat.not_lt_zero _), HK.out⟩
  case round =>
    clear HK
    obtain ⟨i, rfl, hi0, rfl, hall, hS⟩ := hrel
    have HS := Lib.hid hS
    have HALL := Lib.hid hall
    clear hS hall
    have hsum := sum64_take (tolds L s) (tolds_nat L s) i (by rw [HT.out]; exact hi0)
    by_cases hi : i < n
    · have di : decide (i < n) = true := decide_eq_true hi
      have i0 : (0 : Int) ≤ (i : Int) := by omega
      have i1 : (i : Int) < (n : Int) := by omega
      have hiL : i < L.length := by rw [HN.out]; exact hi
      have hnext : Hid (sum64 ((tolds L s).take (i + 1)) = sum64 ((tolds L s).take i) + (infoC L[i].r s).1) := Lib.hid (by
        rw [List.take_succ_eq_append_getElem (by rw [HT.out]; exact hi), sum64_snoc]
        unfold tolds
        rw [List.getElem_map])
      obtain ⟨bL, oL, rfl, _, hb2, hb3, _⟩ := HS.out.rd.some (by rw [sqs_len]; omega)
      have hc := sq_elem HS.out.rd hiL
      obtain ⟨b, hb⟩ : ∃ b, b = L[i] := ⟨_, rfl⟩
      rw [← hb] at hc hnext
      have Hb := Lib.hid hb
      clear hb
      obtain ⟨x1, x2, x3, x4, x5⟩ := b
      obtain ⟨c0, c1, c2, c3, c4⟩ := hc
      dsimp only at c0 c1 c2 c3 c4 hnext
      have hin := fun w => info_any x3 s w
      unfold GotN at hin
      obtain ⟨p, hp⟩ : ∃ p, p = infoC x3 s := ⟨_, rfl⟩
      rw [← hp] at hin hnext
      have Hp := Lib.hid hp
      have htwo := infoC_two x3 s
      rw [← hp] at htwo
      clear hp
      obtain ⟨p1, p2⟩ := p
      dsimp only at hin hnext
      obtain ⟨S0, hS0⟩ : ∃ S, S = sum64 ((tolds L s).take i) := ⟨_, rfl⟩
      rw [← hS0] at hsum hnext ⊢
      clear hS0
      go_wp2_with fail
      refine (hin _).mono ?_
      rintro e w2 ⟨rfl, hb2⟩
      have HS2 := Lib.hid (HS.out.next (bt (bl wr _) hb2))
      clear hb2 hin HS c0 c1 c2 c3 c4
      rcases htwo with h2 | ⟨pn, hpn, h2⟩
      · injection h2 with h3 h4
        subst h3 h4
        have hbad : Hid (¬ AllOk L s) := Lib.hid (fun h => by
          have h5 := h _ (List.getElem_mem hiL)
          rw [← Hb.out] at h5
          have h6 := Hp.out
          rw [← h6] at h5
          cases h5)
        go_wp2_with fail
        go_ret2
        unfold GotW
        exact ⟨HS2.out.b, .inl ⟨hbad.out, rfl⟩⟩
      · injection h2 with h3 h4
        subst h4
        have hw : IntKind.i64.wrap (S0 + p1) = S0 + p1 := IntWalk.i64_in _ (by omega)
        have HALL2 : Hid (∀ j (h : j < L.length), j < i + 1 → (infoC L[j].r s).2 = 0) := Lib.hid (fun j h hj => by
          by_cases hji : j = i
          · subst hji
            rw [← Hb.out]
            show (infoC x3 s).2 = 0
            rw [← Hp.out]
          · exact HALL.out j h (by omega))
        clear h3
        go_wp2_with fail
        go_roundw
        case rel => exact ⟨i + 1, by go_num, by omega, by rw [hnext.out], HALL2.out, HS2.out⟩
        case measure => simp [intOf]; omega
    · have di : decide (i < n) = false := decide_eq_false hi
      have hin : i = n := by omega
      subst i
      have hok : Hid (AllOk L s) := Lib.hid (fun b hb => by
        obtain ⟨j, hj, rfl⟩ := List.getElem_of_mem hb
        exact HALL.out j hj (by rw [← HN.out]; exact hj))
      rw [List.take_of_length_le (by rw [HT.out]; exact Nat.le_refl _)]
      clear hsum
      go_wp2_with fail
      go_ret2
      unfold GotW
      exact ⟨HS.out.b, .inr ⟨hok.out, rfl⟩⟩
end Sur
end Go.Proofs.Ytmiplljcnchjkaa
