/-
  The walks of the reference of package wide: which of two numbers is less.
-/
import Derived.Test.YtmiplljcnchjkaaNumW7
namespace Go.Proofs.Ytmiplljcnchjkaa
open Go.RowKit
set_option linter.unusedVariables false
namespace Num

theorem wpList_load_want {P : Program} {ops : Array Oper} {rest : List Oper} {op : Oper} {a : Act} {w : World} {Q : Exit → Act → World → Prop} (hgd : Region.wanted op (yielded ops a.tmps) = true) (ty : TypeId) (x : Operand) (ho : op.op = .load ty x)
    (b o : Nat) (hx : a.eval x = .pointer (some ⟨b, o, none⟩)) (cs : List Value) (d : TypeDesc) (hc : w.rangeAt b o cs)
    (hu : P.underlying ty = some d) (hd : d.isRow = true) (hi : (P.info? ty).map (·.size) = some cs.length)
    (h : wpList P ops Q rest (a.put op.dst (.agg cs.toArray)) w) : wpList P ops Q (op :: rest) a w :=
  wpList_step fun K hK => by rw [if_pos hgd]; exact wp_load_mid ty x ho b o hx cs d hc hu hd hi (hK _ _ h)
theorem bt_inj {X Y : Nat} (hX : X < 2 ^ 129) (hY : Y < 2 ^ 129) (h : ∀ i, i < 129 → bitN X i = bitN Y i) : X = Y := by
  have : ∀ n, n ≤ 129 → X % 2 ^ n = Y % 2 ^ n := by
    intro n
    induction n with
    | zero => intro _; rw [Nat.pow_zero, Nat.mod_one, Nat.mod_one]
    | succ n ih =>
      intro hn
      rw [mod_next, mod_next, ih (by omega), h n (by omega)]
  have h2 := this 129 (Nat.le_refl _)
  rwa [Nat.mod_eq_of_lt hX, Nat.mod_eq_of_lt hY] at h2
def ints (X : Nat) : List Int := (List.range 129).map fun i => (bitN X i : Int)
theorem bt_ints (X : Nat) : bt X = (ints X).map (.int .i64) := by unfold bt ints; rw [List.map_map]; rfl
theorem ints_len (X : Nat) : (ints X).length = 129 := by unfold ints; simp
theorem ints_eq {X Y : Nat} (hX : X < 2 ^ 129) (hY : Y < 2 ^ 129) : ints X = ints Y ↔ X = Y := by
  constructor
  · intro h
    refine bt_inj hX hY fun i hi => ?_
    have h1 : (ints X)[i]? = (ints Y)[i]? := by rw [h]
    have a1 : (ints X)[i]? = some (bitN X i : Int) := by simp [ints, hi]
    have a2 : (ints Y)[i]? = some (bitN Y i : Int) := by simp [ints, hi]
    rw [a1, a2] at h1
    injection h1 with h1
    omega
  · intro h; rw [h]
theorem run_eql_bits (X Y : Nat) (hX : X < 2 ^ 129) (hY : Y < 2 ^ 129) (r : Bool) (hr : r = decide (X = Y)) (w : World) :
    (binOp .eql 30 (.agg (bt X).toArray) (.agg (bt Y).toArray)).run Try.prog w = .ok (.bool r) w := by
  have h := run_eql_ints (P := Try.prog) w (t := 30) (e := 3) (n := 129) (k := .i64) (by kernel_rfl) (by kernel_rfl) (by kernel_rfl) (by kernel_rfl) (by kernel_rfl) (ints X) (ints Y) (ints_len X) (ints_len Y)
  rw [← bt_ints, ← bt_ints] at h
  have hb : decide (ints X = ints Y) = r := by rw [hr]; exact decide_eq_decide.2 (ints_eq hX hY)
  rw [hb] at h
  exact h
set_option maxRecDepth 100000 in
set_option maxHeartbeats 1000000 in
theorem cmp_any (X Y : Nat) (hX : X < 2 ^ 129) (hY : Y < 2 ^ 129) (hle : X ≤ Y) (w : World) :
    Calls Try.prog 24 #[nv false X, nv false Y] w fun e w' => (∃ c : Int, c ≤ 0 ∧ e = .returned (.int .i64 c)) ∧ Below w.heap.size w w' := by
  have z1 := fun w => zero_any false X hX w
  have z2 := fun w => zero_any false Y hY w
  have l1 := fun w => less_any X Y hX hY w
  obtain ⟨q, hq⟩ : ∃ q, q = decide (X = Y) := ⟨_, rfl⟩
  have heq := run_eql_bits X Y hX hY q hq
  obtain ⟨x0, hx0⟩ : ∃ q, decide (X = 0) = q := ⟨_, rfl⟩
  obtain ⟨y0, hy0⟩ : ∃ q, decide (Y = 0) = q := ⟨_, rfl⟩
  rw [hx0] at z1
  rw [hy0] at z2
  have hcase : (x0 = true ∧ y0 = true) ∨ (x0 = true ∧ y0 = false ∧ q = false ∧ decide (X < Y) = true) ∨ (x0 = false ∧ q = true) ∨ (x0 = false ∧ q = false ∧ decide (X < Y) = true) := by
    subst hx0 hy0 hq
    by_cases h1 : X = 0
    · by_cases h2 : Y = 0
      · exact .inl ⟨decide_eq_true h1, decide_eq_true h2⟩
      · exact .inr (.inl ⟨decide_eq_true h1, decide_eq_false h2, decide_eq_false (by omega), decide_eq_true (by omega)⟩)
    · by_cases h2 : X = Y
      · exact .inr (.inr (.inl ⟨decide_eq_false h1, decide_eq_true h2⟩))
      · exact .inr (.inr (.inr ⟨decide_eq_false h1, decide_eq_false h2, decide_eq_true (by omega)⟩))
  have k0 := (Blk.mk w 32 (num false X)).alloc (.cells (num false Y).toArray 32)
  have k1 := Blk.mk (w.alloc (.cells (num false X).toArray 32)) 32 (num false Y)
  have kb := _root_.Go.Proofs.Ytmiplljcnchjkaa.bt (bl w (.cells (num false X).toArray 32)) (bl _ (.cells (num false Y).toArray 32))
  rw [show (w.alloc (.cells (num false X).toArray 32)).heap.size = w.heap.size + 1 by simp] at k1
  have K0 := Lib.hid k0
  have K1 := Lib.hid k1
  have KB := Lib.hid kb
  clear k0 k1 kb hX hY hle hx0 hy0 hq
  unfold nv at *
  generalize hd : decide (X < Y) = d at *
  clear hd
  rcases hcase with ⟨rfl, rfl⟩ | ⟨rfl, rfl, rfl, rfl⟩ | ⟨rfl, rfl⟩ | ⟨rfl, rfl, rfl⟩
  · go_enter Try.func24, Try.ntmps24
    go_wp2_with (refine wpList_load_mid rfl 32 _ rfl w.heap.size 0 rfl (num false X) _ ?hr Try.underlying32 rfl (infoN3 _ _) ?_; (case hr => exact nums_range K0.out))
    refine (z1 _).mono ?_
    rintro e w2 ⟨rfl, hb2⟩
    have X2 := Lib.hid (K1.out.next hb2)
    have B2 := Lib.hid (_root_.Go.Proofs.Ytmiplljcnchjkaa.bt KB.out hb2)
    clear hb2
    go_wp2_with (refine wpList_load_want (by rfl) 32 _ rfl (w.heap.size + 1) 0 rfl (num false Y) _ ?hr Try.underlying32 rfl (infoN3 _ _) ?_; (case hr => exact nums_range X2.out))
    refine (z2 _).mono ?_
    rintro e w3 ⟨rfl, hb3⟩
    have B3 := Lib.hid (_root_.Go.Proofs.Ytmiplljcnchjkaa.bt B2.out hb3)
    clear hb3
    go_wp2_with fail
    go_ret
    exact ⟨⟨0, by decide, rfl⟩, B3.out⟩
  · go_enter Try.func24, Try.ntmps24
    go_wp2_with (refine wpList_load_mid rfl 32 _ rfl w.heap.size 0 rfl (num false X) _ ?hr Try.underlying32 rfl (infoN3 _ _) ?_; (case hr => exact nums_range K0.out))
    refine (z1 _).mono ?_
    rintro e w2 ⟨rfl, hb2⟩
    have X2 := Lib.hid (K1.out.next hb2)
    have Y2 := Lib.hid (K0.out.next hb2)
    have B2 := Lib.hid (_root_.Go.Proofs.Ytmiplljcnchjkaa.bt KB.out hb2)
    clear hb2
    go_wp2_with (refine wpList_load_want (by rfl) 32 _ rfl (w.heap.size + 1) 0 rfl (num false Y) _ ?hr Try.underlying32 rfl (infoN3 _ _) ?_; (case hr => exact nums_range X2.out))
    refine (z2 _).mono ?_
    rintro e w3 ⟨rfl, hb3⟩
    have K0 := Lib.hid (Y2.out.next hb3)
    have K1 := Lib.hid (X2.out.next hb3)
    have KB := Lib.hid (_root_.Go.Proofs.Ytmiplljcnchjkaa.bt B2.out hb3)
    clear hb3
    have m0 : w3.cell? ⟨w.heap.size, 0, none⟩ = some (.bool false) := K0.out.cell 0
    have m1 : w3.cell? ⟨w.heap.size + 1, 0, none⟩ = some (.bool false) := K1.out.cell 0
    go_wp2_with (first
      | (refine wpList_load_mid rfl 30 _ rfl w.heap.size 1 rfl (bt X) _ ?hr Try.underlying30 rfl (infoA3 _) ?_; (case hr => exact num_range K0.out))
      | (refine wpList_load_mid rfl 30 _ rfl (w.heap.size + 1) 1 rfl (bt Y) _ ?hr Try.underlying30 rfl (infoA3 _) ?_; (case hr => exact num_range K1.out)))
    refine wp_region_any (by kernel_rfl) ?_
    change wpAny _ _ _ _ _ _ _ w3.drew
    have V0 := Lib.hid K0.out.drew
    have V1 := Lib.hid K1.out.drew
    have VB := Lib.hid KB.out.drew
    have hS : w3.drew.rangeAt w.heap.size 1 (bt X) ∧ w3.drew.rangeAt (w.heap.size + 1) 1 (bt Y) ∧ w3.drew.cell? ⟨w.heap.size, 0, none⟩ = some (.bool false) := ⟨num_range V0.out, num_range V1.out, V0.out.cell 0⟩
    clear m0 m1 K0 K1 KB
    generalize w3.drew = wd at *
    refine wpAny_split 7 (L := #[false, false, false, false, false, false, false]) (f := 7) (S := fun w' => w'.rangeAt w.heap.size 1 (bt X) ∧ w'.rangeAt (w.heap.size + 1) 1 (bt Y) ∧ w'.cell? ⟨w.heap.size, 0, none⟩ = some (.bool false)) (by kernel_rfl) hS (fun hHeld => ?_)
    simp only [List.take_succ_cons, List.take_zero, List.drop_succ_cons, List.drop_zero]
    refine wpAnyH_take (i := 0) (oi := ⟨some 23, _, _, _, _, _⟩) (v := ?_) rfl (by kernel_rfl) (by kernel_rfl) (by kernel_rfl) (fun _ _ _ h => h) (Or.inl ⟨by rfl, ?_⟩) (by assumption) ?_
    rotate_left
    · (intro w hSw; (try dsimp only at hSw); go_simp; try (with_reducible rfl))
    simp only [Act.put, List.setIfInBounds_toArray, List.set_cons_zero, List.set_cons_succ]
    refine wpAnyH_take (i := 1) (oi := ⟨some 24, _, _, _, _, _⟩) (v := .agg (bt X).toArray) rfl (by kernel_rfl) (by kernel_rfl) (by kernel_rfl) (fun _ _ _ h => h) (yieldsIf_load_mid (by rfl) _ _ rfl (w.heap.size) 1 rfl (bt X) _ (fun w h => h.1) Try.underlying30 rfl (infoA3 _)) (by assumption) ?_
    simp only [Act.put, List.setIfInBounds_toArray, List.set_cons_zero, List.set_cons_succ]
    refine wpAnyH_take (i := 2) (oi := ⟨some 25, _, _, _, _, _⟩) (v := ?_) rfl (by kernel_rfl) (by kernel_rfl) (by kernel_rfl) (fun _ _ _ h => h) (Or.inl ⟨by rfl, ?_⟩) (by assumption) ?_
    rotate_left
    · (intro w hSw; (try dsimp only at hSw); go_simp; try (with_reducible rfl))
    simp only [Act.put, List.setIfInBounds_toArray, List.set_cons_zero, List.set_cons_succ]
    refine wpAnyH_take (i := 3) (oi := ⟨some 26, _, _, _, _, _⟩) (v := .agg (bt Y).toArray) rfl (by kernel_rfl) (by kernel_rfl) (by kernel_rfl) (fun _ _ _ h => h) (yieldsIf_load_mid (by rfl) _ _ rfl (w.heap.size + 1) 1 rfl (bt Y) _ (fun w h => h.2.1) Try.underlying30 rfl (infoA3 _)) (by assumption) ?_
    simp only [Act.put, List.setIfInBounds_toArray, List.set_cons_zero, List.set_cons_succ]
    refine wpAnyH_take (i := 5) (oi := ⟨some 28, _, _, _, _, _⟩) (v := ?_) rfl (by kernel_rfl) (by kernel_rfl) (by kernel_rfl) (fun _ _ _ h => h) (Or.inl ⟨by rfl, ?_⟩) (by assumption) ?_
    rotate_left
    · (intro w hSw; (try dsimp only at hSw); go_simp; try (with_reducible rfl))
    simp only [Act.put, List.setIfInBounds_toArray, List.set_cons_zero, List.set_cons_succ]
    refine wpAnyH_take (i := 6) (oi := ⟨some 29, _, _, _, _, _⟩) (v := ?_) rfl (by kernel_rfl) (by kernel_rfl) (by kernel_rfl) (fun _ _ _ h => h) (Or.inl ⟨by rfl, ?_⟩) (by assumption) ?_
    rotate_left
    · (intro w hSw; (try dsimp only at hSw); go_simp; try (with_reducible rfl))
    simp only [Act.put, List.setIfInBounds_toArray, List.set_cons_zero, List.set_cons_succ]
    refine wpAnyH_ready (rs := [4]) (by kernel_rfl) (by simp) ?_
    refine AllReadyH.cons (o := ⟨some 27, _, _, _, _, _⟩) rfl (fun K hK => ?_) AllReadyH.nil
    go_simp
    refine (l1 _).mono ?_
    rintro e w6 ⟨rfl, hb6⟩
    go_wp2_with fail
    have U0 := Lib.hid (V0.out.next hb6)
    have U1 := Lib.hid (V1.out.next hb6)
    have UB := Lib.hid (_root_.Go.Proofs.Ytmiplljcnchjkaa.bt VB.out hb6)
    refine hK.out _ _ ⟨num_range U0.out, num_range U1.out, U0.out.cell 0⟩ (fun hHeld => ?_)
    clear hK K hb6 hS
    simp only [List.setIfInBounds_toArray, List.set_cons_zero, List.set_cons_succ]
    refine wpAnyH_done (by kernel_rfl) ?_ _
    change wpList _ _ _ _ _ _
    clear hHeld
    go_wp2_with fail
    go_ret
    exact ⟨⟨-1, by decide, rfl⟩, UB.out⟩
  · go_enter Try.func24, Try.ntmps24
    go_wp2_with (refine wpList_load_mid rfl 32 _ rfl w.heap.size 0 rfl (num false X) _ ?hr Try.underlying32 rfl (infoN3 _ _) ?_; (case hr => exact nums_range K0.out))
    refine (z1 _).mono ?_
    rintro e w3 ⟨rfl, hb3⟩
    have K0 := Lib.hid (K0.out.next hb3)
    have K1 := Lib.hid (K1.out.next hb3)
    have KB := Lib.hid (_root_.Go.Proofs.Ytmiplljcnchjkaa.bt KB.out hb3)
    clear hb3
    have m0 : w3.cell? ⟨w.heap.size, 0, none⟩ = some (.bool false) := K0.out.cell 0
    have m1 : w3.cell? ⟨w.heap.size + 1, 0, none⟩ = some (.bool false) := K1.out.cell 0
    go_wp2_with (first
      | (refine wpList_load_mid rfl 30 _ rfl w.heap.size 1 rfl (bt X) _ ?hr Try.underlying30 rfl (infoA3 _) ?_; (case hr => exact num_range K0.out))
      | (refine wpList_load_mid rfl 30 _ rfl (w.heap.size + 1) 1 rfl (bt Y) _ ?hr Try.underlying30 rfl (infoA3 _) ?_; (case hr => exact num_range K1.out)))
    go_ret
    exact ⟨⟨0, by decide, rfl⟩, KB.out⟩
  · go_enter Try.func24, Try.ntmps24
    go_wp2_with (refine wpList_load_mid rfl 32 _ rfl w.heap.size 0 rfl (num false X) _ ?hr Try.underlying32 rfl (infoN3 _ _) ?_; (case hr => exact nums_range K0.out))
    refine (z1 _).mono ?_
    rintro e w3 ⟨rfl, hb3⟩
    have K0 := Lib.hid (K0.out.next hb3)
    have K1 := Lib.hid (K1.out.next hb3)
    have KB := Lib.hid (_root_.Go.Proofs.Ytmiplljcnchjkaa.bt KB.out hb3)
    clear hb3
    have m0 : w3.cell? ⟨w.heap.size, 0, none⟩ = some (.bool false) := K0.out.cell 0
    have m1 : w3.cell? ⟨w.heap.size + 1, 0, none⟩ = some (.bool false) := K1.out.cell 0
    go_wp2_with (first
      | (refine wpList_load_mid rfl 30 _ rfl w.heap.size 1 rfl (bt X) _ ?hr Try.underlying30 rfl (infoA3 _) ?_; (case hr => exact num_range K0.out))
      | (refine wpList_load_mid rfl 30 _ rfl (w.heap.size + 1) 1 rfl (bt Y) _ ?hr Try.underlying30 rfl (infoA3 _) ?_; (case hr => exact num_range K1.out)))
    refine wp_region_any (by kernel_rfl) ?_
    change wpAny _ _ _ _ _ _ _ w3.drew
    have V0 := Lib.hid K0.out.drew
    have V1 := Lib.hid K1.out.drew
    have VB := Lib.hid KB.out.drew
    have hS : w3.drew.rangeAt w.heap.size 1 (bt X) ∧ w3.drew.rangeAt (w.heap.size + 1) 1 (bt Y) ∧ w3.drew.cell? ⟨w.heap.size, 0, none⟩ = some (.bool false) := ⟨num_range V0.out, num_range V1.out, V0.out.cell 0⟩
    clear m0 m1 K0 K1 KB
    generalize w3.drew = wd at *
    refine wpAny_split 7 (L := #[false, false, false, false, false, false, false]) (f := 7) (S := fun w' => w'.rangeAt w.heap.size 1 (bt X) ∧ w'.rangeAt (w.heap.size + 1) 1 (bt Y) ∧ w'.cell? ⟨w.heap.size, 0, none⟩ = some (.bool false)) (by kernel_rfl) hS (fun hHeld => ?_)
    simp only [List.take_succ_cons, List.take_zero, List.drop_succ_cons, List.drop_zero]
    refine wpAnyH_take (i := 0) (oi := ⟨some 23, _, _, _, _, _⟩) (v := ?_) rfl (by kernel_rfl) (by kernel_rfl) (by kernel_rfl) (fun _ _ _ h => h) (Or.inl ⟨by rfl, ?_⟩) (by assumption) ?_
    rotate_left
    · (intro w hSw; (try dsimp only at hSw); go_simp; try (with_reducible rfl))
    simp only [Act.put, List.setIfInBounds_toArray, List.set_cons_zero, List.set_cons_succ]
    refine wpAnyH_take (i := 1) (oi := ⟨some 24, _, _, _, _, _⟩) (v := .agg (bt X).toArray) rfl (by kernel_rfl) (by kernel_rfl) (by kernel_rfl) (fun _ _ _ h => h) (yieldsIf_load_mid (by rfl) _ _ rfl (w.heap.size) 1 rfl (bt X) _ (fun w h => h.1) Try.underlying30 rfl (infoA3 _)) (by assumption) ?_
    simp only [Act.put, List.setIfInBounds_toArray, List.set_cons_zero, List.set_cons_succ]
    refine wpAnyH_take (i := 2) (oi := ⟨some 25, _, _, _, _, _⟩) (v := ?_) rfl (by kernel_rfl) (by kernel_rfl) (by kernel_rfl) (fun _ _ _ h => h) (Or.inl ⟨by rfl, ?_⟩) (by assumption) ?_
    rotate_left
    · (intro w hSw; (try dsimp only at hSw); go_simp; try (with_reducible rfl))
    simp only [Act.put, List.setIfInBounds_toArray, List.set_cons_zero, List.set_cons_succ]
    refine wpAnyH_take (i := 3) (oi := ⟨some 26, _, _, _, _, _⟩) (v := .agg (bt Y).toArray) rfl (by kernel_rfl) (by kernel_rfl) (by kernel_rfl) (fun _ _ _ h => h) (yieldsIf_load_mid (by rfl) _ _ rfl (w.heap.size + 1) 1 rfl (bt Y) _ (fun w h => h.2.1) Try.underlying30 rfl (infoA3 _)) (by assumption) ?_
    simp only [Act.put, List.setIfInBounds_toArray, List.set_cons_zero, List.set_cons_succ]
    refine wpAnyH_take (i := 5) (oi := ⟨some 28, _, _, _, _, _⟩) (v := ?_) rfl (by kernel_rfl) (by kernel_rfl) (by kernel_rfl) (fun _ _ _ h => h) (Or.inl ⟨by rfl, ?_⟩) (by assumption) ?_
    rotate_left
    · (intro w hSw; (try dsimp only at hSw); go_simp; try (with_reducible rfl))
    simp only [Act.put, List.setIfInBounds_toArray, List.set_cons_zero, List.set_cons_succ]
    refine wpAnyH_take (i := 6) (oi := ⟨some 29, _, _, _, _, _⟩) (v := ?_) rfl (by kernel_rfl) (by kernel_rfl) (by kernel_rfl) (fun _ _ _ h => h) (Or.inl ⟨by rfl, ?_⟩) (by assumption) ?_
    rotate_left
    · (intro w hSw; (try dsimp only at hSw); go_simp; try (with_reducible rfl))
    simp only [Act.put, List.setIfInBounds_toArray, List.set_cons_zero, List.set_cons_succ]
    refine wpAnyH_ready (rs := [4]) (by kernel_rfl) (by simp) ?_
    refine AllReadyH.cons (o := ⟨some 27, _, _, _, _, _⟩) rfl (fun K hK => ?_) AllReadyH.nil
    go_simp
    refine (l1 _).mono ?_
    rintro e w6 ⟨rfl, hb6⟩
    go_wp2_with fail
    have U0 := Lib.hid (V0.out.next hb6)
    have U1 := Lib.hid (V1.out.next hb6)
    have UB := Lib.hid (_root_.Go.Proofs.Ytmiplljcnchjkaa.bt VB.out hb6)
    refine hK.out _ _ ⟨num_range U0.out, num_range U1.out, U0.out.cell 0⟩ (fun hHeld => ?_)
    clear hK K hb6 hS
    simp only [List.setIfInBounds_toArray, List.set_cons_zero, List.set_cons_succ]
    refine wpAnyH_done (by kernel_rfl) ?_ _
    change wpList _ _ _ _ _ _
    clear hHeld
    go_wp2_with fail
    go_ret
    exact ⟨⟨-1, by decide, rfl⟩, UB.out⟩
end Num
end Go.Proofs.Ytmiplljcnchjkaa
