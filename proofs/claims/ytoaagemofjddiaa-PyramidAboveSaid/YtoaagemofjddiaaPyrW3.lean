/-
  The walk of package pyramid's halved: the level above one.
-/
import Derived.Test.YtoaagemofjddiaaPyrW2
import Derived.Test.YtoaagemofjddiaaHead
namespace Go.Proofs.Ytoaagemofjddiaa
open Go.RowKit
set_option linter.unusedVariables false
namespace Pyr

/-- a level as three cells -/
def lvc (wd h : Nat) (v : Value) : List Value := [.int .i64 (wd : Int), .int .i64 (h : Int), v]
/-- the level above, on the way -/
structure HS (w : World) (wd h wd' h' n cap lo hi : Nat) (A : Option Addr) (L K : List Ce) (v : Value) (wr : World) : Prop where
  box : Blk wr w.heap.size 96 (lvc wd h (.slice A n cap))
  res : Blk wr (w.heap.size + 1) 96 (lvc 0 0 (.slice Option.none 0 0))
  out : Blk wr (w.heap.size + 1 + 1) 96 (lvc wd' h' v)
  own : wr.ownsRow (w.heap.size + 1 + 1 + 1) 38 3 v K.length (K.flatMap cec)
  rd : RdL wr lo hi A (L.flatMap cec)
  below : Below w.heap.size w wr
section
variable {w wr w' : World} {wd h wd' h' n cap lo hi : Nat} {A : Option Addr} {L K : List Ce} {v : Value}
theorem HS.next (S : HS w wd h wd' h' n cap lo hi A L K v wr) (hb : Below wr.heap.size wr w') : HS w wd h wd' h' n cap lo hi A L K v w' :=
  ⟨S.box.next hb, S.res.next hb, S.out.next hb, own_next S.own hb, S.rd.next hb, bt S.below hb⟩
theorem HS.drew (S : HS w wd h wd' h' n cap lo hi A L K v wr) : HS w wd h wd' h' n cap lo hi A L K v wr.drew := ⟨S.box, S.res, S.out, S.own, S.rd, S.below.drew⟩
theorem HS.s (S : HS w wd h wd' h' n cap lo hi A L K v wr) : HS w wd h wd' h' n cap lo hi A L K v wr ∧ wr.cell? ⟨w.heap.size, 0, Option.none⟩ = some (.int .i64 (wd : Int)) ∧ wr.cell? ⟨w.heap.size, 1, Option.none⟩ = some (.int .i64 (h : Int)) ∧ wr.cell? ⟨w.heap.size, 2, Option.none⟩ = some (.slice A n cap) ∧ wr.cell? ⟨w.heap.size + 1 + 1, 2, Option.none⟩ = some v :=
  ⟨S, S.box.cell 0, S.box.cell 1, S.box.cell 2, S.out.cell 2⟩
/-- what is appended, and stored -/
theorem HS.more (S : HS w wd h wd' h' n cap lo hi A L K v wr) (c : Ce) {v1 : Value} (hg : wr.grownBy w' v.ownBlock) (ho : w'.ownsRow (w.heap.size + 1 + 1 + 1) 38 3 v1 (K.length + 1) (K.flatMap cec ++ cec c)) (hhi : hi ≤ w.heap.size) :
    w'.frozen? ⟨w.heap.size + 1 + 1, 2, Option.none⟩ = false ∧ w'.cell? ⟨w.heap.size + 1 + 1, 2, Option.none⟩ = some v ∧
    HS w wd h wd' h' n cap lo hi A L (K ++ [c]) v1 (w'.setCell ⟨w.heap.size + 1 + 1, 2, Option.none⟩ v1) := by
  have hv := own_ge S.own
  have hv1 := own_ge ho
  have n1 : ∀ k, k < w.heap.size + 1 + 1 + 1 → some k ≠ v.ownBlock := fun k hk e => by have := hv k e.symm; omega
  have o1 := S.out.grown hg (n1 _ (by omega))
  have b1 := S.below.grown hg S.below.size (fun k hk => by have := hv k hk; omega)
  refine ⟨o1.free 2, o1.cell 2, (S.box.grown hg (n1 _ (by omega))).far (p := ⟨w.heap.size + 1 + 1, 2, Option.none⟩) (by show w.heap.size ≠ w.heap.size + 1 + 1; omega) _,
    (S.res.grown hg (n1 _ (by omega))).far (p := ⟨w.heap.size + 1 + 1, 2, Option.none⟩) (by show w.heap.size + 1 ≠ w.heap.size + 1 + 1; omega) _, o1.put 2 v1, ?_,
    (S.rd.grown hg (fun g hg' => .inr (by have := hv g hg'; omega))).far (p := ⟨w.heap.size + 1 + 1, 2, Option.none⟩) (.inr (by show hi ≤ w.heap.size + 1 + 1; omega)) _, b1.setCell (by simp; omega) _⟩
  rw [List.length_append, List.length_singleton, List.flatMap_append]
  have := ho.kept (only_set (w := w') (g := w.heap.size + 1 + 1) (only_refl _ _) 2 v1) (.inr (fun e => by have := hv1 _ e; omega))
  simpa [List.flatMap] using this
end
theorem _root_.Go.Proofs.Ytoaagemofjddiaa.Pyr.HS.cells {w wr : World} {wd h wd' h' n cap lo hi : Nat} {A : Option Addr} {L K : List Ce} {v : Value} (S : HS w wd h wd' h' n cap lo hi A L K v wr) : wr.cell? ⟨w.heap.size, 0, Option.none⟩ = some (.int .i64 (wd : Int)) ∧ wr.cell? ⟨w.heap.size, 1, Option.none⟩ = some (.int .i64 (h : Int)) ∧ wr.cell? ⟨w.heap.size, 2, Option.none⟩ = some (.slice A n cap) ∧ wr.cell? ⟨w.heap.size + 1 + 1, 2, Option.none⟩ = some v :=
  ⟨S.box.cell 0, S.box.cell 1, S.box.cell 2, S.out.cell 2⟩
theorem HS.after {w wr w' : World} {wd h wd' h' n cap lo hi : Nat} {A : Option Addr} {L K : List Ce} {v : Value} (S : HS w wd h wd' h' n cap lo hi A L K v wr) (hg : wr.grownBy w' v.ownBlock) : w'.cell? ⟨w.heap.size, 0, Option.none⟩ = some (.int .i64 (wd : Int)) ∧ w'.cell? ⟨w.heap.size, 1, Option.none⟩ = some (.int .i64 (h : Int)) ∧ w'.cell? ⟨w.heap.size, 2, Option.none⟩ = some (.slice A n cap) ∧ w'.cell? ⟨w.heap.size + 1 + 1, 2, Option.none⟩ = some v := by
  have hv := own_ge S.own
  have n1 : ∀ k, k < w.heap.size + 1 + 1 + 1 → some k ≠ v.ownBlock := fun k hk e => by have := hv k e.symm; omega
  have o1 := S.out.grown hg (n1 _ (by omega))
  have o2 := S.box.grown hg (n1 _ (by omega))
  exact ⟨o2.cell 0, o2.cell 1, o2.cell 2, o1.cell 2⟩
theorem atL_n {wd h : Nat} {L : List Ce} {b : Nat} (hc : ∀ c ∈ L, c.n ≤ b) (x y : Nat) : (atL wd h L x y).n ≤ b := by
  unfold atL
  split
  · rw [List.getD_eq_getElem?_getD]
    cases hh : L[y * wd + x]? with
    | none => exact Nat.zero_le _
    | some c => exact hc c (List.mem_of_getElem? hh)
  · exact Nat.zero_le _
def GotLv (w : World) (wd h : Nat) (K : List Ce) (e : Ending) (w' : World) : Prop :=
  ∃ v, e = .returned (.agg #[.int .i64 (wd : Int), .int .i64 (h : Int), v]) ∧ w'.ownsRow w.heap.size 38 3 v K.length (K.flatMap cec) ∧ Below w.heap.size w w'
theorem halved_len (wd h : Nat) (L : List Ce) : (halved wd h L).length = ((wd + 1) / 2) * ((h + 1) / 2) := by simp [halved]
theorem halved_at {wd h x y : Nat} (L : List Ce) (hx : x < (wd + 1) / 2) (hy : y < (h + 1) / 2) : (halved wd h L).take (y * ((wd + 1) / 2) + x + 1) = (halved wd h L).take (y * ((wd + 1) / 2) + x) ++ [joins (four wd h L x y)] := by
  have hlt := row_lt hx hy
  obtain ⟨e1, e2⟩ := row_sq (y := y) hx
  rw [List.take_add_one]
  congr 1
  unfold halved
  rw [List.getElem?_map, List.getElem?_range hlt]
  simp [e1, e2]
set_option maxRecDepth 100000 in
set_option maxHeartbeats 2000000 in
theorem halved_any (wd h : Nat) (A : Option Addr) (L : List Ce) (n cap lo hi : Nat) (w : World) (hrd : RdL w lo hi A (L.flatMap cec)) (hl : L.length = n) (hn : n = wd * h) (hcap : n ≤ cap) (hw : wd ≤ 300) (hh : h ≤ 300) (hc : ∀ c ∈ L, c.n ≤ 1000000000) (hhi : hi ≤ w.heap.size) :
    Calls Try.prog 42 #[.agg #[.int .i64 (wd : Int), .int .i64 (h : Int), .slice A n cap]] w (GotLv w ((wd + 1) / 2) ((h + 1) / 2) (halved wd h L)) := by
  obtain ⟨i0, hi0, hz0, hz1, hz2⟩ := info_parts infoCell
  have Hl := Lib.hid hl
  have Hn := Lib.hid hn
  have Hc := Lib.hid hc
  obtain ⟨wd', hwd'⟩ : ∃ q, q = (wd + 1) / 2 := ⟨_, rfl⟩
  obtain ⟨h', hh'⟩ : ∃ q, q = (h + 1) / 2 := ⟨_, rfl⟩
  have a1 : ((wd : Int) + 1) / 2 = (wd' : Int) := by omega
  have a2 : ((h : Int) + 1) / 2 = (h' : Int) := by omega
  have b1 : (wd : Int) ≤ 300 := by omega
  have b2 : (h : Int) ≤ 300 := by omega
  have c1 : (wd' : Int) ≤ 300 := by omega
  have c2 : (h' : Int) ≤ 300 := by omega
  have HS0 : Hid (HS w wd h wd' h' n cap lo hi A L ((halved wd h L).take 0) (.slice Option.none 0 0) (((w.alloc (.cells #[.int .i64 (wd : Int), .int .i64 (h : Int), .slice A n cap] 96)).alloc (.cells #[.int .i64 0, .int .i64 0, .slice Option.none 0 0] 96)).alloc (.cells #[.int .i64 (wd' : Int), .int .i64 (h' : Int), .slice Option.none 0 0] 96))) := Lib.hid (by
    have k0 := ((Blk.mk w 96 (lvc wd h (.slice A n cap))).alloc (.cells (lvc 0 0 (.slice Option.none 0 0)).toArray 96)).alloc (.cells (lvc wd' h' (.slice Option.none 0 0)).toArray 96)
    have k1 := (Blk.mk (w.alloc (.cells (lvc wd h (.slice A n cap)).toArray 96)) 96 (lvc 0 0 (.slice Option.none 0 0))).alloc (.cells (lvc wd' h' (.slice Option.none 0 0)).toArray 96)
    have k2 := Blk.mk ((w.alloc (.cells (lvc wd h (.slice A n cap)).toArray 96)).alloc (.cells (lvc 0 0 (.slice Option.none 0 0)).toArray 96)) 96 (lvc wd' h' (.slice Option.none 0 0))
    rw [show (w.alloc (.cells (lvc wd h (.slice A n cap)).toArray 96)).heap.size = w.heap.size + 1 by simp] at k1
    rw [show ((w.alloc (.cells (lvc wd h (.slice A n cap)).toArray 96)).alloc (.cells (lvc 0 0 (.slice Option.none 0 0)).toArray 96)).heap.size = w.heap.size + 1 + 1 by simp] at k2
    exact ⟨k0, k1, k2, World.ownsRow_nil _ _ _ _, ((hrd.alloc _).alloc _).alloc _, bt (bt (bl _ _) (bl _ _)) (bl _ _)⟩)
  clear hrd hl hn hc
  have hwd2 : (wd + 1) / 2 = wd' := hwd'.symm
  have hh2 : (h + 1) / 2 = h' := hh'.symm
  rw [hwd2, hh2]
  have HW := Lib.hid hwd2
  have HH := Lib.hid hh2
  clear hwd' hh' hwd2 hh2
  go_enter Try.func42, Try.ntmps42
  go_wp2
  clear a1 a2
  go_loopw [17] (fun i wr => ∃ (y : Nat) (v : Value) (K : List Ce), y ≤ h' ∧ i = .int .i64 (y : Int) ∧ K = (halved wd h L).take (y * wd') ∧ HS w wd h wd' h' n cap lo hi A L K v wr) (fun i _ => h' - (intOf i).toNat)
  case atStart => exact ⟨0, _, _, Nat.zero_le _, rfl, by rw [Nat.zero_mul], HS0.out⟩
  case round =>
    clear HS0
    obtain ⟨y, v, K, hy, rfl, hK, S⟩ := hrel
    obtain ⟨Av, cv, rfl, _, _, _, _⟩ := own_rd S.own
    have HS1 := Lib.hid S
    have HK1 := Lib.hid hK
    have e0 : wr.cell? ⟨w.heap.size + 1 + 1, 0, Option.none⟩ = some (.int .i64 (wd' : Int)) := S.out.cell 0
    have e1 : wr.cell? ⟨w.heap.size + 1 + 1, 1, Option.none⟩ = some (.int .i64 (h' : Int)) := S.out.cell 1
    have e2 : wr.cell? ⟨w.heap.size + 1 + 1, 2, Option.none⟩ = some (.slice Av K.length cv) := S.out.cell 2
    clear S hK
    by_cases hlt : y < h'
    · have hI : (y : Int) < (h' : Int) := by omega
      go_wp2
      go_loopw [22] (fun i wr => ∃ (x : Nat) (v : Value) (K : List Ce), x ≤ wd' ∧ i = .int .i64 (x : Int) ∧ K = (halved wd h L).take (y * wd' + x) ∧ HS w wd h wd' h' n cap lo hi A L K v wr) (fun i _ => wd' - (intOf i).toNat)
      case atStart => exact ⟨0, _, _, Nat.zero_le _, rfl, HK1.out, HS1.out⟩
      case round =>
        clear HS1 e0 e1 e2 HK1
        obtain ⟨x, v, K2, hx, rfl, hK2, S⟩ := hrel
        obtain ⟨Aw, cw, rfl, _, _, _, _⟩ := own_rd S.own
        have HK2 := Lib.hid hK2
        clear hK2
        by_cases hxt : x < wd'
        · have hJ : (x : Int) < (wd' : Int) := by omega
          have hat := halved_at L (wd := wd) (h := h) (x := x) (y := y) (by rw [HW.out]; exact hxt) (by rw [HH.out]; exact hlt)
          rw [HW.out] at hat
          have HAt := Lib.hid hat
          have hKl : K2.length ≤ 90000 := by
            rw [HK2.out, List.length_take, halved_len, HW.out, HH.out]
            have : wd' * h' ≤ 300 * 300 := Nat.mul_le_mul (by omega) (by omega)
            omega
          have z1 := fun W (R : RdL W lo hi A (L.flatMap cec)) => at_any wd h (2 * x) (2 * y) A L n cap lo hi W R Hl.out Hn.out hcap (by omega) (by omega)
          have z2 := fun W (R : RdL W lo hi A (L.flatMap cec)) => at_any wd h (2 * x + 1) (2 * y) A L n cap lo hi W R Hl.out Hn.out hcap (by omega) (by omega)
          have z3 := fun W (R : RdL W lo hi A (L.flatMap cec)) => at_any wd h (2 * x) (2 * y + 1) A L n cap lo hi W R Hl.out Hn.out hcap (by omega) (by omega)
          have z4 := fun W (R : RdL W lo hi A (L.flatMap cec)) => at_any wd h (2 * x + 1) (2 * y + 1) A L n cap lo hi W R Hl.out Hn.out hcap (by omega) (by omega)
          have n1 := atL_n (wd := wd) (h := h) Hc.out (2 * x) (2 * y)
          have n2 := atL_n (wd := wd) (h := h) Hc.out (2 * x + 1) (2 * y)
          have n3 := atL_n (wd := wd) (h := h) Hc.out (2 * x) (2 * y + 1)
          have n4 := atL_n (wd := wd) (h := h) Hc.out (2 * x + 1) (2 * y + 1)
          have hf : four wd h L x y = [atL wd h L (2 * x) (2 * y), atL wd h L (2 * x + 1) (2 * y), atL wd h L (2 * x) (2 * y + 1), atL wd h L (2 * x + 1) (2 * y + 1)] := rfl
          generalize atL wd h L (2 * x) (2 * y) = d1 at *
          generalize atL wd h L (2 * x + 1) (2 * y) = d2 at *
          generalize atL wd h L (2 * x) (2 * y + 1) = d3 at *
          generalize atL wd h L (2 * x + 1) (2 * y + 1) = d4 at *
          have hj := fun W : World => join_any (some ⟨W.heap.size, 0, Option.none⟩) [d1, d2, d3, d4] 4 4 W.heap.size (W.heap.size + 1) (W.alloc (.cells ([d1, d2, d3, d4].flatMap cec).toArray 38)) (new_rd W 38 ([d1, d2, d3, d4].flatMap cec)) rfl (Nat.le_refl _) (by decide) (fun c hc => by
            simp only [List.mem_cons, List.not_mem_nil, or_false] at hc
            rcases hc with rfl | rfl | rfl | rfl <;> assumption)
          rw [show joins [d1, d2, d3, d4] = joins (four wd h L x y) by rw [hf]] at hj
          generalize joins (four wd h L x y) = d at *
          clear hf n1 n2 n3 n4 hat
          simp only [List.flatMap_cons, List.flatMap_nil, List.append_nil, cec, cev, List.cons_append, List.nil_append, Int.natCast_mul, Int.natCast_add, Int.natCast_one, Int.cast_ofNat_Int] at z1 z2 z3 z4 hj
          have y1 : IntKind.i64.wrap (2 * (x : Int)) = 2 * (x : Int) := IntWalk.i64_in _ (by omega)
          have y2 : IntKind.i64.wrap (2 * (x : Int) + 1) = 2 * (x : Int) + 1 := IntWalk.i64_in _ (by omega)
          have y3 : IntKind.i64.wrap (2 * (y : Int)) = 2 * (y : Int) := IntWalk.i64_in _ (by omega)
          have y4 : IntKind.i64.wrap (2 * (y : Int) + 1) = 2 * (y : Int) + 1 := IntWalk.i64_in _ (by omega)
          have S0 := S.drew
          clear S
          go_wp2
          refine wp_region_any (by kernel_rfl) ?_
          change wpAny _ _ _ _ _ _ _ wr.drew
          generalize wr.drew = wd0 at *
          refine wpAny_split 35 (L := #[false, false, false, false, false, false, false, false, false, false, false, false, false, false, false, false, false, false, false, false, false, false, false, false, false, false, false, false, false, false, false, false, false, false, false]) (f := 35) (S := fun w' => w'.cell? ⟨w.heap.size, 0, Option.none⟩ = some (.int .i64 (wd : Int)) ∧ w'.cell? ⟨w.heap.size, 1, Option.none⟩ = some (.int .i64 (h : Int)) ∧ w'.cell? ⟨w.heap.size, 2, Option.none⟩ = some (.slice A n cap) ∧ w'.cell? ⟨w.heap.size + 1 + 1, 2, Option.none⟩ = some (.slice Aw K2.length cw)) (by kernel_rfl) S0.cells (fun hHeld => ?_)
          simp only [List.take_succ_cons, List.take_zero, List.drop_succ_cons, List.drop_zero]
          refine wpAnyH_take (i := 0) (oi := ⟨some 25, _, _, _, _, _⟩) (v := ?_) rfl (by kernel_rfl) (by kernel_rfl) (by kernel_rfl) (fun _ _ _ h => h) (Or.inl ⟨by rfl, ?_⟩) (by assumption) ?_
          rotate_left
          · (intro w hSw; (try dsimp only at hSw); go_simp; try (with_reducible rfl))
          try simp only [Act.put, List.setIfInBounds_toArray, List.set_cons_zero, List.set_cons_succ]
          refine wpAnyH_take (i := 1) (oi := ⟨some 26, _, _, _, _, _⟩) (v := ?_) rfl (by kernel_rfl) (by kernel_rfl) (by kernel_rfl) (fun _ _ _ h => h) (Or.inl ⟨by rfl, ?_⟩) (by assumption) ?_
          rotate_left
          · (intro w hSw; (try dsimp only at hSw); go_simp; try (with_reducible rfl))
          try simp only [Act.put, List.setIfInBounds_toArray, List.set_cons_zero, List.set_cons_succ]
          refine wpAnyH_take (i := 2) (oi := ⟨some 27, _, _, _, _, _⟩) (v := ?_) rfl (by kernel_rfl) (by kernel_rfl) (by kernel_rfl) (fun _ _ _ h => h) (Or.inl ⟨by rfl, ?_⟩) (by assumption) ?_
          rotate_left
          · (intro w hSw; (try dsimp only at hSw); go_simp; try (with_reducible rfl))
          try simp only [Act.put, List.setIfInBounds_toArray, List.set_cons_zero, List.set_cons_succ]
          refine wpAnyH_take (i := 3) (oi := ⟨some 28, _, _, _, _, _⟩) (v := ?_) rfl (by kernel_rfl) (by kernel_rfl) (by kernel_rfl) (fun _ _ _ h => h) (Or.inl ⟨by rfl, ?_⟩) (by assumption) ?_
          rotate_left
          · (intro w hSw; (try dsimp only at hSw); go_simp; try (with_reducible rfl))
          try simp only [Act.put, List.setIfInBounds_toArray, List.set_cons_zero, List.set_cons_succ]
          refine wpAnyH_take (i := 4) (oi := ⟨some 29, _, _, _, _, _⟩) (v := ?_) rfl (by kernel_rfl) (by kernel_rfl) (by kernel_rfl) (fun _ _ _ h => h) (Or.inl ⟨by rfl, ?_⟩) (by assumption) ?_
          rotate_left
          · (intro w hSw; (try dsimp only at hSw); go_simp; try (with_reducible rfl))
          try simp only [Act.put, List.setIfInBounds_toArray, List.set_cons_zero, List.set_cons_succ]
          refine wpAnyH_take (i := 5) (oi := ⟨some 30, _, _, _, _, _⟩) (v := ?_) rfl (by kernel_rfl) (by kernel_rfl) (by kernel_rfl) (fun _ _ _ h => h) (Or.inl ⟨by rfl, ?_⟩) (by assumption) ?_
          rotate_left
          · (intro w hSw; (try dsimp only at hSw); go_simp; try (with_reducible rfl))
          try simp only [Act.put, List.setIfInBounds_toArray, List.set_cons_zero, List.set_cons_succ]
          refine wpAnyH_take (i := 6) (oi := ⟨some 31, _, _, _, _, _⟩) (v := ?_) rfl (by kernel_rfl) (by kernel_rfl) (by kernel_rfl) (fun _ _ _ h => h) (Or.inl ⟨by rfl, ?_⟩) (by assumption) ?_
          rotate_left
          · (intro w hSw; (try dsimp only at hSw); go_simp; try (with_reducible rfl))
          try simp only [Act.put, List.setIfInBounds_toArray, List.set_cons_zero, List.set_cons_succ]
          refine wpAnyH_take (i := 8) (oi := ⟨some 33, _, _, _, _, _⟩) (v := ?_) rfl (by kernel_rfl) (by kernel_rfl) (by kernel_rfl) (fun _ _ _ h => h) (Or.inl ⟨by rfl, ?_⟩) (by assumption) ?_
          rotate_left
          · (intro w hSw; (try dsimp only at hSw); go_simp; try (with_reducible rfl))
          try simp only [Act.put, List.setIfInBounds_toArray, List.set_cons_zero, List.set_cons_succ]
          refine wpAnyH_take (i := 9) (oi := ⟨some 34, _, _, _, _, _⟩) (v := ?_) rfl (by kernel_rfl) (by kernel_rfl) (by kernel_rfl) (fun _ _ _ h => h) (Or.inl ⟨by rfl, ?_⟩) (by assumption) ?_
          rotate_left
          · (intro w hSw; (try dsimp only at hSw); go_simp; try (with_reducible rfl))
          try simp only [Act.put, List.setIfInBounds_toArray, List.set_cons_zero, List.set_cons_succ]
          refine wpAnyH_take (i := 10) (oi := ⟨some 35, _, _, _, _, _⟩) (v := ?_) rfl (by kernel_rfl) (by kernel_rfl) (by kernel_rfl) (fun _ _ _ h => h) (Or.inl ⟨by rfl, ?_⟩) (by assumption) ?_
          rotate_left
          · (intro w hSw; (try dsimp only at hSw); go_simp; try (with_reducible rfl))
          try simp only [Act.put, List.setIfInBounds_toArray, List.set_cons_zero, List.set_cons_succ]
          refine wpAnyH_take (i := 11) (oi := ⟨some 36, _, _, _, _, _⟩) (v := ?_) rfl (by kernel_rfl) (by kernel_rfl) (by kernel_rfl) (fun _ _ _ h => h) (Or.inl ⟨by rfl, ?_⟩) (by assumption) ?_
          rotate_left
          · (intro w hSw; (try dsimp only at hSw); go_simp; try (with_reducible rfl))
          try simp only [Act.put, List.setIfInBounds_toArray, List.set_cons_zero, List.set_cons_succ]
          refine wpAnyH_take (i := 12) (oi := ⟨some 37, _, _, _, _, _⟩) (v := ?_) rfl (by kernel_rfl) (by kernel_rfl) (by kernel_rfl) (fun _ _ _ h => h) (Or.inl ⟨by rfl, ?_⟩) (by assumption) ?_
          rotate_left
          · (intro w hSw; (try dsimp only at hSw); go_simp; try (with_reducible rfl))
          try simp only [Act.put, List.setIfInBounds_toArray, List.set_cons_zero, List.set_cons_succ]
          refine wpAnyH_take (i := 13) (oi := ⟨some 38, _, _, _, _, _⟩) (v := ?_) rfl (by kernel_rfl) (by kernel_rfl) (by kernel_rfl) (fun _ _ _ h => h) (Or.inl ⟨by rfl, ?_⟩) (by assumption) ?_
          rotate_left
          · (intro w hSw; (try dsimp only at hSw); go_simp; try (with_reducible rfl))
          try simp only [Act.put, List.setIfInBounds_toArray, List.set_cons_zero, List.set_cons_succ]
          refine wpAnyH_take (i := 15) (oi := ⟨some 40, _, _, _, _, _⟩) (v := ?_) rfl (by kernel_rfl) (by kernel_rfl) (by kernel_rfl) (fun _ _ _ h => h) (Or.inl ⟨by rfl, ?_⟩) (by assumption) ?_
          rotate_left
          · (intro w hSw; (try dsimp only at hSw); go_simp; try (with_reducible rfl))
          try simp only [Act.put, List.setIfInBounds_toArray, List.set_cons_zero, List.set_cons_succ]
          refine wpAnyH_take (i := 16) (oi := ⟨some 41, _, _, _, _, _⟩) (v := ?_) rfl (by kernel_rfl) (by kernel_rfl) (by kernel_rfl) (fun _ _ _ h => h) (Or.inl ⟨by rfl, ?_⟩) (by assumption) ?_
          rotate_left
          · (intro w hSw; (try dsimp only at hSw); go_simp; try (with_reducible rfl))
          try simp only [Act.put, List.setIfInBounds_toArray, List.set_cons_zero, List.set_cons_succ]
          refine wpAnyH_take (i := 17) (oi := ⟨some 42, _, _, _, _, _⟩) (v := ?_) rfl (by kernel_rfl) (by kernel_rfl) (by kernel_rfl) (fun _ _ _ h => h) (Or.inl ⟨by rfl, ?_⟩) (by assumption) ?_
          rotate_left
          · (intro w hSw; (try dsimp only at hSw); go_simp; try (with_reducible rfl))
          try simp only [Act.put, List.setIfInBounds_toArray, List.set_cons_zero, List.set_cons_succ]
          refine wpAnyH_take (i := 18) (oi := ⟨some 43, _, _, _, _, _⟩) (v := ?_) rfl (by kernel_rfl) (by kernel_rfl) (by kernel_rfl) (fun _ _ _ h => h) (Or.inl ⟨by rfl, ?_⟩) (by assumption) ?_
          rotate_left
          · (intro w hSw; (try dsimp only at hSw); go_simp; try (with_reducible rfl))
          try simp only [Act.put, List.setIfInBounds_toArray, List.set_cons_zero, List.set_cons_succ]
          refine wpAnyH_take (i := 19) (oi := ⟨some 44, _, _, _, _, _⟩) (v := ?_) rfl (by kernel_rfl) (by kernel_rfl) (by kernel_rfl) (fun _ _ _ h => h) (Or.inl ⟨by rfl, ?_⟩) (by assumption) ?_
          rotate_left
          · (intro w hSw; (try dsimp only at hSw); go_simp; try (with_reducible rfl))
          try simp only [Act.put, List.setIfInBounds_toArray, List.set_cons_zero, List.set_cons_succ]
          refine wpAnyH_take (i := 20) (oi := ⟨some 45, _, _, _, _, _⟩) (v := ?_) rfl (by kernel_rfl) (by kernel_rfl) (by kernel_rfl) (fun _ _ _ h => h) (Or.inl ⟨by rfl, ?_⟩) (by assumption) ?_
          rotate_left
          · (intro w hSw; (try dsimp only at hSw); go_simp; try (with_reducible rfl))
          try simp only [Act.put, List.setIfInBounds_toArray, List.set_cons_zero, List.set_cons_succ]
          refine wpAnyH_take (i := 22) (oi := ⟨some 47, _, _, _, _, _⟩) (v := ?_) rfl (by kernel_rfl) (by kernel_rfl) (by kernel_rfl) (fun _ _ _ h => h) (Or.inl ⟨by rfl, ?_⟩) (by assumption) ?_
          rotate_left
          · (intro w hSw; (try dsimp only at hSw); go_simp; try (with_reducible rfl))
          try simp only [Act.put, List.setIfInBounds_toArray, List.set_cons_zero, List.set_cons_succ]
          refine wpAnyH_take (i := 23) (oi := ⟨some 48, _, _, _, _, _⟩) (v := ?_) rfl (by kernel_rfl) (by kernel_rfl) (by kernel_rfl) (fun _ _ _ h => h) (Or.inl ⟨by rfl, ?_⟩) (by assumption) ?_
          rotate_left
          · (intro w hSw; (try dsimp only at hSw); go_simp; try (with_reducible rfl))
          try simp only [Act.put, List.setIfInBounds_toArray, List.set_cons_zero, List.set_cons_succ]
          refine wpAnyH_take (i := 24) (oi := ⟨some 49, _, _, _, _, _⟩) (v := ?_) rfl (by kernel_rfl) (by kernel_rfl) (by kernel_rfl) (fun _ _ _ h => h) (Or.inl ⟨by rfl, ?_⟩) (by assumption) ?_
          rotate_left
          · (intro w hSw; (try dsimp only at hSw); go_simp; try (with_reducible rfl))
          try simp only [Act.put, List.setIfInBounds_toArray, List.set_cons_zero, List.set_cons_succ]
          refine wpAnyH_take (i := 25) (oi := ⟨some 50, _, _, _, _, _⟩) (v := ?_) rfl (by kernel_rfl) (by kernel_rfl) (by kernel_rfl) (fun _ _ _ h => h) (Or.inl ⟨by rfl, ?_⟩) (by assumption) ?_
          rotate_left
          · (intro w hSw; (try dsimp only at hSw); go_simp; try (with_reducible rfl))
          try simp only [Act.put, List.setIfInBounds_toArray, List.set_cons_zero, List.set_cons_succ]
          refine wpAnyH_take (i := 26) (oi := ⟨some 51, _, _, _, _, _⟩) (v := ?_) rfl (by kernel_rfl) (by kernel_rfl) (by kernel_rfl) (fun _ _ _ h => h) (Or.inl ⟨by rfl, ?_⟩) (by assumption) ?_
          rotate_left
          · (intro w hSw; (try dsimp only at hSw); go_simp; try (with_reducible rfl))
          try simp only [Act.put, List.setIfInBounds_toArray, List.set_cons_zero, List.set_cons_succ]
          refine wpAnyH_take (i := 27) (oi := ⟨some 52, _, _, _, _, _⟩) (v := ?_) rfl (by kernel_rfl) (by kernel_rfl) (by kernel_rfl) (fun _ _ _ h => h) (Or.inl ⟨by rfl, ?_⟩) (by assumption) ?_
          rotate_left
          · (intro w hSw; (try dsimp only at hSw); go_simp; try (with_reducible rfl))
          try simp only [Act.put, List.setIfInBounds_toArray, List.set_cons_zero, List.set_cons_succ]
          refine wpAnyH_take (i := 28) (oi := ⟨some 53, _, _, _, _, _⟩) (v := ?_) rfl (by kernel_rfl) (by kernel_rfl) (by kernel_rfl) (fun _ _ _ h => h) (Or.inl ⟨by rfl, ?_⟩) (by assumption) ?_
          rotate_left
          · (intro w hSw; (try dsimp only at hSw); go_simp; try (with_reducible rfl))
          try simp only [Act.put, List.setIfInBounds_toArray, List.set_cons_zero, List.set_cons_succ]
          refine wpAnyH_ready (rs := [7]) (by kernel_rfl) (by simp) ?_
          refine AllReadyH.cons (o := ⟨some 32, _, _, _, _, _⟩) rfl (fun K hK => ?_) AllReadyH.nil
          go_simp
          go_at_call 43
          refine (z1 _ S0.rd).mono ?_
          rintro e w1 ⟨rfl, hb⟩
          have hs1 := HS.next S0 hb
          clear hb S0
          go_wp2_with fail
          refine hK.out _ _ (hs1.cells) (fun hHeld => ?_)
          clear hK K
          try simp only [Act.put, List.setIfInBounds_toArray, List.set_cons_zero, List.set_cons_succ]
          refine wpAnyH_ready (rs := [14]) (by kernel_rfl) (by simp) ?_
          refine AllReadyH.cons (o := ⟨some 39, _, _, _, _, _⟩) rfl (fun K hK => ?_) AllReadyH.nil
          go_simp
          go_at_call 43
          refine (z2 _ hs1.rd).mono ?_
          rintro e w2 ⟨rfl, hb⟩
          have hs2 := HS.next hs1 hb
          clear hb hs1
          go_wp2_with fail
          refine hK.out _ _ (hs2.cells) (fun hHeld => ?_)
          clear hK K
          try simp only [Act.put, List.setIfInBounds_toArray, List.set_cons_zero, List.set_cons_succ]
          refine wpAnyH_ready (rs := [21]) (by kernel_rfl) (by simp) ?_
          refine AllReadyH.cons (o := ⟨some 46, _, _, _, _, _⟩) rfl (fun K hK => ?_) AllReadyH.nil
          go_simp
          go_at_call 43
          refine (z3 _ hs2.rd).mono ?_
          rintro e w3 ⟨rfl, hb⟩
          have hs3 := HS.next hs2 hb
          clear hb hs2
          go_wp2_with fail
          refine hK.out _ _ (hs3.cells) (fun hHeld => ?_)
          clear hK K
          try simp only [Act.put, List.setIfInBounds_toArray, List.set_cons_zero, List.set_cons_succ]
          refine wpAnyH_ready (rs := [29]) (by kernel_rfl) (by simp) ?_
          refine AllReadyH.cons (o := ⟨some 54, _, _, _, _, _⟩) rfl (fun K hK => ?_) AllReadyH.nil
          go_simp
          go_at_call 43
          refine (z4 _ hs3.rd).mono ?_
          rintro e w4 ⟨rfl, hb⟩
          have hs4 := HS.next hs3 hb
          clear hb hs3
          go_wp2_with fail
          refine hK.out _ _ (hs4.cells) (fun hHeld => ?_)
          clear hK K
          try simp only [Act.put, List.setIfInBounds_toArray, List.set_cons_zero, List.set_cons_succ]
          refine wpAnyH_ready (rs := [30]) (by kernel_rfl) (by simp) ?_
          refine AllReadyH.cons (o := ⟨some 55, _, _, _, _, _⟩) rfl (fun K hK => ?_) AllReadyH.nil
          go_simp
          refine hK.out _ _ ((HS.next hs4 (bl _ _)).cells) (fun hHeld => ?_)
          clear hK K
          try simp only [Act.put, List.setIfInBounds_toArray, List.set_cons_zero, List.set_cons_succ]
          refine wpAnyH_ready (rs := [31]) (by kernel_rfl) (by simp) ?_
          refine AllReadyH.cons (o := ⟨some 56, _, _, _, _, _⟩) rfl (fun K hK => ?_) AllReadyH.nil
          go_simp
          go_at_call 26
          refine (hj _).mono ?_
          rintro e w5 ⟨rfl, hb⟩
          have hs5 := HS.next (HS.next hs4 (bl _ _)) hb
          clear hb hs4
          go_wp2_with fail
          refine hK.out _ _ (hs5.cells) (fun hHeld => ?_)
          clear hK K
          try simp only [Act.put, List.setIfInBounds_toArray, List.set_cons_zero, List.set_cons_succ]
          refine wpAnyH_ready (rs := [32]) (by kernel_rfl) (by simp) ?_
          refine AllReadyH.cons (o := ⟨some 57, _, _, _, _, _⟩) rfl (fun K hK => ?_) AllReadyH.nil
          go_simp
          refine hK.out _ _ ((HS.next hs5 (bl _ _)).cells) (fun hHeld => ?_)
          clear hK K
          try simp only [Act.put, List.setIfInBounds_toArray, List.set_cons_zero, List.set_cons_succ]
          refine wpAnyH_ready (rs := [33]) (by kernel_rfl) (by simp) ?_
          refine AllReadyH.cons (o := ⟨some 58, _, _, _, _, _⟩) rfl (fun K hK => ?_) AllReadyH.nil
          refine step_append_lies _ (by rfl) _ _ _ (by rfl) (w.heap.size + 1 + 1 + 1) 38 i0 _ 3 16 (by kernel_rfl) hi0 hz0 hz1 hz2 rfl (by omega) (.slice Aw K2.length cw) K2.length (K2.flatMap cec) (by rfl) (own_next hs5.own (bl _ _)) _ 1 1 (cec d) (by rfl) (by rfl) ((new_rd _ 38 (cec d)).news _ rfl) (by simp [cec, Value.oneCell']) (by omega) (by simp only [maxLen]; omega) (by omega) (by have := hs5.out.lt; simp; omega) _ rfl ?_
          intro gg cc w6 hown hgrow hat hlt'
          have hafter := HS.after (HS.next hs5 (bl _ _)) hgrow
          have hmore := HS.more (HS.next hs5 (bl _ _)) d hgrow hown hhi
          refine hK.out _ _ (hafter) (fun hHeld => ?_)
          clear hK K
          try simp only [Act.put, List.setIfInBounds_toArray, List.set_cons_zero, List.set_cons_succ]
          refine wpAnyH_take (i := 34) (oi := ⟨some 59, _, _, _, _, _⟩) (v := ?_) rfl (by kernel_rfl) (by kernel_rfl) (by kernel_rfl) (fun _ _ _ h => h) (Or.inl ⟨by rfl, ?_⟩) (by assumption) ?_
          rotate_left
          · (intro w hSw; (try dsimp only at hSw); go_simp; try (with_reducible rfl))
          try simp only [Act.put, List.setIfInBounds_toArray, List.set_cons_zero, List.set_cons_succ]
          refine wpAnyH_done (by kernel_rfl) ?_ _
          change wpList _ _ _ _ _ _
          obtain ⟨fz, fc, hfin⟩ := hmore
          have HFin := Lib.hid hfin
          clear hfin hafter hown hgrow hat
          go_wp2
          go_roundw
          case rel => exact ⟨x + 1, _, _, by omega, by go_num, by rw [← Nat.add_assoc, HAt.out, HK2.out], HFin.out⟩
          case measure => simp [intOf]; omega
        · obtain rfl : x = wd' := by omega
          have hJ : ¬ (x : Int) < (x : Int) := by omega
          have HS2 := Lib.hid S
          clear S
          go_wp2
          go_roundw
          case rel => exact ⟨y + 1, _, _, by omega, by go_num, by rw [HK2.out, Nat.add_mul, Nat.one_mul], HS2.out⟩
          case measure => simp [intOf]; omega
    · obtain rfl : y = h' := by omega
      have hI : ¬ (y : Int) < (y : Int) := by omega
      have hfull : (halved wd h L).take (y * wd') = halved wd h L := List.take_of_length_le (by rw [halved_len, HW.out, HH.out, Nat.mul_comm]; exact Nat.le_refl _)
      rw [← HK1.out] at hfull
      have HF := Lib.hid hfull
      have r0 := HS1.out.res.free 0
      have r1 := HS1.out.res.free 1
      have r2 := HS1.out.res.free 2
      have q0 : wr.cell? ⟨w.heap.size + 1, 0, Option.none⟩ = some (.int .i64 0) := HS1.out.res.cell 0
      have q1 : wr.cell? ⟨w.heap.size + 1, 1, Option.none⟩ = some (.int .i64 0) := HS1.out.res.cell 1
      have q2 : wr.cell? ⟨w.heap.size + 1, 2, Option.none⟩ = some (.slice Option.none 0 0) := HS1.out.res.cell 2
      clear hfull
      go_wp2
      have ho := HS1.out.own
      have hv := own_ge ho
      refine bodyPost_ret (v := .agg #[.int .i64 (wd' : Int), .int .i64 (y : Int), .slice Av K.length cv]) (by simp [results, Try.results42, go_sem, q0, q1, q2]) rfl ?_
      unfold GotLv
      rw [← HF.out]
      refine ⟨_, rfl, own_down (base := w.heap.size + 1 + 1 + 1) ?_ (by omega), ((HS1.out.below.setCell (by simp) _).setCell (by simp) _).setCell (by simp) _⟩
      exact ((ho.kept (only_set (g := w.heap.size + 1) (only_refl _ _) 0 _) (.inr (fun e => by have := hv _ e; omega))).kept (only_set (g := w.heap.size + 1) (only_refl _ _) 1 _) (.inr (fun e => by have := hv _ e; omega))).kept (only_set (g := w.heap.size + 1) (only_refl _ _) 2 _) (.inr (fun e => by have := hv _ e; omega))
end Pyr
end Go.Proofs.Ytoaagemofjddiaa
