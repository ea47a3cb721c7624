/- A part of the proof of WholeFaults. -/
import Derived.Test.YtekjehbkmlodmaaGreatZI
import Derived.WalkMore
import Derived.Deep.DeepCutAuto
import Derived.Deep.MidRow
set_option linter.unusedVariables false
set_option linter.unusedSimpArgs false
namespace Go.Proofs.YtekjehbkmlodmaaGreat
section
open Go.RowKit
namespace Cht
open Txt (leVal bv)
open Til (z16 cntT cntT_le minN16 box_any places_any plL_len plL_get tcode tget_any OkN)
def seg (L : List UInt8) (i : Nat) : List UInt8 := (L.drop (from' L i)).take (size' L i)
def tlW (L : List UInt8) (i : Nat) : Nat := minN16 (hW L - 16 * (i % cntT (hW L)))
def tlH (L : List UInt8) (i : Nat) : Nat := minN16 (hH L - 16 * (i / cntT (hW L)))
def tileC (L : List UInt8) (i : Nat) : Int := if sumOk (seg L i) = true then tcode (tlW L i) (tlH L i) ((seg L i).take ((seg L i).length - 4)) else 4
def GotTl (w : World) (L : List UInt8) (i : Nat) (e : Ending) (w' : World) : Prop :=
 (∃ (A : Option Addr) (n cap : Nat) (Z : List Int), e = .returned (.tuple #[.slice A n cap, .int .i64 (tileC L i)]) ∧ Z.length = n ∧ n ≤ cap ∧ OkN (tileC L i) n (tlW L i * tlH L i) ∧ RdL w' w.heap.size w'.heap.size A (Z.map z16)) ∧ Below w.heap.size w w'
structure TX (w : World) (D : List Value) (A A1 A2 : Option Addr) (L : List UInt8) (lo hi lo1 hi1 : Nat) (wr : World) : Prop where
 box : Blk wr w.heap.size 94 D
 keep : Below w.heap.size w wr
 rd : RdL wr lo hi A (L.map bv)
 r1 : RdL wr lo1 hi1 A1 (iv (froms L (cnt L)))
 r2 : RdL wr lo1 hi1 A2 (iv (sizes L (cnt L)))
theorem TX.next {w wr w' : World} {D : List Value} {A A1 A2 : Option Addr} {L : List UInt8} {lo hi lo1 hi1 : Nat} (h : TX w D A A1 A2 L lo hi lo1 hi1 wr) (hb : Below wr.heap.size wr w') : TX w D A A1 A2 L lo hi lo1 hi1 w' :=
 ⟨h.box.next hb, bt h.keep hb, h.rd.next hb, h.r1.next hb, h.r2.next hb⟩
theorem TX.drew {w wr : World} {D : List Value} {A A1 A2 : Option Addr} {L : List UInt8} {lo hi lo1 hi1 : Nat} (h : TX w D A A1 A2 L lo hi lo1 hi1 wr) : TX w D A A1 A2 L lo hi lo1 hi1 wr.drew := h.next (Below.refl _ _).drew
theorem cell_rd {w : World} {lo hi b off : Nat} {l : List Value} (h : RdL w lo hi (some ⟨b, off, none⟩) l) {i : Nat} {u : Value} (hi' : l[i]? = some u) : w.cell? ⟨b, off + i, none⟩ = some u := by
 rcases h with rfl | ⟨b', off', e, _, _, _, hc⟩
 ·simp at hi'
 ·injection e with e
  injection e with e1 e2
  subst e1 e2
  exact hc i u hi'
set_option maxRecDepth 100000 in
set_option maxHeartbeats 4000000 in
theorem tile_any (A A1 A2 : Option Addr) (L : List UInt8) (n cap c1 c2 i lo hi lo1 hi1 N : Nat) (w : World) (h : RdL w lo hi A (L.map bv)) (hn : L.length = n) (hl : n ≤ 100000) (hcap : n ≤ cap) (h18 : 18 ≤ n)
  (h1 : RdL w lo1 hi1 A1 (iv (froms L (cnt L)))) (h2 : RdL w lo1 hi1 A2 (iv (sizes L (cnt L)))) (hNc : cnt L = N) (hi' : i < N) (hend : from' L i + size' L i ≤ n) (hc1 : N ≤ c1) (hc2 : N ≤ c2)
  (hW1 : 2 ≤ hW L) (hW2 : hW L ≤ 256) (hH1 : 2 ≤ hH L) (hH2 : hH L ≤ 256) :
  Calls Tryz.prog 34 #[.slice A n cap, .agg (dirV L (.slice A1 N c1) (.slice A2 N c2)).toArray, .int .i64 (i : Int)] w (GotTl w L i) := by
 have HH : Hid (TX w (dirV L (.slice A1 N c1) (.slice A2 N c2)) A A1 A2 L lo hi lo1 hi1 (w.alloc (.cells (dirV L (.slice A1 N c1) (.slice A2 N c2)).toArray 94))) := Lib.hid ⟨Blk.mk _ _ _, bl _ _, h.alloc _, h1.alloc _, h2.alloc _⟩
 have hN256 : N ≤ 16 * 16 := by rw [← hNc]; exact Nat.mul_le_mul (cntT_le hW2) (cntT_le hH2)
 unfold GotTl
 obtain ⟨tw, htw⟩ : ∃ x, x = tlW L i := ⟨_, rfl⟩
 obtain ⟨th, hth⟩ : ∃ x, x = tlH L i := ⟨_, rfl⟩
 obtain ⟨tc, htc⟩ : ∃ x, x = tileC L i := ⟨_, rfl⟩
 obtain ⟨S, hS⟩ : ∃ x, x = seg L i := ⟨_, rfl⟩
 rw [← htw, ← hth, ← htc]
 unfold tileC at htc
 rw [← htw, ← hth, ← hS] at htc
 have hcw1 : 1 ≤ cntT (hW L) := by unfold cntT; omega
 have kX : i % cntT (hW L) < cntT (hW L) := Nat.mod_lt _ hcw1
 have kY : i / cntT (hW L) < cntT (hH L) := Nat.div_lt_of_lt_mul (by have : cnt L = cntT (hW L) * cntT (hH L) := rfl; omega)
 have hbx := fun w => box_any (hW L) (hH L) _ _ hW2 hH2 kX kY w
 have hpl := fun w => places_any (hW L) (hH L) hW2 hH2 w
 have htw' : minN16 (hW L - 16 * (i % cntT (hW L))) = tw := htw.symm
 have hth' : minN16 (hH L - 16 * (i / cntT (hW L))) = th := hth.symm
 rw [htw', hth'] at hbx
 have hNc' : cntT (hW L) * cntT (hH L) = N := hNc
 rw [hNc'] at hpl
 have aux : ∀ V x, x < cntT V → 1 ≤ minN16 (V - 16 * x) ∧ minN16 (V - 16 * x) ≤ 16 := fun V x hx => by unfold cntT at hx; unfold minN16; omega
 have tw1 := aux _ _ kX
 have th1 := aux _ _ kY
 rw [htw'] at tw1
 rw [hth'] at th1
 clear aux
 obtain ⟨f, hf⟩ : ∃ x, x = from' L i := ⟨_, rfl⟩
 obtain ⟨z, hz⟩ : ∃ x, x = size' L i := ⟨_, rfl⟩
 have hSe : S = (L.drop f).take z := by rw [hS, hf, hz]; rfl
 have hSl : S.length = z := by rw [hSe, List.length_take, List.length_drop, hn]; omega
 have g1 : (iv (froms L (cnt L)))[i]? = some (.int .i64 (f : Int)) := by rw [hNc, hf]; exact iv_get (froms_get hi')
 have g2 : (iv (sizes L (cnt L)))[i]? = some (.int .i64 (z : Int)) := by rw [hNc, hz]; exact iv_get (sizes_get hi')
 rw [← hf, ← hz] at hend
 obtain ⟨b, off, rfl, u1, u2, u3, u4⟩ := h.some (by rw [List.length_map]; omega)
 obtain ⟨b1, o1, rfl, u5, u6, u7, u8⟩ := h1.some (by rw [iv_len, froms_len]; omega)
 obtain ⟨b2, o2, rfl, u9, u10, u11, u12⟩ := h2.some (by rw [iv_len, sizes_len]; omega)
 clear u1 u2 u3 u4 u5 u6 u7 u8 u9 u10 u11 u12
 have HN := Lib.hid hn
 have HSE := Lib.hid hSe
 have HSL := Lib.hid hSl
 have HTC := Lib.hid htc
 have G1 := Lib.hid g1
 have G2 := Lib.hid g2
 unfold dirV at HH ⊢
 generalize hX L = ox at *
 generalize hY L = oy at *
 generalize hC L = C at *
 generalize hW L = W at *
 generalize hH L = H at *
 have hcl := cntT_le hW2
 generalize cntT W = cw at *
 have hpg := Til.plL_get (cw := cw) hi'
 generalize hXX : i % cw = X at *
 generalize hYY : i / cw = Y at *
 have HPG := Lib.hid hpg
 have x0 := HH.out.box.cell 0
 have x1 := HH.out.box.cell 1
 have x6 := HH.out.box.cell 6
 have x7 := HH.out.box.cell 7
 have d0 : decide ((i : Int) < 0) = false := decide_eq_false (by omega)
 have d1 : decide ((i : Int) ≥ (N : Int)) = false := decide_eq_false (by omega)
 have d2 : decide ((N : Int) ≤ (i : Int)) = false := decide_eq_false (by omega)
 have d3 : decide (N ≤ i) = false := decide_eq_false (by omega)
 have hltI : (i : Int) < (N : Int) := by omega
 have h0i : (0 : Int) ≤ (i : Int) := by omega
 have i18 : (i : Int) ≤ 100000 := by omega
 clear h h1 h2 hS htc hf hz hSe hSl g1 g2 hpg hNc hNc' htw hth htw' hth' kX kY hn
 go_enter Tryz.func34, Tryz.ntmps34
 go_upto_region 3 with fail
 go_cut [10, 11] (fun s10 s11 wx => s10 = .int .i64 (tw : Int) ∧ s11 = .int .i64 (th : Int) ∧ TX w [.int .i64 (W : Int), .int .i64 (H : Int), .slice none 0 0, .int .i64 (C : Int), .int .i32 ox, .int .i32 oy, .slice (some ⟨b1, o1, none⟩) N c1, .slice (some ⟨b2, o2, none⟩) N c2] (some ⟨b, off, none⟩) (some ⟨b1, o1, none⟩) (some ⟨b2, o2, none⟩) L lo hi lo1 hi1 wx)
 case first =>
  have hpl' := hpl (w.alloc (.cells #[.int .i64 (W : Int), .int .i64 (H : Int), .slice none 0 0, .int .i64 (C : Int), .int .i32 ox, .int .i32 oy, .slice (some ⟨b1, o1, none⟩) N c1, .slice (some ⟨b2, o2, none⟩) N c2] 94)).drew
  have HD := Lib.hid HH.out.drew
  clear hpl'
  go_wp2_with fail
  refine wp_region_held_drew (S := fun w' => w'.cell? ⟨w.heap.size, 0, none⟩ = some (.int .i64 (W : Int)) ∧ w'.cell? ⟨w.heap.size, 1, none⟩ = some (.int .i64 (H : Int))) (by kernel_rfl) ⟨HD.out.box.cell 0, HD.out.box.cell 1⟩ (fun hHeld => ?_)
  refine wpAnyH_take (i := 0) (oi := ⟨some 24, _, _, _, _, _⟩) (v := ?_) rfl (by kernel_rfl) (by kernel_rfl) (by kernel_rfl) (fun _ _ _ h => h) (Or.inl ⟨by rfl, ?_⟩) (by assumption) ?_
  rotate_left
  ·(intro w hSw; (try dsimp only at hSw); go_simp; try (with_reducible rfl))
  try simp only [Act.put, List.setIfInBounds_toArray, List.set_cons_zero, List.set_cons_succ]
  refine wpAnyH_take (i := 1) (oi := ⟨some 25, _, _, _, _, _⟩) (v := ?_) rfl (by kernel_rfl) (by kernel_rfl) (by kernel_rfl) (fun _ _ _ h => h) (Or.inl ⟨by rfl, ?_⟩) (by assumption) ?_
  rotate_left
  ·(intro w hSw; (try dsimp only at hSw); go_simp; try (with_reducible rfl))
  try simp only [Act.put, List.setIfInBounds_toArray, List.set_cons_zero, List.set_cons_succ]
  refine wpAnyH_take (i := 2) (oi := ⟨some 26, _, _, _, _, _⟩) (v := ?_) rfl (by kernel_rfl) (by kernel_rfl) (by kernel_rfl) (fun _ _ _ h => h) (Or.inl ⟨by rfl, ?_⟩) (by assumption) ?_
  rotate_left
  ·(intro w hSw; (try dsimp only at hSw); go_simp; try (with_reducible rfl))
  try simp only [Act.put, List.setIfInBounds_toArray, List.set_cons_zero, List.set_cons_succ]
  refine wpAnyH_take (i := 3) (oi := ⟨some 27, _, _, _, _, _⟩) (v := ?_) rfl (by kernel_rfl) (by kernel_rfl) (by kernel_rfl) (fun _ _ _ h => h) (Or.inl ⟨by rfl, ?_⟩) (by assumption) ?_
  rotate_left
  ·(intro w hSw; (try dsimp only at hSw); go_simp; try (with_reducible rfl))
  try simp only [Act.put, List.setIfInBounds_toArray, List.set_cons_zero, List.set_cons_succ]
  refine wpAnyH_take (i := 4) (oi := ⟨some 28, _, _, _, _, _⟩) (v := ?_) rfl (by kernel_rfl) (by kernel_rfl) (by kernel_rfl) (fun _ _ _ h => h) (Or.inl ⟨by rfl, ?_⟩) (by assumption) ?_
  rotate_left
  ·(intro w hSw; (try dsimp only at hSw); go_simp; try (with_reducible rfl))
  try simp only [Act.put, List.setIfInBounds_toArray, List.set_cons_zero, List.set_cons_succ]
  refine wpAnyH_take (i := 5) (oi := ⟨some 29, _, _, _, _, _⟩) (v := ?_) rfl (by kernel_rfl) (by kernel_rfl) (by kernel_rfl) (fun _ _ _ h => h) (Or.inl ⟨by rfl, ?_⟩) (by assumption) ?_
  rotate_left
  ·(intro w hSw; (try dsimp only at hSw); go_simp; try (with_reducible rfl))
  try simp only [Act.put, List.setIfInBounds_toArray, List.set_cons_zero, List.set_cons_succ]
  refine wpAnyH_take (i := 6) (oi := ⟨some 30, _, _, _, _, _⟩) (v := ?_) rfl (by kernel_rfl) (by kernel_rfl) (by kernel_rfl) (fun _ _ _ h => h) (Or.inl ⟨by rfl, ?_⟩) (by assumption) ?_
  rotate_left
  ·(intro w hSw; (try dsimp only at hSw); go_simp; try (with_reducible rfl))
  try simp only [Act.put, List.setIfInBounds_toArray, List.set_cons_zero, List.set_cons_succ]
  refine wpAnyH_take (i := 7) (oi := ⟨some 31, _, _, _, _, _⟩) (v := ?_) rfl (by kernel_rfl) (by kernel_rfl) (by kernel_rfl) (fun _ _ _ h => h) (Or.inl ⟨by rfl, ?_⟩) (by assumption) ?_
  rotate_left
  ·(intro w hSw; (try dsimp only at hSw); go_simp; try (with_reducible rfl))
  try simp only [Act.put, List.setIfInBounds_toArray, List.set_cons_zero, List.set_cons_succ]
  refine wpAnyH_take (i := 8) (oi := ⟨some 32, _, _, _, _, _⟩) (v := ?_) rfl (by kernel_rfl) (by kernel_rfl) (by kernel_rfl) (fun _ _ _ h => h) (Or.inl ⟨by rfl, ?_⟩) (by assumption) ?_
  rotate_left
  ·(intro w hSw; (try dsimp only at hSw); go_simp; try (with_reducible rfl))
  try simp only [Act.put, List.setIfInBounds_toArray, List.set_cons_zero, List.set_cons_succ]
  refine wpAnyH_take (i := 9) (oi := ⟨some 33, _, _, _, _, _⟩) (v := ?_) rfl (by kernel_rfl) (by kernel_rfl) (by kernel_rfl) (fun _ _ _ h => h) (Or.inl ⟨by rfl, ?_⟩) (by assumption) ?_
  rotate_left
  ·(intro w hSw; (try dsimp only at hSw); go_simp; try (with_reducible rfl))
  try simp only [Act.put, List.setIfInBounds_toArray, List.set_cons_zero, List.set_cons_succ]
  refine wpAnyH_take (i := 10) (oi := ⟨some 34, _, _, _, _, _⟩) (v := ?_) rfl (by kernel_rfl) (by kernel_rfl) (by kernel_rfl) (fun _ _ _ h => h) (Or.inl ⟨by rfl, ?_⟩) (by assumption) ?_
  rotate_left
  ·(intro w hSw; (try dsimp only at hSw); go_simp; try (with_reducible rfl))
  try simp only [Act.put, List.setIfInBounds_toArray, List.set_cons_zero, List.set_cons_succ]
  refine wpAnyH_take (i := 11) (oi := ⟨some 35, _, _, _, _, _⟩) (v := ?_) rfl (by kernel_rfl) (by kernel_rfl) (by kernel_rfl) (fun _ _ _ h => h) (Or.inl ⟨by rfl, ?_⟩) (by assumption) ?_
  rotate_left
  ·(intro w hSw; (try dsimp only at hSw); go_simp; try (with_reducible rfl))
  try simp only [Act.put, List.setIfInBounds_toArray, List.set_cons_zero, List.set_cons_succ]
  refine wpAnyH_take (i := 12) (oi := ⟨some 36, _, _, _, _, _⟩) (v := ?_) rfl (by kernel_rfl) (by kernel_rfl) (by kernel_rfl) (fun _ _ _ h => h) (Or.inl ⟨by rfl, ?_⟩) (by assumption) ?_
  rotate_left
  ·(intro w hSw; (try dsimp only at hSw); go_simp; try (with_reducible rfl))
  try simp only [Act.put, List.setIfInBounds_toArray, List.set_cons_zero, List.set_cons_succ]
  refine wpAnyH_take (i := 13) (oi := ⟨some 37, _, _, _, _, _⟩) (v := ?_) rfl (by kernel_rfl) (by kernel_rfl) (by kernel_rfl) (fun _ _ _ h => h) (Or.inl ⟨by rfl, ?_⟩) (by assumption) ?_
  rotate_left
  ·(intro w hSw; (try dsimp only at hSw); go_simp; try (with_reducible rfl))
  try simp only [Act.put, List.setIfInBounds_toArray, List.set_cons_zero, List.set_cons_succ]
  refine wpAnyH_take (i := 14) (oi := ⟨some 38, _, _, _, _, _⟩) (v := ?_) rfl (by kernel_rfl) (by kernel_rfl) (by kernel_rfl) (fun _ _ _ h => h) (Or.inl ⟨by rfl, ?_⟩) (by assumption) ?_
  rotate_left
  ·(intro w hSw; (try dsimp only at hSw); go_simp; try (with_reducible rfl))
  try simp only [Act.put, List.setIfInBounds_toArray, List.set_cons_zero, List.set_cons_succ]
  refine wpAnyH_take (i := 15) (oi := ⟨some 39, _, _, _, _, _⟩) (v := ?_) rfl (by kernel_rfl) (by kernel_rfl) (by kernel_rfl) (fun _ _ _ h => h) (Or.inl ⟨by rfl, ?_⟩) (by assumption) ?_
  rotate_left
  ·(intro w hSw; (try dsimp only at hSw); go_simp; try (with_reducible rfl))
  try simp only [Act.put, List.setIfInBounds_toArray, List.set_cons_zero, List.set_cons_succ]
  refine wpAnyH_take (i := 17) (oi := ⟨some 41, _, _, _, _, _⟩) (v := ?_) rfl (by kernel_rfl) (by kernel_rfl) (by kernel_rfl) (fun _ _ _ h => h) (Or.inl ⟨by rfl, ?_⟩) (by assumption) ?_
  rotate_left
  ·(intro w hSw; (try dsimp only at hSw); go_simp; try (with_reducible rfl))
  try simp only [Act.put, List.setIfInBounds_toArray, List.set_cons_zero, List.set_cons_succ]
  refine wpAnyH_ready (rs := [16]) (by kernel_rfl) (by simp) ?_
  refine AllReadyH.cons (o := ⟨some 40, _, _, _, _, _⟩) rfl (fun K hK => ?_) AllReadyH.nil
  go_simp
  refine (hpl _).mono ?_
  rintro e w2 ⟨vp, rfl, hP⟩
  obtain ⟨Ap, cp, rfl, hrp, _, _, _⟩ := own_rd hP.own
  obtain ⟨bp, op, rfl, _, _, _, hcp⟩ := hrp.some (by rw [Til.plL_len]; omega)
  have q0 := hcp _ _ HPG.out.1
  have q1 := hcp _ _ HPG.out.2
  rw [← Nat.add_assoc] at q1
  have HS2 := Lib.hid (HD.out.next hP.keep)
  clear hP hrp hcp
  go_wp2_with fail
  refine hK.out _ _ (⟨HS2.out.box.cell 0, HS2.out.box.cell 1⟩) (fun hHeld => ?_)
  clear hK K
  try simp only [Act.put, List.setIfInBounds_toArray, List.set_cons_zero, List.set_cons_succ]
  refine wpAnyH_take (i := 18) (oi := ⟨some 42, _, _, _, _, _⟩) (v := ?_) rfl (by kernel_rfl) (by kernel_rfl) (by kernel_rfl) (fun _ _ _ h => h) (Or.inl ⟨by rfl, ?_⟩) (by assumption) ?_
  rotate_left
  ·(intro w hSw; (try dsimp only at hSw); go_simp; try (with_reducible rfl))
  try simp only [Act.put, List.setIfInBounds_toArray, List.set_cons_zero, List.set_cons_succ]
  refine wpAnyH_ready (rs := [19]) (by kernel_rfl) (by simp) ?_
  refine AllReadyH.cons (o := ⟨some 43, _, _, _, _, _⟩) rfl (fun K hK => ?_) AllReadyH.nil
  go_simp
  refine hK.out _ _ (⟨HS2.out.box.cell 0, HS2.out.box.cell 1⟩) (fun hHeld => ?_)
  clear hK K
  try simp only [Act.put, List.setIfInBounds_toArray, List.set_cons_zero, List.set_cons_succ]
  refine wpAnyH_ready (rs := [20]) (by kernel_rfl) (by simp) ?_
  refine AllReadyH.cons (o := ⟨some 44, _, _, _, _, _⟩) rfl (fun K hK => ?_) AllReadyH.nil
  go_simp
  refine (hbx _).mono ?_
  rintro e w3 ⟨rfl, hb3⟩
  have HS3 := Lib.hid (HS2.out.next hb3)
  clear hb3
  go_wp2_with fail
  refine hK.out _ _ (⟨HS3.out.box.cell 0, HS3.out.box.cell 1⟩) (fun hHeld => ?_)
  clear hK K
  try simp only [Act.put, List.setIfInBounds_toArray, List.set_cons_zero, List.set_cons_succ]
  refine wpAnyH_take (i := 21) (oi := ⟨some 23, _, _, _, _, _⟩) (v := ?_) rfl (by kernel_rfl) (by kernel_rfl) (by kernel_rfl) (fun _ _ _ h => h) (Or.inl ⟨by rfl, ?_⟩) (by assumption) ?_
  rotate_left
  ·(intro w hSw; (try dsimp only at hSw); go_simp; try (with_reducible rfl))
  try simp only [Act.put, List.setIfInBounds_toArray, List.set_cons_zero, List.set_cons_succ]
  refine wpAnyH_take (i := 22) (oi := ⟨some 45, _, _, _, _, _⟩) (v := ?_) rfl (by kernel_rfl) (by kernel_rfl) (by kernel_rfl) (fun _ _ _ h => h) (Or.inl ⟨by rfl, ?_⟩) (by assumption) ?_
  rotate_left
  ·(intro w hSw; (try dsimp only at hSw); go_simp; try (with_reducible rfl))
  try simp only [Act.put, List.setIfInBounds_toArray, List.set_cons_zero, List.set_cons_succ]
  refine wpAnyH_take (i := 23) (oi := ⟨some 46, _, _, _, _, _⟩) (v := ?_) rfl (by kernel_rfl) (by kernel_rfl) (by kernel_rfl) (fun _ _ _ h => h) (Or.inl ⟨by rfl, ?_⟩) (by assumption) ?_
  rotate_left
  ·(intro w hSw; (try dsimp only at hSw); go_simp; try (with_reducible rfl))
  try simp only [Act.put, List.setIfInBounds_toArray, List.set_cons_zero, List.set_cons_succ]
  refine wpAnyH_take (i := 24) (oi := ⟨some 47, _, _, _, _, _⟩) (v := ?_) rfl (by kernel_rfl) (by kernel_rfl) (by kernel_rfl) (fun _ _ _ h => h) (Or.inl ⟨by rfl, ?_⟩) (by assumption) ?_
  rotate_left
  ·(intro w hSw; (try dsimp only at hSw); go_simp; try (with_reducible rfl))
  try simp only [Act.put, List.setIfInBounds_toArray, List.set_cons_zero, List.set_cons_succ]
  refine wpAnyH_take (i := 25) (oi := ⟨some 48, _, _, _, _, _⟩) (v := ?_) rfl (by kernel_rfl) (by kernel_rfl) (by kernel_rfl) (fun _ _ _ h => h) (Or.inl ⟨by rfl, ?_⟩) (by assumption) ?_
  rotate_left
  ·(intro w hSw; (try dsimp only at hSw); go_simp; try (with_reducible rfl))
  try simp only [Act.put, List.setIfInBounds_toArray, List.set_cons_zero, List.set_cons_succ]
  refine wpAnyH_take (i := 26) (oi := ⟨some 8, _, _, _, _, _⟩) (v := ?_) rfl (by kernel_rfl) (by kernel_rfl) (by kernel_rfl) (fun _ _ _ h => h) (Or.inl ⟨by rfl, ?_⟩) (by assumption) ?_
  rotate_left
  ·(intro w hSw; (try dsimp only at hSw); go_simp; try (with_reducible rfl))
  try simp only [Act.put, List.setIfInBounds_toArray, List.set_cons_zero, List.set_cons_succ]
  refine wpAnyH_take (i := 27) (oi := ⟨some 9, _, _, _, _, _⟩) (v := ?_) rfl (by kernel_rfl) (by kernel_rfl) (by kernel_rfl) (fun _ _ _ h => h) (Or.inl ⟨by rfl, ?_⟩) (by assumption) ?_
  rotate_left
  ·(intro w hSw; (try dsimp only at hSw); go_simp; try (with_reducible rfl))
  try simp only [Act.put, List.setIfInBounds_toArray, List.set_cons_zero, List.set_cons_succ]
  refine wpAnyH_take (i := 28) (oi := ⟨some 10, _, _, _, _, _⟩) (v := ?_) rfl (by kernel_rfl) (by kernel_rfl) (by kernel_rfl) (fun _ _ _ h => h) (Or.inl ⟨by rfl, ?_⟩) (by assumption) ?_
  rotate_left
  ·(intro w hSw; (try dsimp only at hSw); go_simp; try (with_reducible rfl))
  try simp only [Act.put, List.setIfInBounds_toArray, List.set_cons_zero, List.set_cons_succ]
  refine wpAnyH_take (i := 29) (oi := ⟨some 11, _, _, _, _, _⟩) (v := ?_) rfl (by kernel_rfl) (by kernel_rfl) (by kernel_rfl) (fun _ _ _ h => h) (Or.inl ⟨by rfl, ?_⟩) (by assumption) ?_
  rotate_left
  ·(intro w hSw; (try dsimp only at hSw); go_simp; try (with_reducible rfl))
  try simp only [Act.put, List.setIfInBounds_toArray, List.set_cons_zero, List.set_cons_succ]
  refine wpAnyH_done (by kernel_rfl) ?_ _
  go_wp2_with fail
  go_meet
  exact ⟨rfl, rfl, HS3.out⟩
 obtain ⟨rfl, rfl, hx⟩ := hcut
 obtain ⟨wp, rfl⟩ : ∃ wp : World, wp = wc := ⟨_, rfl⟩
 have HX := Lib.hid hx.drew
 have ok0 := sumOk S
 obtain ⟨ok, hok⟩ : ∃ ok, ok = sumOk S := ⟨_, rfl⟩
 have htc := HTC.out
 rw [← hok] at htc
 have HTC2 := Lib.hid htc
 have hcg0 := fun (A' : Option Addr) (z' cap' : Nat) (wz : World) (hz : RdL wz lo hi A' (S.map bv)) (he : z = z') (hc : z' ≤ cap') => cget_any A' S z' cap' lo hi wz hz (HSL.out.trans he) (by omega) hc
 unfold GotC at hcg0
 rw [← hok] at hcg0
 have hsl := HSL.out
 obtain ⟨q, hq⟩ : ∃ q, q = f + z := ⟨_, rfl⟩
 have wq : IntKind.i64.wrap ((f : Int) + (z : Int)) = (q : Int) := by rw [IntWalk.i64_in _ (by omega)]; omega
 have l1 : (0 : Int) ≤ (f : Int) := by omega
 have l2 : (f : Int) ≤ (q : Int) := by omega
 have l3 : (q : Int) ≤ (cap : Int) := by omega
 have l4 : f ≤ q := by omega
 have l5 : q ≤ cap := by omega
 have l6 : q - f = z := by omega
 have HQ := Lib.hid hq
 have HCG := Lib.hid hcg0
 have htg := fun (A' : Option Addr) (n' cap' : Nat) (wz : World) (hz : RdL wz (wp.drew.heap.size) wz.heap.size A' ((S.take (S.length - 4)).map bv)) (hn' : n' = S.length - 4) (hA' : A' = none → n' = 0 ∧ cap' = 0) => tget_any A' (S.take (S.length - 4)) tw th n' cap' _ _ wz hz (by rw [List.length_take]; omega) hA' (by omega) tw1.1 tw1.2 th1.1 th1.2
 have HTG := Lib.hid htg
 clear hq hx htc HTC HH x0 x1 x6 x7 hpl hbx hok hsl htg hcg0
 go_upto_region 4 with fail
 go_cut [12, 13] (fun s12 s13 wx => ∃ A3 n3 cap3, s12 = .slice A3 n3 cap3 ∧ s13 = .bool ok ∧ (ok = true → n3 = S.length - 4 ∧ (A3 = none → n3 = 0 ∧ cap3 = 0) ∧ RdL wx wp.drew.heap.size wx.heap.size A3 ((S.take (S.length - 4)).map bv)) ∧ TX w [.int .i64 (W : Int), .int .i64 (H : Int), .slice none 0 0, .int .i64 (C : Int), .int .i32 ox, .int .i32 oy, .slice (some ⟨b1, o1, none⟩) N c1, .slice (some ⟨b2, o2, none⟩) N c2] (some ⟨b, off, none⟩) (some ⟨b1, o1, none⟩) (some ⟨b2, o2, none⟩) L lo hi lo1 hi1 wx)
 case first =>
  have hcf : cap = f ∨ cap ≠ f := by omega
  rcases hcf with hcf | hcf
  ·subst hcf
   have hcg := HCG.out (some ⟨b, off, none⟩) z 0 wp.drew (.inl (by rw [List.map_eq_nil_iff]; exact List.eq_nil_of_length_eq_zero (by rw [HSL.out]; omega))) rfl (by omega)
   have HCG2 := Lib.hid hcg
   clear hcg
   go_wp2_with fail
   refine wp_region_held_drew (S := fun w' => w'.cell? ⟨w.heap.size, 6, none⟩ = some (.slice (some ⟨b1, o1, none⟩) N c1) ∧ w'.cell? ⟨w.heap.size, 7, none⟩ = some (.slice (some ⟨b2, o2, none⟩) N c2) ∧ w'.cell? ⟨b1, o1 + i, none⟩ = some (.int .i64 (cap : Int)) ∧ w'.cell? ⟨b2, o2 + i, none⟩ = some (.int .i64 (z : Int))) (by kernel_rfl) ⟨HX.out.box.cell 6, HX.out.box.cell 7, cell_rd HX.out.r1 G1.out, cell_rd HX.out.r2 G2.out⟩ (fun hHeld => ?_)
   refine wpAnyH_take (i := 0) (oi := ⟨some 50, _, _, _, _, _⟩) (v := ?_) rfl (by kernel_rfl) (by kernel_rfl) (by kernel_rfl) (fun _ _ _ h => h) (Or.inl ⟨by rfl, ?_⟩) (by assumption) ?_
   rotate_left
   ·(intro w hSw; (try dsimp only at hSw); go_simp; try (with_reducible rfl))
   try simp only [Act.put, List.setIfInBounds_toArray, List.set_cons_zero, List.set_cons_succ]
   refine wpAnyH_take (i := 1) (oi := ⟨some 51, _, _, _, _, _⟩) (v := ?_) rfl (by kernel_rfl) (by kernel_rfl) (by kernel_rfl) (fun _ _ _ h => h) (Or.inl ⟨by rfl, ?_⟩) (by assumption) ?_
   rotate_left
   ·(intro w hSw; (try dsimp only at hSw); go_simp; try (with_reducible rfl))
   try simp only [Act.put, List.setIfInBounds_toArray, List.set_cons_zero, List.set_cons_succ]
   refine wpAnyH_take (i := 2) (oi := ⟨some 52, _, _, _, _, _⟩) (v := ?_) rfl (by kernel_rfl) (by kernel_rfl) (by kernel_rfl) (fun _ _ _ h => h) (Or.inl ⟨by rfl, ?_⟩) (by assumption) ?_
   rotate_left
   ·(intro w hSw; (try dsimp only at hSw); go_simp; try (with_reducible rfl))
   try simp only [Act.put, List.setIfInBounds_toArray, List.set_cons_zero, List.set_cons_succ]
   refine wpAnyH_take (i := 3) (oi := ⟨some 53, _, _, _, _, _⟩) (v := ?_) rfl (by kernel_rfl) (by kernel_rfl) (by kernel_rfl) (fun _ _ _ h => h) (Or.inl ⟨by rfl, ?_⟩) (by assumption) ?_
   rotate_left
   ·(intro w hSw; (try dsimp only at hSw); go_simp; try (with_reducible rfl))
   try simp only [Act.put, List.setIfInBounds_toArray, List.set_cons_zero, List.set_cons_succ]
   refine wpAnyH_take (i := 4) (oi := ⟨some 54, _, _, _, _, _⟩) (v := ?_) rfl (by kernel_rfl) (by kernel_rfl) (by kernel_rfl) (fun _ _ _ h => h) (Or.inl ⟨by rfl, ?_⟩) (by assumption) ?_
   rotate_left
   ·(intro w hSw; (try dsimp only at hSw); go_simp; try (with_reducible rfl))
   try simp only [Act.put, List.setIfInBounds_toArray, List.set_cons_zero, List.set_cons_succ]
   refine wpAnyH_take (i := 5) (oi := ⟨some 55, _, _, _, _, _⟩) (v := ?_) rfl (by kernel_rfl) (by kernel_rfl) (by kernel_rfl) (fun _ _ _ h => h) (Or.inl ⟨by rfl, ?_⟩) (by assumption) ?_
   rotate_left
   ·(intro w hSw; (try dsimp only at hSw); go_simp; try (with_reducible rfl))
   try simp only [Act.put, List.setIfInBounds_toArray, List.set_cons_zero, List.set_cons_succ]
   refine wpAnyH_take (i := 6) (oi := ⟨some 56, _, _, _, _, _⟩) (v := ?_) rfl (by kernel_rfl) (by kernel_rfl) (by kernel_rfl) (fun _ _ _ h => h) (Or.inl ⟨by rfl, ?_⟩) (by assumption) ?_
   rotate_left
   ·(intro w hSw; (try dsimp only at hSw); go_simp; try (with_reducible rfl))
   try simp only [Act.put, List.setIfInBounds_toArray, List.set_cons_zero, List.set_cons_succ]
   refine wpAnyH_take (i := 7) (oi := ⟨some 57, _, _, _, _, _⟩) (v := ?_) rfl (by kernel_rfl) (by kernel_rfl) (by kernel_rfl) (fun _ _ _ h => h) (Or.inl ⟨by rfl, ?_⟩) (by assumption) ?_
   rotate_left
   ·(intro w hSw; (try dsimp only at hSw); go_simp; try (with_reducible rfl))
   try simp only [Act.put, List.setIfInBounds_toArray, List.set_cons_zero, List.set_cons_succ]
   refine wpAnyH_take (i := 8) (oi := ⟨some 58, _, _, _, _, _⟩) (v := ?_) rfl (by kernel_rfl) (by kernel_rfl) (by kernel_rfl) (fun _ _ _ h => h) (Or.inl ⟨by rfl, ?_⟩) (by assumption) ?_
   rotate_left
   ·(intro w hSw; (try dsimp only at hSw); go_simp; try (with_reducible rfl))
   try simp only [Act.put, List.setIfInBounds_toArray, List.set_cons_zero, List.set_cons_succ]
   refine wpAnyH_take (i := 9) (oi := ⟨some 59, _, _, _, _, _⟩) (v := ?_) rfl (by kernel_rfl) (by kernel_rfl) (by kernel_rfl) (fun _ _ _ h => h) (Or.inl ⟨by rfl, ?_⟩) (by assumption) ?_
   rotate_left
   ·(intro w hSw; (try dsimp only at hSw); go_simp; try (with_reducible rfl))
   try simp only [Act.put, List.setIfInBounds_toArray, List.set_cons_zero, List.set_cons_succ]
   refine wpAnyH_take (i := 10) (oi := ⟨some 60, _, _, _, _, _⟩) (v := ?_) rfl (by kernel_rfl) (by kernel_rfl) (by kernel_rfl) (fun _ _ _ h => h) (Or.inl ⟨by rfl, ?_⟩) (by assumption) ?_
   rotate_left
   ·(intro w hSw; (try dsimp only at hSw); go_simp; try (with_reducible rfl))
   try simp only [Act.put, List.setIfInBounds_toArray, List.set_cons_zero, List.set_cons_succ]
   refine wpAnyH_take (i := 11) (oi := ⟨some 61, _, _, _, _, _⟩) (v := ?_) rfl (by kernel_rfl) (by kernel_rfl) (by kernel_rfl) (fun _ _ _ h => h) (Or.inl ⟨by rfl, ?_⟩) (by assumption) ?_
   rotate_left
   ·(intro w hSw; (try dsimp only at hSw); go_simp; try (with_reducible rfl))
   try simp only [Act.put, List.setIfInBounds_toArray, List.set_cons_zero, List.set_cons_succ]
   refine wpAnyH_take (i := 12) (oi := ⟨some 62, _, _, _, _, _⟩) (v := ?_) rfl (by kernel_rfl) (by kernel_rfl) (by kernel_rfl) (fun _ _ _ h => h) (Or.inl ⟨by rfl, ?_⟩) (by assumption) ?_
   rotate_left
   ·(intro w hSw; (try dsimp only at hSw); go_simp; try (with_reducible rfl))
   try simp only [Act.put, List.setIfInBounds_toArray, List.set_cons_zero, List.set_cons_succ]
   refine wpAnyH_take (i := 13) (oi := ⟨some 63, _, _, _, _, _⟩) (v := ?_) rfl (by kernel_rfl) (by kernel_rfl) (by kernel_rfl) (fun _ _ _ h => h) (Or.inl ⟨by rfl, ?_⟩) (by assumption) ?_
   rotate_left
   ·(intro w hSw; (try dsimp only at hSw); go_simp; try (with_reducible rfl))
   try simp only [Act.put, List.setIfInBounds_toArray, List.set_cons_zero, List.set_cons_succ]
   refine wpAnyH_take (i := 14) (oi := ⟨some 64, _, _, _, _, _⟩) (v := ?_) rfl (by kernel_rfl) (by kernel_rfl) (by kernel_rfl) (fun _ _ _ h => h) (Or.inl ⟨by rfl, ?_⟩) (by assumption) ?_
   rotate_left
   ·(intro w hSw; (try dsimp only at hSw); go_simp; try (with_reducible rfl))
   try simp only [Act.put, List.setIfInBounds_toArray, List.set_cons_zero, List.set_cons_succ]
   refine wpAnyH_take (i := 15) (oi := ⟨some 65, _, _, _, _, _⟩) (v := ?_) rfl (by kernel_rfl) (by kernel_rfl) (by kernel_rfl) (fun _ _ _ h => h) (Or.inl ⟨by rfl, ?_⟩) (by assumption) ?_
   rotate_left
   ·(intro w hSw; (try dsimp only at hSw); go_simp; try (with_reducible rfl))
   try simp only [Act.put, List.setIfInBounds_toArray, List.set_cons_zero, List.set_cons_succ]
   refine wpAnyH_take (i := 16) (oi := ⟨some 66, _, _, _, _, _⟩) (v := ?_) rfl (by kernel_rfl) (by kernel_rfl) (by kernel_rfl) (fun _ _ _ h => h) (Or.inl ⟨by rfl, ?_⟩) (by assumption) ?_
   rotate_left
   ·(intro w hSw; (try dsimp only at hSw); go_simp; try (with_reducible rfl))
   try simp only [Act.put, List.setIfInBounds_toArray, List.set_cons_zero, List.set_cons_succ]
   refine wpAnyH_take (i := 17) (oi := ⟨some 67, _, _, _, _, _⟩) (v := ?_) rfl (by kernel_rfl) (by kernel_rfl) (by kernel_rfl) (fun _ _ _ h => h) (Or.inl ⟨by rfl, ?_⟩) (by assumption) ?_
   rotate_left
   ·(intro w hSw; (try dsimp only at hSw); go_simp; try (with_reducible rfl))
   try simp only [Act.put, List.setIfInBounds_toArray, List.set_cons_zero, List.set_cons_succ]
   refine wpAnyH_ready (rs := [18]) (by kernel_rfl) (by simp) ?_
   refine AllReadyH.cons (o := ⟨some 68, _, _, _, _, _⟩) rfl (fun K hK => ?_) AllReadyH.nil
   go_simp
   refine HCG2.out.mono ?_
   rintro e w3 ⟨⟨A3, n3, cap3, rfl, hgo⟩, hb3⟩
   have HX3 := Lib.hid (HX.out.next hb3)
   have HGO := Lib.hid hgo
   clear hgo hb3
   go_wp2_with fail
   refine hK.out _ _ (⟨HX3.out.box.cell 6, HX3.out.box.cell 7, cell_rd HX3.out.r1 G1.out, cell_rd HX3.out.r2 G2.out⟩) (fun hHeld => ?_)
   clear hK K
   try simp only [Act.put, List.setIfInBounds_toArray, List.set_cons_zero, List.set_cons_succ]
   refine wpAnyH_take (i := 19) (oi := ⟨some 49, _, _, _, _, _⟩) (v := ?_) rfl (by kernel_rfl) (by kernel_rfl) (by kernel_rfl) (fun _ _ _ h => h) (Or.inl ⟨by rfl, ?_⟩) (by assumption) ?_
   rotate_left
   ·(intro w hSw; (try dsimp only at hSw); go_simp; try (with_reducible rfl))
   try simp only [Act.put, List.setIfInBounds_toArray, List.set_cons_zero, List.set_cons_succ]
   refine wpAnyH_take (i := 20) (oi := ⟨some 69, _, _, _, _, _⟩) (v := ?_) rfl (by kernel_rfl) (by kernel_rfl) (by kernel_rfl) (fun _ _ _ h => h) (Or.inl ⟨by rfl, ?_⟩) (by assumption) ?_
   rotate_left
   ·(intro w hSw; (try dsimp only at hSw); go_simp; try (with_reducible rfl))
   try simp only [Act.put, List.setIfInBounds_toArray, List.set_cons_zero, List.set_cons_succ]
   refine wpAnyH_take (i := 21) (oi := ⟨some 70, _, _, _, _, _⟩) (v := ?_) rfl (by kernel_rfl) (by kernel_rfl) (by kernel_rfl) (fun _ _ _ h => h) (Or.inl ⟨by rfl, ?_⟩) (by assumption) ?_
   rotate_left
   ·(intro w hSw; (try dsimp only at hSw); go_simp; try (with_reducible rfl))
   try simp only [Act.put, List.setIfInBounds_toArray, List.set_cons_zero, List.set_cons_succ]
   refine wpAnyH_take (i := 22) (oi := ⟨some 12, _, _, _, _, _⟩) (v := ?_) rfl (by kernel_rfl) (by kernel_rfl) (by kernel_rfl) (fun _ _ _ h => h) (Or.inl ⟨by rfl, ?_⟩) (by assumption) ?_
   rotate_left
   ·(intro w hSw; (try dsimp only at hSw); go_simp; try (with_reducible rfl))
   try simp only [Act.put, List.setIfInBounds_toArray, List.set_cons_zero, List.set_cons_succ]
   refine wpAnyH_take (i := 23) (oi := ⟨some 13, _, _, _, _, _⟩) (v := ?_) rfl (by kernel_rfl) (by kernel_rfl) (by kernel_rfl) (fun _ _ _ h => h) (Or.inl ⟨by rfl, ?_⟩) (by assumption) ?_
   rotate_left
   ·(intro w hSw; (try dsimp only at hSw); go_simp; try (with_reducible rfl))
   try simp only [Act.put, List.setIfInBounds_toArray, List.set_cons_zero, List.set_cons_succ]
   refine wpAnyH_done (by kernel_rfl) ?_ _
   go_wp2_with fail
   go_meet
   exact ⟨A3, n3, cap3, rfl, rfl, HGO.out, HX3.out⟩
  ·have hcg := HCG.out (some ⟨b, off + f, none⟩) z (cap - f) wp.drew (by rw [HSE.out, List.map_take, List.map_drop]; exact ((HX.out.rd).drop f).take z) rfl (by omega)
   have HCG2 := Lib.hid hcg
   clear hcg
   go_wp2_with fail
   refine wp_region_held_drew (S := fun w' => w'.cell? ⟨w.heap.size, 6, none⟩ = some (.slice (some ⟨b1, o1, none⟩) N c1) ∧ w'.cell? ⟨w.heap.size, 7, none⟩ = some (.slice (some ⟨b2, o2, none⟩) N c2) ∧ w'.cell? ⟨b1, o1 + i, none⟩ = some (.int .i64 (f : Int)) ∧ w'.cell? ⟨b2, o2 + i, none⟩ = some (.int .i64 (z : Int))) (by kernel_rfl) ⟨HX.out.box.cell 6, HX.out.box.cell 7, cell_rd HX.out.r1 G1.out, cell_rd HX.out.r2 G2.out⟩ (fun hHeld => ?_)
   refine wpAnyH_take (i := 0) (oi := ⟨some 50, _, _, _, _, _⟩) (v := ?_) rfl (by kernel_rfl) (by kernel_rfl) (by kernel_rfl) (fun _ _ _ h => h) (Or.inl ⟨by rfl, ?_⟩) (by assumption) ?_
   rotate_left
   ·(intro w hSw; (try dsimp only at hSw); go_simp; try (with_reducible rfl))
   try simp only [Act.put, List.setIfInBounds_toArray, List.set_cons_zero, List.set_cons_succ]
   refine wpAnyH_take (i := 1) (oi := ⟨some 51, _, _, _, _, _⟩) (v := ?_) rfl (by kernel_rfl) (by kernel_rfl) (by kernel_rfl) (fun _ _ _ h => h) (Or.inl ⟨by rfl, ?_⟩) (by assumption) ?_
   rotate_left
   ·(intro w hSw; (try dsimp only at hSw); go_simp; try (with_reducible rfl))
   try simp only [Act.put, List.setIfInBounds_toArray, List.set_cons_zero, List.set_cons_succ]
   refine wpAnyH_take (i := 2) (oi := ⟨some 52, _, _, _, _, _⟩) (v := ?_) rfl (by kernel_rfl) (by kernel_rfl) (by kernel_rfl) (fun _ _ _ h => h) (Or.inl ⟨by rfl, ?_⟩) (by assumption) ?_
   rotate_left
   ·(intro w hSw; (try dsimp only at hSw); go_simp; try (with_reducible rfl))
   try simp only [Act.put, List.setIfInBounds_toArray, List.set_cons_zero, List.set_cons_succ]
   refine wpAnyH_take (i := 3) (oi := ⟨some 53, _, _, _, _, _⟩) (v := ?_) rfl (by kernel_rfl) (by kernel_rfl) (by kernel_rfl) (fun _ _ _ h => h) (Or.inl ⟨by rfl, ?_⟩) (by assumption) ?_
   rotate_left
   ·(intro w hSw; (try dsimp only at hSw); go_simp; try (with_reducible rfl))
   try simp only [Act.put, List.setIfInBounds_toArray, List.set_cons_zero, List.set_cons_succ]
   refine wpAnyH_take (i := 4) (oi := ⟨some 54, _, _, _, _, _⟩) (v := ?_) rfl (by kernel_rfl) (by kernel_rfl) (by kernel_rfl) (fun _ _ _ h => h) (Or.inl ⟨by rfl, ?_⟩) (by assumption) ?_
   rotate_left
   ·(intro w hSw; (try dsimp only at hSw); go_simp; try (with_reducible rfl))
   try simp only [Act.put, List.setIfInBounds_toArray, List.set_cons_zero, List.set_cons_succ]
   refine wpAnyH_take (i := 5) (oi := ⟨some 55, _, _, _, _, _⟩) (v := ?_) rfl (by kernel_rfl) (by kernel_rfl) (by kernel_rfl) (fun _ _ _ h => h) (Or.inl ⟨by rfl, ?_⟩) (by assumption) ?_
   rotate_left
   ·(intro w hSw; (try dsimp only at hSw); go_simp; try (with_reducible rfl))
   try simp only [Act.put, List.setIfInBounds_toArray, List.set_cons_zero, List.set_cons_succ]
   refine wpAnyH_take (i := 6) (oi := ⟨some 56, _, _, _, _, _⟩) (v := ?_) rfl (by kernel_rfl) (by kernel_rfl) (by kernel_rfl) (fun _ _ _ h => h) (Or.inl ⟨by rfl, ?_⟩) (by assumption) ?_
   rotate_left
   ·(intro w hSw; (try dsimp only at hSw); go_simp; try (with_reducible rfl))
   try simp only [Act.put, List.setIfInBounds_toArray, List.set_cons_zero, List.set_cons_succ]
   refine wpAnyH_take (i := 7) (oi := ⟨some 57, _, _, _, _, _⟩) (v := ?_) rfl (by kernel_rfl) (by kernel_rfl) (by kernel_rfl) (fun _ _ _ h => h) (Or.inl ⟨by rfl, ?_⟩) (by assumption) ?_
   rotate_left
   ·(intro w hSw; (try dsimp only at hSw); go_simp; try (with_reducible rfl))
   try simp only [Act.put, List.setIfInBounds_toArray, List.set_cons_zero, List.set_cons_succ]
   refine wpAnyH_take (i := 8) (oi := ⟨some 58, _, _, _, _, _⟩) (v := ?_) rfl (by kernel_rfl) (by kernel_rfl) (by kernel_rfl) (fun _ _ _ h => h) (Or.inl ⟨by rfl, ?_⟩) (by assumption) ?_
   rotate_left
   ·(intro w hSw; (try dsimp only at hSw); go_simp; try (with_reducible rfl))
   try simp only [Act.put, List.setIfInBounds_toArray, List.set_cons_zero, List.set_cons_succ]
   refine wpAnyH_take (i := 9) (oi := ⟨some 59, _, _, _, _, _⟩) (v := ?_) rfl (by kernel_rfl) (by kernel_rfl) (by kernel_rfl) (fun _ _ _ h => h) (Or.inl ⟨by rfl, ?_⟩) (by assumption) ?_
   rotate_left
   ·(intro w hSw; (try dsimp only at hSw); go_simp; try (with_reducible rfl))
   try simp only [Act.put, List.setIfInBounds_toArray, List.set_cons_zero, List.set_cons_succ]
   refine wpAnyH_take (i := 10) (oi := ⟨some 60, _, _, _, _, _⟩) (v := ?_) rfl (by kernel_rfl) (by kernel_rfl) (by kernel_rfl) (fun _ _ _ h => h) (Or.inl ⟨by rfl, ?_⟩) (by assumption) ?_
   rotate_left
   ·(intro w hSw; (try dsimp only at hSw); go_simp; try (with_reducible rfl))
   try simp only [Act.put, List.setIfInBounds_toArray, List.set_cons_zero, List.set_cons_succ]
   refine wpAnyH_take (i := 11) (oi := ⟨some 61, _, _, _, _, _⟩) (v := ?_) rfl (by kernel_rfl) (by kernel_rfl) (by kernel_rfl) (fun _ _ _ h => h) (Or.inl ⟨by rfl, ?_⟩) (by assumption) ?_
   rotate_left
   ·(intro w hSw; (try dsimp only at hSw); go_simp; try (with_reducible rfl))
   try simp only [Act.put, List.setIfInBounds_toArray, List.set_cons_zero, List.set_cons_succ]
   refine wpAnyH_take (i := 12) (oi := ⟨some 62, _, _, _, _, _⟩) (v := ?_) rfl (by kernel_rfl) (by kernel_rfl) (by kernel_rfl) (fun _ _ _ h => h) (Or.inl ⟨by rfl, ?_⟩) (by assumption) ?_
   rotate_left
   ·(intro w hSw; (try dsimp only at hSw); go_simp; try (with_reducible rfl))
   try simp only [Act.put, List.setIfInBounds_toArray, List.set_cons_zero, List.set_cons_succ]
   refine wpAnyH_take (i := 13) (oi := ⟨some 63, _, _, _, _, _⟩) (v := ?_) rfl (by kernel_rfl) (by kernel_rfl) (by kernel_rfl) (fun _ _ _ h => h) (Or.inl ⟨by rfl, ?_⟩) (by assumption) ?_
   rotate_left
   ·(intro w hSw; (try dsimp only at hSw); go_simp; try (with_reducible rfl))
   try simp only [Act.put, List.setIfInBounds_toArray, List.set_cons_zero, List.set_cons_succ]
   refine wpAnyH_take (i := 14) (oi := ⟨some 64, _, _, _, _, _⟩) (v := ?_) rfl (by kernel_rfl) (by kernel_rfl) (by kernel_rfl) (fun _ _ _ h => h) (Or.inl ⟨by rfl, ?_⟩) (by assumption) ?_
   rotate_left
   ·(intro w hSw; (try dsimp only at hSw); go_simp; try (with_reducible rfl))
   try simp only [Act.put, List.setIfInBounds_toArray, List.set_cons_zero, List.set_cons_succ]
   refine wpAnyH_take (i := 15) (oi := ⟨some 65, _, _, _, _, _⟩) (v := ?_) rfl (by kernel_rfl) (by kernel_rfl) (by kernel_rfl) (fun _ _ _ h => h) (Or.inl ⟨by rfl, ?_⟩) (by assumption) ?_
   rotate_left
   ·(intro w hSw; (try dsimp only at hSw); go_simp; try (with_reducible rfl))
   try simp only [Act.put, List.setIfInBounds_toArray, List.set_cons_zero, List.set_cons_succ]
   refine wpAnyH_take (i := 16) (oi := ⟨some 66, _, _, _, _, _⟩) (v := ?_) rfl (by kernel_rfl) (by kernel_rfl) (by kernel_rfl) (fun _ _ _ h => h) (Or.inl ⟨by rfl, ?_⟩) (by assumption) ?_
   rotate_left
   ·(intro w hSw; (try dsimp only at hSw); go_simp; try (with_reducible rfl))
   try simp only [Act.put, List.setIfInBounds_toArray, List.set_cons_zero, List.set_cons_succ]
   refine wpAnyH_take (i := 17) (oi := ⟨some 67, _, _, _, _, _⟩) (v := ?_) rfl (by kernel_rfl) (by kernel_rfl) (by kernel_rfl) (fun _ _ _ h => h) (Or.inl ⟨by rfl, ?_⟩) (by assumption) ?_
   rotate_left
   ·(intro w hSw; (try dsimp only at hSw); go_simp; try (with_reducible rfl))
   try simp only [Act.put, List.setIfInBounds_toArray, List.set_cons_zero, List.set_cons_succ]
   refine wpAnyH_ready (rs := [18]) (by kernel_rfl) (by simp) ?_
   refine AllReadyH.cons (o := ⟨some 68, _, _, _, _, _⟩) rfl (fun K hK => ?_) AllReadyH.nil
   go_simp
   refine HCG2.out.mono ?_
   rintro e w3 ⟨⟨A3, n3, cap3, rfl, hgo⟩, hb3⟩
   have HX3 := Lib.hid (HX.out.next hb3)
   have HGO := Lib.hid hgo
   clear hgo hb3
   go_wp2_with fail
   refine hK.out _ _ (⟨HX3.out.box.cell 6, HX3.out.box.cell 7, cell_rd HX3.out.r1 G1.out, cell_rd HX3.out.r2 G2.out⟩) (fun hHeld => ?_)
   clear hK K
   try simp only [Act.put, List.setIfInBounds_toArray, List.set_cons_zero, List.set_cons_succ]
   refine wpAnyH_take (i := 19) (oi := ⟨some 49, _, _, _, _, _⟩) (v := ?_) rfl (by kernel_rfl) (by kernel_rfl) (by kernel_rfl) (fun _ _ _ h => h) (Or.inl ⟨by rfl, ?_⟩) (by assumption) ?_
   rotate_left
   ·(intro w hSw; (try dsimp only at hSw); go_simp; try (with_reducible rfl))
   try simp only [Act.put, List.setIfInBounds_toArray, List.set_cons_zero, List.set_cons_succ]
   refine wpAnyH_take (i := 20) (oi := ⟨some 69, _, _, _, _, _⟩) (v := ?_) rfl (by kernel_rfl) (by kernel_rfl) (by kernel_rfl) (fun _ _ _ h => h) (Or.inl ⟨by rfl, ?_⟩) (by assumption) ?_
   rotate_left
   ·(intro w hSw; (try dsimp only at hSw); go_simp; try (with_reducible rfl))
   try simp only [Act.put, List.setIfInBounds_toArray, List.set_cons_zero, List.set_cons_succ]
   refine wpAnyH_take (i := 21) (oi := ⟨some 70, _, _, _, _, _⟩) (v := ?_) rfl (by kernel_rfl) (by kernel_rfl) (by kernel_rfl) (fun _ _ _ h => h) (Or.inl ⟨by rfl, ?_⟩) (by assumption) ?_
   rotate_left
   ·(intro w hSw; (try dsimp only at hSw); go_simp; try (with_reducible rfl))
   try simp only [Act.put, List.setIfInBounds_toArray, List.set_cons_zero, List.set_cons_succ]
   refine wpAnyH_take (i := 22) (oi := ⟨some 12, _, _, _, _, _⟩) (v := ?_) rfl (by kernel_rfl) (by kernel_rfl) (by kernel_rfl) (fun _ _ _ h => h) (Or.inl ⟨by rfl, ?_⟩) (by assumption) ?_
   rotate_left
   ·(intro w hSw; (try dsimp only at hSw); go_simp; try (with_reducible rfl))
   try simp only [Act.put, List.setIfInBounds_toArray, List.set_cons_zero, List.set_cons_succ]
   refine wpAnyH_take (i := 23) (oi := ⟨some 13, _, _, _, _, _⟩) (v := ?_) rfl (by kernel_rfl) (by kernel_rfl) (by kernel_rfl) (fun _ _ _ h => h) (Or.inl ⟨by rfl, ?_⟩) (by assumption) ?_
   rotate_left
   ·(intro w hSw; (try dsimp only at hSw); go_simp; try (with_reducible rfl))
   try simp only [Act.put, List.setIfInBounds_toArray, List.set_cons_zero, List.set_cons_succ]
   refine wpAnyH_done (by kernel_rfl) ?_ _
   go_wp2_with fail
   go_meet
   exact ⟨A3, n3, cap3, rfl, rfl, HGO.out, HX3.out⟩
 obtain ⟨A3, n3, cap3, rfl, rfl, hgo, hx⟩ := hcut
 have HX5 := Lib.hid hx
 clear hx HCG HX
 cases ok
 ·have htc := HTC2.out
  rw [if_neg (by decide)] at htc
  clear hgo HTG
  go_wp2_with fail
  refine bodyPost_ret (results_tmp2 rfl _ _ _) rfl ?_
  rw [htc]
  exact ⟨⟨none, 0, 0, [], rfl, rfl, Nat.le_refl _, fun h => absurd h (by decide), .inl rfl⟩, HX5.out.keep⟩
 ·obtain ⟨g1, g2, g3⟩ := hgo rfl
  have htc := HTC2.out
  rw [if_pos rfl] at htc
  have htg := HTG.out A3 n3 cap3 _ g3 g1 g2
  clear HTG g1 g2 g3 hgo
  go_wp2_with fail
  refine htg.mono ?_
  rintro e w7 ⟨⟨A, m, cp, Z, rfl, hZ, hc, hok, hr⟩, hb⟩
  have hfin : (∃ (A' : Option Addr) (n cap : Nat) (Z : List Int), Ending.returned (.tuple #[.slice A m cp, .int .i64 (tcode tw th (S.take (S.length - 4)))]) = .returned (.tuple #[.slice A' n cap, .int .i64 tc]) ∧ Z.length = n ∧ n ≤ cap ∧ OkN tc n (tw * th) ∧ RdL w7 w.heap.size w7.heap.size A' (Z.map z16)) ∧ Below w.heap.size w w7 :=
   ⟨⟨A, m, cp, Z, by rw [htc], hZ, hc, by rw [htc]; exact hok, hr.wide HX5.out.keep.size (Nat.le_refl _)⟩, bt HX5.out.keep hb⟩
  have HFIN := Lib.hid hfin
  clear htg hr hb hok hfin htc
  go_wp2_with fail
  refine bodyPost_ret (results_tmp2 rfl _ _ _) rfl ?_
  exact HFIN.out
end Cht
end
section
open Go.RowKit
namespace Cht
open Txt (leVal bv)
open Til (z16 cntT cntT_le minN16 box_any places_any plL plc plL_len plL_get tcode tget_any OkN info16)
def zeroC : List Value := [.int .i64 0, .int .i64 0, .slice none 0 0, .int .i64 0, .int .i32 0, .int .i32 0]
def tilesC (L : List UInt8) : Nat → Int
 | 0 => 0
 | i + 1 => if tilesC L i ≠ 0 then tilesC L i else tileC L i
def getC (L : List UInt8) : Int := if openC L ≠ 0 then openC L else tilesC L (cnt L)
theorem tiles_stay {L : List UInt8} {i : Nat} (h : tilesC L i ≠ 0) : ∀ j, tilesC L (i + j) = tilesC L i
 | 0 => rfl
 | j + 1 => by
  have ih := tiles_stay h j
  show tilesC L (i + j + 1) = _
  rw [tilesC, ih, if_pos h]
theorem open_zero {L : List UInt8} (h : openC L = 0) : 18 ≤ L.length ∧ 2 ≤ hW L ∧ hW L ≤ 256 ∧ 2 ≤ hH L ∧ hH L ≤ 256 ∧ 1 ≤ hC L ∧ hC L ≤ 1000 ∧ dirAt L (cnt L) = some L.length := by
 unfold openC at h
 by_cases h1 : L.length < 18
 ·rw [if_pos h1] at h; cases h
 rw [if_neg h1] at h
 by_cases h2 : numL L 0 4 ≠ 1296978516
 ·rw [if_pos h2] at h; cases h
 rw [if_neg h2] at h
 by_cases h3 : hW L < 2 ∨ hH L < 2 ∨ 256 < hW L ∨ 256 < hH L ∨ hC L < 1 ∨ 1000 < hC L
 ·rw [if_pos h3] at h; cases h
 rw [if_neg h3] at h
 by_cases h4 : L.length < headN L
 ·rw [if_pos h4] at h; cases h
 rw [if_neg h4] at h
 by_cases h5 : sumOk (L.take (headN L)) = false
 ·rw [if_pos h5] at h; cases h
 rw [if_neg h5] at h
 cases hd : dirAt L (cnt L) with
 | none => rw [hd] at h; cases h
 | some a =>
  rw [hd] at h
  dsimp only at h
  by_cases h6 : a = L.length
  ·rw [h6]; exact ⟨by omega, by omega, by omega, by omega, by omega, by omega, by omega, rfl⟩
  ·rw [if_neg h6] at h; cases h
theorem mk_row2 {P : Program} (t e : TypeId) (i : TypeInfo) (z : Value) (ht : P.underlying t = some (.slice e)) (hi : P.info? e = some i) (hz : i.zero = some z) (hone : z.cells = #[z]) (h1 : i.size = 1) (hb : i.bytes ≤ 8) (n : Nat) (hn : n ≤ 100000) (w : World) :
  (Instr.makeSlice t (.int .i64 (n : Int)) (.int .i64 (n : Int))).run P w = .ok (.slice (some ⟨w.heap.size, 0, none⟩) n n) (w.alloc (.cells (List.replicate n z).toArray e)) := by
 have hm : i.bytes * n ≤ 8 * 100000 := Nat.mul_le_mul hb hn
 have hb' : (i.bytes : Int) * (n : Int) ≤ 281474976710656 := by
  have h : ((i.bytes * n : Nat) : Int) ≤ 281474976710656 := by omega
  rwa [Int.natCast_mul] at h
 have hr := run_make (P := P) w t e i z ht hi hz .i64 .i64 n n (by omega) (Int.le_refl _) hb' (by omega)
 rw [hone, h1, Nat.mul_one, Int.toNat_natCast] at hr
 rw [hr]
 have : madeCells #[z] n = (List.replicate n z).toArray := by
  apply Array.toList_inj.1
  rw [toList_madeCells_one]
 rw [this]
def GotGet (w : World) (L : List UInt8) (e : Ending) (w' : World) : Prop :=
 (∃ ch : List Value, e = .returned (.tuple #[.agg ch.toArray, .int .i64 (getC L)]) ∧ ch.length = 6 ∧ ∀ u ∈ ch, u.oneCell' = true) ∧ Below w.heap.size w w'
theorem infoDir : (Tryz.prog.info? 94).map (·.size) = some 8 := by kernel_rfl
theorem infoChart : (Tryz.prog.info? 44).map (·.size) = some 6 := by kernel_rfl
theorem zeroC_one : ∀ u ∈ zeroC, u.oneCell' = true := by
 intro u hu
 simp only [zeroC, List.mem_cons, List.not_mem_nil, or_false] at hu
 rcases hu with rfl | rfl | rfl | rfl | rfl | rfl <;> rfl
structure GX (w : World) (gd N : Nat) (D C6 : List Value) (A A1 A2 Ap : Option Addr) (L : List UInt8) (lo hi lo1 : Nat) (pl : List Value) (hp : Nat) (wr : World) : Prop where
 res : Blk wr w.heap.size 44 zeroC
 dir : Blk wr gd 94 D
 ch : Blk wr (gd + 1) 44 C6
 z : ∃ cs : List Value, cs.length = N ∧ Blk wr (gd + 2) 62 cs
 rd : RdL wr lo hi A (L.map bv)
 r1 : RdL wr lo1 gd A1 (iv (froms L (cnt L)))
 r2 : RdL wr lo1 gd A2 (iv (sizes L (cnt L)))
 pls : RdL wr (gd + 3) hp Ap pl
 keep : Below w.heap.size w wr
 g1 : w.heap.size < gd
 ghi : hi ≤ w.heap.size
section
variable {w wr w' : World} {gd N : Nat} {D C6 : List Value} {A A1 A2 Ap : Option Addr} {L : List UInt8} {lo hi lo1 : Nat} {pl : List Value} {hp : Nat}
theorem GX.next (h : GX w gd N D C6 A A1 A2 Ap L lo hi lo1 pl hp wr) (hb : Below wr.heap.size wr w') : GX w gd N D C6 A A1 A2 Ap L lo hi lo1 pl hp w' :=
 ⟨h.res.next hb, h.dir.next hb, h.ch.next hb, by obtain ⟨cs, h1, h2⟩ := h.z; exact ⟨cs, h1, h2.next hb⟩, h.rd.next hb, h.r1.next hb, h.r2.next hb, h.pls.next hb, bt h.keep hb, h.g1, h.ghi⟩
theorem GX.lay (h : GX w gd N D C6 A A1 A2 Ap L lo hi lo1 pl hp wr) (hz : ∃ cs : List Value, cs.length = N ∧ Blk w' (gd + 2) 62 cs) (hg : wr.grownBy w' (some (gd + 2))) : GX w gd N D C6 A A1 A2 Ap L lo hi lo1 pl hp w' := by
 have g1 := h.g1
 have ghi := h.ghi
 exact ⟨h.res.grown hg (fun e => by injection e with e; omega), h.dir.grown hg (fun e => by injection e with e; omega), h.ch.grown hg (fun e => by injection e with e; omega), hz,
  h.rd.grown hg (fun k e => .inr (by injection e with e; omega)), h.r1.grown hg (fun k e => .inr (by injection e with e; omega)), h.r2.grown hg (fun k e => .inr (by injection e with e; omega)),
  h.pls.grown hg (fun k e => .inl (by injection e with e; omega)), h.keep.grown hg h.keep.size (fun k e => by injection e with e; omega), g1, ghi⟩
end
structure G0 (w : World) (gd : Nat) (D : List Value) (A : Option Addr) (L : List UInt8) (lo hi : Nat) (wr : World) : Prop where
 res : Blk wr w.heap.size 44 zeroC
 dir : Blk wr gd 94 D
 rd : RdL wr lo hi A (L.map bv)
 keep : Below w.heap.size w wr
 g1 : w.heap.size < gd
 sz : wr.heap.size = gd + 1
 len : D.length = 8
 one : ∀ u ∈ D, u.oneCell' = true
 dc : openC L = 0 → ∃ A1 c1 A2 c2, D = dirV L (.slice A1 (cnt L) c1) (.slice A2 (cnt L) c2) ∧ cnt L ≤ c1 ∧ cnt L ≤ c2 ∧ RdL wr (w.heap.size + 1) gd A1 (iv (froms L (cnt L))) ∧ RdL wr (w.heap.size + 1) gd A2 (iv (sizes L (cnt L)))
set_option maxRecDepth 100000 in
set_option maxHeartbeats 2000000 in
theorem get_any (A : Option Addr) (L : List UInt8) (n cap lo hi : Nat) (w : World) (h : RdL w lo hi A (L.map bv)) (hhi : hi ≤ w.heap.size) (hn : L.length = n) (hl : n ≤ 100000) (hcap : n ≤ cap) :
  Calls Tryz.prog 10 #[.slice A n cap] w (GotGet w L) := by
 have HB0 := Lib.hid (Blk.mk w 44 zeroC)
 have hop := open_any A L n cap lo hi (w.alloc (.cells zeroC.toArray 44)) (h.alloc _) (by simp; omega) hn hl hcap
 have HK0 : Hid (Below w.heap.size w (w.alloc (.cells zeroC.toArray 44))) := Lib.hid (bl _ _)
 have HR0 := Lib.hid (h.alloc (.cells zeroC.toArray 44))
 obtain ⟨oc, hoc⟩ : ∃ x, x = openC L := ⟨_, rfl⟩
 obtain ⟨gc, hgc⟩ : ∃ x, x = getC L := ⟨_, rfl⟩
 unfold GotO at hop
 rw [← hoc] at hop
 have HOC := Lib.hid hoc
 have HGC := Lib.hid hgc
 have HN := Lib.hid hn
 clear h hn hoc hgc
 go_enter Tryz.func10, Tryz.ntmps10
 go_wp2_with fail
 go_step3
 go_upto_region 1 with fail
 go_cut [4, 5] (fun s4 s5 wx => ∃ (gd : Nat) (D : List Value), s4 = .pointer (some ⟨gd, 0, none⟩) ∧ s5 = .int .i64 oc ∧ G0 w gd D A L lo hi wx)
 case first =>
  go_wp2_with fail
  refine hop.mono ?_
  rintro e w2 ⟨D, rfl, ⟨hDl, hD1, hDc⟩, hb2⟩
  have HDL := Lib.hid hDl
  have HD1 := Lib.hid hD1
  have HD0 := Lib.hid (Blk.mk w2 94 zeroD)
  have HD2 := Lib.hid (HD0.out.row D)
  have hx : Below w2.heap.size w2 ((w2.alloc (.cells zeroD.toArray 94)).setRow w2.heap.size D.toArray) := Below.row (bl w2 _) (Nat.le_refl _) _
  have hf : G0 w w2.heap.size D A L lo hi ((w2.alloc (.cells zeroD.toArray 94)).setRow w2.heap.size D.toArray) := by
   have hsz := hb2.size
   rw [World.size_alloc] at hsz
   refine ⟨(HB0.out.next hb2).next hx, HD2.out, (HR0.out.next hb2).next hx, bt (bt HK0.out hb2) hx, by omega, by simp [World.setRow], hDl, hD1, fun h0 => ?_⟩
   obtain ⟨A1, c1, A2, c2, e1, e2, e3, r1, r2⟩ := hDc (HOC.out.trans h0)
   rw [World.size_alloc] at r1 r2
   exact ⟨A1, c1, A2, c2, e1, e2, e3, r1.next hx, r2.next hx⟩
  have HF := Lib.hid hf
  clear hDl hD1 hDc hop HR0 HB0 HK0 hb2 hx hf
  go_wp2_with (refine wpList_store_row rfl 94 _ _ rfl w2.heap.size D.toArray rfl rfl _ _ HD0.out (by rw [infoDir, List.size_toArray, HDL.out]) (by rw [List.size_toArray, List.size_toArray, HDL.out]; rfl) (all_one HD1.out) ?_)
  go_meet
  exact ⟨w2.heap.size, D, rfl, rfl, HF.out⟩
 obtain ⟨gd, D, rfl, rfl, hx⟩ := hcut
 have HX := Lib.hid hx
 clear hop HR0 HB0 HK0
 by_cases h0 : oc = 0
 ·have ho0 : openC L = 0 := HOC.out.symm.trans h0
  obtain ⟨A1, c1, A2, c2, rfl, hc1, hc2, hr1, hr2⟩ := hx.dc ho0
  obtain ⟨hL18, hW1, hW2, hH1, hH2, hC1, hC2, hdir⟩ := open_zero ho0
  have hgc : gc = tilesC L (cnt L) := by rw [HGC.out]; unfold getC; rw [if_neg (fun h => h ho0)]
  have HGT := Lib.hid hgc
  have hends := dir_end hdir
  have HENDS := Lib.hid hends
  subst h0
  have hsz := hx.sz
  have hpl := fun w => places_any (hW L) (hH L) hW2 hH2 w
  have hcnt : cntT (hW L) * cntT (hH L) = cnt L := rfl
  rw [hcnt] at hpl
  have hNN : cnt L ≤ 256 := Nat.mul_le_mul (cntT_le hW2) (cntT_le hH2)
  have htile := fun (wz : World) (hz : RdL wz lo hi A (L.map bv)) (i : Nat) (hi' : i < cnt L) (q1 : RdL wz (w.heap.size + 1) gd A1 (iv (froms L (cnt L)))) (q2 : RdL wz (w.heap.size + 1) gd A2 (iv (sizes L (cnt L)))) =>
   tile_any A A1 A2 L n cap c1 c2 i lo hi (w.heap.size + 1) gd (cnt L) wz hz HN.out hl hcap (by have := HN.out; omega) q1 q2 rfl hi' (by have := hends i hi'; have := HN.out; omega) hc1 hc2 hW1 hW2 hH1 hH2
  have HTILE := Lib.hid htile
  obtain ⟨i0, hi0⟩ : ∃ i, Tryz.prog.info? 62 = some i := by
   have := info16
   cases hh : Tryz.prog.info? 62 with
   | none => rw [hh] at this; cases this
   | some i => exact ⟨i, rfl⟩
  have hinf := info16
  rw [hi0] at hinf
  simp only [Option.map_some, Option.some.injEq, Prod.mk.injEq] at hinf
  have hNle : hW L * hH L ≤ 256 * 256 := Nat.mul_le_mul hW2 hH2
  obtain ⟨N, hNe⟩ : ∃ N, N = hW L * hH L := ⟨_, rfl⟩
  rw [← hNe] at hNle
  have hmk := fun w => mk_row2 (P := Tryz.prog) 22 62 i0 (.int .i16 0) Tryz.underlying22 hi0 hinf.1 rfl hinf.2.1 (by rw [hinf.2.2]; decide) N (by omega) w
  have hmul : IntKind.i64.wrap ((hW L : Int) * (hH L : Int)) = (N : Int) := by rw [← Int.natCast_mul, ← hNe]; exact IntWalk.i64_in _ (by omega)
  unfold dirV at HX
  obtain ⟨W, hWe⟩ : ∃ x, x = hW L := ⟨_, rfl⟩
  obtain ⟨H, hHe⟩ : ∃ x, x = hH L := ⟨_, rfl⟩
  obtain ⟨C, hCe⟩ : ∃ x, x = hC L := ⟨_, rfl⟩
  obtain ⟨ox, hox⟩ : ∃ x, x = hX L := ⟨_, rfl⟩
  obtain ⟨oy, hoy⟩ : ∃ x, x = hY L := ⟨_, rfl⟩
  obtain ⟨NN, hNNe⟩ : ∃ x, x = cnt L := ⟨_, rfl⟩
  rw [← hWe, ← hHe, ← hCe, ← hox, ← hoy, ← hNNe] at HX
  rw [← hWe, ← hHe] at hmul hNe hpl
  rw [← hNNe] at hpl hNN
  rw [← hWe] at hW1 hW2
  rw [← hHe] at hH1 hH2
  have x0 := HX.out.dir.cell 0
  have x1 := HX.out.dir.cell 1
  have x2 := HX.out.dir.cell 2
  have x3 := HX.out.dir.cell 3
  have x4 := HX.out.dir.cell 4
  have x5 := HX.out.dir.cell 5
  have HWE := Lib.hid hWe
  have HHE := Lib.hid hHe
  have HCE := Lib.hid hCe
  have HOX := Lib.hid hox
  have HOY := Lib.hid hoy
  have HNNE := Lib.hid hNNe
  have HNE := Lib.hid hNe
  clear hWe hHe hCe hox hoy hNNe hNe
  have HR1 := Lib.hid hr1
  have HR2 := Lib.hid hr2
  have HC1 := Lib.hid hc1
  have HC2 := Lib.hid hc2
  clear hx ho0 hgc hends htile hdir hcnt hr1 hr2 hinf hi0 hc1 hc2
  have hG4 : GX w gd N [.int .i64 (W : Int), .int .i64 (H : Int), .slice none 0 0, .int .i64 (C : Int), .int .i32 ox, .int .i32 oy, .slice A1 NN c1, .slice A2 NN c2] [.int .i64 (W : Int), .int .i64 (H : Int), .slice (some ⟨gd + 1 + 1, 0, none⟩) N N, .int .i64 (C : Int), .int .i32 ox, .int .i32 oy] A A1 A2 none L lo hi (w.heap.size + 1) [] 0
    ((wc.alloc (.cells #[.int .i64 (W : Int), .int .i64 (H : Int), .slice (some ⟨gd + 1 + 1, 0, none⟩) N N, .int .i64 (C : Int), .int .i32 ox, .int .i32 oy] 44)).alloc (.cells (Array.replicate N (.int .i16 0)) 62)) := by
   have hb1 := Blk.mk wc 44 [.int .i64 (W : Int), .int .i64 (H : Int), .slice (some ⟨gd + 1 + 1, 0, none⟩) N N, .int .i64 (C : Int), .int .i32 ox, .int .i32 oy]
   have hb2 := Blk.mk (wc.alloc (.cells #[.int .i64 (W : Int), .int .i64 (H : Int), .slice (some ⟨gd + 1 + 1, 0, none⟩) N N, .int .i64 (C : Int), .int .i32 ox, .int .i32 oy] 44)) 62 (List.replicate N (.int .i16 0))
   rw [World.size_alloc, hsz, List.toArray_replicate] at hb2
   rw [hsz] at hb1
   exact ⟨(HX.out.res.alloc _).alloc _, (HX.out.dir.alloc _).alloc _, hb1.alloc _, ⟨_, List.length_replicate, hb2⟩, (HX.out.rd.alloc _).alloc _, (HR1.out.alloc _).alloc _, (HR2.out.alloc _).alloc _, .inl rfl, bt (bt HX.out.keep (bl _ _)) (bl _ _), HX.out.g1, hhi⟩
  have HG4 := Lib.hid hG4
  have hsz4 : Hid (((wc.alloc (.cells #[.int .i64 (W : Int), .int .i64 (H : Int), .slice (some ⟨gd + 1 + 1, 0, none⟩) N N, .int .i64 (C : Int), .int .i32 ox, .int .i32 oy] 44)).alloc (.cells (Array.replicate N (.int .i16 0)) 62)).heap.size = gd + 3) := Lib.hid (by simp [hsz])
  clear hG4
  go_wp2_with fail
  generalize (wc.alloc _).alloc _ = w4 at *
  clear x0 x1 x2 x3 x4 x5 HX HR1 HR2 hsz hmk hmul
  have y0 := HG4.out.ch.cell 0
  have y1 := HG4.out.ch.cell 1
  go_step3
  go_wp2_with fail
  refine (hpl _).mono ?_
  rintro e w5 ⟨vp, rfl, hP⟩
  obtain ⟨Ap, cp, rfl, hrp, _, _, _⟩ := own_rd hP.own
  have hG5 := HG4.out.next hP.keep
  have hps := hsz4.out
  have HG5 : Hid (GX w gd N _ _ A A1 A2 Ap L lo hi (w.heap.size + 1) (plL (cntT W) NN) w5.heap.size w5) := Lib.hid ⟨hG5.res, hG5.dir, hG5.ch, hG5.z, hG5.rd, hG5.r1, hG5.r2, by rw [← hps]; exact hrp, hG5.keep, hG5.g1, hG5.ghi⟩
  have hp5 : w5.heap.size ≤ w5.heap.size := Nat.le_refl _
  generalize w5.heap.size = hp at HG5
  clear hG5 hrp hP HG4 y0 y1 hps hsz4 hpl hp5
  go_wp2_with fail
  go_loopw [5, 40] (fun c u wr => ∃ i : Nat, i ≤ NN ∧ c = .int .i64 0 ∧ u = .int .i64 (i : Int) ∧ tilesC L i = 0 ∧ GX w gd N [.int .i64 (W : Int), .int .i64 (H : Int), .slice none 0 0, .int .i64 (C : Int), .int .i32 ox, .int .i32 oy, .slice A1 NN c1, .slice A2 NN c2] [.int .i64 (W : Int), .int .i64 (H : Int), .slice (some ⟨gd + 1 + 1, 0, none⟩) N N, .int .i64 (C : Int), .int .i32 ox, .int .i32 oy] A A1 A2 Ap L lo hi (w.heap.size + 1) (plL (cntT W) NN) hp wr) (fun _ u _ => NN - (intOf u).toNat)
  case atStart => exact ⟨0, Nat.zero_le _, rfl, rfl, rfl, HG5.out⟩
  case round =>
   clear HG5
   obtain ⟨i, hi', rfl, rfl, hti, hg⟩ := hrel
   have HG := Lib.hid hg
   have HTI := Lib.hid hti
   by_cases hlt : i < NN
   ·have d0 : decide ((i : Int) < (NN : Int)) = true := decide_eq_true (by omega)
    have d0' : decide (i < NN) = true := decide_eq_true hlt
    have hltI : (i : Int) < (NN : Int) := by omega
    have h0i : (0 : Int) ≤ (i : Int) := by omega
    obtain ⟨bp, op, rfl, _, _, _, hcp⟩ := hg.pls.some (by rw [plL_len]; omega)
    obtain ⟨q0', q1'⟩ := plL_get (cw := cntT W) hlt
    have hXl : i % cntT W < cntT W := Nat.mod_lt _ (by unfold cntT; omega)
    have hNNm : NN = cntT W * cntT H := by rw [HNNE.out, HWE.out, HHE.out]; rfl
    have hYl : i / cntT W < cntT H := Nat.div_lt_of_lt_mul (by omega)
    have q0 := hcp _ _ q0'
    have q1 := hcp _ _ q1'
    rw [← Nat.add_assoc] at q1
    have htl := HTILE.out (wr.alloc (.cells #[.int .i64 ((i % cntT W : Nat) : Int), .int .i64 ((i / cntT W : Nat) : Int)] 77)) (hg.rd.alloc _) i (by rw [← HNNE.out]; exact hlt) (hg.r1.alloc _) (hg.r2.alloc _)
    unfold dirV at htl
    rw [← HWE.out, ← HHE.out, ← HCE.out, ← HOX.out, ← HOY.out, ← HNNE.out] at htl
    have hok : tlW L i * tlH L i = minN16 (W - 16 * (i % cntT W)) * minN16 (H - 16 * (i / cntT W)) := by unfold tlW tlH; rw [← HWE.out, ← HHE.out]
    have HOKE := Lib.hid hok
    have HA := Lib.hid (hg.next (bl wr (.cells #[.int .i64 ((i % cntT W : Nat) : Int), .int .i64 ((i / cntT W : Nat) : Int)] 77)))
    have HPB := Lib.hid (Blk.mk wr 77 [.int .i64 ((i % cntT W : Nat) : Int), .int .i64 ((i / cntT W : Nat) : Int)])
    have hwrl : Hid (gd + 2 < wr.heap.size) := Lib.hid (by obtain ⟨_, _, hb⟩ := hg.z; exact hb.lt)
    obtain ⟨tc, htc⟩ : ∃ x, x = tileC L i := ⟨_, rfl⟩
    unfold GotTl at htl
    rw [← htc] at htl
    have HTC := Lib.hid htc
    have HX' := Lib.hid hXl
    have HY' := Lib.hid hYl
    generalize hXe : i % cntT W = X at *
    generalize hYe : i / cntT W = Y at *
    have x0 := HA.out.dir.cell 0
    have x1 := HA.out.dir.cell 1
    have x2 := HA.out.dir.cell 2
    have x3 := HA.out.dir.cell 3
    have x4 := HA.out.dir.cell 4
    have x5 := HA.out.dir.cell 5
    have x6 := HA.out.dir.cell 6
    have x7 := HA.out.dir.cell 7
    clear hg hti q0' q1' hcp hok htc hNNm hXl hYl hXe hYe
    go_wp2_with fail
    refine htl.mono ?_
    rintro e w6 ⟨⟨A6, m, c6, Z, rfl, hZ, hm6, hok6, hr6⟩, hb6⟩
    have HT := Lib.hid (HA.out.next hb6)
    have HPB2 := Lib.hid (HPB.out.next hb6)
    have HZ := Lib.hid hZ
    have HM6 := Lib.hid hm6
    have HOK6 := Lib.hid hok6
    have HR6 := Lib.hid hr6
    have hwl6 : Hid (gd + 2 < (wr.alloc (.cells #[.int .i64 (X : Int), .int .i64 (Y : Int)] 77)).heap.size) := Lib.hid (by have := hwrl.out; simp; omega)
    clear htl hb6 hZ hm6 hok6 hr6 x0 x1 x2 x3 x4 x5 x6 x7 q0 q1 HA HPB
    by_cases ht0 : tc = 0
    ·subst ht0
     have hti2 : tilesC L (i + 1) = 0 := by rw [tilesC, HTI.out, if_neg (by decide)]; exact HTC.out.symm
     have HTI2 := Lib.hid hti2
     obtain ⟨cs, hcs, hcz⟩ := HT.out.z
     have hly := lay_any (gd + 1 + 1) N W H X Y m c6 _ _ A6 Z cs w6 hcz hcs HNE.out.symm HR6.out (by have := hwl6.out; omega) (Nat.le_refl _) HZ.out (by rw [HOK6.out rfl, HOKE.out]) HM6.out hW1 hW2 hH1 hH2 HX'.out HY'.out
     have z0 := HT.out.ch.cell 0
     have z1 := HT.out.ch.cell 1
     have z2 := HT.out.ch.cell 2
     have p0 := HPB2.out.cell 0
     have p1 := HPB2.out.cell 1
     clear hti2 hcs hcz
     go_wp2_with fail
     refine hly.mono ?_
     rintro e w7 ⟨⟨bb, rfl⟩, hz7, hg7⟩
     have HG7 := Lib.hid (HT.out.lay hz7 hg7)
     clear hly hz7 hg7 z0 z1 z2 p0 p1
     go_wp2_with fail
     exact ⟨⟨i + 1, by omega, rfl, by go_num, HTI2.out, HG7.out⟩, by simp [intOf]; omega⟩
    ·have t0 : (tc != 0) = true := bne_iff_ne.2 ht0
     have hgt : gc = tc := by
      have h1 : tilesC L (i + 1) = tc := by rw [tilesC, HTI.out, if_neg (by decide)]; exact HTC.out.symm
      have := tiles_stay (L := L) (i := i + 1) (by rw [h1]; exact ht0) (NN - (i + 1))
      rw [show i + 1 + (NN - (i + 1)) = NN by omega, h1] at this
      rw [HGT.out, ← HNNE.out, this]
     have HGT2 := Lib.hid hgt
     clear ht0 hgt
     go_wp2_with (refine wpList_store_row rfl 44 _ _ rfl w.heap.size zeroC.toArray rfl rfl _ _ HT.out.res (by kernel_rfl) rfl (all_one zeroC_one) ?_)
     rw [Exit.noGoto_ret]
     refine bodyPost_ret (results_cell_tmp_row rfl _ _ w.heap.size 44 _ (0, 0) _ rfl (HT.out.res.row zeroC) Tryz.underlying44 rfl (by kernel_rfl)) rfl ?_
     exact ⟨⟨zeroC, (by rw [← HGC.out, HGT2.out]; rfl), rfl, zeroC_one⟩, Below.row HT.out.keep (Nat.le_refl _) _⟩
   ·obtain rfl : i = NN := by omega
    have e0 : decide ((i : Int) < (i : Int)) = false := decide_eq_false (by omega)
    have e0' : decide (i < i) = false := decide_eq_false hlt
    clear hg hti
    have z0 := HG.out.ch.cell 0
    have z1 := HG.out.ch.cell 1
    have z2 := HG.out.ch.cell 2
    have z3 := HG.out.ch.cell 3
    have z4 := HG.out.ch.cell 4
    have z5 := HG.out.ch.cell 5
    have hg0 : gc = 0 := by rw [HGT.out, ← HNNE.out]; exact HTI.out
    have HG0 := Lib.hid hg0
    have hone : ∀ u ∈ ([.int .i64 (W : Int), .int .i64 (H : Int), .slice (some ⟨gd + 1 + 1, 0, none⟩) N N, .int .i64 (C : Int), .int .i32 ox, .int .i32 oy] : List Value), u.oneCell' = true := by
     intro u hu
     simp only [List.mem_cons, List.not_mem_nil, or_false] at hu
     rcases hu with rfl | rfl | rfl | rfl | rfl | rfl <;> rfl
    have HONE := Lib.hid hone
    clear hg0 hone
    go_wp2_with (refine wpList_store_row rfl 44 _ _ rfl w.heap.size ([.int .i64 (W : Int), .int .i64 (H : Int), .slice (some ⟨gd + 1 + 1, 0, none⟩) N N, .int .i64 (C : Int), .int .i32 ox, .int .i32 oy] : List Value).toArray rfl rfl _ _ HG.out.res (by kernel_rfl) rfl (all_one HONE.out) ?_)
    rw [Exit.noGoto_ret]
    refine bodyPost_ret (results_cell_tmp_row rfl _ _ w.heap.size 44 _ (0, 0) _ rfl (HG.out.res.row _) Tryz.underlying44 rfl (by kernel_rfl)) rfl ?_
    exact ⟨⟨_, (by rw [← HGC.out, HG0.out]; rfl), rfl, HONE.out⟩, Below.row HG.out.keep (Nat.le_refl _) _⟩
 ·have d0 : (oc != 0) = true := bne_iff_ne.2 h0
  have hgc : gc = oc := by rw [HGC.out]; unfold getC; rw [← HOC.out, if_pos h0]
  have HGO := Lib.hid hgc
  clear h0 hx hgc
  go_wp2_with (refine wpList_store_row rfl 44 _ _ rfl w.heap.size zeroC.toArray rfl rfl _ _ HX.out.res (by kernel_rfl) rfl (all_one zeroC_one) ?_)
  rw [Exit.noGoto_ret]
  refine bodyPost_ret (results_cell_tmp_row rfl _ _ w.heap.size 44 _ (0, 0) _ rfl (HX.out.res.row zeroC) Tryz.underlying44 rfl (by kernel_rfl)) rfl ?_
  exact ⟨⟨zeroC, (by rw [← HGC.out, HGO.out]; rfl), rfl, zeroC_one⟩, Below.row HX.out.keep (Nat.le_refl _) _⟩
end Cht
end
end Go.Proofs.YtekjehbkmlodmaaGreat
