/-
  The walk of what the laws of package route show by example.
-/
import Derived.Test.YtgncngpgodfijaaRouF
import Derived.Test.YtgncngpgodfijaaRouL
namespace Go.Proofs.Ytgncngpgodfijaa
open Go.RowKit
set_option linter.unusedVariables false
namespace Rou
theorem zs_map (P : List Nat) : (zs P).map iv = P.map ni := by
  unfold zs
  rw [List.map_map]
  rfl
theorem got_no {w w' : World} {W H s t : Int} {C : List Int} {e : Ending} (h : GotF w W H C s t e w') (hc : fcode W H C s t ≠ 0) : e = .returned (.tuple #[.slice none 0 0, .int .i64 0, .int .i64 (fcode W H C s t)]) ∧ Below w.heap.size w w' := by
  obtain ⟨v, d, c, rfl, hb, ⟨_, rfl, rfl, rfl⟩ | ⟨h0, _⟩⟩ := h
  · exact ⟨rfl, hb⟩
  · exact absurd h0 hc
/-- what Find hands back where there is a way -/
def GotY (w : World) (W H : Nat) (C : List Int) (s t : Nat) (d : Int) (e : Ending) (w' : World) : Prop :=
  ∃ v P, e = .returned (.tuple #[v, .int .i64 d, .int .i64 0]) ∧ isWay W H C P ∧ P.head? = some s ∧ P.getLast? = some t ∧ costN C P = d ∧ P.length ≤ W * H ∧ w'.ownsRow w.heap.size 3 1 v P.length (P.map ni) ∧ Below w.heap.size w w'
/-- the two ways in which Find ends, of squares that there are -/
theorem got_yes {w w' : World} {W H s t : Nat} {C : List Int} {e : Ending} (h : GotF w (W : Int) (H : Int) C (s : Int) (t : Int) e w') (Hk : Ok W H C) (hs : s < W * H) (ht : t < W * H) {D K : List Int} {r : Nat → Nat} (S : Sol W H C s D K r) :
    (dd D t = -1 ∧ e = .returned (.tuple #[.slice none 0 0, .int .i64 0, .int .i64 7]) ∧ Below w.heap.size w w') ∨ (0 ≤ dd D t ∧ GotY w W H C s t (dd D t) e w') := by
  have hf : fcode (W : Int) (H : Int) C (s : Int) (t : Int) = 0 := by
    unfold fcode
    rw [ok_code Hk, if_neg (by decide), if_neg (by have := Hk.len; omega)]
  obtain ⟨v, d, c, rfl, hb, ⟨h0, _⟩ | ⟨_, D', K', r', S', hh⟩⟩ := h
  · exact absurd hf h0
  · have S' : Sol W H C s D' K' r' := S'
    obtain rfl := S'.same S
    rcases hh with ⟨h1, rfl, rfl, rfl⟩ | ⟨h1, h2, rfl, P, b, hB, hbb, hO⟩
    · exact .inl ⟨h1, rfl, hb⟩
    · have h2 : dd D' t = d := h2
      have hB : Back W H C s D' K' r' t P (-1) := hB
      obtain ⟨b1, b2, b3, b4, b5⟩ := back_end hB
      have hr := S'.rk t ht (by omega)
      exact .inr ⟨by omega, v, P.reverse, by rw [h2], b1, b2, b3, b4, by rw [List.length_reverse]; omega, own_down (by rw [List.length_reverse]; exact hO) hbb, hb⟩
theorem ex_find1 {w w' : World} {e : Ending} (h : GotF w 3 3 C1 0 2 e w') : ∃ P, P.length = 7 ∧ isWay 3 3 C1 P ∧ P.head? = some 0 ∧ P.getLast? = some 2 ∧ costN C1 P = 6 ∧ ∃ v, e = .returned (.tuple #[v, .int .i64 6, .int .i64 0]) ∧ w'.ownsRow w.heap.size 3 1 v 7 (P.map ni) ∧ Below w.heap.size w w' := by
  rcases got_yes (W := 3) (H := 3) (s := 0) (t := 2) h ok1 (by decide) (by decide) sol1 with ⟨h1, _⟩ | ⟨_, v, P, he, h1, h2, h3, h4, _, h6, h7⟩
  · exact absurd h1 (by decide)
  · have e6 : dd D1 2 = 6 := by decide
    rw [e6] at he h4
    have hl := ex_len P h1 (by rw [h4]; decide)
    have hl7 : P.length = 7 := by omega
    exact ⟨P, hl7, h1, h2, h3, h4, v, he, by rw [hl7] at h6; exact h6, h7⟩
theorem ok2 : Ok 2 1 [0, -1] := ⟨by decide, by decide, by decide, by decide, by decide, by decide⟩
theorem ex_find2 {w w' : World} {e : Ending} (h : GotF w 2 1 [0, -1] 0 1 e w') : e = .returned (.tuple #[.slice none 0 0, .int .i64 0, .int .i64 7]) ∧ Below w.heap.size w w' := by
  obtain ⟨v, d, c, rfl, hb, ⟨h0, _⟩ | ⟨_, D, K, r, S, hh⟩⟩ := h
  · exact absurd (by decide) h0
  · have S : Sol 2 1 [0, -1] 0 D K r := S
    rcases hh with ⟨h1, rfl, rfl, rfl⟩ | ⟨h1, h2, _⟩
    · exact ⟨rfl, hb⟩
    · have h2 : dd D 1 = d := h2
      have := (S.tree 1 (by decide) (by omega)).1
      exact absurd this (by decide)
theorem ex_reach {w w' : World} {e : Ending} (h : GotR w 3 3 C1 0 e w') : ∃ v, e = .returned (.tuple #[v, .int .i64 0]) ∧ w'.ownsRow w.heap.size 2 1 v 9 (D1.map iv) ∧ Below w.heap.size w w' := by
  obtain ⟨v, rfl, hb, _, h0⟩ := h
  obtain ⟨D, K, r, b, hb', hO, S⟩ := h0 (by decide)
  have S : Sol 3 3 C1 0 D K r := S
  obtain rfl := S.same sol1
  exact ⟨v, rfl, own_down hO hb', hb⟩
theorem RdL_top {w : World} {lo hi : Nat} {A : Option Addr} {l : List Value} (h : RdL w lo hi A l) : RdL w 0 w.heap.size A l := by
  rcases h with h | ⟨b, off, e, h1, h2, h3, hc⟩
  · exact .inl h
  · exact .inr ⟨b, off, e, Nat.zero_le _, h3, h3, hc⟩
theorem ex_cost2 : costV 3 3 C1 [0, 4] = -1 := by decide +kernel
theorem ex_cost3 : costV 3 3 C1 [4] = 0 := by decide +kernel
theorem ex_cost1 {P : List Nat} (h1 : isWay 3 3 C1 P) (h2 : costN C1 P = 6) : costV 3 3 C1 (zs P) = 6 := (costV_way (w := 3) (h := 3) ok1 h1).trans h2
theorem ex_code2 : code 2 1 [0, -1] = 0 := by decide
/-- the two fields of the example -/
structure EX (w wr : World) : Prop where
  f : RdL wr w.heap.size (w.heap.size + 1) (some ⟨w.heap.size, 0, none⟩) (C1.map iv)
  bf : Blk wr (w.heap.size + 1) 82 [.int .i64 3, .int .i64 3, .slice (some ⟨w.heap.size, 0, none⟩) 9 9]
  g : RdL wr (w.heap.size + 1 + 1) (w.heap.size + 1 + 1 + 1) (some ⟨w.heap.size + 1 + 1, 0, none⟩) ([(0 : Int), -1].map iv)
  bg : Blk wr (w.heap.size + 1 + 1 + 1) 82 [.int .i64 2, .int .i64 1, .slice (some ⟨w.heap.size + 1 + 1, 0, none⟩) 2 2]
  keep : Below w.heap.size w wr
theorem EX.next {w wr w' : World} (S : EX w wr) (hb : Below wr.heap.size wr w') : EX w w' := ⟨S.f.next hb, S.bf.next hb, S.g.next hb, S.bg.next hb, bt S.keep hb⟩
theorem EX.cells {w wr : World} (S : EX w wr) : (wr.cell? ⟨w.heap.size + 1, 0, none⟩ = some (.int .i64 3) ∧ wr.cell? ⟨w.heap.size + 1, 1, none⟩ = some (.int .i64 3) ∧ wr.cell? ⟨w.heap.size + 1, 2, none⟩ = some (.slice (some ⟨w.heap.size, 0, none⟩) 9 9)) ∧
    (wr.cell? ⟨w.heap.size + 1 + 1 + 1, 0, none⟩ = some (.int .i64 2) ∧ wr.cell? ⟨w.heap.size + 1 + 1 + 1, 1, none⟩ = some (.int .i64 1) ∧ wr.cell? ⟨w.heap.size + 1 + 1 + 1, 2, none⟩ = some (.slice (some ⟨w.heap.size + 1 + 1, 0, none⟩) 2 2)) :=
  ⟨⟨S.bf.cell 0, S.bf.cell 1, S.bf.cell 2⟩, S.bg.cell 0, S.bg.cell 1, S.bg.cell 2⟩
theorem ex_start (w : World) : EX w ((((w.alloc (.cells (C1.map iv).toArray 2)).alloc (.cells #[.int .i64 3, .int .i64 3, .slice (some ⟨w.heap.size, 0, none⟩) 9 9] 82)).alloc (.cells ([(0 : Int), -1].map iv).toArray 2)).alloc (.cells #[.int .i64 2, .int .i64 1, .slice (some ⟨w.heap.size + 1 + 1, 0, none⟩) 2 2] 82)) := by
  have b1 := bl w (.cells (C1.map iv).toArray 2)
  obtain ⟨wa, hwa⟩ : ∃ wa, wa = w.alloc (.cells (C1.map iv).toArray 2) := ⟨_, rfl⟩
  have r1 : RdL wa w.heap.size (w.heap.size + 1) (some ⟨w.heap.size, 0, none⟩) (C1.map iv) := by rw [hwa]; exact new_rd _ _ _
  have s1 : wa.heap.size = w.heap.size + 1 := by rw [hwa]; simp
  rw [← hwa] at b1 ⊢
  have k2 := Blk.mk wa 82 [.int .i64 3, .int .i64 3, .slice (some ⟨w.heap.size, 0, none⟩) 9 9]
  have b2 := bl wa (.cells #[.int .i64 3, .int .i64 3, .slice (some ⟨w.heap.size, 0, none⟩) 9 9] 82)
  obtain ⟨wb, hwb⟩ : ∃ wb, wb = wa.alloc (.cells #[.int .i64 3, .int .i64 3, .slice (some ⟨w.heap.size, 0, none⟩) 9 9] 82) := ⟨_, rfl⟩
  have s2 : wb.heap.size = w.heap.size + 1 + 1 := by rw [hwb]; simp [s1]
  rw [← hwb] at b2 ⊢
  have k2' : Blk wb (w.heap.size + 1) 82 [.int .i64 3, .int .i64 3, .slice (some ⟨w.heap.size, 0, none⟩) 9 9] := by rw [hwb, ← s1]; exact k2
  have b3 := bl wb (.cells ([(0 : Int), -1].map iv).toArray 2)
  have r3 := new_rd wb 2 ([(0 : Int), -1].map iv)
  rw [s2] at r3
  obtain ⟨wc, hwc⟩ : ∃ wc, wc = wb.alloc (.cells ([(0 : Int), -1].map iv).toArray 2) := ⟨_, rfl⟩
  rw [← hwc] at b3 r3 ⊢
  have s3 : wc.heap.size = w.heap.size + 1 + 1 + 1 := by rw [hwc]; simp [s2]
  have k4 := Blk.mk wc 82 [.int .i64 2, .int .i64 1, .slice (some ⟨w.heap.size + 1 + 1, 0, none⟩) 2 2]
  rw [s3] at k4
  have b4 := bl wc (.cells #[.int .i64 2, .int .i64 1, .slice (some ⟨w.heap.size + 1 + 1, 0, none⟩) 2 2] 82)
  exact ⟨((r1.next b2).next b3).next b4, (k2'.next b3).next b4, r3.next b4, k4, bt (bt (bt b1 b2) b3) b4⟩
set_option maxRecDepth 100000 in
set_option maxHeartbeats 2000000 in
theorem works39_any (w : World) : Calls Try.prog 46 #[] w fun e w' => e = .returned (.bool true) ∧ Below w.heap.size w w' := by
  have HS := Lib.hid (ex_start w)
  have h1 : ∀ X, EX w X → Calls Try.prog 53 #[.agg #[.int .i64 3, .int .i64 3, .slice (some ⟨w.heap.size, 0, none⟩) 9 9], .int .i64 0, .int .i64 2] X (GotF X 3 3 C1 0 2) := fun X S => find_any (cap := 9) 3 3 0 2 S.f (by have := S.bf.lt; omega)
  have h2 : ∀ X, EX w X → Calls Try.prog 53 #[.agg #[.int .i64 2, .int .i64 1, .slice (some ⟨w.heap.size + 1 + 1, 0, none⟩) 2 2], .int .i64 0, .int .i64 1] X (GotF X 2 1 [0, -1] 0 1) := fun X S => find_any (cap := 2) 2 1 0 1 S.g (by have := S.bg.lt; omega)
  have h3 : ∀ X, EX w X → Calls Try.prog 53 #[.agg #[.int .i64 3, .int .i64 3, .slice (some ⟨w.heap.size, 0, none⟩) 9 9], .int .i64 0, .int .i64 9] X (GotF X 3 3 C1 0 9) := fun X S => find_any (cap := 9) 3 3 0 9 S.f (by have := S.bf.lt; omega)
  have h4 : ∀ X, Calls Try.prog 53 #[.agg #[.int .i64 1, .int .i64 1, .slice none 0 0], .int .i64 0, .int .i64 0] X (GotF X 1 1 [] 0 0) := fun X => find_any (w := X) (lo := 0) (hi := 0) (cap := 0) 1 1 0 0 (A := none) (C := []) (.inl rfl) (Nat.zero_le _)
  have h5 : ∀ X, EX w X → Calls Try.prog 52 #[.agg #[.int .i64 3, .int .i64 3, .slice (some ⟨w.heap.size, 0, none⟩) 9 9], .int .i64 0] X (GotR X 3 3 C1 0) := fun X S => reach_any (cap := 9) 3 3 0 S.f (by have := S.bf.lt; omega)
  have h6 : ∀ X, EX w X → Calls Try.prog 47 #[.agg #[.int .i64 2, .int .i64 1, .slice (some ⟨w.heap.size + 1 + 1, 0, none⟩) 2 2]] X fun e w' => e = .returned (.int .i64 0) ∧ Below X.heap.size X w' := fun X S => by
    have := ocheck_any (cap := 2) 2 1 S.g
    rw [ex_code2] at this
    exact this
  unfold C1 iv at HS
  simp only [List.map_cons, List.map_nil] at HS
  go_enter Try.func46, Try.ntmps46
  go_wp2_with fail
  refine (h1 _ HS.out).mono ?_
  rintro e w1 hg
  obtain ⟨P, hp7, hw, hh, hl, hc, v, rfl, hO, hb⟩ := ex_find1 hg
  have HS1 := Lib.hid (HS.out.next hb)
  obtain ⟨A1, c1, rfl, hr1, _, _, _⟩ := own_rd hO
  have HR1 := Lib.hid hr1
  have HW := Lib.hid hw
  have HC := Lib.hid hc
  have HH := Lib.hid hh
  have HL := Lib.hid hl
  have HP7 := Lib.hid hp7
  obtain ⟨⟨p0, p1, p2⟩, p3, p4, p5⟩ := HS1.out.cells
  clear hg hp7 hw hh hl hc hO hb hr1 HS h1
  go_wp2_with fail
  refine (h2 _ HS1.out).mono ?_
  rintro e w2 hg
  obtain ⟨rfl, hb⟩ := ex_find2 hg
  have HS2 := Lib.hid (HS1.out.next hb)
  have HR2 := Lib.hid (HR1.out.next hb)
  clear p0 p1 p2 p3 p4 p5
  obtain ⟨⟨p0, p1, p2⟩, p3, p4, p5⟩ := HS2.out.cells
  clear hg hb HS1 HR1 h2
  go_wp2_with fail
  refine (h3 _ HS2.out).mono ?_
  rintro e w3 hg
  obtain ⟨rfl, hb⟩ := got_no hg (by decide)
  have HS3 := Lib.hid (HS2.out.next hb)
  have HR3 := Lib.hid (HR2.out.next hb)
  clear p0 p1 p2 p3 p4 p5
  obtain ⟨⟨p0, p1, p2⟩, p3, p4, p5⟩ := HS3.out.cells
  clear hg hb HS2 HR2 h3
  rw [show fcode 3 3 C1 0 9 = 9 by decide]
  go_wp2_with fail
  refine (h4 _).mono ?_
  rintro e w4 hg
  obtain ⟨rfl, hb⟩ := got_no hg (by decide)
  have HS4 := Lib.hid (HS3.out.next hb)
  have HR4 := Lib.hid (HR3.out.next hb)
  clear p0 p1 p2 p3 p4 p5
  obtain ⟨⟨p0, p1, p2⟩, p3, p4, p5⟩ := HS4.out.cells
  clear hg hb HS3 HR3 h4
  rw [show fcode 1 1 [] 0 0 = 5 by decide]
  go_wp2_with fail
  refine (h5 _ HS4.out).mono ?_
  rintro e w5 hg
  obtain ⟨vr, rfl, hO, hb⟩ := ex_reach hg
  have HS5 := Lib.hid (HS4.out.next hb)
  have HR5 := Lib.hid (HR4.out.next hb)
  obtain ⟨A2, c2, rfl, hr2, _, _, _⟩ := own_rd hO
  have HQ5 := Lib.hid hr2
  clear p0 p1 p2 p3 p4 p5
  obtain ⟨⟨p0, p1, p2⟩, p3, p4, p5⟩ := HS5.out.cells
  obtain ⟨bw, ow, rfl, _, _, _, hcw⟩ := HR5.out.some (by rw [List.length_map, HP7.out]; decide)
  obtain ⟨br, orr, rfl, _, _, _, hcr⟩ := HQ5.out.some (by decide)
  have x0 : w5.cell? ⟨bw, ow, none⟩ = some (.int .i64 0) := by
    refine hcw 0 _ ?_
    rw [List.getElem?_map, ← List.head?_eq_getElem?, HH.out]
    rfl
  have x6 : w5.cell? ⟨bw, ow + 6, none⟩ = some (.int .i64 2) := by
    refine hcw 6 _ ?_
    have := HL.out
    rw [List.getLast?_eq_getElem?, HP7.out] at this
    rw [List.getElem?_map, this]
    rfl
  have y4 : w5.cell? ⟨br, orr + 4, none⟩ = some (.int .i64 10) := hcr 4 _ rfl
  have y2 : w5.cell? ⟨br, orr + 2, none⟩ = some (.int .i64 6) := hcr 2 _ rfl
  have HWD := Lib.hid (show RdL w5 0 w5.heap.size (some ⟨bw, ow, none⟩) ((zs P).map iv) by rw [zs_map]; exact RdL_top HR5.out)
  have hc1 := ocost_any (cap := 9) (cl := c1) 3 3 (RdL_top HS5.out.f) HWD.out (by rw [zs_len, HP7.out]; decide)
  rw [zs_len, HP7.out, ex_cost1 HW.out HC.out] at hc1
  clear hg hb HS4 HR4 h5 hO hr2 hcw hcr
  go_wp2_with fail
  refine hc1.mono ?_
  rintro e w6 ⟨rfl, hb⟩
  have HS6 := Lib.hid (HS5.out.next hb)
  clear p0 p1 p2 p3 p4 p5 x0 x6 y4 y2 hc1 HR5 HQ5 HWD
  obtain ⟨⟨p0, p1, p2⟩, p3, p4, p5⟩ := HS6.out.cells
  have S7 := HS6.out.next (bl w6 (.cells #[.int .i64 0, .int .i64 4] 3))
  have N7 := new_rd w6 3 (([0, 4] : List Int).map iv)
  have hc2 := ocost_any (cap := 9) (cl := 2) 3 3 (RdL_top S7.f) (RdL_top N7) (by decide)
  rw [ex_cost2] at hc2
  have HC2 := Lib.hid hc2
  have HS7 := Lib.hid S7
  clear hb HS5 S7 N7 hc2
  go_wp2_with fail
  refine HC2.out.mono ?_
  rintro e w7 ⟨rfl, hb⟩
  have HS8 := Lib.hid (HS7.out.next hb)
  clear p0 p1 p2 p3 p4 p5 HC2
  obtain ⟨⟨p0, p1, p2⟩, p3, p4, p5⟩ := HS8.out.cells
  have S9 := HS8.out.next (bl w7 (.cells #[.int .i64 4] 3))
  have N9 := new_rd w7 3 (([4] : List Int).map iv)
  have hc3 := ocost_any (cap := 9) (cl := 1) 3 3 (RdL_top S9.f) (RdL_top N9) (by decide)
  rw [ex_cost3] at hc3
  have HC3 := Lib.hid hc3
  have HS9 := Lib.hid S9
  clear hb HS7 S9 N9 hc3
  go_wp2_with fail
  refine HC3.out.mono ?_
  rintro e w9 ⟨rfl, hb⟩
  have HSA := Lib.hid (HS9.out.next hb)
  clear p0 p1 p2 p3 p4 p5 HC3
  obtain ⟨⟨p0, p1, p2⟩, p3, p4, p5⟩ := HSA.out.cells
  clear hb HS9 HS8
  go_wp2_with fail
  refine (h6 _ HSA.out).mono ?_
  rintro e wb ⟨rfl, hb⟩
  have HSB := Lib.hid (HSA.out.next hb)
  clear hb HSA p0 p1 p2 p3 p4 p5 h6
  go_wp2_with fail
  go_ret
  exact ⟨rfl, HSB.out.keep⟩
end Rou
end Go.Proofs.Ytgncngpgodfijaa
