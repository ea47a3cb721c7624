/-
  What a way of any numbers costs (package route), plain; and the walks of both Costs.
-/
import Derived.Test.YtgncngpgodfijaaRouX
import Derived.BigQuiet
namespace Go.Proofs.Ytgncngpgodfijaa
open Go.RowKit
set_option linter.unusedVariables false
namespace Rou
/-- may the way's square i be there -/
def okAt (w h : Nat) (C L : List Int) (i : Nat) : Bool :=
  decide (0 ≤ cs L i) && decide ((cs L i).toNat < w * h) && decide (0 ≤ cs C (cs L i).toNat) && (decide (i = 0) || decide ((cs L i).toNat ∈ besideL w h (cs L (i - 1)).toNat))
def costZ (w h : Nat) (C L : List Int) : Int := if (List.range L.length).all (okAt w h C L) = true then costN C (L.map Int.toNat) else -1
/-- what Cost tells -/
def costV (W H : Int) (C L : List Int) : Int := if code W H C ≠ 0 ∨ L = [] then -1 else costZ W.toNat H.toNat C L
def sumTo (C L : List Int) (i : Nat) : Int := costN C ((L.take i).map Int.toNat)
section
variable {w h : Nat} {C L : List Int} {i : Nat}
theorem okAt_iff : okAt w h C L i = true ↔ 0 ≤ cs L i ∧ (cs L i).toNat < w * h ∧ 0 ≤ cs C (cs L i).toNat ∧ (i = 0 ∨ (cs L i).toNat ∈ besideL w h (cs L (i - 1)).toNat) := by
  unfold okAt
  simp only [Bool.and_eq_true, Bool.or_eq_true, decide_eq_true_eq, and_assoc]
theorem okAt_no (hn : ¬ (0 ≤ cs L i ∧ (cs L i).toNat < w * h ∧ 0 ≤ cs C (cs L i).toNat ∧ (i = 0 ∨ (cs L i).toNat ∈ besideL w h (cs L (i - 1)).toNat))) : okAt w h C L i = false := by
  rw [← Bool.not_eq_true, okAt_iff]
  exact hn
theorem okAt_next (ho : ∀ j, j < i → okAt w h C L j = true) (h1 : okAt w h C L i = true) : ∀ j, j < i + 1 → okAt w h C L j = true := fun j hj => by
  rcases Nat.lt_or_ge j i with h | h
  · exact ho j h
  · obtain rfl : j = i := by omega
    exact h1
theorem costZ_bad (hi : i < L.length) (h0 : okAt w h C L i = false) : costZ w h C L = -1 := by
  unfold costZ
  rw [if_neg]
  intro h1
  rw [List.all_eq_true] at h1
  have := h1 i (List.mem_range.2 hi)
  rw [h0] at this
  cases this
theorem costZ_all (ha : ∀ j, j < L.length → okAt w h C L j = true) : costZ w h C L = sumTo C L L.length := by
  unfold costZ sumTo
  rw [if_pos (List.all_eq_true.2 fun j hj => ha j (List.mem_range.1 hj)), List.take_length]
theorem costN_snoc : ∀ (l : List Nat), l ≠ [] → ∀ x, costN C (l ++ [x]) = costN C l + cs C x
  | [], h, x => absurd rfl h
  | [a], _, x => by simp [costN]
  | a :: b :: t, _, x => by
    have ih := costN_snoc (b :: t) (by simp) x
    simp only [List.cons_append, costN] at ih ⊢
    omega
theorem cs_getElem (hi : i < L.length) : L[i] = cs L i := by
  unfold cs
  rw [List.getD_eq_getElem?_getD, List.getElem?_eq_getElem hi]
  rfl
theorem sum_step (h0 : 0 < i) (hi : i < L.length) : sumTo C L (i + 1) = sumTo C L i + cs C (cs L i).toNat := by
  unfold sumTo
  rw [List.take_succ_eq_append_getElem hi, List.map_append, List.map_cons, List.map_nil, costN_snoc _ (by
    intro e
    have := congrArg List.length e
    rw [List.length_map, List.length_take, List.length_nil] at this
    omega), cs_getElem hi]
theorem sum_one (hi : 0 < L.length) : sumTo C L 1 = 0 := by
  unfold sumTo
  cases L with
  | nil => cases hi
  | cons a t => rfl
theorem sum_zero : sumTo C L 0 = 0 := rfl
end
/-- is it among the first ones -/
def nearB (a : Nat) (L : List Nat) (k : Nat) : Bool := decide (a ∈ L.take k)
theorem near_step {a k : Nat} {L : List Nat} (hk : k < L.length) : nearB a L (k + 1) = (nearB a L k || decide (L[k] = a)) := by
  unfold nearB
  rw [List.take_succ_eq_append_getElem hk, Bool.eq_iff_iff, Bool.or_eq_true, decide_eq_true_eq, decide_eq_true_eq, decide_eq_true_eq, List.mem_append, List.mem_singleton]
  exact or_congr Iff.rfl eq_comm
theorem near_all (a : Nat) (L : List Nat) : nearB a L L.length = decide (a ∈ L) := by unfold nearB; rw [List.take_length]
/-- the field's box, its costs, the way, and what has been made behind them -/
structure CB (w : World) (t : TypeId) (W H : Int) (A : Option Addr) (n cap lo hi : Nat) (C : List Int) (B : Option Addr) (L : List Int) (wr : World) : Prop where
  box : Blk wr w.heap.size t (fdc W H A n cap)
  rd : RdL wr lo hi A (C.map iv)
  rl : RdL wr lo hi B (L.map iv)
  keep : Below w.heap.size w wr
  sz : w.heap.size + 1 ≤ wr.heap.size
section
variable {w wr w' : World} {t : TypeId} {W H : Int} {n cap lo hi : Nat} {A B : Option Addr} {C L : List Int}
theorem CB.next (S : CB w t W H A n cap lo hi C B L wr) (hb : Below wr.heap.size wr w') : CB w t W H A n cap lo hi C B L w' := ⟨S.box.next hb, S.rd.next hb, S.rl.next hb, bt S.keep hb, Nat.le_trans S.sz hb.size⟩
theorem CB.drewN (S : CB w t W H A n cap lo hi C B L wr) (q : Nat) : CB w t W H A n cap lo hi C B L (wr.drewN q) := S.next (below_drewN (Below.refl _ _) q)
end
/-- a number is told, and all that was stays -/
def GotN (w : World) (x : Int) (e : Ending) (w' : World) : Prop := e = .returned (.int .i64 x) ∧ Below w.heap.size w w'
set_option maxRecDepth 100000 in
set_option maxHeartbeats 2000000 in
theorem ocost_any {w : World} {lo hi cap cl : Nat} (W H : Int) {A B : Option Addr} {C L : List Int} (R : RdL w lo hi A (C.map iv)) (RL : RdL w lo hi B (L.map iv)) (hL : L.length ≤ 1000000) :
    Calls Try.prog 50 #[.agg #[.int .i64 W, .int .i64 H, .slice A C.length cap], .slice B L.length cl] w (GotN w (costV W H C L)) := by
  have hB := Blk.mk w 82 (fdc W H A C.length cap)
  have hS : CB w 82 W H A C.length cap lo hi C B L (w.alloc (.cells (fdc W H A C.length cap).toArray 82)) := ⟨hB, R.alloc _, RL.alloc _, bl w _, by simp⟩
  have hchk := ocheck_any (cap := cap) W H hS.rd
  have q0 : (w.alloc (.cells (fdc W H A C.length cap).toArray 82)).cell? ⟨w.heap.size, 0, none⟩ = some (.int .i64 W) := hB.cell 0
  have q1 : (w.alloc (.cells (fdc W H A C.length cap).toArray 82)).cell? ⟨w.heap.size, 1, none⟩ = some (.int .i64 H) := hB.cell 1
  have q2 : (w.alloc (.cells (fdc W H A C.length cap).toArray 82)).cell? ⟨w.heap.size, 2, none⟩ = some (.slice A C.length cap) := hB.cell 2
  unfold fdc at q0 q1 q2 hS hchk
  obtain ⟨n, hn⟩ : ∃ n, n = C.length := ⟨_, rfl⟩
  obtain ⟨m, hm⟩ : ∃ m, m = L.length := ⟨_, rfl⟩
  rw [← hn] at q0 q1 q2 hS hchk ⊢
  rw [← hm] at hL ⊢
  have HN := Lib.hid hn
  have HM := Lib.hid hm
  have HS := Lib.hid hS
  clear hn hm hS hB R RL
  obtain ⟨c, hc⟩ : ∃ c, c = code W H C := ⟨_, rfl⟩
  rw [← hc] at hchk
  have HC := Lib.hid hc
  clear hc
  go_enter Try.func50, Try.ntmps50
  go_wp2_with fail
  refine hchk.mono ?_
  rintro e w1 ⟨rfl, hb1⟩
  have HS1 := Lib.hid (HS.out.next hb1)
  clear q0 q1 q2 HS hb1 hchk
  by_cases h0 : c = 0
  · subst h0
    have d0 : ((0 : Int) != (0 : Int)) = false := rfl
    obtain ⟨hok, eW, eH⟩ := code_ok HC.out.symm
    obtain ⟨W', hW'⟩ : ∃ W', W' = W.toNat := ⟨_, rfl⟩
    obtain ⟨H', hH'⟩ : ∃ H', H' = H.toNat := ⟨_, rfl⟩
    rw [← hW', ← hH'] at hok
    rw [← hW'] at eW
    rw [← hH'] at eH
    clear hW' hH'
    subst eW eH
    have HOK := Lib.hid hok
    clear hok
    by_cases hm0 : m = 0
    · subst hm0
      have HV : Hid (costV W' H' C L = -1) := Lib.hid (by unfold costV; rw [if_pos (.inr (List.eq_nil_of_length_eq_zero HM.out.symm))])
      go_wp2_with fail
      go_ret
      exact ⟨by rw [HV.out]; rfl, HS1.out.keep⟩
    · have dm0 : ((m : Int) == 0) = false := by rw [beq_eq_false_iff_ne]; omega
      have HV : Hid (costV W' H' C L = costZ W' H' C L) := Lib.hid (by
        unfold costV
        rw [if_neg]
        rfl
        rintro (h | h)
        · exact h HC.out.symm
        · rw [h] at HM; exact hm0 HM.out)
      have hmp : 0 < m := by omega
      obtain ⟨b1, o1, rfl, _, _, _, _⟩ := HS1.out.rl.some (by rw [List.length_map, ← HM.out]; exact hmp)
      have hwh : W' * H' = n := by rw [← HOK.out.len, ← HN.out]
      have hnp : 0 < n := by have := HOK.out.big; omega
      obtain ⟨b0, o0, rfl, _, _, _, _⟩ := HS1.out.rd.some (by rw [List.length_map, ← HN.out]; exact hnp)
      have HWH := Lib.hid hwh
      clear hwh hm0
      go_wp2_with fail
      go_loopw [5, 21] (fun s5 s21 wr => ∃ (i : Nat) (S : Int), s5 = .int .i64 S ∧ s21 = .int .i64 (i : Int) ∧ i ≤ m ∧ S = sumTo C L i ∧ 0 ≤ S ∧ S ≤ 1073741824 * (i : Int) ∧ (∀ j, j < i → okAt W' H' C L j = true) ∧ CB w 82 W' H' (some ⟨b0, o0, none⟩) n cap lo hi C (some ⟨b1, o1, none⟩) L wr) (fun _ s21 _ => m - (intOf s21).toNat)
      case atStart => exact ⟨0, 0, rfl, rfl, by omega, rfl, by omega, by omega, fun j hj => by omega, HS1.out⟩
      case round =>
        obtain ⟨i, S, rfl, rfl, him, hS, hS0, hS1, hok, hCB⟩ := hrel
        have HSU := Lib.hid hS
        have HOKA := Lib.hid hok
        have HCB := Lib.hid hCB
        clear hS hok hCB
        by_cases hlt : i < m
        · have dlt : decide (i < m) = true := decide_eq_true hlt
          have i0 : (0 : Int) ≤ (i : Int) := by omega
          have i1 : (i : Int) < (m : Int) := by omega
          have q2 : wr.cell? ⟨w.heap.size, 2, none⟩ = some (.slice (some ⟨b0, o0, none⟩) n cap) := HCB.out.box.cell 2
          obtain ⟨x, hx⟩ : ∃ x, x = cs L i := ⟨_, rfl⟩
          have cx : wr.cell? ⟨b1, o1 + i, none⟩ = some (.int .i64 x) := by rw [hx]; exact cell_cs HCB.out.rl (by rw [← HM.out]; exact hlt)
          have HX := Lib.hid hx
          clear hx
          have kw := HOK.out.w1
          have kW := HOK.out.w2
          have kh := HOK.out.h1
          have kH := HOK.out.h2
          have hn4 : n ≤ 4096 := by have := HOK.out.big; have := HWH.out; omega
          by_cases h1 : x < 0
          · have d1 : decide (x < 0) = true := decide_eq_true h1
            have HZ := Lib.hid (costZ_bad (w := W') (h := H') (C := C) (L := L) (i := i) (by rw [← HM.out]; exact hlt) (okAt_no (by rw [← HX.out]; omega)))
            go_wp2_with fail
            go_ret
            exact ⟨by rw [HV.out, HZ.out]; rfl, HCB.out.keep⟩
          · have d1 : decide (x < 0) = false := decide_eq_false h1
            obtain ⟨a, ha⟩ : ∃ a : Nat, x = (a : Int) := ⟨x.toNat, by omega⟩
            subst ha
            by_cases h2 : n ≤ a
            · have d2 : decide (n ≤ a) = true := decide_eq_true h2
              have HZ := Lib.hid (costZ_bad (w := W') (h := H') (C := C) (L := L) (i := i) (by rw [← HM.out]; exact hlt) (okAt_no (by rw [← HX.out, HWH.out]; omega)))
              go_wp2_with fail
              go_ret
              exact ⟨by rw [HV.out, HZ.out]; rfl, HCB.out.keep⟩
            · have d2 : decide (n ≤ a) = false := decide_eq_false h2
              have han : a < n := by omega
              have a0 : (0 : Int) ≤ (a : Int) := by omega
              have a1 : (a : Int) < (n : Int) := by omega
              obtain ⟨v, hv⟩ : ∃ v, v = cs C a := ⟨_, rfl⟩
              have cv : wr.cell? ⟨b0, o0 + a, none⟩ = some (.int .i64 v) := by rw [hv]; exact cell_cs HCB.out.rd (by rw [← HN.out]; exact han)
              have hvb := cs_bnd HOK.out a
              rw [← hv] at hvb
              have HVV := Lib.hid hv
              clear hv
              by_cases h3 : v < 0
              · have d3 : (v == (-1 : Int)) = true := by rw [beq_iff_eq]; omega
                have HZ := Lib.hid (costZ_bad (w := W') (h := H') (C := C) (L := L) (i := i) (by rw [← HM.out]; exact hlt) (okAt_no (by
                  rw [← HX.out]
                  rintro ⟨_, _, h, _⟩
                  have h : 0 ≤ cs C a := h
                  rw [← HVV.out] at h
                  omega)))
                go_wp2_with fail
                go_ret
                exact ⟨by rw [HV.out, HZ.out]; rfl, HCB.out.keep⟩
              · have d3 : (v == (-1 : Int)) = false := by rw [beq_eq_false_iff_ne]; omega
                by_cases h4 : i = 0
                · subst h4
                  rw [Nat.add_zero] at cx
                  have HOKN := Lib.hid (okAt_next HOKA.out (okAt_iff.2 ⟨by rw [← HX.out]; omega, by rw [← HX.out, HWH.out]; exact han, by rw [← HX.out]; show 0 ≤ cs C a; rw [← HVV.out]; omega, .inl rfl⟩))
                  have hs1 : S = sumTo C L 1 := by rw [sum_one (by rw [← HM.out]; exact hlt), HSU.out, sum_zero]
                  have HS1' := Lib.hid hs1
                  clear hs1
                  go_wp2_with fail
                  go_roundw
                  case rel => exact ⟨1, S, rfl, by go_num, by omega, HS1'.out, hS0, by omega, HOKN.out, HCB.out⟩
                  case measure => simp [intOf]; omega
                · have d4 : ((i : Int) == 0) = false := by rw [beq_eq_false_iff_ne]; omega
                  obtain ⟨p, hp⟩ : ∃ p, i = p + 1 := ⟨i - 1, by omega⟩
                  have yl : IntKind.i64.wrap ((i : Int) - 1) = (p : Int) := by rw [IntWalk.i64_in _ (by omega)]; omega
                  obtain ⟨y0, y1, y2, _⟩ := okAt_iff.1 (HOKA.out p (by omega))
                  obtain ⟨z, hz⟩ : ∃ z : Nat, z = (cs L p).toNat := ⟨_, rfl⟩
                  have cz : wr.cell? ⟨b1, o1 + p, none⟩ = some (.int .i64 (z : Int)) := by
                    rw [hz, Int.toNat_of_nonneg y0]
                    exact cell_cs HCB.out.rl (by rw [← HM.out]; omega)
                  rw [← hz] at y1
                  have HZP := Lib.hid hz
                  have HP := Lib.hid hp
                  have p0 : (0 : Int) ≤ (p : Int) := by omega
                  have p1 : (p : Int) < (m : Int) := by omega
                  have hbes := beside_any (cap := cap) (n := n) (A := some ⟨b0, o0, none⟩) (a := z) kw kW kh kH y1 wr.drew
                  have qb0 : wr.cell? ⟨w.heap.size, 0, none⟩ = some (.int .i64 (W' : Int)) := HCB.out.box.cell 0
                  have qb1 : wr.cell? ⟨w.heap.size, 1, none⟩ = some (.int .i64 (H' : Int)) := HCB.out.box.cell 1
                  clear hz y0 y1 y2 hp
                  obtain ⟨Lb, hLb⟩ : ∃ Lb, Lb = besideL W' H' z := ⟨_, rfl⟩
                  have hlb : Lb.length ≤ 4 := by rw [hLb]; exact beside_len _ _ _
                  rw [← hLb] at hbes
                  have HLB := Lib.hid hLb
                  clear hLb
                  go_upto_region 11 with fail
                  go_cut [8, 51, 52, 53] (fun s8 s51 s52 s53 wx => s8 = .bool false ∧ s53 = .int .i64 0 ∧ s52 = .int .i64 (Lb.length : Int) ∧ ∃ Ab cb l h, s51 = .slice Ab Lb.length cb ∧ RdL wx l h Ab (Lb.map ni) ∧ CB w 82 W' H' (some ⟨b0, o0, none⟩) n cap lo hi C (some ⟨b1, o1, none⟩) L wx)
                  case first =>
                    go_region_with (go_at_call 61; (with_reducible refine hbes.mono ?_); rintro e w9 ⟨⟨vb, rfl, hown⟩, hb9⟩; obtain ⟨Ab, cb, rfl, hrb, _, _, _⟩ := own_rd hown; have HRB := Lib.hid hrb; have HCB9 := Lib.hid ((HCB.out.drewN 1).next hb9); clear hown hrb hb9)
                    all_goals
                      go_wp2_with fail
                      go_meet
                      exact ⟨rfl, rfl, rfl, _, _, _, _, rfl, HRB.out, HCB9.out⟩
                  obtain ⟨rfl, rfl, rfl, Ab, cb, l1, h1, rfl, hrb, hcb⟩ := hcut
                  have HRB := Lib.hid hrb
                  have HCB9 := Lib.hid hcb
                  clear hrb hcb hbes cz q2 qb0 qb1 cv cx
                  go_wp2_with fail
                  go_loop [8, 53] (fun s8 s53 => ∃ k : Nat, s53 = .int .i64 (k : Int) ∧ k ≤ Lb.length ∧ s8 = .bool (nearB a Lb k)) (fun _ s53 => Lb.length - (intOf s53).toNat)
                  case atStart => exact ⟨0, rfl, by omega, by congr 1⟩
                  case round =>
                    obtain ⟨k, rfl, hk, rfl⟩ := hrel
                    by_cases hkl : k < Lb.length
                    · have dk : decide (k < Lb.length) = true := decide_eq_true hkl
                      obtain ⟨ba, oa, rfl, _, _, _, hcc⟩ := HRB.out.some (by rw [List.length_map]; omega)
                      obtain ⟨y, hy⟩ : ∃ y, y = Lb[k] := ⟨_, rfl⟩
                      have cy : wc.cell? ⟨ba, oa + k, none⟩ = some (.int .i64 (y : Int)) := hcc k _ (by rw [List.getElem?_map, List.getElem?_eq_getElem hkl, ← hy]; rfl)
                      have hst := near_step (a := a) hkl
                      rw [← hy] at hst
                      have HST := Lib.hid hst
                      have k0 : (0 : Int) ≤ (k : Int) := by omega
                      have k1 : (k : Int) < (Lb.length : Int) := by omega
                      clear hst hcc hy
                      cases hB : nearB a Lb k with
                      | true =>
                        go_wp2_with fail
                        go_round
                        case rel => exact ⟨k + 1, by go_num, by omega, by rw [HST.out, hB]; rfl⟩
                        case measure => simp [intOf]; omega
                      | false =>
                        by_cases hya : y = a
                        · have dy : ((y : Int) == (a : Int)) = true := by rw [beq_iff_eq]; omega
                          have hfin : Value.bool true = .bool (nearB a Lb (k + 1)) := by rw [HST.out, hB, decide_eq_true hya]; rfl
                          have HFIN := Lib.hid hfin
                          clear hfin hya
                          go_wp2_with fail
                          go_round
                          case rel => exact ⟨k + 1, by go_num, by omega, HFIN.out⟩
                          case measure => simp [intOf]; omega
                        · have dy : ((y : Int) == (a : Int)) = false := by rw [beq_eq_false_iff_ne]; omega
                          have hfin : Value.bool false = .bool (nearB a Lb (k + 1)) := by rw [HST.out, hB, decide_eq_false hya]; rfl
                          have HFIN := Lib.hid hfin
                          clear hfin hya
                          go_wp2_with fail
                          go_round
                          case rel => exact ⟨k + 1, by go_num, by omega, HFIN.out⟩
                          case measure => simp [intOf]; omega
                    · have dk : decide (k < Lb.length) = false := decide_eq_false hkl
                      obtain rfl : k = Lb.length := by omega
                      have q2 : wc.cell? ⟨w.heap.size, 2, none⟩ = some (.slice (some ⟨b0, o0, none⟩) n cap) := HCB9.out.box.cell 2
                      have cv : wc.cell? ⟨b0, o0 + a, none⟩ = some (.int .i64 v) := by rw [HVV.out]; exact cell_cs HCB9.out.rd (by rw [← HN.out]; exact han)
                      have hna := near_all a Lb
                      have HNA := Lib.hid hna
                      clear hna
                      cases hB : nearB a Lb Lb.length with
                      | true =>
                        have hmem : a ∈ besideL W' H' z := by
                          have := HNA.out
                          rw [hB, HLB.out] at this
                          exact of_decide_eq_true this.symm
                        have hip := HP.out
                        have HOKN := Lib.hid (okAt_next HOKA.out (okAt_iff.2 ⟨by rw [← HX.out]; omega, by rw [← HX.out, HWH.out]; exact han, by rw [← HX.out]; show 0 ≤ cs C a; rw [← HVV.out]; omega, .inr (by rw [← HX.out, hip, Nat.add_sub_cancel, ← HZP.out]; exact hmem)⟩))
                        have hs1 : S + v = sumTo C L (i + 1) := by
                          rw [sum_step (by omega) (by rw [← HM.out]; exact hlt), ← HSU.out, ← HX.out, HVV.out]
                          rfl
                        have HS1' := Lib.hid hs1
                        clear hs1 hmem hip
                        go_wp2_with fail
                        go_roundw
                        case rel => exact ⟨i + 1, S + v, rfl, by go_num, by omega, HS1'.out, by omega, by omega, HOKN.out, HCB9.out⟩
                        case measure => simp [intOf]; omega
                      | false =>
                        have hmem : a ∉ besideL W' H' z := by
                          have := HNA.out
                          rw [hB, HLB.out] at this
                          exact of_decide_eq_false this.symm
                        have hip := HP.out
                        have HZ := Lib.hid (costZ_bad (w := W') (h := H') (C := C) (L := L) (i := i) (by rw [← HM.out]; exact hlt) (okAt_no (by
                          rw [← HX.out, hip, Nat.add_sub_cancel, ← HZP.out]
                          rintro ⟨_, _, _, h | h⟩
                          · omega
                          · exact hmem h)))
                        clear hmem hip
                        go_wp2_with fail
                        go_ret
                        exact ⟨by rw [HV.out, HZ.out]; rfl, HCB9.out.keep⟩
        · have dlt : decide (i < m) = false := decide_eq_false hlt
          obtain rfl : m = i := by omega
          have HZ : Hid (costZ W' H' C L = S) := Lib.hid (by rw [costZ_all (by rw [← HM.out]; exact HOKA.out), ← HM.out, HSU.out])
          go_wp2_with fail
          go_ret
          exact ⟨by rw [HV.out, HZ.out]; rfl, HCB.out.keep⟩
  · have d0 : (c != (0 : Int)) = true := by rw [bne_iff_ne]; exact h0
    have HV : Hid (costV W H C L = -1) := Lib.hid (by unfold costV; rw [if_pos (.inl (by rw [← HC.out]; exact h0))])
    go_wp2_with fail
    go_ret
    exact ⟨by rw [HV.out]; rfl, HS1.out.keep⟩
end Rou
end Go.Proofs.Ytgncngpgodfijaa
