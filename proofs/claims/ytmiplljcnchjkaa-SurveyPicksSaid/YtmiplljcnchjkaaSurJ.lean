/-
  The law SurveyRanks, walked.
-/
import Derived.Test.YtmiplljcnchjkaaSurG
namespace Go.Proofs.Ytmiplljcnchjkaa
open Go.RowKit
set_option linter.unusedVariables false
namespace Sur
def bo (b : Bool) : Value := .bool b
theorem infoBool : (Try.prog.info? 4).map (fun i => (i.zero, i.size, i.bytes)) = some (some (.bool false), 1, 1) := by kernel_rfl
/-- what was told stands in a row of its own -/
structure JT (w : World) (lo hi : Nat) (A : Option Addr) (L : List Sq) (T : List Int) (v : Value) (wr : World) : Prop where
  rd : RdL wr lo hi A (sqs L)
  own : wr.ownsRow w.heap.size 2 1 v T.length (T.map zv)
  b : Below w.heap.size w wr
  h : hi ≤ w.heap.size
section
variable {w wr w' : World} {lo hi : Nat} {A : Option Addr} {L : List Sq} {T : List Int} {v v' : Value}
theorem JT.next (S : JT w lo hi A L T v wr) (h : Below wr.heap.size wr w') : JT w lo hi A L T v w' := ⟨S.rd.next h, own_next S.own h, bt S.b h, S.h⟩
theorem JT.more (S : JT w lo hi A L T v wr) (x : Int) (hg : wr.grownBy w' v.ownBlock) (ho : w'.ownsRow w.heap.size 2 1 v' (T.length + 1) (T.map zv ++ [zv x])) : JT w lo hi A L (T ++ [x]) v' w' := by
  have hv : ∀ k, v.ownBlock = some k → w.heap.size ≤ k := fun k hk => (own_lt S.own hk).1
  have h2 := S.h
  refine ⟨S.rd.grown hg (fun g' hg' => .inr (by have := hv g' hg'; omega)), ?_, S.b.grown hg S.b.size (fun k hk => hv k hk), S.h⟩
  rw [List.length_append, List.length_singleton, List.map_append]
  exact ho
end
/-- which places were seen, behind the first i -/
def seenL (R : List Nat) (n i : Nat) : List Bool := (List.range n).map fun k => decide (k ∈ R.take i)
theorem seenL_len (R : List Nat) (n i : Nat) : (seenL R n i).length = n := by simp [seenL]
theorem seenL_get {R : List Nat} {n i k : Nat} (hk : k < n) : (seenL R n i)[k]? = some (decide (k ∈ R.take i)) := by simp [seenL, hk]
theorem seenL_zero (R : List Nat) (n : Nat) : seenL R n 0 = List.replicate n false := by
  apply List.ext_getElem?
  intro k
  by_cases hk : k < n
  · rw [seenL_get hk, List.getElem?_replicate, if_pos hk]
    simp
  · rw [List.getElem?_eq_none (by rw [seenL_len]; omega), List.getElem?_eq_none (by rw [List.length_replicate]; omega)]
theorem seenL_step {R : List Nat} {n i k : Nat} (h : R[i]? = some k) : (seenL R n i).set k true = seenL R n (i + 1) := by
  apply List.ext_getElem?
  intro j
  rw [List.getElem?_set]
  by_cases hj : j < n
  · rw [seenL_get (i := i + 1) hj, List.take_add_one, h]
    by_cases e : k = j
    · subst e
      rw [if_pos rfl, if_pos (by rw [seenL_len]; exact hj)]
      simp
    · rw [if_neg e, seenL_get hj]
      have hne : j ≠ k := fun h' => e h'.symm
      simp [hne]
  · rw [List.getElem?_eq_none (by rw [seenL_len]; omega), List.getElem?_eq_none (by rw [seenL_len]; omega)]
    split
    · rw [if_neg (by rw [seenL_len]; omega)]
    · rfl
/-- what was told, the places, and which were seen -/
structure JR (w : World) (gr gs n lo hi : Nat) (A : Option Addr) (L : List Sq) (T : List Int) (v : Value) (R : List Nat) (i : Nat) (wr : World) : Prop where
  jt : JT w lo hi A L T v wr
  row : Blk wr gr 3 (R.map natv)
  seen : Blk wr gs 4 ((seenL R n i).map bo)
  ge : w.heap.size ≤ gs
  ne : gr ≠ gs
  hv : v.ownBlock ≠ some gs
section
variable {w wr w' : World} {gr gs n lo hi i k : Nat} {A : Option Addr} {L : List Sq} {T : List Int} {v : Value} {R : List Nat}
theorem JR.next (S : JR w gr gs n lo hi A L T v R i wr) (h : Below wr.heap.size wr w') : JR w gr gs n lo hi A L T v R i w' := ⟨S.jt.next h, S.row.next h, S.seen.next h, S.ge, S.ne, S.hv⟩
theorem JR.set (S : JR w gr gs n lo hi A L T v R i wr) (h : R[i]? = some k) : JR w gr gs n lo hi A L T v R (i + 1) (wr.setCell ⟨gs, k, none⟩ (.bool true)) := by
  refine ⟨⟨S.jt.rd.far (p := ⟨gs, k, none⟩) (.inr (by show hi ≤ gs; have := S.jt.h; have := S.ge; omega)) _, ownsRow_setCell_other S.jt.own (a := ⟨gs, k, none⟩) S.hv _, S.jt.b.setCell (p := ⟨gs, k, none⟩) S.ge _, S.jt.h⟩, S.row.far (p := ⟨gs, k, none⟩) S.ne _, ?_, S.ge, S.ne, S.hv⟩
  rw [← seenL_step h, List.map_set]
  exact S.seen.put k _
end
set_option maxRecDepth 100000 in
theorem lawRanks_out (A : Option Addr) (n cap : Nat) (s : Int) (h : 60 < n) (w : World) :
    Calls Try.prog 10 #[.slice A n cap, .int .i64 s] w fun e w' => e = .returned (.bool true) ∧ Below w.heap.size w w' := by
  have d1 : decide (60 < (n : Int)) = true := decide_eq_true (by omega)
  clear h
  go_enter Try.func10, Try.ntmps10
  go_wp2_with fail
  refine (works38_any _).mono ?_
  rintro e w1 ⟨rfl, hb⟩
  go_wp2_with fail
  go_ret
  exact ⟨rfl, hb⟩
set_option maxRecDepth 100000 in
set_option maxHeartbeats 2000000 in
theorem lawRanks_core (A : Option Addr) (L : List Sq) (n cap lo hh : Nat) (s : Int) (w : World) (hrd : RdL w lo hh A (sqs L)) (hhi : hh ≤ w.heap.size) (hn : L.length = n) (hn2 : n ≤ 60) :
    Calls Try.prog 10 #[.slice A n cap, .int .i64 s] w fun e w' => e = .returned (.bool true) ∧ Below w.heap.size w w' := by
  obtain ⟨i6, hi6, hz0, hz1, hz2⟩ := info_parts infoI64
  obtain ⟨i7, hi7, hy0, hy1, hy2⟩ := info_parts infoBool
  have d1 : decide (60 < (n : Int)) = false := decide_eq_false (by omega)
  have HT : Hid ((tolds L s).length = n) := Lib.hid (by unfold tolds; rw [List.length_map, hn])
  have HN := Lib.hid hn
  have HJ : Hid (JT w lo hh A L ((tolds L s).take 0) (.slice none 0 0) w) := Lib.hid ⟨hrd, by rw [List.take_zero]; exact World.ownsRow_nil _ _ _ _, Below.refl _ _, hhi⟩
  clear hrd hn
  go_enter Try.func10, Try.ntmps10
  go_wp2_with fail
  go_loopw [5, 6, 7, 8, 9] (fun s5 s6 s7 _ _ wr => ∃ (i : Nat) (v : Value) (bd : Bool), s7 = .int .i64 (i : Int) ∧ i ≤ n ∧ s5 = .bool bd ∧ s6 = v ∧ (bd = false ↔ ∀ j (h : j < L.length), j < i → (infoC L[j].r s).2 = 0) ∧ JT w lo hh A L ((tolds L s).take i) v wr) (fun _ _ s7 _ _ _ => n - (intOf s7).toNat)
  case atStart => exact ⟨0, _, false, rfl, by omega, rfl, rfl, ⟨fun _ j h h0 => absurd h0 (Nat.not_lt_zero _), fun _ => rfl⟩, HJ.out⟩
  case round =>
    clear HJ
    obtain ⟨i, v, bd, rfl, hi0, rfl, rfl, hbd, hS⟩ := hrel
    have hTl : ((tolds L s).take i).length = i := by rw [List.length_take, HT.out]; omega
    obtain ⟨Av, cv, rfl, _, _, _, _⟩ := own_rd hS.own
    rw [hTl] at hS ⊢
    have HS := Lib.hid hS
    have HBD := Lib.hid hbd
    have HTL := Lib.hid hTl
    clear hS hbd hTl
    by_cases hi : i < n
    · have di : decide (i < n) = true := decide_eq_true hi
      have i0 : (0 : Int) ≤ (i : Int) := by omega
      have i1 : (i : Int) < (n : Int) := by omega
      have hiL : i < L.length := by rw [HN.out]; exact hi
      have hnext : Hid ((tolds L s).take (i + 1) = (tolds L s).take i ++ [(infoC L[i].r s).1]) := Lib.hid (by
        rw [List.take_succ_eq_append_getElem (by rw [HT.out]; exact hi)]
        unfold tolds
        rw [List.getElem_map])
      have hbn : Hid (∀ c : Bool, (c = false ↔ (infoC L[i].r s).2 = 0) → (((bd || c) = false) ↔ ∀ j (h : j < L.length), j < i + 1 → (infoC L[j].r s).2 = 0)) := Lib.hid (fun c hc => by
        rw [Bool.or_eq_false_iff, hc, HBD.out]
        constructor
        · rintro ⟨h1, h2⟩ j hj hji
          by_cases e : j = i
          · subst e; exact h2
          · exact h1 j hj (by omega)
        · intro h
          exact ⟨fun j hj hji => h j hj (by omega), h i hiL (by omega)⟩)
      obtain ⟨bL, oL, rfl, _, _, _, _⟩ := HS.out.rd.some (by rw [sqs_len]; omega)
      have hc := sq_elem HS.out.rd hiL
      have hin := fun w => infoR_any L[i].r s w
      unfold GotN at hin
      have htwo := infoC_two L[i].r s
      obtain ⟨x3, hx3⟩ : ∃ x, x = L[i].r := ⟨_, rfl⟩
      rw [← hx3] at hin hnext hbn htwo
      have c2 : wr.cell? ⟨bL, oL + i * 5 + 2, none⟩ = some (.int .i64 x3) := by rw [hx3]; exact hc.2.2.1
      generalize infoC x3 s = p at *
      obtain ⟨p1, p2⟩ := p
      dsimp only at hin hnext hbn
      clear hc hx3
      go_wp2_with fail
      refine (hin _).mono ?_
      rintro e w2 ⟨rfl, hb2⟩
      have HS2 := Lib.hid (HS.out.next hb2)
      clear hb2 hin HS c2
      have HS3 := Lib.hid (HS2.out.next (_root_.Go.Proofs.Ytmiplljcnchjkaa.bl w2 (.cells #[.int .i64 p1] 2)))
      have HN3 := Lib.hid (new_rd w2 2 [zv p1])
      have hsz := HS2.out.b.size
      have hcase : ∃ c : Bool, (c = false ↔ p2 = 0) ∧ (p2 != 0) = c := ⟨p2 != 0, by rw [bne_eq_false_iff_eq], rfl⟩
      obtain ⟨c, hc1, hc2⟩ := hcase
      have HBN := Lib.hid (hbn.out c hc1)
      clear hbn hc1 htwo
      cases bd
      all_goals
        go_wp2_with (at_builtin; refine wpList_append_mine rfl (.tmp 40) (.tmp 42) 70 rfl w.heap.size 2 i6 _ 1 8 Try.underlying70 hi6 hz0 hz1 hz2 rfl (by decide) (.slice Av i cv) i (((tolds L s).take i).map zv) rfl (by have := HS3.out.own; rw [HTL.out] at this; exact this) (some ⟨w2.heap.size, 0, Option.none⟩) 1 1 [zv p1] rfl rfl (fun h => by cases h) HN3.out.news (by simp [zv, Value.oneCell']) (by simp only [maxLen]; omega) (by omega) (by simp; omega) ?_; intro v2 w4 hown hgrow hwh; have hmore := HS3.out.more p1 hgrow (by rw [HTL.out]; exact hown); rw [← hnext.out] at hmore; have HFin := Lib.hid hmore; clear hown hgrow hwh hmore)
        go_roundw
        case rel => exact ⟨i + 1, _, _, by go_num, by omega, rfl, rfl, HBN.out, HFin.out⟩
        case measure => simp [intOf]; omega
    · have di : decide (i < n) = false := decide_eq_false hi
      have hin : i = n := by omega
      subst i
      have hok : Hid (bd = false ↔ AllOk L s) := Lib.hid (HBD.out.trans ⟨fun h b hb => by
        obtain ⟨j, hj, rfl⟩ := List.getElem_of_mem hb
        exact h j hj (by rw [← HN.out]; exact hj), fun h j hj _ => h _ (List.getElem_mem hj)⟩)
      have hS := HS.out
      rw [List.take_of_length_le (by rw [HT.out]; exact Nat.le_refl _)] at hS
      have HS1 := Lib.hid hS
      have hrk := rank_any A L n cap lo hh s wr hS.rd (Nat.le_trans hhi hS.b.size) HN.out (by omega)
      clear hS HS HBD HTL hi hi0
      unfold GotK at hrk
      rw [HN.out] at hrk
      cases bd
      · have hall := hok.out.1 rfl
        have hmk := mk_row (P := Try.prog) 74 4 i7 _ Try.underlying74 hi7 hy0 rfl hy1 (by omega) n (by omega)
        go_wp2_with fail
        refine hrk.mono ?_
        clear hrk hok
        rintro e w7 ⟨hb7, ⟨hbad, rfl⟩ | ⟨_, gr, R, hR, hgr, rfl, hB⟩⟩
        · exact absurd hall hbad
        have HS2 := Lib.hid (HS1.out.next hb7)
        have HR := Lib.hid hR
        have hRl : Hid (R.length = n ∧ (∀ j ∈ R, j < n) ∧ R.Nodup) := Lib.hid (by
          have h1 := hR.1
          have h2 := h1.length_eq
          rw [HT.out] at h1 h2
          rw [List.length_range] at h2
          exact ⟨h2, fun j hj => List.mem_range.1 (h1.mem_iff.1 hj), h1.nodup_iff.2 List.nodup_range⟩)
        obtain ⟨gs, hgs⟩ : ∃ g, g = w7.heap.size := ⟨_, rfl⟩
        have HJR : Hid (JR w gr gs n lo hh A L (tolds L s) (.slice Av n cv) R 0 (w7.alloc (.cells (Array.replicate n (Value.bool false)) 4))) := by
          rw [hgs, ← List.toArray_replicate]
          have h1 := Blk.mk w7 4 (List.replicate n (Value.bool false))
          have h2 := HS2.out.b.size
          have h3 : gr < w7.heap.size := Blk.lt hB
          refine Lib.hid ⟨HS2.out.next (bl _ _), hB.alloc _, ?_, h2, by omega, fun e => by have := (own_lt HS2.out.own e).2; omega⟩
          rw [seenL_zero, List.map_replicate]
          exact h1
        have HGS := Lib.hid hgs
        clear hb7 hR hgr hB hgs HS1 HS2 hall
        go_wp2_with fail
        rw [← HGS.out]
        go_loopw [13, 14] (fun s13 _ wr => ∃ i : Nat, s13 = .int .i64 (i : Int) ∧ i ≤ n ∧ JR w gr gs n lo hh A L (tolds L s) (.slice Av n cv) R i wr) (fun s13 _ _ => n - (intOf s13).toNat)
        case atStart => exact ⟨0, rfl, by omega, HJR.out⟩
        case round =>
          clear HJR hmk
          obtain ⟨i, rfl, hi0, hS⟩ := hrel
          have HS := Lib.hid hS
          clear hS
          by_cases hi : i < n
          · have di : decide (i < n) = true := decide_eq_true hi
            have i0 : (0 : Int) ≤ (i : Int) := by omega
            have i1 : (i : Int) < (n : Int) := by omega
            have hiR : i < R.length := by rw [hRl.out.1]; exact hi
            obtain ⟨k, hk⟩ : ∃ k, k = R[i] := ⟨_, rfl⟩
            have hRi : R[i]? = some k := by rw [hk]; exact List.getElem?_eq_getElem hiR
            have hkn : k < n := hRl.out.2.1 k (by rw [hk]; exact List.getElem_mem hiR)
            have hnot : ¬ k ∈ R.take i := fun hm => by
              obtain ⟨j, hj, e⟩ := List.getElem_of_mem hm
              rw [List.getElem_take] at e
              have hji : j < i := by rw [List.length_take] at hj; omega
              have h5 := List.pairwise_iff_getElem.1 hRl.out.2.2 j i (by omega) hiR hji
              exact h5 (by rw [e, hk])
            have cr : wr.cell? ⟨gr, i, none⟩ = some (.int .i64 (k : Int)) := (HS.out.row.cell i).trans (by rw [List.getElem?_map, hRi]; rfl)
            have cs : wr.cell? ⟨gs, k, none⟩ = some (.bool false) := (HS.out.seen.cell k).trans (by rw [List.getElem?_map, seenL_get hkn, decide_eq_false hnot]; rfl)
            have fs := HS.out.seen.free k
            have k0 : (0 : Int) ≤ (k : Int) := by omega
            have k1 : (k : Int) < (n : Int) := by omega
            have k2 : decide ((k : Int) < 0) = false := decide_eq_false (by omega)
            have k3 : decide ((n : Int) ≤ (k : Int)) = false := decide_eq_false (by omega)
            have k4 : decide (n ≤ k) = false := decide_eq_false (by omega)
            have HS2 : Hid (JR w gr gs n lo hh A L (tolds L s) (.slice Av n cv) R (i + 1) (wr.setCell ⟨gs, k, none⟩ (.bool true))) := Lib.hid (HS.out.set hRi)
            by_cases hz : i = 0
            · have dz : decide ((0 : Int) < (i : Int)) = false := decide_eq_false (by omega)
              have dz2 : decide (0 < i) = false := decide_eq_false (by omega)
              clear hiR hk hRi hkn hnot HS hz
              go_wp2_with fail
              go_quiet (fail)
              go_wp2_with fail
              go_roundw
              case rel => exact ⟨i + 1, by go_num, by omega, HS2.out.next (below_drewN (Below.refl _ _) _)⟩
              case measure => simp [intOf]; omega
            · have dz : decide ((0 : Int) < (i : Int)) = true := decide_eq_true (by omega)
              have dz2 : decide (0 < i) = true := decide_eq_true (by omega)
              obtain ⟨q, hq⟩ : ∃ q, q = i - 1 := ⟨_, rfl⟩
              have hqR : q < R.length := by omega
              obtain ⟨p, hp⟩ : ∃ p, p = R[q] := ⟨_, rfl⟩
              have hRq : R[q]? = some p := by rw [hp]; exact List.getElem?_eq_getElem hqR
              have hpn : p < n := hRl.out.2.1 p (by rw [hp]; exact List.getElem_mem hqR)
              have cp : (wr.setCell ⟨gs, k, none⟩ (.bool true)).cell? ⟨gr, q, none⟩ = some (.int .i64 (p : Int)) := (HS2.out.row.cell q).trans (by rw [List.getElem?_map, hRq]; rfl)
              have hord := HR.out.2 q i (by omega) (by rw [HT.out]; exact hi)
              rw [List.getD_eq_getElem?_getD, List.getD_eq_getElem?_getD, hRi, hRq] at hord
              obtain ⟨_, _, e', hro, _, _, _⟩ := own_rd HS2.out.jt.own
              injection e' with e2 e4 e3
              subst e2 e3
              clear e4
              obtain ⟨bT, oT, rfl, _, _, _, hcT⟩ := hro.some (by rw [List.length_map, HT.out]; omega)
              have tv : ∀ j, j < n → (wr.setCell ⟨gs, k, none⟩ (.bool true)).cell? ⟨bT, oT + j, none⟩ = some (.int .i64 ((tolds L s).getD j 0)) := fun j hj => hcT j _ (by
                rw [List.getElem?_map, List.getElem?_eq_getElem (by rw [HT.out]; exact hj), List.getD_eq_getElem?_getD, List.getElem?_eq_getElem (by rw [HT.out]; exact hj)]
                rfl)
              have ck := tv k hkn
              have cpp := tv p hpn
              unfold before at hord
              dsimp only [Option.getD] at hord
              generalize (tolds L s).getD k 0 = tk at *
              generalize (tolds L s).getD p 0 = tp at *
              have hq1 : IntKind.i64.wrap ((i : Int) - 1) = (q : Int) := by rw [IntWalk.i64_in _ (by omega)]; omega
              have q0 : (0 : Int) ≤ (q : Int) := by omega
              have q1 : (q : Int) < (n : Int) := by omega
              have p0 : (0 : Int) ≤ (p : Int) := by omega
              have p1 : (p : Int) < (n : Int) := by omega
              have hlt : decide (tp < tk) = false := decide_eq_false (by omega)
              have hkp : tp = tk → ¬ k < p := by omega
              clear hiR hk hRi hnot HS hp hRq hqR hq hcT tv hro hord
              by_cases he : tp = tk
              · have he1 : (tp == tk) = true := by rw [beq_iff_eq]; exact he
                have hg1 : decide ((k : Int) < (p : Int)) = false := decide_eq_false (by have := hkp he; omega)
                have hg2 : decide (k < p) = false := decide_eq_false (hkp he)
                clear hkp he
                go_wp2_with fail
                go_quiet (fail)
                go_wp2_with fail
                go_roundw
                case rel => exact ⟨i + 1, by go_num, by omega, HS2.out.next (below_drewN (Below.refl _ _) _)⟩
                case measure => simp [intOf]; omega
              · have he1 : (tp == tk) = false := by rw [beq_eq_false_iff_ne]; exact he
                clear hkp
                go_wp2_with fail
                go_quiet (fail)
                go_wp2_with fail
                go_roundw
                case rel => exact ⟨i + 1, by go_num, by omega, HS2.out.next (below_drewN (Below.refl _ _) _)⟩
                case measure => simp [intOf]; omega
          · have di : decide (i < n) = false := decide_eq_false hi
            have HB := Lib.hid HS.out.jt.b
            clear HS
            go_wp2_with fail
            refine (works38_any _).mono ?_
            rintro e w9 ⟨rfl, hb9⟩
            have HB9 := Lib.hid (bt HB.out hb9)
            clear hb9
            go_wp2_with fail
            go_ret
            exact ⟨rfl, HB9.out⟩
      · have hbad : ¬ AllOk L s := fun h => by have := hok.out.2 h; cases this
        go_wp2_with fail
        refine hrk.mono ?_
        clear hrk hok
        rintro e w7 ⟨hb7, ⟨_, rfl⟩ | ⟨hall, gr, R, hR, hgr, rfl, hB⟩⟩
        · have HB7 := Lib.hid (bt HS1.out.b hb7)
          clear hb7 HS1
          go_wp2_with fail
          refine (works38_any _).mono ?_
          rintro e w9 ⟨rfl, hb9⟩
          have HB9 := Lib.hid (bt HB7.out hb9)
          clear hb9
          go_wp2_with fail
          go_ret
          exact ⟨rfl, HB9.out⟩
        · exact absurd hall hbad
theorem open_sqs {W : World} {v : Value} (h : VSat W (.slice (.cat (.int .i64) (.cat (.int .i64) (.cat (.int .i64) (.cat (.int .i64) (.cat (.int .i64) .unit)))))) false v) : ∃ A L cap, v = .slice A (List.length L) cap ∧ RdL W 0 W.heap.size A (sqs L) := by
  obtain ⟨A, L, cap, h1, h2, h3, _⟩ := open_slice_of Sq.cells (fun _ => True) (.cat (.int .i64) (.cat (.int .i64) (.cat (.int .i64) (.cat (.int .i64) (.cat (.int .i64) .unit))))) 5 rfl (fun _ => rfl) (by decide) (fun cs hs => by
    obtain ⟨_, _, rfl, ⟨a, rfl, ha⟩, _, _, rfl, ⟨b, rfl, hb⟩, _, _, rfl, ⟨c, rfl, hc⟩, _, _, rfl, ⟨d, rfl, hd⟩, _, _, rfl, ⟨e, rfl, he⟩, rfl⟩ := hs
    exact ⟨⟨a, b, c, d, e⟩, rfl, trivial⟩) h
  exact ⟨A, L, cap, h1, h2⟩
theorem walkRanks (v0 v1 : Value) (W : World) (h0 : VSat W (.slice (.cat (.int .i64) (.cat (.int .i64) (.cat (.int .i64) (.cat (.int .i64) (.cat (.int .i64) .unit)))))) false v0) (h1 : VSat W (.int .i64) false v1) :
    Calls Try.prog 10 #[v0, v1] W fun e W' => e = .returned (.bool true) ∧ Below W.heap.size W W' := by
  obtain ⟨A, L, cap, rfl, hr⟩ := open_sqs h0
  obtain ⟨x, e, hx⟩ := h1
  injection e with e
  subst e
  by_cases h : 60 < L.length
  · exact lawRanks_out A L.length cap x h W
  · exact lawRanks_core A L L.length cap 0 W.heap.size x W hr (Nat.le_refl _) rfl (by omega)
end Sur
end Go.Proofs.Ytmiplljcnchjkaa
