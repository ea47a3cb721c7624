/-
  The law RecorderBack, walked.
-/
import Derived.Test.YtijijfggppnbpaaRecL1
namespace Go.Proofs.Ytijijfggppnbpaa
open Go.RowKit Go.Shelf
set_option linter.unusedVariables false
namespace Rec
open Frm Txt
/-- which cells are lost, the first i of them looked at -/
def lostTo (k : Nat) (lost : List Bool) : Nat → List Bool
  | 0 => List.replicate k false
  | i + 1 => if lost.getD i false = true then (lostTo k lost i).set i true else lostTo k lost i
theorem lostTo_len (k : Nat) (lost : List Bool) : ∀ i, (lostTo k lost i).length = k
  | 0 => by unfold lostTo; simp
  | i + 1 => by
    unfold lostTo
    split
    · rw [List.length_set, lostTo_len k lost i]
    · exact lostTo_len k lost i
theorem lostTo_get {k : Nat} {lost : List Bool} {a : Nat} (ha : a < k) : ∀ i, (lostTo k lost i).getD a false = (decide (a < i) && lost.getD a false)
  | 0 => by
    unfold lostTo
    rw [List.getD_eq_getElem?_getD, List.getElem?_replicate, if_pos ha]
    rfl
  | i + 1 => by
    have ih := lostTo_get (lost := lost) ha i
    unfold lostTo
    by_cases hl : lost.getD i false = true
    · rw [if_pos hl, List.getD_eq_getElem?_getD, List.getElem?_set]
      by_cases hia : i = a
      · subst hia
        rw [if_pos rfl, if_pos (by rw [lostTo_len]; exact ha), hl, decide_eq_true (by omega)]
        rfl
      · rw [if_neg hia, ← List.getD_eq_getElem?_getD, ih]
        congr 1
        exact decide_eq_decide.2 (by omega)
    · rw [if_neg hl, ih]
      by_cases hia : i = a
      · subst hia
        have hl' : lost.getD i false = false := by simpa using hl
        rw [hl', Bool.and_false, Bool.and_false]
      · congr 1
        exact decide_eq_decide.2 (by omega)
/-- the number behind the last that is not lost, those below i looked at -/
def Best (k : Nat) (lo : List Bool) (s i n : Nat) : Prop :=
  (n = 1 ∧ ∀ x, s ≤ x → x < i → lo.getD (x % k) false = true) ∨ (∃ x, s ≤ x ∧ x < i ∧ lo.getD (x % k) false = false ∧ n = x + 1 ∧ ∀ y, x < y → y < i → lo.getD (y % k) false = true)
theorem Best.start {k : Nat} {lo : List Bool} {s : Nat} : Best k lo s s 1 := .inl ⟨rfl, fun x h1 h2 => by omega⟩
theorem Best.lost {k : Nat} {lo : List Bool} {s i n : Nat} (h : Best k lo s i n) (hl : lo.getD (i % k) false = true) : Best k lo s (i + 1) n := by
  rcases h with ⟨h1, h2⟩ | ⟨x, a, b, c, d, e⟩
  · exact .inl ⟨h1, fun x hx hy => by
      by_cases e : x = i
      · rw [e]; exact hl
      · exact h2 x hx (by omega)⟩
  · exact .inr ⟨x, a, by omega, c, d, fun y hy hz => by
      by_cases e' : y = i
      · rw [e']; exact hl
      · exact e y hy (by omega)⟩
theorem Best.kept {k : Nat} {lo : List Bool} {s i n : Nat} (hs : s ≤ i) (hl : lo.getD (i % k) false = false) : Best k lo s (i + 1) (i + 1) :=
  .inr ⟨i, hs, by omega, hl, rfl, fun y hy hz => by omega⟩
theorem Best.le {k : Nat} {lo : List Bool} {s i n : Nat} (h : Best k lo s i n) : 1 ≤ n ∧ (n = 1 ∨ n ≤ i) := by
  rcases h with ⟨h1, h2⟩ | ⟨x, a, b, c, d, e⟩ <;> omega
theorem frs_take : ∀ (n : Nat) (L : List Fr), frs (L.take n) = (frs L).take (n * 6)
  | 0, L => by simp [frs]
  | n + 1, [] => by simp [frs]
  | n + 1, f :: L => by
    show Fr.cells f ++ frs (L.take n) = (Fr.cells f ++ frs L).take ((n + 1) * 6)
    rw [frs_take n L, List.take_append, show (Fr.cells f).length = 6 from rfl, List.take_of_length_le (show (Fr.cells f).length ≤ (n + 1) * 6 by show 6 ≤ (n + 1) * 6; omega), show (n + 1) * 6 - 6 = n * 6 by omega]
/-- what Open finds is what the law looks for -/
theorem Best.next {k : Nat} (hk : 1 ≤ k) {m : List Fr} {lo : List Bool} {B : List UInt8} (R : Ring k m lo B) (hm : m.length ≤ 1000000) {n : Nat} (h : Best k lo (keptN k m.length) (m.length + 1) n) : nextTo B k k = n := by
  refine next_is hk R hm ?_ ?_
  · rcases h with ⟨h1, _⟩ | ⟨x, a, b, c, d, _⟩
    · exact .inl h1
    · exact .inr ⟨x, (keptN_valid hk).1 ⟨a, by omega⟩, c, d⟩
  · intro x hv hl
    obtain ⟨v1, v2⟩ := (keptN_valid hk).2 hv
    rcases h with ⟨_, h2⟩ | ⟨y, a, b, c, d, e⟩
    · have := h2 x v1 (by omega)
      rw [hl] at this
      cases this
    · rw [d]
      rcases Nat.lt_or_ge y x with hyx | hyx
      · have := e x hyx (by omega)
        rw [hl] at this
        cases this
      · omega
set_option maxRecDepth 100000 in
theorem lawBack_out (c j : Nat) (A A2 : Option Addr) (m cap m2 cap2 : Nat) (h : 60 < m ∨ 60 < m2) (w : World) :
    Calls Try.prog 11 #[.int .u8 (c : Int), .slice A m cap, .slice A2 m2 cap2, .int .u8 (j : Int)] w fun e w' => e = .returned (.bool true) ∧ Below w.heap.size w w' := by
  by_cases h1 : 60 < m
  · have d1 : decide (60 < (m : Int)) = true := decide_eq_true (by omega)
    clear h
    go_enter Try.func11, Try.ntmps11
    go_wp2_with fail
    refine (works30_any _).mono ?_
    rintro e w1 ⟨rfl, hb⟩
    go_wp2
    go_ret
    exact ⟨rfl, hb⟩
  · have d1 : decide (60 < (m : Int)) = false := decide_eq_false (by omega)
    have d2 : decide (60 < (m2 : Int)) = true := decide_eq_true (by omega)
    clear h
    go_enter Try.func11, Try.ntmps11
    go_wp2_with fail
    refine (works30_any _).mono ?_
    rintro e w1 ⟨rfl, hb⟩
    go_wp2
    go_ret
    exact ⟨rfl, hb⟩
/-- the bytes that are turned, and which cells are lost, in memory -/
structure BK (w : World) (lo12 g12 K c12 g13 lo9 hi9 : Nat) (A9 : Option Addr) (G : List Fr) (AL : Option Addr) (lost : List Bool) (B : List UInt8) (L2 : List Bool) (wr : World) : Prop where
  ob : wr.ownsRow lo12 5 1 (.slice (some ⟨g12, 0, none⟩) K c12) K (B.map bv)
  lb : Blk wr g13 4 (L2.map bo)
  kp : Below w.heap.size w wr
  rg : RdL wr lo9 hi9 A9 (frs G)
  rl : RdL wr 0 w.heap.size AL (lost.map bo)
  n1 : g12 ≠ g13
  n2 : w.heap.size ≤ lo9
  n3 : lo9 ≤ hi9
  n4 : hi9 ≤ g12
  n5 : hi9 ≤ g13
section
variable {w wr w' : World} {lo12 g12 K c12 g13 lo9 hi9 : Nat} {A9 : Option Addr} {G : List Fr} {AL : Option Addr} {lost : List Bool} {B : List UInt8} {L2 : List Bool}
theorem BK.next (S : BK w lo12 g12 K c12 g13 lo9 hi9 A9 G AL lost B L2 wr) (hb : Below wr.heap.size wr w') : BK w lo12 g12 K c12 g13 lo9 hi9 A9 G AL lost B L2 w' :=
  ⟨own_next S.ob hb, S.lb.next hb, bt S.kp hb, S.rg.next hb, S.rl.next hb, S.n1, S.n2, S.n3, S.n4, S.n5⟩
theorem BK.setB (S : BK w lo12 g12 K c12 g13 lo9 hi9 A9 G AL lost B L2 wr) (i : Nat) (x : UInt8) : BK w lo12 g12 K c12 g13 lo9 hi9 A9 G AL lost (B.set i x) L2 (wr.setCell ⟨g12, i, none⟩ (bv x)) :=
  ⟨by rw [List.map_set]; exact own_set S.ob i _, S.lb.far (p := ⟨g12, i, none⟩) (fun e => S.n1 e.symm) _, S.kp.setCell (p := ⟨g12, i, none⟩) (by show w.heap.size ≤ g12; have := S.n2; have := S.n3; have := S.n4; omega) _, S.rg.far (p := ⟨g12, i, none⟩) (.inr S.n4) _, S.rl.far (p := ⟨g12, i, none⟩) (.inr (by show w.heap.size ≤ g12; have := S.n2; have := S.n3; have := S.n4; omega)) _, S.n1, S.n2, S.n3, S.n4, S.n5⟩
theorem BK.setL (S : BK w lo12 g12 K c12 g13 lo9 hi9 A9 G AL lost B L2 wr) (i : Nat) (x : Bool) : BK w lo12 g12 K c12 g13 lo9 hi9 A9 G AL lost B (L2.set i x) (wr.setCell ⟨g13, i, none⟩ (bo x)) :=
  ⟨ownsRow_setCell_other S.ob (a := ⟨g13, i, none⟩) (fun e => S.n1 (Option.some.inj e)) _, by rw [List.map_set]; exact S.lb.put i _, S.kp.setCell (p := ⟨g13, i, none⟩) (by show w.heap.size ≤ g13; have := S.n2; have := S.n3; have := S.n5; omega) _, S.rg.far (p := ⟨g13, i, none⟩) (.inr S.n5) _, S.rl.far (p := ⟨g13, i, none⟩) (.inr (by show w.heap.size ≤ g13; have := S.n2; have := S.n3; have := S.n5; omega)) _, S.n1, S.n2, S.n3, S.n4, S.n5⟩
end
set_option maxRecDepth 100000 in
set_option maxHeartbeats 1000000 in
theorem lawBack_core (c j : Nat) (hc : c < 256) (hj : j < 256) (A : Option Addr) (fs : List Fr) (m cap : Nat) (AL : Option Addr) (lost : List Bool) (m2 cap2 : Nat) (w : World) (hrd : RdL w 0 w.heap.size A (frs fs)) (hm : fs.length = m) (hm60 : m ≤ 60) (hok : ∀ f ∈ fs, f.Ok) (hrl : RdL w 0 w.heap.size AL (lost.map bo)) (hl2 : lost.length = m2) (hm2 : m2 ≤ 60) :
    Calls Try.prog 11 #[.int .u8 (c : Int), .slice A m cap, .slice AL m2 cap2, .int .u8 (j : Int)] w fun e w' => e = .returned (.bool true) ∧ Below w.heap.size w w' := by
  obtain ⟨ib, hib, hbz0, hbz1, hbz2⟩ := info_parts infoBool
  have d1 : decide (60 < (m : Int)) = false := decide_eq_false (by omega)
  have d2 : decide (60 < (m2 : Int)) = false := decide_eq_false (by omega)
  have hmade := made_any c hc A fs m cap 0 w.heap.size w hrd (Nat.le_refl _) hm (by omega) hok
  have hgood := fun wz (h : RdL wz 0 w.heap.size A (frs fs)) hs => good_any A fs m cap 0 w.heap.size wz h hs hm (by omega) hok
  have hgd := goods_good hok
  have hgl := goods_len fs
  have hk1 : 1 ≤ madeK c := by unfold madeK; omega
  have hk2 : madeK c ≤ 20 := by unfold madeK; omega
  have hmk := mk_row (P := Try.prog) 75 4 ib _ Try.underlying75 hib hbz0 rfl hbz1 (by omega) (madeK c) (by omega)
  generalize madeK c = k at *
  generalize goods fs = G at *
  obtain ⟨M, hM⟩ : ∃ M, M = G.length := ⟨_, rfl⟩
  have hM60 : M ≤ 60 := by omega
  have hstl := st_len hk1 hgd
  have hstn := st_next k G
  have hmil : G.length ≤ 1000000 := by omega
  obtain ⟨jj, hjj⟩ : ∃ jj, jj = j % 40 := ⟨_, rfl⟩
  have hj40 : jj < 40 := by omega
  have tj : (j : Int).tmod 40 = (jj : Int) := by rw [hjj, Int.tmod_eq_emod_of_nonneg (by omega)]; rfl
  have wj : IntKind.i64.wrap (j : Int) = (j : Int) := IntWalk.i64_in _ (by omega)
  have wjj : IntKind.i64.wrap (jj : Int) = (jj : Int) := IntWalk.i64_in _ (by omega)
  have hring := ring_flip hk1 hgd hmil (lost := lost) (lo := lostTo k lost k) hj40 (fun a ha => by rw [lostTo_get ha, decide_eq_true ha, Bool.true_and])
  rw [← hM] at hstn
  obtain ⟨B, hB⟩ : ∃ B, B = (st k G).1 := ⟨_, rfl⟩
  rw [← hB] at hstl hring
  have HRING := Lib.hid hring
  have HM := Lib.hid hM
  have HB := Lib.hid hB
  have HSTL := Lib.hid hstl
  have HRD := Lib.hid hrd
  have HRL := Lib.hid hrl
  have HL2 := Lib.hid hl2
  clear hring hM hgd hstl hmil hrd hm hok hrl hl2 hjj
  go_enter Try.func11, Try.ntmps11
  go_wp2_with fail
  refine hmade.mono ?_
  rintro e w1 ⟨gr, gb, cb, rfl, hRB, hg1, hg2, hb⟩
  rw [hstn, ← HB.out] at hRB
  have HR1 := Lib.hid hRB
  have HK1 := Lib.hid hb
  have hs1 := hb.size
  have hgo := hgood w1 (HRD.out.next hb) hs1
  clear hRB hb hmade hgood hB
  go_wp2_with fail
  refine hgo.mono ?_
  rintro e w2 ⟨⟨v9, rfl, ho9⟩, hb2⟩
  rw [← HM.out] at ho9
  obtain ⟨A9, c9, rfl, hr9, hc9, hcm9, hA9⟩ := own_rd ho9
  have HR9 := Lib.hid hr9
  have HR2 := Lib.hid (HR1.out.next hb2)
  have HK2 := Lib.hid (bt HK1.out hb2)
  have hs2 := hb2.size
  have hby := bytes_any HR2.out (by rw [HSTL.out]; omega) (by rw [HSTL.out]; omega)
  unfold GotB at hby
  rw [HSTL.out] at hby
  obtain ⟨K, hK⟩ : ∃ K, K = 40 * k := ⟨_, rfl⟩
  have y1 : IntKind.i64.wrap (40 * (k : Int)) = (K : Int) := by rw [IntWalk.i64_in _ (by omega)]; omega
  rw [← hK] at hby
  have hK800 : K ≤ 800 := by omega
  have hK1 : 40 ≤ K := by omega
  have HKK := Lib.hid hK
  clear ho9 hr9 hb2 hgo HR1 HK1 hK
  have e1 : ((K : Int) != (K : Int)) = false := by rw [bne_eq_false_iff_eq]
  go_wp2_with fail
  refine hby.mono ?_
  rintro e w3 ⟨⟨v12, rfl, ho12⟩, hb3⟩
  obtain ⟨g12, c12, rfl⟩ := own_some ho12 (by omega)
  obtain ⟨_, _, e', _, hc12, _, _⟩ := own_rd ho12
  injection e' with e2 _ e3
  subst e2 e3
  have hg12 := own_lt ho12 (b := g12) rfl
  have hKp := bt HK2.out hb3
  have hbk : BK w w2.heap.size g12 K c12 w3.heap.size w1.heap.size w2.heap.size A9 G AL lost (flipTo B lost jj 0) (lostTo k lost 0) (w3.alloc (.cells (Array.replicate k (Value.bool false)) 4)) := by
    have hal := bl w3 (.cells (Array.replicate k (Value.bool false)) 4)
    refine ⟨own_next ho12 hal, ?_, bt hKp hal, (HR9.out.next hb3).next hal, (HRL.out.next hKp).next hal, by omega, hs1, hs2, hg12.1, by omega⟩
    have h := Blk.mk w3 4 ((lostTo k lost 0).map bo)
    rw [show (lostTo k lost 0).map bo = List.replicate k (Value.bool false) by unfold lostTo; rw [List.map_replicate]; rfl] at h ⊢
    rw [List.toArray_replicate] at h
    exact h
  have HBK := Lib.hid hbk
  clear hb3 hby ho12 hKp hbk
  go_wp2_with fail
  go_loopw [14] (fun s14 wr => ∃ i : Nat, s14 = .int .i64 (i : Int) ∧ i ≤ k ∧ BK w w2.heap.size g12 K c12 w3.heap.size w1.heap.size w2.heap.size A9 G AL lost (flipTo B lost jj i) (lostTo k lost i) wr) (fun s14 _ => k - (intOf s14).toNat)
  case atStart => exact ⟨0, rfl, by omega, HBK.out⟩
  case round =>
    obtain ⟨i, rfl, hi0, hS⟩ := hrel
    have HS := Lib.hid hS
    clear hS
    by_cases hi : i < k
    · have di : decide (i < k) = true := decide_eq_true hi
      by_cases hlt : lost.getD i false = true
      · have him : i < m2 := by
          rw [← HL2.out]
          rw [List.getD_eq_getElem?_getD] at hlt
          rcases Nat.lt_or_ge i lost.length with h | h
          · exact h
          · rw [List.getElem?_eq_none h] at hlt; cases hlt
        have dm : decide (i < m2) = true := decide_eq_true him
        obtain ⟨bL, oL, rfl, _, _, _, hcL⟩ := HS.out.rl.some (by rw [List.length_map, HL2.out]; omega)
        have cL : wr.cell? ⟨bL, oL + i, none⟩ = some (.bool true) := by
          refine hcL i _ ?_
          have hil : i < lost.length := by rw [HL2.out]; exact him
          rw [List.getD_eq_getElem?_getD, List.getElem?_eq_getElem hil] at hlt
          rw [List.getElem?_map, List.getElem?_eq_getElem hil]
          exact congrArg (fun x => some (bo x)) hlt
        have i0 : (0 : Int) ≤ (i : Int) := by omega
        have i1 : (i : Int) < (m2 : Int) := by omega
        have i2 : (i : Int) < (k : Int) := by omega
        have hl13 : i < (lostTo k lost i).length := by rw [lostTo_len]; exact hi
        obtain ⟨b13, c13⟩ : ∃ b : Bool, wr.cell? ⟨w3.heap.size, i, none⟩ = some (.bool b) := ⟨(lostTo k lost i)[i], by
          have := HS.out.lb.cell i
          rw [List.getElem?_map, List.getElem?_eq_getElem hl13] at this
          exact this⟩
        have f13 := HS.out.lb.free i
        obtain ⟨p, hp⟩ : ∃ p, p = 40 * i := ⟨_, rfl⟩
        have yp : IntKind.i64.wrap (40 * (i : Int)) = (p : Int) := by rw [IntWalk.i64_in _ (by omega)]; omega
        obtain ⟨q, hq⟩ : ∃ q, q = p + jj := ⟨_, rfl⟩
        have yq : IntKind.i64.wrap ((p : Int) + (jj : Int)) = (q : Int) := by rw [IntWalk.i64_in _ (by omega)]; omega
        have hqK : q < K := by have := HKK.out; omega
        have q0 : (0 : Int) ≤ (q : Int) := by omega
        have q1 : (q : Int) < (K : Int) := by omega
        have hql : q < (flipTo B lost jj i).length := by rw [flipTo_len, HSTL.out, ← HKK.out]; exact hqK
        obtain ⟨x, hx⟩ : ∃ x, (flipTo B lost jj i)[q]? = some x := ⟨_, List.getElem?_eq_getElem hql⟩
        have HS1 := Lib.hid (HS.out.setL i true)
        obtain ⟨_, _, e', hr12, _, _, _⟩ := own_rd HS1.out.ob
        injection e' with e2 _ e3
        subst e2 e3
        obtain ⟨b', o', e', _, _, _, hcr⟩ := hr12.some (by rw [List.length_map]; omega)
        injection e' with e'
        injection e' with e2 e3 _
        subst e2 e3
        have c12' : (wr.setCell ⟨w3.heap.size, i, none⟩ (.bool true)).cell? ⟨g12, q, none⟩ = some (bv x) := by
          have := hcr q (bv x) (by rw [List.getElem?_map, hx]; rfl)
          rwa [Nat.zero_add] at this
        have f12 := HS.out.ob.frozenAt q
        have hxor := xor_one x
        obtain ⟨y, hy⟩ : ∃ y, y = x ^^^ 1 := ⟨_, rfl⟩
        rw [← hy] at hxor
        have HS2 := Lib.hid (HS1.out.setB q y)
        have HFL : Hid (flipTo B lost jj (i + 1) = (flipTo B lost jj i).set q y ∧ lostTo k lost (i + 1) = (lostTo k lost i).set i true) := Lib.hid (by
          refine ⟨?_, ?_⟩
          · show (if lost.getD i false = true then _ else _) = _
            rw [if_pos hlt, ← hp, ← hq, List.getD_eq_getElem?_getD, hx, hy]
            rfl
          · show (if lost.getD i false = true then _ else _) = _
            rw [if_pos hlt])
        unfold bv at c12'
        clear hlt hcL hcr hr12 hx hy hp hq hql hl13 HS1 him hi
        go_wp2_with fail
        go_roundw
        case rel => exact ⟨i + 1, by go_num, by omega, by rw [HFL.out.1, HFL.out.2]; exact HS2.out⟩
        case measure => simp [intOf]; omega
      · have HFL : Hid (flipTo B lost jj (i + 1) = flipTo B lost jj i ∧ lostTo k lost (i + 1) = lostTo k lost i) := Lib.hid ⟨by show (if lost.getD i false = true then _ else _) = _; rw [if_neg hlt], by show (if lost.getD i false = true then _ else _) = _; rw [if_neg hlt]⟩
        by_cases him : i < m2
        · have dm : decide (i < m2) = true := decide_eq_true him
          obtain ⟨bL, oL, rfl, _, _, _, hcL⟩ := HS.out.rl.some (by rw [List.length_map, HL2.out]; omega)
          have cL : wr.cell? ⟨bL, oL + i, none⟩ = some (.bool false) := by
            refine hcL i _ ?_
            have hil : i < lost.length := by rw [HL2.out]; exact him
            rw [List.getD_eq_getElem?_getD, List.getElem?_eq_getElem hil] at hlt
            rw [List.getElem?_map, List.getElem?_eq_getElem hil]
            have : lost[i] = false := by simpa using hlt
            exact congrArg (fun x => some (bo x)) this
          have i0 : (0 : Int) ≤ (i : Int) := by omega
          have i1 : (i : Int) < (m2 : Int) := by omega
          clear hcL hlt
          go_wp2_with fail
          go_roundw
          case rel => exact ⟨i + 1, by go_num, by omega, by rw [HFL.out.1, HFL.out.2]; exact HS.out⟩
          case measure => simp [intOf]; omega
        · have dm : decide (i < m2) = false := decide_eq_false him
          clear hlt
          go_wp2_with fail
          go_roundw
          case rel => exact ⟨i + 1, by go_num, by omega, by rw [HFL.out.1, HFL.out.2]; exact HS.out⟩
          case measure => simp [intOf]; omega
    · have di : decide (i < k) = false := decide_eq_false hi
      have hik : i = k := by omega
      subst i
      obtain ⟨_, _, e', hr12, hk12, _, _⟩ := own_rd HS.out.ob
      injection e' with e2 _ e3
      subst e2 e3
      have hop := open_ok (some ⟨g12, 0, none⟩) (flipTo B lost jj k) k c12 _ _ wr hr12 (Nat.le_refl _) (by rw [flipTo_len, HSTL.out]) hk1 (by omega) (by rw [← HKK.out]; exact hk12)
      rw [← HKK.out] at hop
      unfold GotR at hop
      obtain ⟨nx, hnx⟩ : ∃ nx, nx = nextTo (flipTo B lost jj k) k k := ⟨_, rfl⟩
      rw [← hnx] at hop
      have HNX := Lib.hid hnx
      obtain ⟨fr, hfr⟩ : ∃ fr, fr = keptN k M := ⟨_, rfl⟩
      have hfr1 := keptN_le (k := k) (n := M) hk1
      have hkept := kept_any k M (by omega) (by omega)
      rw [show (if k < M then M - k + 1 else 1) = fr from hfr.symm] at hkept
      rw [← hfr] at hfr1
      obtain ⟨hfr1, hfr2⟩ := hfr1
      have HFR := Lib.hid hfr
      clear hnx hfr hr12 hk12 hi hi0 tj wj wjj hmk
      go_wp2_with fail
      refine hop.mono ?_
      rintro e w4 ⟨gr2, gb2, cb2, rfl, hRB2, hg3, hg4, hb4⟩
      have HRB2 := Lib.hid hRB2
      have HLB := Lib.hid (HS.out.lb.next hb4)
      have HR9b := Lib.hid (HS.out.rg.next hb4)
      have HK4 := Lib.hid (bt HS.out.kp hb4)
      have hs4 : w2.heap.size ≤ w4.heap.size := Nat.le_trans HS.out.n4 (Nat.le_trans (Nat.le_of_lt (own_lt HS.out.ob (b := g12) rfl).2) hb4.size)
      have hll : ((lostTo k lost k).map bo).length = k := by rw [List.length_map, lostTo_len]
      have HLL := Lib.hid hll
      clear hRB2 hb4 hop hll HS
      go_wp2_with fail
      refine (hkept _).mono ?_
      rintro e w5 ⟨rfl, rfl⟩
      go_wp2_with fail
      go_loopw [18, 19] (fun s18 s19 wz => ∃ i n : Nat, s18 = .int .i64 (n : Int) ∧ s19 = .int .i64 (i : Int) ∧ fr ≤ i ∧ i ≤ M + 1 ∧ Best k (lostTo k lost k) fr i n ∧ wz = w4) (fun _ s19 _ => M + 1 - (intOf s19).toNat)
      case atStart => exact ⟨fr, 1, rfl, rfl, Nat.le_refl _, hfr2, Best.start, rfl⟩
      case round =>
        obtain ⟨i, n, rfl, rfl, hi1, hi2, hbe, rfl⟩ := hrel
        have HBE := Lib.hid hbe
        clear hbe
        by_cases hi : i ≤ M
        · have di : decide (i ≤ M) = true := decide_eq_true hi
          obtain ⟨r, hr⟩ : ∃ r, r = i % k := ⟨_, rfl⟩
          have hrk : r < k := by rw [hr]; exact Nat.mod_lt _ hk1
          have tr : (i : Int).tmod (k : Int) = (r : Int) := by rw [hr, Int.tmod_eq_emod_of_nonneg (by omega)]; rfl
          have wr1 : IntKind.i64.wrap (r : Int) = (r : Int) := IntWalk.i64_in _ (by omega)
          have d0 : ((k : Int) == 0) = false := by rw [beq_eq_false_iff_ne]; omega
          have r0 : (0 : Int) ≤ (r : Int) := by omega
          have r1 : (r : Int) < (k : Int) := by omega
          have hrl : r < (lostTo k lost k).length := by rw [lostTo_len]; exact hrk
          have c13 : wr.cell? ⟨w3.heap.size, r, none⟩ = some (.bool ((lostTo k lost k)[r])) := by
            have := HLB.out.cell r
            rw [List.getElem?_map, List.getElem?_eq_getElem hrl] at this
            exact this
          by_cases hl : (lostTo k lost k)[r] = true
          · have HB2 := Lib.hid (HBE.out.lost (by rw [← hr, List.getD_eq_getElem?_getD, List.getElem?_eq_getElem hrl]; exact hl))
            rw [hl] at c13
            clear hr hrl hl
            go_wp2_with fail
            go_roundw
            case rel => exact ⟨i + 1, n, rfl, by go_num, by omega, by omega, HB2.out, trivial⟩
            case measure => simp [intOf]; omega
          · have hl' : (lostTo k lost k)[r] = false := by simpa using hl
            have HB2 := Lib.hid (Best.kept (k := k) (lo := lostTo k lost k) (s := fr) (i := i) (n := n) hi1 (by rw [← hr, List.getD_eq_getElem?_getD, List.getElem?_eq_getElem hrl]; exact hl'))
            rw [hl'] at c13
            clear hr hrl hl hl'
            go_wp2_with fail
            go_roundw
            case rel => exact ⟨i + 1, i + 1, by go_num, by go_num, by omega, by omega, HB2.out, trivial⟩
            case measure => simp [intOf]; omega
        · have di : decide (i ≤ M) = false := decide_eq_false hi
          have hiM : i = M + 1 := by omega
          subst i
          have hle := HBE.out.le
          have hne := Best.next hk1 HRING.out (by rw [← HM.out]; omega) (n := n) (by rw [← HM.out, ← HFR.out]; exact HBE.out)
          rw [← HNX.out] at hne
          subst hne
          have hnM : nx ≤ M + 1 := by omega
          have hnx1 : 1 ≤ nx := hle.1
          obtain ⟨p, hp⟩ : ∃ p, p = nx - 1 := ⟨_, rfl⟩
          have hall := ring_all hk1 HRING.out (lostTo_len k lost k) (N := nx) hnx1 (by rw [← HM.out]; exact hnM)
          rw [← HM.out, ← HFR.out] at hall
          have hall2 : ∀ mn, mn = min fr nx → allE (flipTo B lost jj k) k nx = expF (G.take p) (lostTo k lost k) mn (p + 1 - mn) := fun mn e => by rw [hall, ← e, ← hp, show nx - mn = p + 1 - mn by omega]
          have hlo : RdL wr 0 wr.heap.size (some ⟨w3.heap.size, 0, none⟩) ((lostTo k lost k).map bo) := .inr ⟨w3.heap.size, 0, rfl, Nat.zero_le _, HLB.out.lt, HLB.out.lt, fun j u hu => by rw [Nat.zero_add]; exact (HLB.out.cell j).trans hu⟩
          have hg9 : RdL wr 0 wr.heap.size A9 (frs (G.take p)) := by
            rw [frs_take]
            exact (HR9b.out.take _).wide (Nat.zero_le _) hs4
          have hare := fun mn (hm : mn = min fr nx) => are_any HRB2.out (by rw [flipTo_len, HSTL.out]) hk1 (by omega) hnx1 (by omega) A9 (G.take p) p c9 hg9 (by rw [List.length_take, ← HM.out]; omega) (by omega) mn (by omega) (by omega) (some ⟨w3.heap.size, 0, none⟩) (lostTo k lost k) k k hlo (lostTo_len k lost k) hk1 (by omega) (hall2 mn hm)
          rw [hp] at hare
          have hare1 := fun h => hare fr h
          have hare2 := fun h => hare nx h
          have hnxt := next_any HRB2.out
          have wp : IntKind.i64.wrap ((nx : Int) - 1) = ((nx - 1 : Nat) : Int) := by rw [IntWalk.i64_in _ (by omega)]; omega
          have wn : IntKind.u64.wrap (nx : Int) = (nx : Int) := IntWalk.u64_in _ (by omega)
          have p0 : (0 : Int) ≤ ((nx - 1 : Nat) : Int) := by omega
          have p1 : ((nx - 1 : Nat) : Int) ≤ (c9 : Int) := by omega
          have p2 : nx - 1 ≤ c9 := by omega
          have en : ((nx : Int) == (nx : Int)) = true := by rw [beq_iff_eq]
          clear hp hare hall2 hlo hg9 hall HBE hle hi hi2 hi1 HB HR9 HR2 HK2 HBK
          go_wp2_with fail
          refine hnxt.mono ?_
          rintro e w5 ⟨rfl, rfl⟩
          go_wp2_with fail
          all_goals
            first
              | (with_reducible refine (hare1 (by omega)).mono ?_)
              | (with_reducible refine (hare2 (by omega)).mono ?_)
            rintro e w6 ⟨rfl, hb6⟩
            have HK6 := Lib.hid (bt HK4.out hb6)
            clear hb6 hare1 hare2
            go_wp2_with fail
            refine (works30_any _).mono ?_
            rintro e w7 ⟨rfl, hb7⟩
            have HK7 := Lib.hid (bt HK6.out hb7)
            clear hb7
            go_wp2_with fail
            go_ret
            exact ⟨rfl, HK7.out⟩
theorem bools_flat : ∀ L : List Bool, L.flatMap (fun b => [bo b]) = L.map bo
  | [] => rfl
  | b :: L => by rw [List.flatMap_cons, bools_flat L]; rfl
theorem open_bools {W : World} {v : Value} (h : VSat W (.slice .bool) false v) : ∃ A L cap, v = .slice A (List.length L) cap ∧ RdL W 0 W.heap.size A (List.map bo L) := by
  obtain ⟨A, L, cap, h1, h2, _, _⟩ := open_slice_of (fun b => [bo b]) (fun _ => True) .bool 1 rfl (fun _ => rfl) (by decide) (fun cs hs => by
    obtain ⟨b, rfl⟩ := hs
    exact ⟨b, rfl, trivial⟩) h
  exact ⟨A, L, cap, h1, by rw [← bools_flat]; exact h2⟩
theorem walkBack (v0 v1 v2 v3 : Value) (W : World) (h0 : VSat W (.int .u8) false v0) (h1 : VSat W (.slice FrSh) false v1) (h2 : VSat W (.slice .bool) false v2) (h3 : VSat W (.int .u8) false v3) :
    Calls Try.prog 11 #[v0, v1, v2, v3] W fun e W' => e = .returned (.bool true) ∧ Below W.heap.size W W' := by
  obtain ⟨a, rfl, ha⟩ := open_u8 h0
  obtain ⟨A, L, cap, rfl, hr, hok⟩ := open_frames h1
  obtain ⟨A2, L2, cap2, rfl, hr2⟩ := open_bools h2
  obtain ⟨j, rfl, hj⟩ := open_u8 h3
  by_cases h : 60 < L.length ∨ 60 < L2.length
  · exact lawBack_out a j A A2 L.length cap L2.length cap2 h W
  · exact lawBack_core a j ha hj A L L.length cap A2 L2 L2.length cap2 W hr rfl (by omega) hok hr2 rfl (by omega)
end Rec
end Go.Proofs.Ytijijfggppnbpaa
