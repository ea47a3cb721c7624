/-
  The law VoteHolds, walked and joined.
-/
import Derived.Test.YtoaagemofjddiaaVotL1
import Derived.Deep.RegionHeld3
namespace Go.Proofs.Ytoaagemofjddiaa
open Go.RowKit
set_option linter.unusedVariables false
namespace Vot

/-- what channel j tells, among those told -/
def pc (o : List Bool) (l : List Sa) (j : Nat) : List Int := if !o.getD j false && tells l j then [xat l j] else []
theorem told3 (o : List Bool) (l : List Sa) : told o l 3 = pc o l 0 ++ pc o l 1 ++ pc o l 2 := rfl
theorem pc_le (o : List Bool) (l : List Sa) (j : Nat) : (pc o l j).length ≤ 1 := by unfold pc; split <;> simp
theorem pc_one {o : List Bool} {l : List Sa} {j : Nat} (h1 : o.getD j false = false) (h2 : tells l j = true) : pc o l j = [xat l j] := by unfold pc; rw [h1, h2]; rfl
theorem les_app (a b : List Int) (x : Int) : les (a ++ b) x = les a x + les b x := by unfold les; exact List.countP_append
theorem lts_app (a b : List Int) (x : Int) : lts (a ++ b) x = lts a x + lts b x := by unfold lts; exact List.countP_append
theorem les_one {y x : Int} (h : y ≤ x) : les [y] x = 1 := by simp [les, h]
theorem lts_one {y x : Int} (h : x ≤ y) : lts [y] x = 0 := by simp [lts, h]
theorem mid_three {T a b c : List Int} {lo hi : Int} (e : T.length = a.length + b.length + c.length) (e1 : les T hi = les a hi + les b hi + les c hi) (e2 : lts T lo = lts a lo + lts b lo + lts c lo)
    (ha : a.length = 1 ∧ les a hi = 1 ∧ lts a lo = 0) (hb : b.length = 1 ∧ les b hi = 1 ∧ lts b lo = 0) (hc : c.length ≤ 1) : 0 < T.length ∧ lo ≤ mid T ∧ mid T ≤ hi := by
  have := lts_le c lo
  exact ⟨by omega, mid_between (by omega) (by omega) (by omega)⟩
/-- a channel that is near stays in -/
theorem cast_stays {p0 : Pa} {m : Int} {ok : Bool} {l : List Sa} {j : Nat} (h : p0.is j = false) (hf : fine p0.ap m ok l j = true) : ∀ k, (cast p0 m ok l k).is j = false
  | 0 => h
  | k + 1 => by
    have ih := cast_stays h hf k
    rw [cast_succ]
    generalize cast p0 m ok l k = p at *
    by_cases hk : k = j
    · subst hk
      unfold step
      rw [if_neg (by rw [h]; decide), if_pos hf, put_is]
      split
      · rfl
      · exact ih
    · rcases step_cases p0 m ok l p k with e | ⟨s, b, _, e, _⟩
      · rw [e]; exact ih
      · rw [e, put_is, if_neg (by omega)]; exact ih
/-- the plain law -/
theorem holds_step {p : Pa} {l : List Sa} {x : Int} {k : Nat} (hk : k < 3) (hn : p.out.length = 3) (hap : p.ap = 256) (ho : ∀ j, j < 3 → j ≠ k → p.is j = false)
    (ht : ∀ j, j < 3 → j ≠ k → tells l j = true ∧ x - 128 ≤ xat l j ∧ xat l j ≤ x + 127) :
    0 < (told0 p l).length ∧ (x - 128 ≤ mid (told0 p l) ∧ mid (told0 p l) ≤ x + 127) ∧ (∀ j, j < 3 → j ≠ k → (castAll p l).is j = false) := by
  have e0 : told0 p l = told p.out l 3 := by unfold told0; rw [hn]
  have hT : 0 < (told0 p l).length ∧ x - 128 ≤ mid (told0 p l) ∧ mid (told0 p l) ≤ x + 127 := by
    rw [e0, told3]
    have one : ∀ j, j < 3 → j ≠ k → (pc p.out l j).length = 1 ∧ les (pc p.out l j) (x + 127) = 1 ∧ lts (pc p.out l j) (x - 128) = 0 := fun j hj hjk => by
      obtain ⟨h1, h2, h3⟩ := ht j hj hjk
      rw [pc_one (ho j hj hjk) h1]
      exact ⟨rfl, les_one h3, lts_one h2⟩
    have : k = 0 ∨ k = 1 ∨ k = 2 := by omega
    rcases this with rfl | rfl | rfl
    · exact mid_three (a := pc p.out l 1) (b := pc p.out l 2) (c := pc p.out l 0) (by simp only [List.length_append]; omega) (by simp only [les_app]; omega) (by simp only [lts_app]; omega) (one 1 (by decide) (by decide)) (one 2 (by decide) (by decide)) (pc_le _ _ _)
    · exact mid_three (a := pc p.out l 0) (b := pc p.out l 2) (c := pc p.out l 1) (by simp only [List.length_append]; omega) (by simp only [les_app]; omega) (by simp only [lts_app]; omega) (one 0 (by decide) (by decide)) (one 2 (by decide) (by decide)) (pc_le _ _ _)
    · exact mid_three (a := pc p.out l 0) (b := pc p.out l 1) (c := pc p.out l 2) (by simp only [List.length_append]) (by simp only [les_app]) (by simp only [lts_app]) (one 0 (by decide) (by decide)) (one 1 (by decide) (by decide)) (pc_le _ _ _)
  refine ⟨hT.1, hT.2, fun j hj hjk => ?_⟩
  unfold castAll
  refine cast_stays (ho j hj hjk) ?_ _
  obtain ⟨h1, h2, h3⟩ := ht j hj hjk
  obtain ⟨g1, g2, g3⟩ := hT
  unfold fine
  rw [h1, decide_eq_true g1, hap, decide_eq_true (by omega), decide_eq_true (by omega)]
  rfl
theorem open_i8 {W : World} {v : Value} (h : VSat W (.slice (.int .i8)) false v) : ∃ (A : Option Addr) (L : List Int) (cap : Nat), v = .slice A L.length cap ∧ RdL W 0 W.heap.size A (L.map (Value.int .i8)) ∧ (∀ x ∈ L, -128 ≤ x ∧ x ≤ 127) := by
  obtain ⟨A, L, cap, h1, h2, h3, h4⟩ := open_slice_of (fun x : Int => [Value.int .i8 x]) (fun x => -128 ≤ x ∧ x ≤ 127) (.int .i8) 1 rfl (fun _ => rfl) (by decide) (by
    rintro cs ⟨i, rfl, hi⟩
    exact ⟨i, rfl, bounds_i8 hi⟩) h
  rw [flatMap_one] at h2
  exact ⟨A, L, cap, h1, h2, h3⟩
/-- the panel, and what came in, in memory -/
structure VH (w : World) (A1 A2 A3 : Option Addr) (R Q O : List Int) (gp : Nat) (p : Pa) (wr : World) : Prop where
  pb : Blk wr gp 69 (pac p)
  r1 : RdL wr 0 w.heap.size A1 (R.map (Value.int .i64))
  r2 : RdL wr 0 w.heap.size A2 (Q.map (Value.int .i64))
  r3 : RdL wr 0 w.heap.size A3 (O.map (Value.int .i8))
  keep : Below w.heap.size w wr
  gp0 : w.heap.size ≤ gp
section
variable {w wr w' : World} {A1 A2 A3 : Option Addr} {R Q O : List Int} {gp : Nat} {p q : Pa}
theorem VH.next (S : VH w A1 A2 A3 R Q O gp p wr) (hb : Below wr.heap.size wr w') : VH w A1 A2 A3 R Q O gp p w' :=
  ⟨S.pb.next hb, S.r1.next hb, S.r2.next hb, S.r3.next hb, bt S.keep hb, S.gp0⟩
theorem VH.put (S : VH w A1 A2 A3 R Q O gp p wr) (hP : Blk w' gp 69 (pac q)) (hg : wr.grownBy w' (some gp)) : VH w A1 A2 A3 R Q O gp q w' :=
  ⟨hP, S.r1.grown hg (fun g e => by have := Option.some.inj e; have := S.gp0; omega), S.r2.grown hg (fun g e => by have := Option.some.inj e; have := S.gp0; omega), S.r3.grown hg (fun g e => by have := Option.some.inj e; have := S.gp0; omega), bgrow S.keep hg S.keep.size S.gp0, S.gp0⟩
/-- another block of the call's own has turned -/
theorem VH.set (S : VH w A1 A2 A3 R Q O gp p wr) {g : Nat} (h1 : w.heap.size ≤ g) (h2 : g ≠ gp) (i : Nat) (u : Value) : VH w A1 A2 A3 R Q O gp p (wr.setCell ⟨g, i, none⟩ u) :=
  ⟨S.pb.far (p := ⟨g, i, none⟩) (fun e => h2 e.symm) u, S.r1.far (p := ⟨g, i, none⟩) (.inr h1) u, S.r2.far (p := ⟨g, i, none⟩) (.inr h1) u, S.r3.far (p := ⟨g, i, none⟩) (.inr h1) u, S.keep.setCell h1 u, S.gp0⟩
end
theorem rd_cell {w : World} {lo hi : Nat} {A : Option Addr} {k : IntKind} {L : List Int} (R : RdL w lo hi A (L.map (Value.int k))) {i : Nat} (h : i < L.length) : ∃ b off, A = some ⟨b, off, none⟩ ∧ b < hi ∧ b < w.heap.size ∧ w.cell? ⟨b, off + i, none⟩ = some (.int k L[i]) := by
  obtain ⟨b, off, rfl, _, h2, h3, hc⟩ := R.some (by rw [List.length_map]; omega)
  exact ⟨b, off, rfl, h2, h3, hc i _ (by rw [List.getElem?_map, List.getElem?_eq_getElem h]; rfl)⟩
/-- a channel's deviation -/
def dv (O : List Int) (i j : Nat) : Int := O.getD (2 * i + j % 2) 0
theorem dv_bnd {O : List Int} (h : ∀ x ∈ O, -128 ≤ x ∧ x ≤ 127) (i j : Nat) : -128 ≤ dv O i j ∧ dv O i j ≤ 127 := by
  unfold dv
  rw [List.getD_eq_getElem?_getD]
  by_cases hh : 2 * i + j % 2 < O.length
  · rw [List.getElem?_eq_getElem hh]; exact h _ (List.getElem_mem hh)
  · rw [List.getElem?_eq_none (by omega)]; decide
set_option maxRecDepth 100000 in
theorem mk_sams : ∀ w, (Instr.makeSlice 85 (.int .i64 3) (.int .i64 3)).run Try.prog w = .ok (.slice (some ⟨w.heap.size, 0, none⟩) 3 3) (w.alloc (.cells #[.bool false, .int .i64 0, .bool false, .int .i64 0, .bool false, .int .i64 0] 92)) := fun w => by kernel_rfl
set_option maxRecDepth 100000 in
set_option maxHeartbeats 1000000 in
theorem lawHolds_out (A1 A2 A3 : Option Addr) (n1 n2 n3 k1 k2 k3 : Nat) (v : Value) (h : 60 < n1) (w : World) :
    Calls Try.prog 10 #[.slice A1 n1 k1, .slice A2 n2 k2, .slice A3 n3 k3, v] w fun e w' => e = .returned (.bool true) ∧ Below w.heap.size w w' := by
  have d1 : decide (60 < (n1 : Int)) = true := decide_eq_true (by omega)
  have d1' : decide (60 < n1) = true := decide_eq_true h
  clear h
  go_enter Try.func10, Try.ntmps10
  go_wp2_with fail
  refine (works29_any _).mono ?_
  rintro e w1 ⟨rfl, hb⟩
  go_wp2
  go_ret
  exact ⟨rfl, hb⟩
theorem tmod_bnd (r : Int) : -1073741824 < r.tmod 1073741824 ∧ r.tmod 1073741824 < 1073741824 := by
  rcases Int.le_total 0 r with h | h
  · rw [Int.tmod_eq_emod_of_nonneg h]; omega
  · have e := Int.neg_tmod (-r) 1073741824
    rw [Int.neg_neg] at e
    rw [e, Int.tmod_eq_emod_of_nonneg (by omega)]
    omega
theorem tmod3_bnd (r : Int) : -3 < r.tmod 3 ∧ r.tmod 3 < 3 := by
  rcases Int.le_total 0 r with h | h
  · rw [Int.tmod_eq_emod_of_nonneg h]; omega
  · have e := Int.neg_tmod (-r) 3
    rw [Int.neg_neg] at e
    rw [e, Int.tmod_eq_emod_of_nonneg (by omega)]
    omega
theorem getD_set_self {Ls : List Sa} {j : Nat} (h : j < Ls.length) (s d : Sa) : (Ls.set j s).getD j d = s := by rw [getD_set, if_pos ⟨rfl, h⟩]
theorem getD_set_ne {Ls : List Sa} {j t : Nat} (h : j ≠ t) (s d : Sa) : (Ls.set j s).getD t d = Ls.getD t d := by rw [getD_set, if_neg (fun hh => h hh.1)]
theorem smp_len {Ls : List Sa} (h : Ls.length = 3) : ∃ a b c, Ls = [a, b, c] := by
  match Ls, h with
  | [a, b, c], _ => exact ⟨a, b, c, rfl⟩
theorem smp_set {Ls : List Sa} {j : Nat} (hl : Ls.length = 3) (hj : j < 3) (s : Sa) : ((Ls.flatMap sac).set (j * 2) (.bool s.1)).set (j * 2 + 1) (.int .i64 s.2) = (Ls.set j s).flatMap sac := by
  obtain ⟨a, b, c, rfl⟩ := smp_len hl
  have : j = 0 ∨ j = 1 ∨ j = 2 := by omega
  rcases this with rfl | rfl | rfl <;> rfl
set_option maxRecDepth 100000 in
set_option maxHeartbeats 4000000 in
theorem lawHolds_core (A1 A2 A3 : Option Addr) (R Q O : List Int) (k1 k2 k3 m : Nat) (hm : m < 256) (w : World) (h1 : RdL w 0 w.heap.size A1 (R.map (Value.int .i64))) (h2 : RdL w 0 w.heap.size A2 (Q.map (Value.int .i64))) (h3 : RdL w 0 w.heap.size A3 (O.map (Value.int .i8)))
    (b1 : ∀ x ∈ R, -9223372036854775808 ≤ x ∧ x ≤ 9223372036854775807) (b2 : ∀ x ∈ Q, -9223372036854775808 ≤ x ∧ x ≤ 9223372036854775807) (b3 : ∀ x ∈ O, -128 ≤ x ∧ x ≤ 127) (h : ¬ 60 < R.length) :
    Calls Try.prog 10 #[.slice A1 R.length k1, .slice A2 Q.length k2, .slice A3 O.length k3, .int .u8 (m : Int)] w fun e w' => e = .returned (.bool true) ∧ Below w.heap.size w w' := by
  have d1 : decide (60 < (R.length : Int)) = false := decide_eq_false (by omega)
  have d1' : decide (60 < R.length) = false := decide_eq_false h
  have hnew : ∀ X : World, Calls Try.prog 31 #[.int .i64 3, .int .i64 256, .int .i64 2] X fun e w' => e = .returned (.tuple #[.agg (pac (new 3 256 2)).toArray, .int .i64 0]) ∧ Below X.heap.size X w' := fun X => new_yes 3 256 2 ⟨by decide, by decide, by decide, by decide, by decide, by decide⟩ X
  have HP := Lib.hid (show (new 3 256 2).ok 0 ∧ (new 3 256 2).out.length = 3 ∧ (new 3 256 2).ap = 256 ∧ ∀ j, (new 3 256 2).is j = false from ⟨new_ok (n := 3) (by decide) (by decide) (by decide) (by decide) (by decide) (by decide), rfl, rfl, fun j => match j with
    | 0 => rfl
    | 1 => rfl
    | 2 => rfl
    | _ + 3 => rfl⟩)
  have mk := mk_sams
  have mt : ((m : Int)).tmod 3 = ((m % 3 : Nat) : Int) := by rw [Int.tmod_eq_emod_of_nonneg (by omega)]; omega
  have y0 : IntKind.i64.wrap (m : Int) = (m : Int) := IntWalk.i64_in _ (by omega)
  obtain ⟨k, hk⟩ : ∃ k, k = m % 3 := ⟨_, rfl⟩
  rw [← hk] at mt
  have hk3 : k < 3 := by omega
  have y0' : IntKind.i64.wrap (k : Int) = (k : Int) := IntWalk.i64_in _ (by omega)
  obtain ⟨N, hN⟩ : ∃ N, N = R.length := ⟨_, rfl⟩
  rw [← hN] at d1 d1' h ⊢
  have HN := Lib.hid hN
  have HS := Lib.hid (show ∀ p wr gp, Blk wr gp 69 (pac p) → Below w.heap.size w wr → w.heap.size ≤ gp → VH w A1 A2 A3 R Q O gp p wr from fun p wr gp hB hb hg => ⟨hB, h1.below hb (.inl (Nat.le_refl _)), h2.below hb (.inl (Nat.le_refl _)), h3.below hb (.inl (Nat.le_refl _)), hb, hg⟩)
  have H1 := Lib.hid b1
  have H2 := Lib.hid b2
  have H3 := Lib.hid b3
  clear h1 h2 h3 b1 b2 b3 hN hk
  generalize new 3 256 2 = p0 at *
  go_enter Try.func10, Try.ntmps10
  go_wp2_with fail
  refine (hnew _).mono ?_
  rintro e w1 ⟨rfl, hb1⟩
  have S0 := Lib.hid (HS.out p0 _ _ (Blk.mk w1 69 (pac p0)) (bt hb1 (bl _ _)) hb1.size)
  unfold pac at S0 ⊢
  clear hnew hb1 HS
  go_wp2_with fail
  generalize w1.heap.size = gp at *
  generalize w1.alloc _ = w2 at *
  go_loopw [12] (fun u wr => ∃ (i : Nat) (p : Pa), i ≤ N ∧ u = .int .i64 (i : Int) ∧ p.ok i ∧ p.out.length = 3 ∧ p.ap = 256 ∧ (∀ j, j < 3 → j ≠ k → p.is j = false) ∧ VH w A1 A2 A3 R Q O gp p wr) (fun u _ => N - (intOf u).toNat)
  case atStart => exact ⟨0, p0, Nat.zero_le _, rfl, HP.out.1, HP.out.2.1, HP.out.2.2.1, fun j _ _ => HP.out.2.2.2 j, S0.out⟩
  case round =>
    clear S0 HP
    obtain ⟨i, p, hile, rfl, hok, hlen, hap, his, hS⟩ := hrel
    have HS := Lib.hid hS
    have HPP := Lib.hid (show p.ok i ∧ p.out.length = 3 ∧ p.ap = 256 ∧ (∀ j, j < 3 → j ≠ k → p.is j = false) from ⟨hok, hlen, hap, his⟩)
    clear hS hok hlen hap his
    by_cases hlt : i < N
    · have hil : i < R.length := by rw [← HN.out]; exact hlt
      have hltI : (i : Int) < (N : Int) := by omega
      have hi0 : (0 : Int) ≤ (i : Int) := by omega
      have y1 : IntKind.i64.wrap ((i : Int) + 1) = (i : Int) + 1 := IntWalk.i64_in _ (by omega)
      obtain ⟨b, off, rfl, hbh, hbs, q1⟩ := rd_cell HS.out.r1 hil
      have hb0 := H1.out _ (List.getElem_mem hil)
      generalize R[i] = r at *
      obtain ⟨x, hx⟩ : ∃ x, x = r.tmod 1073741824 := ⟨_, rfl⟩
      have hxb : -1073741824 < x ∧ x < 1073741824 := by rw [hx]; exact tmod_bnd r
      have mr : r.tmod 1073741824 = x := hx.symm
      have yr : IntKind.i64.wrap x = x := IntWalk.i64_in _ (by omega)
      have S1 := HS.out.next (bl wr (.cells #[.bool false, .int .i64 0, .bool false, .int .i64 0, .bool false, .int .i64 0] 92))
      have L1 := Blk.mk wr 92 [.bool false, .int .i64 0, .bool false, .int .i64 0, .bool false, .int .i64 0]
      have hgl1 : w.heap.size ≤ wr.heap.size := HS.out.keep.size
      have hgl2 : wr.heap.size ≠ gp := by have := HS.out.pb.lt; omega
      have HS1 := Lib.hid S1
      have HL1 := Lib.hid L1
      clear S1 L1 hx
      go_wp2_with fail
      generalize wr.heap.size = gl at *
      generalize wr.alloc _ = wb at *
      go_loopw [15] (fun u wx => ∃ (j : Nat) (Ls : List Sa), j ≤ 3 ∧ u = .int .i64 (j : Int) ∧ Ls.length = 3 ∧ (∀ t, t < j → Ls.getD t (false, 0) = (true, x + dv O i t)) ∧ VH w (some ⟨b, off, none⟩) A2 A3 R Q O gp p wx ∧ Blk wx gl 92 (Ls.flatMap sac)) (fun u _ => 3 - (intOf u).toNat)
      case atStart => exact ⟨0, [(false, 0), (false, 0), (false, 0)], by decide, rfl, rfl, fun t ht => by omega, HS1.out, HL1.out⟩
      case round =>
        clear HS1 HL1 HS
        obtain ⟨j, Ls, hj3, rfl, hLl, hLs, hS, hL⟩ := hrel
        have HS2 := Lib.hid hS
        have HL2 := Lib.hid hL
        have HLs := Lib.hid hLs
        clear hS hL hLs
        by_cases hjt : j < 3
        · have hjI : (j : Int) < 3 := by omega
          have hj0 : (0 : Int) ≤ (j : Int) := by omega
          have yj : IntKind.i64.wrap ((j : Int) + 1) = (j : Int) + 1 := IntWalk.i64_in _ (by omega)
          have m2 : ((j : Int)).tmod 2 = ((j % 2 : Nat) : Int) := by rw [Int.tmod_eq_emod_of_nonneg (by omega)]; omega
          obtain ⟨r2, hr2⟩ : ∃ r2, r2 = j % 2 := ⟨_, rfl⟩
          rw [← hr2] at m2
          have hr2' : r2 < 2 := by omega
          have HR2 := Lib.hid hr2
          clear hr2
          have z1 : IntKind.i64.wrap (2 * (i : Int)) = 2 * (i : Int) := IntWalk.i64_in _ (by omega)
          have z2 : IntKind.i64.wrap (r2 : Int) = (r2 : Int) := IntWalk.i64_in _ (by omega)
          obtain ⟨q, hq⟩ : ∃ q, q = 2 * i + r2 := ⟨_, rfl⟩
          have z3 : IntKind.i64.wrap (2 * (i : Int) + (r2 : Int)) = (q : Int) := by rw [IntWalk.i64_in _ (by omega)]; omega
          have HQ := Lib.hid (show dv O i j = O.getD q 0 by unfold dv; rw [hq, HR2.out])
          clear hq
          have c0 := HL2.out.free (j * 2)
          have c1 := HL2.out.free (j * 2 + 1)
          have hlF : (Ls.flatMap sac).length = 6 := by rw [flatMap_len sac 2 sac_len, hLl]
          have v0 : ∃ v, wr.cell? ⟨gl, j * 2, none⟩ = some v := ⟨_, (HL2.out.cell (j * 2)).trans (List.getElem?_eq_getElem (by omega))⟩
          have v1 : ∃ v, wr.cell? ⟨gl, j * 2 + 1, none⟩ = some v := ⟨_, (HL2.out.cell (j * 2 + 1)).trans (List.getElem?_eq_getElem (by omega))⟩
          obtain ⟨v0, v0⟩ := v0
          obtain ⟨v1, v1⟩ := v1
          have hfin : ∀ d, dv O i j = d → (∃ (j' : Nat) (Ls' : List Sa), j' ≤ 3 ∧ (Value.int .i64 ((j : Int) + 1)) = .int .i64 (j' : Int) ∧ Ls'.length = 3 ∧ (∀ t, t < j' → Ls'.getD t (false, 0) = (true, x + dv O i t)) ∧ VH w (some ⟨b, off, none⟩) A2 A3 R Q O gp p ((wr.setCell ⟨gl, j * 2, none⟩ (.bool true)).setCell ⟨gl, j * 2 + 1, none⟩ (.int .i64 (x + d))) ∧ Blk ((wr.setCell ⟨gl, j * 2, none⟩ (.bool true)).setCell ⟨gl, j * 2 + 1, none⟩ (.int .i64 (x + d))) gl 92 (Ls'.flatMap sac)) := by
            rintro d rfl
            refine ⟨j + 1, Ls.set j (true, x + dv O i j), by omega, by go_num, by simp [hLl], fun t ht => ?_, (HS2.out.set hgl1 hgl2 _ _).set hgl1 hgl2 _ _, ?_⟩
            · by_cases htj : j = t
              · subst htj
                rw [getD_set_self (by omega)]
              · rw [getD_set_ne htj]
                exact HLs.out t (by omega)
            · have := (HL2.out.put (j * 2) (.bool true)).put (j * 2 + 1) (.int .i64 (x + dv O i j))
              rw [smp_set hLl hjt (true, x + dv O i j)] at this
              exact this
          have HF := Lib.hid hfin
          have hdb := dv_bnd H3.out i j
          clear hfin
          obtain ⟨M, hM⟩ : ∃ M, M = O.length := ⟨_, rfl⟩
          by_cases hqM : q < O.length
          · obtain ⟨b3, o3, rfl, h3h, h3s, q3⟩ := rd_cell HS2.out.r3 hqM
            have hqe : O.getD q 0 = O[q] := by rw [List.getD_eq_getElem?_getD, List.getElem?_eq_getElem hqM]; rfl
            have HQ' := Lib.hid (HQ.out.trans hqe)
            rw [HQ.out, hqe] at hdb
            rw [← hM] at hqM ⊢
            have dq : decide (q < M) = true := decide_eq_true hqM
            have dqI : (q : Int) < (M : Int) := by omega
            have dq0 : (0 : Int) ≤ (q : Int) := by omega
            clear hqe hM
            generalize O[q] = d at *
            have zd : IntKind.i64.wrap d = d := IntWalk.i64_in _ (by omega)
            have zx : IntKind.i64.wrap (x + d) = x + d := IntWalk.i64_in _ (by omega)
            go_wp2_with fail
            go_roundw
            case rel => exact HF.out d HQ'.out
            case measure => simp [intOf]; omega
          · have hqe : O.getD q 0 = 0 := by rw [List.getD_eq_getElem?_getD, List.getElem?_eq_none (by omega)]; rfl
            have HQ' := Lib.hid (HQ.out.trans hqe)
            rw [← hM] at hqM ⊢
            have dq : decide (q < M) = false := decide_eq_false hqM
            have HF2 := HF.out 0 HQ'.out
            rw [Int.add_zero] at HF2
            have HF3 := Lib.hid HF2
            clear hqe hM HF2
            go_wp2_with fail
            go_roundw
            case rel => exact HF3.out
            case measure => simp [intOf]; omega
        · obtain rfl : j = 3 := by omega
          go_upto_if 76 with fail
          go_cut [] (fun wx => ∃ Ls' : List Sa, Ls'.length = 3 ∧ (∀ t, t < 3 → t ≠ k → Ls'.getD t (false, 0) = (true, x + dv O i t)) ∧ VH w (some ⟨b, off, none⟩) A2 A3 R Q O gp p wx ∧ Blk wx gl 92 (Ls'.flatMap sac))
          case first =>
            by_cases hiQ : i < Q.length
            · obtain ⟨b3, o3, rfl, h3h, h3s, q3⟩ := rd_cell HS2.out.r2 hiQ
              have hyb := H2.out _ (List.getElem_mem hiQ)
              have dq : decide (i < Q.length) = true := decide_eq_true hiQ
              have dqI : (i : Int) < (Q.length : Int) := by omega
              have hk0 : (0 : Int) ≤ (k : Int) := by omega
              have hk3I : (k : Int) < 3 := by omega
              generalize Q[i] = y at *
              obtain ⟨z, hz⟩ : ∃ z, z = y.tmod 3 := ⟨_, rfl⟩
              have hzb : -3 < z ∧ z < 3 := by rw [hz]; exact tmod3_bnd y
              have mz : y.tmod 3 = z := hz.symm
              have yz : IntKind.i64.wrap z = z := IntWalk.i64_in _ (by omega)
              have c0 := HL2.out.free (k * 2)
              have c1 := HL2.out.free (k * 2 + 1)
              have hlF : (Ls.flatMap sac).length = 6 := by rw [flatMap_len sac 2 sac_len, hLl]
              obtain ⟨v0, v0⟩ : ∃ v, wr.cell? ⟨gl, k * 2, none⟩ = some v := ⟨_, (HL2.out.cell (k * 2)).trans (List.getElem?_eq_getElem (by omega))⟩
              obtain ⟨v1, v1⟩ : ∃ v, wr.cell? ⟨gl, k * 2 + 1, none⟩ = some v := ⟨_, (HL2.out.cell (k * 2 + 1)).trans (List.getElem?_eq_getElem (by omega))⟩
              have hfin := fun s : Sa => (show ∃ Ls' : List Sa, Ls'.length = 3 ∧ (∀ t, t < 3 → t ≠ k → Ls'.getD t (false, 0) = (true, x + dv O i t)) ∧ VH w (some ⟨b, off, none⟩) (some ⟨b3, o3, none⟩) A3 R Q O gp p ((wr.setCell ⟨gl, k * 2, none⟩ (.bool s.1)).setCell ⟨gl, k * 2 + 1, none⟩ (.int .i64 s.2)).drew ∧ Blk ((wr.setCell ⟨gl, k * 2, none⟩ (.bool s.1)).setCell ⟨gl, k * 2 + 1, none⟩ (.int .i64 s.2)).drew gl 92 (Ls'.flatMap sac) from by
                refine ⟨Ls.set k s, by simp [hLl], fun t ht htk => ?_, ((HS2.out.set hgl1 hgl2 _ _).set hgl1 hgl2 _ _).next (below_drewN (Below.refl _ _) 1), ?_⟩
                · rw [getD_set_ne (fun e => htk e.symm)]
                  exact HLs.out t ht
                · have := (HL2.out.put (k * 2) (.bool s.1)).put (k * 2 + 1) (.int .i64 s.2)
                  rw [smp_set hLl hk3 s] at this
                  exact this.drew)
              have HF := Lib.hid hfin
              clear hfin hz
              go_wp2_with fail
              go_region
              all_goals
                go_wp2_with fail
                go_meet
                exact HF.out ((z != 0), y)
            · have hiQ2 := hiQ
              have dq : decide (i < Q.length) = false := decide_eq_false hiQ
              go_wp2_with fail
              go_meet
              exact ⟨Ls, hLl, fun t ht _ => HLs.out t ht, HS2.out, HL2.out⟩
          clear HLs HL2 HS2 hLl
          obtain ⟨Ls', hLl, hLs, hS, hL⟩ := hcut
          have ht : ∀ j, j < 3 → j ≠ k → tells Ls' j = true ∧ x - 128 ≤ xat Ls' j ∧ xat Ls' j ≤ x + 127 := fun j hj hjk => by
            have e := hLs j hj hjk
            have hb := dv_bnd H3.out i j
            have e1 : xat Ls' j = x + dv O i j := by unfold xat; rw [e]
            have e2 : here Ls' j = true := by unfold here; rw [e]
            refine ⟨?_, by omega, by omega⟩
            unfold tells
            rw [e1, e2, decide_eq_true (by omega), decide_eq_true (by omega), decide_eq_true (by omega)]
            rfl
          obtain ⟨g1, g2, g3⟩ := holds_step hk3 HPP.out.2.1 HPP.out.2.2.1 HPP.out.2.2.2 ht
          have hRd : RdL wc gl (gl + 1) (some ⟨gl, 0, none⟩) (Ls'.flatMap sac) := .inr ⟨gl, 0, rfl, Nat.le_refl _, Nat.lt_succ_self _, hL.lt, fun j u h => by rw [Nat.zero_add]; exact (hL.cell j).trans h⟩
          have hcast := cast_any (cap := 3) hS.pb hRd HPP.out.1 (by omega) hL.lt (by omega)
          unfold GotX at hcast
          rw [decide_eq_true g1, hLl] at hcast
          have hcl := castAll_len HPP.out.1 Ls'
          have hco := castAll_ok HPP.out.1 Ls'
          have hca : (castAll p Ls').ap = 256 := (cast_kept HPP.out.1 _ _ Ls' _ (Nat.le_refl _)).ap.trans HPP.out.2.2.1
          rw [HPP.out.2.1] at hcl
          have HN2 := Lib.hid (show (castAll p Ls').ok (i + 1) ∧ (castAll p Ls').out.length = 3 ∧ (castAll p Ls').ap = 256 ∧ (∀ j, j < 3 → j ≠ k → (castAll p Ls').is j = false) from ⟨hco, hcl, hca, g3⟩)
          have HS3 := Lib.hid hS
          clear ht hLs hL hRd g1 g3 hcl hco hca hS HPP
          generalize castAll p Ls' = p1 at *
          generalize mid (told0 p Ls') = mm at *
          go_wp2_with fail
          refine hcast.mono ?_
          rintro e w5 ⟨rfl, hP5, hg5⟩
          have HS5 := Lib.hid (HS3.out.put hP5 hg5)
          have u1 : IntKind.i64.wrap (mm - x) = mm - x := IntWalk.i64_in _ (by omega)
          have u2 : IntKind.i64.wrap (x - mm) = x - mm := IntWalk.i64_in _ (by omega)
          have s1 : decide (128 < mm - x) = false := decide_eq_false (by omega)
          have s2 : decide (128 < x - mm) = false := decide_eq_false (by omega)
          clear hcast hP5 hg5 HS3
          go_wp2_with fail
          go_loopw [19] (fun u wx => ∃ j : Nat, j ≤ 3 ∧ u = .int .i64 (j : Int) ∧ VH w (some ⟨b, off, none⟩) A2 A3 R Q O gp p1 wx) (fun u _ => 3 - (intOf u).toNat)
          case atStart => exact ⟨0, by decide, rfl, HS5.out⟩
          case round =>
            clear HS5
            obtain ⟨j, hj3, rfl, hS⟩ := hrel
            have HS6 := Lib.hid hS
            clear hS
            by_cases hjt : j < 3
            · have hjI : (j : Int) < 3 := by omega
              have yj : IntKind.i64.wrap ((j : Int) + 1) = (j : Int) + 1 := IntWalk.i64_in _ (by omega)
              by_cases hjk : j = k
              · have dk : ((j : Int) != (k : Int)) = false := by simp [hjk]
                have dk' : ((j : Int) == (k : Int)) = true := by simp [hjk]
                have dk2 : (j == k) = true := by simp [hjk]
                have dk3 : (j != k) = false := by simp [hjk]
                have HJK := Lib.hid hjk
                clear hjk
                go_wp2_with fail
                go_roundw
                case rel => exact ⟨j + 1, by omega, by go_num, HS6.out⟩
                case measure => simp [intOf]; omega
              · have dk : ((j : Int) != (k : Int)) = true := by simp; omega
                have dk' : ((j : Int) == (k : Int)) = false := by simp; omega
                have dk2 : (j == k) = false := by simp [hjk]
                have dk3 : (j != k) = true := by simp [hjk]
                have ho := fun X => out_any p1 (by rw [HN2.out.2.1]; decide) (i := (j : Int)) X
                have he : (decide ((0 : Int) ≤ (j : Int) ∧ (j : Int) < (p1.out.length : Int)) && p1.is (j : Int).toNat) = false := by rw [Int.toNat_natCast, HN2.out.2.2.2 j hjt hjk, Bool.and_false]
                rw [he] at ho
                unfold pac at ho
                obtain ⟨k0, k1, k2, k3, k4, k5, k6, k7, k8, k9, k10, k11, k12⟩ := pac_cells HS6.out.pb
                clear he hjk
                go_wp2_with fail
                refine (ho _).mono ?_
                rintro e w6 ⟨rfl, hb⟩
                have HS7 := Lib.hid (HS6.out.next hb)
                clear k0 k1 k2 k3 k4 k5 k6 k7 k8 k9 k10 k11 k12 ho hb
                go_wp2_with fail
                go_roundw
                case rel => exact ⟨j + 1, by omega, by go_num, HS7.out⟩
                case measure => simp [intOf]; omega
            · obtain rfl : j = 3 := by omega
              go_wp2_with fail
              go_roundw
              case rel => exact ⟨i + 1, p1, by omega, by go_num, HN2.out.1, HN2.out.2.1, HN2.out.2.2.1, HN2.out.2.2.2, HS6.out⟩
              case measure => simp [intOf]; omega
    · obtain rfl : i = N := by omega
      go_wp2_with fail
      refine (works29_any _).mono ?_
      rintro e w3 ⟨rfl, hb⟩
      go_wp2
      go_ret
      exact ⟨rfl, bt HS.out.keep hb⟩
theorem walkHolds (v0 v1 v2 v3 : Value) (W : World) (h0 : VSat W (.slice (.int .i64)) false v0) (h1 : VSat W (.slice (.int .i64)) false v1) (h2 : VSat W (.slice (.int .i8)) false v2) (h3 : VSat W (.int .u8) false v3) :
    Calls Try.prog 10 #[v0, v1, v2, v3] W fun e W' => e = .returned (.bool true) ∧ Below W.heap.size W W' := by
  obtain ⟨A1, R, k1, rfl, r1, b1, _, _, _⟩ := open_i64 h0
  obtain ⟨A2, Q, k2, rfl, r2, b2, _, _, _⟩ := open_i64 h1
  obtain ⟨A3, O, k3, rfl, r3, b3⟩ := open_i8 h2
  obtain ⟨n, e, hw⟩ := h3
  injection e with e
  subst e
  have hb := bounds_u8 hw
  obtain ⟨m, rfl⟩ : ∃ m : Nat, n = (m : Int) := ⟨n.toNat, by omega⟩
  by_cases h : 60 < R.length
  · exact lawHolds_out A1 A2 A3 R.length Q.length O.length k1 k2 k3 _ h W
  · exact lawHolds_core A1 A2 A3 R Q O k1 k2 k3 m (by omega) W r1 r2 r3 b1 b2 b3 h
end Vot
end Go.Proofs.Ytoaagemofjddiaa
