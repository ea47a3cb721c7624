/-
  The walk of the law SchedFull.
-/
import Derived.Test.YtgncngpgodfijaaSchV
import Derived.Test.YtgncngpgodfijaaSchQ
namespace Go.Proofs.Ytgncngpgodfijaa
open Go.RowKit
set_option linter.unusedVariables false
namespace Sch

def uv (l : List Nat) : List Value := l.map fun (k : Nat) => Value.int .u8 (k : Int)
theorem uv_get (l : List Nat) (i : Nat) (h : i < l.length) : (uv l)[i]? = some (.int .u8 (l[i] : Int)) := by simp [uv, h]
theorem uv_len (l : List Nat) : (uv l).length = l.length := by simp [uv]
theorem open_u8s {W : World} {v : Value} (h : VSat W (.slice (.int .u8)) false v) :
    ∃ A L cap, v = .slice A (List.length L) cap ∧ RdL W 0 W.heap.size A (uv L) ∧ (∀ x ∈ L, x < 256) ∧ L.length ≤ cap ∧ cap ≤ maxLen ∧ (A = none → L.length = 0 ∧ cap = 0) := by
  obtain ⟨A, L, cap, e, h1, h5, h2, h3, h4⟩ := open_slice_of (fun k : Nat => [Value.int .u8 (k : Int)]) (fun k => k < 256) (.int .u8) 1 rfl (fun _ => rfl) (by decide) (fun cs hs => by
    obtain ⟨n, rfl, hw⟩ := hs
    have hb := bounds_u8 hw
    exact ⟨n.toNat, by rw [Int.toNat_of_nonneg (by omega)], by omega⟩) h
  rw [flatMap_one] at h1
  exact ⟨A, L, cap, e, h1, h5, h2, h3, h4⟩
theorem full_none {l : List Tk} {n : Nat} (hall : ∀ t ∈ l, pw t.p ∧ t.c = 1) (hpw : l.Pairwise (fun a b => a.p ≤ b.p)) (h : phases l n = none) : 64 * n < need l :=
  full_no n l [] [] 1 (Laid.nil n) (fun a b _ => rfl) (.inl rfl) hall (fun t ht => (hall t ht).1.pos.1) hpw h
/-- tasks that all take one, none more often than the one ahead, none more often than once in 2^last -/
structure Fallen (T : List Tk) (last : Nat) : Prop where
  all : ∀ t ∈ T, pw t.p ∧ t.c = 1 ∧ t.p ≤ 2 ^ last
  pair : T.Pairwise (fun a b => a.p ≤ b.p)
theorem pw_two {x : Nat} (h : x ≤ 6) : pw (2 ^ x) := by
  unfold pw
  have : x = 0 ∨ x = 1 ∨ x = 2 ∨ x = 3 ∨ x = 4 ∨ x = 5 ∨ x = 6 := by omega
  rcases this with rfl | rfl | rfl | rfl | rfl | rfl | rfl <;> simp
theorem Fallen.snoc {T : List Tk} {last x : Nat} (h : Fallen T last) (hx : last ≤ x) (h6 : x ≤ 6) : Fallen (T ++ [⟨2 ^ x, 1⟩]) x := by
  have hle : 2 ^ last ≤ 2 ^ x := Nat.pow_le_pow_right (by decide) hx
  refine ⟨fun t ht => ?_, List.pairwise_append.2 ⟨h.pair, List.pairwise_singleton _ _, fun a ha b hb => ?_⟩⟩
  · rcases List.mem_append.1 ht with ht | ht
    · have := h.all t ht
      exact ⟨this.1, this.2.1, Nat.le_trans this.2.2 hle⟩
    · rw [List.mem_singleton] at ht
      subst ht
      exact ⟨pw_two h6, rfl, Nat.le_refl _⟩
  · rw [List.mem_singleton] at hb
    subst hb
    exact Nat.le_trans (h.all a ha).2.2 hle
set_option maxRecDepth 100000 in
set_option maxHeartbeats 2000000 in
theorem lawFull_any (A : Option Addr) (P : List Nat) (n cap room : Nat) (w : World) (hrd : RdL w 0 w.heap.size A (uv P)) (hp : ∀ x ∈ P, x < 256) (hl : P.length = n) (hn : n ≤ maxLen) (hr : room < 256) :
    Calls Try.prog 8 #[.slice A n cap, .int .u8 (room : Int)] w fun e w' => e = .returned (.bool true) ∧ Below w.heap.size w w' := by
  obtain ⟨i0, hi0, hz0, hz1, hz2⟩ := info_parts infoTask
  have HP := Lib.hid hrd
  have Hp := Lib.hid hp
  have Hl := Lib.hid hl
  clear hrd hp hl
  unfold maxLen at hn
  by_cases h64 : n ≤ 64
  · have d64 : decide ((64 : Int) < (n : Int)) = false := decide_eq_false (by omega)
    go_enter Try.func8, Try.ntmps8
    go_wp2
    go_loopw [5, 6, 7] (fun v l i wr => ∃ (j last : Nat) (T : List Tk), j ≤ n ∧ i = .int .i64 (j : Int) ∧ l = .int .i64 (last : Int) ∧ last ≤ 6 ∧ T.length = j ∧ Fallen T last ∧ wr.ownsRow w.heap.size 72 2 v j (T.flatMap tkc) ∧ Below w.heap.size w wr) (fun _ _ i _ => n - (intOf i).toNat)
    case atStart => exact ⟨0, 0, [], by omega, rfl, rfl, by omega, rfl, ⟨(fun t h => by cases h), List.Pairwise.nil⟩, World.ownsRow_nil _ _ _ _, Below.refl _ _⟩
    case round =>
      obtain ⟨j, last, T, hj, rfl, rfl, hl6, hT, hfal, hown, hb⟩ := hrel
      have HT := Lib.hid hT
      have Hfal := Lib.hid hfal
      have Hown := Lib.hid hown
      have Hb := Lib.hid hb
      have hszb := hb.size
      clear hT hfal hown hb
      by_cases hlt : j < n
      · have hjl : j < P.length := by rw [Hl.out]; exact hlt
        have hP1 := HP.out.below Hb.out (.inl (Nat.le_refl _))
        obtain ⟨b, off, rfl, _, _, _, hc⟩ := hP1.some (by rw [uv_len]; omega)
        have c0 : wr.cell? ⟨b, off + j, none⟩ = some (.int .u8 (P[j] : Int)) := hc j _ (uv_get P j hjl)
        have hx := Hp.out P[j] (List.getElem_mem hjl)
        clear hP1 hc
        generalize P[j] = x at *
        obtain ⟨m, hm⟩ : ∃ m, m = x % 7 := ⟨_, rfl⟩
        have hm6 : m < 7 := by omega
        have m1 : (x : Int) % 7 = (m : Int) := by omega
        have m2 : (x : Int).tmod 7 = (m : Int) := by rw [Int.tmod_eq_emod_of_nonneg (by omega)]; exact m1
        have u0 : IntKind.i64.wrap (x : Int) = (x : Int) := IntWalk.i64_in _ (by omega)
        obtain ⟨s, hs⟩ : ∃ s, s = last + m := ⟨_, rfl⟩
        have u1 : IntKind.i64.wrap ((last : Int) + (m : Int)) = (s : Int) := by rw [IntWalk.i64_in _ (by omega)]; omega
        have i1 : (j : Int) < (n : Int) := by omega
        have hcase : 6 < s ∨ s = 0 ∨ s = 1 ∨ s = 2 ∨ s = 3 ∨ s = 4 ∨ s = 5 ∨ s = 6 := by omega
        have hsl : last ≤ s := by omega
        clear hm hs
        have happ : ∀ x, last ≤ x → x ≤ 6 → Fallen (T ++ [⟨2 ^ x, 1⟩]) x := fun x h1 h2 => Hfal.out.snoc h1 h2
        have Happ := Lib.hid happ
        clear happ
        rcases hcase with h6 | rfl | rfl | rfl | rfl | rfl | rfl | rfl
        · have h6i : (6 : Int) < (s : Int) := by omega
          have hF := Happ.out 6 (by omega) (by omega)
          have HF := Lib.hid hF
          clear hF Happ
          go_wp2_with (at_builtin; refine wpList_append_own _ rfl _ _ 52 rfl w.heap.size 72 i0 _ 2 16 Try.underlying52 hi0 hz0 hz1 hz2 rfl (by decide) _ _ _ rfl (own_next Hown.out (bl _ _)) ⟨wr.heap.size, 0, none⟩ 1 1 [.int .i64 64, .int .i64 1] rfl rfl ((new_rd wr 72 [.int .i64 64, .int .i64 1]).news _ rfl) (by simp [Value.oneCell']) (by unfold maxLen; omega) (by omega) (by simp; omega) ?_; intro v4 w4 hown4 hgrow4 _; have Hown4 := Lib.hid hown4; have Hgrow4 := Lib.hid hgrow4; clear hown4 hgrow4)
          go_roundw
          case rel =>
            refine ⟨j + 1, 6, T ++ [⟨2 ^ 6, 1⟩], by omega, by go_num, rfl, by omega, by rw [List.length_append, HT.out]; rfl, HF.out, ?_, (Hb.out.alloc hszb _).grown Hgrow4.out (by simp; omega) fun q hq => (own_lt Hown.out hq).1⟩
            rw [List.flatMap_append]
            exact Hown4.out
          case measure => simp [intOf]; omega
        · have hF := Happ.out 0 (by omega) (by omega)
          have HF := Lib.hid hF
          clear hF Happ
          go_wp2_with (at_builtin; refine wpList_append_own _ rfl _ _ 52 rfl w.heap.size 72 i0 _ 2 16 Try.underlying52 hi0 hz0 hz1 hz2 rfl (by decide) _ _ _ rfl (own_next Hown.out (bl _ _)) ⟨wr.heap.size, 0, none⟩ 1 1 [.int .i64 1, .int .i64 1] rfl rfl ((new_rd wr 72 [.int .i64 1, .int .i64 1]).news _ rfl) (by simp [Value.oneCell']) (by unfold maxLen; omega) (by omega) (by simp; omega) ?_; intro v4 w4 hown4 hgrow4 _; have Hown4 := Lib.hid hown4; have Hgrow4 := Lib.hid hgrow4; clear hown4 hgrow4)
          go_roundw
          case rel =>
            refine ⟨j + 1, 0, T ++ [⟨2 ^ 0, 1⟩], by omega, by go_num, rfl, by omega, by rw [List.length_append, HT.out]; rfl, HF.out, ?_, (Hb.out.alloc hszb _).grown Hgrow4.out (by simp; omega) fun q hq => (own_lt Hown.out hq).1⟩
            rw [List.flatMap_append]
            exact Hown4.out
          case measure => simp [intOf]; omega
        · have hF := Happ.out 1 (by omega) (by omega)
          have HF := Lib.hid hF
          clear hF Happ
          go_wp2_with (at_builtin; refine wpList_append_own _ rfl _ _ 52 rfl w.heap.size 72 i0 _ 2 16 Try.underlying52 hi0 hz0 hz1 hz2 rfl (by decide) _ _ _ rfl (own_next Hown.out (bl _ _)) ⟨wr.heap.size, 0, none⟩ 1 1 [.int .i64 2, .int .i64 1] rfl rfl ((new_rd wr 72 [.int .i64 2, .int .i64 1]).news _ rfl) (by simp [Value.oneCell']) (by unfold maxLen; omega) (by omega) (by simp; omega) ?_; intro v4 w4 hown4 hgrow4 _; have Hown4 := Lib.hid hown4; have Hgrow4 := Lib.hid hgrow4; clear hown4 hgrow4)
          go_roundw
          case rel =>
            refine ⟨j + 1, 1, T ++ [⟨2 ^ 1, 1⟩], by omega, by go_num, rfl, by omega, by rw [List.length_append, HT.out]; rfl, HF.out, ?_, (Hb.out.alloc hszb _).grown Hgrow4.out (by simp; omega) fun q hq => (own_lt Hown.out hq).1⟩
            rw [List.flatMap_append]
            exact Hown4.out
          case measure => simp [intOf]; omega
        · have hF := Happ.out 2 (by omega) (by omega)
          have HF := Lib.hid hF
          clear hF Happ
          go_wp2_with (at_builtin; refine wpList_append_own _ rfl _ _ 52 rfl w.heap.size 72 i0 _ 2 16 Try.underlying52 hi0 hz0 hz1 hz2 rfl (by decide) _ _ _ rfl (own_next Hown.out (bl _ _)) ⟨wr.heap.size, 0, none⟩ 1 1 [.int .i64 4, .int .i64 1] rfl rfl ((new_rd wr 72 [.int .i64 4, .int .i64 1]).news _ rfl) (by simp [Value.oneCell']) (by unfold maxLen; omega) (by omega) (by simp; omega) ?_; intro v4 w4 hown4 hgrow4 _; have Hown4 := Lib.hid hown4; have Hgrow4 := Lib.hid hgrow4; clear hown4 hgrow4)
          go_roundw
          case rel =>
            refine ⟨j + 1, 2, T ++ [⟨2 ^ 2, 1⟩], by omega, by go_num, rfl, by omega, by rw [List.length_append, HT.out]; rfl, HF.out, ?_, (Hb.out.alloc hszb _).grown Hgrow4.out (by simp; omega) fun q hq => (own_lt Hown.out hq).1⟩
            rw [List.flatMap_append]
            exact Hown4.out
          case measure => simp [intOf]; omega
        · have hF := Happ.out 3 (by omega) (by omega)
          have HF := Lib.hid hF
          clear hF Happ
          go_wp2_with (at_builtin; refine wpList_append_own _ rfl _ _ 52 rfl w.heap.size 72 i0 _ 2 16 Try.underlying52 hi0 hz0 hz1 hz2 rfl (by decide) _ _ _ rfl (own_next Hown.out (bl _ _)) ⟨wr.heap.size, 0, none⟩ 1 1 [.int .i64 8, .int .i64 1] rfl rfl ((new_rd wr 72 [.int .i64 8, .int .i64 1]).news _ rfl) (by simp [Value.oneCell']) (by unfold maxLen; omega) (by omega) (by simp; omega) ?_; intro v4 w4 hown4 hgrow4 _; have Hown4 := Lib.hid hown4; have Hgrow4 := Lib.hid hgrow4; clear hown4 hgrow4)
          go_roundw
          case rel =>
            refine ⟨j + 1, 3, T ++ [⟨2 ^ 3, 1⟩], by omega, by go_num, rfl, by omega, by rw [List.length_append, HT.out]; rfl, HF.out, ?_, (Hb.out.alloc hszb _).grown Hgrow4.out (by simp; omega) fun q hq => (own_lt Hown.out hq).1⟩
            rw [List.flatMap_append]
            exact Hown4.out
          case measure => simp [intOf]; omega
        · have hF := Happ.out 4 (by omega) (by omega)
          have HF := Lib.hid hF
          clear hF Happ
          go_wp2_with (at_builtin; refine wpList_append_own _ rfl _ _ 52 rfl w.heap.size 72 i0 _ 2 16 Try.underlying52 hi0 hz0 hz1 hz2 rfl (by decide) _ _ _ rfl (own_next Hown.out (bl _ _)) ⟨wr.heap.size, 0, none⟩ 1 1 [.int .i64 16, .int .i64 1] rfl rfl ((new_rd wr 72 [.int .i64 16, .int .i64 1]).news _ rfl) (by simp [Value.oneCell']) (by unfold maxLen; omega) (by omega) (by simp; omega) ?_; intro v4 w4 hown4 hgrow4 _; have Hown4 := Lib.hid hown4; have Hgrow4 := Lib.hid hgrow4; clear hown4 hgrow4)
          go_roundw
          case rel =>
            refine ⟨j + 1, 4, T ++ [⟨2 ^ 4, 1⟩], by omega, by go_num, rfl, by omega, by rw [List.length_append, HT.out]; rfl, HF.out, ?_, (Hb.out.alloc hszb _).grown Hgrow4.out (by simp; omega) fun q hq => (own_lt Hown.out hq).1⟩
            rw [List.flatMap_append]
            exact Hown4.out
          case measure => simp [intOf]; omega
        · have hF := Happ.out 5 (by omega) (by omega)
          have HF := Lib.hid hF
          clear hF Happ
          go_wp2_with (at_builtin; refine wpList_append_own _ rfl _ _ 52 rfl w.heap.size 72 i0 _ 2 16 Try.underlying52 hi0 hz0 hz1 hz2 rfl (by decide) _ _ _ rfl (own_next Hown.out (bl _ _)) ⟨wr.heap.size, 0, none⟩ 1 1 [.int .i64 32, .int .i64 1] rfl rfl ((new_rd wr 72 [.int .i64 32, .int .i64 1]).news _ rfl) (by simp [Value.oneCell']) (by unfold maxLen; omega) (by omega) (by simp; omega) ?_; intro v4 w4 hown4 hgrow4 _; have Hown4 := Lib.hid hown4; have Hgrow4 := Lib.hid hgrow4; clear hown4 hgrow4)
          go_roundw
          case rel =>
            refine ⟨j + 1, 5, T ++ [⟨2 ^ 5, 1⟩], by omega, by go_num, rfl, by omega, by rw [List.length_append, HT.out]; rfl, HF.out, ?_, (Hb.out.alloc hszb _).grown Hgrow4.out (by simp; omega) fun q hq => (own_lt Hown.out hq).1⟩
            rw [List.flatMap_append]
            exact Hown4.out
          case measure => simp [intOf]; omega
        · have hF := Happ.out 6 (by omega) (by omega)
          have HF := Lib.hid hF
          clear hF Happ
          go_wp2_with (at_builtin; refine wpList_append_own _ rfl _ _ 52 rfl w.heap.size 72 i0 _ 2 16 Try.underlying52 hi0 hz0 hz1 hz2 rfl (by decide) _ _ _ rfl (own_next Hown.out (bl _ _)) ⟨wr.heap.size, 0, none⟩ 1 1 [.int .i64 64, .int .i64 1] rfl rfl ((new_rd wr 72 [.int .i64 64, .int .i64 1]).news _ rfl) (by simp [Value.oneCell']) (by unfold maxLen; omega) (by omega) (by simp; omega) ?_; intro v4 w4 hown4 hgrow4 _; have Hown4 := Lib.hid hown4; have Hgrow4 := Lib.hid hgrow4; clear hown4 hgrow4)
          go_roundw
          case rel =>
            refine ⟨j + 1, 6, T ++ [⟨2 ^ 6, 1⟩], by omega, by go_num, rfl, by omega, by rw [List.length_append, HT.out]; rfl, HF.out, ?_, (Hb.out.alloc hszb _).grown Hgrow4.out (by simp; omega) fun q hq => (own_lt Hown.out hq).1⟩
            rw [List.flatMap_append]
            exact Hown4.out
          case measure => simp [intOf]; omega
      · obtain rfl : j = n := by omega
        obtain ⟨q, hq⟩ : ∃ q, q = room % 8 := ⟨_, rfl⟩
        have hq8 : q < 8 := by omega
        have m1 : (room : Int) % 8 = (q : Int) := by omega
        have m2 : (room : Int).tmod 8 = (q : Int) := by rw [Int.tmod_eq_emod_of_nonneg (by omega)]; exact m1
        have u0 : IntKind.i64.wrap (room : Int) = (room : Int) := IntWalk.i64_in _ (by omega)
        have u1 : IntKind.i64.wrap (1 + (q : Int)) = ((1 + q : Nat) : Int) := by rw [IntWalk.i64_in _ (by omega)]; omega
        have hall : ∀ t ∈ T, pw t.p ∧ t.c = 1 := fun t ht => ⟨(Hfal.out.all t ht).1, (Hfal.out.all t ht).2.1⟩
        have hokT : ∀ t ∈ T, okK t := fun t ht => ⟨(hall t ht).1, by have := (hall t ht).2; omega, by have := (hall t ht).2; omega⟩
        have HokT := Lib.hid hokT
        have Hall := Lib.hid hall
        obtain ⟨Av, capv, rfl, hrd, _, _, _⟩ := own_rd Hown.out
        have Hrd := Lib.hid hrd
        have hnd := need_le T hokT
        have hnd2 : need T ≤ 64000 * 64 := Nat.le_trans hnd (Nat.mul_le_mul_left _ (by rw [HT.out]; exact h64))
        clear hq hall hokT hrd Hown hnd
        have u2 : IntKind.i64.wrap (64 * ((1 + q : Nat) : Int)) = 64 * ((1 + q : Nat) : Int) := IntWalk.i64_in _ (by omega)
        obtain ⟨r, hr⟩ : ∃ r, r = 1 + q := ⟨_, rfl⟩
        rw [← hr] at u1 u2
        have hrr : 1 ≤ r ∧ r ≤ 1048576 := by omega
        clear hr
        go_wp2_with fail
        refine (snew_ok Av T j capv _ _ r _ Hrd.out (Nat.le_refl _) HT.out h64 HokT.out hrr).mono ?_
        rintro e w1 hgn
        unfold GotNew at hgn
        obtain ⟨hgn, hb1⟩ := hgn
        have Hrd1 := Lib.hid (Hrd.out.next hb1)
        have Hb1 := Lib.hid (Hb.out.trans (hb1.mono hszb))
        have hs1 := hb1.size
        clear hb1 Hrd
        cases hph : phases T r with
        | some ms =>
          have hfy := full_yes (fun t ht => (Hall.out t ht).1) hph
          rw [hph] at hgn
          obtain ⟨g, vt, vp, rfl, hg, _⟩ := hgn
          clear hph
          go_wp2_with fail
          refine (sneed_any Av T j capv _ _ _ Hrd1.out hs1 HT.out h64 HokT.out).mono ?_
          rintro e w2 ⟨rfl, hb2⟩
          have Hb2 := Lib.hid (Hb1.out.trans (hb2.mono (by omega)))
          clear hb2
          generalize need T = nd at *
          have hle : (nd : Int) ≤ 64 * (r : Int) := by omega
          go_wp2_with fail
          refine (sworks_any _).mono ?_
          rintro e w3 ⟨rfl, hb3⟩
          have Hb3 := Lib.hid (_root_.Go.Proofs.Ytgncngpgodfijaa.bt Hb2.out hb3)
          clear hb3
          go_wp2
          go_ret
          exact ⟨rfl, Hb3.out⟩
        | none =>
          have hfn := full_none Hall.out Hfal.out.pair hph
          rw [hph] at hgn
          obtain rfl := hgn
          clear hph
          go_wp2_with fail
          refine (sneed_any Av T j capv _ _ _ Hrd1.out hs1 HT.out h64 HokT.out).mono ?_
          rintro e w2 ⟨rfl, hb2⟩
          have Hb2 := Lib.hid (Hb1.out.trans (hb2.mono (by omega)))
          clear hb2
          generalize need T = nd at *
          have hle : ¬ (nd : Int) ≤ 64 * (r : Int) := by omega
          have hle2 : 64 * (r : Int) < (nd : Int) := by omega
          go_wp2_with fail
          refine (sworks_any _).mono ?_
          rintro e w3 ⟨rfl, hb3⟩
          have Hb3 := Lib.hid (_root_.Go.Proofs.Ytgncngpgodfijaa.bt Hb2.out hb3)
          clear hb3
          go_wp2
          go_ret
          exact ⟨rfl, Hb3.out⟩
  · have i1 : (64 : Int) < (n : Int) := by omega
    go_enter Try.func8, Try.ntmps8
    go_wp2_with fail
    refine (sworks_any _).mono ?_
    rintro e w3 ⟨rfl, hb3⟩
    go_wp2
    go_ret
    exact ⟨rfl, hb3⟩
theorem walkFull (v0 v1 : Value) (W : World) (h0 : VSat W (.slice (.int .u8)) false v0) (h1 : VSat W (.int .u8) false v1) :
    Calls Try.prog 8 #[v0, v1] W fun e W' => e = .returned (.bool true) ∧ Below W.heap.size W W' := by
  obtain ⟨A, L, cap, rfl, hrd, hp, hl, hm, _⟩ := open_u8s h0
  obtain ⟨n, e, hw⟩ := h1
  injection e with e
  subst e
  have hb := bounds_u8 hw
  obtain ⟨m, rfl⟩ : ∃ m : Nat, n = (m : Int) := ⟨n.toNat, by omega⟩
  exact lawFull_any A L L.length cap m W hrd hp rfl (by omega) (by omega)
end Sch
end Go.Proofs.Ytgncngpgodfijaa
