/-
  The walk of the law ProfileForgets.
-/
import Derived.Test.YtpnafccedgjaeaaProfV
import Derived.Test.YtpnafccedgjaeaaProfQ
import Derived.Test.YtpnafccedgjaeaaShape
namespace Go.Proofs.Ytpnafccedgjaeaa
open Go.RowKit
namespace Prof

/-- the slice at A reads as the numbers z -/
def RdI (w : World) (B : Nat) (A : Option Addr) (z : List Int) : Prop :=
  (∀ i (h : i < z.length), -9223372036854775808 ≤ z[i] ∧ z[i] ≤ 9223372036854775807) ∧
  (z = [] ∨ ∃ b off, A = some ⟨b, off, none⟩ ∧ b < B ∧ ∀ i (h : i < z.length), w.cell? ⟨b, off + i, none⟩ = some (.int .i64 z[i]))
theorem RdI.below {w w' : World} {B : Nat} {A : Option Addr} {z : List Int} (h : RdI w B A z) (hb : Below B w w') : RdI w' B A z := by
  refine ⟨h.1, ?_⟩
  rcases h.2 with h | ⟨b, off, e, hlt, hc⟩
  · exact .inl h
  · exact .inr ⟨b, off, e, hlt, fun i hi => (hb.cell (p := ⟨b, off + i, none⟩) hlt).trans (hc i hi)⟩
theorem RdI.at {w : World} {B : Nat} {A : Option Addr} {z : List Int} (h : RdI w B A z) {k : Nat} (hk : k < z.length) : ∃ b off, A = some ⟨b, off, none⟩ ∧ w.cell? ⟨b, off + k, none⟩ = some (.int .i64 (hgt z k)) := by
  rcases h.2 with rfl | ⟨b, off, e, hlt, hc⟩
  · cases hk
  · refine ⟨b, off, e, ?_⟩
    rw [hc k hk]
    unfold hgt
    rw [if_pos hk, List.getD_eq_getElem?_getD, List.getElem?_eq_getElem hk]
    rfl
theorem RdI.b {w : World} {B : Nat} {A : Option Addr} {z : List Int} (h : RdI w B A z) (k : Nat) (hk : k ≤ 1000) : -9223372036854775808 ≤ hgt z k ∧ hgt z k ≤ 9223372036854775807 := by
  unfold hgt
  split
  · rename_i h'
    have := h.1 k h'
    rw [List.getD_eq_getElem?_getD, List.getElem?_eq_getElem h']
    exact this
  · omega
theorem open_ints {W : World} {v : Value} (h : VSat W (.slice (.int .i64)) false v) : ∃ A z cap, v = .slice A (List.length z) cap ∧ RdI W W.heap.size A z ∧ z.length ≤ maxLen := by
  obtain ⟨A, len, cap, e, hl, hm, hc⟩ := h
  injection e with e
  subst e
  rcases hc with ⟨rfl, rfl, rfl⟩ | ⟨h0, hA⟩ | ⟨b, off, rfl, hb, hi⟩
  · exact ⟨none, [], 0, rfl, ⟨(fun i h => by cases h), .inl rfl⟩, by simp [maxLen]⟩
  · subst h0
    exact ⟨A, [], cap, rfl, ⟨(fun i h => by cases h), .inl rfl⟩, by simp [maxLen]⟩
  · have hi' : ∀ i, i < len → ∃ c : Int, W.cell? ⟨b, off + i, none⟩ = some (.int .i64 c) ∧ -9223372036854775808 ≤ c ∧ c ≤ 9223372036854775807 := by
      intro i hil
      obtain ⟨cs, _, hc, n, rfl, hw⟩ := hi i hil
      have := bounds_i64 hw
      have h0 := hc 0 _ rfl
      refine ⟨n, ?_, by omega, by omega⟩
      simpa [Sh.size] using h0
    obtain ⟨L, hL, hp⟩ := list_of hi'
    subst hL
    exact ⟨_, L, cap, rfl, ⟨fun i h => (hp i h).2, .inr ⟨b, off, rfl, hb, fun i h => (hp i h).1⟩⟩, by omega⟩

set_option maxRecDepth 100000 in
set_option maxHeartbeats 4000000 in
theorem forgets_any (A : Option Addr) (z : List Int) (n cap m : Nat) (w : World) (hz : RdI w w.heap.size A z) (hl : z.length = n) (hn : n ≤ maxLen) (hm : m ≤ 255) :
    Calls Try.prog 9 #[.slice A n cap, .int .u8 m] w fun e w' => e = .returned (.bool true) ∧ Below w.heap.size w w' := by
  have HZ := Lib.hid hz
  have Hl := Lib.hid hl
  clear hz hl
  have hzv : ∀ w, (zeroValue 42).run Try.prog w = .ok (.agg (newCells 0)) w := fun _ => by kernel_rfl
  have hns := newCells_size 0
  unfold maxLen at hn
  by_cases h100 : n ≤ 100
  · obtain ⟨c, hc⟩ : ∃ c, c = 64 + m % 80 := ⟨_, rfl⟩
    have hci : (64 : Int) + (m : Int) % 80 = (c : Int) := by omega
    have hc2 : 64 ≤ c ∧ c ≤ 143 := by omega
    go_enter Try.func9, Try.ntmps9
    go_wp2_with fail
    refine (new_any 1 _).mono ?_
    rintro e w1 ⟨rfl, hb1⟩
    go_wp2_with (refine wpList_store_row rfl 42 _ _ rfl w1.heap.size (newCells _) rfl rfl 42 (newCells 0) (heap_alloc_new w1 _) (by rw [info42, newCells_size]) (by rw [newCells_size, newCells_size]) (newCells_one _) ?_)
    have hp : PB ((w1.alloc (.cells (newCells 0) 42)).setRow w1.heap.size (newCells (clamp 1))) w1.heap.size (new 1) := row_set (heap_alloc_new w1 _) (newCells_fits 1)
    have hbw : Below w.heap.size w ((w1.alloc (.cells (newCells 0) 42)).setRow w1.heap.size (newCells (clamp 1))) := (bt hb1 (bl w1 _)).trans ⟨rfl, rfl, rfl, by simp, fun k hk => setRow_other _ _ k _ (by have := hb1.size; omega)⟩
    have hgw := hb1.size
    generalize (w1.alloc (.cells (newCells 0) 42)).setRow w1.heap.size (newCells (clamp 1)) = w2 at hp hbw ⊢
    generalize w1.heap.size = g at hp hgw ⊢
    clear hb1 hzv hns w1
    have Hp := Lib.hid hp
    clear hp hc
    go_wp2
    go_loopw [7] (fun i wr => ∃ (k : Nat) (p : Pr), k ≤ c ∧ i = .int .i64 k ∧ PB wr g p ∧ St z k p ∧ Below w.heap.size w wr) (fun i _ => c - (intOf i).toNat)
    case atStart => exact ⟨0, _, by omega, rfl, Hp.out, St.zero z, hbw⟩
    case round =>
      clear Hp hbw
      obtain ⟨k, p, hk, rfl, hp, hst, hbel⟩ := hrel
      have hgl := hp.lt
      by_cases hlt : k < c
      · obtain ⟨y1, y2⟩ := HZ.out.b k (by omega)
        obtain ⟨q, hq, hmv⟩ : ∃ q, Mv z k q ∧ ((k = 0 ∧ q = p) ∨ (0 < k ∧ q = move p 1 0 ∧ mayMove p.x p.y 1 0 = true)) := by
          by_cases h0 : k = 0
          · subst h0
            exact ⟨p, hst.first, .inl ⟨rfl, rfl⟩⟩
          · exact ⟨_, hst.move (by omega) (by omega), .inr ⟨by omega, rfl, hst.may (by omega)⟩⟩
        have hfar : (!near q) = true := by rw [hq.far]; rfl
        have hadd := hq.add y1 y2
        have Hq := Lib.hid hq.ok
        have Hk := Lib.hid hst.ok
        have Hadd := Lib.hid hadd
        have Hfar := Lib.hid hfar
        have Hp := Lib.hid hp
        clear hq hadd hfar hp hst
        by_cases hkn : k < n
        · obtain ⟨b, off, rfl, hcell⟩ := (HZ.out.below hbel).at (by rw [Hl.out]; exact hkn)
          generalize hgt z k = hv at *
          rcases hmv with ⟨h0, e⟩ | ⟨h0, e, hm2⟩
          · have hk0 : decide (0 < k) = false := decide_eq_false (by omega)
            have E := Lib.hid e
            clear h0 e
            go_wp2_with fail
            refine (add_val g q _ hv true _ (E.out ▸ Hp.out) Hq.out rfl Hfar.out).mono ?_
            rintro e w3 ⟨rfl, hp3, hg3⟩
            have Hp3 := Lib.hid hp3
            clear hp3
            go_wp2
            go_roundw
            case rel => exact ⟨k + 1, _, by omega, by go_num, Hp3.out, Hadd.out, bgrow hbel hg3 (by have := hbel.size; omega) hgw⟩
            case measure => simp [intOf]; omega
          · have E := Lib.hid e
            have Hm2 := Lib.hid hm2
            clear e hm2
            go_wp2_with fail
            refine (move_val g p q 1 0 true _ Hp.out Hk.out E.out.symm Hm2.out).mono ?_
            rintro e w3 ⟨rfl, hp3, hg3⟩
            have hbel3 := bgrow hbel hg3 (by have := hbel.size; omega) hgw
            have Hp3 := Lib.hid hp3
            clear hp3
            go_wp2_with fail
            refine (add_val g q _ hv true _ Hp3.out Hq.out rfl Hfar.out).mono ?_
            rintro e w4 ⟨rfl, hp4, hg4⟩
            have Hp4 := Lib.hid hp4
            clear hp4
            go_wp2
            go_roundw
            case rel => exact ⟨k + 1, _, by omega, by go_num, Hp4.out, Hadd.out, bgrow hbel3 hg4 (by have := hbel3.size; omega) hgw⟩
            case measure => simp [intOf]; omega
        · have hvk : hgt z k = (k : Int) := if_neg (by rw [Hl.out]; omega)
          have Hvk := Lib.hid hvk
          clear hvk
          rcases hmv with ⟨h0, e⟩ | ⟨h0, e, hm2⟩
          · have hk0 : decide (0 < k) = false := decide_eq_false (by omega)
            have E := Lib.hid e
            clear h0 e
            go_wp2_with fail
            refine (add_val g q _ (k : Int) true _ (E.out ▸ Hp.out) Hq.out rfl Hfar.out).mono ?_
            rintro e w3 ⟨rfl, hp3, hg3⟩
            have Hp3 := Lib.hid hp3
            clear hp3
            go_wp2
            go_roundw
            case rel => exact ⟨k + 1, _, by omega, by go_num, Hp3.out, (by have := Hadd.out; rw [Hvk.out] at this; exact this), bgrow hbel hg3 (by have := hbel.size; omega) hgw⟩
            case measure => simp [intOf]; omega
          · have E := Lib.hid e
            have Hm2 := Lib.hid hm2
            clear e hm2
            go_wp2_with fail
            refine (move_val g p q 1 0 true _ Hp.out Hk.out E.out.symm Hm2.out).mono ?_
            rintro e w3 ⟨rfl, hp3, hg3⟩
            have hbel3 := bgrow hbel hg3 (by have := hbel.size; omega) hgw
            have Hp3 := Lib.hid hp3
            clear hp3
            go_wp2_with fail
            refine (add_val g q _ (k : Int) true _ Hp3.out Hq.out rfl Hfar.out).mono ?_
            rintro e w4 ⟨rfl, hp4, hg4⟩
            have Hp4 := Lib.hid hp4
            clear hp4
            go_wp2
            go_roundw
            case rel => exact ⟨k + 1, _, by omega, by go_num, Hp4.out, (by have := Hadd.out; rw [Hvk.out] at this; exact this), bgrow hbel3 hg4 (by have := hbel3.size; omega) hgw⟩
            case measure => simp [intOf]; omega
      · obtain rfl : k = c := by omega
        have h64 := hst.full hc2.1
        have Hst := Lib.hid hst
        have Hp := Lib.hid hp
        clear hst hp
        go_wp2_with fail
        refine (all_any g p _ Hp.out Hst.out.ok).mono ?_
        rintro e w3 ⟨⟨va, rfl, hown⟩, hb3⟩
        rw [all_len, h64] at hown
        have hp3 := Hp.out.below hb3 hgl
        have hlen := len_any g p w3 hp3
        rw [h64] at hlen
        have hlen' : Calls Try.prog 32 #[.pointer (some ⟨g, 0, none⟩)] w3 fun e w' => e = .returned (.int .i64 64) ∧ w3 = w' := hlen
        have Hlen := Lib.hid hlen'
        obtain ⟨qa, ca, rfl, _, _⟩ := hown.1.form (by decide)
        have Hown := Lib.hid hown
        have hbw3 := bt hbel hb3
        clear hlen hlen' hown hp3 hb3
        have H64 := Lib.hid h64
        clear h64
        go_wp2_with (go_at_call 32; refine Hlen.out.mono ?_; rintro e w' ⟨rfl, rfl⟩)
        go_loopw [10] (fun i wq => ∃ j : Nat, j ≤ 64 ∧ i = .int .i64 j ∧ Below w3.heap.size w3 wq) (fun i _ => 64 - (intOf i).toNat)
        case atStart => exact ⟨0, by omega, rfl, Below.refl _ _⟩
        case round =>
          obtain ⟨j, hj, rfl, hbq⟩ := hrel
          by_cases hj64 : j < 64
          · have hown := Hown.out.below hbq (Nat.le_refl _)
            have hg := Hst.out.get hc2.1 j hj64
            have hjl : j < (all p).length := by rw [all_len, H64.out]; exact hj64
            rw [List.getElem?_eq_getElem hjl] at hg
            injection hg with hg
            obtain ⟨f1, f2, f3⟩ := flat_get (all p) j hjl
            rw [hg] at f1 f2 f3
            have a1 := (hown.1.cellAt (j * 3) (by omega)).trans f1
            have a2 := (hown.1.cellAt (j * 3 + 1) (by omega)).trans f2
            have a3 := (hown.1.cellAt (j * 3 + 2) (by omega)).trans f3
            dsimp only at a1 a2 a3
            obtain ⟨ii, hii⟩ : ∃ ii, ii = k - 64 + j := ⟨_, rfl⟩
            rw [← hii] at a1 a3
            have hii2 : (k : Int) - 64 + (j : Int) = (ii : Int) := by omega
            have hjj : (j : Int) < 64 := by omega
            have u1 : IntKind.i64.wrap ((k : Int) - 64) = (k : Int) - 64 := IntWalk.i64_in _ (by omega)
            have u2 : IntKind.i64.wrap (ii : Int) = (ii : Int) := IntWalk.i64_in _ (by omega)
            clear hown hg f1 f2 f3 hjl hii
            by_cases hin : ii < n
            · obtain ⟨b, off, rfl, hcell⟩ := (HZ.out.below (bt hbw3 hbq)).at (by rw [Hl.out]; exact hin)
              generalize hgt z ii = hv at *
              go_wp2
              go_roundw
              case rel => exact ⟨j + 1, by omega, by go_num, hbq⟩
              case measure => simp [intOf]; omega
            · have hvk : hgt z ii = (ii : Int) := if_neg (by rw [Hl.out]; omega)
              rw [hvk] at a3
              clear hvk
              go_wp2
              go_roundw
              case rel => exact ⟨j + 1, by omega, by go_num, hbq⟩
              case measure => simp [intOf]; omega
          · obtain rfl : j = 64 := by omega
            go_wp2_with (go_at_call 23; refine (works_any _).mono ?_; rintro e w' ⟨rfl, hb⟩)
            go_ret
            exact ⟨rfl, bt (bt hbw3 hbq) hb⟩
  · have h100' : 100 < n := by omega
    go_enter Try.func9, Try.ntmps9
    go_wp2_with (go_at_call 23; refine (works_any _).mono ?_; rintro e w' ⟨rfl, hb⟩)
    go_ret
    exact ⟨rfl, hb⟩
theorem walkForgets (v0 v1 : Value) (W : World) (h0 : VSat W (.slice (.int .i64)) false v0) (h1 : VSat W (.int .u8) false v1) :
    Calls Try.prog 9 #[v0, v1] W fun e W' => e = .returned (.bool true) ∧ Below W.heap.size W W' := by
  obtain ⟨A, z, cap, rfl, hz, hl⟩ := open_ints h0
  obtain ⟨n, e, hw⟩ := h1
  injection e with e
  subst e
  have := bounds_u8 hw
  obtain ⟨m, rfl⟩ : ∃ m : Nat, n = (m : Int) := ⟨n.toNat, by omega⟩
  exact forgets_any A z z.length cap m W hz rfl hl (by omega)
end Prof
end Go.Proofs.Ytpnafccedgjaeaa
