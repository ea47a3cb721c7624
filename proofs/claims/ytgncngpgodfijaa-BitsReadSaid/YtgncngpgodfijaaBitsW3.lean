/-
  The walks of the reference of package bits.
-/
import Derived.Test.YtgncngpgodfijaaBitsW2
import Derived.Laws.IdiomStrings
import Derived.Lib.BufferRead
namespace Go.Proofs.Ytgncngpgodfijaa
open Go.RowKit
namespace Bits

theorem infoBool : (Try.prog.info? 4).map (fun i => (i.zero, i.size, i.bytes)) = some (some (.bool false), 1, 1) := by kernel_rfl
/-- bits as values -/
def lv (l : List Bool) : List Value := l.map .bool
theorem lv_len (l : List Bool) : (lv l).length = l.length := by simp [lv]
theorem lv_append (a b : List Bool) : lv (a ++ b) = lv a ++ lv b := by simp [lv]
theorem lv_get (l : List Bool) (i : Nat) (h : i < l.length) : (lv l)[i]? = some (.bool l[i]) := by simp [lv, h]
theorem lv_one (l : List Bool) : ∀ u ∈ lv l, u.oneCell' = true := by
  intro u hu
  obtain ⟨c, _, rfl⟩ := List.mem_map.1 hu
  rfl

set_option maxRecDepth 100000 in
set_option maxHeartbeats 400000 in
theorem fnum_any (k : Nat) : ∀ (x : Nat) (w : World), x < 18446744073709551616 → k ≤ 100 →
    Calls Try.prog 16 #[.int .u64 (x : Int), .int .i64 (k : Int)] w (GotL w 4 (lv (numB x k))) := by
  obtain ⟨i0, hi, hz0, hz1, hz2⟩ := info_parts infoBool
  induction k with
  | zero =>
    intro x w _ _
    go_enter Try.func16, Try.ntmps16
    go_wp2_with fail
    go_ret
    exact ⟨⟨_, rfl, World.ownsRow_nil w _ _ _⟩, Below.refl _ _⟩
  | succ k ih =>
    intro x w hx hk
    have IH := Lib.hid ih
    clear ih
    have h2 : x / 2 < 18446744073709551616 := by omega
    have e2 : (x : Int) / 2 = ((x / 2 : Nat) : Int) := by omega
    have hb : ((x : Int) % 2 == 1) = (x % 2 == 1) := by rw [Bool.eq_iff_iff, beq_iff_eq, beq_iff_eq]; omega
    have hs := numB_succ x k
    have hl := numB_len (x / 2) k
    have E2 := Lib.hid e2
    have Hs := Lib.hid hs
    have Hl := Lib.hid hl
    have Hx := Lib.hid hx
    have H2 := Lib.hid h2
    generalize (x % 2 == 1) = b at *
    clear e2 hs hl hx h2
    have hw : IntKind.u64.wrap ((x : Int) / 2) = ((x / 2 : Nat) : Int) := by rw [E2.out, IntKind.wrap_u64]; have := H2.out; omega
    go_enter Try.func16, Try.ntmps16
    go_wp2_with fail
    refine (IH.out (x / 2) _ H2.out (by omega)).mono ?_
    rintro e w1 ⟨⟨v, rfl, hown⟩, hb1⟩
    rw [lv_len, Hl.out] at hown
    have Hown := Lib.hid hown
    have hsz := hb1.size
    clear hown hw
    go_wp2_with (at_builtin; refine wpList_append_own _ rfl _ _ 27 rfl w.heap.size 4 i0 (.bool false) 1 1 Try.underlying27 hi hz0 hz1 hz2 rfl (by decide) _ _ _ rfl (Hown.out.alloc _) ⟨w1.heap.size, 0, none⟩ 1 1 [.bool b] rfl rfl (cell_one_new _ _ _) (by simp [Value.oneCell']) (by unfold maxLen; omega) (by omega) (by simp; omega) ?_; intro v' w2 hown2 hgrow _; have Hown2 := Lib.hid hown2; have Hgrow := Lib.hid hgrow; clear hown2 hgrow)
    go_ret
    refine ⟨⟨_, rfl, ?_⟩, ?_⟩
    · rw [lv_len, numB_len, Hs.out, lv_append]
      exact Hown2.out
    · refine ((hb1.alloc hsz _).grown Hgrow.out (by simp; omega) fun q hq => ?_)
      have := (own_lt (Hown.out) hq).1
      exact this

theorem conv_bytes {w : World} {lo hi n : Nat} {A : Option Addr} {l : List UInt8} {cap : Nat} (hn : l.length = n) (h : RdL w lo hi A (l.map bv)) (hA : A = none → n = 0 ∧ cap = 0) :
    (convert 24 9 (.slice A n cap)).run Try.prog w = .ok (.string ⟨l.toArray⟩) w := by
  subst hn
  cases A with
  | none =>
    have h0 := (hA rfl).1
    have : l = [] := List.eq_nil_of_length_eq_zero h0
    subst this
    exact Lib.run_convert_nil_bytes w 24 9 5 cap Try.underlying24 Try.underlying5 Try.underlying9
  | some a =>
    refine run_convert_bytes_back w 24 9 5 a cap l Try.underlying24 Try.underlying5 Try.underlying9 fun j hj => ?_
    exact h.news a rfl j _ (by rw [List.getElem?_map, List.getElem?_eq_getElem hj]; rfl)
theorem bytes_toList (l : List UInt8) : (⟨l.toArray⟩ : ByteArray).toList = l := by rw [ByteArray.toList_eq]
theorem same_any {A A' : Option Addr} {l l' : List UInt8} {n n' cap cap' lo hi lo' hi' : Nat} {w : World} (hn : l.length = n) (hn' : l'.length = n') (h : RdL w lo hi A (l.map bv)) (hA : A = none → n = 0 ∧ cap = 0) (h' : RdL w lo' hi' A' (l'.map bv)) (hA' : A' = none → n' = 0 ∧ cap' = 0) :
    Calls Try.prog 19 #[.slice A n cap, .slice A' n' cap'] w fun e w' => e = .returned (.bool (l == l')) ∧ w = w' := by
  have e1 := conv_bytes hn h hA
  have e2 := conv_bytes hn' h' hA'
  have b1 := bytes_toList l
  have b2 := bytes_toList l'
  clear h hA h' hA' hn hn'
  go_enter Try.func19, Try.ntmps19
  go_wp2
  go_ret
  exact ⟨rfl, rfl⟩

set_option maxRecDepth 100000 in
set_option maxHeartbeats 400000 in
theorem fvalue_any (A : Option Addr) (l : List Bool) (n cap lo hi : Nat) (w : World) (h : RdL w lo hi A (lv l)) (hn : l.length = n) (hl : n ≤ 64) :
    Calls Try.prog 24 #[.slice A n cap] w fun e w' => e = .returned (.int .u64 (val l : Int)) ∧ w = w' := by
  have H := Lib.hid h
  have Hn := Lib.hid hn
  clear h hn
  go_enter Try.func24, Try.ntmps24
  go_wp2
  go_loop [3, 4] (fun x i => ∃ k : Nat, k ≤ n ∧ i = .int .i64 (k : Int) ∧ x = .int .u64 (val (l.take k) : Int)) (fun _ i => n - (intOf i).toNat)
  case atStart => exact ⟨0, by omega, rfl, rfl⟩
  case round =>
    obtain ⟨k, hk, rfl, rfl⟩ := hrel
    by_cases hlt : k < n
    · have hkl : k < l.length := by rw [Hn.out]; exact hlt
      obtain ⟨b, off, rfl, _, _, _, hc⟩ := H.out.some (by rw [lv_len]; omega)
      have c0 := hc k _ (lv_get l k hkl)
      have ht := val_take l k hkl
      have hlt2 := val_lt (l.take k) k (by simp; omega)
      have hp : 2 ^ k ≤ 2 ^ 63 := Nat.pow_le_pow_right (by decide) (by omega)
      have hw : IntKind.u64.wrap (2 * (val (l.take k) : Int)) = 2 * (val (l.take k) : Int) := by rw [IntKind.wrap_u64]; omega
      have hw2 : IntKind.u64.wrap (2 * (val (l.take k) : Int) + 1) = 2 * (val (l.take k) : Int) + 1 := by rw [IntKind.wrap_u64]; omega
      have Ht := Lib.hid ht
      clear ht hc hlt2 hp
      generalize l[k] = bb at *
      generalize val (l.take k) = x at *
      cases bb
      · go_wp2
        go_round
        case rel => exact ⟨k + 1, by omega, by go_num, by rw [Ht.out]; simp⟩
        case measure => simp [intOf]; omega
      · go_wp2
        go_round
        case rel => exact ⟨k + 1, by omega, by go_num, by rw [Ht.out]; simp⟩
        case measure => simp [intOf]; omega
    · obtain rfl : k = n := by omega
      go_wp2
      go_ret
      exact ⟨by rw [List.take_of_length_le (by rw [Hn.out]; exact Nat.le_refl _)]; rfl, rfl⟩

set_option maxRecDepth 100000 in
set_option maxHeartbeats 400000 in
theorem fones_any (A : Option Addr) (l : List Bool) (n cap lo hi : Nat) (w : World) (h : RdL w lo hi A (lv l)) (hn : l.length = n) (hl : n ≤ 100000) :
    Calls Try.prog 31 #[.slice A n cap] w fun e w' => e = .returned (.int .i64 (ones l)) ∧ w = w' := by
  have H := Lib.hid h
  have Hn := Lib.hid hn
  clear h hn
  go_enter Try.func31, Try.ntmps31
  go_wp2
  go_loop [3] (fun i => ∃ k : Nat, k ≤ lead l ∧ i = .int .i64 (k : Int)) (fun i => n - (intOf i).toNat)
  case atStart => exact ⟨0, by omega, rfl⟩
  case round =>
    obtain ⟨k, hk, rfl⟩ := hrel
    have hle := lead_le l
    rw [Hn.out] at hle
    by_cases hlt : k < n
    · have hkl : k < l.length := by rw [Hn.out]; exact hlt
      obtain ⟨b, off, rfl, _, _, _, hc⟩ := H.out.some (by rw [lv_len]; omega)
      have c0 := hc k _ (lv_get l k hkl)
      clear hc
      by_cases hkd : k < lead l
      · have e : l[k] = true := by have := lead_get l k hkd; rw [List.getElem?_eq_getElem hkl] at this; injection this
        rw [e] at c0
        clear e
        go_wp2
        go_round
        case rel => exact ⟨k + 1, by omega, by go_num⟩
        case measure => simp [intOf]; omega
      · obtain rfl : k = lead l := by omega
        have e : l[lead l] = false := by have := lead_stop l hkl; rw [List.getElem?_eq_getElem hkl] at this; injection this
        rw [e] at c0
        clear e
        go_wp2
        go_ret
        exact ⟨by unfold ones; rw [if_pos hkl]; rfl, rfl⟩
    · have e : ¬ lead l < l.length := by rw [Hn.out]; omega
      go_wp2
      go_ret
      exact ⟨by unfold ones; rw [if_neg e]; rfl, rfl⟩
end Bits
end Go.Proofs.Ytgncngpgodfijaa
