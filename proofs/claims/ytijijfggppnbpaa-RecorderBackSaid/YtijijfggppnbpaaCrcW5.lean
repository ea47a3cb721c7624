/-
  The walks of theodoliteref01.Same and of crc.Get.
-/
import Derived.Test.YtijijfggppnbpaaCrcW4
import Derived.Laws.IdiomStrings
import Derived.Lib.BufferRead
import Derived.Deep.QuietTactic
import Derived.BigQuiet
import Derived.IntWalk
namespace Go.Proofs.Ytijijfggppnbpaa
open Go.RowKit
namespace Crc

theorem bytes_toList (l : List UInt8) : (⟨l.toArray⟩ : ByteArray).toList = l := by rw [ByteArray.toList_eq]
theorem conv_bytes {w : World} {A : Option Addr} {l : List UInt8} {cap : Nat} (h : Bytes w A l) (hn : A = none → l.length = 0 ∧ cap = 0) :
    (convert 26 9 (.slice A l.length cap)).run Try.prog w = .ok (.string ⟨l.toArray⟩) w := by
  cases A with
  | none =>
    have h0 := (hn rfl).1
    have : l = [] := List.eq_nil_of_length_eq_zero h0
    subst this
    exact Lib.run_convert_nil_bytes w 26 9 5 cap Try.underlying26 Try.underlying5 Try.underlying9
  | some a =>
    refine run_convert_bytes_back w 26 9 5 a cap l Try.underlying26 Try.underlying5 Try.underlying9 fun j hj => ?_
    rcases h with rfl | ⟨b, off, e, hb, hc⟩
    · simp at hj
    · injection e with e
      subst e
      rw [add_off]
      exact hc j hj

theorem same_any (A A' : Option Addr) (l l' : List UInt8) (cap cap' : Nat) (w : World) (h : Bytes w A l) (hn : A = none → l.length = 0 ∧ cap = 0) (h' : Bytes w A' l') (hn' : A' = none → l'.length = 0 ∧ cap' = 0) :
    Calls Try.prog 14 #[.slice A l.length cap, .slice A' l'.length cap'] w fun e w' => e = .returned (.bool (l == l')) ∧ w = w' := by
  have e1 := conv_bytes h hn
  have e2 := conv_bytes h' hn'
  have b1 := bytes_toList l
  have b2 := bytes_toList l'
  clear h hn h' hn'
  go_enter Try.func14, Try.ntmps14
  go_wp2
  go_ret
  exact ⟨rfl, rfl⟩

theorem _root_.Go.World.ownsRow.down {w : World} {base base' : Nat} {e : TypeId} {size n : Nat} {v : Value} {xs : List Value} (h : w.ownsRow base e size v n xs) (hb : base' ≤ base) : w.ownsRow base' e size v n xs := by
  refine ⟨h.1, ?_⟩
  rcases h.2 with h2 | ⟨g, cap, cur, e1, e2, r⟩
  · exact .inl h2
  · exact .inr ⟨g, cap, cur, e1, Nat.le_trans hb e2, r⟩
theorem sum_n {A : Option Addr} {a : List UInt8} {n cap : Nat} {w : World} (han : a.length = n) (hA : Bytes w A a) (hl : n ≤ maxLen) :
    Calls Try.prog 69 #[.slice A n cap] w fun e w' => e = .returned (.int .u32 (u (sum a))) ∧ w = w' := by
  subst han
  exact sum_any A a cap w hA hl

/-- what stands ahead of four bytes that are its sum -/
def get (a t : List UInt8) : Bool := t == le4 (sum a)

def Got (w : World) (a t : List UInt8) (e : Ending) (w' : World) : Prop :=
  ∃ v, e = .returned (.tuple #[v, .bool (get a t)]) ∧ (if get a t then Own w' w.heap.size v a else v = .slice none 0 0) ∧ Below w.heap.size w w'
theorem Got.no {w w' : World} {a t : List UInt8} {e : Ending} (hg : get a t = false) (he : e = .returned (.tuple #[.slice none 0 0, .bool false])) (hb : Below w.heap.size w w') : Got w a t e w' :=
  ⟨_, by rw [hg]; exact he, by rw [hg]; rfl, hb⟩
theorem Got.yes {w w' : World} {a t : List UInt8} {e : Ending} {v : Value} (hg : get a t = true) (he : e = .returned (.tuple #[v, .bool true])) (ho : Own w' w.heap.size v a) (hb : Below w.heap.size w w') : Got w a t e w' :=
  ⟨v, by rw [hg]; exact he, by rw [hg]; exact ho, hb⟩

set_option maxRecDepth 100000 in
set_option maxHeartbeats 1000000 in
theorem get_short (A : Option Addr) (l : List UInt8) (cap : Nat) (w : World) (hl : l.length < 4) :
    Calls Try.prog 58 #[.slice A l.length cap] w fun e w' => e = .returned (.tuple #[.slice none 0 0, .bool false]) ∧ w = w' := by
  go_enter Try.func58, Try.ntmps58
  go_wp2
  go_ret2
  exact ⟨rfl, rfl⟩

set_option maxRecDepth 100000 in
set_option maxHeartbeats 1000000 in
theorem get_core (A : Option Addr) (a : List UInt8) (t0 t1 t2 t3 : UInt8) (n cap : Nat) (w : World) (han : a.length = n) (hA : Bytes w A (a ++ [t0, t1, t2, t3])) (hn : n ≤ 1000000) (hcap : n + 4 ≤ cap) :
    Calls Try.prog 58 #[.slice A (n + 4) cap] w (Got w a [t0, t1, t2, t3]) := by
  rcases hA with h0 | ⟨b, off, rfl, hb, hc⟩
  · exfalso
    have := congrArg List.length h0
    simp at this
  obtain ⟨i0, hi, hz0, hz1, hz2⟩ := info_parts infoByte
  have hAa : Bytes w (some ⟨b, off, none⟩) a := by
    refine .inr ⟨b, off, rfl, hb, fun i hi => ?_⟩
    have := hc i (by simp; omega)
    rw [List.getElem_append_left hi] at this
    exact this
  have ht4 : ∀ j (hj : j < 4), w.cell? ⟨b, off + (n + j), none⟩ = some (.int .u8 ([t0, t1, t2, t3][j].toNat : Int)) := by
    intro j hj
    have := hc (n + j) (by simp; omega)
    rw [List.getElem_append_right (by omega)] at this
    simpa [han] using this
  have e1 : (n : Int) + 4 - 4 = (n : Int) := by omega
  have hs0 := byteAt_u (sum a) 0
  have hs1 := byteAt_u (sum a) 1
  have hs2 := byteAt_u (sum a) 2
  have hs3 := byteAt_u (sum a) 3
  have Hc := Lib.hid hc; clear hc
  have Han := Lib.hid han
  have Ht := Lib.hid ht4; clear ht4
  have HAa := Lib.hid hAa; clear hAa
  clear han
  have hd : decide ((n : Int) < 0) = false := by simp
  go_enter Try.func58, Try.ntmps58
  go_wp2_with fail
  refine (sum_n Han.out HAa.out (by unfold maxLen; omega)).mono ?_
  rintro e w' ⟨rfl, rfl⟩
  go_wp2_with fail
  go_loopw [16] (fun i wr => ∃ k : Nat, k ≤ 4 ∧ i = .int .i64 k ∧ (∀ j, j < k → [t0, t1, t2, t3].getD j 0 = byteAt (sum a) j) ∧ Below w.heap.size w wr) (fun i _ => 4 - (intOf i).toNat)
  case atStart => exact ⟨0, by omega, rfl, by intro j hj; omega, Below.refl _ _⟩
  case round =>
    obtain ⟨k, hk, rfl, hall, hbel⟩ := hrel
    by_cases hlt : k < 4
    · have c0 := Ht.out k hlt
      rw [← (bcell hbel).1 _ _ hb] at c0
      have hby := byteAt_u (sum a) k
      have hgd : [t0, t1, t2, t3].getD k 0 = [t0, t1, t2, t3][k] := by
        rw [List.getD_eq_getElem?_getD, List.getElem?_eq_getElem (by simpa using hlt)]
        rfl
      have Hall := Lib.hid hall; clear hall
      generalize hT : [t0, t1, t2, t3][k] = tk at *
      generalize hB : byteAt (sum a) k = bk at *
      have Hgd := Lib.hid hgd; clear hgd hT
      have HB := Lib.hid hB; clear hB
      have hsum : IntKind.i64.wrap ((n : Int) + (k : Int)) = (n : Int) + k := IntWalk.i64_in _ (by omega)
      have hsum2 : 0 ≤ (n : Int) + (k : Int) := by omega
      have hsum3 : ((n : Int) + (k : Int)).toNat = n + k := by omega
      have hmul : IntKind.i64.wrap (8 * (k : Int)) = 8 * (k : Int) := IntWalk.i64_in _ (by omega)
      have hmul2 : (8 * (k : Int)).toNat = 8 * k := by omega
      by_cases hq : tk = bk
      · have hq1 : ((tk.toNat : Int) != (bk.toNat : Int)) = false := by rw [hq]; simp
        have Hq := Lib.hid hq; clear hq
        go_wp2
        go_quiet (fail)
        go_wp2
        go_roundw
        case rel =>
          refine ⟨k + 1, by omega, by go_num, ?_, below_drewN hbel _⟩
          intro j hj
          by_cases hjk : j < k
          · exact Hall.out j hjk
          · obtain rfl : j = k := by omega
            rw [Hgd.out, Hq.out, HB.out]
        case measure => simp [intOf]; omega
      · have hq1 : ((tk.toNat : Int) != (bk.toNat : Int)) = true := by
          simp only [bne_iff_ne, ne_eq]
          intro h
          exact hq (UInt8.toNat_inj.1 (by omega))
        have hg : get a [t0, t1, t2, t3] = false := by
          unfold get
          rw [beq_eq_false_iff_ne]
          intro h
          apply hq
          rw [← Hgd.out, h, ← HB.out]
          obtain rfl | rfl | rfl | rfl : k = 0 ∨ k = 1 ∨ k = 2 ∨ k = 3 := by omega
          all_goals rfl
        have Hg := Lib.hid hg; clear hg
        clear hq
        go_wp2
        go_quiet (fail)
        go_wp2
        go_ret2
        exact Got.no Hg.out rfl (below_drewN hbel _)
    · obtain rfl : k = 4 := by omega
      have hg : get a [t0, t1, t2, t3] = true := by
        unfold get
        rw [beq_iff_eq]
        have h0 := hall 0 (by omega)
        have h1 := hall 1 (by omega)
        have h2 := hall 2 (by omega)
        have h3 := hall 3 (by omega)
        simp at h0 h1 h2 h3
        rw [h0, h1, h2, h3]
        rfl
      have Hg := Lib.hid hg; clear hg hall
      have HAw := Lib.hid (HAa.out.below hbel (Nat.le_refl _))
      clear hs0 hs1 hs2 hs3
      go_wp2_with (at_builtin; refine wpList_append_both rfl (.tmp 32) (.tmp 35) 26 rfl w.heap.size 5 i0 (.int .u8 0) 1 1 Try.underlying26 hi hz0 hz1 hz2 rfl (by decide) _ 0 [] rfl ((own_new wr 5 1).down hbel.size) (some ⟨b, off, none⟩) n cap (a.map bv) rfl ?l1 (by intro h; cases h) ?n1 (bv_one a) ?b1 ?b2 ?b3 ?_; rotate_right; intro v1 w1 hown1 hg1)
      · go_ret2
        refine Got.yes Hg.out rfl ?_ ((hbel.alloc hbel.size _).grown hg1 (by have := hbel.size; simp; omega) (own_ge ((own_new wr 5 1).down hbel.size)))
        unfold Own
        rw [Han.out]
        simpa using hown1
      case l1 => simp [Han.out]
      case n1 => exact (HAw.out.below (bl wr _) (Nat.le_refl _)).news
      case b1 => simp only [maxLen]; omega
      case b2 => omega
      case b3 => have := hbel.size; simp; omega
end Crc
end Go.Proofs.Ytijijfggppnbpaa
