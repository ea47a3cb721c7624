/-
  The walk of the reference of package sched: the phases.
-/
import Derived.Test.YtgncngpgodfijaaSchW4
namespace Go.Proofs.Ytgncngpgodfijaa
open Go.RowKit
set_option linter.unusedVariables false
namespace Sch

theorem infoInt : (Try.prog.info? 3).map (fun i => (i.zero, i.size, i.bytes)) = some (some (.int .i64 0), 1, 8) := by kernel_rfl
theorem first_eq {f : Nat → Bool} {p k : Nat} (hk : k ≤ p) (h : ∀ j, j < k → f j = false) (he : k = p ∨ f k = true) : first f p = k := by
  obtain ⟨h1, h2, h3⟩ := first_spec f p
  rcases Nat.lt_trichotomy (first f p) k with hlt | heq | hgt
  · have a := h2 (by omega)
    rw [h _ hlt] at a
    cases a
  · exact heq
  · rcases he with he | he
    · omega
    · rw [h3 k hgt] at he; cases he
def GotP (w : World) (r : Option (List Nat)) (e : Ending) (w' : World) : Prop :=
  (match r with
  | some ms => ∃ v, e = .returned (.tuple #[v, .bool true]) ∧ w'.ownsRow w.heap.size 3 1 v ms.length (iv ms)
  | none => e = .returned (.tuple #[.slice none 0 0, .bool false])) ∧ Below w.heap.size w w'
set_option maxRecDepth 100000 in
set_option maxHeartbeats 1000000 in
theorem gphases_any (A : Option Addr) (T : List Tk) (n cap room lo hi : Nat) (w : World) (hT : RdL w lo hi A (T.flatMap tkc)) (hhi : hi ≤ w.heap.size) (hl : T.length = n) (hn : n ≤ 100) (hok : ∀ t ∈ T, okK t) (hroom : room ≤ 1048576) :
    Calls Try.prog 38 #[.slice A n cap, .int .i64 (room : Int)] w (GotP w (phases T room)) := by
  obtain ⟨i0, hi0, hz0, hz1, hz2⟩ := info_parts infoInt
  have HT := Lib.hid hT
  have Hhi := Lib.hid hhi
  have Hl := Lib.hid hl
  have Hok := Lib.hid hok
  clear hT hhi hl hok
  go_enter Try.func38, Try.ntmps38
  go_wp2
  go_loopw [6, 7, 8] (fun v i _ wr => ∃ (j : Nat) (ks : List Nat), j ≤ n ∧ i = .int .i64 (j : Int) ∧ ks.length = j ∧ wr.ownsRow w.heap.size 3 1 v j (iv ks) ∧ lay room (T.take j) ks (T.drop j) = phases T room ∧ Below w.heap.size w wr) (fun _ i _ _ => n - (intOf i).toNat)
  case atStart => exact ⟨0, [], by omega, rfl, rfl, World.ownsRow_nil _ _ _ _, rfl, Below.refl _ _⟩
  case round =>
    obtain ⟨j, ks, hj, rfl, hks, hown, hlay, hb⟩ := hrel
    have Hks := Lib.hid hks
    have Hown := Lib.hid hown
    have Hlay := Lib.hid hlay
    have Hb := Lib.hid hb
    have hszb := hb.size
    clear hks hown hlay hb
    by_cases hlt : j < n
    · have hjl : j < T.length := by rw [Hl.out]; exact hlt
      have hT1 := HT.out.below Hb.out (.inl Hhi.out)
      obtain ⟨b, off, rfl, _, hbh, _, _⟩ := HT.out.some (by rw [flatMap_len tkc 2 tkc_len]; omega)
      have hc := HT.out.elem tkc 2 tkc_len hjl
      have k0 : w.cell? ⟨b, off + j * 2, none⟩ = some (.int .i64 (T[j].p : Int)) := hc 0 _ (by decide) rfl
      have hget : T[j]? = some T[j] := List.getElem?_eq_getElem hjl
      have htk := List.take_succ_eq_append_getElem hjl
      have hdr := List.drop_eq_getElem_cons hjl
      have hpp := (Hok.out T[j] (List.getElem_mem hjl)).1.pos
      have hlay := Hlay.out
      rw [hdr] at hlay
      unfold lay at hlay
      clear hc Hlay hdr
      generalize T[j] = t at *
      have Hget := Lib.hid hget
      have Htk := Lib.hid htk
      have Hlay := Lib.hid hlay
      have K0 := Lib.hid k0
      have hbs : b < w.heap.size := by have := Hhi.out; omega
      obtain ⟨p, c⟩ := t
      dsimp only at *
      obtain ⟨Av, capv, rfl, hrdv, _, _, hnv⟩ := own_rd Hown.out
      have Hrdv := Lib.hid hrdv
      clear hget htk hlay k0 hT1 hrdv hnv
      obtain ⟨wo, hwo⟩ : ∃ wo : World, wo = wr := ⟨_, rfl⟩
      have Hrdo : Hid (RdL wo w.heap.size wo.heap.size Av (iv ks)) := by rw [hwo]; exact Hrdv
      have Hbo : Hid (Below w.heap.size w wo) := by rw [hwo]; exact Hb
      have Howo : Hid (wo.ownsRow w.heap.size 3 1 (.slice Av j capv) j (iv ks)) := by rw [hwo]; exact Hown
      have hjn : (j : Int) < (n : Int) := by omega
      go_wp2
      go_loopw [8] (fun x wr => ∃ k : Nat, k ≤ p ∧ x = .int .i64 (k : Int) ∧ (∀ i, i < k → fits (T.take j) ks ⟨p, c⟩ room i = false) ∧ Below wo.heap.size wo wr) (fun x _ => p - (intOf x).toNat)
      case atStart => exact ⟨0, by omega, rfl, (fun i h => by omega), hwo ▸ Below.refl _ _⟩
      case round =>
        clear hwo Hb Hown Hrdv
        obtain ⟨k, hk, rfl, hno, hb2⟩ := hrel
        have Hno := Lib.hid hno
        have Hb2 := Lib.hid hb2
        have hb3 := _root_.Go.Proofs.Ytgncngpgodfijaa.bt Hbo.out hb2
        have Hb3 := Lib.hid hb3
        clear hno
        have c0 := (hb3.cell (p := ⟨b, off + j * 2, none⟩) hbs).trans K0.out
        clear hb2 hb3
        by_cases hkp : k < p
        · go_wp2_with fail
          refine (gfits_any (some ⟨b, off, none⟩) Av T ks ⟨p, c⟩ n cap j capv k room lo hi _ _ _ (HT.out.below Hb3.out (.inl Hhi.out)) (Hrdo.out.next Hb2.out) Hl.out Hks.out Hget.out hn Hok.out hroom).mono ?_
          rintro e w3 ⟨rfl, hb4⟩
          have Hb4 := Lib.hid (_root_.Go.Proofs.Ytgncngpgodfijaa.bt Hb2.out hb4)
          have hb5 := _root_.Go.Proofs.Ytgncngpgodfijaa.bt Hbo.out Hb4.out
          have Hb5 := Lib.hid hb5
          have hsz5 := hb5.size
          have d0 := (hb5.cell (p := ⟨b, off + j * 2, none⟩) hbs).trans K0.out
          obtain ⟨ff, hff⟩ : ∃ ff, ff = fits (T.take j) ks ⟨p, c⟩ room k := ⟨_, rfl⟩
          rw [← hff]
          have Hff := Lib.hid hff
          clear hff hb4 hb5 c0
          cases ff
          · go_wp2
            go_roundw
            case rel =>
              refine ⟨k + 1, by omega, by go_num, fun i hi => ?_, Hb4.out⟩
              by_cases e : i = k
              · subst e; exact Hff.out.symm
              · exact Hno.out i (by omega)
            case measure => simp [intOf]; omega
          · have hfirst : first (fits (T.take j) ks ⟨p, c⟩ room) p = k := first_eq hk Hno.out (.inr Hff.out.symm)
            have Hfirst := Lib.hid hfirst
            have hkpe : ((k : Int) == (p : Int)) = false := by rw [beq_eq_false_iff_ne]; omega
            have Ho5 := Lib.hid (own_next Howo.out Hb4.out)
            clear hfirst
            go_wp2_with (at_builtin; refine wpList_append_own _ rfl _ _ 56 rfl w.heap.size 3 i0 (.int .i64 0) 1 8 Try.underlying56 hi0 hz0 hz1 hz2 rfl (by decide) _ _ _ rfl (Ho5.out.alloc _) ⟨w3.heap.size, 0, none⟩ 1 1 [.int .i64 (k : Int)] rfl rfl (cell_one_new _ _ _) (by simp [Value.oneCell']) (by unfold maxLen; omega) (by omega) (by simp; omega) ?_; intro v4 w4 hown4 hgrow4 _; have Hown4 := Lib.hid hown4; have Hgrow4 := Lib.hid hgrow4; clear hown4 hgrow4)
            go_roundw
            case rel =>
              refine ⟨j + 1, ks ++ [k], by omega, by go_num, by simp [Hks.out], ?_, ?_, (Hb5.out.alloc hsz5 _).grown Hgrow4.out (by simp; omega) fun q hq => (own_lt Ho5.out hq).1⟩
              · rw [iv_append]; exact Hown4.out
              · have := Hlay.out
                rw [Hfirst.out, if_pos hkp] at this
                rw [Htk.out]
                exact this
            case measure => simp [intOf]; omega
        · obtain rfl : k = p := by omega
          have hfirst : first (fits (T.take j) ks ⟨k, c⟩ room) k = k := first_eq (Nat.le_refl _) Hno.out (.inl rfl)
          have hnone : phases T room = none := by
            rw [← Hlay.out, hfirst, if_neg (by omega)]
          have Hnone := Lib.hid hnone
          clear hfirst hnone
          go_wp2
          go_ret2
          unfold GotP
          rw [Hnone.out]
          exact ⟨rfl, Hb3.out⟩
    · obtain rfl : j = n := by omega
      have hsome : phases T room = some ks := by
        rw [← Hlay.out, List.drop_eq_nil_of_le (by rw [Hl.out]; exact Nat.le_refl _)]
        rfl
      have Hsome := Lib.hid hsome
      clear hsome
      go_wp2
      go_ret2
      unfold GotP
      rw [Hsome.out]
      exact ⟨⟨_, rfl, by rw [Hks.out]; exact Hown.out⟩, Hb.out⟩
end Sch
end Go.Proofs.Ytgncngpgodfijaa
