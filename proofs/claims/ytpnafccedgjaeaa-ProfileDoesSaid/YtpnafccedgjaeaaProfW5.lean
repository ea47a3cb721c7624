/-
  Heights in a slice, as they are read; the walk of profile.Back.
-/
import Derived.Test.YtpnafccedgjaeaaProfW4
namespace Go.Proofs.Ytpnafccedgjaeaa
open Go.RowKit
namespace Prof

/-- the slice at A reads as the heights L, in a block below B -/
def RdS (w : World) (B : Nat) (A : Option Addr) (L : List Smp) : Prop :=
  L = [] ∨ ∃ b, A = some ⟨b, 0, none⟩ ∧ b < B ∧ ∀ j u, (flat L)[j]? = some u → w.cell? ⟨b, j, none⟩ = some u
theorem RdS.below {w w' : World} {B : Nat} {A : Option Addr} {L : List Smp} (h : RdS w B A L) (hb : Below B w w') : RdS w' B A L := by
  rcases h with h | ⟨b, e, hlt, hc⟩
  · exact .inl h
  · exact .inr ⟨b, e, hlt, fun j u hu => (hb.cell (p := ⟨b, j, none⟩) hlt).trans (hc j u hu)⟩
theorem RdS.more {w : World} {B B' : Nat} {A : Option Addr} {L : List Smp} (h : RdS w B A L) (hB : B ≤ B') : RdS w B' A L := by
  rcases h with h | ⟨b, e, hlt, hc⟩
  · exact .inl h
  · exact .inr ⟨b, e, by omega, hc⟩
theorem RdS.at {w : World} {B : Nat} {A : Option Addr} {L : List Smp} (h : RdS w B A L) (hn : 0 < L.length) :
    ∃ b, A = some ⟨b, 0, none⟩ ∧ b < B ∧ ∀ i (hi : i < L.length), w.cell? ⟨b, i * 3, none⟩ = some (.int .i64 L[i].dx) ∧ w.cell? ⟨b, i * 3 + 1, none⟩ = some (.int .i64 L[i].dy) ∧ w.cell? ⟨b, i * 3 + 2, none⟩ = some (.int .i64 L[i].z) := by
  rcases h with rfl | ⟨b, e, hlt, hc⟩
  · cases hn
  · refine ⟨b, e, hlt, fun i hi => ?_⟩
    obtain ⟨h1, h2, h3⟩ := flat_get L i hi
    exact ⟨hc _ _ h1, hc _ _ h2, hc _ _ h3⟩
theorem OwnS.rd {w : World} {B n : Nat} {v : Value} {L : List Smp} (h : OwnS w B v n L) : ∃ A cap, v = .slice A n cap ∧ RdS w w.heap.size A L ∧ (A = none → n = 0 ∧ cap = 0) ∧ L.length = n := by
  obtain ⟨h, hl⟩ := h
  obtain ⟨hlen, h⟩ := h
  rcases h with ⟨rfl, h0⟩ | ⟨g, cap, cur, rfl, hb, hg, hn, hm, hs, ht⟩
  · exact ⟨none, 0, by rw [h0], .inl (List.eq_nil_of_length_eq_zero (by omega)), fun _ => ⟨h0, rfl⟩, hl⟩
  · refine ⟨_, cap, rfl, .inr ⟨g, rfl, ?_, fun j u hu => ?_⟩, (fun h => by cases h), hl⟩
    · rcases Nat.lt_or_ge g w.heap.size with h' | h'
      · exact h'
      · rw [Array.getElem?_eq_none h'] at hg; cases hg
    · rw [cell_of_row w g j cur _ _ hg, ← Array.getElem?_toList]
      have hj : j < n * 3 := by
        rcases Nat.lt_or_ge j (n * 3) with h' | h'
        · exact h'
        · rw [List.getElem?_eq_none (by omega)] at hu; cases hu
      have := congrArg (fun x => x[j]?) ht
      simp only [List.getElem?_take, hj, if_true] at this
      rw [this, hu]
theorem OwnS.below {w w' : World} {B C n : Nat} {v : Value} {L : List Smp} (h : OwnS w B v n L) (hb : Below C w w') (hC : w.heap.size ≤ C) : OwnS w' B v n L := by
  refine ⟨?_, h.2⟩
  have hb' := hb.mono hC
  exact h.1.kept (row := none) ⟨hb'.os, hb'.tape, hb'.output, hb'.size, fun i hi _ => hb'.block i hi⟩ (by cases hv : v.ownBlock <;> simp)

/-! ### from where it is now -/
def off (X Y : Int) (s : Smp) : Smp := ⟨s.dx - X, s.dy - Y, s.z⟩
def back (p : Pr) : List Smp := (all p).map (off p.x p.y)
def mix (f : Smp → Smp) (L : List Smp) (k : Nat) : List Smp := (L.take k).map f ++ L.drop k
theorem mix_len (f : Smp → Smp) (L : List Smp) (k : Nat) : (mix f L k).length = L.length := by simp [mix]; omega
theorem mix_at (f : Smp → Smp) (L : List Smp) (k : Nat) (h : k < L.length) : (mix f L k)[k]'(by rw [mix_len]; exact h) = L[k] := by
  have hl : ((L.take k).map f).length = k := by simp; omega
  simp only [mix]
  rw [List.getElem_append_right (by omega)]
  simp only [hl, Nat.sub_self, List.getElem_drop, Nat.add_zero]
theorem mix_next (f : Smp → Smp) (L : List Smp) (k : Nat) (h : k < L.length) : mix f L (k + 1) = (mix f L k).set k (f L[k]) := by
  have hl : ((L.take k).map f).length = k := by simp; omega
  unfold mix
  rw [List.set_append_right _ _ (by omega), hl, Nat.sub_self, List.drop_eq_getElem_cons h, List.set_cons_zero, List.take_add_one, List.getElem?_eq_getElem h]
  simp only [Option.toList_some, List.map_append, List.map_cons, List.map_nil, List.append_assoc, List.cons_append, List.nil_append]
theorem flat_setx : ∀ (L : List Smp) (i : Nat) (h : i < L.length) (X Y : Int), ((flat L).set (i * 3) (.int .i64 X)).set (i * 3 + 1) (.int .i64 Y) = flat (L.set i ⟨X, Y, L[i].z⟩)
  | s :: L, 0, _, X, Y => rfl
  | s :: L, i + 1, h, X, Y => by
    have := flat_setx L i (by simpa using h) X Y
    have e : ∀ t M, flat (t :: M) = t.cs ++ flat M := by intro t M; simp [flat]
    have hl : s.cs.length = 3 := rfl
    rw [List.set_cons_succ, e, e, List.set_append_right _ _ (by omega), List.set_append_right _ _ (by omega), hl, show (i + 1) * 3 - 3 = i * 3 by omega, show (i + 1) * 3 + 1 - 3 = i * 3 + 1 by omega, this]
    rfl

set_option maxHeartbeats 1000000 in
theorem back_any (g : Nat) (p : Pr) (w : World) (h : PB w g p) (hk : ok p) :
    Calls Try.prog 35 #[.pointer (some ⟨g, 0, none⟩)] w (GotS w (back p)) := by
  have H := Lib.hid h
  have hg := h.lt
  have hka := ok_all hk
  have Hall := Lib.hid (fun w hw => all_any g p w hw hk)
  have hlen := all_len p
  have hbl : (back p).length = p.n := by unfold back; rw [List.length_map, hlen]
  obtain ⟨hk1, hk2, ⟨hx1, hx2⟩, ⟨hy1, hy2⟩, _⟩ := hk
  clear h
  unfold GotS
  rw [hbl]
  have hbk : back p = mix (off p.x p.y) (all p) p.n := by
    unfold mix back
    rw [← hlen, List.take_length, List.drop_length, List.append_nil]
  rw [hbk]
  clear hbl hbk
  generalize all p = L at *
  have Hlen := Lib.hid hlen; clear hlen
  go_enter Try.func35, Try.ntmps35
  go_wp2_with fail
  refine (Hall.out _ H.out).mono ?_
  rintro e w1 ⟨⟨v, rfl, hown⟩, hb1⟩
  rw [Hlen.out] at hown
  by_cases h0 : 0 < p.n
  · obtain ⟨q, cap, rfl, hq, hq2⟩ := hown.1.form h0
    have Hown := Lib.hid hown; clear hown
    go_wp2
    go_loopw [9] (fun i wr => ∃ k : Nat, k ≤ p.n ∧ i = .int .i64 k ∧ OwnS wr w.heap.size (.slice (some ⟨q, 0, none⟩) p.n cap) p.n (mix (off p.x p.y) L k) ∧ Below w.heap.size w wr) (fun i _ => p.n - (intOf i).toNat)
    case atStart => exact ⟨0, by omega, rfl, by simpa [mix] using Hown.out, hb1⟩
    case round =>
      obtain ⟨k, hkn, rfl, hown, hb⟩ := hrel
      by_cases hlt : k < p.n
      · have hkl : k < L.length := by rw [Hlen.out]; exact hlt
        have hnx := mix_next (off p.x p.y) L k hkl
        have hat := mix_at (off p.x p.y) L k hkl
        have hml := mix_len (off p.x p.y) L k
        have hoks := hka _ (List.getElem_mem hkl)
        obtain ⟨c1, c2, c3⟩ := flat_get (mix (off p.x p.y) L k) k (by omega)
        rw [hat] at c1 c2 c3
        have hst : ∀ X Y, ((flat (mix (off p.x p.y) L k)).set (k * 3) (.int .i64 X)).set (k * 3 + 1) (.int .i64 Y) = flat ((mix (off p.x p.y) L k).set k ⟨X, Y, L[k].z⟩) := by
          intro X Y
          rw [flat_setx _ k (by omega), hat]
        rw [Hlen.out] at hml
        clear hat
        generalize mix (off p.x p.y) L k = M at *
        generalize L[k] = s at *
        have d1 := (hown.1.cellAt (k * 3) (by omega)).trans c1
        have d2 := (hown.1.cellAt (k * 3 + 1) (by omega)).trans c2
        have d4 := hown.1.frozenAt (k * 3)
        have d5 := hown.1.frozenAt (k * 3 + 1)
        have hP := H.out.below hb hg
        obtain ⟨_, _, _, _, _, e1, e2, _⟩ := hP.cells
        obtain ⟨⟨o1, o2⟩, ⟨o3, o4⟩, _⟩ := hoks
        have w1' : IntKind.i64.wrap (s.dx - p.x) = s.dx - p.x := IntWalk.i64_in _ (by omega)
        have w2' : IntKind.i64.wrap (s.dy - p.y) = s.dy - p.y := IntWalk.i64_in _ (by omega)
        have hgq : g ≠ q := by omega
        have hqg : q ≠ g := by omega
        have Hnx := Lib.hid hnx
        have Hst := Lib.hid hst
        have HO := Lib.hid hown
        have Hml := Lib.hid hml
        clear hnx hst hml hown c1 c2 c3 hP
        go_wp2
        go_region
        go_wp2
        go_region
        go_wp2
        go_roundw
        case rel =>
          refine ⟨k + 1, by omega, by go_num, ⟨?_, ?_⟩, ?_⟩
          · have r1 := (HO.out.1.stored (k * 3) (.int .i64 (s.dx - p.x))).1
            have r2 := (r1.stored (k * 3 + 1) (.int .i64 (s.dy - p.y))).1
            rw [Hst.out] at r2
            rw [Hnx.out]
            exact r2
          · rw [Hnx.out, List.length_set, Hml.out]
          · exact (((hb.drew).setCell hq _).drew).setCell hq _
        case measure => simp [intOf]; omega
      · obtain rfl : k = p.n := by omega
        have HO := Lib.hid hown
        clear hown
        go_wp2
        go_ret
        exact ⟨⟨_, rfl, HO.out⟩, hb⟩
  · obtain ⟨q, cap, rfl, _, _, hl0⟩ := hown.rd
    have h0' : p.n = 0 := by omega
    rw [h0'] at hown hl0 ⊢
    have H0 := Lib.hid h0'; clear h0' h0
    have HO := Lib.hid hown
    clear hown
    go_wp2
    go_loopw [9] (fun i wr => i = .int .i64 0 ∧ wr = w1) (fun _ _ => 0)
    case atStart => exact ⟨rfl, rfl⟩
    case round =>
    obtain ⟨rfl, rfl⟩ := hrel
    go_wp2
    go_ret
    have : L = [] := List.eq_nil_of_length_eq_zero hl0
    subst this
    exact ⟨⟨_, rfl, by rw [H0.out]; exact HO.out⟩, hb1⟩
end Prof
end Go.Proofs.Ytpnafccedgjaeaa
