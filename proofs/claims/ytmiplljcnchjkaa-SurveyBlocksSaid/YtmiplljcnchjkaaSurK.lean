/-
  The walk of survey.Rank.
-/
import Derived.Test.YtmiplljcnchjkaaSurS2
namespace Go.Proofs.Ytmiplljcnchjkaa
open Go.RowKit
set_option linter.unusedVariables false
namespace Sur
/-- what Rank hands back -/
def GotK (w : World) (L : List Sq) (s : Int) (e : Ending) (w' : World) : Prop :=
  Below w.heap.size w w' ∧ ((¬ AllOk L s ∧ e = .returned (.tuple #[.slice none 0 0, .int .i64 2])) ∨
    (AllOk L s ∧ ∃ (gr : Nat) (R : List Nat), Ranked (tolds L s) R ∧ w.heap.size ≤ gr ∧ e = .returned (.tuple #[.slice (some ⟨gr, 0, none⟩) L.length L.length, .int .i64 0]) ∧ Blk w' gr 3 (R.map natv)))
/-- what was told stands in memory -/
structure KT (w : World) (gt g lo hi : Nat) (A : Option Addr) (L : List Sq) (D : List Int) (wr : World) : Prop where
  box : Blk wr g 70 [.slice (some ⟨gt, 0, none⟩) D.length D.length]
  row : Blk wr gt 2 (D.map zv)
  rd : RdL wr lo hi A (sqs L)
  b : Below w.heap.size w wr
  n1 : w.heap.size ≤ gt
  n2 : w.heap.size ≤ g
  n3 : gt ≠ g
  n4 : hi ≤ w.heap.size
section
variable {w wr w' : World} {gt g lo hi : Nat} {A : Option Addr} {L : List Sq} {D : List Int}
theorem KT.next (S : KT w gt g lo hi A L D wr) (h : Below wr.heap.size wr w') : KT w gt g lo hi A L D w' :=
  ⟨S.box.next h, S.row.next h, S.rd.next h, bt S.b h, S.n1, S.n2, S.n3, S.n4⟩
theorem KT.set (S : KT w gt g lo hi A L D wr) (i : Nat) (x : Int) : KT w gt g lo hi A L (D.set i x) (wr.setCell ⟨gt, i, none⟩ (.int .i64 x)) :=
  ⟨by rw [List.length_set]; exact S.box.far (p := ⟨gt, i, none⟩) (fun e => S.n3 e.symm) _, by rw [List.map_set]; exact S.row.put i _, S.rd.far (p := ⟨gt, i, none⟩) (.inr (by show hi ≤ gt; have := S.n1; have := S.n4; omega)) _, S.b.setCell (p := ⟨gt, i, none⟩) S.n1 _, S.n1, S.n2, S.n3, S.n4⟩
end
theorem Blk.next {w w' : World} {g : Nat} {t : TypeId} {l : List Value} (h : Blk w g t l) (hb : Below w.heap.size w w') : Blk w' g t l := h.below hb h.lt
theorem set_take {α : Type} (a z : α) (T : List α) (n i : Nat) (hi : i < n) (hT : T.length = n) (ha : T[i]? = some a) : (T.take i ++ List.replicate (n - i) z).set i a = T.take (i + 1) ++ List.replicate (n - (i + 1)) z := by
  obtain ⟨d, hd⟩ : ∃ d, n - i = d + 1 := ⟨n - i - 1, by omega⟩
  rw [hd, show n - (i + 1) = d by omega, List.take_add_one, ha, List.replicate_succ, List.set_append, if_neg (by rw [List.length_take]; omega)]
  have : i - (T.take i).length = 0 := by rw [List.length_take]; omega
  rw [this, List.set_cons_zero, List.append_assoc]
  rfl
/-- what was told, and the places, stand in memory -/
structure KR (w : World) (gt g gr lo hi : Nat) (A : Option Addr) (L : List Sq) (D : List Int) (K : List Nat) (wr : World) : Prop where
  kt : KT w gt g lo hi A L D wr
  out : Blk wr gr 3 (K.map natv)
  ne1 : gr ≠ gt
  ne2 : gr ≠ g
  ge : w.heap.size ≤ gr
theorem KR.set {w wr : World} {gt g gr lo hi : Nat} {A : Option Addr} {L : List Sq} {D : List Int} {K : List Nat} (S : KR w gt g gr lo hi A L D K wr) (i k : Nat) : KR w gt g gr lo hi A L D (K.set i k) (wr.setCell ⟨gr, i, none⟩ (.int .i64 (k : Int))) :=
  ⟨⟨S.kt.box.far (p := ⟨gr, i, none⟩) (fun e => S.ne2 e.symm) _, S.kt.row.far (p := ⟨gr, i, none⟩) (fun e => S.ne1 e.symm) _, S.kt.rd.far (p := ⟨gr, i, none⟩) (.inr (by show hi ≤ gr; have := S.ge; have := S.kt.n4; omega)) _, S.kt.b.setCell (p := ⟨gr, i, none⟩) S.ge _, S.kt.n1, S.kt.n2, S.kt.n3, S.kt.n4⟩, by rw [List.map_set]; exact S.out.put i _, S.ne1, S.ne2, S.ge⟩
set_option maxRecDepth 100000 in
set_option maxHeartbeats 1000000 in
theorem rank_any (A : Option Addr) (L : List Sq) (n cap lo hh : Nat) (s : Int) (w : World) (hrd : RdL w lo hh A (sqs L)) (hhi : hh ≤ w.heap.size) (hn : L.length = n) (hn2 : n ≤ 100000) :
    Calls Try.prog 41 #[.slice A n cap, .int .i64 s] w (GotK w L s) := by
  obtain ⟨i6, hi6, hz0, hz1, hz2⟩ := info_parts infoI64
  obtain ⟨i7, hi7, hy0, hy1, hy2⟩ := info_parts infoInt
  have hmk := mk_row (P := Try.prog) 70 2 i6 _ Try.underlying70 hi6 hz0 rfl hz1 (by omega) n hn2
  have HT : Hid ((tolds L s).length = n) := Lib.hid (by unfold tolds; rw [List.length_map, hn])
  have HN := Lib.hid hn
  have HK : Hid (KT w w.heap.size (w.heap.size + 1) lo hh A L (List.replicate n 0) ((w.alloc (.cells (List.replicate n (Value.int .i64 0)).toArray 2)).alloc (.cells #[.slice (some ⟨w.heap.size, 0, none⟩) n n] 70))) := by
    have h2 := Blk.mk (w.alloc (.cells (List.replicate n (Value.int .i64 0)).toArray 2)) 70 [.slice (some ⟨w.heap.size, 0, none⟩) n n]
    rw [show (w.alloc (.cells (List.replicate n (Value.int .i64 0)).toArray 2)).heap.size = w.heap.size + 1 by simp] at h2
    have h1 := (Blk.mk w 2 ((List.replicate n (0 : Int)).map zv)).alloc (.cells #[.slice (some ⟨w.heap.size, 0, none⟩) n n] 70)
    rw [List.map_replicate] at h1
    exact Lib.hid ⟨by rw [List.length_replicate]; exact h2, by rw [List.map_replicate]; exact h1, (hrd.alloc _).alloc _, bt (bl _ _) (bl _ _), Nat.le_refl _, by omega, by omega, hhi⟩
  have hsz : Hid (lo = lo) := Lib.hid rfl
  clear hrd
  go_enter Try.func41, Try.ntmps41
  go_wp2_with fail
  go_loopw [7, 8, 9, 10, 18] (fun _ _ _ _ s18 wr => ∃ i : Nat, s18 = .int .i64 (i : Int) ∧ i ≤ n ∧ (∀ j (h : j < L.length), j < i → (infoC L[j].r s).2 = 0) ∧ KT w w.heap.size (w.heap.size + 1) lo hh A L ((tolds L s).take i ++ List.replicate (n - i) 0) wr) (fun _ _ _ _ s18 _ => n - (intOf s18).toNat)
  case atStart => exact ⟨0, rfl, by omega, fun j h h0 => absurd h0 (Nat.not_lt_zero _), by rw [List.take_zero, List.nil_append, Nat.sub_zero]; exact HK.out⟩
  case round =>
    clear HK hmk
    obtain ⟨i, rfl, hi0, hall, hS⟩ := hrel
    have HS := Lib.hid hS
    have HALL := Lib.hid hall
    clear hS hall
    by_cases hi : i < n
    · have di : decide (i < n) = true := decide_eq_true hi
      have i0 : (0 : Int) ≤ (i : Int) := by omega
      have i1 : (i : Int) < (n : Int) := by omega
      have hiL : i < L.length := by rw [HN.out]; exact hi
      obtain ⟨bL, oL, rfl, _, hb2, hb3, _⟩ := HS.out.rd.some (by rw [sqs_len]; omega)
      have hc := sq_elem HS.out.rd hiL
      obtain ⟨b, hb⟩ : ∃ b, b = L[i] := ⟨_, rfl⟩
      rw [← hb] at hc
      have Hb := Lib.hid hb
      clear hb
      obtain ⟨x1, x2, x3, x4, x5⟩ := b
      obtain ⟨c0, c1, c2, c3, c4⟩ := hc
      dsimp only at c0 c1 c2 c3 c4
      have hin := fun w => info_any x3 s w
      unfold GotN at hin
      obtain ⟨p, hp⟩ : ∃ p, p = infoC x3 s := ⟨_, rfl⟩
      rw [← hp] at hin
      have Hp := Lib.hid hp
      clear hp
      obtain ⟨p1, p2⟩ := p
      dsimp only at hin
      go_wp2_with fail
      refine (hin _).mono ?_
      rintro e w2 ⟨rfl, hb2⟩
      have HS2 := Lib.hid (HS.out.next (bt (bl wr _) hb2))
      have htl : ((tolds L s).take i ++ List.replicate (n - i) 0).length = n := by rw [List.length_append, List.length_take, List.length_replicate, HT.out]; omega
      have g0 : w2.cell? ⟨w.heap.size + 1, 0, none⟩ = some (.slice (some ⟨w.heap.size, 0, none⟩) n n) := by have := HS2.out.box.cell 0; rwa [htl] at this
      have f0 := HS2.out.row.free i
      obtain ⟨u0, hu0⟩ : ∃ u, w2.cell? ⟨w.heap.size, i, none⟩ = some u := ⟨_, (HS2.out.row.cell i).trans (List.getElem?_eq_getElem (by rw [List.length_map, htl]; exact hi))⟩
      have hti : (tolds L s)[i]? = some p1 := by
        unfold tolds
        rw [List.getElem?_map, List.getElem?_eq_getElem hiL, ← Hb.out]
        show some (infoC x3 s).1 = some p1
        rw [← Hp.out]
      have HS3 := Lib.hid (HS2.out.set i p1)
      have HST : Hid (((tolds L s).take i ++ List.replicate (n - i) 0).set i p1 = (tolds L s).take (i + 1) ++ List.replicate (n - (i + 1)) 0) := Lib.hid (set_take _ _ _ _ _ hi HT.out hti)
      clear hb2 hin htl hti HS c0 c1 c2 c3 c4
      rcases infoC_two x3 s with h2 | ⟨pn, _, h2⟩
      · rw [← Hp.out] at h2
        injection h2 with h3 h4
        subst h3 h4
        have hbad : Hid (¬ AllOk L s) := Lib.hid (fun h => by
          have h5 := h _ (List.getElem_mem hiL)
          rw [← Hb.out] at h5
          have h6 := Hp.out
          rw [← h6] at h5
          cases h5)
        go_wp2_with fail
        go_ret2
        unfold GotK
        exact ⟨HS2.out.b, .inl ⟨hbad.out, rfl⟩⟩
      · rw [← Hp.out] at h2
        injection h2 with h3 h4
        subst h4
        clear h3
        have HALL2 : Hid (∀ j (h : j < L.length), j < i + 1 → (infoC L[j].r s).2 = 0) := Lib.hid (fun j h hj => by
          by_cases hji : j = i
          · subst hji
            rw [← Hb.out]
            show (infoC x3 s).2 = 0
            rw [← Hp.out]
          · exact HALL.out j h (by omega))
        go_wp2_with fail
        go_roundw
        case rel => exact ⟨i + 1, by go_num, by omega, HALL2.out, by rw [← HST.out]; exact HS3.out⟩
        case measure => simp [intOf]; omega
    · have di : decide (i < n) = false := decide_eq_false hi
      have hin : i = n := by omega
      subst i
      have hS := HS.out
      rw [List.take_of_length_le (by rw [HT.out]; exact Nat.le_refl _), Nat.sub_self, List.replicate_zero, List.append_nil] at hS
      have HS1 := Lib.hid hS
      have hok : Hid (AllOk L s) := Lib.hid (fun b hb => by
        obtain ⟨j, hj, rfl⟩ := List.getElem_of_mem hb
        exact HALL.out j hj (by rw [← HN.out]; exact hj))
      have hmk2 := mk_row (P := Try.prog) 71 3 i7 _ Try.underlying71 hi7 hy0 rfl hy1 (by omega) n hn2
      obtain ⟨wr0, hwr0⟩ : ∃ W : World, W = wr := ⟨_, rfl⟩
      have HD : Hid (KR w w.heap.size (w.heap.size + 1) wr0.heap.size lo hh A L (tolds L s) ((List.range n).take 0 ++ List.replicate (n - 0) 0) (wr.alloc (.cells (List.replicate n (Value.int .i64 0)).toArray 3))) := by
        rw [hwr0]
        have h1 := Blk.mk wr 3 ((List.replicate n 0).map natv)
        rw [List.map_replicate] at h1
        have g1 := HS1.out.row.lt
        have g2 := HS1.out.box.lt
        refine Lib.hid ⟨HS1.out.next (bl _ _), ?_, by omega, by omega, by omega⟩
        rw [List.take_zero, List.nil_append, Nat.sub_zero, List.map_replicate]
        exact h1
      obtain ⟨gR, hgR⟩ : ∃ g, g = wr0.heap.size := ⟨_, rfl⟩
      rw [← hgR] at HD
      rw [hwr0] at hgR
      have HGR := Lib.hid hgR
      clear hS HS HALL hi hi0 hgR hwr0
      go_wp2_with fail
      rw [← HGR.out]
      go_loopw [12, 43] (fun _ s43 wz => ∃ i : Nat, s43 = .int .i64 (i : Int) ∧ i ≤ n ∧ KR w w.heap.size (w.heap.size + 1) gR lo hh A L (tolds L s) ((List.range n).take i ++ List.replicate (n - i) 0) wz) (fun _ s43 _ => n - (intOf s43).toNat)
      case atStart => exact ⟨0, rfl, by omega, HD.out⟩
      case round =>
        clear HD
        obtain ⟨i, rfl, hi0, hS⟩ := hrel
        have HR := Lib.hid hS
        clear hS
        by_cases hi : i < n
        · have di : decide (i < n) = true := decide_eq_true hi
          have i0 : (0 : Int) ≤ (i : Int) := by omega
          have i1 : (i : Int) < (n : Int) := by omega
          have htl : ((List.range n).take i ++ List.replicate (n - i) 0).length = n := by rw [List.length_append, List.length_take, List.length_replicate, List.length_range]; omega
          have f0 := HR.out.out.free i
          obtain ⟨u0, hu0⟩ : ∃ u, wr.cell? ⟨gR, i, none⟩ = some u := ⟨_, (HR.out.out.cell i).trans (List.getElem?_eq_getElem (by rw [List.length_map, htl]; exact hi))⟩
          have HR2 := Lib.hid (HR.out.set i i)
          have HST : Hid (((List.range n).take i ++ List.replicate (n - i) 0).set i i = (List.range n).take (i + 1) ++ List.replicate (n - (i + 1)) 0) := Lib.hid (set_take _ _ _ _ _ hi List.length_range (List.getElem?_range hi))
          clear htl
          go_wp2_with fail
          go_roundw
          case rel => exact ⟨i + 1, by go_num, by omega, by rw [← HST.out]; exact HR2.out⟩
          case measure => simp [intOf]; omega
        · have di : decide (i < n) = false := decide_eq_false hi
          have hin : i = n := by omega
          subst i
          have hR := HR.out
          rw [List.take_of_length_le (by rw [List.length_range]; exact Nat.le_refl _), Nat.sub_self, List.replicate_zero, List.append_nil] at hR
          have hsort := sort_any (tolds L s) n (w.heap.size + 1) w.heap.size gR HT.out wr (by have := hR.kt.box.cell 0; rwa [HT.out] at this) (fun i hi => by
            have := hR.kt.row.cell i
            rw [List.getElem?_map, List.getElem?_eq_getElem (by rw [HT.out]; exact hi)] at this
            rw [this, List.getD_eq_getElem?_getD, List.getElem?_eq_getElem (by rw [HT.out]; exact hi)]
            rfl) hR.out hR.ne2 hR.ne1 hn2
          have HR2 := Lib.hid hR
          clear hR HR hi hi0
          go_wp2_with fail
          refine hsort.mono ?_
          rintro e w5 ⟨rfl, R, hR, hB, hK⟩
          have HR5 := Lib.hid hR
          have HB5 := Lib.hid hB
          have HK5 := Lib.hid (hK w HR2.out.kt.b (by have := HR2.out.kt.n1; have := HR2.out.ge; omega))
          clear hR hB hK hsort
          go_wp2_with fail
          go_ret2
          unfold GotK
          rw [HN.out]
          exact ⟨HK5.out, .inr ⟨hok.out, _, R, HR5.out, HR2.out.ge, rfl, HB5.out⟩⟩
end Sur
end Go.Proofs.Ytmiplljcnchjkaa
