/-
  The walk of the law SchedFits.
-/
import Derived.Test.YtgncngpgodfijaaSchF
namespace Go.Proofs.Ytgncngpgodfijaa
open Go.RowKit
set_option linter.unusedVariables false
namespace Sch

theorem infoU64 : (Try.prog.info? 28).map (fun i => (i.zero, i.size, i.bytes)) = some (some (.int .u64 0), 1, 8) := by kernel_rfl
set_option maxRecDepth 100000 in
set_option maxHeartbeats 2000000 in
theorem lawFits_none (A : Option Addr) (L : List Ti) (n cap : Nat) (room : Int) (t : Nat) (w : World) (hrd : RdL w 0 w.heap.size A (L.flatMap tic)) (hl : L.length = n) (hn : n ≤ 100)
    (x : Int) (hx0 : x ≠ 0) (hnew : ∀ (A1 : Option Addr) (cap1 : Nat) (w1 : World), RdL w1 w.heap.size w1.heap.size A1 (L.flatMap tic) → Calls Try.prog 34 #[.slice A1 n cap1, .int .i64 room] w1 fun e w' => e = .returned (.tuple #[.pointer none, .int .i64 x]) ∧ Below w1.heap.size w1 w') :
    Calls Try.prog 7 #[.slice A n cap, .int .i64 room, .int .u64 (t : Int)] w fun e w' => e = .returned (.bool true) ∧ Below w.heap.size w w' := by
  have HL := Lib.hid hrd
  have Hl := Lib.hid hl
  have Hnew := Lib.hid hnew
  clear hrd hl hnew
  have d100 : decide ((100 : Int) < (n : Int)) = false := decide_eq_false (by omega)
  have x1 : (x != 0) = true := by rw [bne_iff_ne]; exact hx0
  go_enter Try.func7, Try.ntmps7
  go_wp2_with fail
  refine (sown_any A L n cap _ _ w HL.out (Nat.le_refl _) Hl.out hn).mono ?_
  rintro e w1 ⟨⟨v1, rfl, hown1⟩, hb1⟩
  obtain ⟨A1, cap1, rfl, hr1, _, _, _⟩ := own_rd hown1
  have Hr1 := Lib.hid hr1
  have Hb1 := Lib.hid hb1
  clear hown1 hr1 hb1
  go_wp2_with fail
  refine (Hnew.out A1 cap1 w1 Hr1.out).mono ?_
  rintro e w2 ⟨rfl, hb2⟩
  have Hb2 := Lib.hid (_root_.Go.Proofs.Ytgncngpgodfijaa.bt Hb1.out hb2)
  clear hb2 Hb1 Hr1
  go_wp2_with fail
  refine (sworks_any _).mono ?_
  rintro e w6 ⟨rfl, hb6⟩
  have Hb6 := Lib.hid (_root_.Go.Proofs.Ytgncngpgodfijaa.bt Hb2.out hb6)
  clear hb6
  go_wp2
  go_ret
  exact ⟨rfl, Hb6.out⟩
/-- what the law holds on its way: the plan, and its two rows -/
structure FX (w0 : World) (b1 b2 n : Nat) (lt lf : List Nat) (w : World) : Prop where
  bel : Below w0.heap.size w0 w
  r1 : w.ownsRow w0.heap.size 3 1 (.slice (some ⟨b1, 0, none⟩) n n) n (iv lt)
  r2 : w.ownsRow w0.heap.size 28 1 (.slice (some ⟨b2, 0, none⟩) n n) n (lv64 lf)
  ne : b1 ≠ b2
section
variable {w0 w w' : World} {b1 b2 n : Nat} {lt lf : List Nat}
theorem FX.next (h : FX w0 b1 b2 n lt lf w) (hb : Below w.heap.size w w') : FX w0 b1 b2 n lt lf w' := ⟨_root_.Go.Proofs.Ytgncngpgodfijaa.bt h.bel hb, own_next h.r1 hb, own_next h.r2 hb, h.ne⟩
theorem FX.put1 (h : FX w0 b1 b2 n lt lf w) (d x : Nat) {lt' : List Nat} (e : (iv lt).set d (.int .i64 (x : Int)) = iv lt') : FX w0 b1 b2 n lt' lf (w.setCell ⟨b1, d, none⟩ (.int .i64 (x : Int))) := by
  obtain ⟨h1, h2⟩ := h.r1.stored d (.int .i64 (x : Int))
  rw [e] at h1
  exact ⟨h.bel.setCell (show w0.heap.size ≤ (⟨b1, d, none⟩ : Addr).block from (own_lt h.r1 rfl).1) _, h1, ownsRow_setCell_other h.r2 (by simp [Value.ownBlock]; exact Ne.symm h.ne) _, h.ne⟩
theorem FX.put2 (h : FX w0 b1 b2 n lt lf w) (d x : Nat) {lf' : List Nat} (e : (lv64 lf).set d (.int .u64 (x : Int)) = lv64 lf') : FX w0 b1 b2 n lt lf' (w.setCell ⟨b2, d, none⟩ (.int .u64 (x : Int))) := by
  obtain ⟨h1, h2⟩ := h.r2.stored d (.int .u64 (x : Int))
  rw [e] at h1
  exact ⟨h.bel.setCell (show w0.heap.size ≤ (⟨b2, d, none⟩ : Addr).block from (own_lt h.r2 rfl).1) _, ownsRow_setCell_other h.r1 (by simp [Value.ownBlock]; exact h.ne) _, h1, h.ne⟩
end
set_option maxRecDepth 100000 in
set_option maxHeartbeats 4000000 in
theorem lawFits_ok (A : Option Addr) (T : List Tk) (n cap room t0 t : Nat) (w : World) (hrd : RdL w 0 w.heap.size A (T.flatMap tkc)) (hl : T.length = n) (hn : n ≤ 64) (hok : ∀ t ∈ T, okK t) (hroom : 1 ≤ room ∧ room ≤ 1048576)
    (htt : (t0 ≤ 2305843009213693952 ∧ t0 = t) ∨ (2305843009213693952 < t0 ∧ t0 % 2305843009213693952 = t)) (ms : List Nat) (hph : phases T room = some ms) :
    Calls Try.prog 7 #[.slice A n cap, .int .i64 (room : Int), .int .u64 (t0 : Int)] w fun e w' => e = .returned (.bool true) ∧ Below w.heap.size w w' := by
  obtain ⟨i0, hi0, hz0, hz1, hz2⟩ := info_parts infoInt
  obtain ⟨j0, hj0, hy0, hy1, hy2⟩ := info_parts infoU64
  have hlaid := phases_laid hph
  have htb : t ≤ 2305843009213693952 := by omega
  have hdr := fun k => due_room hok hlaid (t + k)
  rw [hl] at hdr
  have hml : ms.length = T.length := hlaid.len
  have HT := Lib.hid hrd
  have HL : Hid (RdL w 0 w.heap.size A ((T.map ti).flatMap tic)) := Lib.hid (by rw [ti_flat]; exact hrd)
  have Hl := Lib.hid hl
  have Hl2 : Hid ((T.map ti).length = n) := Lib.hid (by rw [List.length_map]; exact hl)
  have Hok := Lib.hid hok
  have Hroom := Lib.hid hroom
  have Hph := Lib.hid hph
  have Hml := Lib.hid hml
  have Hdr := Lib.hid hdr
  have Hlaid := Lib.hid hlaid
  clear hrd hl hok hph hlaid hdr hml
  have d100 : decide ((100 : Int) < (n : Int)) = false := decide_eq_false (by omega)
  have hn100 : n ≤ 100 := by omega
  go_enter Try.func7, Try.ntmps7
  go_wp2_with fail
  refine (sown_any A (T.map ti) n cap _ _ w HL.out (Nat.le_refl _) Hl2.out hn100).mono ?_
  rintro e w1 ⟨⟨v1, rfl, hown1⟩, hb1⟩
  obtain ⟨A1, cap1, rfl, hr1, _, _, _⟩ := own_rd hown1
  rw [ti_flat] at hr1
  have Hr1 := Lib.hid hr1
  have Hb1 := Lib.hid hb1
  clear hown1 hr1 hb1
  go_wp2_with fail
  refine (snew_ok A1 T n cap1 _ _ room w1 Hr1.out (Nat.le_refl _) Hl.out hn Hok.out hroom).mono ?_
  unfold GotNew
  rw [Hph.out]
  rintro e w2 ⟨⟨g, vt, vp, rfl, hg, hpb⟩, hb2⟩
  have Hpb := Lib.hid hpb
  have Hb2 := Lib.hid (_root_.Go.Proofs.Ytgncngpgodfijaa.bt Hb1.out hb2)
  have Htt := Lib.hid htt
  clear hpb hb2 Hb1 Hr1 htt
  have hcase : (decide ((2305843009213693952 : Int) < (t0 : Int)) = false ∧ t = t0) ∨ (decide ((2305843009213693952 : Int) < (t0 : Int)) = true ∧ (t0 : Int) % 2305843009213693952 = (t : Int) ∧ (t0 : Int).tmod 2305843009213693952 = (t : Int)) := by
    rcases Htt.out with ⟨h1, h2⟩ | ⟨h1, h2⟩
    · exact .inl ⟨decide_eq_false (by omega), h2.symm⟩
    · refine .inr ⟨decide_eq_true (by omega), by omega, ?_⟩
      rw [Int.tmod_eq_emod_of_nonneg (by omega)]
      omega
  clear Htt
  rcases hcase with ⟨ht1, rfl⟩ | ⟨ht1, ht2, ht3⟩
  all_goals
    go_wp2_with (at_make; first
      | (refine wpList_make_full _ rfl _ _ 56 rfl w2.heap.size 3 i0 (.int .i64 0) 1 Try.underlying56 hi0 hz0 hz1 _ _ _ _ n rfl rfl (by rfl) (by rfl) (by rw [hz2]; omega) (by unfold maxLen; omega) (Nat.le_refl _) ?_; intro w3 hown3 hgrow3; have hz3 := hgrow3.size; have Hown3 := Lib.hid hown3; have Hgrow3 := Lib.hid hgrow3; clear hown3 hgrow3)
      | (refine wpList_make_full _ rfl _ _ 64 rfl w2.heap.size 28 j0 (.int .u64 0) 1 Try.underlying64 hj0 hy0 hy1 _ _ _ _ n rfl rfl (by rfl) (by rfl) (by rw [hy2]; omega) (by unfold maxLen; omega) hz3 ?_; intro w4 hown4 hgrow4; have Hown4 := Lib.hid hown4; have Hgrow4 := Lib.hid hgrow4; clear hown4 hgrow4))
    have e1 : (madeCells (Value.int .i64 0).cells (n * 1)).toList = iv (rowT T ms t 0 n []) := by
      rw [rowT_zero, iv_zero, Nat.mul_one]
      exact toList_madeCells_one _ _
    have e2 : (madeCells (Value.int .u64 0).cells (n * 1)).toList = lv64 (rowF T ms t 0 n []) := by
      rw [rowF_zero, lv64_zero, Nat.mul_one]
      exact toList_madeCells_one _ _
    have hown3 := Hown3.out
    have hown4 := Hown4.out
    rw [e1] at hown3
    rw [e2] at hown4
    have hb3 : Below w2.heap.size w2 w3 := ⟨Hgrow3.out.os, Hgrow3.out.tape, Hgrow3.out.output, Hgrow3.out.size, fun i hi => Hgrow3.out.block i hi (by simp)⟩
    have hb4 : Below w3.heap.size w3 w4 := ⟨Hgrow4.out.os, Hgrow4.out.tape, Hgrow4.out.output, Hgrow4.out.size, fun i hi => Hgrow4.out.block i hi (by simp)⟩
    have hlt3 : w2.heap.size < w3.heap.size := (own_lt hown3 rfl).2
    have hfx : FX w2 w2.heap.size w3.heap.size n (rowT T ms t 0 n []) (rowF T ms t 0 n []) w4 := ⟨hb3.trans (hb4.mono (by omega)), own_next hown3 hb4, hown4, by omega⟩
    have Hfx := Lib.hid hfx
    have hwz2 := Hb2.out.size
    have hgz2 := Hpb.out.blk.lt
    clear hown3 hown4 e1 e2 hb3 hb4 hfx Hown3 Hown4 Hgrow3 Hgrow4 hlt3 hz3
    generalize w3.heap.size = bf at *
    go_wp2
    go_loopw [11, 12, 13, 14, 15] (fun i _ _ _ _ wr => ∃ k : Nat, k ≤ 64 ∧ i = .int .u64 (k : Int) ∧ FX w2 w2.heap.size bf n (rowT T ms t k n []) (rowF T ms t k n []) wr) (fun i _ _ _ _ _ => 64 - (intOf i).toNat)
    case atStart => exact ⟨0, by omega, rfl, Hfx.out⟩
    case round =>
      clear Hfx
      obtain ⟨k, hk, rfl, hfx⟩ := hrel
      have Hfx := Lib.hid hfx
      clear hfx
      by_cases hk64 : k < 64
      · have hrm := Hroom.out.2
        have u1 : IntKind.u64.wrap ((t : Int) + (k : Int)) = ((t + k : Nat) : Int) := by rw [IntWalk.u64_in _ (by omega)]; omega
        have u2 : IntKind.u64.wrap ((k : Int) + 1) = ((k + 1 : Nat) : Int) := by rw [IntWalk.u64_in _ (by omega)]; omega
        have hpbr := Hpb.out.next Hfx.out.bel
        have Hpbr := Lib.hid hpbr
        have hszr := Hfx.out.bel.size
        have hmem : ∀ i, i < n → (i ∈ due T ms (t + k) n ↔ isDue T ms (t + k) i = true) := fun i hin => by rw [mem_due]; simp [hin]
        have hmem2 : ∀ i, i ∈ due T ms (t + k) n → i < n := fun i hi => (mem_due.1 hi).1
        obtain ⟨hd1, hd2⟩ := Hdr.out k
        have hdl := due_le T ms (t + k) n
        have hpair := due_pair T ms (t + k) n
        have Hmem := Lib.hid hmem
        have Hmem2 := Lib.hid hmem2
        have Hd1 := Lib.hid hd1
        have Hd2 := Lib.hid hd2
        have Hdl := Lib.hid hdl
        have Hpair := Lib.hid hpair
        clear hpbr hmem hmem2 hd1 hd2 hdl hpair
        go_wp2_with fail
        refine (sdue_any g vt vp T ms room (t + k) n wr Hpbr.out Hml.out Hl.out hn Hok.out (by omega)).mono ?_
        unfold GotL
        generalize due T ms (t + k) n = D at *
        rintro e w5 ⟨⟨vd, rfl, hd⟩, hb5⟩
        rw [iv_len] at hd
        obtain ⟨Ad, capd, rfl, hrd, _, _, _⟩ := own_rd hd
        have Hrd := Lib.hid hrd
        have Hfx5 := Lib.hid (Hfx.out.next hb5)
        have hs5 := hb5.size
        obtain ⟨lo, hlo⟩ : ∃ lo, lo = wr.heap.size := ⟨_, rfl⟩
        obtain ⟨hi, hhi⟩ : ∃ hi, hi = w5.heap.size := ⟨_, rfl⟩
        rw [← hlo, ← hhi] at Hrd
        have hblo : bf < lo := by rw [hlo]; exact (own_lt Hfx.out.r2 rfl).2
        have hblo2 : w2.heap.size < lo := by rw [hlo]; exact (own_lt Hfx.out.r1 rfl).2
        obtain ⟨q, hq⟩ : ∃ q, q = D.length := ⟨_, rfl⟩
        rw [← hq]
        have hqn : q ≤ n := by have := Hdl.out; omega
        have Hq := Lib.hid hq
        clear hd hrd hb5 hq hlo hhi Hfx Hpbr
        go_wp2
        go_loopw [12, 13, 15] (fun s l i wr => ∃ (j : Nat) (last : Int), j ≤ q ∧ i = .int .i64 (j : Int) ∧ s = .int .i64 (dueCost T (D.take j) : Int) ∧ l = .int .i64 last ∧ (∀ x ∈ D.take j, (x : Int) ≤ last) ∧ (∀ x ∈ D.drop j, last < (x : Int)) ∧ -1 ≤ last ∧ last < 64 ∧ RdL wr lo hi Ad (iv D) ∧ FX w2 w2.heap.size bf n (rowT T ms t k n (D.take j)) (rowF T ms t k n (D.take j)) wr) (fun _ _ i _ => q - (intOf i).toNat)
        case atStart => exact ⟨0, -1, by omega, rfl, rfl, rfl, (fun x hx => by simp at hx), (fun x _ => by omega), by omega, by omega, Hrd.out, by rw [List.take_zero]; exact Hfx5.out⟩
        case round =>
          clear Hfx5 Hrd
          obtain ⟨j, last, hj, rfl, rfl, rfl, hall, hbig, hl1, hl2, hrd, hfx⟩ := hrel
          have Hall := Lib.hid hall
          have Hbig := Lib.hid hbig
          have Hrd := Lib.hid hrd
          have Hfx := Lib.hid hfx
          clear hall hbig hrd hfx
          by_cases hlt : j < q
          · have hjl : j < D.length := by rw [← Hq.out]; exact hlt
            obtain ⟨bd, offd, rfl, hbd1, hbd2, hbd3, hcd⟩ := Hrd.out.some (by rw [iv_len]; omega)
            have c0 : wr.cell? ⟨bd, offd + j, none⟩ = some (.int .i64 (D[j] : Int)) := hcd j _ (iv_get D j hjl)
            have hin := Hmem2.out D[j] (List.getElem_mem hjl)
            have hdue := (Hmem.out D[j] hin).1 (List.getElem_mem hjl)
            have htk := List.take_succ_eq_append_getElem hjl
            have hdrop := List.drop_eq_getElem_cons hjl
            have hlast := Hbig.out D[j] (by rw [hdrop]; exact List.mem_cons_self ..)
            have hnm : ¬ D[j] ∈ D.take j := fun h => by have := Hall.out _ h; omega
            have hall2 : ∀ x ∈ D.take (j + 1), (x : Int) ≤ (D[j] : Int) := fun x hx => by
              rw [htk] at hx
              rcases List.mem_append.1 hx with hx | hx
              · have := Hall.out x hx
                omega
              · rw [List.mem_singleton] at hx
                rw [hx]
                exact Int.le_refl _
            have hbig2 : ∀ x ∈ D.drop (j + 1), (D[j] : Int) < (x : Int) := fun x hx => by
              have hp := Hpair.out.sublist (List.drop_sublist j D)
              rw [hdrop] at hp
              have := List.rel_of_pairwise_cons hp hx
              omega
            have hco : costOf T D[j] ≤ 1000 := by
              unfold costOf
              rw [List.getElem?_eq_getElem (by rw [Hl.out]; exact hin)]
              exact (Hok.out _ (List.getElem_mem _)).2.2
            have hsn := dueCost_snoc T (D.take j) D[j]
            rw [← htk] at hsn
            have hT1 := (HT.out.next Hb2.out).below Hfx.out.bel (.inl hwz2)
            have hit : D[j] < T.length := by rw [Hl.out]; exact hin
            obtain ⟨b, off, rfl, _, hbh, _, _⟩ := hT1.some (by rw [flatMap_len tkc 2 tkc_len]; omega)
            have hc := hT1.elem tkc 2 tkc_len hit
            have hce : costOf T D[j] = T[D[j]].c := by unfold costOf; rw [List.getElem?_eq_getElem hit]; rfl
            have c1 : wr.cell? ⟨b, off + D[j] * 2 + 1, none⟩ = some (.int .i64 (costOf T D[j] : Int)) := by rw [hce]; exact hc 1 _ (by decide) rfl
            have hphl := Hlaid.out.ph D[j] hit (by rw [Hml.out]; exact hit)
            have hnow := fun (h0 : timesAt T ms t k (D[j]'hjl) = 0) => nxt_now (ks := ms) (t := t) (k := k) hit (by rw [Hml.out]; exact hit) hphl h0 hdue
            have ht0 := rowT_at T ms t k n (D.take j) D[j] hin
            rw [if_neg hnm, Nat.add_zero] at ht0
            have ht1 := Hfx.out.r1.cellAt D[j] (by omega)
            rw [ht0] at ht1
            have ht2 := Hfx.out.r1.frozenAt D[j]
            have hf0 := rowF_at T ms t k n (D.take j) D[j] hin
            have hf1 := Hfx.out.r2.cellAt D[j] (by omega)
            rw [hf0] at hf1
            have hf2 := Hfx.out.r2.frozenAt D[j]
            have htle := timesAt_le T ms t D[j] k
            have hrow := fun (x : Nat) (hx : x = timesAt T ms t k (D[j]'hjl) + 1) => rowT_set T ms t k n (D.take j) (D[j]'hjl) x hin hx
            have hrof := fun (x : Nat) (hx : x = nxt T ms t (D[j]'hjl)) => rowF_set T ms t k n (D.take j) (D[j]'hjl) x hin hx
            have hros := fun (hx : timesAt T ms t k (D[j]'hjl) ≠ 0) => rowF_same T ms t k n (D.take j) (D[j]'hjl) hx
            rw [← htk] at hrow hrof hros
            have hsle : dueCost T (D.take j) ≤ 64000 := by
              have : ∀ l : List Nat, (∀ x ∈ l, x < n) → dueCost T l ≤ 1000 * l.length := fun l hl => by
                induction l with
                | nil => exact Nat.zero_le _
                | cons a l ih =>
                  have h1 := ih (fun x hx => hl x (List.mem_cons_of_mem _ hx))
                  have h2 : dueCost T (a :: l) = costOf T a + dueCost T l := by simp [dueCost]
                  have h3 : costOf T a ≤ 1000 := by
                    unfold costOf
                    rw [List.getElem?_eq_getElem (by rw [Hl.out]; exact hl a (List.mem_cons_self ..))]
                    exact (Hok.out _ (List.getElem_mem _)).2.2
                  rw [h2, List.length_cons]
                  omega
              refine Nat.le_trans (this _ fun x hx => Hmem2.out x (List.mem_of_mem_take hx)) ?_
              rw [List.length_take]
              omega
            have Hall2 := Lib.hid hall2
            have Hbig2 := Lib.hid hbig2
            have Hsn := Lib.hid hsn
            have Hnow := Lib.hid hnow
            have Hrow := Lib.hid hrow
            have Hrof := Lib.hid hrof
            have Hros := Lib.hid hros
            clear hcd hdue htk hdrop hnm hall2 hbig2 hsn hT1 hc hce hphl hnow ht0 hf0 hrow hrof hros hit
            generalize D[j] = d at *
            generalize costOf T d = c at *
            generalize hs : dueCost T (D.take j) = s at *
            generalize hcn : timesAt T ms t k d = cn at *
            have u3 : IntKind.i64.wrap ((s : Int) + (c : Int)) = (s : Int) + (c : Int) := IntWalk.i64_in _ (by omega)
            have u4 : IntKind.i64.wrap ((cn : Int) + 1) = ((cn + 1 : Nat) : Int) := by rw [IntWalk.i64_in _ (by omega)]; omega
            have i1 : (j : Int) < (q : Int) := by omega
            have i2 : (d : Int) < (n : Int) := by omega
            have i3 : ¬ (d : Int) ≤ last := by omega
            have i4 : decide ((d : Int) ≤ last) = false := decide_eq_false (by omega)
            have i5 : decide ((n : Int) ≤ (d : Int)) = false := decide_eq_false (by omega)
            have hdn : d < 64 := by omega
            have n0 : w2.heap.size ≤ bf := (own_lt Hfx.out.r2 rfl).1
            have n1 : b ≠ bf := by omega
            have n2 : b ≠ w2.heap.size := by omega
            have n3 : bd ≠ bf := by omega
            have n4 : bd ≠ w2.heap.size := by omega
            have n5 := Hfx.out.ne
            clear hs hcn
            have Hin := Lib.hid hin
            by_cases h0 : cn = 0
            · subst h0
              have hnw := Hnow.out rfl
              generalize nxt T ms t d = nx at *
              subst hnw
              have g1 := (World.cell?_setCell_far wr ⟨bf, d, none⟩ ⟨w2.heap.size, d, none⟩ (.int .u64 ((t + k : Nat) : Int)) (by dsimp only; omega)).trans ht1
              have g2 := (World.cell?_setCell_far wr ⟨bf, d, none⟩ ⟨b, off + d * 2 + 1, none⟩ (.int .u64 ((t + k : Nat) : Int)) (by dsimp only; omega)).trans c1
              have hp2 := Hfx.out.put2 d (t + k) (Hrof.out (t + k) rfl)
              have hp1 := hp2.put1 d 1 (Hrow.out 1 rfl)
              have g3 := hp2.r1.frozenAt d
              have g4 := (World.cell?_setCell_far (wr.setCell ⟨bf, d, none⟩ (.int .u64 ((t + k : Nat) : Int))) ⟨w2.heap.size, d, none⟩ ⟨b, off + d * 2 + 1, none⟩ (.int .i64 1) (by dsimp only; omega)).trans g2
              have Hp1 : Hid (FX w2 w2.heap.size bf n (rowT T ms t k n (D.take (j + 1))) (rowF T ms t k n (D.take (j + 1))) ((wr.setCell ⟨bf, d, none⟩ (.int .u64 ((t + k : Nat) : Int))).setCell ⟨w2.heap.size, d, none⟩ (.int .i64 1))) := Lib.hid hp1
              have Hrd2 := Lib.hid ((Hrd.out.far (p := ⟨bf, d, none⟩) (.inl hblo) (.int .u64 ((t + k : Nat) : Int))).far (p := ⟨w2.heap.size, d, none⟩) (.inl hblo2) (.int .i64 1))
              clear hp2 hp1 Hnow Hrow Hrof Hros
              go_wp2
              go_roundw
              case rel => exact ⟨j + 1, (d : Int), by omega, by go_num, by rw [Hsn.out]; go_num, rfl, Hall2.out, Hbig2.out, by omega, by omega, Hrd2.out, Hp1.out⟩
              case measure => simp [intOf]; omega
            · have hc0 : ((cn : Int) == 0) = false := by rw [beq_eq_false_iff_ne]; omega
              have hsame := Hros.out h0
              have hp1 := Hfx.out.put1 d (cn + 1) (Hrow.out (cn + 1) rfl)
              rw [hsame] at hp1
              have g4 := (World.cell?_setCell_far wr ⟨w2.heap.size, d, none⟩ ⟨b, off + d * 2 + 1, none⟩ (.int .i64 ((cn + 1 : Nat) : Int)) (by dsimp only; omega)).trans c1
              have Hp1 := Lib.hid hp1
              have Hrd2 := Lib.hid (Hrd.out.far (p := ⟨w2.heap.size, d, none⟩) (.inl hblo2) (.int .i64 ((cn + 1 : Nat) : Int)))
              clear hp1 hsame Hnow Hrow Hrof Hros
              go_wp2
              go_roundw
              case rel => exact ⟨j + 1, (d : Int), by omega, by go_num, by rw [Hsn.out]; go_num, rfl, Hall2.out, Hbig2.out, by omega, by omega, Hrd2.out, Hp1.out⟩
              case measure => simp [intOf]; omega
          · obtain rfl : j = q := by omega
            have e := List.take_of_length_le (show D.length ≤ j by rw [← Hq.out]; exact Nat.le_refl _)
            have hfx := Hfx.out
            rw [e, rowT_next T ms t k n D Hmem.out, rowF_next T ms t k n D Hmem.out] at hfx
            have Hfx2 := Lib.hid hfx
            rw [e, Hd1.out]
            have hlr := Hd2.out
            have Hpbr := Lib.hid (Hpb.out.next hfx.bel)
            clear hfx Hfx e
            obtain ⟨ld, hld⟩ : ∃ ld, ld = load T ms ((t + k) % 64) := ⟨_, rfl⟩
            rw [← hld] at hlr ⊢
            have Hld := Lib.hid hld
            clear hld
            have i6 : decide ((room : Int) < (ld : Int)) = false := decide_eq_false (by omega)
            go_wp2_with fail
            refine (sload_any g vt vp T ms room (t + k) _ Hpbr.out).mono ?_
            rw [← Hld.out]
            rintro e w7 ⟨rfl, rfl⟩
            go_wp2
            go_roundw
            case rel => exact ⟨k + 1, by omega, by go_num, Hfx2.out⟩
            case measure => simp [intOf]; omega
      · have hke : k = 64 := by omega
        have hfx := Hfx.out
        rw [hke] at hfx
        have Hfx := Lib.hid hfx
        have hk2 : decide ((k : Int) < 64) = false := decide_eq_false (by omega)
        clear hfx hke
        obtain ⟨wz, hwz⟩ : ∃ wz : World, wz = wr := ⟨_, rfl⟩
        rw [← hwz] at Hfx
        have Hpbz := Lib.hid (Hpb.out.next Hfx.out.bel)
        have Hbz := Lib.hid (_root_.Go.Proofs.Ytgncngpgodfijaa.bt Hb2.out Hfx.out.bel)
        rw [← hwz]
        clear hwz
        go_wp2
        go_loopw [16, 17, 18] (fun i _ _ wr => ∃ j qq : Nat, j ≤ n ∧ i = .int .i64 (j : Int) ∧ wr = World.drewN wz qq) (fun i _ _ _ => n - (intOf i).toNat)
        case atStart => exact ⟨0, 0, by omega, rfl, rfl⟩
        case round =>
          obtain ⟨i, qq, hi, rfl, hwr⟩ := hrel
          have Hbr : Hid (Below w.heap.size w wr) := Lib.hid (by rw [hwr]; exact below_drewN Hbz.out qq)
          have Hpbr : Hid (PB wr g vt vp T ms room) := Lib.hid (by rw [hwr]; exact Hpbz.out.next (below_drewN (Below.refl _ _) qq))
          have Hfr : Hid (FX w2 w2.heap.size bf n (rowT T ms t 64 n []) (rowF T ms t 64 n []) wr) := Lib.hid (by rw [hwr]; exact Hfx.out.next (below_drewN (Below.refl _ _) qq))
          have Hwr := Lib.hid hwr
          clear hwr
          by_cases hin : i < n
          · have hit : i < T.length := by rw [Hl.out]; exact hin
            have him : i < ms.length := by rw [Hml.out]; exact hit
            have hT1 := HT.out.next Hbr.out
            obtain ⟨b, off, rfl, _, hbh, _, _⟩ := hT1.some (by rw [flatMap_len tkc 2 tkc_len]; omega)
            have hc := hT1.elem tkc 2 tkc_len hit
            have c0 : wr.cell? ⟨b, off + i * 2, none⟩ = some (.int .i64 (T[i].p : Int)) := hc 0 _ (by decide) rfl
            have hphl := Hlaid.out.ph i hit him
            obtain ⟨hpw, _, _⟩ := Hok.out T[i] (List.getElem_mem hit)
            have hall := timesAt_all hit him hpw hphl t
            obtain ⟨p1, p2, p3⟩ := pw_back hpw
            have f0 := rowT_at T ms t 64 n [] i hin
            rw [hall] at f0
            have f1 : wr.cell? ⟨w2.heap.size, i, none⟩ = some (.int .i64 ((64 / T[i].p : Nat) : Int)) := (Hfr.out.r1.cellAt i (by omega)).trans (by simpa using f0)
            have k0 := rowF_at T ms t 64 n [] i hin
            rw [hall, if_neg (by omega), nxt_at hit him] at k0
            have k1 : wr.cell? ⟨bf, i, none⟩ = some (.int .u64 (nextAt T[i].p ms[i] t : Int)) := (Hfr.out.r2.cellAt i (by omega)).trans k0
            have hnx := snext_any g vt vp T ms room t n i _ Hpbr.out Hml.out hit him (by rw [Hl.out]; exact hn) Hok.out (by omega) hphl
            have Hnx := Lib.hid hnx
            have hpp := hpw.pos
            clear hT1 hc hphl hpw hall f0 k0 hnx
            generalize nextAt T[i].p ms[i] t = nx at *
            generalize T[i].p = p at *
            obtain ⟨r, hr⟩ : ∃ r, r = 64 / p := ⟨_, rfl⟩
            rw [← hr] at p1 p2 p3 f1
            clear hr
            have u1 : IntKind.i64.wrap ((r : Int) * (p : Int)) = 64 := by
              rw [show (r : Int) * (p : Int) = ((r * p : Nat) : Int) by rw [Int.natCast_mul], p2]
              exact IntWalk.i64_in _ (by omega)
            have i1 : (i : Int) < (n : Int) := by omega
            have i2 : decide ((p : Int) < 1) = false := decide_eq_false (by omega)
            go_wp2_with fail
            refine Hnx.out.mono ?_
            rintro e w7 ⟨rfl, rfl⟩
            go_wp2
            go_quiet (fail)
            go_wp2
            go_roundw
            case rel => exact ⟨i + 1, _, by omega, by go_num, by rw [Hwr.out, World.drewN_drewN]⟩
            case measure => simp [intOf]; omega
          · obtain rfl : i = n := by omega
            go_wp2_with fail
            refine (sworks_any _).mono ?_
            rintro e w6 ⟨rfl, hb6⟩
            have Hb6 := Lib.hid (_root_.Go.Proofs.Ytgncngpgodfijaa.bt Hbr.out hb6)
            clear hb6
            go_wp2
            go_ret
            exact ⟨rfl, Hb6.out⟩
theorem walkFits (v0 v1 v2 : Value) (W : World) (h0 : VSat W (.slice TaskSh) false v0) (h1 : VSat W (.int .i64) false v1) (h2 : VSat W (.int .u64) false v2) :
    Calls Try.prog 7 #[v0, v1, v2] W fun e W' => e = .returned (.bool true) ∧ Below W.heap.size W W' := by
  obtain ⟨A, L, cap, rfl, hrd, hp, hl, hm, _⟩ := open_tasks h0
  obtain ⟨room, e, hw⟩ := h1
  injection e with e
  subst e
  obtain ⟨t, e, hwt⟩ := h2
  injection e with e
  subst e
  have hbt := bounds_u64 hwt
  obtain ⟨t, rfl⟩ : ∃ k : Nat, t = (k : Int) := ⟨t.toNat, by omega⟩
  by_cases h100 : L.length ≤ 100
  · by_cases hx : code L room = 0
    · obtain ⟨T, r, rfl, rfl, hok, h64, hr⟩ := code_open hx
      rw [ti_flat] at hrd
      rw [List.length_map]
      cases hph : phases T r with
      | some ms =>
        by_cases ht : t ≤ 2305843009213693952
        · exact lawFits_ok A T T.length cap r t t W hrd rfl h64 hok hr (.inl ⟨ht, rfl⟩) ms hph
        · exact lawFits_ok A T T.length cap r t _ W hrd rfl h64 hok hr (.inr ⟨by omega, rfl⟩) ms hph
      | none =>
        refine lawFits_none A (T.map ti) T.length cap r t W (by rw [ti_flat]; exact hrd) (by rw [List.length_map]) (by omega) 6 (by decide) fun A1 cap1 w1 hr1 => ?_
        rw [ti_flat] at hr1
        have := snew_ok A1 T T.length cap1 _ _ r w1 hr1 (Nat.le_refl _) rfl h64 hok hr
        unfold GotNew at this
        rw [hph] at this
        exact this
    · exact lawFits_none A L L.length cap room t W hrd rfl h100 _ hx fun A1 cap1 w1 hr1 => snew_bad A1 L L.length cap1 _ _ room w1 hr1 (Nat.le_refl _) rfl (by unfold maxLen; omega) _ rfl hx
  · have i1 : (100 : Int) < (L.length : Int) := by omega
    generalize L.length = n at *
    clear hrd
    go_enter Try.func7, Try.ntmps7
    go_wp2_with fail
    refine (sworks_any _).mono ?_
    rintro e w3 ⟨rfl, hb3⟩
    go_wp2
    go_ret
    exact ⟨rfl, hb3⟩
end Sch
end Go.Proofs.Ytgncngpgodfijaa
