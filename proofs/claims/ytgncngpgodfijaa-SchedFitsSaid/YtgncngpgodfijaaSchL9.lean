/-
  The walk of the law SchedSafe.
-/
import Derived.Test.YtgncngpgodfijaaSchV
namespace Go.Proofs.Ytgncngpgodfijaa
open Go.RowKit
set_option linter.unusedVariables false
namespace Sch

theorem infoBoolS : (Try.prog.info? 4).map (fun i => (i.zero, i.size, i.bytes)) = some (some (.bool false), 1, 1) := by kernel_rfl
/-- what the tasks cost that are done in the slot of a time -/
def dueCost (ts : List Tk) (D : List Nat) : Nat := (D.map (costOf ts)).sum
theorem dueCost_snoc (ts : List Tk) (D : List Nat) (i : Nat) : dueCost ts (D ++ [i]) = dueCost ts D + costOf ts i := by
  unfold dueCost
  rw [List.map_append, List.sum_append]
  simp
theorem due_load (ts : List Tk) (ks : List Nat) (a : Nat) (hl : ks.length = ts.length) : ∀ j, j ≤ ts.length → dueCost ts (due ts ks a j) = load (ts.take j) (ks.take j) a
  | 0, _ => by simp [due, dueCost, load]
  | j + 1, h => by
    have ih := due_load ts ks a hl j (by omega)
    have hj : j < ts.length := by omega
    have hk : j < ks.length := by omega
    rw [load_take_succ ts ks a j hj hk, due_succ, isDue_at hj hk]
    have hc : costOf ts j = ts[j].c := by unfold costOf; rw [List.getElem?_eq_getElem hj]; rfl
    by_cases h : a % ts[j].p = ks[j]
    · rw [if_pos (by simpa using h), if_pos h, dueCost_snoc, ih, hc]
    · rw [if_neg (by simpa using h), if_neg h, ih, Nat.add_zero]
theorem used_sum_le (ts : List Tk) (takes : List Int) (D : List Nat) : usedSum ts takes D ≤ dueCost ts D := by
  induction D with
  | nil => exact Nat.le_refl _
  | cons d D ih =>
    have h1 : usedSum ts takes (d :: D) = used ts takes d + usedSum ts takes D := by simp [usedSum]
    have h2 : dueCost ts (d :: D) = costOf ts d + dueCost ts D := by simp [dueCost]
    have h3 : used ts takes d ≤ costOf ts d := Nat.min_le_right _ _
    omega
theorem load_mod {ts : List Tk} (hok : ∀ x ∈ ts, okK x) : ∀ (ks : List Nat) (a : Nat), load ts ks (a % 64) = load ts ks a := by
  induction ts with
  | nil => intro ks a; rw [load_nil_left, load_nil_left]
  | cons t ts ih =>
    intro ks a
    cases ks with
    | nil => rw [load_nil_right, load_nil_right]
    | cons k ks =>
      simp only [load]
      rw [ih (fun x hx => hok x (List.mem_cons_of_mem _ hx)), (hok t (List.mem_cons_self ..)).1.mod]
theorem due_room {ts : List Tk} {ks : List Nat} {room : Nat} (hok : ∀ x ∈ ts, okK x) (hl : Laid room ts ks) (t : Nat) : dueCost ts (due ts ks t ts.length) = load ts ks (t % 64) ∧ load ts ks (t % 64) ≤ room := by
  refine ⟨?_, hl.le _ (Nat.mod_lt _ (by decide))⟩
  rw [due_load ts ks t hl.len ts.length (Nat.le_refl _), load_mod hok, List.take_length, ← hl.len, List.take_length]
/-- a row of flags -/
def flags (f : Nat → Bool) (n : Nat) : List Value := (List.range n).map (fun i => Value.bool (f i))
theorem flags_len (f : Nat → Bool) (n : Nat) : (flags f n).length = n := by simp [flags]
theorem flags_at (f : Nat → Bool) (n i : Nat) (h : i < n) : (flags f n)[i]? = some (.bool (f i)) := by simp [flags, h]
theorem flags_set (f : Nat → Bool) (n i : Nat) (b : Bool) : (flags f n).set i (.bool b) = flags (fun j => if j = i then b else f j) n := by
  apply List.ext_getElem?
  intro j
  rw [List.getElem?_set]
  by_cases hj : j < n
  · rw [flags_at _ _ _ hj, flags_at _ _ _ hj]
    by_cases e : i = j
    · subst e
      rw [if_pos rfl, if_pos (by rw [flags_len]; exact hj), if_pos rfl]
    · rw [if_neg e, if_neg (Ne.symm e)]
  · rw [List.getElem?_eq_none (by rw [flags_len]; omega), List.getElem?_eq_none (by rw [flags_len]; omega)]
    split
    · rw [if_neg (by rw [flags_len]; omega)]
    · rfl
theorem flags_ext {f h : Nat → Bool} (n : Nat) (he : ∀ i, i < n → f i = h i) : flags f n = flags h n := by
  unfold flags
  apply List.map_congr_left
  intro a ha
  rw [he a (List.mem_range.1 ha)]
theorem flags_false (n : Nat) : flags (fun _ => false) n = List.replicate n (.bool false) := by
  apply List.ext_getElem?
  intro j
  by_cases hj : j < n
  · rw [flags_at _ _ _ hj]; simp [hj]
  · rw [List.getElem?_eq_none (by rw [flags_len]; omega), List.getElem?_eq_none (by simp; omega)]
theorem used_next (ts : List Tk) (ks : List Nat) (takes : List Int) (t j : Nat) : usedSum ts takes (due ts ks t (j + 1)) = usedSum ts takes (due ts ks t j) + (if isDue ts ks t j = true then used ts takes j else 0) := by
  rw [due_succ]
  split
  · rw [usedSum_snoc]
  · rw [Nat.add_zero]
set_option maxRecDepth 100000 in
set_option maxHeartbeats 2000000 in
theorem lawSafe_none (A : Option Addr) (L : List Ti) (n cap : Nat) (room : Int) (t : Nat) (Atk : Option Addr) (m capk : Nat) (w : World) (hrd : RdL w 0 w.heap.size A (L.flatMap tic)) (hl : L.length = n) (hn : n ≤ 100) (hm : m ≤ 100)
    (x : Int) (hx0 : x ≠ 0) (hnew : ∀ (A1 : Option Addr) (cap1 : Nat) (w1 : World), RdL w1 w.heap.size w1.heap.size A1 (L.flatMap tic) → Calls Try.prog 34 #[.slice A1 n cap1, .int .i64 room] w1 fun e w' => e = .returned (.tuple #[.pointer none, .int .i64 x]) ∧ Below w1.heap.size w1 w') :
    Calls Try.prog 9 #[.slice A n cap, .int .i64 room, .int .u64 (t : Int), .slice Atk m capk] w fun e w' => e = .returned (.bool true) ∧ Below w.heap.size w w' := by
  have HL := Lib.hid hrd
  have Hl := Lib.hid hl
  have Hnew := Lib.hid hnew
  clear hrd hl hnew
  have d100 : decide ((100 : Int) < (n : Int)) = false := decide_eq_false (by omega)
  have e100 : decide ((100 : Int) < (m : Int)) = false := decide_eq_false (by omega)
  have x1 : (x != 0) = true := by rw [bne_iff_ne]; exact hx0
  go_enter Try.func9, Try.ntmps9
  go_wp2_with fail
  refine (sown_any A L n cap _ _ w HL.out (Nat.le_refl _) Hl.out hn).mono ?_
  rintro e w1 ⟨⟨v1, rfl, hown1⟩, hb1⟩
  obtain ⟨A1, cap1, rfl, hr1, _, _, _⟩ := own_rd hown1
  have Hr1 := Lib.hid hr1
  have Hb1 := Lib.hid hb1
  clear hown1 hr1 hb1
  go_wp2_with fail
  refine (Hnew.out A1 cap1 w1 Hr1.out).mono ?_
  rintro e w2 ⟨rfl, hb2⟩
  have Hb2 := Lib.hid (_root_.Go.Proofs.Ytgncngpgodfijaa.bt Hb1.out hb2)
  clear hb2 Hb1 Hr1
  go_wp2_with fail
  refine (sworks_any _).mono ?_
  rintro e w6 ⟨rfl, hb6⟩
  have Hb6 := Lib.hid (_root_.Go.Proofs.Ytgncngpgodfijaa.bt Hb2.out hb6)
  clear hb6
  go_wp2
  go_ret
  exact ⟨rfl, Hb6.out⟩
set_option maxRecDepth 100000 in
set_option maxHeartbeats 4000000 in
theorem lawSafe_ok (A : Option Addr) (T : List Tk) (n cap room t : Nat) (Atk : Option Addr) (takes : List Int) (m capk : Nat) (w : World) (hrd : RdL w 0 w.heap.size A (T.flatMap tkc)) (hl : T.length = n) (hn : n ≤ 64) (hok : ∀ t ∈ T, okK t) (hroom : 1 ≤ room ∧ room ≤ 1048576)
    (ht : t < 18446744073709551616) (hk : RdL w 0 w.heap.size Atk (jv takes)) (hm : takes.length = m) (hm100 : m ≤ 100) (hi : ∀ x ∈ takes, okI x) (ms D : List Nat) (hph : phases T room = some ms) (hD : due T ms t n = D) :
    Calls Try.prog 9 #[.slice A n cap, .int .i64 (room : Int), .int .u64 (t : Int), .slice Atk m capk] w fun e w' => e = .returned (.bool true) ∧ Below w.heap.size w w' := by
  obtain ⟨i0, hi0, hz0, hz1, hz2⟩ := info_parts infoBoolS
  have hlaid := phases_laid hph
  have hdr := due_room hok hlaid t
  rw [hl, hD] at hdr
  have husm : usedSum T takes D ≤ room := by
    have := used_sum_le T takes D
    omega
  have hmem : ∀ i, i < n → (i ∈ D ↔ isDue T ms t i = true) := fun i hin => by rw [← hD, mem_due]; simp [hin]
  have hDn : ∀ i ∈ D, i < n := fun i hi => by rw [← hD, mem_due] at hi; exact hi.1
  have hDl : D.length ≤ n := by rw [← hD]; exact due_le T ms t n
  have hml : ms.length = T.length := hlaid.len
  have HT := Lib.hid hrd
  have HL : Hid (RdL w 0 w.heap.size A ((T.map ti).flatMap tic)) := Lib.hid (by rw [ti_flat]; exact hrd)
  have Hl := Lib.hid hl
  have Hl2 : Hid ((T.map ti).length = n) := Lib.hid (by rw [List.length_map]; exact hl)
  have Hok := Lib.hid hok
  have Hroom := Lib.hid hroom
  have Ht := Lib.hid ht
  have Hk := Lib.hid hk
  have Hm := Lib.hid hm
  have Hi := Lib.hid hi
  have Hph := Lib.hid hph
  have HD := Lib.hid hD
  have Hmem := Lib.hid hmem
  have HDn := Lib.hid hDn
  have HDl := Lib.hid hDl
  have Hml := Lib.hid hml
  have Husm := Lib.hid husm
  clear hrd hl hok ht hk hm hi hph hD hlaid hdr hmem hDn hDl hml husm
  have d100 : decide ((100 : Int) < (n : Int)) = false := decide_eq_false (by omega)
  have e100 : decide ((100 : Int) < (m : Int)) = false := decide_eq_false (by omega)
  have hn100 : n ≤ 100 := by omega
  go_enter Try.func9, Try.ntmps9
  go_wp2_with fail
  refine (sown_any A (T.map ti) n cap _ _ w HL.out (Nat.le_refl _) Hl2.out hn100).mono ?_
  rintro e w1 ⟨⟨v1, rfl, hown1⟩, hb1⟩
  obtain ⟨A1, cap1, rfl, hr1, _, _, _⟩ := own_rd hown1
  rw [ti_flat] at hr1
  have Hr1 := Lib.hid hr1
  have Hb1 := Lib.hid hb1
  clear hown1 hr1 hb1
  go_wp2_with fail
  refine (snew_ok A1 T n cap1 _ _ room w1 Hr1.out (Nat.le_refl _) Hl.out hn Hok.out hroom).mono ?_
  unfold GotNew
  rw [Hph.out]
  rintro e w2 ⟨⟨g, vt, vp, rfl, hg, hpb⟩, hb2⟩
  have Hpb := Lib.hid hpb
  have Hb2 := Lib.hid (_root_.Go.Proofs.Ytgncngpgodfijaa.bt Hb1.out hb2)
  clear hpb hb2 Hb1 Hr1
  obtain ⟨us, hus⟩ : ∃ us, us = usedSum T takes D := ⟨_, rfl⟩
  have husm := Husm.out
  have hrm := Hroom.out.2
  rw [← hus] at husm
  have Hus := Lib.hid hus
  clear hus
  have o1 : decide ((us : Int) < 0) = false := decide_eq_false (by omega)
  have o2 : decide ((room : Int) < (us : Int)) = false := decide_eq_false (by omega)
  go_wp2_with fail
  refine (srun_any g vt vp T ms room t n Atk takes m capk w2 Hpb.out Hml.out Hl.out hn Hok.out Ht.out ((Hk.out.next Hb2.out).wide (Nat.le_refl _) Hb2.out.size) Hm.out Hi.out D HD.out).mono ?_
  rw [← Hus.out]
  rintro e w3 ⟨⟨vr, rfl, hr⟩, hb3⟩
  obtain ⟨Ar, capr, rfl, hrr, _, _, _⟩ := own_rd hr
  have Hr := Lib.hid hr
  have Hrr := Lib.hid hrr
  have Hpb3 := Lib.hid (Hpb.out.next hb3)
  have Hb3 := Lib.hid (_root_.Go.Proofs.Ytgncngpgodfijaa.bt Hb2.out hb3)
  have hs23 := hb3.size
  clear hr hrr hb3 Hpb Hb2
  go_wp2_with (at_make; refine wpList_make_full _ rfl _ _ 27 rfl w3.heap.size 4 i0 (.bool false) 1 Try.underlying27 hi0 hz0 hz1 _ _ _ _ n rfl rfl (by rfl) (by rfl) (by rw [hz2]; omega) (by unfold maxLen; omega) (Nat.le_refl _) ?_; intro w4 hown4 hgrow4; have Hown4 := Lib.hid hown4; have Hgrow4 := Lib.hid hgrow4; clear hown4 hgrow4)
  have hown4 := Hown4.out
  have ez : (madeCells (Value.bool false).cells (n * 1)).toList = flags (fun i => decide (i ∈ D.take 0)) n := by
    rw [List.take_zero, flags_ext n (h := fun _ => false) (fun i _ => by simp), flags_false, Nat.mul_one]
    exact toList_madeCells_one _ _
  rw [ez] at hown4
  have hb4 : Below w3.heap.size w3 w4 := ⟨Hgrow4.out.os, Hgrow4.out.tape, Hgrow4.out.output, Hgrow4.out.size, fun i hi => Hgrow4.out.block i hi (by simp)⟩
  have hz34 : w3.heap.size < w4.heap.size := (own_lt hown4 rfl).2
  have Ho4 := Lib.hid hown4
  have Hpb4 := Lib.hid (Hpb3.out.next hb4)
  have Hb4 := Lib.hid (_root_.Go.Proofs.Ytgncngpgodfijaa.bt Hb3.out hb4)
  have Hrr4 := Lib.hid (Hrr.out.next hb4)
  have hwz3 := Hb3.out.size
  clear hown4 ez Hown4 Hgrow4 hb4 Hpb3 Hr Hrr
  go_wp2_with fail
  refine (sdue_any g vt vp T ms room t n w4 Hpb4.out Hml.out Hl.out hn Hok.out Ht.out).mono ?_
  unfold GotL
  rw [HD.out]
  rintro e w5 ⟨⟨vd, rfl, hd⟩, hb5⟩
  rw [iv_len] at hd
  obtain ⟨Ad, capd, rfl, hrd, _, _, _⟩ := own_rd hd
  have Ho5 := Lib.hid (own_next Ho4.out hb5)
  have Hb5 := Lib.hid (_root_.Go.Proofs.Ytgncngpgodfijaa.bt Hb4.out hb5)
  have Hrr5 := Lib.hid (Hrr4.out.next hb5)
  have Hrd := Lib.hid hrd
  have hs45 := hb5.size
  obtain ⟨q, hq⟩ : ∃ q, q = D.length := ⟨_, rfl⟩
  rw [← hq]
  have hqn : q ≤ n := by have := HDl.out; omega
  have Hq := Lib.hid hq
  clear hd hrd hb5 hq Hpb4 Hb4 Hrr4 Ho4
  go_wp2
  go_loopw [15] (fun i wr => ∃ j : Nat, j ≤ q ∧ i = .int .i64 (j : Int) ∧ wr.ownsRow w3.heap.size 4 1 (.slice (some ⟨w3.heap.size, 0, none⟩) n n) n (flags (fun i => decide (i ∈ D.take j)) n) ∧ w5.grownBy wr (some w3.heap.size)) (fun i _ => q - (intOf i).toNat)
  case atStart => exact ⟨0, by omega, rfl, Ho5.out, only_refl _ _⟩
  case round =>
    clear Ho5
    obtain ⟨j, hj, rfl, hown, hg5⟩ := hrel
    have Hown := Lib.hid hown
    have Hg5 := Lib.hid hg5
    clear hown hg5
    by_cases hlt : j < q
    · have hjl : j < D.length := by rw [← Hq.out]; exact hlt
      have hrd1 := Hrd.out.grown Hg5.out (fun k hk => by injection hk with hk; omega)
      obtain ⟨bd, offd, rfl, hbd1, _, _, hcd⟩ := hrd1.some (by rw [iv_len]; omega)
      have c0 : wr.cell? ⟨bd, offd + j, none⟩ = some (.int .i64 (D[j] : Int)) := hcd j _ (iv_get D j hjl)
      have hin := HDn.out D[j] (List.getElem_mem hjl)
      have htk := List.take_succ_eq_append_getElem hjl
      clear hrd1 hcd
      generalize D[j] = d at *
      have Htk := Lib.hid htk
      clear htk
      have f0 := Hown.out.frozenAt d
      have f1 := Hown.out.cellAt d (by omega)
      rw [flags_at _ _ _ hin] at f1
      obtain ⟨hst, hsg⟩ := Hown.out.stored d (.bool true)
      rw [flags_set] at hst
      have Hst := Lib.hid hst
      have Hsg := Lib.hid (only_trans Hg5.out hsg)
      clear hst hsg
      generalize decide (d ∈ D.take j) = bb at *
      have i1 : (j : Int) < (q : Int) := by omega
      have i2 : (d : Int) < (n : Int) := by omega
      have i3 : decide ((d : Int) < 0) = false := decide_eq_false (by omega)
      have i4 : decide ((n : Int) ≤ (d : Int)) = false := decide_eq_false (by omega)
      go_wp2
      go_roundw
      case rel =>
        refine ⟨j + 1, by omega, by go_num, ?_, Hsg.out⟩
        have := Hst.out
        rw [flags_ext n (h := fun i => decide (i ∈ D.take (j + 1))) (fun i _ => by
          rw [Htk.out]
          by_cases e : i = d
          · subst e; simp
          · simp [e])] at this
        exact this
      case measure => simp [intOf]; omega
    · obtain rfl : j = q := by omega
      have hfl := Hown.out
      rw [List.take_of_length_le (show D.length ≤ j by rw [← Hq.out]; exact Nat.le_refl _)] at hfl
      have Hfl := Lib.hid hfl
      have hbw : Below w.heap.size w wr := Hb5.out.grown Hg5.out Hb5.out.size (fun k hk => by injection hk with hk; omega)
      have Hbw := Lib.hid hbw
      have Hrw := Lib.hid (Hrr5.out.grown Hg5.out (fun k hk => by injection hk with hk; omega))
      obtain ⟨wz, hwz⟩ : ∃ wz : World, wz = wr := ⟨_, rfl⟩
      rw [← hwz] at Hfl Hbw Hrw ⊢
      clear Hown hfl hbw Hg5 hwz
      go_wp2
      go_loopw [16, 17, 18, 19] (fun s i _ _ wr => ∃ j : Nat, j ≤ n ∧ i = .int .i64 (j : Int) ∧ s = .int .i64 (usedSum T takes (due T ms t j) : Int) ∧ wr = wz) (fun _ i _ _ _ => n - (intOf i).toNat)
      case atStart => exact ⟨0, by omega, rfl, rfl, rfl⟩
      case round =>
        obtain ⟨i, hi, rfl, rfl, rfl⟩ := hrel
        by_cases hin : i < n
        · have hit : i < T.length := by rw [Hl.out]; exact hin
          have hT1 := HT.out.next Hbw.out
          obtain ⟨b, off, rfl, _, _, _, _⟩ := hT1.some (by rw [flatMap_len tkc 2 tkc_len]; omega)
          have hc := hT1.elem tkc 2 tkc_len hit
          have c1 : wr.cell? ⟨b, off + i * 2 + 1, none⟩ = some (.int .i64 (T[i].c : Int)) := hc 1 _ (by decide) rfl
          have hco : costOf T i = T[i].c := by unfold costOf; rw [List.getElem?_eq_getElem hit]; rfl
          obtain ⟨_, hcc1, hcc2⟩ := Hok.out T[i] (List.getElem_mem hit)
          obtain ⟨br, offr, rfl, _, _, _, hcr⟩ := Hrw.out.some (by rw [iv_len, marks_len]; omega)
          have c2 : wr.cell? ⟨br, offr + i, none⟩ = some (.int .i64 ((if i ∈ D then mark T takes i else 0 : Nat) : Int)) := by
            refine hcr i _ ?_
            unfold iv
            rw [List.getElem?_map, marks_at _ _ _ _ hin]
            rfl
          have f1 := Hfl.out.cellAt i (by omega)
          rw [flags_at _ _ _ hin] at f1
          have hun := used_next T ms takes t i
          have hul := usedSum_le Hok.out takes (due T ms t i)
          have hul2 : usedSum T takes (due T ms t i) ≤ 64000 := Nat.le_trans hul (by have := due_le T ms t i; omega)
          have hmk : mark T takes i = if needOf takes i ≤ T[i].c then 1 else 2 := by unfold mark; rw [hco]
          have hud : used T takes i = min (needOf takes i) T[i].c := by unfold used; rw [hco]
          have hmi := Hmem.out i hin
          rw [hmk] at c2
          rw [hud] at hun
          clear hT1 hc hcr hul hmk hud hco
          generalize T[i].c = c at *
          generalize hs : usedSum T takes (due T ms t i) = s at *
          have Hun := Lib.hid hun
          have hcase : (¬ i < m ∧ needOf takes i = 0) ∨ (i < m ∧ ∃ x : Int, x ≤ 0 ∧ needOf takes i = 0 ∧ takes[i]? = some x) ∨ (i < m ∧ ∃ x : Nat, 0 < x ∧ needOf takes i = x ∧ takes[i]? = some (x : Int)) := by
            by_cases him : i < m
            · right
              have hil : i < takes.length := by rw [Hm.out]; exact him
              unfold needOf
              rw [List.getElem?_eq_getElem hil]
              by_cases hx : takes[i] ≤ 0
              · left
                exact ⟨him, takes[i], hx, by simp only [Option.getD_some]; omega, rfl⟩
              · right
                refine ⟨him, takes[i].toNat, by omega, rfl, ?_⟩
                rw [Int.toNat_of_nonneg (by omega)]
            · left
              refine ⟨him, ?_⟩
              unfold needOf
              rw [List.getElem?_eq_none (by rw [Hm.out]; omega)]
              rfl
          have htake : ∀ x : Int, i < m → takes[i]? = some x → ∃ bk offk, Atk = some ⟨bk, offk, none⟩ ∧ wr.cell? ⟨bk, offk + i, none⟩ = some (.int .i64 x) := by
            intro x him hget
            obtain ⟨bk, offk, e, _, _, hbk, hck⟩ := Hk.out.some (by rw [jv_len, Hm.out]; omega)
            refine ⟨bk, offk, e, (Hbw.out.cell (p := ⟨bk, offk + i, none⟩) hbk).trans (hck i _ ?_)⟩
            unfold jv
            rw [List.getElem?_map, hget]
            rfl
          have i1 : (i : Int) < (n : Int) := by omega
          have Htake := Lib.hid htake
          clear hun htake hs
          by_cases hdue : isDue T ms t i = true
          · have hmD : i ∈ D := hmi.2 hdue
            have hun := Hun.out
            rw [if_pos hdue] at hun
            rw [if_pos hmD] at c2
            rw [decide_eq_true hmD] at f1
            clear hmi hmD hdue
            rcases hcase with ⟨him, hnd⟩ | ⟨him, x, hx, hnd, hget⟩ | ⟨him, x, hx, hnd, hget⟩
            · rw [hnd] at c2 hun
              rw [if_pos (Nat.zero_le _)] at c2
              rw [Nat.zero_min, Nat.add_zero] at hun
              have Hun2 := Lib.hid hun
              have h1 : ¬ ((i : Int) < (m : Int)) := by omega
              have h2 : (0 : Int) ≤ (c : Int) := by omega
              have u1 : IntKind.i64.wrap ((s : Int) + 0) = (s : Int) := by rw [Int.add_zero]; exact IntWalk.i64_in _ (by omega)
              clear hun hnd Hun Htake
              go_wp2
              go_roundw
              case rel => exact ⟨i + 1, by omega, by go_num, by rw [Hun2.out]; first | rfl | go_num, by first | trivial | rfl⟩
              case measure => simp [intOf]; omega
            · obtain ⟨bk, offk, rfl, c3⟩ := Htake.out x him hget
              rw [hnd] at c2 hun
              rw [if_pos (Nat.zero_le _)] at c2
              rw [Nat.zero_min, Nat.add_zero] at hun
              have Hun2 := Lib.hid hun
              have h1 : (i : Int) < (m : Int) := by omega
              have h3 : ¬ (0 : Int) < x := by omega
              have h2 : (0 : Int) ≤ (c : Int) := by omega
              have u1 : IntKind.i64.wrap ((s : Int) + 0) = (s : Int) := by rw [Int.add_zero]; exact IntWalk.i64_in _ (by omega)
              clear hun hnd hget Hun Htake
              go_wp2
              go_roundw
              case rel => exact ⟨i + 1, by omega, by go_num, by rw [Hun2.out]; first | rfl | go_num, by first | trivial | rfl⟩
              case measure => simp [intOf]; omega
            · obtain ⟨bk, offk, rfl, c3⟩ := Htake.out x him hget
              rw [hnd] at c2 hun
              have h1 : (i : Int) < (m : Int) := by omega
              have h3 : (0 : Int) < (x : Int) := by omega
              by_cases hxc : x ≤ c
              · rw [if_pos hxc] at c2
                rw [Nat.min_eq_left hxc] at hun
                have Hun2 := Lib.hid hun
                have h2 : (x : Int) ≤ (c : Int) := by omega
                have u1 : IntKind.i64.wrap ((s : Int) + (x : Int)) = ((s + x : Nat) : Int) := by rw [IntWalk.i64_in _ (by omega)]; omega
                clear hun hnd hget Hun Htake
                go_wp2
                go_roundw
                case rel => exact ⟨i + 1, by omega, by go_num, by rw [Hun2.out]; first | rfl | go_num, by first | trivial | rfl⟩
                case measure => simp [intOf]; omega
              · rw [if_neg hxc] at c2
                rw [Nat.min_eq_right (by omega)] at hun
                have Hun2 := Lib.hid hun
                have h2 : ¬ (x : Int) ≤ (c : Int) := by omega
                have u1 : IntKind.i64.wrap ((s : Int) + (c : Int)) = ((s + c : Nat) : Int) := by rw [IntWalk.i64_in _ (by omega)]; omega
                clear hun hnd hget Hun Htake
                go_wp2
                go_roundw
                case rel => exact ⟨i + 1, by omega, by go_num, by rw [Hun2.out]; first | rfl | go_num, by first | trivial | rfl⟩
                case measure => simp [intOf]; omega
          · have hmD : ¬ i ∈ D := fun h => hdue (hmi.1 h)
            have hun := Hun.out
            rw [if_neg hdue, Nat.add_zero] at hun
            rw [if_neg hmD] at c2
            rw [decide_eq_false hmD] at f1
            have Hun2 := Lib.hid hun
            clear hmi hmD hdue hun Hun
            rcases hcase with ⟨him, hnd⟩ | ⟨him, x, hx, hnd, hget⟩ | ⟨him, x, hx, hnd, hget⟩
            · have h1 : ¬ ((i : Int) < (m : Int)) := by omega
              clear hnd Htake
              go_wp2
              go_roundw
              case rel => exact ⟨i + 1, by omega, by go_num, by rw [Hun2.out]; first | rfl | go_num, by first | trivial | rfl⟩
              case measure => simp [intOf]; omega
            · obtain ⟨bk, offk, rfl, c3⟩ := Htake.out x him hget
              have h1 : (i : Int) < (m : Int) := by omega
              have h3 : ¬ (0 : Int) < x := by omega
              clear hnd hget Htake
              go_wp2
              go_roundw
              case rel => exact ⟨i + 1, by omega, by go_num, by rw [Hun2.out]; first | rfl | go_num, by first | trivial | rfl⟩
              case measure => simp [intOf]; omega
            · obtain ⟨bk, offk, rfl, c3⟩ := Htake.out x him hget
              have h1 : (i : Int) < (m : Int) := by omega
              have h3 : (0 : Int) < (x : Int) := by omega
              clear hnd hget Htake
              go_wp2
              go_roundw
              case rel => exact ⟨i + 1, by omega, by go_num, by rw [Hun2.out]; first | rfl | go_num, by first | trivial | rfl⟩
              case measure => simp [intOf]; omega
        · obtain rfl : i = n := by omega
          have e := Hus.out
          rw [← HD.out] at e
          rw [← e]
          go_wp2_with fail
          refine (sworks_any _).mono ?_
          rintro e w6 ⟨rfl, hb6⟩
          have Hb6 := Lib.hid (_root_.Go.Proofs.Ytgncngpgodfijaa.bt Hbw.out hb6)
          clear hb6
          go_wp2
          go_ret
          exact ⟨rfl, Hb6.out⟩
theorem open_ints {W : World} {v : Value} (h : VSat W (.slice (.int .i64)) false v) :
    ∃ A L cap, v = .slice A (List.length L) cap ∧ RdL W 0 W.heap.size A (jv L) ∧ (∀ x ∈ L, okI x) ∧ L.length ≤ cap ∧ cap ≤ maxLen ∧ (A = none → L.length = 0 ∧ cap = 0) := by
  obtain ⟨A, L, cap, e, h1, h5, h2, h3, h4⟩ := open_slice_of (fun k : Int => [Value.int .i64 k]) okI (.int .i64) 1 rfl (fun _ => rfl) (by decide) (fun cs hs => by
    obtain ⟨n, rfl, hw⟩ := hs
    exact ⟨n, rfl, bounds_i64 hw⟩) h
  rw [flatMap_one] at h1
  exact ⟨A, L, cap, e, h1, h5, h2, h3, h4⟩
theorem walkSafe (v0 v1 v2 v3 : Value) (W : World) (h0 : VSat W (.slice TaskSh) false v0) (h1 : VSat W (.int .i64) false v1) (h2 : VSat W (.int .u64) false v2) (h3 : VSat W (.slice (.int .i64)) false v3) :
    Calls Try.prog 9 #[v0, v1, v2, v3] W fun e W' => e = .returned (.bool true) ∧ Below W.heap.size W W' := by
  obtain ⟨A, L, cap, rfl, hrd, hp, hl, hm, _⟩ := open_tasks h0
  obtain ⟨room, e, hw⟩ := h1
  injection e with e
  subst e
  obtain ⟨t, e, hwt⟩ := h2
  injection e with e
  subst e
  have hbt := bounds_u64 hwt
  obtain ⟨t, rfl⟩ : ∃ k : Nat, t = (k : Int) := ⟨t.toNat, by omega⟩
  obtain ⟨Ak, takes, capk, rfl, hrk, hik, _, _, _⟩ := open_ints h3
  by_cases h100 : L.length ≤ 100
  · by_cases hm100 : takes.length ≤ 100
    · by_cases hx : code L room = 0
      · obtain ⟨T, r, rfl, rfl, hok, h64, hr⟩ := code_open hx
        rw [ti_flat] at hrd
        rw [List.length_map]
        cases hph : phases T r with
        | some ms => exact lawSafe_ok A T T.length cap r t Ak takes takes.length capk W hrd rfl h64 hok hr (by omega) hrk rfl hm100 hik ms _ hph rfl
        | none =>
          refine lawSafe_none A (T.map ti) T.length cap r t Ak takes.length capk W (by rw [ti_flat]; exact hrd) (by rw [List.length_map]) (by omega) hm100 6 (by decide) fun A1 cap1 w1 hr1 => ?_
          rw [ti_flat] at hr1
          have := snew_ok A1 T T.length cap1 _ _ r w1 hr1 (Nat.le_refl _) rfl h64 hok hr
          unfold GotNew at this
          rw [hph] at this
          exact this
      · exact lawSafe_none A L L.length cap room t Ak takes.length capk W hrd rfl h100 hm100 _ hx fun A1 cap1 w1 hr1 => snew_bad A1 L L.length cap1 _ _ room w1 hr1 (Nat.le_refl _) rfl (by unfold maxLen; omega) _ rfl hx
    · have i1 : (100 : Int) < (takes.length : Int) := by omega
      have i2 : decide ((100 : Int) < (L.length : Int)) = false := decide_eq_false (by omega)
      generalize L.length = n at *
      generalize takes.length = m at *
      clear hrd hrk
      go_enter Try.func9, Try.ntmps9
      go_wp2_with fail
      refine (sworks_any _).mono ?_
      rintro e w3 ⟨rfl, hb3⟩
      go_wp2
      go_ret
      exact ⟨rfl, hb3⟩
  · have i1 : (100 : Int) < (L.length : Int) := by omega
    generalize L.length = n at *
    clear hrd
    go_enter Try.func9, Try.ntmps9
    go_wp2_with fail
    refine (sworks_any _).mono ?_
    rintro e w3 ⟨rfl, hb3⟩
    go_wp2
    go_ret
    exact ⟨rfl, hb3⟩
end Sch
end Go.Proofs.Ytgncngpgodfijaa
