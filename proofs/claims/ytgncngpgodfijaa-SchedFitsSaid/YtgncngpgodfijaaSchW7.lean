/-
  The walk of sched.put: a task is laid.
-/
import Derived.Test.YtgncngpgodfijaaSchW7a
import Derived.Deep.AppendLies
import Derived.Outline
import Derived.Deep.DeepCutAuto
namespace Go.Proofs.Ytgncngpgodfijaa
open Go.RowKit
set_option linter.unusedVariables false
namespace Sch
theorem infoTask : (Try.prog.info? 72).map (fun i => (i.zero, i.size, i.bytes)) = some (some (.agg #[.int .i64 0, .int .i64 0]), 2, 16) := by kernel_rfl
set_option maxRecDepth 100000 in
set_option maxHeartbeats 1000000 in
theorem sput_any (g : Nat) (vt vp : Value) (ts : List Tk) (ks : List Nat) (room p c : Nat) (w : World) (h : PB w g vt vp ts ks room) (hl : ks.length = ts.length) (h64 : ts.length ≤ 64) (hok : okK ⟨p, c⟩) (hroom : room ≤ 1048576) (hld : ∀ a, load ts ks a ≤ 100000) :
    Calls Try.prog 59 #[.pointer (some ⟨g, 0, none⟩), .agg #[.int .i64 (p : Int), .int .i64 (c : Int)]] w (GotPut g ts ks ⟨p, c⟩ room w) := by
  have H := Lib.hid h
  have Hld := Lib.hid hld
  have Hl := Lib.hid hl
  have hg := h.blk.lt
  obtain ⟨hpw, hc1, hc2⟩ := hok
  have hpp := hpw.pos
  have Hpw := Lib.hid hpw
  clear h hld hl hpw
  dsimp only at hpp hc1 hc2
  go_enter Try.func59, Try.ntmps59
  go_wp2
  go_loopw [5, 9] (fun _ i wr => ∃ k : Nat, k ≤ p ∧ i = .int .i64 (k : Int) ∧ (∀ j, j < k → fits ts ks ⟨p, c⟩ room j = false) ∧ Below (w.heap.size + 1) (w.alloc (.cells #[.int .i64 (p : Int), .int .i64 (c : Int)] 72)) wr) (fun _ i _ => p - (intOf i).toNat)
  case atStart => exact ⟨0, by omega, rfl, (fun j h => by omega), Below.refl _ _⟩
  case round =>
    obtain ⟨k, hk, rfl, hno, hb⟩ := hrel
    have Hno := Lib.hid hno
    clear hno
    have hbw := blk_bt (Below.refl w.heap.size w) hb
    have hsz := hb.size
    have Hr := Lib.hid (H.out.next hbw)
    have Hb := Lib.hid hb
    have g0 : wr.cell? ⟨w.heap.size, 0, none⟩ = some (.int .i64 (p : Int)) := (hb.cell (p := ⟨w.heap.size, 0, none⟩) (Nat.lt_succ_self _)).trans ((Blk.mk w 72 [.int .i64 (p : Int), .int .i64 (c : Int)]).cell 0)
    have g1 : wr.cell? ⟨w.heap.size, 1, none⟩ = some (.int .i64 (c : Int)) := (hb.cell (p := ⟨w.heap.size, 1, none⟩) (Nat.lt_succ_self _)).trans ((Blk.mk w 72 [.int .i64 (p : Int), .int .i64 (c : Int)]).cell 1)
    clear hb hbw
    simp only [World.size_alloc] at hsz
    by_cases hkp : k < p
    · go_wp2_with fail
      refine (sfits_any g vt vp ts ks room p c k _ Hr.out hpp hkp hc2 hroom Hld.out).mono ?_
      rintro e w3 ⟨rfl, hb3⟩
      obtain ⟨ff, hff⟩ : ∃ ff, ff = fits ts ks ⟨p, c⟩ room k := ⟨_, rfl⟩
      rw [← hff]
      have Hff := Lib.hid hff
      have hb4 := Hb.out.trans (hb3.mono hsz)
      have Hb4 := Lib.hid hb4
      have Hr3 := Lib.hid (Hr.out.next hb3)
      have k0 := (hb3.cell (p := ⟨w.heap.size, 0, none⟩) (by dsimp only; omega)).trans g0
      have k1 := (hb3.cell (p := ⟨w.heap.size, 1, none⟩) (by dsimp only; omega)).trans g1
      clear hff hb3 hb4 g0 g1 Hr
      cases ff
      · go_wp2
        go_roundw
        case rel =>
          refine ⟨k + 1, by omega, by go_num, fun i hi => ?_, Hb4.out⟩
          by_cases e : i = k
          · subst e; exact Hff.out.symm
          · exact Hno.out i (by omega)
        case measure => simp [intOf]; omega
      · have hfirst : first (fits ts ks ⟨p, c⟩ room) p = k := first_eq hk Hno.out (.inr Hff.out.symm)
        have Hfirst := Lib.hid hfirst
        clear hfirst
        have hpx : PX w3 g vt vp (fun b => if b % p = k ∧ b < k then load ts ks b + c else load ts ks b) ts ks room := by
          refine PX.ext (ld := load ts ks) ⟨Hr3.out.blk, Hr3.out.own1, Hr3.out.own2, Hr3.out.ap⟩ fun b _ => ?_
          rw [if_neg]
          rintro ⟨h1, h2⟩
          rw [Nat.mod_eq_of_lt (by omega)] at h1
          omega
        have hbg : Below g w w3 := ((Below.refl g w).alloc (by omega) _).trans (Hb4.out.mono (by omega))
        have Hpx := Lib.hid hpx
        have Hbg := Lib.hid hbg
        have Hk0 := Lib.hid k0
        have Hk1 := Lib.hid k1
        clear hpx hbg k0 k1 Hr3
        go_wp2
        go_loopw [6] (fun x wr => ∃ a : Nat, a % p = k ∧ a < 64 + p ∧ x = .int .i64 (a : Int) ∧ PX wr g vt vp (fun b => if b % p = k ∧ b < a then load ts ks b + c else load ts ks b) ts ks room ∧ wr.cell? ⟨w.heap.size, 0, none⟩ = some (.int .i64 (p : Int)) ∧ wr.cell? ⟨w.heap.size, 1, none⟩ = some (.int .i64 (c : Int)) ∧ Below g w wr) (fun x _ => 64 + 64 - (intOf x).toNat)
        case atStart => exact ⟨k, Nat.mod_eq_of_lt hkp, by omega, rfl, Hpx.out, Hk0.out, Hk1.out, Hbg.out⟩
        case round =>
          clear Hpx Hbg Hk0 Hk1 Hb Hb4
          obtain ⟨a, ham, ha, rfl, hpx, g0, g1, hbg⟩ := hrel
          have Hpx := Lib.hid hpx
          have Hbg := Lib.hid hbg
          have Ham := Lib.hid ham
          clear hpx hbg ham
          by_cases hlt : a < 64
          · have c0 : wr.cell? ⟨g, 2 + a, none⟩ = some (.int .i64 (load ts ks a : Int)) := by
              have := (Hpx.out.blk.cell _).trans (pcells_ld _ _ _ _ a hlt)
              rw [if_neg (by omega)] at this
              exact this
            have f0 := Hpx.out.blk.free (2 + a)
            have hle := Hld.out a
            obtain ⟨ld, hl⟩ : ∃ ld, ld = load ts ks a := ⟨_, rfl⟩
            rw [← hl] at c0 hle
            have HL := Lib.hid hl
            clear hl
            have u2 : IntKind.i64.wrap ((ld : Int) + (c : Int)) = (ld : Int) + (c : Int) := IntWalk.i64_in _ (by omega)
            go_wp2_with fail
            go_still_tail 12, (by kernel_rfl)
            change wpList _ _ _ _ _ wr.drew
            have Hd : Hid (PX wr.drew g vt vp (fun b => if b % p = k ∧ b < a then load ts ks b + c else load ts ks b) ts ks room) := Lib.hid (Hpx.out.next (Below.refl _ _).drew)
            have Hbd : Hid (Below g w wr.drew) := Lib.hid Hbg.out.drew
            have e0 : wr.drew.cell? ⟨w.heap.size, 0, none⟩ = some (.int .i64 (p : Int)) := g0
            have e1 : wr.drew.cell? ⟨w.heap.size, 1, none⟩ = some (.int .i64 (c : Int)) := g1
            have ec : wr.drew.cell? ⟨g, 2 + a, none⟩ = some (.int .i64 (ld : Int)) := c0
            have ef : wr.drew.frozen? ⟨g, 2 + a, none⟩ = false := f0
            clear Hpx Hbg g0 g1 c0 f0
            generalize wr.drew = wd at *
            go_upto_region 7 with (fail)
            have Hx := Hd.out.put a (ld + c) hlt
            have ek0 := (World.cell?_setCell_far wd ⟨g, 2 + a, none⟩ ⟨w.heap.size, 0, none⟩ (.int .i64 ((ld + c : Nat) : Int)) (by dsimp only; omega)).trans e0
            have ek1 := (World.cell?_setCell_far wd ⟨g, 2 + a, none⟩ ⟨w.heap.size, 1, none⟩ (.int .i64 ((ld + c : Nat) : Int)) (by dsimp only; omega)).trans e1
            have hbx : Below g w (wd.setCell ⟨g, 2 + a, none⟩ (.int .i64 ((ld + c : Nat) : Int))) := Hbd.out.setCell (Nat.le_refl _) _
            have hcast : ((ld + c : Nat) : Int) = (ld : Int) + (c : Int) := by omega
            rw [hcast] at Hx ek0 ek1 hbx
            have hpy := Hx.ext (ld' := fun b => if b % p = k ∧ b < a + p then load ts ks b + c else load ts ks b) fun b hb => by
              by_cases e : b = a
              · subst e
                rw [if_pos rfl, if_pos ⟨Ham.out, by omega⟩, HL.out]
              · rw [if_neg e]
                by_cases h1 : b % p = k
                · have hiff : b < a ↔ b < a + p := by
                    constructor
                    · intro h; omega
                    · intro h
                      apply Classical.byContradiction
                      intro hn
                      have d1 := Nat.div_add_mod b p
                      have d2 := Nat.div_add_mod a p
                      rw [h1] at d1
                      rw [Ham.out] at d2
                      have h3 : p * (b / p) < p * (a / p + 1) := by rw [Nat.mul_add]; omega
                      have h4 := Nat.lt_of_mul_lt_mul_left h3
                      have h5 : p * (b / p) ≤ p * (a / p) := Nat.mul_le_mul_left p (by omega)
                      omega
                  simp only [h1, true_and, hiff]
                · simp only [h1, false_and, if_false]
            have Hpy := Lib.hid hpy
            have Hbx := Lib.hid hbx
            clear Hx hpy hbx Hd Hbd e0 e1 ec ef hcast
            generalize wd.setCell ⟨g, 2 + a, none⟩ (.int .i64 ((ld : Int) + (c : Int))) = we at *
            have Ek0 := Lib.hid ek0
            have Ek1 := Lib.hid ek1
            go_wp2
            go_roundw
            case rel => exact ⟨a + p, by rw [Nat.add_mod_right]; exact Ham.out, by omega, by go_num, Hpy.out, Ek0.out, Ek1.out, Hbx.out⟩
            case measure => simp [intOf]; omega
          · have hpy := Hpx.out.ext (ld' := load (ts ++ [⟨p, c⟩]) (ks ++ [k])) fun b hb => by
              rw [load_snoc _ _ _ _ _ Hl.out]
              by_cases h1 : b % p = k
              · rw [if_pos ⟨h1, by omega⟩, if_pos h1]
              · rw [if_neg (fun h => h1 h.1), if_neg h1]; rfl
            have Hpy := Lib.hid hpy
            clear hpy Hpx
            have hnt1 : vt.ownBlock ≠ some w.heap.size := fun e => by have := (own_lt H.out.own1 e).2; omega
            have hnt2 : vp.ownBlock ≠ some w.heap.size := fun e => by have := (own_lt H.out.own2 e).2; omega
            go_wp2
            refine wp_region_any (by kernel_rfl) ?_
            change wpAny _ _ _ _ _ _ _ wr.drew
            have Hd := Lib.hid (Hpy.out.next (Below.refl _ _).drew)
            have Hbd := Lib.hid Hbg.out.drew
            have e0 : wr.drew.cell? ⟨g, 0, none⟩ = some vt := Hpy.out.blk.cell 0
            have e1 : wr.drew.cell? ⟨g, 1, none⟩ = some vp := Hpy.out.blk.cell 1
            have e2 : wr.drew.cell? ⟨w.heap.size, 0, none⟩ = some (.int .i64 (p : Int)) := g0
            have e3 : wr.drew.cell? ⟨w.heap.size, 1, none⟩ = some (.int .i64 (c : Int)) := g1
            generalize wr.drew = wd at *
            clear Hpy g0 g1 Hbg
            have D1 := Hd.out.own1
            have D2 := Hd.out.own2
            obtain ⟨i0, hi0, hz0, hz1, hz2⟩ := info_parts infoTask
            obtain ⟨j0, hj0, hy0, hy1, hy2⟩ := info_parts infoInt
            refine wpAny_take (i := 1) (oi := ⟨some 37, _, _, _, _, _⟩) (v := ?_) rfl (by kernel_rfl) (by kernel_rfl) (by kernel_rfl) (fun _ _ _ h => h) (Or.inl ⟨by rfl, ?_⟩) ?_
            rotate_left
            · (intro w; go_simp; try (with_reducible rfl))
            try simp only [Act.put, List.setIfInBounds_toArray, List.set_cons_zero, List.set_cons_succ]
            refine wpAny_split 16 (L := #[false, true, false, false, false, false, false, false, false, false, false, false, false, false, false, false]) (f := 15) (S := fun w' => w'.cell? ⟨g, 0, none⟩ = some vt ∧ w'.cell? ⟨g, 1, none⟩ = some vp ∧ w'.cell? ⟨w.heap.size, 0, none⟩ = some (.int .i64 (p : Int)) ∧ w'.cell? ⟨w.heap.size, 1, none⟩ = some (.int .i64 (c : Int))) (by kernel_rfl) ⟨e0, e1, e2, e3⟩ (fun hHeld => ?_)
            simp only [List.take_succ_cons, List.take_zero, List.drop_succ_cons, List.drop_zero]
            refine wpAnyH_take (i := 0) (oi := ⟨some 36, _, _, _, _, _⟩) (v := ?_) rfl (by kernel_rfl) (by kernel_rfl) (by kernel_rfl) (fun _ _ _ h => h) (Or.inl ⟨by rfl, ?_⟩) (by assumption) ?_
            rotate_left
            · (intro w hSw; (try dsimp only at hSw); go_simp; try (with_reducible rfl))
            try simp only [Act.put, List.setIfInBounds_toArray, List.set_cons_zero, List.set_cons_succ]
            refine wpAnyH_take (i := 2) (oi := ⟨some 38, _, _, _, _, _⟩) (v := ?_) rfl (by kernel_rfl) (by kernel_rfl) (by kernel_rfl) (fun _ _ _ h => h) (Or.inl ⟨by rfl, ?_⟩) (by assumption) ?_
            rotate_left
            · (intro w hSw; (try dsimp only at hSw); go_simp; try (with_reducible rfl))
            try simp only [Act.put, List.setIfInBounds_toArray, List.set_cons_zero, List.set_cons_succ]
            refine wpAnyH_take (i := 3) (oi := ⟨some 39, _, _, _, _, _⟩) (v := ?_) rfl (by kernel_rfl) (by kernel_rfl) (by kernel_rfl) (fun _ _ _ h => h) (Or.inl ⟨by rfl, ?_⟩) (by assumption) ?_
            rotate_left
            · (intro w hSw; (try dsimp only at hSw); go_simp; try (with_reducible rfl))
            try simp only [Act.put, List.setIfInBounds_toArray, List.set_cons_zero, List.set_cons_succ]
            refine wpAnyH_take (i := 4) (oi := ⟨some 40, _, _, _, _, _⟩) (v := ?_) rfl (by kernel_rfl) (by kernel_rfl) (by kernel_rfl) (fun _ _ _ h => h) (Or.inl ⟨by rfl, ?_⟩) (by assumption) ?_
            rotate_left
            · (intro w hSw; (try dsimp only at hSw); go_simp; try (with_reducible rfl))
            try simp only [Act.put, List.setIfInBounds_toArray, List.set_cons_zero, List.set_cons_succ]
            refine wpAnyH_take (i := 5) (oi := ⟨some 41, _, _, _, _, _⟩) (v := ?_) rfl (by kernel_rfl) (by kernel_rfl) (by kernel_rfl) (fun _ _ _ h => h) (Or.inl ⟨by rfl, ?_⟩) (by assumption) ?_
            rotate_left
            · (intro w hSw; (try dsimp only at hSw); go_simp; try (with_reducible rfl))
            try simp only [Act.put, List.setIfInBounds_toArray, List.set_cons_zero, List.set_cons_succ]
            refine wpAnyH_take (i := 6) (oi := ⟨some 42, _, _, _, _, _⟩) (v := ?_) rfl (by kernel_rfl) (by kernel_rfl) (by kernel_rfl) (fun _ _ _ h => h) (Or.inl ⟨by rfl, ?_⟩) (by assumption) ?_
            rotate_left
            · (intro w hSw; (try dsimp only at hSw); go_simp; try (with_reducible rfl))
            try simp only [Act.put, List.setIfInBounds_toArray, List.set_cons_zero, List.set_cons_succ]
            refine wpAnyH_take (i := 9) (oi := ⟨some 45, _, _, _, _, _⟩) (v := ?_) rfl (by kernel_rfl) (by kernel_rfl) (by kernel_rfl) (fun _ _ _ h => h) (Or.inl ⟨by rfl, ?_⟩) (by assumption) ?_
            rotate_left
            · (intro w hSw; (try dsimp only at hSw); go_simp; try (with_reducible rfl))
            try simp only [Act.put, List.setIfInBounds_toArray, List.set_cons_zero, List.set_cons_succ]
            refine wpAnyH_take (i := 10) (oi := ⟨some 46, _, _, _, _, _⟩) (v := ?_) rfl (by kernel_rfl) (by kernel_rfl) (by kernel_rfl) (fun _ _ _ h => h) (Or.inl ⟨by rfl, ?_⟩) (by assumption) ?_
            rotate_left
            · (intro w hSw; (try dsimp only at hSw); go_simp; try (with_reducible rfl))
            try simp only [Act.put, List.setIfInBounds_toArray, List.set_cons_zero, List.set_cons_succ]
            refine wpAnyH_take (i := 11) (oi := ⟨some 47, _, _, _, _, _⟩) (v := ?_) rfl (by kernel_rfl) (by kernel_rfl) (by kernel_rfl) (fun _ _ _ h => h) (Or.inl ⟨by rfl, ?_⟩) (by assumption) ?_
            rotate_left
            · (intro w hSw; (try dsimp only at hSw); go_simp; try (with_reducible rfl))
            try simp only [Act.put, List.setIfInBounds_toArray, List.set_cons_zero, List.set_cons_succ]
            refine wpAnyH_take (i := 12) (oi := ⟨some 48, _, _, _, _, _⟩) (v := ?_) rfl (by kernel_rfl) (by kernel_rfl) (by kernel_rfl) (fun _ _ _ h => h) (Or.inl ⟨by rfl, ?_⟩) (by assumption) ?_
            rotate_left
            · (intro w hSw; (try dsimp only at hSw); go_simp; try (with_reducible rfl))
            try simp only [Act.put, List.setIfInBounds_toArray, List.set_cons_zero, List.set_cons_succ]
            refine wpAnyH_take (i := 13) (oi := ⟨some 49, _, _, _, _, _⟩) (v := ?_) rfl (by kernel_rfl) (by kernel_rfl) (by kernel_rfl) (fun _ _ _ h => h) (Or.inl ⟨by rfl, ?_⟩) (by assumption) ?_
            rotate_left
            · (intro w hSw; (try dsimp only at hSw); go_simp; try (with_reducible rfl))
            try simp only [Act.put, List.setIfInBounds_toArray, List.set_cons_zero, List.set_cons_succ]
            refine wpAnyH_ready (rs := [7, 14]) (by kernel_rfl) (by simp) ?_
            refine AllReadyH.cons (o := ⟨some 43, _, _, _, _, _⟩) rfl (fun K hK => ?_) ?_
            · go_simp
              have hswa := new_rd wd 72 (tkc ⟨p, c⟩)
              have hbwa := bl wd (.cells (tkc ⟨p, c⟩).toArray 72)
              simp only [tkc] at hswa hbwa
              generalize wd.alloc _ = wa at *
              have NT := hswa
              try replace NI := NI.next hbwa
              try replace D1 := own_next D1 hbwa
              have D2 := own_next D2 hbwa
              have hzwa := hbwa.size
              refine hK.out _ _ ⟨(hbwa.cell (World.block_lt_of_cell? _ _ hHeld.1)).trans hHeld.1, (hbwa.cell (World.block_lt_of_cell? _ _ hHeld.2.1)).trans hHeld.2.1, (hbwa.cell (World.block_lt_of_cell? _ _ hHeld.2.2.1)).trans hHeld.2.2.1, (hbwa.cell (World.block_lt_of_cell? _ _ hHeld.2.2.2)).trans hHeld.2.2.2⟩ (fun hHeld => ?_)
              clear hK K
              try simp only [List.setIfInBounds_toArray, List.set_cons_zero, List.set_cons_succ]
              refine wpAnyH_ready (rs := [8, 14]) (by kernel_rfl) (by simp) ?_
              refine AllReadyH.cons (o := ⟨some 44, _, _, _, _, _⟩) rfl (fun K hK => ?_) ?_
              · refine step_append_lies _ (by rfl) _ _ _ (by rfl) (g + 1) 72 i0 _ 2 16 (by kernel_rfl) hi0 hz0 hz1 hz2 rfl (by omega) vt ts.length (ts.flatMap tkc) (by rfl) D1 _ 1 1 (tkc ⟨p, c⟩) (by rfl) (by rfl) (NT.news _ rfl) (by simp [tkc, Value.oneCell']) (by omega) (by simp only [maxLen]; omega) (by omega) (by have := Hd.out.blk.lt; omega) _ rfl ?_
                intro gg1 cc1 w1 hown1 hgrow1 hat1 hlt1
                have hzw1 := hgrow1.size
                try replace NI := NI.grown hgrow1 (fun b hb => .inl (by have := (own_lt Hd.out.own1 hb).2; omega))
                have D2 := own_kept D2 hgrow1 Hd.out.ap
                refine hK.out _ _ ⟨(hgrow1.cell_far _ (World.block_lt_of_cell? _ _ hHeld.1) (Ne.symm Hd.out.ne.1)).trans hHeld.1, (hgrow1.cell_far _ (World.block_lt_of_cell? _ _ hHeld.2.1) (Ne.symm Hd.out.ne.1)).trans hHeld.2.1, (hgrow1.cell_far _ (World.block_lt_of_cell? _ _ hHeld.2.2.1) (Ne.symm hnt1)).trans hHeld.2.2.1, (hgrow1.cell_far _ (World.block_lt_of_cell? _ _ hHeld.2.2.2) (Ne.symm hnt1)).trans hHeld.2.2.2⟩ (fun hHeld => ?_)
                clear hK K
                try simp only [Act.put, List.setIfInBounds_toArray, List.set_cons_zero, List.set_cons_succ]
                refine wpAnyH_ready (rs := [14]) (by kernel_rfl) (by simp) ?_
                refine AllReadyH.cons (o := ⟨some 50, _, _, _, _, _⟩) rfl (fun K hK => ?_) ?_
                · go_simp
                  have hswb := new_rd w1 3 (iv [k])
                  have hbwb := bl w1 (.cells (iv [k]).toArray 3)
                  simp only [iv, List.map_cons, List.map_nil] at hswb hbwb
                  generalize w1.alloc _ = wb at *
                  have NI := hswb
                  try replace NT := NT.next hbwb
                  try replace D1 := own_next D1 hbwb
                  have D2 := own_next D2 hbwb
                  have hzwb := hbwb.size
                  refine hK.out _ _ ⟨(hbwb.cell (World.block_lt_of_cell? _ _ hHeld.1)).trans hHeld.1, (hbwb.cell (World.block_lt_of_cell? _ _ hHeld.2.1)).trans hHeld.2.1, (hbwb.cell (World.block_lt_of_cell? _ _ hHeld.2.2.1)).trans hHeld.2.2.1, (hbwb.cell (World.block_lt_of_cell? _ _ hHeld.2.2.2)).trans hHeld.2.2.2⟩ (fun hHeld => ?_)
                  clear hK K
                  try simp only [List.setIfInBounds_toArray, List.set_cons_zero, List.set_cons_succ]
                  refine wpAnyH_ready (rs := [15]) (by kernel_rfl) (by simp) ?_
                  refine AllReadyH.cons (o := ⟨some 51, _, _, _, _, _⟩) rfl (fun K hK => ?_) ?_
                  · refine step_append_lies _ (by rfl) _ _ _ (by rfl) (g + 1) 3 j0 _ 1 8 (by kernel_rfl) hj0 hy0 hy1 hy2 rfl (by omega) vp ks.length (iv ks) (by rfl) D2 _ 1 1 (iv [k]) (by rfl) (by rfl) (NI.news _ rfl) (by simp [iv, Value.oneCell']) (by omega) (by simp only [maxLen]; have := Hl.out; omega) (by have := Hl.out; omega) (by have := Hd.out.blk.lt; omega) _ rfl ?_
                    intro gg2 cc2 w2 hown2 hgrow2 hat2 hlt2
                    have hzw2 := hgrow2.size
                    refine hK.out _ _ ⟨(hgrow2.cell_far _ (World.block_lt_of_cell? _ _ hHeld.1) (Ne.symm Hd.out.ne.2)).trans hHeld.1, (hgrow2.cell_far _ (World.block_lt_of_cell? _ _ hHeld.2.1) (Ne.symm Hd.out.ne.2)).trans hHeld.2.1, (hgrow2.cell_far _ (World.block_lt_of_cell? _ _ hHeld.2.2.1) (Ne.symm hnt2)).trans hHeld.2.2.1, (hgrow2.cell_far _ (World.block_lt_of_cell? _ _ hHeld.2.2.2) (Ne.symm hnt2)).trans hHeld.2.2.2⟩ (fun hHeld => ?_)
                    clear hK K
                    try simp only [Act.put, List.setIfInBounds_toArray, List.set_cons_zero, List.set_cons_succ]
                    refine wpAnyH_done (by kernel_rfl) ?_ _
                    change wpList _ _ _ _ _ _
                    have hfin := Hd.out.both hbwa hgrow1 hown1 rfl (hat1.imp (fun e => by rw [e]; rfl) (fun e b hb => by have hb' : gg1 = b := Option.some.inj hb; omega)) hbwb hgrow2 hown2 rfl (hat2.imp (fun e => by rw [e]; rfl) (fun e b hb => by have hb' : gg2 = b := Option.some.inj hb; omega))
                    obtain ⟨f0, f1, hfin⟩ := hfin
                    have Hfin := Lib.hid hfin
                    clear hfin hown1 hgrow1 hat1 hown2 hgrow2 hat2 D1 D2 NT NI
                    go_wp2_with fail
                    go_ret
                    unfold GotPut
                    dsimp only
                    rw [Hfirst.out, if_pos hkp]
                    exact ⟨⟨rfl, _, _, Hfin.out.1⟩, Hbd.out.trans Hfin.out.2⟩
                  exact AllReadyH.nil
                exact AllReadyH.nil
              refine AllReadyH.cons (o := ⟨some 50, _, _, _, _, _⟩) rfl (fun K hK => ?_) ?_
              · go_simp
                have hswb := new_rd wa 3 (iv [k])
                have hbwb := bl wa (.cells (iv [k]).toArray 3)
                simp only [iv, List.map_cons, List.map_nil] at hswb hbwb
                generalize wa.alloc _ = wb at *
                have NI := hswb
                try replace NT := NT.next hbwb
                try replace D1 := own_next D1 hbwb
                have D2 := own_next D2 hbwb
                have hzwb := hbwb.size
                refine hK.out _ _ ⟨(hbwb.cell (World.block_lt_of_cell? _ _ hHeld.1)).trans hHeld.1, (hbwb.cell (World.block_lt_of_cell? _ _ hHeld.2.1)).trans hHeld.2.1, (hbwb.cell (World.block_lt_of_cell? _ _ hHeld.2.2.1)).trans hHeld.2.2.1, (hbwb.cell (World.block_lt_of_cell? _ _ hHeld.2.2.2)).trans hHeld.2.2.2⟩ (fun hHeld => ?_)
                clear hK K
                try simp only [List.setIfInBounds_toArray, List.set_cons_zero, List.set_cons_succ]
                refine wpAnyH_ready (rs := [8]) (by kernel_rfl) (by simp) ?_
                refine AllReadyH.cons (o := ⟨some 44, _, _, _, _, _⟩) rfl (fun K hK => ?_) ?_
                · refine step_append_lies _ (by rfl) _ _ _ (by rfl) (g + 1) 72 i0 _ 2 16 (by kernel_rfl) hi0 hz0 hz1 hz2 rfl (by omega) vt ts.length (ts.flatMap tkc) (by rfl) D1 _ 1 1 (tkc ⟨p, c⟩) (by rfl) (by rfl) (NT.news _ rfl) (by simp [tkc, Value.oneCell']) (by omega) (by simp only [maxLen]; omega) (by omega) (by have := Hd.out.blk.lt; omega) _ rfl ?_
                  intro gg1 cc1 w1 hown1 hgrow1 hat1 hlt1
                  have hzw1 := hgrow1.size
                  try replace NI := NI.grown hgrow1 (fun b hb => .inl (by have := (own_lt Hd.out.own1 hb).2; omega))
                  have D2 := own_kept D2 hgrow1 Hd.out.ap
                  refine hK.out _ _ ⟨(hgrow1.cell_far _ (World.block_lt_of_cell? _ _ hHeld.1) (Ne.symm Hd.out.ne.1)).trans hHeld.1, (hgrow1.cell_far _ (World.block_lt_of_cell? _ _ hHeld.2.1) (Ne.symm Hd.out.ne.1)).trans hHeld.2.1, (hgrow1.cell_far _ (World.block_lt_of_cell? _ _ hHeld.2.2.1) (Ne.symm hnt1)).trans hHeld.2.2.1, (hgrow1.cell_far _ (World.block_lt_of_cell? _ _ hHeld.2.2.2) (Ne.symm hnt1)).trans hHeld.2.2.2⟩ (fun hHeld => ?_)
                  clear hK K
                  try simp only [Act.put, List.setIfInBounds_toArray, List.set_cons_zero, List.set_cons_succ]
                  refine wpAnyH_ready (rs := [15]) (by kernel_rfl) (by simp) ?_
                  refine AllReadyH.cons (o := ⟨some 51, _, _, _, _, _⟩) rfl (fun K hK => ?_) ?_
                  · refine step_append_lies _ (by rfl) _ _ _ (by rfl) (g + 1) 3 j0 _ 1 8 (by kernel_rfl) hj0 hy0 hy1 hy2 rfl (by omega) vp ks.length (iv ks) (by rfl) D2 _ 1 1 (iv [k]) (by rfl) (by rfl) (NI.news _ rfl) (by simp [iv, Value.oneCell']) (by omega) (by simp only [maxLen]; have := Hl.out; omega) (by have := Hl.out; omega) (by have := Hd.out.blk.lt; omega) _ rfl ?_
                    intro gg2 cc2 w2 hown2 hgrow2 hat2 hlt2
                    have hzw2 := hgrow2.size
                    refine hK.out _ _ ⟨(hgrow2.cell_far _ (World.block_lt_of_cell? _ _ hHeld.1) (Ne.symm Hd.out.ne.2)).trans hHeld.1, (hgrow2.cell_far _ (World.block_lt_of_cell? _ _ hHeld.2.1) (Ne.symm Hd.out.ne.2)).trans hHeld.2.1, (hgrow2.cell_far _ (World.block_lt_of_cell? _ _ hHeld.2.2.1) (Ne.symm hnt2)).trans hHeld.2.2.1, (hgrow2.cell_far _ (World.block_lt_of_cell? _ _ hHeld.2.2.2) (Ne.symm hnt2)).trans hHeld.2.2.2⟩ (fun hHeld => ?_)
                    clear hK K
                    try simp only [Act.put, List.setIfInBounds_toArray, List.set_cons_zero, List.set_cons_succ]
                    refine wpAnyH_done (by kernel_rfl) ?_ _
                    change wpList _ _ _ _ _ _
                    have hfin := Hd.out.both (hbwa.trans (hbwb.mono (by omega))) hgrow1 hown1 rfl (hat1.imp (fun e => by rw [e]; rfl) (fun e b hb => by have hb' : gg1 = b := Option.some.inj hb; omega)) (Below.refl _ _) hgrow2 hown2 rfl (hat2.imp (fun e => by rw [e]; rfl) (fun e b hb => by have hb' : gg2 = b := Option.some.inj hb; omega))
                    obtain ⟨f0, f1, hfin⟩ := hfin
                    have Hfin := Lib.hid hfin
                    clear hfin hown1 hgrow1 hat1 hown2 hgrow2 hat2 D1 D2 NT NI
                    go_wp2_with fail
                    go_ret
                    unfold GotPut
                    dsimp only
                    rw [Hfirst.out, if_pos hkp]
                    exact ⟨⟨rfl, _, _, Hfin.out.1⟩, Hbd.out.trans Hfin.out.2⟩
                  exact AllReadyH.nil
                exact AllReadyH.nil
              exact AllReadyH.nil
            refine AllReadyH.cons (o := ⟨some 50, _, _, _, _, _⟩) rfl (fun K hK => ?_) ?_
            · go_simp
              have hswa := new_rd wd 3 (iv [k])
              have hbwa := bl wd (.cells (iv [k]).toArray 3)
              simp only [iv, List.map_cons, List.map_nil] at hswa hbwa
              generalize wd.alloc _ = wa at *
              have NI := hswa
              try replace NT := NT.next hbwa
              try replace D1 := own_next D1 hbwa
              have D2 := own_next D2 hbwa
              have hzwa := hbwa.size
              refine hK.out _ _ ⟨(hbwa.cell (World.block_lt_of_cell? _ _ hHeld.1)).trans hHeld.1, (hbwa.cell (World.block_lt_of_cell? _ _ hHeld.2.1)).trans hHeld.2.1, (hbwa.cell (World.block_lt_of_cell? _ _ hHeld.2.2.1)).trans hHeld.2.2.1, (hbwa.cell (World.block_lt_of_cell? _ _ hHeld.2.2.2)).trans hHeld.2.2.2⟩ (fun hHeld => ?_)
              clear hK K
              try simp only [List.setIfInBounds_toArray, List.set_cons_zero, List.set_cons_succ]
              refine wpAnyH_ready (rs := [7]) (by kernel_rfl) (by simp) ?_
              refine AllReadyH.cons (o := ⟨some 43, _, _, _, _, _⟩) rfl (fun K hK => ?_) ?_
              · go_simp
                have hswb := new_rd wa 72 (tkc ⟨p, c⟩)
                have hbwb := bl wa (.cells (tkc ⟨p, c⟩).toArray 72)
                simp only [tkc] at hswb hbwb
                generalize wa.alloc _ = wb at *
                have NT := hswb
                try replace NI := NI.next hbwb
                try replace D1 := own_next D1 hbwb
                have D2 := own_next D2 hbwb
                have hzwb := hbwb.size
                refine hK.out _ _ ⟨(hbwb.cell (World.block_lt_of_cell? _ _ hHeld.1)).trans hHeld.1, (hbwb.cell (World.block_lt_of_cell? _ _ hHeld.2.1)).trans hHeld.2.1, (hbwb.cell (World.block_lt_of_cell? _ _ hHeld.2.2.1)).trans hHeld.2.2.1, (hbwb.cell (World.block_lt_of_cell? _ _ hHeld.2.2.2)).trans hHeld.2.2.2⟩ (fun hHeld => ?_)
                clear hK K
                try simp only [List.setIfInBounds_toArray, List.set_cons_zero, List.set_cons_succ]
                refine wpAnyH_ready (rs := [8]) (by kernel_rfl) (by simp) ?_
                refine AllReadyH.cons (o := ⟨some 44, _, _, _, _, _⟩) rfl (fun K hK => ?_) ?_
                · refine step_append_lies _ (by rfl) _ _ _ (by rfl) (g + 1) 72 i0 _ 2 16 (by kernel_rfl) hi0 hz0 hz1 hz2 rfl (by omega) vt ts.length (ts.flatMap tkc) (by rfl) D1 _ 1 1 (tkc ⟨p, c⟩) (by rfl) (by rfl) (NT.news _ rfl) (by simp [tkc, Value.oneCell']) (by omega) (by simp only [maxLen]; omega) (by omega) (by have := Hd.out.blk.lt; omega) _ rfl ?_
                  intro gg1 cc1 w1 hown1 hgrow1 hat1 hlt1
                  have hzw1 := hgrow1.size
                  try replace NI := NI.grown hgrow1 (fun b hb => .inl (by have := (own_lt Hd.out.own1 hb).2; omega))
                  have D2 := own_kept D2 hgrow1 Hd.out.ap
                  refine hK.out _ _ ⟨(hgrow1.cell_far _ (World.block_lt_of_cell? _ _ hHeld.1) (Ne.symm Hd.out.ne.1)).trans hHeld.1, (hgrow1.cell_far _ (World.block_lt_of_cell? _ _ hHeld.2.1) (Ne.symm Hd.out.ne.1)).trans hHeld.2.1, (hgrow1.cell_far _ (World.block_lt_of_cell? _ _ hHeld.2.2.1) (Ne.symm hnt1)).trans hHeld.2.2.1, (hgrow1.cell_far _ (World.block_lt_of_cell? _ _ hHeld.2.2.2) (Ne.symm hnt1)).trans hHeld.2.2.2⟩ (fun hHeld => ?_)
                  clear hK K
                  try simp only [Act.put, List.setIfInBounds_toArray, List.set_cons_zero, List.set_cons_succ]
                  refine wpAnyH_ready (rs := [15]) (by kernel_rfl) (by simp) ?_
                  refine AllReadyH.cons (o := ⟨some 51, _, _, _, _, _⟩) rfl (fun K hK => ?_) ?_
                  · refine step_append_lies _ (by rfl) _ _ _ (by rfl) (g + 1) 3 j0 _ 1 8 (by kernel_rfl) hj0 hy0 hy1 hy2 rfl (by omega) vp ks.length (iv ks) (by rfl) D2 _ 1 1 (iv [k]) (by rfl) (by rfl) (NI.news _ rfl) (by simp [iv, Value.oneCell']) (by omega) (by simp only [maxLen]; have := Hl.out; omega) (by have := Hl.out; omega) (by have := Hd.out.blk.lt; omega) _ rfl ?_
                    intro gg2 cc2 w2 hown2 hgrow2 hat2 hlt2
                    have hzw2 := hgrow2.size
                    refine hK.out _ _ ⟨(hgrow2.cell_far _ (World.block_lt_of_cell? _ _ hHeld.1) (Ne.symm Hd.out.ne.2)).trans hHeld.1, (hgrow2.cell_far _ (World.block_lt_of_cell? _ _ hHeld.2.1) (Ne.symm Hd.out.ne.2)).trans hHeld.2.1, (hgrow2.cell_far _ (World.block_lt_of_cell? _ _ hHeld.2.2.1) (Ne.symm hnt2)).trans hHeld.2.2.1, (hgrow2.cell_far _ (World.block_lt_of_cell? _ _ hHeld.2.2.2) (Ne.symm hnt2)).trans hHeld.2.2.2⟩ (fun hHeld => ?_)
                    clear hK K
                    try simp only [Act.put, List.setIfInBounds_toArray, List.set_cons_zero, List.set_cons_succ]
                    refine wpAnyH_done (by kernel_rfl) ?_ _
                    change wpList _ _ _ _ _ _
                    have hfin := Hd.out.both (hbwa.trans (hbwb.mono (by omega))) hgrow1 hown1 rfl (hat1.imp (fun e => by rw [e]; rfl) (fun e b hb => by have hb' : gg1 = b := Option.some.inj hb; omega)) (Below.refl _ _) hgrow2 hown2 rfl (hat2.imp (fun e => by rw [e]; rfl) (fun e b hb => by have hb' : gg2 = b := Option.some.inj hb; omega))
                    obtain ⟨f0, f1, hfin⟩ := hfin
                    have Hfin := Lib.hid hfin
                    clear hfin hown1 hgrow1 hat1 hown2 hgrow2 hat2 D1 D2 NT NI
                    go_wp2_with fail
                    go_ret
                    unfold GotPut
                    dsimp only
                    rw [Hfirst.out, if_pos hkp]
                    exact ⟨⟨rfl, _, _, Hfin.out.1⟩, Hbd.out.trans Hfin.out.2⟩
                  exact AllReadyH.nil
                exact AllReadyH.nil
              exact AllReadyH.nil
            exact AllReadyH.nil
    · obtain rfl : k = p := by omega
      have hfirst : first (fits ts ks ⟨k, c⟩ room) k = k := first_eq (Nat.le_refl _) Hno.out (.inl rfl)
      have Hfirst := Lib.hid hfirst
      clear hfirst
      go_wp2
      go_ret
      unfold GotPut
      dsimp only
      rw [Hfirst.out, if_neg (by omega)]
      exact ⟨rfl, ((Below.refl g w).alloc (by omega) _).trans (Hb.out.mono (by omega))⟩
end Sch
end Go.Proofs.Ytgncngpgodfijaa
