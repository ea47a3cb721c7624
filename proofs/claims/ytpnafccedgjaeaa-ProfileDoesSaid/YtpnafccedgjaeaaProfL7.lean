/-
  The walk of the law ProfileDoes.
-/
import Derived.Test.YtpnafccedgjaeaaProfS
import Derived.StillTailTactics
import Derived.Deep.RegionHeld3
import Derived.Deep.DeepCutAuto
import Derived.Deep.CutBlock
namespace Go.Proofs.Ytpnafccedgjaeaa
open Go.RowKit
namespace Prof

/-- the reference that goes with a profile -/
def rof (p : Pr) : Rf := ⟨all p, p.x, p.y, p.gap⟩
theorem sim_rof {p : Pr} {r : Rf} (h : sim p r) : r = rof p := by
  obtain ⟨h1, h2, h3, h4⟩ := h
  cases r
  simp only at *
  subst h1 h2 h3 h4
  rfl
theorem rof_sim (p : Pr) : sim p (rof p) := ⟨rfl, rfl, rfl, rfl⟩
theorem rof_new (g : Int) : rnew g = rof (new g) := sim_rof (sim_new g)
theorem rof_move (p : Pr) (dx dy : Int) : rmove (rof p) dx dy = rof (move p dx dy) := sim_rof (sim_move (rof_sim p) dx dy)
theorem rof_add {p : Pr} (h : ok p) (z : Int) : radd (rof p) z = rof (add p z) := sim_rof (sim_add h (rof_sim p) z)
theorem rof_near (p : Pr) : rnear (rof p) = near p := (sim_near (rof_sim p)).symm
theorem clamp_clamp (g : Int) : clamp (clamp g) = clamp g := by unfold clamp; omega
theorem new_clamp {p : Pr} {g : Int} (h : p.gap = clamp g) : new p.gap = new g := by unfold new; rw [h, clamp_clamp]
theorem move_gap (p : Pr) (dx dy : Int) : (move p dx dy).gap = p.gap := by unfold move; split <;> rfl
theorem add_gap (p : Pr) (z : Int) : (add p z).gap = p.gap := by
  unfold add
  split
  · rfl
  · show (freed p).gap = p.gap
    unfold freed
    split <;> rfl
theorem info46 : (Try.prog.info? 46).map (·.size) = some 4 := by kernel_rfl
theorem rcs_one (A : Option Addr) (n cap : Nat) (x y gap : Int) : (rcs A n cap x y gap).all (·.oneCell') = true := by simp [rcs, Value.oneCell']

set_option maxRecDepth 100000 in
set_option maxHeartbeats 8000000 in
theorem does_any (A : Option Addr) (l : List Ac) (n cap : Nat) (gap : Int) (w : World) (ha : RdA w w.heap.size A l) (hl : l.length = n) (hn : n ≤ maxLen) :
    Calls Try.prog 7 #[.int .i64 gap, .slice A n cap] w fun e w' => e = .returned (.bool true) ∧ Below w.heap.size w w' := by
  have HA := Lib.hid ha
  have Hl := Lib.hid hl
  clear ha hl
  have hzv : ∀ w, (zeroValue 42).run Try.prog w = .ok (.agg (newCells 0)) w := fun _ => by kernel_rfl
  have hns := newCells_size 0
  unfold maxLen at hn
  by_cases h300 : n ≤ 300
  · have hdn : decide ((300 : Int) < (n : Int)) = false := decide_eq_false (by omega)
    go_enter Try.func7, Try.ntmps7
    go_wp2_with fail
    refine (new_any gap _).mono ?_
    rintro e w1 ⟨rfl, hb1⟩
    go_wp2_with (refine wpList_store_row rfl 42 _ _ rfl w1.heap.size (newCells _) rfl rfl 42 (newCells 0) (heap_alloc_new w1 _) (by rw [info42, newCells_size]) (by rw [newCells_size, newCells_size]) (newCells_one _) ?_)
    have hf := newCells_fits gap
    have hp : PB ((w1.alloc (.cells (newCells 0) 42)).setRow w1.heap.size (newCells (clamp gap))) w1.heap.size (new gap) := row_set (heap_alloc_new w1 _) hf
    have hbw : Below w.heap.size w ((w1.alloc (.cells (newCells 0) 42)).setRow w1.heap.size (newCells (clamp gap))) := (bt hb1 (bl w1 _)).trans ⟨rfl, rfl, rfl, by simp, fun k hk => setRow_other _ _ k _ (by have := hb1.size; omega)⟩
    have hgw := hb1.size
    generalize (w1.alloc (.cells (newCells 0) 42)).setRow w1.heap.size (newCells (clamp gap)) = w2 at hp hbw ⊢
    generalize w1.heap.size = g at hp hgw ⊢
    clear hb1 hzv hns w1 hf
    refine (rnew_any gap _).mono ?_
    rintro e w3 ⟨rfl, hb3⟩
    have hp3 := hp.below hb3 hp.lt
    have hbw3 := bt hbw hb3
    have hgl : g < w3.heap.size := hp3.lt
    clear hp hbw hb3
    unfold rv
    have Hp3 := Lib.hid hp3
    clear hp3
    go_wp2_with (refine wpList_store_row rfl 46 _ _ rfl w3.heap.size (rcs none 0 0 0 0 (clamp gap)) rfl rfl 46 #[.slice none 0 0, .int .i64 0, .int .i64 0, .int .i64 0] (heap_alloc_new w3 _) (by rw [info46]; rfl) rfl (rcs_one _ _ _ _ _ _) ?_)
    have ht0 : Two w g w3.heap.size (new gap) ⟨[], 0, 0, 0⟩ none 0 (w3.alloc (.cells #[.slice none 0 0, .int .i64 0, .int .i64 0, .int .i64 0] 46)) :=
      ⟨Hp3.out.alloc _, ok_new gap, Blk.mk _ _ _, .inl rfl, bt hbw3 (bl _ _), hgw, hgl⟩
    have ht : Two w g w3.heap.size (new gap) (rof (new gap)) none 0 ((w3.alloc (.cells #[.slice none 0 0, .int .i64 0, .int .i64 0, .int .i64 0] 46)).setRow w3.heap.size (rcs none 0 0 0 0 (clamp gap))) := ht0.setR (A' := none) (r' := rof (new gap)) (cap' := 0) (.inl rfl)
    generalize (w3.alloc (.cells #[.slice none 0 0, .int .i64 0, .int .i64 0, .int .i64 0] 46)).setRow w3.heap.size (rcs none 0 0 0 0 (clamp gap)) = w4 at ht ⊢
    generalize w3.heap.size = g2 at *
    clear Hp3 hbw3 ht0 w3
    have Ht := Lib.hid ht
    clear ht
    go_wp2
    go_loopw [7] (fun i wr => ∃ (k : Nat) (p : Pr) (A : Option Addr) (cap : Nat), k ≤ n ∧ i = .int .i64 k ∧ Two w g g2 p (rof p) A cap wr ∧ p.gap = clamp gap) (fun i _ => n - (intOf i).toNat)
    case atStart => exact ⟨0, _, _, _, by omega, rfl, Ht.out, rfl⟩
    case round =>
      clear Ht
      obtain ⟨k, p, A', cap', hk, rfl, ht, hgap⟩ := hrel
      have Hgap := Lib.hid hgap
      have Ht := Lib.hid ht
      clear hgap ht
      by_cases hlt : k < n
      · have hkl : k < l.length := by rw [Hl.out]; exact hlt
        obtain ⟨b, off, rfl, a1, a2, a3, a4⟩ := (HA.out.below Ht.out.bel).at hkl
        obtain ⟨⟨o0, o0'⟩, ⟨o1, o2⟩, ⟨o3, o4⟩, ⟨o5, o6⟩⟩ := HA.out.1 k hkl
        generalize l[k] = a at *
        obtain ⟨kd, dx, dy, z⟩ := a
        dsimp only at *
        clear hkl
        go_upto_block 2 with (fail)
        have Ht1 := Lib.hid (Ht.out.alloc (.cells #[.int .i64 kd, .int .i64 dx, .int .i64 dy, .int .i64 z] 49))
        have Ho1 := Lib.hid (Blk.mk wr 49 [.int .i64 kd, .int .i64 dx, .int .i64 dy, .int .i64 z])
        have hg3 : g < wr.heap.size ∧ g2 < wr.heap.size := ⟨Ht.out.pb.lt, Ht.out.rb.lt⟩
        clear Ht a1 a2 a3 a4
        generalize hwo : wr.alloc (.cells #[.int .i64 kd, .int .i64 dx, .int .i64 dy, .int .i64 z] 49) = wo
        have Ht : Hid (Two w g g2 p (rof p) A' cap' wo) := by rw [← hwo]; exact Ht1
        have Ho : Hid (Blk wo wr.heap.size 49 [.int .i64 kd, .int .i64 dx, .int .i64 dy, .int .i64 z]) := by rw [← hwo]; exact Ho1
        clear hwo Ht1 Ho1
        generalize wr.heap.size = g3 at *
        go_cut [9, 10] (fun s9 s10 wx => ∃ (bb : Bool) (q : Pr) (A2 : Option Addr) (cap2 : Nat), s9 = .bool bb ∧ s10 = .bool bb ∧ Two w g g2 q (rof q) A2 cap2 wx ∧ q.gap = clamp gap)
        case first =>
          obtain ⟨c0, c1, c2, c3⟩ := Ht.out.cells
          have q0 : wo.cell? ⟨g3, 0, none⟩ = some (.int .i64 kd) := Ho.out.cell 0
          have q1 : wo.cell? ⟨g3, 1, none⟩ = some (.int .i64 dx) := Ho.out.cell 1
          have q2 : wo.cell? ⟨g3, 2, none⟩ = some (.int .i64 dy) := Ho.out.cell 2
          have q3 : wo.cell? ⟨g3, 3, none⟩ = some (.int .i64 z) := Ho.out.cell 3
          dsimp only [rof] at c0 c1 c2 c3
          have hkd : (kd = 0 ∨ kd = 1) ∨ (kd = 2 ∨ kd = 3 ∨ kd = 4) ∨ kd = 5 ∨ (kd < 0 ∨ 5 < kd) := by omega
          rcases hkd with hkd | hkd | rfl | hkd
          · rcases hkd with rfl | rfl
            all_goals
              go_wp2_with fail
              refine (rmove_both _ (all p) _ cap' p.x p.y p.gap dx dy _ g2 Ht.out.ok.2.2.1 Ht.out.ok.2.2.2.1 rfl Ht.out.rw).mono ?_
              rintro e w5 ⟨⟨A3, cap3, rfl, hrw⟩, hb5⟩
              rw [show (⟨all p, p.x, p.y, p.gap⟩ : Rf) = rof p from rfl, rof_move] at hrw ⊢
              dsimp only [rof] at hrw ⊢
              have Ht5 := Lib.hid (Ht.out.below hb5)
              have Hs5 := Lib.hid (Ht5.out.setR (r' := rof (move p dx dy)) (cap' := cap3) hrw)
              have Ho5 := Lib.hid (Ho.out.below hb5 Ho.out.lt)
              clear hb5 c0 c1 c2 c3 q0 q1 q2 q3 Ho hrw
              unfold rv
              go_upto_region 15 with (refine wpList_store_row rfl 46 _ _ rfl g2 (rcs A3 (all (move p dx dy)).length cap3 (move p dx dy).x (move p dx dy).y (move p dx dy).gap) rfl rfl 46 _ Ht5.out.rb (by rw [info46]; rfl) rfl (rcs_one _ _ _ _ _ _) ?_)
              have Hs : Hid (Two w g g2 p (rof (move p dx dy)) A3 cap3 (w5.setRow g2 (rcs A3 (all (move p dx dy)).length cap3 (move p dx dy).x (move p dx dy).y (move p dx dy).gap))) := Hs5
              have Hq : Hid (Blk (w5.setRow g2 (rcs A3 (all (move p dx dy)).length cap3 (move p dx dy).x (move p dx dy).y (move p dx dy).gap)) g3 49 _) := Lib.hid ((setRow_other _ _ _ _ (by omega)).trans Ho5.out)
              clear Hs5 Ht5 Ho5
              generalize w5.setRow g2 (rcs A3 (all (move p dx dy)).length cap3 (move p dx dy).x (move p dx dy).y (move p dx dy).gap) = w6 at Hs Hq ⊢
              have q1 : w6.cell? ⟨g3, 1, none⟩ = some (.int .i64 dx) := Hq.out.cell 1
              have q2 : w6.cell? ⟨g3, 2, none⟩ = some (.int .i64 dy) := Hq.out.cell 2
              clear Hq
              go_wp2_with fail
              refine (move_val g p _ dx dy _ _ Hs.out.pb Hs.out.ok rfl rfl).mono ?_
              rintro e w7 ⟨rfl, hp7, hg7⟩
              have Ht7 := Lib.hid (Hs.out.setP hp7 (ok_move Hs.out.ok dx dy) hg7)
              clear hp7 hg7 q1 q2 Hs
              go_wp2_with fail
              go_meet
              exact ⟨_, _, _, _, rfl, rfl, Ht7.out, (move_gap p dx dy).trans Hgap.out⟩
          · rcases hkd with rfl | rfl | rfl
            all_goals
              go_wp2_with fail
              refine (radd_both _ (all p) _ cap' p.x p.y p.gap z _ g2 Ht.out.ok.2.2.1 Ht.out.ok.2.2.2.1 rfl (by rw [all_len]; exact Ht.out.ok.2.1) Ht.out.rw Ht.out.rb.lt (ok_all Ht.out.ok)).mono ?_
              rintro e w5 ⟨⟨A3, cap3, rfl, hrw⟩, hb5⟩
              rw [show (⟨all p, p.x, p.y, p.gap⟩ : Rf) = rof p from rfl, rof_add Ht.out.ok] at hrw
              rw [show (⟨all p, p.x, p.y, p.gap⟩ : Rf) = rof p from rfl, rof_add Ht.out.ok, rof_near]
              dsimp only [rof] at hrw ⊢
              have Ht5 := Lib.hid (Ht.out.below hb5)
              have Hs5 := Lib.hid (Ht5.out.setR (r' := rof (add p z)) (cap' := cap3) hrw)
              have Ho5 := Lib.hid (Ho.out.below hb5 Ho.out.lt)
              clear hb5 c0 c1 c2 c3 q0 q1 q2 q3 Ho hrw
              unfold rv
              go_upto_region 20 with (refine wpList_store_row rfl 46 _ _ rfl g2 (rcs A3 (all (add p z)).length cap3 (add p z).x (add p z).y (add p z).gap) rfl rfl 46 _ Ht5.out.rb (by rw [info46]; rfl) rfl (rcs_one _ _ _ _ _ _) ?_)
              have Hs : Hid (Two w g g2 p (rof (add p z)) A3 cap3 (w5.setRow g2 (rcs A3 (all (add p z)).length cap3 (add p z).x (add p z).y (add p z).gap))) := Hs5
              have Hq : Hid (Blk (w5.setRow g2 (rcs A3 (all (add p z)).length cap3 (add p z).x (add p z).y (add p z).gap)) g3 49 _) := Lib.hid ((setRow_other _ _ _ _ (by omega)).trans Ho5.out)
              clear Hs5 Ht5 Ho5
              generalize w5.setRow g2 (rcs A3 (all (add p z)).length cap3 (add p z).x (add p z).y (add p z).gap) = w6 at Hs Hq ⊢
              have q3 : w6.cell? ⟨g3, 3, none⟩ = some (.int .i64 z) := Hq.out.cell 3
              clear Hq
              go_wp2_with fail
              refine (add_val g p _ z _ _ Hs.out.pb Hs.out.ok rfl rfl).mono ?_
              rintro e w7 ⟨rfl, hp7, hg7⟩
              have Ht7 := Lib.hid (Hs.out.setP hp7 (ok_add Hs.out.ok z o5 o6) hg7)
              clear hp7 hg7 q3 Hs
              go_wp2_with fail
              go_meet
              exact ⟨_, _, _, _, rfl, rfl, Ht7.out, (add_gap p z).trans Hgap.out⟩
          · go_wp2_with fail
            refine (rnew_any gap _).mono ?_
            rintro e w5 ⟨rfl, hb5⟩
            have Ht5 := Lib.hid (Ht.out.below hb5)
            have Hs5 := Lib.hid (Ht5.out.setR (A' := none) (r' := rof (new gap)) (cap' := 0) (.inl rfl))
            clear hb5 c0 c1 c2 c3 q0 q1 q2 q3 Ho
            unfold rv
            go_wp2_with (refine wpList_store_row rfl 46 _ _ rfl g2 (rcs none 0 0 0 0 (clamp gap)) rfl rfl 46 _ Ht5.out.rb (by rw [info46]; rfl) rfl (rcs_one _ _ _ _ _ _) ?_)
            have Hs : Hid (Two w g g2 p (rof (new gap)) none 0 (w5.setRow g2 (rcs none 0 0 0 0 (clamp gap)))) := Hs5
            clear Hs5 Ht5
            generalize w5.setRow g2 (rcs none 0 0 0 0 (clamp gap)) = w6 at Hs ⊢
            refine (clear_any g p _ Hs.out.pb).mono ?_
            rintro e w7 ⟨rfl, hp7, hg7⟩
            rw [new_clamp Hgap.out] at hp7
            have Ht7 := Lib.hid (Hs.out.setP hp7 (ok_new gap) hg7)
            clear hp7 hg7 Hs
            go_wp2_with fail
            go_meet
            exact ⟨_, _, _, _, rfl, rfl, Ht7.out, rfl⟩
          · have hk0 : (kd == 0) = false := by rw [beq_eq_false_iff_ne]; omega
            have hk1 : (kd == 1) = false := by rw [beq_eq_false_iff_ne]; omega
            have hk2 : (kd == 2) = false := by rw [beq_eq_false_iff_ne]; omega
            have hk3 : (kd == 3) = false := by rw [beq_eq_false_iff_ne]; omega
            have hk4 : (kd == 4) = false := by rw [beq_eq_false_iff_ne]; omega
            have hk5 : (kd == 5) = false := by rw [beq_eq_false_iff_ne]; omega
            clear hkd c0 c1 c2 c3 q1 q2 q3
            go_wp2_with fail
            go_meet
            exact ⟨_, _, _, _, rfl, rfl, Ht.out, Hgap.out⟩
        case rest =>
          obtain ⟨bb, q, A2, cap2, rfl, rfl, ht, hgap⟩ := hcut
          have Hgap2 := Lib.hid hgap
          have Ht2 := Lib.hid ht
          clear hgap ht Ht Hgap Ho
          go_wp2_with fail
          refine (at_any g q _ Ht2.out.pb).mono ?_
          rintro e w5 ⟨rfl, j, rfl⟩
          have Ht5 := Lib.hid (Ht2.out.drewN j)
          clear Ht2
          generalize wc.drewN j = w5 at *
          go_upto_region 25 with (fail)
          go_cut [107] (fun s wx => s = .bool false ∧ Two w g g2 q (rof q) A2 cap2 wx)
          case first =>
            obtain ⟨c0, c1, c2, _⟩ := Ht5.out.cells
            dsimp only [rof] at c0 c1 c2
            rw [all_len] at c0
            have hg2 := Ht5.out.rb.lt
            have hn64 : q.n ≤ 64 := Ht5.out.ok.2.1
            have hd64 : decide ((64 : Int) < (q.n : Int)) = false := decide_eq_false (by omega)
            go_region_held3 (fun w' => w'.cell? ⟨g2, 0, none⟩ = some (.slice A2 q.n cap2) ∧ w'.cell? ⟨g2, 1, none⟩ = some (.int .i64 q.x) ∧ w'.cell? ⟨g2, 2, none⟩ = some (.int .i64 q.y))
              (first
                | exact ⟨c0, c1, c2⟩
                | exact ⟨(hb7.cell (p := ⟨g2, 0, none⟩) hg2).trans c0, (hb7.cell (p := ⟨g2, 1, none⟩) hg2).trans c1, (hb7.cell (p := ⟨g2, 2, none⟩) hg2).trans c2⟩
                | exact ⟨(hb6.cell (p := ⟨g2, 0, none⟩) hg2).trans c0, (hb6.cell (p := ⟨g2, 1, none⟩) hg2).trans c1, (hb6.cell (p := ⟨g2, 2, none⟩) hg2).trans c2⟩)
              (first
                | (go_at_call 32; refine (len_any g q _ Ht5.out.pb.drew).mono ?_; rintro e w' ⟨rfl, rfl⟩)
                | (go_at_call 34; refine (all_any g q _ Ht5.out.pb.drew Ht5.out.ok).mono ?_; rintro e w6 ⟨⟨va, rfl, hown⟩, hb6x⟩; have hb6 : Below w5.heap.size w5 w6 := bt (Below.refl _ w5).drew hb6x; clear hb6x; obtain ⟨Av, capv, rfl, hrd, _, _⟩ := hown.rd; rw [all_len])
                | (go_at_call 33; refine (same_list _ _ (all q) (all q) _ _ _ _ (by omega) (all_len q) (all_len q) hrd ((Ht5.out.rw.rds.below (w' := w6) hb6).more hb6.size)).mono ?_; rintro e w7 ⟨rfl, hb7x⟩; have hb7 : Below w5.heap.size w5 w7 := bt hb6 hb7x; clear hb7x))
            all_goals
              go_wp2_with fail
              go_meet
              exact ⟨rfl, Ht5.out.below hb7⟩
          case rest =>
            obtain ⟨rfl, ht⟩ := hcut
            go_wp2
            go_roundw
            case rel => exact ⟨k + 1, _, _, _, by omega, by go_num, ht, Hgap2.out⟩
            case measure => simp [intOf]; omega
      · obtain rfl : k = n := by omega
        go_wp2_with fail
        refine (back_any g p _ Ht.out.pb Ht.out.ok).mono ?_
        rintro e w3 ⟨⟨va, rfl, hown⟩, hb3⟩
        have hbl : (back p).length = p.n := by simp [back, all_len]
        rw [hbl] at hown
        have Hbl := Lib.hid hbl
        clear hbl
        obtain ⟨Ab, capb, rfl, hrd, _, _⟩ := hown.rd
        have Hrd := Lib.hid hrd
        clear hown hrd
        have Ht3 := Lib.hid (Ht.out.below hb3)
        clear Ht hb3 hlt
        have hxy : inB p.x ∧ inB p.y := ⟨Ht3.out.ok.2.2.1, Ht3.out.ok.2.2.2.1⟩
        unfold inB at hxy
        obtain ⟨⟨x1, x2⟩, y1, y2⟩ := hxy
        obtain ⟨c0, _, _, _⟩ := Ht3.out.cells
        dsimp only [rof] at c0
        rw [all_len] at c0
        have hn64 : p.n ≤ 64 := Ht3.out.ok.2.1
        go_wp2
        go_loopw [14] (fun i wr => ∃ j : Nat, j ≤ p.n ∧ i = .int .i64 j ∧ Below w3.heap.size w3 wr) (fun i _ => p.n - (intOf i).toNat)
        case atStart => exact ⟨0, by omega, rfl, Below.refl _ _⟩
        case round =>
          clear c0
          obtain ⟨j, hj, rfl, hb⟩ := hrel
          by_cases hlt : j < p.n
          · have Ht4 := Lib.hid (Ht3.out.below hb)
            obtain ⟨c0, c1, c2, _⟩ := Ht4.out.cells
            dsimp only [rof] at c0 c1 c2
            rw [all_len] at c0
            have hja : j < (all p).length := by rw [all_len]; exact hlt
            have hjb : j < (back p).length := by rw [Hbl.out]; exact hlt
            obtain ⟨q1, rfl, _, hc1⟩ := (Hrd.out.below hb).at (by omega)
            obtain ⟨q2, rfl, _, hc2⟩ := Ht4.out.rw.rds.at (by show 0 < (all p).length; omega)
            obtain ⟨d1, d2, d3⟩ := hc1 j hjb
            obtain ⟨e1, e2, e3⟩ := hc2 j hja
            have hbj : (back p)[j] = off p.x p.y (all p)[j] := by simp [back]
            rw [hbj] at d1 d2 d3
            dsimp only [rof] at e1 e2 e3
            obtain ⟨⟨o1, o2⟩, ⟨o3, o4⟩, _⟩ := ok_all Ht4.out.ok (all p)[j] (List.getElem_mem _)
            clear hc1 hc2 hbj
            generalize (all p)[j] = s at *
            clear hja hjb
            obtain ⟨sx, sy, sz⟩ := s
            dsimp only [off] at *
            have w1' : IntKind.i64.wrap (sx - p.x) = sx - p.x := IntWalk.i64_in _ (by omega)
            have w2' : IntKind.i64.wrap (sy - p.y) = sy - p.y := IntWalk.i64_in _ (by omega)
            have hji : (j : Int) < (p.n : Int) := by omega
            go_wp2
            go_quiet (fail)
            go_wp2
            go_roundw
            case rel => exact ⟨j + 1, by omega, by go_num, below_drewN hb _⟩
            case measure => simp [intOf]; omega
          · go_wp2_with (go_at_call 23; refine (works_any _).mono ?_; rintro e w' ⟨rfl, hb'⟩)
            go_ret
            exact ⟨rfl, bt (bt Ht3.out.bel hb) hb'⟩
  · have h300' : 300 < n := by omega
    go_enter Try.func7, Try.ntmps7
    go_wp2_with (go_at_call 23; refine (works_any _).mono ?_; rintro e w' ⟨rfl, hb⟩)
    go_ret
    exact ⟨rfl, hb⟩
theorem walkDoes (v0 v1 : Value) (W : World) (h0 : VSat W (.int .i64) false v0) (h1 : VSat W (.slice AcSh) false v1) :
    Calls Try.prog 7 #[v0, v1] W fun e W' => e = .returned (.bool true) ∧ Below W.heap.size W W' := by
  obtain ⟨A, l, cap, rfl, hl, hm⟩ := open_acts h1
  obtain ⟨n, e, hw⟩ := h0
  injection e with e
  subst e
  exact does_any A l l.length cap n W hl rfl hm
end Prof
end Go.Proofs.Ytpnafccedgjaeaa
