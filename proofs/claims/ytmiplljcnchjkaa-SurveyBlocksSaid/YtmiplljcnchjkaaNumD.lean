/-
  The walks of the reference of package wide: a magnitude less another one; one by another one.
-/
import Derived.Test.YtmiplljcnchjkaaNumW8
import Derived.StillTailTactics
namespace Go.Proofs.Ytmiplljcnchjkaa
open Go.RowKit
set_option linter.unusedVariables false
namespace Num

theorem results_cell_cell {fn : Func} {p u : Tmp} {ty ty' : TypeId} (h : fn.results = #[.cell p ty, .cell u ty']) (tmps : Array Value) (P : Program) (w : World) :
    (results fn tmps).run P w =
      ((asAddr (tmps.getD p undef)).run P w).andThen fun a w₁ => ((loadVar ty a).run P w₁).andThen fun v w₂ => ((asAddr (tmps.getD u undef)).run P w₂).andThen fun b w₃ => ((loadVar ty' b).run P w₃).andThen fun v' w₄ => .ok (.tuple #[v, v']) w₄ := by
  simp only [results, h]
  simp [Sem.run_bind, Result.andThen]
theorem results_row_row {P : Program} {fn : Func} {p u : Tmp} {ty ty' : TypeId} (h : fn.results = #[.cell p ty, .cell u ty']) (tmps : Array Value) (w : World) (g g' : Nat) (t t' : TypeId) (cs cs' : Array Value) (fr fr' : Nat × Nat) (d d' : TypeDesc)
    (hp : tmps.getD p undef = .pointer (some ⟨g, 0, none⟩)) (hg : w.heap[g]? = some (.cells cs t fr)) (hp' : tmps.getD u undef = .pointer (some ⟨g', 0, none⟩)) (hg' : w.heap[g']? = some (.cells cs' t' fr'))
    (hu : P.underlying ty = some d) (hd : (match d with | .struct _ | .array _ _ => true | _ => false) = true) (hi : (P.info? ty).map (·.size) = some cs.size)
    (hu' : P.underlying ty' = some d') (hd' : (match d' with | .struct _ | .array _ _ => true | _ => false) = true) (hi' : (P.info? ty').map (·.size) = some cs'.size) :
    (results fn tmps).run P w = .ok (.tuple #[.agg cs, .agg cs']) w := by
  rw [results_cell_cell h, hp, hp']
  simp [asAddr, run_loadVar_row w g t ty cs fr d hg hu hd hi, run_loadVar_row w g' t' ty' cs' fr' d' hg' hu' hd' hi', Result.andThen]
theorem wpStill_load_mid {P : Program} {ops : Array Oper} {rest : List Oper} {op : Oper} {a : Act} {w : World} {Q : Act → Prop} (hw : Region.wanted op (yielded ops a.tmps) = true) (ty : TypeId) (x : Operand) (ho : op.op = .load ty x)
    (b o : Nat) (hx : a.eval x = .pointer (some ⟨b, o, none⟩)) (cs : List Value) (d : TypeDesc) (hc : w.rangeAt b o cs)
    (hu : P.underlying ty = some d) (hd : d.isRow = true) (hi : (P.info? ty).map (·.size) = some cs.length)
    (h : wpStill P ops w Q rest (a.put op.dst (.agg cs.toArray))) : wpStill P ops w Q (op :: rest) a :=
  wpStill_step fun K hK => by
    rw [if_pos hw]
    unfold Oper.still execOp
    simp only [ho, hx, Instr.loadAt, Instr.sureAddr, Sem.run_bind, Sem.run_pure, Result.andThen_ok, run_loadVar_mid w b o ty cs d hc hu hd hi, Oper.stillUpon_value]
    exact hK _ h
set_option maxRecDepth 100000 in
set_option maxHeartbeats 1000000 in
theorem sub_any (X Y Z : Nat) (hX : Y + Z = X) (hZl : Z < 2 ^ 129) (w : World) :
    Calls Try.prog 53 #[av X, av Y] w fun e w' => e = .returned (av Z) ∧ Below w.heap.size w w' := by
  have HX := Lib.hid hX
  have HZ : Hid (Z % 2 ^ 129 = Z) := Lib.hid (Nat.mod_eq_of_lt hZl)
  clear hX hZl
  have hzA := zeroA
  have b0 := bl w (.cells (bt X).toArray 30)
  have b1 := bl (w.alloc (.cells (bt X).toArray 30)) (.cells (bt Y).toArray 30)
  have b2 := bl ((w.alloc (.cells (bt X).toArray 30)).alloc (.cells (bt Y).toArray 30)) (.cells (bt 0).toArray 30)
  have b3 := bl (((w.alloc (.cells (bt X).toArray 30)).alloc (.cells (bt Y).toArray 30)).alloc (.cells (bt 0).toArray 30)) (.cells (bt 0).toArray 30)
  have k0 := (((Blk.mk w 30 (bt X)).alloc (.cells (bt Y).toArray 30)).alloc (.cells (bt 0).toArray 30)).alloc (.cells (bt 0).toArray 30)
  have k1 := ((Blk.mk (w.alloc (.cells (bt X).toArray 30)) 30 (bt Y)).alloc (.cells (bt 0).toArray 30)).alloc (.cells (bt 0).toArray 30)
  have k2 := (Blk.mk ((w.alloc (.cells (bt X).toArray 30)).alloc (.cells (bt Y).toArray 30)) 30 (bt 0)).alloc (.cells (bt 0).toArray 30)
  have k3 := Blk.mk (((w.alloc (.cells (bt X).toArray 30)).alloc (.cells (bt Y).toArray 30)).alloc (.cells (bt 0).toArray 30)) 30 (bt 0)
  rw [show (w.alloc (.cells (bt X).toArray 30)).heap.size = w.heap.size + 1 by simp] at k1
  rw [show ((w.alloc (.cells (bt X).toArray 30)).alloc (.cells (bt Y).toArray 30)).heap.size = w.heap.size + 1 + 1 by simp] at k2
  rw [show (((w.alloc (.cells (bt X).toArray 30)).alloc (.cells (bt Y).toArray 30)).alloc (.cells (bt 0).toArray 30)).heap.size = w.heap.size + 1 + 1 + 1 by simp] at k3
  have bb := _root_.Go.Proofs.Ytmiplljcnchjkaa.bt b0 (_root_.Go.Proofs.Ytmiplljcnchjkaa.bt b1 (_root_.Go.Proofs.Ytmiplljcnchjkaa.bt b2 b3))
  have K0 := Lib.hid k0
  have K1 := Lib.hid k1
  have K2 := Lib.hid k2
  have K3 := Lib.hid k3
  have BB := Lib.hid bb
  clear b0 b1 b2 b3 k0 k1 k2 k3 bb
  unfold av
  go_enter Try.func53, Try.ntmps53
  go_wp2
  generalize (((w.alloc (.cells (bt X).toArray 30)).alloc (.cells (bt Y).toArray 30)).alloc (.cells (bt 0).toArray 30)).alloc (.cells (bt 0).toArray 30) = W at *
  clear hzA
  go_loopw [6, 7, 8] (fun c i _ wr => ∃ j : Nat, j ≤ 129 ∧ i = .int .i64 (j : Int) ∧ c = .int .i64 (carry Y Z j : Int) ∧ Below w.heap.size w wr ∧ Blk wr w.heap.size 30 (bt X) ∧ Blk wr (w.heap.size + 1) 30 (bt Y) ∧ Blk wr (w.heap.size + 1 + 1) 30 (bt 0) ∧ Blk wr (w.heap.size + 1 + 1 + 1) 30 (bt (Z % 2 ^ j))) (fun _ i _ _ => 129 - (intOf i).toNat)
  case atStart => exact ⟨0, by omega, rfl, by unfold carry; rw [Nat.pow_zero, Nat.mod_one, Nat.mod_one]; rfl, BB.out, K0.out, K1.out, K2.out, by rw [Nat.pow_zero, Nat.mod_one]; exact K3.out⟩
  case round =>
    clear K0 K1 K2 K3 BB
    obtain ⟨j, hj, rfl, rfl, hb, k0, k1, k2, k3⟩ := hrel
    have K0 := Lib.hid k0
    have K1 := Lib.hid k1
    have K2 := Lib.hid k2
    have K3 := Lib.hid k3
    have Hb := Lib.hid hb
    clear hb k0 k1 k2 k3
    by_cases hlt : j < 129
    · have c0 := (K0.out.cell j).trans (bt_at X j hlt)
      have c1 := (K1.out.cell j).trans (bt_at Y j hlt)
      have c3 := (K3.out.cell j).trans (bt_at _ j hlt)
      have f3 := K3.out.free j
      obtain ⟨s1, s2, s3⟩ := carry_step Y Z j
      rw [HX.out] at s1
      have hst := bt_step Z j hlt
      have hbx := bitN_lt X j
      have hby := bitN_lt Y j
      have hbz := bitN_lt Z j
      have Hst := Lib.hid hst
      clear hst
      have Hs2 := Lib.hid (show carry Y Z (j + 1) = (bitN Y j + bitN Z j + carry Y Z j) / 2 from s2.symm)
      clear s2
      generalize bitN X j = x at *
      generalize bitN Y j = y at *
      generalize bitN Z j = r at *
      generalize carry Y Z j = c at *
      have i1 : (j : Int) < 129 := by omega
      have u1 : IntKind.i64.wrap ((x : Int) - (y : Int)) = (x : Int) - (y : Int) := IntWalk.i64_in _ (by omega)
      obtain ⟨d, hd⟩ : ∃ d, d = (y + r + c) / 2 := ⟨_, rfl⟩
      rw [← hd] at Hs2
      have hd1 : d = 0 ∨ d = 1 := by omega
      rcases hd1 with rfl | rfl
      · have u2 : IntKind.i64.wrap ((x : Int) - (y : Int) - (c : Int)) = (r : Int) := by rw [IntWalk.i64_in _ (by omega)]; omega
        have hneg : decide ((r : Int) < 0) = false := decide_eq_false (by omega)
        clear hd s1 s3
        go_wp2
        go_quiet (fail)
        go_wp2
        go_roundw
        case rel =>
          have q3 := K3.out.put j (.int .i64 (r : Int))
          rw [Hst.out] at q3
          exact ⟨j + 1, by omega, by go_num, by rw [Hs2.out]; rfl, (below_drewN Hb.out _).setCell (show w.heap.size ≤ w.heap.size + 1 + 1 + 1 by omega) _, (K0.out.drewN _).far (p := ⟨w.heap.size + 1 + 1 + 1, j, none⟩) (show w.heap.size ≠ w.heap.size + 1 + 1 + 1 by omega) _, (K1.out.drewN _).far (p := ⟨w.heap.size + 1 + 1 + 1, j, none⟩) (show w.heap.size + 1 ≠ w.heap.size + 1 + 1 + 1 by omega) _, (K2.out.drewN _).far (p := ⟨w.heap.size + 1 + 1 + 1, j, none⟩) (show w.heap.size + 1 + 1 ≠ w.heap.size + 1 + 1 + 1 by omega) _, q3⟩
        case measure => first | (simp [intOf]; done) | (simp [intOf]; omega)
      · have u2 : IntKind.i64.wrap ((x : Int) - (y : Int) - (c : Int)) = (r : Int) - 2 := by rw [IntWalk.i64_in _ (by omega)]; omega
        have hneg : decide ((r : Int) - 2 < 0) = true := decide_eq_true (by omega)
        have u3 : IntKind.i64.wrap ((r : Int) - 2 + 2) = (r : Int) := by rw [IntWalk.i64_in _ (by omega)]; omega
        clear hd s1 s3
        go_wp2
        go_quiet (fail)
        go_wp2
        go_roundw
        case rel =>
          have q3 := K3.out.put j (.int .i64 (r : Int))
          rw [Hst.out] at q3
          exact ⟨j + 1, by omega, by go_num, by rw [Hs2.out]; rfl, (below_drewN Hb.out _).setCell (show w.heap.size ≤ w.heap.size + 1 + 1 + 1 by omega) _, (K0.out.drewN _).far (p := ⟨w.heap.size + 1 + 1 + 1, j, none⟩) (show w.heap.size ≠ w.heap.size + 1 + 1 + 1 by omega) _, (K1.out.drewN _).far (p := ⟨w.heap.size + 1 + 1 + 1, j, none⟩) (show w.heap.size + 1 ≠ w.heap.size + 1 + 1 + 1 by omega) _, (K2.out.drewN _).far (p := ⟨w.heap.size + 1 + 1 + 1, j, none⟩) (show w.heap.size + 1 + 1 ≠ w.heap.size + 1 + 1 + 1 by omega) _, q3⟩
        case measure => first | (simp [intOf]; done) | (simp [intOf]; omega)
    · obtain rfl : j = 129 := by omega
      have k3 := K3.out
      rw [HZ.out] at k3
      have r3 := arr_range k3
      have t2 : wr.there (w.heap.size + 1 + 1) 0 (bt Z).toArray.size := by rw [btA]; exact blk_there K2.out 0 129 (by rw [bt_len]; decide)
      clear k3
      go_wp2_with (first
        | (refine wpList_load_mid rfl 30 _ rfl (w.heap.size + 1 + 1 + 1) 0 rfl (bt Z) _ r3 Try.underlying30 rfl (infoA3 _) ?_)
        | (refine wpList_store_mid rfl 30 _ _ rfl (w.heap.size + 1 + 1) 0 (bt Z).toArray rfl rfl t2 (infoA2 Z) (all_oneCell_toArray (bt_one _)) ?_))
      refine bodyPost_ret (results_cell_row rfl _ _ (w.heap.size + 1 + 1) 30 (bt Z).toArray (0, 0) _ rfl (full_mid K2.out _ (by rw [bt_len, bt_len])) Try.underlying30 rfl (infoA2 _)) rfl ?_
      exact ⟨rfl, below_cells _ _ _ _ Hb.out (by omega)⟩
set_option maxRecDepth 100000 in
set_option maxHeartbeats 1000000 in
theorem fits63_any (Z : Nat) (hZ : Z < 2 ^ 63) (w : World) :
    Calls Try.prog 54 #[nv false Z, .int .i64 63] w fun e w' => e = .returned (.bool true) ∧ Below w.heap.size w w' := by
  have hblk := Blk.mk w 32 (num false Z)
  have call := fun (j : Nat) (hj : j < 129) => (hblk.cell (1 + j)).trans (num_at _ _ j hj)
  have h0 : ∀ j, 63 ≤ j → bitN Z j = 0 := fun j hj => by
    unfold bitN
    rw [Nat.div_eq_of_lt (Nat.lt_of_lt_of_le hZ (Nat.pow_le_pow_right (by decide) hj))]
  have Call := Lib.hid (show ∀ j, 63 ≤ j → j < 129 → (w.alloc (.cells (num false Z).toArray 32)).cell? ⟨w.heap.size, 1 + j, none⟩ = some (.int .i64 0) from fun j h1 h2 => by rw [call j h2, h0 j h1]; rfl)
  have c63 := Call.out 63 (by decide) (by decide)
  clear hblk hZ call h0
  unfold nv
  generalize (num false Z).toArray = aN at *
  go_enter Try.func54, Try.ntmps54
  go_wp2
  go_loop [5] (fun i => ∃ j : Nat, 64 ≤ j ∧ j ≤ 129 ∧ i = .int .i64 (j : Int)) (fun i => 129 - (intOf i).toNat)
  case atStart => exact ⟨64, by omega, by omega, rfl⟩
  case round =>
    obtain ⟨j, hj0, hj, rfl⟩ := hrel
    by_cases hlt : j < 129
    · have cj := Call.out j (by omega) hlt
      have i1 : (j : Int) < 129 := by omega
      have i0 : (0 : Int) ≤ (j : Int) := by omega
      go_wp2
      go_round
      case rel => exact ⟨j + 1, by omega, by omega, by go_num⟩
      case measure => first | (simp [intOf]; done) | (simp [intOf]; omega)
    · obtain rfl : j = 129 := by omega
      go_wp2
      go_ret
      exact ⟨rfl, bl _ _⟩
set_option maxRecDepth 100000 in
set_option maxHeartbeats 1000000 in
theorem more0_any (R Y : Nat) (hR : R < 2 ^ 129) (w : World) :
    Calls Try.prog 75 #[av R, av Y, .bool false, .int .i64 0] w fun e w' => e = .returned (.bool false) ∧ Below w.heap.size w w' := by
  obtain ⟨q, hq⟩ : ∃ q, q = decide (R = 0) := ⟨_, rfl⟩
  have heq := run_eql_bits R 0 hR (by decide) q hq
  have hzA := zeroA
  have b0 := bl w (.cells (bt R).toArray 30)
  have b1 := bl (w.alloc (.cells (bt R).toArray 30)) (.cells (bt Y).toArray 30)
  have b2 := bl ((w.alloc (.cells (bt R).toArray 30)).alloc (.cells (bt Y).toArray 30)) (.cells (bt 0).toArray 30)
  have k0 := ((Blk.mk w 30 (bt R)).alloc (.cells (bt Y).toArray 30)).alloc (.cells (bt 0).toArray 30)
  have k2 := Blk.mk ((w.alloc (.cells (bt R).toArray 30)).alloc (.cells (bt Y).toArray 30)) 30 (bt 0)
  rw [show ((w.alloc (.cells (bt R).toArray 30)).alloc (.cells (bt Y).toArray 30)).heap.size = w.heap.size + 1 + 1 by simp] at k2
  have BB := Lib.hid (_root_.Go.Proofs.Ytmiplljcnchjkaa.bt b0 (_root_.Go.Proofs.Ytmiplljcnchjkaa.bt b1 b2))
  have K0 := Lib.hid k0
  have K2 := Lib.hid k2
  clear b0 b1 b2 k0 k2 hq hR
  unfold av
  go_enter Try.func75, Try.ntmps75
  cases q
  all_goals
    go_wp2_with (first
      | (refine wpList_load_mid rfl 30 _ rfl w.heap.size 0 rfl (bt R) _ ?hr Try.underlying30 rfl (infoA3 _) ?_; (case hr => exact arr_range K0.out))
      | (refine wpList_load_mid rfl 30 _ rfl (w.heap.size + 1 + 1) 0 rfl (bt 0) _ ?hr Try.underlying30 rfl (infoA3 _) ?_; (case hr => exact arr_range K2.out)))
    go_ret
    exact ⟨rfl, BB.out⟩
end Num
end Go.Proofs.Ytmiplljcnchjkaa
