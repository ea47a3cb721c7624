/-
  The walk of the reference of package wide: Div, rounded down, of numbers that are not below 0.
-/
import Derived.Test.YtmiplljcnchjkaaNumE
import Derived.Test.YtmiplljcnchjkaaNumW5
namespace Go.Proofs.Ytmiplljcnchjkaa
open Go.RowKit
set_option linter.unusedVariables false
namespace Num

theorem wpList_build_eq {P : Program} {ops : Array Oper} {rest : List Oper} {o : Oper} {a : Act} {w : World} {Q : Exit → Act → World → Prop} (hg : o.guard = none) (t : TypeId) (parts : Array (Nat × Operand)) (ho : o.op = .build t parts)
    (cells : Array Value) (hc : P.built t (parts.map fun (i, x) => (i, a.eval x)).toList = some cells)
    (h : wpList P ops Q rest (a.put o.dst (.agg cells)) w) : wpList P ops Q (o :: rest) a w :=
  wpList_plain hg fun _ hK => by
    unfold Oper.wp execOp
    simp only [ho, Sem.run_bind, run_build w t _ cells hc, Result.andThen_ok]
    exact hK _ _ h
theorem built_num (m : Bool) (f : Nat → Value) : Try.prog.built 32 [(0, .bool m), (1, .agg ((List.range 129).map f).toArray)] = some (Value.bool m :: (List.range 129).map f).toArray := by kernel_rfl
set_option maxRecDepth 100000 in
set_option maxHeartbeats 1000000 in
theorem div0_any (X Y Q : Nat) (hX : X < 2 ^ 129) (hY0 : 0 < Y) (hY : Y < 9223372036854775808) (hQ : X / Y = Q) (hQl : Q < 9223372036854775808) (w : World) :
    Calls Try.prog 64 #[nv false X, .int .i64 (Y : Int), .int .i64 0] w fun e w' => e = .returned (.tuple #[.int .i64 (Q : Int), .int .i64 0]) ∧ Below w.heap.size w w' := by
  have HX := Lib.hid hX
  have hRl := Nat.mod_lt X hY0
  obtain ⟨R, hR⟩ : ∃ R, X % Y = R := ⟨_, rfl⟩
  rw [hR] at hRl
  have hdv := divide_any X Y Q R hX hY0 (by omega) hQ hR
  have hmo := more0_any R Y (by omega)
  have hze := zero_any false Q (by omega)
  have hfi := fits63_any Q hQl
  have hpa := parts_any Q 0 Q (Nat.div_eq_of_lt (by omega)) (Nat.mod_eq_of_lt (by omega)) (by decide)
  have hof := of_pos Y hY
  have y0 : ((Y : Int) == 0) = false := by rw [beq_eq_false_iff_ne]; omega
  have u1 : IntKind.i64.wrap (Q : Int) = (Q : Int) := IntWalk.i64_in _ (by omega)
  have hzN := zeroN
  have hzA := zeroA
  obtain ⟨L0, hL0⟩ : ∃ L0, L0 = num false 0 := ⟨_, rfl⟩
  obtain ⟨Z0, hZ0⟩ : ∃ Z0, Z0 = bt 0 := ⟨_, rfl⟩
  have hnl : L0.length = 130 := by rw [hL0]; exact num_len _ _
  have hzl : Z0.length = 129 := by rw [hZ0]; exact bt_len _
  rw [← hL0] at hzN
  rw [← hZ0] at hzA
  have Hnl := Lib.hid hnl
  have Hzl := Lib.hid hzl
  clear hL0 hZ0 hnl hzl
  have K3 := Lib.hid (Blk.mk w 32 (num false X))
  have BB := Lib.hid (bl w (.cells (num false X).toArray 32))
  clear hX hRl hR hQ hY
  unfold nv
  go_enter Try.func64, Try.ntmps64
  go_wp2_with fail
  generalize w.alloc (.cells (num false X).toArray 32) = w1 at *
  refine (hof _).mono ?_
  rintro e w2 ⟨rfl, hb2⟩
  have K3b := Lib.hid (K3.out.next hb2)
  have B2 := Lib.hid (_root_.Go.Proofs.Ytmiplljcnchjkaa.bt BB.out hb2)
  have hg3 := K3b.out.lt
  have K8 := Lib.hid (full_mid (Blk.mk w2 32 L0) (num false Y) (by rw [num_len, Hnl.out]))
  have B8 := Lib.hid (below_cells (num false Y) _ w2.heap.size 0 (bl w2 (.cells L0.toArray 32)) (Nat.le_refl _))
  have T8 : Hid ((w2.alloc (.cells L0.toArray 32)).there w2.heap.size 0 (num false Y).toArray.size) := Lib.hid (by rw [numA]; exact blk_there (Blk.mk w2 32 L0) 0 130 (by rw [Hnl.out]; decide))
  have K3c := Lib.hid (K3b.out.next B8.out)
  have B3 := Lib.hid (_root_.Go.Proofs.Ytmiplljcnchjkaa.bt B2.out B8.out)
  have iY := infoN2 false Y
  have oY := num_one false Y
  clear hb2 K3 BB K3b B2 hof
  unfold nv
  go_wp2_with (first
    | (refine wpList_store_mid rfl 32 _ _ rfl w2.heap.size 0 (num false Y).toArray rfl rfl ?ht iY (all_oneCell_toArray oY) ?_; (case ht => exact T8.out); generalize (w2.alloc (.cells L0.toArray 32)).setCells w2.heap.size 0 (num false Y) = w3 at *; have m3 : w3.cell? ⟨w.heap.size, 0, none⟩ = some (.bool false) := K3c.out.cell 0; have m8 : w3.cell? ⟨w2.heap.size, 0, none⟩ = some (.bool false) := K8.out.cell 0)
    | (refine wpList_load_mid rfl 30 _ rfl w.heap.size 1 rfl (bt X) _ ?hr Try.underlying30 rfl (infoA3 _) ?_; (case hr => exact num_range K3c.out))
    | (refine wpList_load_mid rfl 30 _ rfl w2.heap.size 1 rfl (bt Y) _ ?hr Try.underlying30 rfl (infoA3 _) ?_; (case hr => exact num_range K8.out)))
  refine (hdv _).mono ?_
  rintro e w4 ⟨rfl, hb4⟩
  have K3d := Lib.hid (K3c.out.next hb4)
  have K8d := Lib.hid (K8.out.next hb4)
  have B4 := Lib.hid (_root_.Go.Proofs.Ytmiplljcnchjkaa.bt B3.out hb4)
  have hl4 : w2.heap.size < w4.heap.size := K8d.out.lt
  clear hb4 K3c K8 B3 B8 T8 iY oY hdv m3 m8
  have k10 := (Blk.mk w4 30 Z0).alloc (.cells Z0.toArray 30)
  have k11 := Blk.mk (w4.alloc (.cells Z0.toArray 30)) 30 Z0
  rw [show (w4.alloc (.cells Z0.toArray 30)).heap.size = w4.heap.size + 1 by simp] at k11
  have bb := _root_.Go.Proofs.Ytmiplljcnchjkaa.bt (bl w4 (.cells Z0.toArray 30)) (bl (w4.alloc (.cells Z0.toArray 30)) (.cells Z0.toArray 30))
  have T10 : Hid (((w4.alloc (.cells Z0.toArray 30)).alloc (.cells Z0.toArray 30)).there w4.heap.size 0 (bt Q).toArray.size) := Lib.hid (by rw [btA]; exact blk_there k10 0 129 (by rw [Hzl.out]; decide))
  have q10 := full_mid k10 (bt Q) (by rw [bt_len, Hzl.out])
  have q11 := blk_apart (bt Q) _ w4.heap.size 0 k11 (by omega)
  have qb := below_cells (bt Q) _ w4.heap.size 0 bb (Nat.le_refl _)
  have T11 : Hid ((((w4.alloc (.cells Z0.toArray 30)).alloc (.cells Z0.toArray 30)).setCells w4.heap.size 0 (bt Q)).there (w4.heap.size + 1) 0 (bt R).toArray.size) := Lib.hid (by rw [btA]; exact blk_there q11 0 129 (by rw [Hzl.out]; decide))
  have p10 := Lib.hid (blk_apart (bt R) _ (w4.heap.size + 1) 0 q10 (by omega))
  have p11 := Lib.hid (full_mid q11 (bt R) (by rw [bt_len, Hzl.out]))
  have pb := Lib.hid (below_cells (bt R) _ (w4.heap.size + 1) 0 qb (by omega))
  have P3 := Lib.hid (K3d.out.next pb.out)
  have P8 := Lib.hid (K8d.out.next pb.out)
  have PB := Lib.hid (_root_.Go.Proofs.Ytmiplljcnchjkaa.bt B4.out pb.out)
  have iQ := infoA2 Q
  have oQ := bt_one Q
  have iR := infoA2 R
  have oR := bt_one R
  clear k10 k11 bb q10 q11 qb K3d K8d B4 pb
  unfold av
  go_wp2_with (first
    | (refine wpList_store_mid rfl 30 _ _ rfl w4.heap.size 0 (bt Q).toArray rfl rfl ?ht iQ (all_oneCell_toArray oQ) ?_; (case ht => exact T10.out); generalize ((w4.alloc (.cells Z0.toArray 30)).alloc (.cells Z0.toArray 30)).setCells w4.heap.size 0 (bt Q) = wa at *)
    | (refine wpList_store_mid rfl 30 _ _ rfl (w4.heap.size + 1) 0 (bt R).toArray rfl rfl ?ht iR (all_oneCell_toArray oR) ?_; (case ht => exact T11.out); generalize wa.setCells (w4.heap.size + 1) 0 (bt R) = w5 at *)
    | (refine wpList_load_mid rfl 30 _ rfl (w4.heap.size + 1) 0 rfl (bt R) _ ?hr Try.underlying30 rfl (infoA3 _) ?_; (case hr => exact arr_range p11.out))
    | (refine wpList_load_mid rfl 30 _ rfl w2.heap.size 1 rfl (bt Y) _ ?hr Try.underlying30 rfl (infoA3 _) ?_; (case hr => exact num_range P8.out)))
  refine (hmo _).mono ?_
  rintro e w6 ⟨rfl, hb6⟩
  have S10 := Lib.hid (p10.out.next hb6)
  have SB := Lib.hid (_root_.Go.Proofs.Ytmiplljcnchjkaa.bt PB.out hb6)
  clear hb6 T10 T11 p10 p11 P3 P8 PB iQ oQ iR oR hmo
  have hbn : Try.prog.built 32 [(0, .bool false), (1, .agg (bt Q).toArray)] = some (num false Q).toArray := built_num false _
  have K13 := Lib.hid (full_mid (Blk.mk w6 32 L0) (num false Q) (by rw [num_len, Hnl.out]))
  have B13 := Lib.hid (_root_.Go.Proofs.Ytmiplljcnchjkaa.bt SB.out (below_cells (num false Q) _ w6.heap.size 0 (bl w6 (.cells L0.toArray 32)) (Nat.le_refl _)))
  have T13 : Hid ((w6.alloc (.cells L0.toArray 32)).there w6.heap.size 0 (num false Q).toArray.size) := Lib.hid (by rw [numA]; exact blk_there (Blk.mk w6 32 L0) 0 130 (by rw [Hnl.out]; decide))
  have iN := infoN2 false Q
  have oN := num_one false Q
  clear SB
  go_wp2_with (first
    | (refine wpList_load_mid rfl 30 _ rfl w4.heap.size 0 rfl (bt Q) _ ?hr Try.underlying30 rfl (infoA3 _) ?_; (case hr => exact arr_range S10.out))
    | (refine wpList_build_eq rfl 32 _ rfl (num false Q).toArray ?hb ?_; (case hb => (refine Eq.trans (congrArg (Try.prog.built 32) ?_) hbn; kernel_rfl)))
    | (refine wpList_store_mid rfl 32 _ _ rfl w6.heap.size 0 (num false Q).toArray rfl rfl ?ht iN (all_oneCell_toArray oN) ?_; (case ht => exact T13.out); generalize (w6.alloc (.cells L0.toArray 32)).setCells w6.heap.size 0 (num false Q) = w7 at *)
    | (refine wpList_load_mid rfl 32 _ rfl w6.heap.size 0 rfl (num false Q) _ ?hr Try.underlying32 rfl (infoN3 _ _) ?_; (case hr => exact nums_range K13.out)))
  by_cases hQ0 : Q = 0
  · have dq : decide (Q = 0) = true := decide_eq_true hQ0
    rw [dq] at hze
    refine (hze _).mono ?_
    rintro e w8 ⟨rfl, hb8⟩
    have B14 := Lib.hid (_root_.Go.Proofs.Ytmiplljcnchjkaa.bt B13.out hb8)
    clear hb8
    go_wp2_with fail
    go_ret2
    exact ⟨by rw [hQ0]; rfl, B14.out⟩
  · have dq : decide (Q = 0) = false := decide_eq_false hQ0
    rw [dq] at hze
    refine (hze _).mono ?_
    rintro e w8 ⟨rfl, hb8⟩
    have K14 := Lib.hid (K13.out.next hb8)
    have B14 := Lib.hid (_root_.Go.Proofs.Ytmiplljcnchjkaa.bt B13.out hb8)
    clear hb8 hQ0 dq K13 B13
    go_wp2_with (refine wpList_load_mid rfl 32 _ rfl w6.heap.size 0 rfl (num false Q) _ ?hr Try.underlying32 rfl (infoN3 _ _) ?_; (case hr => exact nums_range K14.out))
    refine (hfi _).mono ?_
    rintro e w9 ⟨rfl, hb9⟩
    have K15 := Lib.hid (K14.out.next hb9)
    have B15 := Lib.hid (_root_.Go.Proofs.Ytmiplljcnchjkaa.bt B14.out hb9)
    clear hb9 K14 B14
    go_wp2_with (refine wpList_load_mid rfl 32 _ rfl w6.heap.size 0 rfl (num false Q) _ ?hr Try.underlying32 rfl (infoN3 _ _) ?_; (case hr => exact nums_range K15.out))
    refine (hpa _).mono ?_
    rintro e w10 ⟨rfl, hb10⟩
    have B16 := Lib.hid (_root_.Go.Proofs.Ytmiplljcnchjkaa.bt B15.out hb10)
    clear hb10
    go_wp2_with fail
    go_ret2
    exact ⟨rfl, B16.out⟩
end Num
end Go.Proofs.Ytmiplljcnchjkaa
