/-
  The example of the statements of layer 38.
-/
import Derived.Test.YtmiplljcnchjkaaSurD
namespace Go.Proofs.Ytmiplljcnchjkaa
open Go.RowKit
set_option linter.unusedVariables false
namespace Sur
def exZ : List Int := [0, 0, 0, 0, 10, 10, 10, 10, 7, 0, 0, 0, 0, 10, 10, 10, 10, -32768]
def exL : List Sq := [⟨0, 0, 80, 16, 0⟩, ⟨1, 0, 0, 1, 1⟩]
theorem root_6400 : rootN 6400 = 80 := (rootN_is 6400).uniq (show Root.IsRoot 6400 80 from ⟨by decide, by decide⟩)
theorem root_0 : rootN 0 = 0 := rfl
theorem ex_sm0 : smT 9 exZ 0 (9 * 2) = ⟨16, 80, 800, 0⟩ := by kernel_rfl
theorem ex_sm1 : smT 9 exZ 1 (9 * 2) = ⟨1, 7, 49, 1⟩ := by kernel_rfl
theorem raw_0 : rawZ ⟨16, 80, 800, 0⟩ = 6400 := by decide +kernel
theorem raw_1 : rawZ ⟨1, 7, 49, 1⟩ = 0 := by decide +kernel
theorem ex_blocks : blocksL 9 2 exZ = exL := by
  have e : blocksL 9 2 exZ = [sqOf 9 2 exZ 0, sqOf 9 2 exZ 1] := rfl
  rw [e]
  unfold sqOf
  rw [ex_sm0, ex_sm1]
  unfold roughZ
  rw [raw_0, raw_1, root_6400, root_0]
  rfl
theorem info_80 : infoN 80 80 = 32768 := by decide +kernel
theorem info_0 : infoN 0 80 = 0 := by decide +kernel
theorem info_5 : infoN 0 5 = 0 := by decide +kernel
theorem infoC_80 : infoC 80 80 = (32768, 0) := by
  rw [infoC_ok (by decide)]
  show (((infoN 80 80 : Nat) : Int), (0 : Int)) = _
  rw [info_80]
  rfl
theorem infoC_0 : infoC 0 80 = (0, 0) := by
  rw [infoC_ok (by decide)]
  show (((infoN 0 80 : Nat) : Int), (0 : Int)) = _
  rw [info_0]
  rfl
theorem infoC_5 : infoC 0 5 = (0, 0) := by
  rw [infoC_ok (by decide)]
  show (((infoN 0 5 : Nat) : Int), (0 : Int)) = _
  rw [info_5]
  rfl
theorem infoC_m : infoC (-1) 5 = (0, 2) := infoC_bad (by decide)
theorem ex_tolds : tolds exL 80 = [32768, 0] := by
  show [(infoC 80 80).1, (infoC 0 80).1] = _
  rw [infoC_80, infoC_0]
theorem ex_ok : AllOk exL 80 := by
  intro b hb
  simp [exL] at hb
  rcases hb with rfl | rfl
  · show (infoC 80 80).2 = 0
    rw [infoC_80]
  · show (infoC 0 80).2 = 0
    rw [infoC_0]
theorem ex_ranked {R : List Nat} (h : Ranked (tolds exL 80) R) : R = [0, 1] := by
  rw [ex_tolds] at h
  obtain ⟨h1, h2⟩ := h
  have hl := h1.length_eq
  match R, hl with
  | [a, b], _ =>
    have ha := h1.mem_iff (a := a)
    have hb := h1.mem_iff (a := b)
    have h0 := h1.mem_iff (a := 0)
    have h1' := h1.mem_iff (a := 1)
    simp at ha hb h0 h1'
    have h3 := h2 0 1 (by decide) (by decide)
    have hh : a = 0 ∧ b = 1 ∨ a = 1 ∧ b = 0 := by omega
    rcases hh with ⟨rfl, rfl⟩ | ⟨rfl, rfl⟩
    · rfl
    · exact absurd (by unfold before; decide) h3
theorem ex_inZ : InZ exZ := by unfold InZ exZ; decide
set_option maxRecDepth 100000 in
set_option maxHeartbeats 1000000 in
theorem works38_any (w : World) : Calls Try.prog 33 #[] w fun e w' => e = .returned (.bool true) ∧ Below w.heap.size w w' := by
  have q1 : ∀ w, (binOp .eql 61 (.agg #[.int .i64 0, .int .i64 0, .int .i64 80, .int .i64 16, .int .i64 0]) (.agg #[.int .i64 0, .int .i64 0, .int .i64 80, .int .i64 16, .int .i64 0])).run Try.prog w = .ok (.bool true) w := fun _ => by kernel_rfl
  have q2 : ∀ w, (binOp .eql 61 (.agg #[.int .i64 1, .int .i64 0, .int .i64 0, .int .i64 1, .int .i64 1]) (.agg #[.int .i64 1, .int .i64 0, .int .i64 0, .int .i64 1, .int .i64 1])).run Try.prog w = .ok (.bool true) w := fun _ => by kernel_rfl
  go_enter Try.func33, Try.ntmps33
  have hrd : RdL ((w.alloc (.cells (exZ.map z16).toArray 92)).alloc (.cells #[.int .i64 9, .int .i64 2, .slice (some ⟨w.heap.size, 0, none⟩) 18 18] 53)) w.heap.size (w.heap.size + 1) (some ⟨w.heap.size, 0, none⟩) (exZ.map z16) := (new_rd w 92 (exZ.map z16)).alloc _
  have hbl := blocks_ok 9 2 (by decide) (by decide) (by decide) (by decide) (some ⟨w.heap.size, 0, none⟩) exZ 18 18 _ _ _ hrd (by simp) rfl rfl ex_inZ
  unfold GotD at hbl
  rw [ex_blocks, show sd 9 * sd 2 = 2 from rfl] at hbl
  have hbw := bt (bl w (.cells (exZ.map z16).toArray 92)) (bl (w.alloc (.cells (exZ.map z16).toArray 92)) (.cells #[.int .i64 9, .int .i64 2, .slice (some ⟨w.heap.size, 0, none⟩) 18 18] 53))
  have HBW := Lib.hid hbw
  clear hrd hbw
  go_wp2_with fail
  refine hbl.mono ?_
  rintro e w2 ⟨hb2, v2, rfl, ho2⟩
  obtain ⟨A2, c2, rfl, hr2, _, _, _⟩ := own_rd ho2
  have HR2 := Lib.hid hr2
  have HB2 := Lib.hid (bt HBW.out hb2)
  clear hbl hb2 ho2 hr2 HBW
  have hbad := blocks_bad 0 0 none 0 0 w2 (by decide) (by decide)
  rw [show codeH 0 0 0 = 2 by decide] at hbad
  go_wp2_with fail
  refine hbad.mono ?_
  rintro e w3 ⟨rfl, hb3⟩
  have HR3 := Lib.hid (HR2.out.next hb3)
  have HB3 := Lib.hid (bt HB2.out hb3)
  have hs3 := hb3.size
  clear hb3 hbad HR2 HB2
  have i1 := info_any 80 80 w3
  unfold GotN at i1
  rw [infoC_80] at i1
  go_wp2_with fail
  refine i1.mono ?_
  rintro e w4 ⟨rfl, hb4⟩
  have HR4 := Lib.hid (HR3.out.next hb4)
  have HB4 := Lib.hid (bt HB3.out hb4)
  have hs4 := hb4.size
  clear hb4 i1 HR3 HB3
  have i2 := info_any 0 5 w4
  unfold GotN at i2
  rw [infoC_5] at i2
  go_wp2_with fail
  refine i2.mono ?_
  rintro e w5 ⟨rfl, hb5⟩
  have HR5 := Lib.hid (HR4.out.next hb5)
  have HB5 := Lib.hid (bt HB4.out hb5)
  have hs5 := hb5.size
  clear hb5 i2 HR4 HB4
  have i3 := info_any (-1) 5 w5
  unfold GotN at i3
  rw [infoC_m] at i3
  go_wp2_with fail
  refine i3.mono ?_
  rintro e w6 ⟨rfl, hb6⟩
  have HR6 := Lib.hid (HR5.out.next hb6)
  have HB6 := Lib.hid (bt HB5.out hb6)
  have hs6 := hb6.size
  clear hb6 i3 HR5 HB5
  have hrk := rank_any A2 exL 2 c2 _ _ 80 w6 HR6.out (by omega) rfl (by decide)
  unfold GotK at hrk
  rw [show exL.length = 2 from rfl] at hrk
  go_wp2_with fail
  refine hrk.mono ?_
  clear hrk
  rintro e w7 ⟨hb7, ⟨hbad, rfl⟩ | ⟨_, gr, R, hR, hgr, rfl, hB⟩⟩
  · exact absurd ex_ok hbad
  have hRR := ex_ranked hR
  subst hRR
  have HR7 := Lib.hid (HR6.out.next hb7)
  have HB7 := Lib.hid (bt HB6.out hb7)
  have HK7 := Lib.hid hB
  have hs7 := hb7.size
  clear hb7 hR hgr hB HR6 HB6
  have hbe := best_any A2 exL 2 c2 _ _ 80 1 w7 HR7.out (by omega) rfl (by decide)
  unfold GotB at hbe
  go_wp2_with fail
  refine hbe.mono ?_
  clear hbe
  rintro e w8 ⟨hb8, ⟨hbad, rfl⟩ | ⟨_, gb, R, m, hR, hm, hgb, rfl, hB⟩⟩
  · exact absurd ex_ok hbad
  have hRR := ex_ranked hR
  subst hRR
  have hm1 : m = 1 := by rw [hm]; rfl
  subst hm1
  have HR8 := Lib.hid (HR7.out.next hb8)
  have HB8 := Lib.hid (bt HB7.out hb8)
  have HK8 := Lib.hid (HK7.out.next hb8)
  have HL8 : Hid (Blk w8 gb 61 (sqs [⟨0, 0, 80, 16, 0⟩])) := Lib.hid hB
  have hs8 := hb8.size
  clear hb8 hR hm hgb hB HR7 HB7 HK7
  have hwo := worth_any A2 exL 2 c2 _ _ 80 w8 HR8.out rfl (by decide)
  unfold GotW at hwo
  go_wp2_with fail
  refine hwo.mono ?_
  clear hwo
  rintro e w9 ⟨hb9, ⟨hbad, rfl⟩ | ⟨_, rfl⟩⟩
  · exact absurd ex_ok hbad
  rw [ex_tolds, show sum64 [32768, 0] = 32768 by decide]
  have HR9 := Lib.hid (HR8.out.next hb9)
  have HB9 := Lib.hid (bt HB8.out hb9)
  have HK9 := Lib.hid (HK8.out.next hb9)
  have HL9 := Lib.hid (HL8.out.next hb9)
  clear hb9 HR8 HB8 HK8 HL8
  obtain ⟨bL, oL, rfl, _, _, _, _⟩ := HR9.out.some (by decide)
  have s0 := sq_elem HR9.out (i := 0) (by decide)
  have s1 := sq_elem HR9.out (i := 1) (by decide)
  have a0 : w9.cell? ⟨bL, oL, none⟩ = some (.int .i64 0) := s0.1
  have a1 : w9.cell? ⟨bL, oL + 1, none⟩ = some (.int .i64 0) := s0.2.1
  have a2 : w9.cell? ⟨bL, oL + 2, none⟩ = some (.int .i64 80) := s0.2.2.1
  have a3 : w9.cell? ⟨bL, oL + 3, none⟩ = some (.int .i64 16) := s0.2.2.2.1
  have a4 : w9.cell? ⟨bL, oL + 4, none⟩ = some (.int .i64 0) := s0.2.2.2.2
  have b0 : w9.cell? ⟨bL, oL + 5, none⟩ = some (.int .i64 1) := s1.1
  have b1 : w9.cell? ⟨bL, oL + 5 + 1, none⟩ = some (.int .i64 0) := s1.2.1
  have b2 : w9.cell? ⟨bL, oL + 5 + 2, none⟩ = some (.int .i64 0) := s1.2.2.1
  have b3 : w9.cell? ⟨bL, oL + 5 + 3, none⟩ = some (.int .i64 1) := s1.2.2.2.1
  have b4 : w9.cell? ⟨bL, oL + 5 + 4, none⟩ = some (.int .i64 1) := s1.2.2.2.2
  clear s0 s1
  have k0 : w9.cell? ⟨gr, 0, none⟩ = some (.int .i64 0) := HK9.out.cell 0
  have k1 : w9.cell? ⟨gr, 1, none⟩ = some (.int .i64 1) := HK9.out.cell 1
  have l0 : w9.cell? ⟨gb, 0, none⟩ = some (.int .i64 0) := HL9.out.cell 0
  have l1 : w9.cell? ⟨gb, 1, none⟩ = some (.int .i64 0) := HL9.out.cell 1
  have l2 : w9.cell? ⟨gb, 2, none⟩ = some (.int .i64 80) := HL9.out.cell 2
  have l3 : w9.cell? ⟨gb, 3, none⟩ = some (.int .i64 16) := HL9.out.cell 3
  have l4 : w9.cell? ⟨gb, 4, none⟩ = some (.int .i64 0) := HL9.out.cell 4
  clear HR9 HK9 HL9
  go_wp2_with fail
  go_quiet (fail)
  go_wp2_with fail
  go_ret
  exact ⟨rfl, below_drewN HB9.out _⟩
end Sur
end Go.Proofs.Ytmiplljcnchjkaa
