/-
  The walk of works of package bits.
-/
import Derived.Test.YtgncngpgodfijaaBitsG
import Derived.Outline
namespace Go.Proofs.Ytgncngpgodfijaa
open Go.RowKit
set_option linter.unusedVariables false
namespace Bits

theorem WB.new (w : World) : WB (w.alloc (.cells #[.slice none 0 0, .int .i64 0] 26)) w.heap.size (.slice none 0 0) [] :=
  ⟨Blk.mk w 26 [.slice none 0 0, .int .i64 0], World.ownsRow_nil _ _ _ _, by simp [Value.ownBlock]⟩
theorem WB.next {w w' : World} {g : Nat} {v : Value} {l : List Bool} (h : WB w g v l) (hb : Below w.heap.size w w') : WB w' g v l :=
  ⟨h.blk.below hb h.blk.lt, own_next h.own hb, h.ne⟩
theorem WB.beside {w w' : World} {g q : Nat} {v : Value} {l : List Bool} (h : WB w g v l) (hg : w.grownBy w' (some q)) (hq : q ≠ g) (hv : v.ownBlock ≠ some q) : WB w' g v l :=
  ⟨h.blk.grown hg (fun e => hq (by injection e with e; exact e.symm)), h.own.kept hg (.inr hv), h.ne⟩
/-- the first contract is told for a writer that the call made -/
theorem WF.new {w w1 w' : World} {g : Nat} {v v' : Value} (h : WF w1 g v w' v') (hb : Below w.heap.size w w1) (hg : w.heap.size ≤ g) (hv : ∀ b, v.ownBlock = some b → w.heap.size ≤ b) :
    Below w.heap.size w w' ∧ ∀ b, v'.ownBlock = some b → w.heap.size ≤ b := by
  refine ⟨h.below hb hb.size hg hv, fun b hb' => ?_⟩
  rcases h.own with ho | ho
  · exact hv b (ho ▸ hb')
  · exact Nat.le_trans hb.size (ho b hb')
def L7 : List Bool := [true, false, true, true, true, false, true]
theorem e1 : ([] : List Bool) ++ numB 5 3 = [true, false, true] := by decide
theorem e2 : pack L7 = [186] := by decide
theorem e3 : val (((row [186]).drop 0).take 3) = 5 := by decide
theorem e4 : onesOk ((row [186]).drop 3) 9 = true := by decide
theorem e5 : lead ((row [186]).drop 3) = 2 := by decide
theorem e6 : rb [186] 6 = true := by decide
theorem e7 : clean ((row [186]).drop 7) = true := by decide
theorem e8 : leVal [1, 2, 3] 1 2 = 770 := by decide
theorem e9 : ([] : List UInt8) ++ leB 770 3 = [2, 3, 0] := by decide
set_option maxRecDepth 100000 in
set_option maxHeartbeats 1000000 in
theorem works_any (w : World) : Calls Try.prog 14 #[] w fun e w' => e = .returned (.bool true) ∧ Below w.heap.size w w' := by
  go_enter Try.func14, Try.ntmps14
  go_wp2_with fail
  refine (num_any w.heap.size _ [] 5 3 _ (WB.new w) (by decide) (by decide) (by decide)).mono ?_
  rintro e w1 ⟨rfl, v1, h1, f1⟩
  obtain ⟨b1, o1⟩ := f1.new (bl w _) (Nat.le_refl _) (by simp [Value.ownBlock])
  rw [e1] at h1
  clear f1
  go_wp2_with fail
  refine (ones_any w.heap.size _ _ 2 _ h1 (by decide) (by decide)).mono ?_
  rintro e w2 ⟨rfl, v2, h2, f2⟩
  obtain ⟨b2, o2⟩ := f2.new b1 (Nat.le_refl _) o1
  clear h1 f2 b1 o1
  go_wp2_with fail
  refine (bit_any w.heap.size _ _ true _ h2 (by decide)).mono ?_
  rintro e w3 ⟨rfl, v3, h3, f3⟩
  obtain ⟨b3, o3⟩ := f3.new b2 (Nat.le_refl _) o2
  have h3' : WB w3 w.heap.size v3 L7 := h3
  clear h2 f3 b2 o2 h3
  go_wp2_with fail
  refine (bytes_any w.heap.size _ L7 _ h3' (by decide)).mono ?_
  rintro e w4 ⟨⟨v4, rfl, hown4⟩, hb4⟩
  rw [e2] at hown4
  have h4 := h3'.next hb4
  have b4 := bt b3 hb4
  obtain ⟨A4, cap4, rfl, hrd4, _, _, hn4⟩ := own_rd hown4
  have Hrd4 := Lib.hid hrd4
  have Hown4 := Lib.hid hown4
  have H4 := Lib.hid h4
  clear h3' hb4 b3 o3 hrd4 hown4 h4
  go_wp2_with fail
  refine (read_any A4 [186] 1 cap4 _ _ _ Hrd4.out rfl hn4 (by decide)).mono ?_
  rintro e w5 ⟨g5, rfl, h5, hg5, hb5⟩
  have H5 := Lib.hid h5
  have Hrd5 := Lib.hid (Hrd4.out.next hb5)
  have W5 := Lib.hid (H4.out.next hb5)
  have b5 := bt b4 hb5
  have hwl := W5.out.blk.lt
  have hgg : w.heap.size < g5 := by have := H4.out.blk.lt; omega
  have h45 : w4.heap.size ≤ g5 := hg5
  have hv3 : v3.ownBlock ≠ some g5 := fun e => by have := (own_lt H4.out.own e).2; omega
  clear h5 hb5 Hrd4 H4 b4 Hown4 hg5
  have hpn : ∀ w : World, (binOp .eql 39 (.pointer (some ⟨g5, 0, none⟩)) (.pointer none)).run Try.prog w = .ok (.bool false) w := fun w => by kernel_rfl
  go_wp2_with fail
  refine (rnum_ok g5 [186] 0 3 _ H5.out (by decide) (by decide) (by decide)).mono ?_
  rintro e w6 ⟨rfl, h6, f6⟩
  rw [e3]
  have b6 := bgrow b5 f6 b5.size (by omega)
  have H6 := Lib.hid h6
  have Hrd6 := Lib.hid (Hrd5.out.grown f6 (fun g e => by injection e with e; omega))
  have W6 := Lib.hid (W5.out.beside f6 (by omega) hv3)
  clear h6 f6 b5 H5 Hrd5 W5
  go_wp2_with fail
  refine (rones_any g5 [186] 3 9 _ H6.out (by decide) (by decide) (by decide)).mono ?_
  unfold GotO
  rw [e4, e5]
  rintro e w7 ⟨rfl, h7, f7⟩
  have b7 := bgrow b6 f7 b6.size (by omega)
  have H7 := Lib.hid h7
  have Hrd7 := Lib.hid (Hrd6.out.grown f7 (fun g e => by injection e with e; omega))
  have W7 := Lib.hid (W6.out.beside f7 (by omega) hv3)
  clear h7 f7 b6 H6 Hrd6 W6
  go_wp2_with fail
  refine (rbit_ok g5 [186] 6 _ H7.out (by decide) (by decide)).mono ?_
  rintro e w8 ⟨rfl, h8, f8⟩
  rw [e6]
  have b8 := bgrow b7 f8 b7.size (by omega)
  have H8 := Lib.hid h8
  have Hrd8 := Lib.hid (Hrd7.out.grown f8 (fun g e => by injection e with e; omega))
  have W8 := Lib.hid (W7.out.beside f8 (by omega) hv3)
  clear h8 f8 b7 H7 Hrd7 W7
  go_wp2_with fail
  refine (at_any g5 [186] 7 _ _ H8.out).mono ?_
  rintro e w9 ⟨rfl, rfl⟩
  go_wp2_with fail
  refine (rclose_any g5 [186] 7 _ H8.out (by decide) (by decide)).mono ?_
  rintro e w9 ⟨rfl, f9, n9, h9⟩
  rw [e7]
  have b9 := bgrow b8 f9 b8.size (by omega)
  have H9 := Lib.hid h9
  have Hrd9 := Lib.hid (Hrd8.out.grown f9 (fun g e => by injection e with e; omega))
  have W9 := Lib.hid (W8.out.beside f9 (by omega) hv3)
  clear h9 f9 b8 H8 Hrd8 W8
  go_wp2_with fail
  refine (get_ok _ [1, 2, 3] 3 3 1 2 _ _ _ (new_rd w9 5 ([1, 2, 3].map bv)) rfl (by decide) (by decide) (by decide)).mono ?_
  rintro e w10 ⟨rfl, rfl⟩
  rw [e8]
  go_wp2_with fail
  refine (get_no _ 1 1 0 2 _ (by decide) (by decide) (by decide) (by decide)).mono ?_
  rintro e w10 ⟨rfl, rfl⟩
  go_wp2_with fail
  have hb11 : Below w9.heap.size w9 ((w9.alloc (.cells #[bv 1, bv 2, bv 3] 5)).alloc (.cells #[.int .u8 1] 5)) := (bl w9 _).alloc (by simp) _
  generalize (w9.alloc (.cells #[bv 1, bv 2, bv 3] 5)).alloc (.cells #[.int .u8 1] 5) = w11 at hb11 ⊢
  have b11 := bt b9 hb11
  have H11 := Lib.hid (H9.out.below hb11 H9.out.lt)
  have W11 := Lib.hid (W9.out.next hb11)
  have hrd11 := Hrd9.out.next hb11
  obtain ⟨b4, o4, rfl, _, _, _, hc4⟩ := hrd11.some (by decide)
  have c4 : w11.cell? ⟨b4, o4, none⟩ = some (.int .u8 186) := hc4 0 _ rfl
  clear hb11 b9 H9 Hrd9 W9 hrd11 hc4
  refine (len_any _ _ L7 _ W11.out).mono ?_
  rintro e w12 ⟨rfl, rfl⟩
  have hl7 : ((L7.length : Nat) : Int) = 7 := rfl
  rw [hl7]
  clear hl7
  go_wp2_with fail
  refine (right_any g5 [186] n9 false _ H11.out).mono ?_
  rintro e w12 ⟨rfl, rfl⟩
  go_wp2_with fail
  refine (put_any none [] 0 0 770 3 0 0 _ (.inl rfl) rfl (fun _ => ⟨rfl, rfl⟩) (by decide) (by decide) (by decide)).mono ?_
  rintro e w12 ⟨⟨v12, rfl, hown12⟩, hb12⟩
  rw [e9] at hown12
  have b12 := bt b11 hb12
  obtain ⟨A12, cap12, rfl, hrd12, _, _, hn12⟩ := own_rd hown12
  have cv : (convert 24 9 (.slice A12 3 cap12)).run Try.prog w12 = .ok (.string ⟨#[2, 3, 0]⟩) w12 := conv_bytes (l := [2, 3, 0]) (n := 3) rfl hrd12 hn12
  clear hb12 hown12 hrd12 hn12 b11 H11 W11 c4
  go_wp2_with fail
  clear cv
  have hl := b12.size
  refine (read_any _ [1, 2] 2 2 _ _ _ (new_rd w12 5 ([1, 2].map bv)) rfl (fun h => by cases h) (by decide)).mono ?_
  rintro e w13 ⟨g13, rfl, h13, _, hb13⟩
  have b13 := blk_bt b12 (by simpa using hb13)
  clear hb13
  go_wp2_with fail
  refine (left_any g13 [1, 2] 0 false _ h13 (by decide) (by decide)).mono ?_
  rintro e w14 ⟨rfl, k, rfl⟩
  have h16 : ((8 * ([1, 2] : List UInt8).length - 0 : Nat) : Int) = 16 := by decide
  rw [h16]
  go_wp2
  go_ret
  exact ⟨rfl, below_drewN b13 k⟩
end Bits
end Go.Proofs.Ytgncngpgodfijaa
