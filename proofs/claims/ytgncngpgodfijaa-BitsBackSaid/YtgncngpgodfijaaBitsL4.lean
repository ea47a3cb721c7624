/-
  The walk of the law BitsBack.
-/
import Derived.Test.YtgncngpgodfijaaBitsL
import Derived.Deep.RegionHeld3
import Derived.Deep.DeepCutAuto
namespace Go.Proofs.Ytgncngpgodfijaa
open Go.RowKit
set_option linter.unusedVariables false
namespace Bits

/-- a writer with the bits l and a reader of its bytes -/
structure BS (w0 : World) (g gr : Nat) (v : Value) (l : List Bool) (n : Nat) (w : World) : Prop where
  wb : WB w g v l
  rb : RB w gr (pack l) n false
  bel : Below w0.heap.size w0 w
  ne : gr ≠ g
  nv : v.ownBlock ≠ some gr
  hg : w0.heap.size ≤ g
  hr : w0.heap.size ≤ gr
section
variable {w0 w w' : World} {g gr n n' : Nat} {v : Value} {l : List Bool}
theorem BS.next (h : BS w0 g gr v l n w) (hb : Below w.heap.size w w') : BS w0 g gr v l n w' :=
  ⟨h.wb.next hb, h.rb.below hb h.rb.lt, _root_.Go.Proofs.Ytgncngpgodfijaa.bt h.bel hb, h.ne, h.nv, h.hg, h.hr⟩
theorem BS.drew (h : BS w0 g gr v l n w) : BS w0 g gr v l n w.drew := h.next (Below.refl _ _).drew
theorem BS.read (h : BS w0 g gr v l n w) (hg : w.grownBy w' (some gr)) (hr : RB w' gr (pack l) n' false) : BS w0 g gr v l n' w' :=
  ⟨h.wb.beside hg h.ne h.nv, hr, bgrow h.bel hg h.bel.size h.hr, h.ne, h.nv, h.hg, h.hr⟩
end
/-- what stands in a row from one on -/
theorem rest_of {a b c : List Bool} {n : Nat} (h : n = a.length) : ((a ++ b ++ c).drop n).take b.length = b := by
  subst h
  rw [List.append_assoc, List.drop_left, List.take_left]
theorem rest_lead {a c : List Bool} {n m : Nat} (h : n = a.length) : lead ((a ++ (List.replicate m true ++ [false]) ++ c).drop n) = m ∧ m < ((a ++ (List.replicate m true ++ [false]) ++ c).drop n).length := by
  subst h
  rw [List.append_assoc, List.drop_left, List.append_assoc]
  exact ⟨lead_ones m _, by simp⟩
theorem bitsOf_split (L : List Pt) (k : Nat) (h : k < L.length) : ∃ c, bitsOf L = bitsOf (L.take k) ++ partB L[k] ++ c := by
  refine ⟨bitsOf (L.drop (k + 1)), ?_⟩
  rw [← bitsOf_take L k h]
  unfold bitsOf
  rw [← List.flatMap_append, List.take_append_drop]

set_option maxRecDepth 100000 in
set_option maxHeartbeats 4000000 in
theorem lawBack_any (A : Option Addr) (L : List Pt) (n cap : Nat) (w : World) (hrd : RdL w 0 w.heap.size A (L.flatMap ptc)) (hp : ∀ p ∈ L, okPt p) (hl : L.length = n) (hn : n ≤ maxLen) :
    Calls Try.prog 4 #[.slice A n cap] w fun e w' => e = .returned (.bool true) ∧ Below w.heap.size w w' := by
  have HR := Lib.hid hrd
  have HP := Lib.hid hp
  have Hl := Lib.hid hl
  clear hrd hp hl
  unfold maxLen at hn
  by_cases h60 : n ≤ 60
  · have hd60 : decide ((60 : Int) < (n : Int)) = false := decide_eq_false (by omega)
    have hlen : (bitsOf L).length ≤ 65 * 60 := Nat.le_trans (bitsOf_len _) (by rw [Hl.out]; omega)
    have Hlen := Lib.hid hlen
    clear hlen
    go_enter Try.func4, Try.ntmps4
    go_wp2
    have ht0 := LS.new w
    have Ht0 := Lib.hid ht0
    clear ht0
    go_loopw [4] (fun i wr => ∃ (k : Nat) (v : Value), k ≤ n ∧ i = .int .i64 (k : Int) ∧ LS w w.heap.size v (.slice none 0 0) (bitsOf (L.take k)) [] wr) (fun i _ => n - (intOf i).toNat)
    case atStart => exact ⟨0, _, by omega, rfl, Ht0.out⟩
    case round =>
      clear Ht0
      obtain ⟨k, v, hk, rfl, hls⟩ := hrel
      have Hls := Lib.hid hls
      have hgl := hls.wb.blk.lt
      clear hls
      by_cases hlt : k < n
      · have hkl : k < L.length := by rw [Hl.out]; exact hlt
        obtain ⟨b, off, rfl, _, hbw, _, _⟩ := HR.out.some (by rw [flatMap_len ptc 2 ptc_len]; omega)
        have hc := HR.out.elem ptc 2 ptc_len hkl
        have hk0 : w.cell? ⟨b, off + k * 2, none⟩ = some (.int .u8 (L[k].sz : Int)) := hc 0 _ (by decide) rfl
        have hk1 : w.cell? ⟨b, off + k * 2 + 1, none⟩ = some (.int .u64 (L[k].x : Int)) := hc 1 _ (by decide) rfl
        have hop := HP.out L[k] (List.getElem_mem _)
        have htk := bitsOf_take L k hkl
        have hll : (bitsOf (L.take k)).length ≤ 4000 := Nat.le_trans (bitsOf_len _) (by rw [List.length_take]; omega)
        have Htk := Lib.hid htk
        have Hll := Lib.hid hll
        clear hc htk hll
        generalize L[k] = p at *
        obtain ⟨sz, x⟩ := p
        obtain ⟨hsz, hx⟩ := hop
        dsimp only at hsz hx hk0 hk1
        have c0 := (Hls.out.bel.cell (p := ⟨b, off + k * 2, none⟩) hbw).trans hk0
        have c1 := (Hls.out.bel.cell (p := ⟨b, off + k * 2 + 1, none⟩) hbw).trans hk1
        clear hk0 hk1
        have Hx := Lib.hid hx
        clear hx
        generalize bitsOf (L.take k) = l at *
        obtain ⟨kk, hkk⟩ : ∃ kk, kk = sz % 66 := ⟨_, rfl⟩
        have hkk2 : ((sz : Int) % 66) = (kk : Int) := by omega
        have Hkk := Lib.hid hkk
        clear hkk
        by_cases h65 : kk < 65
        · have hpb : partB ⟨sz, x⟩ = numB x kk := by unfold partB; rw [← Hkk.out, if_pos h65]
          rw [hpb] at Htk
          clear hpb
          go_wp2_with fail
          refine (num_any w.heap.size v l x kk _ Hls.out.wb Hx.out (by omega) (by have := Hll.out; omega)).mono ?_
          rintro e w2 ⟨rfl, v2, hwb2, hwf2⟩
          rw [← Htk.out] at hwb2
          have Hls2 := Lib.hid (Hls.out.write hwb2 hwf2)
          clear hwb2 hwf2 Hls c0 c1
          go_wp2
          go_roundw
          case rel => exact ⟨k + 1, v2, by omega, by go_num, Hls2.out⟩
          case measure => simp [intOf]; omega
        · obtain ⟨nn, hnn⟩ : ∃ nn, nn = x % 50 := ⟨_, rfl⟩
          have hnn2 : ((x : Int) % 50) = (nn : Int) := by omega
          have hpb : partB ⟨sz, x⟩ = List.replicate nn true ++ [false] := by unfold partB; rw [← Hkk.out, if_neg h65, ← hnn]
          have hnl : nn ≤ 49 := by omega
          rw [hpb] at Htk
          clear hpb hnn
          go_wp2_with fail
          refine (ones_any w.heap.size v l nn _ Hls.out.wb (by omega) (by have := Hll.out; omega)).mono ?_
          rintro e w2 ⟨rfl, v2, hwb2, hwf2⟩
          rw [← Htk.out] at hwb2
          have Hls2 := Lib.hid (Hls.out.write hwb2 hwf2)
          clear hwb2 hwf2 Hls c0 c1
          go_wp2
          go_roundw
          case rel => exact ⟨k + 1, v2, by omega, by go_num, Hls2.out⟩
          case measure => simp [intOf]; omega
      · obtain rfl : k = n := by omega
        have e := List.take_of_length_le (show L.length ≤ k by rw [Hl.out]; exact Nat.le_refl _)
        have hls := Hls.out
        rw [e] at hls
        clear e Hls
        have Hls := Lib.hid hls
        clear hls
        go_wp2_with fail
        refine (bytes_any _ v _ _ Hls.out.wb (by have := Hlen.out; omega)).mono ?_
        rintro e w3 ⟨⟨v3, rfl, hown3⟩, hb3⟩
        rw [pack_len] at hown3
        obtain ⟨A3, cap3, rfl, hrd3, _, _, hn3⟩ := own_rd hown3
        have Hls3 := Lib.hid (Hls.out.next hb3)
        have Hrd3 := Lib.hid hrd3
        have Hn3 := Lib.hid hn3
        have hnb : nb (bitsOf L).length ≤ 1000 := by have := Hlen.out; unfold nb; omega
        have Hnb := Lib.hid hnb
        clear hown3 hb3 hrd3 hn3 Hls hnb
        go_wp2_with fail
        refine (read_any A3 (pack (bitsOf L)) _ cap3 _ _ _ Hrd3.out (pack_len _) Hn3.out (by have := Hnb.out; omega)).mono ?_
        rintro e w5 ⟨gr, rfl, h5, hg5, hb5⟩
        have hbs : BS w w.heap.size gr v (bitsOf L) 0 w5 := ⟨Hls3.out.wb.next hb5, h5, _root_.Go.Proofs.Ytgncngpgodfijaa.bt Hls3.out.bel hb5, by have := Hls3.out.wb.blk.lt; omega, fun e => by have := (own_lt Hls3.out.wb.own e).2; omega, Nat.le_refl _, by have := Hls3.out.bel.size; omega⟩
        have Hbs := Lib.hid hbs
        clear h5 hg5 hb5 Hls3 Hrd3 Hn3 hbs hgl
        have hpn : ∀ w : World, (binOp .eql 39 (.pointer (some ⟨gr, 0, none⟩)) (.pointer none)).run Try.prog w = .ok (.bool false) w := fun w => by kernel_rfl
        go_wp2
        go_loopw [7] (fun i wr => ∃ j : Nat, j ≤ k ∧ i = .int .i64 (j : Int) ∧ BS w w.heap.size gr v (bitsOf L) (bitsOf (L.take j)).length wr) (fun i _ => k - (intOf i).toNat)
        case atStart => exact ⟨0, by omega, rfl, Hbs.out⟩
        case round =>
          clear Hbs
          obtain ⟨j, hj, rfl, hbs⟩ := hrel
          have Hbs := Lib.hid hbs
          clear hbs
          by_cases hlt : j < k
          · have hkl : j < L.length := by rw [Hl.out]; exact hlt
            obtain ⟨b, off, rfl, _, hbw, _, _⟩ := HR.out.some (by rw [flatMap_len ptc 2 ptc_len]; omega)
            have hc := HR.out.elem ptc 2 ptc_len hkl
            have hk0 : w.cell? ⟨b, off + j * 2, none⟩ = some (.int .u8 (L[j].sz : Int)) := hc 0 _ (by decide) rfl
            have hk1 : w.cell? ⟨b, off + j * 2 + 1, none⟩ = some (.int .u64 (L[j].x : Int)) := hc 1 _ (by decide) rfl
            have hop := HP.out L[j] (List.getElem_mem _)
            have htk := bitsOf_take L j hkl
            obtain ⟨c, hsp⟩ := bitsOf_split L j hkl
            have hrow : row (pack (bitsOf L)) = bitsOf (L.take j) ++ partB L[j] ++ (c ++ List.replicate (8 * nb (bitsOf L).length - (bitsOf L).length) false) := by rw [row_pack, ← List.append_assoc, ← hsp]
            have hlast : (bitsOf (L.take j)).length + (partB L[j]).length ≤ 8 * (pack (bitsOf L)).length := by
              have h1 := congrArg List.length hsp
              rw [List.length_append, List.length_append] at h1
              rw [pack_len]
              unfold nb
              omega
            have hpk : (pack (bitsOf L)).length ≤ 1000 := by rw [pack_len]; exact Hnb.out
            have Hrow := Lib.hid hrow
            have Htk := Lib.hid htk
            have Hlast := Lib.hid hlast
            have Hpk := Lib.hid hpk
            clear hc htk hrow hsp hlast hpk
            generalize L[j] = p at *
            obtain ⟨sz, x⟩ := p
            obtain ⟨hsz, hx⟩ := hop
            dsimp only at hsz hx hk0 hk1
            have c0 := (Hbs.out.bel.cell (p := ⟨b, off + j * 2, none⟩) hbw).trans hk0
            have c1 := (Hbs.out.bel.cell (p := ⟨b, off + j * 2 + 1, none⟩) hbw).trans hk1
            have Hk1 := Lib.hid hk1
            clear hk0 hk1
            have Hx := Lib.hid hx
            clear hx
            obtain ⟨kk, hkk⟩ : ∃ kk, kk = sz % 66 := ⟨_, rfl⟩
            have hkk2 : ((sz : Int) % 66) = (kk : Int) := by omega
            have Hkk := Lib.hid hkk
            clear hkk
            have hj0 : (j : Int) < (k : Int) := by omega
            by_cases h65 : kk < 65
            · have hpb : partB ⟨sz, x⟩ = numB x kk := by unfold partB; rw [← Hkk.out, if_pos h65]
              rw [hpb] at Htk Hrow Hlast
              clear hpb
              have d65 : decide ((kk : Int) < 65) = true := decide_eq_true (by omega)
              have e65 : ((kk : Int) == 65) = false := by rw [beq_eq_false_iff_ne]; omega
              have hval : val (((row (pack (bitsOf L))).drop (bitsOf (L.take j)).length).take kk) = val (numB x kk) := by
                have := rest_of (a := bitsOf (L.take j)) (b := numB x kk) (c := c ++ List.replicate (8 * nb (bitsOf L).length - (bitsOf L).length) false) rfl
                rw [numB_len] at this
                rw [Hrow.out, this]
              have Hval := Lib.hid hval
              clear hval
              go_upto_region 18 with (fail)
              go_cut [8, 92] (fun _ s wx => s = .bool false ∧ BS w w.heap.size gr v (bitsOf L) (bitsOf (L.take (j + 1))).length wx)
              case first =>
                have HD := Lib.hid Hbs.out.drew
                refine wp_region_held_drew (S := fun w' => w'.cell? ⟨b, off + j * 2 + 1, none⟩ = some (.int .u64 (x : Int))) (by kernel_rfl) c1 (fun hHeld => ?_)
                refine wpAnyH_take (i := 0) (oi := ⟨some 61, _, _, _, _, _⟩) (v := ?_) rfl (by kernel_rfl) (by kernel_rfl) (by kernel_rfl) (fun _ _ _ h => h) (Or.inl ⟨by rfl, ?_⟩) (by assumption) ?_
                rotate_left
                · (intro w hSw; (try dsimp only at hSw); go_simp; try (with_reducible rfl))
                try simp only [Act.put, List.setIfInBounds_toArray, List.set_cons_zero, List.set_cons_succ]
                refine wpAnyH_take (i := 1) (oi := ⟨some 62, _, _, _, _, _⟩) (v := ?_) rfl (by kernel_rfl) (by kernel_rfl) (by kernel_rfl) (fun _ _ _ h => h) (Or.inl ⟨by rfl, ?_⟩) (by assumption) ?_
                rotate_left
                · (intro w hSw; (try dsimp only at hSw); go_simp; try (with_reducible rfl))
                try simp only [Act.put, List.setIfInBounds_toArray, List.set_cons_zero, List.set_cons_succ]
                refine wpAnyH_take (i := 2) (oi := ⟨some 63, _, _, _, _, _⟩) (v := ?_) rfl (by kernel_rfl) (by kernel_rfl) (by kernel_rfl) (fun _ _ _ h => h) (Or.inl ⟨by rfl, ?_⟩) (by assumption) ?_
                rotate_left
                · (intro w hSw; (try dsimp only at hSw); go_simp; try (with_reducible rfl))
                try simp only [Act.put, List.setIfInBounds_toArray, List.set_cons_zero, List.set_cons_succ]
                refine wpAnyH_take (i := 3) (oi := ⟨some 64, _, _, _, _, _⟩) (v := ?_) rfl (by kernel_rfl) (by kernel_rfl) (by kernel_rfl) (fun _ _ _ h => h) (Or.inl ⟨by rfl, ?_⟩) (by assumption) ?_
                rotate_left
                · (intro w hSw; (try dsimp only at hSw); go_simp; try (with_reducible rfl))
                try simp only [Act.put, List.setIfInBounds_toArray, List.set_cons_zero, List.set_cons_succ]
                refine wpAnyH_take (i := 4) (oi := ⟨some 65, _, _, _, _, _⟩) (v := ?_) rfl (by kernel_rfl) (by kernel_rfl) (by kernel_rfl) (fun _ _ _ h => h) (Or.inl ⟨by rfl, ?_⟩) (by assumption) ?_
                rotate_left
                · (intro w hSw; (try dsimp only at hSw); go_simp; try (with_reducible rfl))
                try simp only [Act.put, List.setIfInBounds_toArray, List.set_cons_zero, List.set_cons_succ]
                refine wpAnyH_take (i := 6) (oi := ⟨some 67, _, _, _, _, _⟩) (v := ?_) rfl (by kernel_rfl) (by kernel_rfl) (by kernel_rfl) (fun _ _ _ h => h) (Or.inl ⟨by rfl, ?_⟩) (by assumption) ?_
                rotate_left
                · (intro w hSw; (try dsimp only at hSw); go_simp; try (with_reducible rfl))
                try simp only [Act.put, List.setIfInBounds_toArray, List.set_cons_zero, List.set_cons_succ]
                refine wpAnyH_take (i := 7) (oi := ⟨some 68, _, _, _, _, _⟩) (v := ?_) rfl (by kernel_rfl) (by kernel_rfl) (by kernel_rfl) (fun _ _ _ h => h) (Or.inl ⟨by rfl, ?_⟩) (by assumption) ?_
                rotate_left
                · (intro w hSw; (try dsimp only at hSw); go_simp; try (with_reducible rfl))
                try simp only [Act.put, List.setIfInBounds_toArray, List.set_cons_zero, List.set_cons_succ]
                refine wpAnyH_take (i := 8) (oi := ⟨some 69, _, _, _, _, _⟩) (v := ?_) rfl (by kernel_rfl) (by kernel_rfl) (by kernel_rfl) (fun _ _ _ h => h) (Or.inl ⟨by rfl, ?_⟩) (by assumption) ?_
                rotate_left
                · (intro w hSw; (try dsimp only at hSw); go_simp; try (with_reducible rfl))
                try simp only [Act.put, List.setIfInBounds_toArray, List.set_cons_zero, List.set_cons_succ]
                refine wpAnyH_take (i := 9) (oi := ⟨some 70, _, _, _, _, _⟩) (v := ?_) rfl (by kernel_rfl) (by kernel_rfl) (by kernel_rfl) (fun _ _ _ h => h) (Or.inl ⟨by rfl, ?_⟩) (by assumption) ?_
                rotate_left
                · (intro w hSw; (try dsimp only at hSw); go_simp; try (with_reducible rfl))
                try simp only [Act.put, List.setIfInBounds_toArray, List.set_cons_zero, List.set_cons_succ]
                refine wpAnyH_take (i := 10) (oi := ⟨some 71, _, _, _, _, _⟩) (v := ?_) rfl (by kernel_rfl) (by kernel_rfl) (by kernel_rfl) (fun _ _ _ h => h) (Or.inl ⟨by rfl, ?_⟩) (by assumption) ?_
                rotate_left
                · (intro w hSw; (try dsimp only at hSw); go_simp; try (with_reducible rfl))
                try simp only [Act.put, List.setIfInBounds_toArray, List.set_cons_zero, List.set_cons_succ]
                refine wpAnyH_take (i := 11) (oi := ⟨some 72, _, _, _, _, _⟩) (v := ?_) rfl (by kernel_rfl) (by kernel_rfl) (by kernel_rfl) (fun _ _ _ h => h) (Or.inl ⟨by rfl, ?_⟩) (by assumption) ?_
                rotate_left
                · (intro w hSw; (try dsimp only at hSw); go_simp; try (with_reducible rfl))
                try simp only [Act.put, List.setIfInBounds_toArray, List.set_cons_zero, List.set_cons_succ]
                refine wpAnyH_ready (rs := [5]) (by kernel_rfl) (by simp) ?_
                refine AllReadyH.cons (o := ⟨some 66, _, _, _, _, _⟩) rfl (fun K hK => ?_) ?_
                · go_simp
                  refine (rnum_ok gr (pack (bitsOf L)) _ kk _ HD.out.rb (by omega) (by have := Hlast.out; rw [numB_len] at this; exact this) (by have := Hpk.out; omega)).mono ?_; rintro e w2 ⟨rfl, hrb2, hg2⟩; rw [Hval.out]; have HB := Lib.hid (HD.out.read hg2 hrb2)
                  go_wp2_with fail
                  refine hK.out _ _ ((HB.out.bel.cell (p := ⟨b, off + j * 2 + 1, none⟩) hbw).trans Hk1.out) (fun hHeld => ?_)
                  clear hK K
                  try simp only [Act.put, List.setIfInBounds_toArray, List.set_cons_zero, List.set_cons_succ]
                  refine wpAnyH_ready (rs := [12]) (by kernel_rfl) (by simp) ?_
                  refine AllReadyH.cons (o := ⟨some 73, _, _, _, _, _⟩) rfl (fun K hK => ?_) ?_
                  · go_simp
                    refine (fnum_any kk x _ Hx.out (by omega)).mono ?_; rintro e w3 ⟨⟨v3, rfl, hown3⟩, hb3⟩; rw [lv_len, numB_len] at hown3; obtain ⟨A3, cap3, rfl, hrd3, _, _, hn3⟩ := own_rd hown3; have HZ := Lib.hid (HB.out.next hb3); have hlo := HB.out.rb.lt; have HrdV := Lib.hid hrd3; clear hown3 hrd3 hb3
                    go_wp2_with fail
                    refine hK.out _ _ ((HZ.out.bel.cell (p := ⟨b, off + j * 2 + 1, none⟩) hbw).trans Hk1.out) (fun hHeld => ?_)
                    clear hK K
                    try simp only [Act.put, List.setIfInBounds_toArray, List.set_cons_zero, List.set_cons_succ]
                    refine wpAnyH_ready (rs := [13]) (by kernel_rfl) (by simp) ?_
                    refine AllReadyH.cons (o := ⟨some 74, _, _, _, _, _⟩) rfl (fun K hK => ?_) ?_
                    · go_simp
                      refine (fvalue_any _ (numB x kk) kk _ _ _ _ HrdV.out (numB_len x kk) (by omega)).mono ?_; rintro e w4 ⟨rfl, rfl⟩
                      go_wp2_with fail
                      refine hK.out _ _ ((HZ.out.bel.cell (p := ⟨b, off + j * 2 + 1, none⟩) hbw).trans Hk1.out) (fun hHeld => ?_)
                      clear hK K
                      try simp only [Act.put, List.setIfInBounds_toArray, List.set_cons_zero, List.set_cons_succ]
                      refine wpAnyH_take (i := 14) (oi := ⟨some 75, _, _, _, _, _⟩) (v := ?_) rfl (by kernel_rfl) (by kernel_rfl) (by kernel_rfl) (fun _ _ _ h => h) (Or.inl ⟨by rfl, ?_⟩) (by assumption) ?_
                      rotate_left
                      · (intro w hSw; (try dsimp only at hSw); go_simp; try (with_reducible rfl))
                      try simp only [Act.put, List.setIfInBounds_toArray, List.set_cons_zero, List.set_cons_succ]
                      refine wpAnyH_take (i := 15) (oi := ⟨some 76, _, _, _, _, _⟩) (v := ?_) rfl (by kernel_rfl) (by kernel_rfl) (by kernel_rfl) (fun _ _ _ h => h) (Or.inl ⟨by rfl, ?_⟩) (by assumption) ?_
                      rotate_left
                      · (intro w hSw; (try dsimp only at hSw); go_simp; try (with_reducible rfl))
                      try simp only [Act.put, List.setIfInBounds_toArray, List.set_cons_zero, List.set_cons_succ]
                      refine wpAnyH_take (i := 16) (oi := ⟨some 77, _, _, _, _, _⟩) (v := ?_) rfl (by kernel_rfl) (by kernel_rfl) (by kernel_rfl) (fun _ _ _ h => h) (Or.inl ⟨by rfl, ?_⟩) (by assumption) ?_
                      rotate_left
                      · (intro w hSw; (try dsimp only at hSw); go_simp; try (with_reducible rfl))
                      try simp only [Act.put, List.setIfInBounds_toArray, List.set_cons_zero, List.set_cons_succ]
                      refine wpAnyH_take (i := 17) (oi := ⟨some 78, _, _, _, _, _⟩) (v := ?_) rfl (by kernel_rfl) (by kernel_rfl) (by kernel_rfl) (fun _ _ _ h => h) (Or.inl ⟨by rfl, ?_⟩) (by assumption) ?_
                      rotate_left
                      · (intro w hSw; (try dsimp only at hSw); go_simp; try (with_reducible rfl))
                      try simp only [Act.put, List.setIfInBounds_toArray, List.set_cons_zero, List.set_cons_succ]
                      refine wpAnyH_take (i := 18) (oi := ⟨some 79, _, _, _, _, _⟩) (v := ?_) rfl (by kernel_rfl) (by kernel_rfl) (by kernel_rfl) (fun _ _ _ h => h) (Or.inl ⟨by rfl, ?_⟩) (by assumption) ?_
                      rotate_left
                      · (intro w hSw; (try dsimp only at hSw); go_simp; try (with_reducible rfl))
                      try simp only [Act.put, List.setIfInBounds_toArray, List.set_cons_zero, List.set_cons_succ]
                      refine wpAnyH_take (i := 19) (oi := ⟨some 80, _, _, _, _, _⟩) (v := ?_) rfl (by kernel_rfl) (by kernel_rfl) (by kernel_rfl) (fun _ _ _ h => h) (Or.inl ⟨by rfl, ?_⟩) (by assumption) ?_
                      rotate_left
                      · (intro w hSw; (try dsimp only at hSw); go_simp; try (with_reducible rfl))
                      try simp only [Act.put, List.setIfInBounds_toArray, List.set_cons_zero, List.set_cons_succ]
                      refine wpAnyH_take (i := 20) (oi := ⟨some 81, _, _, _, _, _⟩) (v := undef) rfl (by kernel_rfl) (by kernel_rfl) (by kernel_rfl) (fun _ _ _ h => h) (Or.inr ⟨by rfl, rfl⟩) (by assumption) ?_
                      try simp only [Act.put, List.setIfInBounds_toArray, List.set_cons_zero, List.set_cons_succ]
                      refine wpAnyH_take (i := 21) (oi := ⟨some 82, _, _, _, _, _⟩) (v := undef) rfl (by kernel_rfl) (by kernel_rfl) (by kernel_rfl) (fun _ _ _ h => h) (Or.inr ⟨by rfl, rfl⟩) (by assumption) ?_
                      try simp only [Act.put, List.setIfInBounds_toArray, List.set_cons_zero, List.set_cons_succ]
                      refine wpAnyH_take (i := 22) (oi := ⟨some 83, _, _, _, _, _⟩) (v := undef) rfl (by kernel_rfl) (by kernel_rfl) (by kernel_rfl) (fun _ _ _ h => h) (Or.inr ⟨by rfl, rfl⟩) (by assumption) ?_
                      try simp only [Act.put, List.setIfInBounds_toArray, List.set_cons_zero, List.set_cons_succ]
                      refine wpAnyH_take (i := 23) (oi := ⟨some 84, _, _, _, _, _⟩) (v := undef) rfl (by kernel_rfl) (by kernel_rfl) (by kernel_rfl) (fun _ _ _ h => h) (Or.inr ⟨by rfl, rfl⟩) (by assumption) ?_
                      try simp only [Act.put, List.setIfInBounds_toArray, List.set_cons_zero, List.set_cons_succ]
                      refine wpAnyH_take (i := 24) (oi := ⟨some 85, _, _, _, _, _⟩) (v := undef) rfl (by kernel_rfl) (by kernel_rfl) (by kernel_rfl) (fun _ _ _ h => h) (Or.inr ⟨by rfl, rfl⟩) (by assumption) ?_
                      try simp only [Act.put, List.setIfInBounds_toArray, List.set_cons_zero, List.set_cons_succ]
                      refine wpAnyH_take (i := 25) (oi := ⟨some 86, _, _, _, _, _⟩) (v := undef) rfl (by kernel_rfl) (by kernel_rfl) (by kernel_rfl) (fun _ _ _ h => h) (Or.inr ⟨by rfl, rfl⟩) (by assumption) ?_
                      try simp only [Act.put, List.setIfInBounds_toArray, List.set_cons_zero, List.set_cons_succ]
                      refine wpAnyH_take (i := 26) (oi := ⟨some 87, _, _, _, _, _⟩) (v := undef) rfl (by kernel_rfl) (by kernel_rfl) (by kernel_rfl) (fun _ _ _ h => h) (Or.inr ⟨by rfl, rfl⟩) (by assumption) ?_
                      try simp only [Act.put, List.setIfInBounds_toArray, List.set_cons_zero, List.set_cons_succ]
                      refine wpAnyH_take (i := 27) (oi := ⟨some 88, _, _, _, _, _⟩) (v := undef) rfl (by kernel_rfl) (by kernel_rfl) (by kernel_rfl) (fun _ _ _ h => h) (Or.inr ⟨by rfl, rfl⟩) (by assumption) ?_
                      try simp only [Act.put, List.setIfInBounds_toArray, List.set_cons_zero, List.set_cons_succ]
                      refine wpAnyH_take (i := 28) (oi := ⟨some 89, _, _, _, _, _⟩) (v := undef) rfl (by kernel_rfl) (by kernel_rfl) (by kernel_rfl) (fun _ _ _ h => h) (Or.inr ⟨by rfl, rfl⟩) (by assumption) ?_
                      try simp only [Act.put, List.setIfInBounds_toArray, List.set_cons_zero, List.set_cons_succ]
                      refine wpAnyH_take (i := 29) (oi := ⟨some 90, _, _, _, _, _⟩) (v := undef) rfl (by kernel_rfl) (by kernel_rfl) (by kernel_rfl) (fun _ _ _ h => h) (Or.inr ⟨by rfl, rfl⟩) (by assumption) ?_
                      try simp only [Act.put, List.setIfInBounds_toArray, List.set_cons_zero, List.set_cons_succ]
                      refine wpAnyH_take (i := 30) (oi := ⟨some 91, _, _, _, _, _⟩) (v := ?_) rfl (by kernel_rfl) (by kernel_rfl) (by kernel_rfl) (fun _ _ _ h => h) (Or.inl ⟨by rfl, ?_⟩) (by assumption) ?_
                      rotate_left
                      · (intro w hSw; (try dsimp only at hSw); go_simp; try (with_reducible rfl))
                      try simp only [Act.put, List.setIfInBounds_toArray, List.set_cons_zero, List.set_cons_succ]
                      refine wpAnyH_take (i := 31) (oi := ⟨some 92, _, _, _, _, _⟩) (v := ?_) rfl (by kernel_rfl) (by kernel_rfl) (by kernel_rfl) (fun _ _ _ h => h) (Or.inl ⟨by rfl, ?_⟩) (by assumption) ?_
                      rotate_left
                      · (intro w hSw; (try dsimp only at hSw); go_simp; try (with_reducible rfl))
                      try simp only [Act.put, List.setIfInBounds_toArray, List.set_cons_zero, List.set_cons_succ]
                      refine wpAnyH_done (by kernel_rfl) ?_ _
                      go_wp2_with fail
                      go_meet
                      exact ⟨rfl, by rw [Htk.out, List.length_append, numB_len]; exact HZ.out⟩
                    exact AllReadyH.nil
                  exact AllReadyH.nil
                exact AllReadyH.nil
              case rest =>
                obtain ⟨rfl, hbs2⟩ := hcut
                go_wp2
                go_roundw
                case rel => exact ⟨j + 1, by omega, by go_num, hbs2⟩
                case measure => simp [intOf]; omega
            · obtain rfl : kk = 65 := by omega
              obtain ⟨nn, hnn⟩ : ∃ nn, nn = x % 50 := ⟨_, rfl⟩
              have hnn2 : ((x : Int) % 50) = (nn : Int) := by omega
              have hpb : partB ⟨sz, x⟩ = List.replicate nn true ++ [false] := by unfold partB; rw [← Hkk.out, if_neg h65, ← hnn]
              have hnl : nn ≤ 49 := by omega
              rw [hpb] at Htk Hrow Hlast
              clear hpb hnn
              obtain ⟨hval, hval2⟩ := rest_lead (a := bitsOf (L.take j)) (c := c ++ List.replicate (8 * nb (bitsOf L).length - (bitsOf L).length) false) (m := nn) rfl
              rw [← Hrow.out] at hval hval2
              have hok : onesOk ((row (pack (bitsOf L))).drop (bitsOf (L.take j)).length) 49 = true := by
                unfold onesOk
                rw [hval, decide_eq_true hval2, decide_eq_true hnl]
                rfl
              have Hval := Lib.hid hval
              have Hok := Lib.hid hok
              have ht50 : (x : Int).tmod 50 = (nn : Int) := by rw [Int.tmod_eq_emod_of_nonneg (by omega)]; exact hnn2
              have hw50 : IntKind.u64.wrap ((x : Int) % 50) = (nn : Int) := by rw [hnn2, IntKind.wrap_u64]; omega
              have hw51 : IntKind.i64.wrap (nn : Int) = (nn : Int) := IntWalk.i64_in _ (by omega)
              clear hval hval2 hok
              go_upto_region 18 with (fail)
              go_cut [8, 92] (fun _ s wx => s = .bool false ∧ BS w w.heap.size gr v (bitsOf L) (bitsOf (L.take (j + 1))).length wx)
              case first =>
                have HD := Lib.hid Hbs.out.drew
                refine wp_region_held_drew (S := fun w' => w'.cell? ⟨b, off + j * 2 + 1, none⟩ = some (.int .u64 (x : Int))) (by kernel_rfl) c1 (fun hHeld => ?_)
                refine wpAnyH_take (i := 0) (oi := ⟨some 61, _, _, _, _, _⟩) (v := ?_) rfl (by kernel_rfl) (by kernel_rfl) (by kernel_rfl) (fun _ _ _ h => h) (Or.inl ⟨by rfl, ?_⟩) (by assumption) ?_
                rotate_left
                · (intro w hSw; (try dsimp only at hSw); go_simp; try (with_reducible rfl))
                try simp only [Act.put, List.setIfInBounds_toArray, List.set_cons_zero, List.set_cons_succ]
                refine wpAnyH_take (i := 1) (oi := ⟨some 62, _, _, _, _, _⟩) (v := ?_) rfl (by kernel_rfl) (by kernel_rfl) (by kernel_rfl) (fun _ _ _ h => h) (Or.inl ⟨by rfl, ?_⟩) (by assumption) ?_
                rotate_left
                · (intro w hSw; (try dsimp only at hSw); go_simp; try (with_reducible rfl))
                try simp only [Act.put, List.setIfInBounds_toArray, List.set_cons_zero, List.set_cons_succ]
                refine wpAnyH_take (i := 2) (oi := ⟨some 63, _, _, _, _, _⟩) (v := ?_) rfl (by kernel_rfl) (by kernel_rfl) (by kernel_rfl) (fun _ _ _ h => h) (Or.inl ⟨by rfl, ?_⟩) (by assumption) ?_
                rotate_left
                · (intro w hSw; (try dsimp only at hSw); go_simp; try (with_reducible rfl))
                try simp only [Act.put, List.setIfInBounds_toArray, List.set_cons_zero, List.set_cons_succ]
                refine wpAnyH_take (i := 3) (oi := ⟨some 64, _, _, _, _, _⟩) (v := undef) rfl (by kernel_rfl) (by kernel_rfl) (by kernel_rfl) (fun _ _ _ h => h) (Or.inr ⟨by rfl, rfl⟩) (by assumption) ?_
                try simp only [Act.put, List.setIfInBounds_toArray, List.set_cons_zero, List.set_cons_succ]
                refine wpAnyH_take (i := 4) (oi := ⟨some 65, _, _, _, _, _⟩) (v := undef) rfl (by kernel_rfl) (by kernel_rfl) (by kernel_rfl) (fun _ _ _ h => h) (Or.inr ⟨by rfl, rfl⟩) (by assumption) ?_
                try simp only [Act.put, List.setIfInBounds_toArray, List.set_cons_zero, List.set_cons_succ]
                refine wpAnyH_take (i := 5) (oi := ⟨some 66, _, _, _, _, _⟩) (v := undef) rfl (by kernel_rfl) (by kernel_rfl) (by kernel_rfl) (fun _ _ _ h => h) (Or.inr ⟨by rfl, rfl⟩) (by assumption) ?_
                try simp only [Act.put, List.setIfInBounds_toArray, List.set_cons_zero, List.set_cons_succ]
                refine wpAnyH_take (i := 6) (oi := ⟨some 67, _, _, _, _, _⟩) (v := undef) rfl (by kernel_rfl) (by kernel_rfl) (by kernel_rfl) (fun _ _ _ h => h) (Or.inr ⟨by rfl, rfl⟩) (by assumption) ?_
                try simp only [Act.put, List.setIfInBounds_toArray, List.set_cons_zero, List.set_cons_succ]
                refine wpAnyH_take (i := 7) (oi := ⟨some 68, _, _, _, _, _⟩) (v := undef) rfl (by kernel_rfl) (by kernel_rfl) (by kernel_rfl) (fun _ _ _ h => h) (Or.inr ⟨by rfl, rfl⟩) (by assumption) ?_
                try simp only [Act.put, List.setIfInBounds_toArray, List.set_cons_zero, List.set_cons_succ]
                refine wpAnyH_take (i := 8) (oi := ⟨some 69, _, _, _, _, _⟩) (v := undef) rfl (by kernel_rfl) (by kernel_rfl) (by kernel_rfl) (fun _ _ _ h => h) (Or.inr ⟨by rfl, rfl⟩) (by assumption) ?_
                try simp only [Act.put, List.setIfInBounds_toArray, List.set_cons_zero, List.set_cons_succ]
                refine wpAnyH_take (i := 9) (oi := ⟨some 70, _, _, _, _, _⟩) (v := undef) rfl (by kernel_rfl) (by kernel_rfl) (by kernel_rfl) (fun _ _ _ h => h) (Or.inr ⟨by rfl, rfl⟩) (by assumption) ?_
                try simp only [Act.put, List.setIfInBounds_toArray, List.set_cons_zero, List.set_cons_succ]
                refine wpAnyH_take (i := 10) (oi := ⟨some 71, _, _, _, _, _⟩) (v := undef) rfl (by kernel_rfl) (by kernel_rfl) (by kernel_rfl) (fun _ _ _ h => h) (Or.inr ⟨by rfl, rfl⟩) (by assumption) ?_
                try simp only [Act.put, List.setIfInBounds_toArray, List.set_cons_zero, List.set_cons_succ]
                refine wpAnyH_take (i := 11) (oi := ⟨some 72, _, _, _, _, _⟩) (v := undef) rfl (by kernel_rfl) (by kernel_rfl) (by kernel_rfl) (fun _ _ _ h => h) (Or.inr ⟨by rfl, rfl⟩) (by assumption) ?_
                try simp only [Act.put, List.setIfInBounds_toArray, List.set_cons_zero, List.set_cons_succ]
                refine wpAnyH_take (i := 12) (oi := ⟨some 73, _, _, _, _, _⟩) (v := undef) rfl (by kernel_rfl) (by kernel_rfl) (by kernel_rfl) (fun _ _ _ h => h) (Or.inr ⟨by rfl, rfl⟩) (by assumption) ?_
                try simp only [Act.put, List.setIfInBounds_toArray, List.set_cons_zero, List.set_cons_succ]
                refine wpAnyH_take (i := 13) (oi := ⟨some 74, _, _, _, _, _⟩) (v := undef) rfl (by kernel_rfl) (by kernel_rfl) (by kernel_rfl) (fun _ _ _ h => h) (Or.inr ⟨by rfl, rfl⟩) (by assumption) ?_
                try simp only [Act.put, List.setIfInBounds_toArray, List.set_cons_zero, List.set_cons_succ]
                refine wpAnyH_take (i := 14) (oi := ⟨some 75, _, _, _, _, _⟩) (v := undef) rfl (by kernel_rfl) (by kernel_rfl) (by kernel_rfl) (fun _ _ _ h => h) (Or.inr ⟨by rfl, rfl⟩) (by assumption) ?_
                try simp only [Act.put, List.setIfInBounds_toArray, List.set_cons_zero, List.set_cons_succ]
                refine wpAnyH_take (i := 15) (oi := ⟨some 76, _, _, _, _, _⟩) (v := ?_) rfl (by kernel_rfl) (by kernel_rfl) (by kernel_rfl) (fun _ _ _ h => h) (Or.inl ⟨by rfl, ?_⟩) (by assumption) ?_
                rotate_left
                · (intro w hSw; (try dsimp only at hSw); go_simp; try (with_reducible rfl))
                try simp only [Act.put, List.setIfInBounds_toArray, List.set_cons_zero, List.set_cons_succ]
                refine wpAnyH_take (i := 16) (oi := ⟨some 77, _, _, _, _, _⟩) (v := ?_) rfl (by kernel_rfl) (by kernel_rfl) (by kernel_rfl) (fun _ _ _ h => h) (Or.inl ⟨by rfl, ?_⟩) (by assumption) ?_
                rotate_left
                · (intro w hSw; (try dsimp only at hSw); go_simp; try (with_reducible rfl))
                try simp only [Act.put, List.setIfInBounds_toArray, List.set_cons_zero, List.set_cons_succ]
                refine wpAnyH_take (i := 17) (oi := ⟨some 78, _, _, _, _, _⟩) (v := ?_) rfl (by kernel_rfl) (by kernel_rfl) (by kernel_rfl) (fun _ _ _ h => h) (Or.inl ⟨by rfl, ?_⟩) (by assumption) ?_
                rotate_left
                · (intro w hSw; (try dsimp only at hSw); go_simp; try (with_reducible rfl))
                try simp only [Act.put, List.setIfInBounds_toArray, List.set_cons_zero, List.set_cons_succ]
                refine wpAnyH_take (i := 18) (oi := ⟨some 79, _, _, _, _, _⟩) (v := ?_) rfl (by kernel_rfl) (by kernel_rfl) (by kernel_rfl) (fun _ _ _ h => h) (Or.inl ⟨by rfl, ?_⟩) (by assumption) ?_
                rotate_left
                · (intro w hSw; (try dsimp only at hSw); go_simp; try (with_reducible rfl))
                try simp only [Act.put, List.setIfInBounds_toArray, List.set_cons_zero, List.set_cons_succ]
                refine wpAnyH_take (i := 19) (oi := ⟨some 80, _, _, _, _, _⟩) (v := ?_) rfl (by kernel_rfl) (by kernel_rfl) (by kernel_rfl) (fun _ _ _ h => h) (Or.inl ⟨by rfl, ?_⟩) (by assumption) ?_
                rotate_left
                · (intro w hSw; (try dsimp only at hSw); go_simp; try (with_reducible rfl))
                try simp only [Act.put, List.setIfInBounds_toArray, List.set_cons_zero, List.set_cons_succ]
                refine wpAnyH_take (i := 20) (oi := ⟨some 81, _, _, _, _, _⟩) (v := ?_) rfl (by kernel_rfl) (by kernel_rfl) (by kernel_rfl) (fun _ _ _ h => h) (Or.inl ⟨by rfl, ?_⟩) (by assumption) ?_
                rotate_left
                · (intro w hSw; (try dsimp only at hSw); go_simp; try (with_reducible rfl))
                try simp only [Act.put, List.setIfInBounds_toArray, List.set_cons_zero, List.set_cons_succ]
                refine wpAnyH_take (i := 22) (oi := ⟨some 83, _, _, _, _, _⟩) (v := ?_) rfl (by kernel_rfl) (by kernel_rfl) (by kernel_rfl) (fun _ _ _ h => h) (Or.inl ⟨by rfl, ?_⟩) (by assumption) ?_
                rotate_left
                · (intro w hSw; (try dsimp only at hSw); go_simp; try (with_reducible rfl))
                try simp only [Act.put, List.setIfInBounds_toArray, List.set_cons_zero, List.set_cons_succ]
                refine wpAnyH_take (i := 23) (oi := ⟨some 84, _, _, _, _, _⟩) (v := ?_) rfl (by kernel_rfl) (by kernel_rfl) (by kernel_rfl) (fun _ _ _ h => h) (Or.inl ⟨by rfl, ?_⟩) (by assumption) ?_
                rotate_left
                · (intro w hSw; (try dsimp only at hSw); go_simp; try (with_reducible rfl))
                try simp only [Act.put, List.setIfInBounds_toArray, List.set_cons_zero, List.set_cons_succ]
                refine wpAnyH_take (i := 24) (oi := ⟨some 85, _, _, _, _, _⟩) (v := ?_) rfl (by kernel_rfl) (by kernel_rfl) (by kernel_rfl) (fun _ _ _ h => h) (Or.inl ⟨by rfl, ?_⟩) (by assumption) ?_
                rotate_left
                · (intro w hSw; (try dsimp only at hSw); go_simp; try (with_reducible rfl))
                try simp only [Act.put, List.setIfInBounds_toArray, List.set_cons_zero, List.set_cons_succ]
                refine wpAnyH_take (i := 25) (oi := ⟨some 86, _, _, _, _, _⟩) (v := ?_) rfl (by kernel_rfl) (by kernel_rfl) (by kernel_rfl) (fun _ _ _ h => h) (Or.inl ⟨by rfl, ?_⟩) (by assumption) ?_
                rotate_left
                · (intro w hSw; (try dsimp only at hSw); go_simp; try (with_reducible rfl))
                try simp only [Act.put, List.setIfInBounds_toArray, List.set_cons_zero, List.set_cons_succ]
                refine wpAnyH_take (i := 26) (oi := ⟨some 87, _, _, _, _, _⟩) (v := ?_) rfl (by kernel_rfl) (by kernel_rfl) (by kernel_rfl) (fun _ _ _ h => h) (Or.inl ⟨by rfl, ?_⟩) (by assumption) ?_
                rotate_left
                · (intro w hSw; (try dsimp only at hSw); go_simp; try (with_reducible rfl))
                try simp only [Act.put, List.setIfInBounds_toArray, List.set_cons_zero, List.set_cons_succ]
                refine wpAnyH_take (i := 27) (oi := ⟨some 88, _, _, _, _, _⟩) (v := ?_) rfl (by kernel_rfl) (by kernel_rfl) (by kernel_rfl) (fun _ _ _ h => h) (Or.inl ⟨by rfl, ?_⟩) (by assumption) ?_
                rotate_left
                · (intro w hSw; (try dsimp only at hSw); go_simp; try (with_reducible rfl))
                try simp only [Act.put, List.setIfInBounds_toArray, List.set_cons_zero, List.set_cons_succ]
                refine wpAnyH_take (i := 28) (oi := ⟨some 89, _, _, _, _, _⟩) (v := ?_) rfl (by kernel_rfl) (by kernel_rfl) (by kernel_rfl) (fun _ _ _ h => h) (Or.inl ⟨by rfl, ?_⟩) (by assumption) ?_
                rotate_left
                · (intro w hSw; (try dsimp only at hSw); go_simp; try (with_reducible rfl))
                try simp only [Act.put, List.setIfInBounds_toArray, List.set_cons_zero, List.set_cons_succ]
                refine wpAnyH_ready (rs := [21]) (by kernel_rfl) (by simp) ?_
                refine AllReadyH.cons (o := ⟨some 82, _, _, _, _, _⟩) rfl (fun K hK => ?_) ?_
                · go_simp
                  refine (rones_any gr (pack (bitsOf L)) _ 49 _ HD.out.rb (by decide) (by have := Hlast.out; omega) (by have := Hpk.out; omega)).mono ?_; unfold GotO; rw [Hok.out, Hval.out]; rintro e w2 ⟨rfl, hrb2, hg2⟩; have HZ := Lib.hid (HD.out.read hg2 hrb2)
                  go_wp2_with fail
                  refine hK.out _ _ ((HZ.out.bel.cell (p := ⟨b, off + j * 2 + 1, none⟩) hbw).trans Hk1.out) (fun hHeld => ?_)
                  clear hK K
                  try simp only [Act.put, List.setIfInBounds_toArray, List.set_cons_zero, List.set_cons_succ]
                  refine wpAnyH_take (i := 29) (oi := ⟨some 90, _, _, _, _, _⟩) (v := ?_) rfl (by kernel_rfl) (by kernel_rfl) (by kernel_rfl) (fun _ _ _ h => h) (Or.inl ⟨by rfl, ?_⟩) (by assumption) ?_
                  rotate_left
                  · (intro w hSw; (try dsimp only at hSw); go_simp; try (with_reducible rfl))
                  try simp only [Act.put, List.setIfInBounds_toArray, List.set_cons_zero, List.set_cons_succ]
                  refine wpAnyH_take (i := 30) (oi := ⟨some 91, _, _, _, _, _⟩) (v := ?_) rfl (by kernel_rfl) (by kernel_rfl) (by kernel_rfl) (fun _ _ _ h => h) (Or.inl ⟨by rfl, ?_⟩) (by assumption) ?_
                  rotate_left
                  · (intro w hSw; (try dsimp only at hSw); go_simp; try (with_reducible rfl))
                  try simp only [Act.put, List.setIfInBounds_toArray, List.set_cons_zero, List.set_cons_succ]
                  refine wpAnyH_take (i := 31) (oi := ⟨some 92, _, _, _, _, _⟩) (v := ?_) rfl (by kernel_rfl) (by kernel_rfl) (by kernel_rfl) (fun _ _ _ h => h) (Or.inl ⟨by rfl, ?_⟩) (by assumption) ?_
                  rotate_left
                  · (intro w hSw; (try dsimp only at hSw); go_simp; try (with_reducible rfl))
                  try simp only [Act.put, List.setIfInBounds_toArray, List.set_cons_zero, List.set_cons_succ]
                  refine wpAnyH_done (by kernel_rfl) ?_ _
                  go_wp2_with fail
                  go_meet
                  exact ⟨rfl, by rw [Htk.out, List.length_append, List.length_append, List.length_replicate]; exact HZ.out⟩
                exact AllReadyH.nil
              case rest =>
                obtain ⟨rfl, hbs2⟩ := hcut
                go_wp2
                go_roundw
                case rel => exact ⟨j + 1, by omega, by go_num, hbs2⟩
                case measure => simp [intOf]; omega
          · obtain rfl : j = k := by omega
            have e := List.take_of_length_le (show L.length ≤ j by rw [Hl.out]; exact Nat.le_refl _)
            have hbs := Hbs.out
            rw [e] at hbs
            clear Hbs
            have Hbs := Lib.hid hbs
            have hrow := row_pack (bitsOf L)
            have hpk : (pack (bitsOf L)).length ≤ 1000 := by rw [pack_len]; exact Hnb.out
            have hle : (bitsOf L).length ≤ 8 * (pack (bitsOf L)).length := by rw [pack_len]; unfold nb; omega
            have hcl : clean ((row (pack (bitsOf L))).drop (bitsOf L).length) = true := by
              rw [hrow, List.drop_left]
              unfold clean
              rw [List.length_replicate, decide_eq_true (by unfold nb; omega), Bool.true_and, List.all_eq_true]
              intro b hb
              rw [List.eq_of_mem_replicate hb]
              rfl
            have Hcl := Lib.hid hcl
            have Hpk := Lib.hid hpk
            have Hle := Lib.hid hle
            clear hbs hrow hcl hpk hle e
            go_wp2_with fail
            refine (at_any gr _ _ _ _ Hbs.out.rb).mono ?_
            rintro e w6 ⟨rfl, rfl⟩
            go_wp2_with fail
            refine (len_any _ v _ _ Hbs.out.wb).mono ?_
            rintro e w6 ⟨rfl, rfl⟩
            go_wp2_with fail
            refine (right_any gr _ _ _ _ Hbs.out.rb).mono ?_
            rintro e w6 ⟨rfl, rfl⟩
            go_wp2_with fail
            refine (rclose_any gr (pack (bitsOf L)) _ _ Hbs.out.rb Hle.out (by have := Hpk.out; omega)).mono ?_
            rintro e w6 ⟨rfl, hg6, n6, h6⟩
            rw [Hcl.out]
            have hb6 := (Hbs.out.read hg6 h6).bel
            clear hg6 h6 Hbs
            go_wp2_with (go_at_call 14; refine (works_any _).mono ?_; rintro e w' ⟨rfl, hb⟩)
            go_ret
            exact ⟨rfl, _root_.Go.Proofs.Ytgncngpgodfijaa.bt hb6 hb⟩
  · have h60' : (60 : Int) < (n : Int) := by omega
    go_enter Try.func4, Try.ntmps4
    go_wp2_with (go_at_call 14; refine (works_any _).mono ?_; rintro e w' ⟨rfl, hb⟩)
    go_ret
    exact ⟨rfl, hb⟩
theorem walkBack (v0 : Value) (W : World) (h0 : VSat W (.slice PtSh) false v0) :
    Calls Try.prog 4 #[v0] W fun e W' => e = .returned (.bool true) ∧ Below W.heap.size W W' := by
  obtain ⟨A, L, cap, rfl, hrd, hp, hl, hm, _⟩ := open_pts h0
  exact lawBack_any A L L.length cap W hrd hp rfl (by omega)
end Bits
end Go.Proofs.Ytgncngpgodfijaa
