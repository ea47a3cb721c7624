/-
  The walk of the document's Bytes (package recorder).
-/
import Derived.Test.YtijijfggppnbpaaRecM
namespace Go.Proofs.Ytijijfggppnbpaa
open Go.RowKit
set_option linter.unusedVariables false
namespace Rec
open Frm Txt
theorem own_set {w : World} {base n g cap : Nat} {e : TypeId} {L : List Value} (h : w.ownsRow base e 1 (.slice (some ⟨g, 0, none⟩) n cap) n L) (i : Nat) (x : Value) :
    (w.setCell ⟨g, i, none⟩ x).ownsRow base e 1 (.slice (some ⟨g, 0, none⟩) n cap) n (L.set i x) := by
  obtain ⟨h1, h2⟩ := h
  refine ⟨by rw [List.length_set]; exact h1, ?_⟩
  rcases h2 with ⟨hv, _⟩ | ⟨g', cap', cur, hv, hb, hh, h3, h4, h5, h6⟩
  · simp at hv
  · simp at hv
    obtain ⟨rfl, rfl⟩ := hv
    have hB : Blk w g e cur.toList := hh
    refine .inr ⟨g, cap, (cur.toList.set i x).toArray, rfl, hb, hB.put i x, h3, h4, by simp [h5], ?_⟩
    rw [List.take_set, h6]
/-- the first j bytes of c put at p -/
def putJ (B : List UInt8) (p : Nat) (c : List UInt8) (j : Nat) : List UInt8 := B.take p ++ (c.take j ++ B.drop (p + j))
theorem putJ_0 (B : List UInt8) (p : Nat) (c : List UInt8) : putJ B p c 0 = B := by unfold putJ; simp
theorem putJ_40 (B : List UInt8) (i : Nat) (c : List UInt8) (hc : c.length = 40) : putJ B (40 * i) c 40 = putB B i c := by unfold putJ putB; rw [show c.take 40 = c from List.take_of_length_le (by omega)]
theorem putJ_len {B : List UInt8} {p : Nat} {c : List UInt8} {j : Nat} (h : p + j ≤ B.length) (hj : j ≤ c.length) : (putJ B p c j).length = B.length := by
  unfold putJ
  rw [List.length_append, List.length_append, List.length_take, List.length_take, List.length_drop]
  omega
theorem putJ_get {B : List UInt8} {p : Nat} {c : List UInt8} {j : Nat} (h : p + j ≤ B.length) (hj : j ≤ c.length) (x : Nat) : (putJ B p c j)[x]? = if p ≤ x ∧ x < p + j then c[x - p]? else B[x]? := by
  have h1 : (B.take p).length = p := by rw [List.length_take]; omega
  have h2 : (c.take j).length = j := by rw [List.length_take]; omega
  unfold putJ
  by_cases ha : x < p
  · rw [List.getElem?_append_left (by omega), List.getElem?_take_of_lt ha, if_neg (by omega)]
  · rw [List.getElem?_append_right (by omega), h1]
    by_cases hb : x < p + j
    · rw [List.getElem?_append_left (by omega), List.getElem?_take_of_lt (by omega), if_pos (by omega)]
    · rw [List.getElem?_append_right (by omega), h2, List.getElem?_drop, if_neg (by omega)]
      congr 1
      omega
theorem putJ_succ {B : List UInt8} {p : Nat} {c : List UInt8} {j : Nat} (h : p + j < B.length) (hj : j < c.length) : (putJ B p c j).set (p + j) c[j] = putJ B p c (j + 1) := by
  refine List.ext_getElem? fun x => ?_
  rw [putJ_get (by omega) (by omega), List.getElem?_set, putJ_len (by omega) (by omega), putJ_get (by omega) (by omega)]
  by_cases hx : p + j = x
  · subst hx
    rw [if_pos rfl, if_pos h, if_pos (by omega), show p + j - p = j by omega, List.getElem?_eq_getElem hj]
  · rw [if_neg hx]
    by_cases h1 : p ≤ x ∧ x < p + j
    · rw [if_pos h1, if_pos (by omega)]
    · rw [if_neg h1, if_neg (by omega)]
set_option maxRecDepth 100000 in
set_option maxHeartbeats 1000000 in
theorem ybytes_any (k : Nat) (hk1 : 1 ≤ k) (hk2 : k ≤ 1024) (A : Option Addr) (fs : List Fr) (m cap lo hi : Nat) (w : World) (h : RdL w lo hi A (frs fs)) (hhi : hi ≤ w.heap.size) (hm : fs.length = m) (hm2 : m ≤ 1000) (hg : AllGood fs) :
    Calls Try.prog 47 #[.int .i64 (k : Int), .slice A m cap] w fun e w' => (∃ v, e = .returned v ∧ w'.ownsRow w.heap.size 5 1 v (40 * k) ((st k fs).1.map bv)) ∧ Below w.heap.size w w' := by
  obtain ⟨i0, hi', hz0, hz1, hz2⟩ := info_parts infoByte
  have hmk := mk_row (P := Try.prog) 26 5 i0 _ Try.underlying26 hi' hz0 rfl hz1 (by omega) (40 * k) (by omega) w
  have y1 : IntKind.i64.wrap (40 * (k : Int)) = ((40 * k : Nat) : Int) := by rw [IntWalk.i64_in _ (by omega)]; omega
  obtain ⟨K, hK⟩ : ∃ K, K = 40 * k := ⟨_, rfl⟩
  rw [← hK] at hmk y1 ⊢
  have hb1 := Blk.mk w 5 (List.replicate K (Value.int .u8 0))
  have hbz : List.replicate K (Value.int .u8 0) = (List.replicate K (0 : UInt8)).map bv := by rw [List.map_replicate]; rfl
  have hK3 : K ≤ 100000 := by omega
  have ho := own_of_blk (base := w.heap.size) hb1 (Nat.le_refl _) (by rw [List.length_replicate]; simp only [maxLen]; omega)
  rw [List.length_replicate, hbz, ← hbz, List.toArray_replicate, hbz] at ho
  have HO := Lib.hid ho
  have HKK := Lib.hid hK
  have HH := Lib.hid hhi
  have HM := Lib.hid hm
  have HG := Lib.hid hg
  have HRD := Lib.hid h
  clear h hhi hm hg hb1 hbz ho hK
  go_enter Try.func47, Try.ntmps47
  go_wp2_with fail
  go_loopw [6] (fun s6 wr => ∃ i : Nat, s6 = .int .i64 (i : Int) ∧ i ≤ m ∧ wr.ownsRow w.heap.size 5 1 (.slice (some ⟨w.heap.size, 0, none⟩) K K) K ((st k (fs.take i)).1.map bv) ∧ Below w.heap.size w wr ∧ RdL wr lo hi A (frs fs)) (fun s6 _ => m - (intOf s6).toNat)
  case atStart => exact ⟨0, rfl, by omega, by unfold st; rw [List.take_zero, ← HKK.out]; exact HO.out, bl _ _, HRD.out.next (bl _ _)⟩
  case round =>
    obtain ⟨i, rfl, hi0, hS, hK, hR⟩ := hrel
    have HS := Lib.hid hS
    have HK := Lib.hid hK
    have HR := Lib.hid hR
    clear hS hK hR
    by_cases hlt : i < m
    · have dlt : decide (i < m) = true := decide_eq_true hlt
      have hil : i < fs.length := by rw [HM.out]; exact hlt
      obtain ⟨b, off, rfl, hlb, hbh, _, _⟩ := HR.out.some (by rw [frs_len]; omega)
      have hel := fr_elem HR.out hil
      obtain ⟨f, hf⟩ : ∃ f, f = fs[i] := ⟨_, rfl⟩
      have hfg := HG.out f (by rw [hf]; exact List.getElem_mem _)
      have hgt : AllGood (fs.take i) := fun g hg => HG.out g (List.mem_of_mem_take hg)
      have hsl := st_len hk1 hgt
      have hsn := st_next k (fs.take i)
      have HSN := Lib.hid (show st k (fs.take (i + 1)) = (putB (st k (fs.take i)).1 ((i + 1) % k) (cellL (i + 1) f), i + 2) by
        rw [List.take_succ_eq_append_getElem hil, st_snoc, ← hf, hsn, List.length_take, Nat.min_eq_left (by omega)])
      have hcell := ycell_any (i + 1) f hfg.1 (by omega) wr
      unfold GotC at hcell
      rw [hfg.2] at hcell
      have HCL := Lib.hid (cellL_len (n := i + 1) hfg.1 hfg.2)
      obtain ⟨c, hc⟩ : ∃ c, c = cellL (i + 1) f := ⟨_, rfl⟩
      rw [← hc] at HSN hcell HCL
      rw [← hf] at hel
      obtain ⟨x1, x2, x3, x4, x5, x6⟩ := f
      unfold Fr.v Fr.cells at hcell
      obtain ⟨e0, e1, e2, e3, e4, e5⟩ := hel
      have i0' : (0 : Int) ≤ (i : Int) := by omega
      have i1 : (i : Int) < (m : Int) := by omega
      have wi : IntKind.i64.wrap ((i : Int) + 1) = ((i + 1 : Nat) : Int) := by rw [IntWalk.i64_in _ (by omega)]; rfl
      have wu : IntKind.u64.wrap ((i + 1 : Nat) : Int) = ((i + 1 : Nat) : Int) := IntWalk.u64_in _ (by omega)
      obtain ⟨n, hn⟩ : ∃ n, n = i + 1 := ⟨_, rfl⟩
      rw [← hn] at wi wu hcell HSN
      have tk : (n : Int).tmod (k : Int) = ((n % k : Nat) : Int) := by rw [Int.tmod_eq_emod_of_nonneg (by omega)]; rfl
      obtain ⟨q, hq⟩ : ∃ q, q = n % k := ⟨_, rfl⟩
      have hqk : q < k := by rw [hq]; exact Nat.mod_lt _ hk1
      rw [← hq] at tk HSN
      have wq : IntKind.i64.wrap (q : Int) = (q : Int) := IntWalk.i64_in _ (by omega)
      have wq2 : IntKind.i64.wrap (40 * (q : Int)) = ((40 * q : Nat) : Int) := by rw [IntWalk.i64_in _ (by omega)]; omega
      obtain ⟨p, hp⟩ : ∃ p, p = 40 * q := ⟨_, rfl⟩
      rw [← hp] at wq2
      have HP := Lib.hid hp
      have hpK : p + 40 ≤ K := by rw [HKK.out, hp]; omega
      have nz : ((k : Int) == 0) = false := by rw [beq_eq_false_iff_ne]; omega
      have nz2 : (k : Int) ≠ 0 := by omega
      have nz3 : k ≠ 0 := by omega
      have HHN := Lib.hid hn
      have HBL : Hid ((st k (fs.take i)).1.length = K) := Lib.hid (by rw [hsl, HKK.out])
      obtain ⟨BB, hBB⟩ : ∃ BB, BB = (st k (fs.take i)).1 := ⟨_, rfl⟩
      rw [← hBB] at HS HSN HBL
      clear hf hfg hgt hsl hsn hc hil hq hp hn hBB
      dsimp only at e0 e1 e2 e3 e4 e5
      go_wp2_with fail
      refine hcell.mono ?_
      rintro e w1 ⟨v, rfl, hoc, _, hb⟩
      have hoc := hoc trivial
      obtain ⟨gc, cc, rfl⟩ := own_some hoc (by decide)
      obtain ⟨_, _, ee, hrc, _, _, _⟩ := own_rd hoc
      injection ee with ee1 ee2 ee3
      subst ee1 ee3
      clear ee2
      have HC1 := Lib.hid hrc
      have HS1 := Lib.hid (own_next HS.out hb)
      have HK1 := Lib.hid (bt HK.out hb)
      have HR1 := Lib.hid (HR.out.next hb)
      have hgs := (own_lt HS.out (b := w.heap.size) rfl).2
      have hgc := (own_lt hoc (b := gc) rfl).1
      clear hb hoc hrc hcell e0 e1 e2 e3 e4 e5 wu
      go_wp2_with fail
      go_loopw [10] (fun s10 wx => ∃ j : Nat, s10 = .int .i64 (j : Int) ∧ j ≤ 40 ∧ wx.ownsRow w.heap.size 5 1 (.slice (some ⟨w.heap.size, 0, none⟩) K K) K ((putJ BB p c j).map bv) ∧ Below w.heap.size w wx ∧ RdL wx lo hi (some ⟨b, off, none⟩) (frs fs) ∧ RdL wx wr.heap.size w1.heap.size (some ⟨gc, 0, none⟩) (c.map bv)) (fun s10 _ => 40 - (intOf s10).toNat)
      case atStart => exact ⟨0, rfl, by omega, by rw [putJ_0]; exact HS1.out, HK1.out, HR1.out, HC1.out⟩
      case round =>
        obtain ⟨j, rfl, hj0, hS2, hK2, hR2, hC2⟩ := hrel
        have HS2 := Lib.hid hS2
        have HK2 := Lib.hid hK2
        have HR2 := Lib.hid hR2
        have HC2 := Lib.hid hC2
        clear hS2 hK2 hR2 hC2 HS1 HK1 HR1 HC1
        by_cases hj : j < 40
        · have dj : decide ((j : Int) < 40) = true := decide_eq_true (by omega)
          have djn : decide (j < 40) = true := decide_eq_true hj
          have wj : IntKind.i64.wrap ((p : Int) + (j : Int)) = ((p + j : Nat) : Int) := by rw [IntWalk.i64_in _ (by omega)]; rfl
          obtain ⟨z, hz⟩ : ∃ z, z = p + j := ⟨_, rfl⟩
          rw [← hz] at wj
          have hjc : j < c.length := by rw [HCL.out]; exact hj
          have hj1 : (0 : Int) ≤ (j : Int) := by omega
          have hj2 : (j : Int) < 40 := by omega
          have hz1 : (0 : Int) ≤ (z : Int) := by omega
          have hz2 : (z : Int) < (K : Int) := by omega
          obtain ⟨b', o', e', _, _, _, hcc⟩ := HC2.out.some (by rw [List.length_map]; omega)
          injection e' with e'
          injection e' with e1 e2 _
          subst e1 e2
          have cj : wr.cell? ⟨gc, j, none⟩ = some (bv c[j]) := by
            have := hcc j (bv c[j]) (by rw [List.getElem?_map, List.getElem?_eq_getElem hjc]; rfl)
            rwa [Nat.zero_add] at this
          obtain ⟨_, _, e', hrr, _, _, _⟩ := own_rd HS2.out
          injection e' with e1 e2 e3
          subst e1 e3
          obtain ⟨b', o', e', _, _, _, hcr⟩ := hrr.some (by rw [List.length_map, putJ_len (by rw [HBL.out]; omega) (by omega), HBL.out]; omega)
          injection e' with e'
          injection e' with e1 e3 _
          subst e1 e3
          have hpl : z < (putJ BB p c j).length := by rw [putJ_len (by rw [HBL.out]; omega) (by omega), HBL.out]; omega
          have cz : wr.cell? ⟨w.heap.size, z, none⟩ = some (bv (putJ BB p c j)[z]) := by
            have := hcr z (bv (putJ BB p c j)[z]) (by rw [List.getElem?_map, List.getElem?_eq_getElem hpl]; rfl)
            rwa [Nat.zero_add] at this
          have fz := HS2.out.frozenAt z
          have hset := own_set HS2.out z (bv c[j])
          rw [← List.map_set, hz, putJ_succ (by rw [HBL.out]; omega) hjc] at hset
          have HSET := Lib.hid hset
          have HZ := Lib.hid hz
          unfold bv at cj cz
          clear hcc hcr hrr hset hz e2
          go_wp2_with fail
          go_roundw
          case rel =>
            have hz := HZ.out
            subst hz
            exact ⟨j + 1, by go_num, by omega, HSET.out, HK2.out.setCell (p := ⟨w.heap.size, p + j, none⟩) (Nat.le_refl _) _, HR2.out.far (p := ⟨w.heap.size, p + j, none⟩) (.inr HH.out) _, HC2.out.far (p := ⟨w.heap.size, p + j, none⟩) (.inl hgs) _⟩
          case measure => simp [intOf]; omega
        · have dj : decide ((j : Int) < 40) = false := decide_eq_false (by omega)
          have djn : decide (j < 40) = false := decide_eq_false hj
          obtain rfl : j = 40 := by omega
          have hS3 := HS2.out
          rw [HP.out, putJ_40 _ _ _ HCL.out] at hS3
          have HS3 := Lib.hid hS3
          clear hS3
          go_wp2_with fail
          go_roundw
          case rel => exact ⟨n, rfl, by have := HHN.out; omega, by rw [HSN.out]; exact HS3.out, HK2.out, HR2.out⟩
          case measure => have := HHN.out; simp [intOf]; omega
    · have dlt : decide (i < m) = false := decide_eq_false hlt
      obtain rfl : m = i := by omega
      have HF : Hid (fs.take m = fs) := Lib.hid (List.take_of_length_le (by rw [HM.out]; exact Nat.le_refl _))
      go_wp2_with fail
      go_ret
      exact ⟨⟨_, rfl, by have := HS.out; rw [HF.out] at this; exact this⟩, HK.out⟩
end Rec
end Go.Proofs.Ytijijfggppnbpaa
