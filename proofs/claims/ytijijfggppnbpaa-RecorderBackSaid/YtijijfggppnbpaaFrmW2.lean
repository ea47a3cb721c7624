/-
  The walk of package frame: a frame as bytes.
-/
import Derived.Test.YtijijfggppnbpaaFrmW
namespace Go.Proofs.Ytijijfggppnbpaa
open Go.RowKit
set_option linter.unusedVariables false
namespace Frm
open Txt (kind_cases bv bv_one GotB leB leB_len tx)

theorem _root_.Go.Proofs.Ytijijfggppnbpaa.Blk.next {w w' : World} {g : Nat} {t : TypeId} {L : List Value} (h : Blk w g t L) (hb : Below w.heap.size w w') : Blk w' g t L := h.below hb h.lt
/-- a frame -/
structure Fr where
  k : Int
  q : Nat
  t : Nat
  a : Int
  b : Int
  c : Int
def Fr.cells (f : Fr) : List Value := [.int .i64 f.k, .int .u16 (f.q : Int), .int .u32 (f.t : Int), .int .i32 f.a, .int .i32 f.b, .int .i32 f.c]
def Fr.v (f : Fr) : Value := .agg f.cells.toArray
def Fr.nums (f : Fr) : List Int := [f.a, f.b, f.c]
structure Fr.Ok (f : Fr) : Prop where
  k1 : -9223372036854775808 ≤ f.k
  k2 : f.k ≤ 9223372036854775807
  q : f.q < 65536
  t : f.t < 4294967296
  a1 : -2147483648 ≤ f.a
  a2 : f.a ≤ 2147483647
  b1 : -2147483648 ≤ f.b
  b2 : f.b ≤ 2147483647
  c1 : -2147483648 ≤ f.c
  c2 : f.c ≤ 2147483647
/-- why a frame can't be bytes -/
def codeF (f : Fr) : Int := if numK f.k < 0 then 13 else if (f.nums.drop (numK f.k).toNat).all (· == 0) = true then 0 else 1
def low32 (x : Int) : Nat := (x % 4294967296).toNat
def headL (f : Fr) : List UInt8 := [126, UInt8.ofNat f.k.toNat] ++ leB f.q 2 ++ leB f.t 4
def numsL (l : List Int) : List UInt8 := l.flatMap fun x => leB (low32 x) 4
/-- a frame as bytes -/
def bytesF (f : Fr) : List UInt8 := Crc.put (headL f ++ numsL (f.nums.take (numK f.k).toNat))
def GotF (w : World) (f : Fr) (e : Ending) (w' : World) : Prop :=
  (∃ v, e = .returned (.tuple #[v, .int .i64 (codeF f)]) ∧ (codeF f = 0 → w'.ownsRow w.heap.size 5 1 v (bytesF f).length ((bytesF f).map bv)) ∧ (codeF f ≠ 0 → v = .slice none 0 0)) ∧ Below w.heap.size w w'
theorem GotF.no {w w' : World} {f : Fr} {x : Int} (h : codeF f = x) (hx : x ≠ 0) (hb : Below w.heap.size w w') : GotF w f (.returned (.tuple #[.slice none 0 0, .int .i64 x])) w' :=
  ⟨⟨_, by rw [h], fun h0 => absurd (h.symm.trans h0) hx, fun _ => rfl⟩, hb⟩
theorem GotF.yes {w w' : World} {f : Fr} {v : Value} {L : List UInt8} (h : codeF f = 0) (hL : bytesF f = L) (ho : w'.ownsRow w.heap.size 5 1 v L.length (L.map bv)) (hb : Below w.heap.size w w') : GotF w f (.returned (.tuple #[v, .int .i64 0])) w' :=
  ⟨⟨_, by rw [h], fun _ => by rw [hL]; exact ho, fun h0 => absurd h h0⟩, hb⟩
theorem numK_cases (k : Int) : (numK k = -1 ∧ (k < 1 ∨ 7 < k)) ∨ (∃ n : Nat, numK k = n ∧ n ≤ 3 ∧ 1 ≤ k ∧ k ≤ 7) := by
  rcases kind_cases k with rfl | rfl | rfl | rfl | rfl | rfl | rfl | h
  case inr.inr.inr.inr.inr.inr.inr => exact .inl ⟨numN_none (by omega), h⟩
  all_goals exact .inr ⟨_, rfl, by decide, by decide, by decide⟩
set_option maxRecDepth 100000 in
set_option maxHeartbeats 1000000 in
theorem put_none (f : Fr) (hf : f.Ok) (hk : numK f.k = -1) (w : World) :
    Calls Try.prog 12 #[f.v] w (GotF w f) := by
  obtain ⟨i0, hi, hz0, hz1, hz2⟩ := info_parts Txt.infoByte
  have hnum := fun w => numbers_any f.k w
  have hblk := Lib.hid (Blk.mk w 25 f.cells)
  have hbw := Lib.hid (bl w (.cells f.cells.toArray 25))
  have hf1 := hf
  have HF := Lib.hid hf1
  clear hf hf1
  have hc0 : (w.alloc (.cells f.cells.toArray 25)).cell? ⟨w.heap.size, 0, none⟩ = some (.int .i64 f.k) := hblk.out.cell 0
  unfold Fr.v
  have hcode : codeF f = 13 := by unfold codeF; rw [hk]; rfl
  rw [hk] at hnum
  have Hcode := Lib.hid hcode
  clear hcode hk
  generalize f.cells.toArray = cs at *
  go_enter Try.func12, Try.ntmps12
  go_wp2_with fail
  refine (hnum _).mono ?_
  rintro e w1 ⟨rfl, hb1⟩
  have P1 := hblk.out.next hb1
  have e3 : w1.cell? ⟨w.heap.size, 3, none⟩ = some (.int .i32 f.a) := P1.cell 3
  have e4 : w1.cell? ⟨w.heap.size, 4, none⟩ = some (.int .i32 f.b) := P1.cell 4
  have e5 : w1.cell? ⟨w.heap.size, 5, none⟩ = some (.int .i32 f.c) := P1.cell 5
  have B1 := Lib.hid (_root_.Go.Proofs.Ytijijfggppnbpaa.bt hbw.out hb1)
  clear P1 hb1 hbw hblk
  go_wp2_with fail
  refine bodyPost_ret (results_tmp2 rfl _ _ _) rfl ?_
  exact GotF.no (x := 13) Hcode.out (by decide) (_root_.Go.Proofs.Ytijijfggppnbpaa.bt B1.out (bl _ _))
set_option maxRecDepth 100000 in
set_option maxHeartbeats 1000000 in
theorem put_0 (f : Fr) (hf : f.Ok) (hk : numK f.k = 0) (hk1 : 1 ≤ f.k) (hk7 : f.k ≤ 7) (w : World) :
    Calls Try.prog 12 #[f.v] w (GotF w f) := by
  obtain ⟨i0, hi, hz0, hz1, hz2⟩ := info_parts Txt.infoByte
  have hnum := fun w => numbers_any f.k w
  have hblk := Lib.hid (Blk.mk w 25 f.cells)
  have hbw := Lib.hid (bl w (.cells f.cells.toArray 25))
  have hf1 := hf
  have HF := Lib.hid hf1
  clear hf hf1
  have hc0 : (w.alloc (.cells f.cells.toArray 25)).cell? ⟨w.heap.size, 0, none⟩ = some (.int .i64 f.k) := hblk.out.cell 0
  unfold Fr.v
  have hcode : codeF f = if (f.nums.drop 0).all (· == 0) = true then 0 else 1 := by unfold codeF; rw [hk, if_neg (by omega)]; rfl
  have hby : bytesF f = Crc.put (headL f ++ numsL (f.nums.take 0)) := by unfold bytesF; rw [hk]; rfl
  rw [hk] at hnum
  have Hcode := Lib.hid hcode
  have Hby := Lib.hid hby
  have hw1 : IntKind.u8.wrap f.k = ((UInt8.ofNat f.k.toNat).toNat : Int) := by rw [UInt8.toNat_ofNat', IntKind.wrap_u8]; omega
  obtain ⟨kb, hkb⟩ : ∃ c, c = UInt8.ofNat f.k.toNat := ⟨_, rfl⟩
  rw [← hkb] at hw1
  have hhead : headL f = [126, kb] ++ leB f.q 2 ++ leB f.t 4 := by rw [hkb]; rfl
  have Hhead := Lib.hid hhead
  clear hcode hby hk hkb hhead
  obtain ⟨cs, hcs⟩ : ∃ c, c = f.cells.toArray := ⟨_, rfl⟩
  rw [← hcs] at hblk hbw hc0 ⊢
  clear hcs
  go_enter Try.func12, Try.ntmps12
  go_wp2_with fail
  refine (hnum _).mono ?_
  rintro e w1 ⟨rfl, hb1⟩
  have P1 := hblk.out.below hb1 (show w.heap.size < (w.alloc (.cells cs 25)).heap.size by simp)
  have e3 : w1.cell? ⟨w.heap.size, 3, none⟩ = some (.int .i32 f.a) := P1.cell 3
  have e4 : w1.cell? ⟨w.heap.size, 4, none⟩ = some (.int .i32 f.b) := P1.cell 4
  have e5 : w1.cell? ⟨w.heap.size, 5, none⟩ = some (.int .i32 f.c) := P1.cell 5
  have hsz1 := (_root_.Go.Proofs.Ytijijfggppnbpaa.bt hbw.out hb1).size
  have B2 := Lib.hid ((_root_.Go.Proofs.Ytijijfggppnbpaa.bt hbw.out hb1).alloc hsz1 (.cells #[.int .i32 f.a, .int .i32 f.b, .int .i32 f.c] 82))
  have PF := Lib.hid (P1.alloc (.cells #[.int .i32 f.a, .int .i32 f.b, .int .i32 f.c] 82))
  have PA := Lib.hid (Blk.mk w1 82 (f.nums.map (.int .i32)))
  clear hb1 hbw hblk P1
  go_wp2_with fail
  generalize hW : w1.alloc (.cells #[.int .i32 f.a, .int .i32 f.b, .int .i32 f.c] 82) = W at *
  have PA2 : Hid (Blk W w1.heap.size 82 (f.nums.map (.int .i32))) := Lib.hid (by rw [← hW]; exact PA.out)
  clear hW e3 e4 e5 PA
  generalize w1.heap.size = g5 at *
  go_loop [26] (fun u => ∃ i : Nat, i ≤ 3 ∧ u = .int .i64 (i : Int) ∧ ∀ j, 0 ≤ j → j < 0 + i → f.nums.getD j 0 = 0) (fun u => 3 - (intOf u).toNat)
  case atStart => exact ⟨0, by omega, rfl, fun j h1 h2 => by omega⟩
  case round =>
    obtain ⟨i, hiM, rfl, hall⟩ := hrel
    have Hall := Lib.hid hall
    clear hall
    by_cases hlt : i < 3
    · have hltI : (i : Int) < 3 := by omega
      have hc : W.cell? ⟨g5, 0 + i, none⟩ = some (.int .i32 (f.nums.getD (0 + i) 0)) := by
        rw [PA2.out.cell, List.getElem?_map, List.getD_eq_getElem?_getD, List.getElem?_eq_getElem (show 0 + i < f.nums.length from by show 0 + i < 3; omega)]
        rfl
      obtain ⟨x, hx⟩ : ∃ x, f.nums.getD (0 + i) 0 = x := ⟨_, rfl⟩
      rw [hx] at hc
      try rw [Nat.zero_add] at hc
      by_cases h0 : x = 0
      · subst h0
        have Hx := Lib.hid hx
        clear hx
        go_wp2_with fail
        go_round
        case rel =>
          refine ⟨i + 1, by omega, by go_num, fun j h1 h2 => ?_⟩
          by_cases e : j = 0 + i
          · rw [e]; exact Hx.out
          · exact Hall.out j h1 (by omega)
        case measure => first | (simp [intOf]; done) | (simp [intOf]; omega)
      · have hxb : (x == 0) = false := beq_eq_false_iff_ne.2 h0
        have hcode : codeF f = 1 := by
          rw [Hcode.out, if_neg]
          intro ha
          have hl : 0 + i < f.nums.length := by show 0 + i < 3; omega
          have hm : x ∈ f.nums.drop 0 := by
            rw [← hx, List.getD_eq_getElem?_getD, List.getElem?_eq_getElem hl]
            exact List.mem_drop_iff_getElem.2 ⟨i, by omega, rfl⟩
          exact h0 (by simpa using List.all_eq_true.1 ha x hm)
        have Hc1 := Lib.hid hcode
        clear hx h0 hcode
        go_wp2_with fail
        refine bodyPost_ret (results_tmp2 rfl _ _ _) rfl ?_
        exact GotF.no (x := 1) Hc1.out (by decide) B2.out
    · obtain rfl : i = 3 := by omega
      have hcode : codeF f = 0 := by
        rw [Hcode.out, if_pos]
        refine List.all_eq_true.2 fun x hx => ?_
        obtain ⟨q, hq, rfl⟩ := List.mem_drop_iff_getElem.1 hx
        have hq3 : q + 0 < 3 := hq
        have := Hall.out (0 + q) (by omega) (by omega)
        rw [List.getD_eq_getElem?_getD, List.getElem?_eq_getElem (by omega)] at this
        simpa using this
      have Hc0 := Lib.hid hcode
      clear hcode Hall Hcode
      have e0 : W.cell? ⟨w.heap.size, 0, none⟩ = some (.int .i64 f.k) := PF.out.cell 0
      have hwW : w.heap.size < W.heap.size := PF.out.lt
      have hgW : g5 < W.heap.size := PA2.out.lt
      have PF2 := Lib.hid (PF.out.alloc (.cells #[.int .u8 126, .int .u8 (kb.toNat : Int)] 5))
      have PA3 := Lib.hid (PA2.out.alloc (.cells #[.int .u8 126, .int .u8 (kb.toNat : Int)] 5))
      have e1 : (W.alloc (.cells #[.int .u8 126, .int .u8 (kb.toNat : Int)] 5)).cell? ⟨w.heap.size, 1, none⟩ = some (.int .u16 (f.q : Int)) := PF2.out.cell 1
      have hq64 : IntKind.u64.wrap (f.q : Int) = (f.q : Int) := IntWalk.u64_in _ (by have := HF.out.q; omega)
      have ht64 : IntKind.u64.wrap (f.t : Int) = (f.t : Int) := IntWalk.u64_in _ (by have := HF.out.t; omega)
      have hrd0 := Lib.hid (new_rd W 5 ([126, kb].map bv))
      have B3 := Lib.hid (B2.out.alloc B2.out.size (.cells #[.int .u8 126, .int .u8 (kb.toNat : Int)] 5))
      have hput1 := fun w' h => Txt.put_any (some ⟨W.heap.size, 0, none⟩) [126, kb] 2 2 f.q 2 W.heap.size (W.heap.size + 1) w' h rfl (fun h => by cases h) (by have := HF.out.q; omega) (by decide) (by decide)
      clear B2 PF PA2
      go_wp2_with fail
      refine (hput1 _ hrd0.out).mono ?_
      rintro e w3 ⟨⟨v3, rfl, hown3⟩, hb3⟩
      have PF3 := Lib.hid (PF2.out.next hb3)
      have PA4 := Lib.hid (PA3.out.next hb3)
      have B4 := Lib.hid (_root_.Go.Proofs.Ytijijfggppnbpaa.bt B3.out hb3)
      have e2 : w3.cell? ⟨w.heap.size, 2, none⟩ = some (.int .u32 (f.t : Int)) := PF3.out.cell 2
      obtain ⟨A3, cap3, rfl, hrd3, _, _, hA3⟩ := own_rd hown3
      have Hrd3 := Lib.hid hrd3
      have hl3 : ([126, kb] ++ leB f.q 2).length = 4 := by rw [List.length_append, leB_len]; rfl
      have hput2 := Txt.put_any A3 ([126, kb] ++ leB f.q 2) _ cap3 f.t 4 _ _ w3 hrd3 rfl hA3 (by have := HF.out.t; omega) (by decide) (by omega)
      rw [hl3] at hput2
      clear hb3 hown3 hrd3 hA3 hput1 PF2 PA3 B3 e0 e1 hrd0
      rw [hl3]
      go_wp2_with fail
      refine hput2.mono ?_
      rintro e w4 ⟨⟨v4, rfl, hown4⟩, hb4⟩
      have PA5 := Lib.hid (PA4.out.next hb4)
      have B5 := Lib.hid (_root_.Go.Proofs.Ytijijfggppnbpaa.bt B4.out hb4)
      rw [← Hhead.out] at hown4
      have Hown4 := Lib.hid (own_down hown4 (show w.heap.size ≤ _ from B4.out.size))
      clear hb4 hown4 PF3 PA4 B4 e2 hput2 hl3
      go_wp2_with fail
      go_loopw [8, 10, 49] (fun v _ u wr => ∃ i : Nat, i ≤ 0 ∧ u = .int .i64 (i : Int) ∧ wr.ownsRow w.heap.size 5 1 v (headL f ++ numsL (f.nums.take i)).length ((headL f ++ numsL (f.nums.take i)).map bv) ∧ Below w.heap.size w wr ∧ Blk wr g5 82 (f.nums.map (.int .i32))) (fun _ _ u _ => 0 - (intOf u).toNat)
      case atStart => exact ⟨0, by omega, rfl, by rw [show numsL (f.nums.take 0) = [] from rfl, List.append_nil]; exact Hown4.out, B5.out, PA5.out⟩
      case round =>
        clear Hown4 B5 PA5
        obtain ⟨i, hiN, rfl, hown, hb, hpa⟩ := hrel
        have Hb := Lib.hid hb
        have Hpa := Lib.hid hpa
        have hL8 : (headL f ++ numsL (f.nums.take i)).length ≤ 1000 := by
          rw [List.length_append, Hhead.out]
          have h1 : ∀ l : List Int, (numsL l).length = 4 * l.length := fun l => by
            unfold numsL
            induction l with
            | nil => rfl
            | cons a l ih => rw [List.flatMap_cons, List.length_append, ih, leB_len, List.length_cons]; omega
          have h2 : (f.nums.take i).length ≤ 3 := List.length_take_le' i f.nums
          rw [h1]
          simp only [List.length_append, leB_len, List.length_cons, List.length_nil]
          omega
        obtain ⟨L, hL⟩ : ∃ L, L = headL f ++ numsL (f.nums.take i) := ⟨_, rfl⟩
        obtain ⟨m, hm⟩ : ∃ m, L.length = m := ⟨_, rfl⟩
        rw [← hL, hm] at hown hL8
        have HM := Lib.hid hm
        obtain ⟨A5, cap5, rfl, hrd5, _, _, hA5⟩ := own_rd hown
        have Hrd5 := Lib.hid hrd5
        by_cases hlt : i < 0
        · have hltI : (i : Int) < 0 := by omega
          have hi3 : i < f.nums.length := by show i < 3; omega
          have hc : wr.cell? ⟨g5, i, none⟩ = some (.int .i32 f.nums[i]) := by
            rw [Hpa.out.cell, List.getElem?_map, List.getElem?_eq_getElem hi3]
            rfl
          have hu1 : IntKind.u32.wrap f.nums[i] = (low32 f.nums[i] : Int) := by rw [IntKind.wrap_u32]; unfold low32; omega
          have hu0 : low32 f.nums[i] < 4294967296 := by unfold low32; omega
          have hu2 : IntKind.u64.wrap (low32 f.nums[i] : Int) = (low32 f.nums[i] : Int) := IntWalk.u64_in _ (by omega)
          have hnx : headL f ++ numsL (f.nums.take (i + 1)) = L ++ leB (low32 f.nums[i]) 4 := by
            rw [hL, List.take_add_one, List.getElem?_eq_getElem hi3, List.append_assoc]
            unfold numsL
            rw [List.flatMap_append]
            simp
          have hput3 := Txt.put_any A5 L m cap5 (low32 f.nums[i]) 4 _ _ wr hrd5 hm hA5 (by omega) (by decide) (by omega)
          rw [← hnx] at hput3
          clear hnx hrd5 hA5 hown hb hpa hu0 hL hm
          obtain ⟨L2, hL2⟩ : ∃ L2, L2 = headL f ++ numsL (f.nums.take (i + 1)) := ⟨_, rfl⟩
          rw [← hL2] at hput3
          have HL2 := Lib.hid hL2
          clear hL2
          generalize low32 f.nums[i] = y at *
          generalize f.nums[i] = x at *
          go_wp2_with fail
          refine hput3.mono ?_
          rintro e w6 ⟨⟨v6, rfl, hown6⟩, hb6⟩
          have HO := Lib.hid (own_down hown6 (show w.heap.size ≤ _ from Hb.out.size))
          have PA7 := Lib.hid (Hpa.out.next hb6)
          have B7 := Lib.hid (_root_.Go.Proofs.Ytijijfggppnbpaa.bt Hb.out hb6)
          clear hown6 hb6 hput3
          go_wp2_with fail
          go_roundw
          case rel => exact ⟨i + 1, by omega, by go_num, by rw [← HL2.out]; exact HO.out, B7.out, PA7.out⟩
          case measure => first | (simp [intOf]; done) | (simp [intOf]; omega)
        · obtain rfl : i = 0 := by omega
          have hown' : Crc.Own wr w.heap.size (.slice A5 m cap5) L := by unfold Crc.Own; rw [hm]; exact hown
          obtain ⟨A6, cap6, e6, hby6, _, hn6⟩ := hown'.bytes
          injection e6 with e7 e9 e8
          subst e7 e8
          have hput4 := Crc.put_any A5 L cap5 wr hby6 hn6 (by omega)
          rw [hL, ← Hby.out, ← hL, hm] at hput4
          clear hby6 hn6 hrd5 hA5 hown hb hpa hown' e9 hL hm
          go_wp2_with fail
          refine hput4.mono ?_
          rintro e w6 ⟨v6, rfl, hown6, hb6⟩
          have HO := Lib.hid (own_down hown6 (show w.heap.size ≤ _ from Hb.out.size))
          have B7 := Lib.hid (_root_.Go.Proofs.Ytijijfggppnbpaa.bt Hb.out hb6)
          clear hown6 hb6 hput4
          go_wp2_with fail
          refine bodyPost_ret (results_tmp2 rfl _ _ _) rfl ?_
          exact GotF.yes Hc0.out rfl HO.out B7.out
set_option maxRecDepth 100000 in
set_option maxHeartbeats 1000000 in
theorem put_1 (f : Fr) (hf : f.Ok) (hk : numK f.k = 1) (hk1 : 1 ≤ f.k) (hk7 : f.k ≤ 7) (w : World) :
    Calls Try.prog 12 #[f.v] w (GotF w f) := by
  obtain ⟨i0, hi, hz0, hz1, hz2⟩ := info_parts Txt.infoByte
  have hnum := fun w => numbers_any f.k w
  have hblk := Lib.hid (Blk.mk w 25 f.cells)
  have hbw := Lib.hid (bl w (.cells f.cells.toArray 25))
  have hf1 := hf
  have HF := Lib.hid hf1
  clear hf hf1
  have hc0 : (w.alloc (.cells f.cells.toArray 25)).cell? ⟨w.heap.size, 0, none⟩ = some (.int .i64 f.k) := hblk.out.cell 0
  unfold Fr.v
  have hcode : codeF f = if (f.nums.drop 1).all (· == 0) = true then 0 else 1 := by unfold codeF; rw [hk, if_neg (by omega)]; rfl
  have hby : bytesF f = Crc.put (headL f ++ numsL (f.nums.take 1)) := by unfold bytesF; rw [hk]; rfl
  rw [hk] at hnum
  have Hcode := Lib.hid hcode
  have Hby := Lib.hid hby
  have hw1 : IntKind.u8.wrap f.k = ((UInt8.ofNat f.k.toNat).toNat : Int) := by rw [UInt8.toNat_ofNat', IntKind.wrap_u8]; omega
  obtain ⟨kb, hkb⟩ : ∃ c, c = UInt8.ofNat f.k.toNat := ⟨_, rfl⟩
  rw [← hkb] at hw1
  have hhead : headL f = [126, kb] ++ leB f.q 2 ++ leB f.t 4 := by rw [hkb]; rfl
  have Hhead := Lib.hid hhead
  clear hcode hby hk hkb hhead
  obtain ⟨cs, hcs⟩ : ∃ c, c = f.cells.toArray := ⟨_, rfl⟩
  rw [← hcs] at hblk hbw hc0 ⊢
  clear hcs
  go_enter Try.func12, Try.ntmps12
  go_wp2_with fail
  refine (hnum _).mono ?_
  rintro e w1 ⟨rfl, hb1⟩
  have P1 := hblk.out.below hb1 (show w.heap.size < (w.alloc (.cells cs 25)).heap.size by simp)
  have e3 : w1.cell? ⟨w.heap.size, 3, none⟩ = some (.int .i32 f.a) := P1.cell 3
  have e4 : w1.cell? ⟨w.heap.size, 4, none⟩ = some (.int .i32 f.b) := P1.cell 4
  have e5 : w1.cell? ⟨w.heap.size, 5, none⟩ = some (.int .i32 f.c) := P1.cell 5
  have hsz1 := (_root_.Go.Proofs.Ytijijfggppnbpaa.bt hbw.out hb1).size
  have B2 := Lib.hid ((_root_.Go.Proofs.Ytijijfggppnbpaa.bt hbw.out hb1).alloc hsz1 (.cells #[.int .i32 f.a, .int .i32 f.b, .int .i32 f.c] 82))
  have PF := Lib.hid (P1.alloc (.cells #[.int .i32 f.a, .int .i32 f.b, .int .i32 f.c] 82))
  have PA := Lib.hid (Blk.mk w1 82 (f.nums.map (.int .i32)))
  clear hb1 hbw hblk P1
  go_wp2_with fail
  generalize hW : w1.alloc (.cells #[.int .i32 f.a, .int .i32 f.b, .int .i32 f.c] 82) = W at *
  have PA2 : Hid (Blk W w1.heap.size 82 (f.nums.map (.int .i32))) := Lib.hid (by rw [← hW]; exact PA.out)
  clear hW e3 e4 e5 PA
  generalize w1.heap.size = g5 at *
  go_loop [26] (fun u => ∃ i : Nat, i ≤ 2 ∧ u = .int .i64 (i : Int) ∧ ∀ j, 1 ≤ j → j < 1 + i → f.nums.getD j 0 = 0) (fun u => 2 - (intOf u).toNat)
  case atStart => exact ⟨0, by omega, rfl, fun j h1 h2 => by omega⟩
  case round =>
    obtain ⟨i, hiM, rfl, hall⟩ := hrel
    have Hall := Lib.hid hall
    clear hall
    by_cases hlt : i < 2
    · have hltI : (i : Int) < 2 := by omega
      have hc : W.cell? ⟨g5, 1 + i, none⟩ = some (.int .i32 (f.nums.getD (1 + i) 0)) := by
        rw [PA2.out.cell, List.getElem?_map, List.getD_eq_getElem?_getD, List.getElem?_eq_getElem (show 1 + i < f.nums.length from by show 1 + i < 3; omega)]
        rfl
      obtain ⟨x, hx⟩ : ∃ x, f.nums.getD (1 + i) 0 = x := ⟨_, rfl⟩
      rw [hx] at hc
      try rw [Nat.zero_add] at hc
      by_cases h0 : x = 0
      · subst h0
        have Hx := Lib.hid hx
        clear hx
        go_wp2_with fail
        go_round
        case rel =>
          refine ⟨i + 1, by omega, by go_num, fun j h1 h2 => ?_⟩
          by_cases e : j = 1 + i
          · rw [e]; exact Hx.out
          · exact Hall.out j h1 (by omega)
        case measure => first | (simp [intOf]; done) | (simp [intOf]; omega)
      · have hxb : (x == 0) = false := beq_eq_false_iff_ne.2 h0
        have hcode : codeF f = 1 := by
          rw [Hcode.out, if_neg]
          intro ha
          have hl : 1 + i < f.nums.length := by show 1 + i < 3; omega
          have hm : x ∈ f.nums.drop 1 := by
            rw [← hx, List.getD_eq_getElem?_getD, List.getElem?_eq_getElem hl]
            exact List.mem_drop_iff_getElem.2 ⟨i, by omega, rfl⟩
          exact h0 (by simpa using List.all_eq_true.1 ha x hm)
        have Hc1 := Lib.hid hcode
        clear hx h0 hcode
        go_wp2_with fail
        refine bodyPost_ret (results_tmp2 rfl _ _ _) rfl ?_
        exact GotF.no (x := 1) Hc1.out (by decide) B2.out
    · obtain rfl : i = 2 := by omega
      have hcode : codeF f = 0 := by
        rw [Hcode.out, if_pos]
        refine List.all_eq_true.2 fun x hx => ?_
        obtain ⟨q, hq, rfl⟩ := List.mem_drop_iff_getElem.1 hx
        have hq3 : q + 1 < 3 := hq
        have := Hall.out (1 + q) (by omega) (by omega)
        rw [List.getD_eq_getElem?_getD, List.getElem?_eq_getElem (by omega)] at this
        simpa using this
      have Hc0 := Lib.hid hcode
      clear hcode Hall Hcode
      have e0 : W.cell? ⟨w.heap.size, 0, none⟩ = some (.int .i64 f.k) := PF.out.cell 0
      have hwW : w.heap.size < W.heap.size := PF.out.lt
      have hgW : g5 < W.heap.size := PA2.out.lt
      have PF2 := Lib.hid (PF.out.alloc (.cells #[.int .u8 126, .int .u8 (kb.toNat : Int)] 5))
      have PA3 := Lib.hid (PA2.out.alloc (.cells #[.int .u8 126, .int .u8 (kb.toNat : Int)] 5))
      have e1 : (W.alloc (.cells #[.int .u8 126, .int .u8 (kb.toNat : Int)] 5)).cell? ⟨w.heap.size, 1, none⟩ = some (.int .u16 (f.q : Int)) := PF2.out.cell 1
      have hq64 : IntKind.u64.wrap (f.q : Int) = (f.q : Int) := IntWalk.u64_in _ (by have := HF.out.q; omega)
      have ht64 : IntKind.u64.wrap (f.t : Int) = (f.t : Int) := IntWalk.u64_in _ (by have := HF.out.t; omega)
      have hrd0 := Lib.hid (new_rd W 5 ([126, kb].map bv))
      have B3 := Lib.hid (B2.out.alloc B2.out.size (.cells #[.int .u8 126, .int .u8 (kb.toNat : Int)] 5))
      have hput1 := fun w' h => Txt.put_any (some ⟨W.heap.size, 0, none⟩) [126, kb] 2 2 f.q 2 W.heap.size (W.heap.size + 1) w' h rfl (fun h => by cases h) (by have := HF.out.q; omega) (by decide) (by decide)
      clear B2 PF PA2
      go_wp2_with fail
      refine (hput1 _ hrd0.out).mono ?_
      rintro e w3 ⟨⟨v3, rfl, hown3⟩, hb3⟩
      have PF3 := Lib.hid (PF2.out.next hb3)
      have PA4 := Lib.hid (PA3.out.next hb3)
      have B4 := Lib.hid (_root_.Go.Proofs.Ytijijfggppnbpaa.bt B3.out hb3)
      have e2 : w3.cell? ⟨w.heap.size, 2, none⟩ = some (.int .u32 (f.t : Int)) := PF3.out.cell 2
      obtain ⟨A3, cap3, rfl, hrd3, _, _, hA3⟩ := own_rd hown3
      have Hrd3 := Lib.hid hrd3
      have hl3 : ([126, kb] ++ leB f.q 2).length = 4 := by rw [List.length_append, leB_len]; rfl
      have hput2 := Txt.put_any A3 ([126, kb] ++ leB f.q 2) _ cap3 f.t 4 _ _ w3 hrd3 rfl hA3 (by have := HF.out.t; omega) (by decide) (by omega)
      rw [hl3] at hput2
      clear hb3 hown3 hrd3 hA3 hput1 PF2 PA3 B3 e0 e1 hrd0
      rw [hl3]
      go_wp2_with fail
      refine hput2.mono ?_
      rintro e w4 ⟨⟨v4, rfl, hown4⟩, hb4⟩
      have PA5 := Lib.hid (PA4.out.next hb4)
      have B5 := Lib.hid (_root_.Go.Proofs.Ytijijfggppnbpaa.bt B4.out hb4)
      rw [← Hhead.out] at hown4
      have Hown4 := Lib.hid (own_down hown4 (show w.heap.size ≤ _ from B4.out.size))
      clear hb4 hown4 PF3 PA4 B4 e2 hput2 hl3
      go_wp2_with fail
      go_loopw [8, 10, 49] (fun v _ u wr => ∃ i : Nat, i ≤ 1 ∧ u = .int .i64 (i : Int) ∧ wr.ownsRow w.heap.size 5 1 v (headL f ++ numsL (f.nums.take i)).length ((headL f ++ numsL (f.nums.take i)).map bv) ∧ Below w.heap.size w wr ∧ Blk wr g5 82 (f.nums.map (.int .i32))) (fun _ _ u _ => 1 - (intOf u).toNat)
      case atStart => exact ⟨0, by omega, rfl, by rw [show numsL (f.nums.take 0) = [] from rfl, List.append_nil]; exact Hown4.out, B5.out, PA5.out⟩
      case round =>
        clear Hown4 B5 PA5
        obtain ⟨i, hiN, rfl, hown, hb, hpa⟩ := hrel
        have Hb := Lib.hid hb
        have Hpa := Lib.hid hpa
        have hL8 : (headL f ++ numsL (f.nums.take i)).length ≤ 1000 := by
          rw [List.length_append, Hhead.out]
          have h1 : ∀ l : List Int, (numsL l).length = 4 * l.length := fun l => by
            unfold numsL
            induction l with
            | nil => rfl
            | cons a l ih => rw [List.flatMap_cons, List.length_append, ih, leB_len, List.length_cons]; omega
          have h2 : (f.nums.take i).length ≤ 3 := List.length_take_le' i f.nums
          rw [h1]
          simp only [List.length_append, leB_len, List.length_cons, List.length_nil]
          omega
        obtain ⟨L, hL⟩ : ∃ L, L = headL f ++ numsL (f.nums.take i) := ⟨_, rfl⟩
        obtain ⟨m, hm⟩ : ∃ m, L.length = m := ⟨_, rfl⟩
        rw [← hL, hm] at hown hL8
        have HM := Lib.hid hm
        obtain ⟨A5, cap5, rfl, hrd5, _, _, hA5⟩ := own_rd hown
        have Hrd5 := Lib.hid hrd5
        by_cases hlt : i < 1
        · have hltI : (i : Int) < 1 := by omega
          have hi3 : i < f.nums.length := by show i < 3; omega
          have hc : wr.cell? ⟨g5, i, none⟩ = some (.int .i32 f.nums[i]) := by
            rw [Hpa.out.cell, List.getElem?_map, List.getElem?_eq_getElem hi3]
            rfl
          have hu1 : IntKind.u32.wrap f.nums[i] = (low32 f.nums[i] : Int) := by rw [IntKind.wrap_u32]; unfold low32; omega
          have hu0 : low32 f.nums[i] < 4294967296 := by unfold low32; omega
          have hu2 : IntKind.u64.wrap (low32 f.nums[i] : Int) = (low32 f.nums[i] : Int) := IntWalk.u64_in _ (by omega)
          have hnx : headL f ++ numsL (f.nums.take (i + 1)) = L ++ leB (low32 f.nums[i]) 4 := by
            rw [hL, List.take_add_one, List.getElem?_eq_getElem hi3, List.append_assoc]
            unfold numsL
            rw [List.flatMap_append]
            simp
          have hput3 := Txt.put_any A5 L m cap5 (low32 f.nums[i]) 4 _ _ wr hrd5 hm hA5 (by omega) (by decide) (by omega)
          rw [← hnx] at hput3
          clear hnx hrd5 hA5 hown hb hpa hu0 hL hm
          obtain ⟨L2, hL2⟩ : ∃ L2, L2 = headL f ++ numsL (f.nums.take (i + 1)) := ⟨_, rfl⟩
          rw [← hL2] at hput3
          have HL2 := Lib.hid hL2
          clear hL2
          generalize low32 f.nums[i] = y at *
          generalize f.nums[i] = x at *
          go_wp2_with fail
          refine hput3.mono ?_
          rintro e w6 ⟨⟨v6, rfl, hown6⟩, hb6⟩
          have HO := Lib.hid (own_down hown6 (show w.heap.size ≤ _ from Hb.out.size))
          have PA7 := Lib.hid (Hpa.out.next hb6)
          have B7 := Lib.hid (_root_.Go.Proofs.Ytijijfggppnbpaa.bt Hb.out hb6)
          clear hown6 hb6 hput3
          go_wp2_with fail
          go_roundw
          case rel => exact ⟨i + 1, by omega, by go_num, by rw [← HL2.out]; exact HO.out, B7.out, PA7.out⟩
          case measure => first | (simp [intOf]; done) | (simp [intOf]; omega)
        · obtain rfl : i = 1 := by omega
          have hown' : Crc.Own wr w.heap.size (.slice A5 m cap5) L := by unfold Crc.Own; rw [hm]; exact hown
          obtain ⟨A6, cap6, e6, hby6, _, hn6⟩ := hown'.bytes
          injection e6 with e7 e9 e8
          subst e7 e8
          have hput4 := Crc.put_any A5 L cap5 wr hby6 hn6 (by omega)
          rw [hL, ← Hby.out, ← hL, hm] at hput4
          clear hby6 hn6 hrd5 hA5 hown hb hpa hown' e9 hL hm
          go_wp2_with fail
          refine hput4.mono ?_
          rintro e w6 ⟨v6, rfl, hown6, hb6⟩
          have HO := Lib.hid (own_down hown6 (show w.heap.size ≤ _ from Hb.out.size))
          have B7 := Lib.hid (_root_.Go.Proofs.Ytijijfggppnbpaa.bt Hb.out hb6)
          clear hown6 hb6 hput4
          go_wp2_with fail
          refine bodyPost_ret (results_tmp2 rfl _ _ _) rfl ?_
          exact GotF.yes Hc0.out rfl HO.out B7.out
set_option maxRecDepth 100000 in
set_option maxHeartbeats 1000000 in
theorem put_2 (f : Fr) (hf : f.Ok) (hk : numK f.k = 2) (hk1 : 1 ≤ f.k) (hk7 : f.k ≤ 7) (w : World) :
    Calls Try.prog 12 #[f.v] w (GotF w f) := by
  obtain ⟨i0, hi, hz0, hz1, hz2⟩ := info_parts Txt.infoByte
  have hnum := fun w => numbers_any f.k w
  have hblk := Lib.hid (Blk.mk w 25 f.cells)
  have hbw := Lib.hid (bl w (.cells f.cells.toArray 25))
  have hf1 := hf
  have HF := Lib.hid hf1
  clear hf hf1
  have hc0 : (w.alloc (.cells f.cells.toArray 25)).cell? ⟨w.heap.size, 0, none⟩ = some (.int .i64 f.k) := hblk.out.cell 0
  unfold Fr.v
  have hcode : codeF f = if (f.nums.drop 2).all (· == 0) = true then 0 else 1 := by unfold codeF; rw [hk, if_neg (by omega)]; rfl
  have hby : bytesF f = Crc.put (headL f ++ numsL (f.nums.take 2)) := by unfold bytesF; rw [hk]; rfl
  rw [hk] at hnum
  have Hcode := Lib.hid hcode
  have Hby := Lib.hid hby
  have hw1 : IntKind.u8.wrap f.k = ((UInt8.ofNat f.k.toNat).toNat : Int) := by rw [UInt8.toNat_ofNat', IntKind.wrap_u8]; omega
  obtain ⟨kb, hkb⟩ : ∃ c, c = UInt8.ofNat f.k.toNat := ⟨_, rfl⟩
  rw [← hkb] at hw1
  have hhead : headL f = [126, kb] ++ leB f.q 2 ++ leB f.t 4 := by rw [hkb]; rfl
  have Hhead := Lib.hid hhead
  clear hcode hby hk hkb hhead
  obtain ⟨cs, hcs⟩ : ∃ c, c = f.cells.toArray := ⟨_, rfl⟩
  rw [← hcs] at hblk hbw hc0 ⊢
  clear hcs
  go_enter Try.func12, Try.ntmps12
  go_wp2_with fail
  refine (hnum _).mono ?_
  rintro e w1 ⟨rfl, hb1⟩
  have P1 := hblk.out.below hb1 (show w.heap.size < (w.alloc (.cells cs 25)).heap.size by simp)
  have e3 : w1.cell? ⟨w.heap.size, 3, none⟩ = some (.int .i32 f.a) := P1.cell 3
  have e4 : w1.cell? ⟨w.heap.size, 4, none⟩ = some (.int .i32 f.b) := P1.cell 4
  have e5 : w1.cell? ⟨w.heap.size, 5, none⟩ = some (.int .i32 f.c) := P1.cell 5
  have hsz1 := (_root_.Go.Proofs.Ytijijfggppnbpaa.bt hbw.out hb1).size
  have B2 := Lib.hid ((_root_.Go.Proofs.Ytijijfggppnbpaa.bt hbw.out hb1).alloc hsz1 (.cells #[.int .i32 f.a, .int .i32 f.b, .int .i32 f.c] 82))
  have PF := Lib.hid (P1.alloc (.cells #[.int .i32 f.a, .int .i32 f.b, .int .i32 f.c] 82))
  have PA := Lib.hid (Blk.mk w1 82 (f.nums.map (.int .i32)))
  clear hb1 hbw hblk P1
  go_wp2_with fail
  generalize hW : w1.alloc (.cells #[.int .i32 f.a, .int .i32 f.b, .int .i32 f.c] 82) = W at *
  have PA2 : Hid (Blk W w1.heap.size 82 (f.nums.map (.int .i32))) := Lib.hid (by rw [← hW]; exact PA.out)
  clear hW e3 e4 e5 PA
  generalize w1.heap.size = g5 at *
  go_loop [26] (fun u => ∃ i : Nat, i ≤ 1 ∧ u = .int .i64 (i : Int) ∧ ∀ j, 2 ≤ j → j < 2 + i → f.nums.getD j 0 = 0) (fun u => 1 - (intOf u).toNat)
  case atStart => exact ⟨0, by omega, rfl, fun j h1 h2 => by omega⟩
  case round =>
    obtain ⟨i, hiM, rfl, hall⟩ := hrel
    have Hall := Lib.hid hall
    clear hall
    by_cases hlt : i < 1
    · have hltI : (i : Int) < 1 := by omega
      have hc : W.cell? ⟨g5, 2 + i, none⟩ = some (.int .i32 (f.nums.getD (2 + i) 0)) := by
        rw [PA2.out.cell, List.getElem?_map, List.getD_eq_getElem?_getD, List.getElem?_eq_getElem (show 2 + i < f.nums.length from by show 2 + i < 3; omega)]
        rfl
      obtain ⟨x, hx⟩ : ∃ x, f.nums.getD (2 + i) 0 = x := ⟨_, rfl⟩
      rw [hx] at hc
      try rw [Nat.zero_add] at hc
      by_cases h0 : x = 0
      · subst h0
        have Hx := Lib.hid hx
        clear hx
        go_wp2_with fail
        go_round
        case rel =>
          refine ⟨i + 1, by omega, by go_num, fun j h1 h2 => ?_⟩
          by_cases e : j = 2 + i
          · rw [e]; exact Hx.out
          · exact Hall.out j h1 (by omega)
        case measure => first | (simp [intOf]; done) | (simp [intOf]; omega)
      · have hxb : (x == 0) = false := beq_eq_false_iff_ne.2 h0
        have hcode : codeF f = 1 := by
          rw [Hcode.out, if_neg]
          intro ha
          have hl : 2 + i < f.nums.length := by show 2 + i < 3; omega
          have hm : x ∈ f.nums.drop 2 := by
            rw [← hx, List.getD_eq_getElem?_getD, List.getElem?_eq_getElem hl]
            exact List.mem_drop_iff_getElem.2 ⟨i, by omega, rfl⟩
          exact h0 (by simpa using List.all_eq_true.1 ha x hm)
        have Hc1 := Lib.hid hcode
        clear hx h0 hcode
        go_wp2_with fail
        refine bodyPost_ret (results_tmp2 rfl _ _ _) rfl ?_
        exact GotF.no (x := 1) Hc1.out (by decide) B2.out
    · obtain rfl : i = 1 := by omega
      have hcode : codeF f = 0 := by
        rw [Hcode.out, if_pos]
        refine List.all_eq_true.2 fun x hx => ?_
        obtain ⟨q, hq, rfl⟩ := List.mem_drop_iff_getElem.1 hx
        have hq3 : q + 2 < 3 := hq
        have := Hall.out (2 + q) (by omega) (by omega)
        rw [List.getD_eq_getElem?_getD, List.getElem?_eq_getElem (by omega)] at this
        simpa using this
      have Hc0 := Lib.hid hcode
      clear hcode Hall Hcode
      have e0 : W.cell? ⟨w.heap.size, 0, none⟩ = some (.int .i64 f.k) := PF.out.cell 0
      have hwW : w.heap.size < W.heap.size := PF.out.lt
      have hgW : g5 < W.heap.size := PA2.out.lt
      have PF2 := Lib.hid (PF.out.alloc (.cells #[.int .u8 126, .int .u8 (kb.toNat : Int)] 5))
      have PA3 := Lib.hid (PA2.out.alloc (.cells #[.int .u8 126, .int .u8 (kb.toNat : Int)] 5))
      have e1 : (W.alloc (.cells #[.int .u8 126, .int .u8 (kb.toNat : Int)] 5)).cell? ⟨w.heap.size, 1, none⟩ = some (.int .u16 (f.q : Int)) := PF2.out.cell 1
      have hq64 : IntKind.u64.wrap (f.q : Int) = (f.q : Int) := IntWalk.u64_in _ (by have := HF.out.q; omega)
      have ht64 : IntKind.u64.wrap (f.t : Int) = (f.t : Int) := IntWalk.u64_in _ (by have := HF.out.t; omega)
      have hrd0 := Lib.hid (new_rd W 5 ([126, kb].map bv))
      have B3 := Lib.hid (B2.out.alloc B2.out.size (.cells #[.int .u8 126, .int .u8 (kb.toNat : Int)] 5))
      have hput1 := fun w' h => Txt.put_any (some ⟨W.heap.size, 0, none⟩) [126, kb] 2 2 f.q 2 W.heap.size (W.heap.size + 1) w' h rfl (fun h => by cases h) (by have := HF.out.q; omega) (by decide) (by decide)
      clear B2 PF PA2
      go_wp2_with fail
      refine (hput1 _ hrd0.out).mono ?_
      rintro e w3 ⟨⟨v3, rfl, hown3⟩, hb3⟩
      have PF3 := Lib.hid (PF2.out.next hb3)
      have PA4 := Lib.hid (PA3.out.next hb3)
      have B4 := Lib.hid (_root_.Go.Proofs.Ytijijfggppnbpaa.bt B3.out hb3)
      have e2 : w3.cell? ⟨w.heap.size, 2, none⟩ = some (.int .u32 (f.t : Int)) := PF3.out.cell 2
      obtain ⟨A3, cap3, rfl, hrd3, _, _, hA3⟩ := own_rd hown3
      have Hrd3 := Lib.hid hrd3
      have hl3 : ([126, kb] ++ leB f.q 2).length = 4 := by rw [List.length_append, leB_len]; rfl
      have hput2 := Txt.put_any A3 ([126, kb] ++ leB f.q 2) _ cap3 f.t 4 _ _ w3 hrd3 rfl hA3 (by have := HF.out.t; omega) (by decide) (by omega)
      rw [hl3] at hput2
      clear hb3 hown3 hrd3 hA3 hput1 PF2 PA3 B3 e0 e1 hrd0
      rw [hl3]
      go_wp2_with fail
      refine hput2.mono ?_
      rintro e w4 ⟨⟨v4, rfl, hown4⟩, hb4⟩
      have PA5 := Lib.hid (PA4.out.next hb4)
      have B5 := Lib.hid (_root_.Go.Proofs.Ytijijfggppnbpaa.bt B4.out hb4)
      rw [← Hhead.out] at hown4
      have Hown4 := Lib.hid (own_down hown4 (show w.heap.size ≤ _ from B4.out.size))
      clear hb4 hown4 PF3 PA4 B4 e2 hput2 hl3
      go_wp2_with fail
      go_loopw [8, 10, 49] (fun v _ u wr => ∃ i : Nat, i ≤ 2 ∧ u = .int .i64 (i : Int) ∧ wr.ownsRow w.heap.size 5 1 v (headL f ++ numsL (f.nums.take i)).length ((headL f ++ numsL (f.nums.take i)).map bv) ∧ Below w.heap.size w wr ∧ Blk wr g5 82 (f.nums.map (.int .i32))) (fun _ _ u _ => 2 - (intOf u).toNat)
      case atStart => exact ⟨0, by omega, rfl, by rw [show numsL (f.nums.take 0) = [] from rfl, List.append_nil]; exact Hown4.out, B5.out, PA5.out⟩
      case round =>
        clear Hown4 B5 PA5
        obtain ⟨i, hiN, rfl, hown, hb, hpa⟩ := hrel
        have Hb := Lib.hid hb
        have Hpa := Lib.hid hpa
        have hL8 : (headL f ++ numsL (f.nums.take i)).length ≤ 1000 := by
          rw [List.length_append, Hhead.out]
          have h1 : ∀ l : List Int, (numsL l).length = 4 * l.length := fun l => by
            unfold numsL
            induction l with
            | nil => rfl
            | cons a l ih => rw [List.flatMap_cons, List.length_append, ih, leB_len, List.length_cons]; omega
          have h2 : (f.nums.take i).length ≤ 3 := List.length_take_le' i f.nums
          rw [h1]
          simp only [List.length_append, leB_len, List.length_cons, List.length_nil]
          omega
        obtain ⟨L, hL⟩ : ∃ L, L = headL f ++ numsL (f.nums.take i) := ⟨_, rfl⟩
        obtain ⟨m, hm⟩ : ∃ m, L.length = m := ⟨_, rfl⟩
        rw [← hL, hm] at hown hL8
        have HM := Lib.hid hm
        obtain ⟨A5, cap5, rfl, hrd5, _, _, hA5⟩ := own_rd hown
        have Hrd5 := Lib.hid hrd5
        by_cases hlt : i < 2
        · have hltI : (i : Int) < 2 := by omega
          have hi3 : i < f.nums.length := by show i < 3; omega
          have hc : wr.cell? ⟨g5, i, none⟩ = some (.int .i32 f.nums[i]) := by
            rw [Hpa.out.cell, List.getElem?_map, List.getElem?_eq_getElem hi3]
            rfl
          have hu1 : IntKind.u32.wrap f.nums[i] = (low32 f.nums[i] : Int) := by rw [IntKind.wrap_u32]; unfold low32; omega
          have hu0 : low32 f.nums[i] < 4294967296 := by unfold low32; omega
          have hu2 : IntKind.u64.wrap (low32 f.nums[i] : Int) = (low32 f.nums[i] : Int) := IntWalk.u64_in _ (by omega)
          have hnx : headL f ++ numsL (f.nums.take (i + 1)) = L ++ leB (low32 f.nums[i]) 4 := by
            rw [hL, List.take_add_one, List.getElem?_eq_getElem hi3, List.append_assoc]
            unfold numsL
            rw [List.flatMap_append]
            simp
          have hput3 := Txt.put_any A5 L m cap5 (low32 f.nums[i]) 4 _ _ wr hrd5 hm hA5 (by omega) (by decide) (by omega)
          rw [← hnx] at hput3
          clear hnx hrd5 hA5 hown hb hpa hu0 hL hm
          obtain ⟨L2, hL2⟩ : ∃ L2, L2 = headL f ++ numsL (f.nums.take (i + 1)) := ⟨_, rfl⟩
          rw [← hL2] at hput3
          have HL2 := Lib.hid hL2
          clear hL2
          generalize low32 f.nums[i] = y at *
          generalize f.nums[i] = x at *
          go_wp2_with fail
          refine hput3.mono ?_
          rintro e w6 ⟨⟨v6, rfl, hown6⟩, hb6⟩
          have HO := Lib.hid (own_down hown6 (show w.heap.size ≤ _ from Hb.out.size))
          have PA7 := Lib.hid (Hpa.out.next hb6)
          have B7 := Lib.hid (_root_.Go.Proofs.Ytijijfggppnbpaa.bt Hb.out hb6)
          clear hown6 hb6 hput3
          go_wp2_with fail
          go_roundw
          case rel => exact ⟨i + 1, by omega, by go_num, by rw [← HL2.out]; exact HO.out, B7.out, PA7.out⟩
          case measure => first | (simp [intOf]; done) | (simp [intOf]; omega)
        · obtain rfl : i = 2 := by omega
          have hown' : Crc.Own wr w.heap.size (.slice A5 m cap5) L := by unfold Crc.Own; rw [hm]; exact hown
          obtain ⟨A6, cap6, e6, hby6, _, hn6⟩ := hown'.bytes
          injection e6 with e7 e9 e8
          subst e7 e8
          have hput4 := Crc.put_any A5 L cap5 wr hby6 hn6 (by omega)
          rw [hL, ← Hby.out, ← hL, hm] at hput4
          clear hby6 hn6 hrd5 hA5 hown hb hpa hown' e9 hL hm
          go_wp2_with fail
          refine hput4.mono ?_
          rintro e w6 ⟨v6, rfl, hown6, hb6⟩
          have HO := Lib.hid (own_down hown6 (show w.heap.size ≤ _ from Hb.out.size))
          have B7 := Lib.hid (_root_.Go.Proofs.Ytijijfggppnbpaa.bt Hb.out hb6)
          clear hown6 hb6 hput4
          go_wp2_with fail
          refine bodyPost_ret (results_tmp2 rfl _ _ _) rfl ?_
          exact GotF.yes Hc0.out rfl HO.out B7.out
set_option maxRecDepth 100000 in
set_option maxHeartbeats 1000000 in
theorem put_3 (f : Fr) (hf : f.Ok) (hk : numK f.k = 3) (hk1 : 1 ≤ f.k) (hk7 : f.k ≤ 7) (w : World) :
    Calls Try.prog 12 #[f.v] w (GotF w f) := by
  obtain ⟨i0, hi, hz0, hz1, hz2⟩ := info_parts Txt.infoByte
  have hnum := fun w => numbers_any f.k w
  have hblk := Lib.hid (Blk.mk w 25 f.cells)
  have hbw := Lib.hid (bl w (.cells f.cells.toArray 25))
  have hf1 := hf
  have HF := Lib.hid hf1
  clear hf hf1
  have hc0 : (w.alloc (.cells f.cells.toArray 25)).cell? ⟨w.heap.size, 0, none⟩ = some (.int .i64 f.k) := hblk.out.cell 0
  unfold Fr.v
  have hcode : codeF f = if (f.nums.drop 3).all (· == 0) = true then 0 else 1 := by unfold codeF; rw [hk, if_neg (by omega)]; rfl
  have hby : bytesF f = Crc.put (headL f ++ numsL (f.nums.take 3)) := by unfold bytesF; rw [hk]; rfl
  rw [hk] at hnum
  have Hcode := Lib.hid hcode
  have Hby := Lib.hid hby
  have hw1 : IntKind.u8.wrap f.k = ((UInt8.ofNat f.k.toNat).toNat : Int) := by rw [UInt8.toNat_ofNat', IntKind.wrap_u8]; omega
  obtain ⟨kb, hkb⟩ : ∃ c, c = UInt8.ofNat f.k.toNat := ⟨_, rfl⟩
  rw [← hkb] at hw1
  have hhead : headL f = [126, kb] ++ leB f.q 2 ++ leB f.t 4 := by rw [hkb]; rfl
  have Hhead := Lib.hid hhead
  clear hcode hby hk hkb hhead
  obtain ⟨cs, hcs⟩ : ∃ c, c = f.cells.toArray := ⟨_, rfl⟩
  rw [← hcs] at hblk hbw hc0 ⊢
  clear hcs
  go_enter Try.func12, Try.ntmps12
  go_wp2_with fail
  refine (hnum _).mono ?_
  rintro e w1 ⟨rfl, hb1⟩
  have P1 := hblk.out.below hb1 (show w.heap.size < (w.alloc (.cells cs 25)).heap.size by simp)
  have e3 : w1.cell? ⟨w.heap.size, 3, none⟩ = some (.int .i32 f.a) := P1.cell 3
  have e4 : w1.cell? ⟨w.heap.size, 4, none⟩ = some (.int .i32 f.b) := P1.cell 4
  have e5 : w1.cell? ⟨w.heap.size, 5, none⟩ = some (.int .i32 f.c) := P1.cell 5
  have hsz1 := (_root_.Go.Proofs.Ytijijfggppnbpaa.bt hbw.out hb1).size
  have B2 := Lib.hid ((_root_.Go.Proofs.Ytijijfggppnbpaa.bt hbw.out hb1).alloc hsz1 (.cells #[.int .i32 f.a, .int .i32 f.b, .int .i32 f.c] 82))
  have PF := Lib.hid (P1.alloc (.cells #[.int .i32 f.a, .int .i32 f.b, .int .i32 f.c] 82))
  have PA := Lib.hid (Blk.mk w1 82 (f.nums.map (.int .i32)))
  clear hb1 hbw hblk P1
  go_wp2_with fail
  generalize hW : w1.alloc (.cells #[.int .i32 f.a, .int .i32 f.b, .int .i32 f.c] 82) = W at *
  have PA2 : Hid (Blk W w1.heap.size 82 (f.nums.map (.int .i32))) := Lib.hid (by rw [← hW]; exact PA.out)
  clear hW e3 e4 e5 PA
  generalize w1.heap.size = g5 at *
  go_loop [26] (fun u => ∃ i : Nat, i ≤ 0 ∧ u = .int .i64 (i : Int) ∧ ∀ j, 3 ≤ j → j < 3 + i → f.nums.getD j 0 = 0) (fun u => 0 - (intOf u).toNat)
  case atStart => exact ⟨0, by omega, rfl, fun j h1 h2 => by omega⟩
  case round =>
    obtain ⟨i, hiM, rfl, hall⟩ := hrel
    have Hall := Lib.hid hall
    clear hall
    by_cases hlt : i < 0
    · exact absurd hlt (Nat.not_lt_zero i)
    · obtain rfl : i = 0 := by omega
      have hcode : codeF f = 0 := by
        rw [Hcode.out, if_pos]
        refine List.all_eq_true.2 fun x hx => ?_
        obtain ⟨q, hq, rfl⟩ := List.mem_drop_iff_getElem.1 hx
        have hq3 : q + 3 < 3 := hq
        have := Hall.out (3 + q) (by omega) (by omega)
        rw [List.getD_eq_getElem?_getD, List.getElem?_eq_getElem (by omega)] at this
        simpa using this
      have Hc0 := Lib.hid hcode
      clear hcode Hall Hcode
      have e0 : W.cell? ⟨w.heap.size, 0, none⟩ = some (.int .i64 f.k) := PF.out.cell 0
      have hwW : w.heap.size < W.heap.size := PF.out.lt
      have hgW : g5 < W.heap.size := PA2.out.lt
      have PF2 := Lib.hid (PF.out.alloc (.cells #[.int .u8 126, .int .u8 (kb.toNat : Int)] 5))
      have PA3 := Lib.hid (PA2.out.alloc (.cells #[.int .u8 126, .int .u8 (kb.toNat : Int)] 5))
      have e1 : (W.alloc (.cells #[.int .u8 126, .int .u8 (kb.toNat : Int)] 5)).cell? ⟨w.heap.size, 1, none⟩ = some (.int .u16 (f.q : Int)) := PF2.out.cell 1
      have hq64 : IntKind.u64.wrap (f.q : Int) = (f.q : Int) := IntWalk.u64_in _ (by have := HF.out.q; omega)
      have ht64 : IntKind.u64.wrap (f.t : Int) = (f.t : Int) := IntWalk.u64_in _ (by have := HF.out.t; omega)
      have hrd0 := Lib.hid (new_rd W 5 ([126, kb].map bv))
      have B3 := Lib.hid (B2.out.alloc B2.out.size (.cells #[.int .u8 126, .int .u8 (kb.toNat : Int)] 5))
      have hput1 := fun w' h => Txt.put_any (some ⟨W.heap.size, 0, none⟩) [126, kb] 2 2 f.q 2 W.heap.size (W.heap.size + 1) w' h rfl (fun h => by cases h) (by have := HF.out.q; omega) (by decide) (by decide)
      clear B2 PF PA2
      go_wp2_with fail
      refine (hput1 _ hrd0.out).mono ?_
      rintro e w3 ⟨⟨v3, rfl, hown3⟩, hb3⟩
      have PF3 := Lib.hid (PF2.out.next hb3)
      have PA4 := Lib.hid (PA3.out.next hb3)
      have B4 := Lib.hid (_root_.Go.Proofs.Ytijijfggppnbpaa.bt B3.out hb3)
      have e2 : w3.cell? ⟨w.heap.size, 2, none⟩ = some (.int .u32 (f.t : Int)) := PF3.out.cell 2
      obtain ⟨A3, cap3, rfl, hrd3, _, _, hA3⟩ := own_rd hown3
      have Hrd3 := Lib.hid hrd3
      have hl3 : ([126, kb] ++ leB f.q 2).length = 4 := by rw [List.length_append, leB_len]; rfl
      have hput2 := Txt.put_any A3 ([126, kb] ++ leB f.q 2) _ cap3 f.t 4 _ _ w3 hrd3 rfl hA3 (by have := HF.out.t; omega) (by decide) (by omega)
      rw [hl3] at hput2
      clear hb3 hown3 hrd3 hA3 hput1 PF2 PA3 B3 e0 e1 hrd0
      rw [hl3]
      go_wp2_with fail
      refine hput2.mono ?_
      rintro e w4 ⟨⟨v4, rfl, hown4⟩, hb4⟩
      have PA5 := Lib.hid (PA4.out.next hb4)
      have B5 := Lib.hid (_root_.Go.Proofs.Ytijijfggppnbpaa.bt B4.out hb4)
      rw [← Hhead.out] at hown4
      have Hown4 := Lib.hid (own_down hown4 (show w.heap.size ≤ _ from B4.out.size))
      clear hb4 hown4 PF3 PA4 B4 e2 hput2 hl3
      go_wp2_with fail
      go_loopw [8, 10, 49] (fun v _ u wr => ∃ i : Nat, i ≤ 3 ∧ u = .int .i64 (i : Int) ∧ wr.ownsRow w.heap.size 5 1 v (headL f ++ numsL (f.nums.take i)).length ((headL f ++ numsL (f.nums.take i)).map bv) ∧ Below w.heap.size w wr ∧ Blk wr g5 82 (f.nums.map (.int .i32))) (fun _ _ u _ => 3 - (intOf u).toNat)
      case atStart => exact ⟨0, by omega, rfl, by rw [show numsL (f.nums.take 0) = [] from rfl, List.append_nil]; exact Hown4.out, B5.out, PA5.out⟩
      case round =>
        clear Hown4 B5 PA5
        obtain ⟨i, hiN, rfl, hown, hb, hpa⟩ := hrel
        have Hb := Lib.hid hb
        have Hpa := Lib.hid hpa
        have hL8 : (headL f ++ numsL (f.nums.take i)).length ≤ 1000 := by
          rw [List.length_append, Hhead.out]
          have h1 : ∀ l : List Int, (numsL l).length = 4 * l.length := fun l => by
            unfold numsL
            induction l with
            | nil => rfl
            | cons a l ih => rw [List.flatMap_cons, List.length_append, ih, leB_len, List.length_cons]; omega
          have h2 : (f.nums.take i).length ≤ 3 := List.length_take_le' i f.nums
          rw [h1]
          simp only [List.length_append, leB_len, List.length_cons, List.length_nil]
          omega
        obtain ⟨L, hL⟩ : ∃ L, L = headL f ++ numsL (f.nums.take i) := ⟨_, rfl⟩
        obtain ⟨m, hm⟩ : ∃ m, L.length = m := ⟨_, rfl⟩
        rw [← hL, hm] at hown hL8
        have HM := Lib.hid hm
        obtain ⟨A5, cap5, rfl, hrd5, _, _, hA5⟩ := own_rd hown
        have Hrd5 := Lib.hid hrd5
        by_cases hlt : i < 3
        · have hltI : (i : Int) < 3 := by omega
          have hi3 : i < f.nums.length := by show i < 3; omega
          have hc : wr.cell? ⟨g5, i, none⟩ = some (.int .i32 f.nums[i]) := by
            rw [Hpa.out.cell, List.getElem?_map, List.getElem?_eq_getElem hi3]
            rfl
          have hu1 : IntKind.u32.wrap f.nums[i] = (low32 f.nums[i] : Int) := by rw [IntKind.wrap_u32]; unfold low32; omega
          have hu0 : low32 f.nums[i] < 4294967296 := by unfold low32; omega
          have hu2 : IntKind.u64.wrap (low32 f.nums[i] : Int) = (low32 f.nums[i] : Int) := IntWalk.u64_in _ (by omega)
          have hnx : headL f ++ numsL (f.nums.take (i + 1)) = L ++ leB (low32 f.nums[i]) 4 := by
            rw [hL, List.take_add_one, List.getElem?_eq_getElem hi3, List.append_assoc]
            unfold numsL
            rw [List.flatMap_append]
            simp
          have hput3 := Txt.put_any A5 L m cap5 (low32 f.nums[i]) 4 _ _ wr hrd5 hm hA5 (by omega) (by decide) (by omega)
          rw [← hnx] at hput3
          clear hnx hrd5 hA5 hown hb hpa hu0 hL hm
          obtain ⟨L2, hL2⟩ : ∃ L2, L2 = headL f ++ numsL (f.nums.take (i + 1)) := ⟨_, rfl⟩
          rw [← hL2] at hput3
          have HL2 := Lib.hid hL2
          clear hL2
          generalize low32 f.nums[i] = y at *
          generalize f.nums[i] = x at *
          go_wp2_with fail
          refine hput3.mono ?_
          rintro e w6 ⟨⟨v6, rfl, hown6⟩, hb6⟩
          have HO := Lib.hid (own_down hown6 (show w.heap.size ≤ _ from Hb.out.size))
          have PA7 := Lib.hid (Hpa.out.next hb6)
          have B7 := Lib.hid (_root_.Go.Proofs.Ytijijfggppnbpaa.bt Hb.out hb6)
          clear hown6 hb6 hput3
          go_wp2_with fail
          go_roundw
          case rel => exact ⟨i + 1, by omega, by go_num, by rw [← HL2.out]; exact HO.out, B7.out, PA7.out⟩
          case measure => first | (simp [intOf]; done) | (simp [intOf]; omega)
        · obtain rfl : i = 3 := by omega
          have hown' : Crc.Own wr w.heap.size (.slice A5 m cap5) L := by unfold Crc.Own; rw [hm]; exact hown
          obtain ⟨A6, cap6, e6, hby6, _, hn6⟩ := hown'.bytes
          injection e6 with e7 e9 e8
          subst e7 e8
          have hput4 := Crc.put_any A5 L cap5 wr hby6 hn6 (by omega)
          rw [hL, ← Hby.out, ← hL, hm] at hput4
          clear hby6 hn6 hrd5 hA5 hown hb hpa hown' e9 hL hm
          go_wp2_with fail
          refine hput4.mono ?_
          rintro e w6 ⟨v6, rfl, hown6, hb6⟩
          have HO := Lib.hid (own_down hown6 (show w.heap.size ≤ _ from Hb.out.size))
          have B7 := Lib.hid (_root_.Go.Proofs.Ytijijfggppnbpaa.bt Hb.out hb6)
          clear hown6 hb6 hput4
          go_wp2_with fail
          refine bodyPost_ret (results_tmp2 rfl _ _ _) rfl ?_
          exact GotF.yes Hc0.out rfl HO.out B7.out
theorem put_any (f : Fr) (hf : f.Ok) (w : World) : Calls Try.prog 12 #[f.v] w (GotF w f) := by
  rcases numK_cases f.k with ⟨h, _⟩ | ⟨n, h, h3, h1, h7⟩
  · exact put_none f hf h w
  · rcases (by omega : n = 0 ∨ n = 1 ∨ n = 2 ∨ n = 3) with rfl | rfl | rfl | rfl
    · exact put_0 f hf h h1 h7 w
    · exact put_1 f hf h h1 h7 w
    · exact put_2 f hf h h1 h7 w
    · exact put_3 f hf h h1 h7 w
end Frm
end Go.Proofs.Ytijijfggppnbpaa
