/-
  The walk of the reference's Put of a frame.
-/
import Derived.Test.YtijijfggppnbpaaFrmW3
namespace Go.Proofs.Ytijijfggppnbpaa
open Go.RowKit
set_option linter.unusedVariables false
namespace Frm
open Txt (kind_cases bv bv_one GotB leB leB_len leB_succ tx)

/-- what is there of a frame's bytes, on the way -/
structure St (w : World) (f : Fr) (wr : World) (v : Value) (L : List UInt8) : Prop where
  own : wr.ownsRow (w.heap.size + 1) 5 1 v L.length (L.map bv)
  below : Below w.heap.size w wr
  blk : Blk wr w.heap.size 25 f.cells
theorem St.next {w wr w' : World} {f : Fr} {v : Value} {L : List UInt8} (S : St w f wr v L) (hb : Below wr.heap.size wr w') : St w f w' v L :=
  ⟨own_next S.own hb, _root_.Go.Proofs.Ytijijfggppnbpaa.bt S.below hb, S.blk.next hb⟩
theorem app_step {w wr : World} {f : Fr} {v : Value} {L : List UInt8} {ops : Array Oper} {rest : List Oper} {o : Oper} {a : Act} {Q : Exit → Act → World → Prop} (S : St w f wr v L) (hgd : o.guard = none) (s x : Operand)
    (ho : o.op = .call { callee := .builtin .append, args := #[s, x], argTypes := #[26, 26] }) (hs : a.eval s = v) (lo : Nat) (u : Value) (M : List UInt8) (hM : wr.ownsRow lo 5 1 u M.length (M.map bv)) (hx : a.eval x = u) (hlen : L.length + M.length ≤ 100000)
    (h : ∀ v' w', St w f w' v' (L ++ M) → wpList Try.prog ops Q rest (a.put o.dst v') w') : wpList Try.prog ops Q (o :: rest) a wr := by
  obtain ⟨i0, hi, hz0, hz1, hz2⟩ := info_parts Txt.infoByte
  obtain ⟨A, cap, rfl, hrd, _, _, hA⟩ := own_rd hM
  have hlt := S.blk.lt
  refine wpList_append_both hgd s x 26 ho (w.heap.size + 1) 5 i0 (.int .u8 0) 1 1 Try.underlying26 hi hz0 hz1 hz2 rfl (by decide) v L.length (L.map bv) hs S.own A M.length cap (M.map bv) hx (by simp) hA hrd.news (bv_one M) (by unfold maxLen; omega) (by omega) (by omega) fun v' w' hown hg => h v' w' ⟨?_, ?_, ?_⟩
  · rw [List.length_append, List.map_append]; exact hown
  · exact S.below.grown hg (by omega) (fun k hk => by have := own_ge S.own k hk; omega)
  · exact S.blk.grown hg (fun e => by have := own_ge S.own _ e.symm; omega)
set_option maxRecDepth 100000 in
set_option maxHeartbeats 1000000 in
theorem yput_none (f : Fr) (hk : numK f.k = -1) (w : World) :
    Calls Try.prog 13 #[f.v] w (GotF w f) := by
  have hnum := fun w => ynumbers_any f.k w
  have hblk := Lib.hid (Blk.mk w 25 f.cells)
  have hc0 : (w.alloc (.cells f.cells.toArray 25)).cell? ⟨w.heap.size, 0, none⟩ = some (.int .i64 f.k) := hblk.out.cell 0
  unfold Fr.v
  have hcode : codeF f = 13 := by unfold codeF; rw [hk]; rfl
  rw [hk] at hnum
  have Hcode := Lib.hid hcode
  clear hcode hk
  generalize f.cells.toArray = cs at *
  go_enter Try.func13, Try.ntmps13
  go_wp2_with fail
  refine (hnum _).mono ?_
  rintro e w1 ⟨rfl, rfl⟩
  go_wp2_with fail
  refine bodyPost_ret (results_tmp2 rfl _ _ _) rfl ?_
  exact GotF.no (x := 13) Hcode.out (by decide) (bl _ _)
set_option maxRecDepth 100000 in
set_option maxHeartbeats 1000000 in
theorem yput_0 (f : Fr) (hf : f.Ok) (hk : numK f.k = 0) (hk1 : 1 ≤ f.k) (hk7 : f.k ≤ 7) (w : World) :
    Calls Try.prog 13 #[f.v] w (GotF w f) := by
  have hnum := fun w => ynumbers_any f.k w
  have hblk := Lib.hid (Blk.mk w 25 f.cells)
  have hf1 := hf
  have HF := Lib.hid hf1
  clear hf hf1
  unfold Fr.v
  have hcode : codeF f = if (f.nums.drop 0).all (· == 0) = true then 0 else 1 := by unfold codeF; rw [hk, if_neg (by omega)]; rfl
  have hby : bytesF f = Crc.put (headL f ++ numsL (f.nums.take 0)) := by unfold bytesF; rw [hk]; rfl
  rw [hk] at hnum
  have Hcode := Lib.hid hcode
  have Hby := Lib.hid hby
  have hw1 : IntKind.u8.wrap f.k = ((UInt8.ofNat f.k.toNat).toNat : Int) := by rw [UInt8.toNat_ofNat', IntKind.wrap_u8]; omega
  obtain ⟨kb, hkb⟩ : ∃ c, c = UInt8.ofNat f.k.toNat := ⟨_, rfl⟩
  rw [← hkb] at hw1
  have hhead : headL f = [126, kb] ++ leB f.q 2 ++ leB f.t 4 := by rw [hkb]; rfl
  have Hhead := Lib.hid hhead
  have hL0 : (headL f ++ numsL (f.nums.take 0)) = [126, kb] ++ leB f.q 2 ++ leB f.t 4 := by rw [hhead]; simp [Fr.nums, numsL]
  have HL0 := Lib.hid hL0
  clear hcode hby hk hkb hhead hL0
  have c0 : (w.alloc (.cells f.cells.toArray 25)).cell? ⟨w.heap.size, 0, none⟩ = some (.int .i64 f.k) := hblk.out.cell 0
  have c3 : (w.alloc (.cells f.cells.toArray 25)).cell? ⟨w.heap.size, 3, none⟩ = some (.int .i32 f.a) := hblk.out.cell 3
  have c4 : (w.alloc (.cells f.cells.toArray 25)).cell? ⟨w.heap.size, 4, none⟩ = some (.int .i32 f.b) := hblk.out.cell 4
  have c5 : (w.alloc (.cells f.cells.toArray 25)).cell? ⟨w.heap.size, 5, none⟩ = some (.int .i32 f.c) := hblk.out.cell 5
  have e1 : ∀ (W : World), Blk W w.heap.size 25 f.cells → W.cell? ⟨w.heap.size, 1, none⟩ = some (.int .u16 (f.q : Int)) := fun _ h => h.cell 1
  have e2 : ∀ (W : World), Blk W w.heap.size 25 f.cells → W.cell? ⟨w.heap.size, 2, none⟩ = some (.int .u32 (f.t : Int)) := fun _ h => h.cell 2
  have E1 := Lib.hid e1
  have E2 := Lib.hid e2
  clear e1 e2
  by_cases z2 : f.c = 0
  case neg =>
    have hcode : codeF f = 1 := by
      rw [Hcode.out, if_neg]
      intro ha
      exact z2 (by simpa using List.all_eq_true.1 ha (f.c) (by simp [Fr.nums]))
    have Hc1 := Lib.hid hcode
    have zb : (f.c == 0) = false := beq_eq_false_iff_ne.2 z2
    have zc : (f.c != 0) = true := bne_iff_ne.2 z2
    clear hcode z2
    obtain ⟨cs, hcs⟩ : ∃ c, c = f.cells.toArray := ⟨_, rfl⟩
    rw [← hcs] at c0 c3 c4 c5 ⊢
    clear hcs hblk
    go_enter Try.func13, Try.ntmps13
    go_wp2_with fail
    refine (hnum _).mono ?_
    rintro e w1 ⟨rfl, rfl⟩
    go_wp2_with fail
    refine bodyPost_ret (results_tmp2 rfl _ _ _) rfl ?_
    exact GotF.no (x := 1) Hc1.out (by decide) (bl _ _)
  by_cases z1 : f.b = 0
  case neg =>
    have hcode : codeF f = 1 := by
      rw [Hcode.out, if_neg]
      intro ha
      exact z1 (by simpa using List.all_eq_true.1 ha (f.b) (by simp [Fr.nums]))
    have Hc1 := Lib.hid hcode
    have zb : (f.b == 0) = false := beq_eq_false_iff_ne.2 z1
    have zc : (f.b != 0) = true := bne_iff_ne.2 z1
    rw [z2] at c5
    clear hcode z1 z2
    obtain ⟨cs, hcs⟩ : ∃ c, c = f.cells.toArray := ⟨_, rfl⟩
    rw [← hcs] at c0 c3 c4 c5 ⊢
    clear hcs hblk
    go_enter Try.func13, Try.ntmps13
    go_wp2_with fail
    refine (hnum _).mono ?_
    rintro e w1 ⟨rfl, rfl⟩
    go_wp2_with fail
    refine bodyPost_ret (results_tmp2 rfl _ _ _) rfl ?_
    exact GotF.no (x := 1) Hc1.out (by decide) (bl _ _)
  by_cases z0 : f.a = 0
  case neg =>
    have hcode : codeF f = 1 := by
      rw [Hcode.out, if_neg]
      intro ha
      exact z0 (by simpa using List.all_eq_true.1 ha (f.a) (by simp [Fr.nums]))
    have Hc1 := Lib.hid hcode
    have zb : (f.a == 0) = false := beq_eq_false_iff_ne.2 z0
    have zc : (f.a != 0) = true := bne_iff_ne.2 z0
    rw [z1] at c4
    rw [z2] at c5
    clear hcode z0 z1 z2
    obtain ⟨cs, hcs⟩ : ∃ c, c = f.cells.toArray := ⟨_, rfl⟩
    rw [← hcs] at c0 c3 c4 c5 ⊢
    clear hcs hblk
    go_enter Try.func13, Try.ntmps13
    go_wp2_with fail
    refine (hnum _).mono ?_
    rintro e w1 ⟨rfl, rfl⟩
    go_wp2_with fail
    refine bodyPost_ret (results_tmp2 rfl _ _ _) rfl ?_
    exact GotF.no (x := 1) Hc1.out (by decide) (bl _ _)
  have hcode : codeF f = 0 := by
    rw [Hcode.out, if_pos]
    simp [Fr.nums, z0, z1, z2]
  have Hc0 := Lib.hid hcode
  rw [z0] at c3
  rw [z1] at c4
  rw [z2] at c5
  clear hcode Hcode z0 z1 z2
  obtain ⟨cs, hcs⟩ : ∃ c, c = f.cells.toArray := ⟨_, rfl⟩
  rw [← hcs] at c0 c3 c4 c5 ⊢
  have HP : Hid (Blk (w.alloc (.cells cs 25)) w.heap.size 25 f.cells) := Lib.hid (by rw [hcs]; exact hblk.out)
  clear hcs hblk
  have hbw := bl w (.cells cs 25)
  have HB := Lib.hid hbw
  have hq64 : IntKind.u64.wrap (f.q : Int) = (f.q : Int) := IntWalk.u64_in _ (by have := HF.out.q; omega)
  have ht64 : IntKind.u64.wrap (f.t : Int) = (f.t : Int) := IntWalk.u64_in _ (by have := HF.out.t; omega)
  clear hbw
  go_enter Try.func13, Try.ntmps13
  go_wp2_with fail
  refine (hnum _).mono ?_
  rintro e w1 ⟨rfl, rfl⟩
  clear hnum
  generalize hW0 : w.alloc (.cells cs 25) = W0 at *
  have hs0 : W0.heap.size = w.heap.size + 1 := by rw [← hW0]; simp
  clear hW0
  have S0 : St w f (W0.alloc (.cells #[.int .u8 126, .int .u8 (kb.toNat : Int)] 5)) (.slice (some ⟨W0.heap.size, 0, none⟩) 2 2) [126, kb] :=
    ⟨own_down (own_row W0 5 ([126, kb].map bv) 2 rfl (by decide)) (by omega), HB.out.alloc HB.out.size _, HP.out.alloc _⟩
  have HS0 := Lib.hid S0
  have e1 := E1.out _ S0.blk
  clear S0 HB HP
  clear hs0
  go_wp2_with fail
  refine (yput_any f.q 2 _ (by have := HF.out.q; omega) (by decide)).mono ?_
  rintro e u1 ⟨⟨v1, rfl, hown1⟩, hb1⟩
  have S1 := Lib.hid (HS0.out.next hb1)
  have Ho1 := Lib.hid hown1
  clear hown1 hb1 HS0 e1
  go_wp2_with (at_builtin; refine app_step S1.out rfl (.tmp 40) (.tmp 44) rfl rfl _ _ (leB f.q 2) Ho1.out rfl (by simp [leB_len]) ?_; intro v2 u2 hS2; have S2 := Lib.hid hS2; have e2 := E2.out _ hS2.blk; clear hS2)
  refine (yput_any f.t 4 _ (by have := HF.out.t; omega) (by decide)).mono ?_
  rintro e u3 ⟨⟨v3, rfl, hown3⟩, hb3⟩
  have S3 := Lib.hid (S2.out.next hb3)
  have Ho3 := Lib.hid hown3
  clear hown3 hb3 S2 S1 Ho1 e2
  go_wp2_with (at_builtin; refine app_step S3.out rfl (.tmp 46) (.tmp 50) rfl rfl _ _ (leB f.t 4) Ho3.out rfl (by simp [leB_len]) ?_; intro v4 u4 hS4; have S4 := Lib.hid hS4; clear hS4)
  have hl : ([126, kb] ++ leB f.q 2 ++ leB f.t 4).length ≤ 1000000 := by simp [leB_len]
  have hown' : Crc.Own u4 (w.heap.size + 1) v4 ([126, kb] ++ leB f.q 2 ++ leB f.t 4) := S4.out.own
  obtain ⟨A6, cap6, e6, hby6, _, hn6⟩ := hown'.bytes
  have hput4 := Crc.rput_any A6 ([126, kb] ++ leB f.q 2 ++ leB f.t 4) cap6 u4 hby6 hn6 hl
  rw [← e6] at hput4
  clear hby6 hn6 hown' e6 hl
  refine hput4.mono ?_
  rintro e w6 ⟨v6, rfl, hown6, hb6⟩
  have HO := Lib.hid (own_down hown6 (show w.heap.size ≤ _ from S4.out.below.size))
  have B7 := Lib.hid (_root_.Go.Proofs.Ytijijfggppnbpaa.bt S4.out.below hb6)
  clear hown6 hb6 hput4
  go_wp2_with fail
  refine bodyPost_ret (results_tmp2 rfl _ _ _) rfl ?_
  refine GotF.yes Hc0.out ?_ HO.out B7.out
  rw [Hby.out, HL0.out]
set_option maxRecDepth 100000 in
set_option maxHeartbeats 1000000 in
theorem yput_1 (f : Fr) (hf : f.Ok) (hk : numK f.k = 1) (hk1 : 1 ≤ f.k) (hk7 : f.k ≤ 7) (w : World) :
    Calls Try.prog 13 #[f.v] w (GotF w f) := by
  have hnum := fun w => ynumbers_any f.k w
  have hblk := Lib.hid (Blk.mk w 25 f.cells)
  have hf1 := hf
  have HF := Lib.hid hf1
  clear hf hf1
  unfold Fr.v
  have hcode : codeF f = if (f.nums.drop 1).all (· == 0) = true then 0 else 1 := by unfold codeF; rw [hk, if_neg (by omega)]; rfl
  have hby : bytesF f = Crc.put (headL f ++ numsL (f.nums.take 1)) := by unfold bytesF; rw [hk]; rfl
  rw [hk] at hnum
  have Hcode := Lib.hid hcode
  have Hby := Lib.hid hby
  have hw1 : IntKind.u8.wrap f.k = ((UInt8.ofNat f.k.toNat).toNat : Int) := by rw [UInt8.toNat_ofNat', IntKind.wrap_u8]; omega
  obtain ⟨kb, hkb⟩ : ∃ c, c = UInt8.ofNat f.k.toNat := ⟨_, rfl⟩
  rw [← hkb] at hw1
  have hhead : headL f = [126, kb] ++ leB f.q 2 ++ leB f.t 4 := by rw [hkb]; rfl
  have Hhead := Lib.hid hhead
  have hL0 : (headL f ++ numsL (f.nums.take 1)) = [126, kb] ++ leB f.q 2 ++ leB f.t 4 ++ leB (low32 f.a) 4 := by rw [hhead]; simp [Fr.nums, numsL]
  have HL0 := Lib.hid hL0
  clear hcode hby hk hkb hhead hL0
  have c0 : (w.alloc (.cells f.cells.toArray 25)).cell? ⟨w.heap.size, 0, none⟩ = some (.int .i64 f.k) := hblk.out.cell 0
  have c4 : (w.alloc (.cells f.cells.toArray 25)).cell? ⟨w.heap.size, 4, none⟩ = some (.int .i32 f.b) := hblk.out.cell 4
  have c5 : (w.alloc (.cells f.cells.toArray 25)).cell? ⟨w.heap.size, 5, none⟩ = some (.int .i32 f.c) := hblk.out.cell 5
  have e1 : ∀ (W : World), Blk W w.heap.size 25 f.cells → W.cell? ⟨w.heap.size, 1, none⟩ = some (.int .u16 (f.q : Int)) := fun _ h => h.cell 1
  have e2 : ∀ (W : World), Blk W w.heap.size 25 f.cells → W.cell? ⟨w.heap.size, 2, none⟩ = some (.int .u32 (f.t : Int)) := fun _ h => h.cell 2
  have e3 : ∀ (W : World), Blk W w.heap.size 25 f.cells → W.cell? ⟨w.heap.size, 3, none⟩ = some (.int .i32 f.a) := fun _ h => h.cell 3
  have E1 := Lib.hid e1
  have E2 := Lib.hid e2
  have E3 := Lib.hid e3
  clear e1 e2 e3
  by_cases z2 : f.c = 0
  case neg =>
    have hcode : codeF f = 1 := by
      rw [Hcode.out, if_neg]
      intro ha
      exact z2 (by simpa using List.all_eq_true.1 ha (f.c) (by simp [Fr.nums]))
    have Hc1 := Lib.hid hcode
    have zb : (f.c == 0) = false := beq_eq_false_iff_ne.2 z2
    have zc : (f.c != 0) = true := bne_iff_ne.2 z2
    clear hcode z2
    obtain ⟨cs, hcs⟩ : ∃ c, c = f.cells.toArray := ⟨_, rfl⟩
    rw [← hcs] at c0 c4 c5 ⊢
    clear hcs hblk
    go_enter Try.func13, Try.ntmps13
    go_wp2_with fail
    refine (hnum _).mono ?_
    rintro e w1 ⟨rfl, rfl⟩
    go_wp2_with fail
    refine bodyPost_ret (results_tmp2 rfl _ _ _) rfl ?_
    exact GotF.no (x := 1) Hc1.out (by decide) (bl _ _)
  by_cases z1 : f.b = 0
  case neg =>
    have hcode : codeF f = 1 := by
      rw [Hcode.out, if_neg]
      intro ha
      exact z1 (by simpa using List.all_eq_true.1 ha (f.b) (by simp [Fr.nums]))
    have Hc1 := Lib.hid hcode
    have zb : (f.b == 0) = false := beq_eq_false_iff_ne.2 z1
    have zc : (f.b != 0) = true := bne_iff_ne.2 z1
    rw [z2] at c5
    clear hcode z1 z2
    obtain ⟨cs, hcs⟩ : ∃ c, c = f.cells.toArray := ⟨_, rfl⟩
    rw [← hcs] at c0 c4 c5 ⊢
    clear hcs hblk
    go_enter Try.func13, Try.ntmps13
    go_wp2_with fail
    refine (hnum _).mono ?_
    rintro e w1 ⟨rfl, rfl⟩
    go_wp2_with fail
    refine bodyPost_ret (results_tmp2 rfl _ _ _) rfl ?_
    exact GotF.no (x := 1) Hc1.out (by decide) (bl _ _)
  have hcode : codeF f = 0 := by
    rw [Hcode.out, if_pos]
    simp [Fr.nums, z1, z2]
  have Hc0 := Lib.hid hcode
  rw [z1] at c4
  rw [z2] at c5
  clear hcode Hcode z1 z2
  obtain ⟨cs, hcs⟩ : ∃ c, c = f.cells.toArray := ⟨_, rfl⟩
  rw [← hcs] at c0 c4 c5 ⊢
  have HP : Hid (Blk (w.alloc (.cells cs 25)) w.heap.size 25 f.cells) := Lib.hid (by rw [hcs]; exact hblk.out)
  clear hcs hblk
  have hbw := bl w (.cells cs 25)
  have HB := Lib.hid hbw
  have hq64 : IntKind.u64.wrap (f.q : Int) = (f.q : Int) := IntWalk.u64_in _ (by have := HF.out.q; omega)
  have ht64 : IntKind.u64.wrap (f.t : Int) = (f.t : Int) := IntWalk.u64_in _ (by have := HF.out.t; omega)
  clear hbw
  go_enter Try.func13, Try.ntmps13
  go_wp2_with fail
  refine (hnum _).mono ?_
  rintro e w1 ⟨rfl, rfl⟩
  clear hnum
  generalize hW0 : w.alloc (.cells cs 25) = W0 at *
  have hs0 : W0.heap.size = w.heap.size + 1 := by rw [← hW0]; simp
  clear hW0
  have S0 : St w f (W0.alloc (.cells #[.int .u8 126, .int .u8 (kb.toNat : Int)] 5)) (.slice (some ⟨W0.heap.size, 0, none⟩) 2 2) [126, kb] :=
    ⟨own_down (own_row W0 5 ([126, kb].map bv) 2 rfl (by decide)) (by omega), HB.out.alloc HB.out.size _, HP.out.alloc _⟩
  have HS0 := Lib.hid S0
  have e1 := E1.out _ S0.blk
  clear S0 HB HP
  clear hs0
  go_wp2_with fail
  refine (yput_any f.q 2 _ (by have := HF.out.q; omega) (by decide)).mono ?_
  rintro e u1 ⟨⟨v1, rfl, hown1⟩, hb1⟩
  have S1 := Lib.hid (HS0.out.next hb1)
  have Ho1 := Lib.hid hown1
  clear hown1 hb1 HS0 e1
  go_wp2_with (at_builtin; refine app_step S1.out rfl (.tmp 40) (.tmp 44) rfl rfl _ _ (leB f.q 2) Ho1.out rfl (by simp [leB_len]) ?_; intro v2 u2 hS2; have S2 := Lib.hid hS2; have e2 := E2.out _ hS2.blk; clear hS2)
  refine (yput_any f.t 4 _ (by have := HF.out.t; omega) (by decide)).mono ?_
  rintro e u3 ⟨⟨v3, rfl, hown3⟩, hb3⟩
  have S3 := Lib.hid (S2.out.next hb3)
  have Ho3 := Lib.hid hown3
  clear hown3 hb3 S2 S1 Ho1 e2
  have hu0 : IntKind.u32.wrap f.a = (low32 f.a : Int) := by rw [IntKind.wrap_u32]; unfold low32; omega
  have hl0 : low32 f.a < 4294967296 := by unfold low32; omega
  have hv0 : IntKind.u64.wrap (low32 f.a : Int) = (low32 f.a : Int) := IntWalk.u64_in _ (by omega)
  obtain ⟨y0, hy0⟩ : ∃ y, y = low32 f.a := ⟨_, rfl⟩
  rw [← hy0] at hu0 hl0 hv0
  have HY0 := Lib.hid hy0
  clear hy0
  go_wp2_with (at_builtin; refine app_step S3.out rfl (.tmp 46) (.tmp 50) rfl rfl _ _ (leB f.t 4) Ho3.out rfl (by simp [leB_len]) ?_; intro v4 u4 hS4; have S4 := Lib.hid hS4; have e3 := E3.out _ hS4.blk; clear hS4)
  refine (yput_any y0 4 _ (by omega) (by decide)).mono ?_
  rintro e u5 ⟨⟨v5, rfl, hown5⟩, hb5⟩
  have S5 := Lib.hid (S4.out.next hb5)
  have Ho5 := Lib.hid hown5
  clear hown5 hb5 S4 S3 Ho3 e3 hl0
  go_wp2_with (at_builtin; refine app_step S5.out rfl (.tmp 54) (.tmp 59) rfl rfl _ _ (leB y0 4) Ho5.out rfl (by simp [leB_len]) ?_; intro v6 u6 hS6; have S6 := Lib.hid hS6; clear hS6)
  have hl : ([126, kb] ++ leB f.q 2 ++ leB f.t 4 ++ leB y0 4).length ≤ 1000000 := by simp [leB_len]
  have hown' : Crc.Own u6 (w.heap.size + 1) v6 ([126, kb] ++ leB f.q 2 ++ leB f.t 4 ++ leB y0 4) := S6.out.own
  obtain ⟨A6, cap6, e6, hby6, _, hn6⟩ := hown'.bytes
  have hput4 := Crc.rput_any A6 ([126, kb] ++ leB f.q 2 ++ leB f.t 4 ++ leB y0 4) cap6 u6 hby6 hn6 hl
  rw [← e6] at hput4
  clear hby6 hn6 hown' e6 hl
  refine hput4.mono ?_
  rintro e w6 ⟨v6, rfl, hown6, hb6⟩
  have HO := Lib.hid (own_down hown6 (show w.heap.size ≤ _ from S6.out.below.size))
  have B7 := Lib.hid (_root_.Go.Proofs.Ytijijfggppnbpaa.bt S6.out.below hb6)
  clear hown6 hb6 hput4
  go_wp2_with fail
  refine bodyPost_ret (results_tmp2 rfl _ _ _) rfl ?_
  refine GotF.yes Hc0.out ?_ HO.out B7.out
  rw [Hby.out, HL0.out, HY0.out]
set_option maxRecDepth 100000 in
set_option maxHeartbeats 1000000 in
theorem yput_2 (f : Fr) (hf : f.Ok) (hk : numK f.k = 2) (hk1 : 1 ≤ f.k) (hk7 : f.k ≤ 7) (w : World) :
    Calls Try.prog 13 #[f.v] w (GotF w f) := by
  have hnum := fun w => ynumbers_any f.k w
  have hblk := Lib.hid (Blk.mk w 25 f.cells)
  have hf1 := hf
  have HF := Lib.hid hf1
  clear hf hf1
  unfold Fr.v
  have hcode : codeF f = if (f.nums.drop 2).all (· == 0) = true then 0 else 1 := by unfold codeF; rw [hk, if_neg (by omega)]; rfl
  have hby : bytesF f = Crc.put (headL f ++ numsL (f.nums.take 2)) := by unfold bytesF; rw [hk]; rfl
  rw [hk] at hnum
  have Hcode := Lib.hid hcode
  have Hby := Lib.hid hby
  have hw1 : IntKind.u8.wrap f.k = ((UInt8.ofNat f.k.toNat).toNat : Int) := by rw [UInt8.toNat_ofNat', IntKind.wrap_u8]; omega
  obtain ⟨kb, hkb⟩ : ∃ c, c = UInt8.ofNat f.k.toNat := ⟨_, rfl⟩
  rw [← hkb] at hw1
  have hhead : headL f = [126, kb] ++ leB f.q 2 ++ leB f.t 4 := by rw [hkb]; rfl
  have Hhead := Lib.hid hhead
  have hL0 : (headL f ++ numsL (f.nums.take 2)) = [126, kb] ++ leB f.q 2 ++ leB f.t 4 ++ leB (low32 f.a) 4 ++ leB (low32 f.b) 4 := by rw [hhead]; simp [Fr.nums, numsL]
  have HL0 := Lib.hid hL0
  clear hcode hby hk hkb hhead hL0
  have c0 : (w.alloc (.cells f.cells.toArray 25)).cell? ⟨w.heap.size, 0, none⟩ = some (.int .i64 f.k) := hblk.out.cell 0
  have c5 : (w.alloc (.cells f.cells.toArray 25)).cell? ⟨w.heap.size, 5, none⟩ = some (.int .i32 f.c) := hblk.out.cell 5
  have e1 : ∀ (W : World), Blk W w.heap.size 25 f.cells → W.cell? ⟨w.heap.size, 1, none⟩ = some (.int .u16 (f.q : Int)) := fun _ h => h.cell 1
  have e2 : ∀ (W : World), Blk W w.heap.size 25 f.cells → W.cell? ⟨w.heap.size, 2, none⟩ = some (.int .u32 (f.t : Int)) := fun _ h => h.cell 2
  have e3 : ∀ (W : World), Blk W w.heap.size 25 f.cells → W.cell? ⟨w.heap.size, 3, none⟩ = some (.int .i32 f.a) := fun _ h => h.cell 3
  have e4 : ∀ (W : World), Blk W w.heap.size 25 f.cells → W.cell? ⟨w.heap.size, 4, none⟩ = some (.int .i32 f.b) := fun _ h => h.cell 4
  have E1 := Lib.hid e1
  have E2 := Lib.hid e2
  have E3 := Lib.hid e3
  have E4 := Lib.hid e4
  clear e1 e2 e3 e4
  by_cases z2 : f.c = 0
  case neg =>
    have hcode : codeF f = 1 := by
      rw [Hcode.out, if_neg]
      intro ha
      exact z2 (by simpa using List.all_eq_true.1 ha (f.c) (by simp [Fr.nums]))
    have Hc1 := Lib.hid hcode
    have zb : (f.c == 0) = false := beq_eq_false_iff_ne.2 z2
    have zc : (f.c != 0) = true := bne_iff_ne.2 z2
    clear hcode z2
    obtain ⟨cs, hcs⟩ : ∃ c, c = f.cells.toArray := ⟨_, rfl⟩
    rw [← hcs] at c0 c5 ⊢
    clear hcs hblk
    go_enter Try.func13, Try.ntmps13
    go_wp2_with fail
    refine (hnum _).mono ?_
    rintro e w1 ⟨rfl, rfl⟩
    go_wp2_with fail
    refine bodyPost_ret (results_tmp2 rfl _ _ _) rfl ?_
    exact GotF.no (x := 1) Hc1.out (by decide) (bl _ _)
  have hcode : codeF f = 0 := by
    rw [Hcode.out, if_pos]
    simp [Fr.nums, z2]
  have Hc0 := Lib.hid hcode
  rw [z2] at c5
  clear hcode Hcode z2
  obtain ⟨cs, hcs⟩ : ∃ c, c = f.cells.toArray := ⟨_, rfl⟩
  rw [← hcs] at c0 c5 ⊢
  have HP : Hid (Blk (w.alloc (.cells cs 25)) w.heap.size 25 f.cells) := Lib.hid (by rw [hcs]; exact hblk.out)
  clear hcs hblk
  have hbw := bl w (.cells cs 25)
  have HB := Lib.hid hbw
  have hq64 : IntKind.u64.wrap (f.q : Int) = (f.q : Int) := IntWalk.u64_in _ (by have := HF.out.q; omega)
  have ht64 : IntKind.u64.wrap (f.t : Int) = (f.t : Int) := IntWalk.u64_in _ (by have := HF.out.t; omega)
  clear hbw
  go_enter Try.func13, Try.ntmps13
  go_wp2_with fail
  refine (hnum _).mono ?_
  rintro e w1 ⟨rfl, rfl⟩
  clear hnum
  generalize hW0 : w.alloc (.cells cs 25) = W0 at *
  have hs0 : W0.heap.size = w.heap.size + 1 := by rw [← hW0]; simp
  clear hW0
  have S0 : St w f (W0.alloc (.cells #[.int .u8 126, .int .u8 (kb.toNat : Int)] 5)) (.slice (some ⟨W0.heap.size, 0, none⟩) 2 2) [126, kb] :=
    ⟨own_down (own_row W0 5 ([126, kb].map bv) 2 rfl (by decide)) (by omega), HB.out.alloc HB.out.size _, HP.out.alloc _⟩
  have HS0 := Lib.hid S0
  have e1 := E1.out _ S0.blk
  clear S0 HB HP
  clear hs0
  go_wp2_with fail
  refine (yput_any f.q 2 _ (by have := HF.out.q; omega) (by decide)).mono ?_
  rintro e u1 ⟨⟨v1, rfl, hown1⟩, hb1⟩
  have S1 := Lib.hid (HS0.out.next hb1)
  have Ho1 := Lib.hid hown1
  clear hown1 hb1 HS0 e1
  go_wp2_with (at_builtin; refine app_step S1.out rfl (.tmp 40) (.tmp 44) rfl rfl _ _ (leB f.q 2) Ho1.out rfl (by simp [leB_len]) ?_; intro v2 u2 hS2; have S2 := Lib.hid hS2; have e2 := E2.out _ hS2.blk; clear hS2)
  refine (yput_any f.t 4 _ (by have := HF.out.t; omega) (by decide)).mono ?_
  rintro e u3 ⟨⟨v3, rfl, hown3⟩, hb3⟩
  have S3 := Lib.hid (S2.out.next hb3)
  have Ho3 := Lib.hid hown3
  clear hown3 hb3 S2 S1 Ho1 e2
  have hu0 : IntKind.u32.wrap f.a = (low32 f.a : Int) := by rw [IntKind.wrap_u32]; unfold low32; omega
  have hl0 : low32 f.a < 4294967296 := by unfold low32; omega
  have hv0 : IntKind.u64.wrap (low32 f.a : Int) = (low32 f.a : Int) := IntWalk.u64_in _ (by omega)
  obtain ⟨y0, hy0⟩ : ∃ y, y = low32 f.a := ⟨_, rfl⟩
  rw [← hy0] at hu0 hl0 hv0
  have HY0 := Lib.hid hy0
  clear hy0
  go_wp2_with (at_builtin; refine app_step S3.out rfl (.tmp 46) (.tmp 50) rfl rfl _ _ (leB f.t 4) Ho3.out rfl (by simp [leB_len]) ?_; intro v4 u4 hS4; have S4 := Lib.hid hS4; have e3 := E3.out _ hS4.blk; clear hS4)
  refine (yput_any y0 4 _ (by omega) (by decide)).mono ?_
  rintro e u5 ⟨⟨v5, rfl, hown5⟩, hb5⟩
  have S5 := Lib.hid (S4.out.next hb5)
  have Ho5 := Lib.hid hown5
  clear hown5 hb5 S4 S3 Ho3 e3 hl0
  have hu1 : IntKind.u32.wrap f.b = (low32 f.b : Int) := by rw [IntKind.wrap_u32]; unfold low32; omega
  have hl1 : low32 f.b < 4294967296 := by unfold low32; omega
  have hv1 : IntKind.u64.wrap (low32 f.b : Int) = (low32 f.b : Int) := IntWalk.u64_in _ (by omega)
  obtain ⟨y1, hy1⟩ : ∃ y, y = low32 f.b := ⟨_, rfl⟩
  rw [← hy1] at hu1 hl1 hv1
  have HY1 := Lib.hid hy1
  clear hy1
  go_wp2_with (at_builtin; refine app_step S5.out rfl (.tmp 54) (.tmp 59) rfl rfl _ _ (leB y0 4) Ho5.out rfl (by simp [leB_len]) ?_; intro v6 u6 hS6; have S6 := Lib.hid hS6; have e4 := E4.out _ hS6.blk; clear hS6)
  refine (yput_any y1 4 _ (by omega) (by decide)).mono ?_
  rintro e u7 ⟨⟨v7, rfl, hown7⟩, hb7⟩
  have S7 := Lib.hid (S6.out.next hb7)
  have Ho7 := Lib.hid hown7
  clear hown7 hb7 S6 S5 Ho5 e4 hl1
  go_wp2_with (at_builtin; refine app_step S7.out rfl (.tmp 63) (.tmp 68) rfl rfl _ _ (leB y1 4) Ho7.out rfl (by simp [leB_len]) ?_; intro v8 u8 hS8; have S8 := Lib.hid hS8; clear hS8)
  have hl : ([126, kb] ++ leB f.q 2 ++ leB f.t 4 ++ leB y0 4 ++ leB y1 4).length ≤ 1000000 := by simp [leB_len]
  have hown' : Crc.Own u8 (w.heap.size + 1) v8 ([126, kb] ++ leB f.q 2 ++ leB f.t 4 ++ leB y0 4 ++ leB y1 4) := S8.out.own
  obtain ⟨A6, cap6, e6, hby6, _, hn6⟩ := hown'.bytes
  have hput4 := Crc.rput_any A6 ([126, kb] ++ leB f.q 2 ++ leB f.t 4 ++ leB y0 4 ++ leB y1 4) cap6 u8 hby6 hn6 hl
  rw [← e6] at hput4
  clear hby6 hn6 hown' e6 hl
  refine hput4.mono ?_
  rintro e w6 ⟨v6, rfl, hown6, hb6⟩
  have HO := Lib.hid (own_down hown6 (show w.heap.size ≤ _ from S8.out.below.size))
  have B7 := Lib.hid (_root_.Go.Proofs.Ytijijfggppnbpaa.bt S8.out.below hb6)
  clear hown6 hb6 hput4
  go_wp2_with fail
  refine bodyPost_ret (results_tmp2 rfl _ _ _) rfl ?_
  refine GotF.yes Hc0.out ?_ HO.out B7.out
  rw [Hby.out, HL0.out, HY0.out, HY1.out]
set_option maxRecDepth 100000 in
set_option maxHeartbeats 1000000 in
theorem yput_3 (f : Fr) (hf : f.Ok) (hk : numK f.k = 3) (hk1 : 1 ≤ f.k) (hk7 : f.k ≤ 7) (w : World) :
    Calls Try.prog 13 #[f.v] w (GotF w f) := by
  have hnum := fun w => ynumbers_any f.k w
  have hblk := Lib.hid (Blk.mk w 25 f.cells)
  have hf1 := hf
  have HF := Lib.hid hf1
  clear hf hf1
  unfold Fr.v
  have hcode : codeF f = if (f.nums.drop 3).all (· == 0) = true then 0 else 1 := by unfold codeF; rw [hk, if_neg (by omega)]; rfl
  have hby : bytesF f = Crc.put (headL f ++ numsL (f.nums.take 3)) := by unfold bytesF; rw [hk]; rfl
  rw [hk] at hnum
  have Hcode := Lib.hid hcode
  have Hby := Lib.hid hby
  have hw1 : IntKind.u8.wrap f.k = ((UInt8.ofNat f.k.toNat).toNat : Int) := by rw [UInt8.toNat_ofNat', IntKind.wrap_u8]; omega
  obtain ⟨kb, hkb⟩ : ∃ c, c = UInt8.ofNat f.k.toNat := ⟨_, rfl⟩
  rw [← hkb] at hw1
  have hhead : headL f = [126, kb] ++ leB f.q 2 ++ leB f.t 4 := by rw [hkb]; rfl
  have Hhead := Lib.hid hhead
  have hL0 : (headL f ++ numsL (f.nums.take 3)) = [126, kb] ++ leB f.q 2 ++ leB f.t 4 ++ leB (low32 f.a) 4 ++ leB (low32 f.b) 4 ++ leB (low32 f.c) 4 := by rw [hhead]; simp [Fr.nums, numsL]
  have HL0 := Lib.hid hL0
  clear hcode hby hk hkb hhead hL0
  have c0 : (w.alloc (.cells f.cells.toArray 25)).cell? ⟨w.heap.size, 0, none⟩ = some (.int .i64 f.k) := hblk.out.cell 0
  have e1 : ∀ (W : World), Blk W w.heap.size 25 f.cells → W.cell? ⟨w.heap.size, 1, none⟩ = some (.int .u16 (f.q : Int)) := fun _ h => h.cell 1
  have e2 : ∀ (W : World), Blk W w.heap.size 25 f.cells → W.cell? ⟨w.heap.size, 2, none⟩ = some (.int .u32 (f.t : Int)) := fun _ h => h.cell 2
  have e3 : ∀ (W : World), Blk W w.heap.size 25 f.cells → W.cell? ⟨w.heap.size, 3, none⟩ = some (.int .i32 f.a) := fun _ h => h.cell 3
  have e4 : ∀ (W : World), Blk W w.heap.size 25 f.cells → W.cell? ⟨w.heap.size, 4, none⟩ = some (.int .i32 f.b) := fun _ h => h.cell 4
  have e5 : ∀ (W : World), Blk W w.heap.size 25 f.cells → W.cell? ⟨w.heap.size, 5, none⟩ = some (.int .i32 f.c) := fun _ h => h.cell 5
  have E1 := Lib.hid e1
  have E2 := Lib.hid e2
  have E3 := Lib.hid e3
  have E4 := Lib.hid e4
  have E5 := Lib.hid e5
  clear e1 e2 e3 e4 e5
  have hcode : codeF f = 0 := by
    rw [Hcode.out, if_pos]
    simp [Fr.nums]
  have Hc0 := Lib.hid hcode
  clear hcode Hcode 
  obtain ⟨cs, hcs⟩ : ∃ c, c = f.cells.toArray := ⟨_, rfl⟩
  rw [← hcs] at c0 ⊢
  have HP : Hid (Blk (w.alloc (.cells cs 25)) w.heap.size 25 f.cells) := Lib.hid (by rw [hcs]; exact hblk.out)
  clear hcs hblk
  have hbw := bl w (.cells cs 25)
  have HB := Lib.hid hbw
  have hq64 : IntKind.u64.wrap (f.q : Int) = (f.q : Int) := IntWalk.u64_in _ (by have := HF.out.q; omega)
  have ht64 : IntKind.u64.wrap (f.t : Int) = (f.t : Int) := IntWalk.u64_in _ (by have := HF.out.t; omega)
  clear hbw
  go_enter Try.func13, Try.ntmps13
  go_wp2_with fail
  refine (hnum _).mono ?_
  rintro e w1 ⟨rfl, rfl⟩
  clear hnum
  generalize hW0 : w.alloc (.cells cs 25) = W0 at *
  have hs0 : W0.heap.size = w.heap.size + 1 := by rw [← hW0]; simp
  clear hW0
  have S0 : St w f (W0.alloc (.cells #[.int .u8 126, .int .u8 (kb.toNat : Int)] 5)) (.slice (some ⟨W0.heap.size, 0, none⟩) 2 2) [126, kb] :=
    ⟨own_down (own_row W0 5 ([126, kb].map bv) 2 rfl (by decide)) (by omega), HB.out.alloc HB.out.size _, HP.out.alloc _⟩
  have HS0 := Lib.hid S0
  have e1 := E1.out _ S0.blk
  clear S0 HB HP
  clear hs0
  go_wp2_with fail
  refine (yput_any f.q 2 _ (by have := HF.out.q; omega) (by decide)).mono ?_
  rintro e u1 ⟨⟨v1, rfl, hown1⟩, hb1⟩
  have S1 := Lib.hid (HS0.out.next hb1)
  have Ho1 := Lib.hid hown1
  clear hown1 hb1 HS0 e1
  go_wp2_with (at_builtin; refine app_step S1.out rfl (.tmp 40) (.tmp 44) rfl rfl _ _ (leB f.q 2) Ho1.out rfl (by simp [leB_len]) ?_; intro v2 u2 hS2; have S2 := Lib.hid hS2; have e2 := E2.out _ hS2.blk; clear hS2)
  refine (yput_any f.t 4 _ (by have := HF.out.t; omega) (by decide)).mono ?_
  rintro e u3 ⟨⟨v3, rfl, hown3⟩, hb3⟩
  have S3 := Lib.hid (S2.out.next hb3)
  have Ho3 := Lib.hid hown3
  clear hown3 hb3 S2 S1 Ho1 e2
  have hu0 : IntKind.u32.wrap f.a = (low32 f.a : Int) := by rw [IntKind.wrap_u32]; unfold low32; omega
  have hl0 : low32 f.a < 4294967296 := by unfold low32; omega
  have hv0 : IntKind.u64.wrap (low32 f.a : Int) = (low32 f.a : Int) := IntWalk.u64_in _ (by omega)
  obtain ⟨y0, hy0⟩ : ∃ y, y = low32 f.a := ⟨_, rfl⟩
  rw [← hy0] at hu0 hl0 hv0
  have HY0 := Lib.hid hy0
  clear hy0
  go_wp2_with (at_builtin; refine app_step S3.out rfl (.tmp 46) (.tmp 50) rfl rfl _ _ (leB f.t 4) Ho3.out rfl (by simp [leB_len]) ?_; intro v4 u4 hS4; have S4 := Lib.hid hS4; have e3 := E3.out _ hS4.blk; clear hS4)
  refine (yput_any y0 4 _ (by omega) (by decide)).mono ?_
  rintro e u5 ⟨⟨v5, rfl, hown5⟩, hb5⟩
  have S5 := Lib.hid (S4.out.next hb5)
  have Ho5 := Lib.hid hown5
  clear hown5 hb5 S4 S3 Ho3 e3 hl0
  have hu1 : IntKind.u32.wrap f.b = (low32 f.b : Int) := by rw [IntKind.wrap_u32]; unfold low32; omega
  have hl1 : low32 f.b < 4294967296 := by unfold low32; omega
  have hv1 : IntKind.u64.wrap (low32 f.b : Int) = (low32 f.b : Int) := IntWalk.u64_in _ (by omega)
  obtain ⟨y1, hy1⟩ : ∃ y, y = low32 f.b := ⟨_, rfl⟩
  rw [← hy1] at hu1 hl1 hv1
  have HY1 := Lib.hid hy1
  clear hy1
  go_wp2_with (at_builtin; refine app_step S5.out rfl (.tmp 54) (.tmp 59) rfl rfl _ _ (leB y0 4) Ho5.out rfl (by simp [leB_len]) ?_; intro v6 u6 hS6; have S6 := Lib.hid hS6; have e4 := E4.out _ hS6.blk; clear hS6)
  refine (yput_any y1 4 _ (by omega) (by decide)).mono ?_
  rintro e u7 ⟨⟨v7, rfl, hown7⟩, hb7⟩
  have S7 := Lib.hid (S6.out.next hb7)
  have Ho7 := Lib.hid hown7
  clear hown7 hb7 S6 S5 Ho5 e4 hl1
  have hu2 : IntKind.u32.wrap f.c = (low32 f.c : Int) := by rw [IntKind.wrap_u32]; unfold low32; omega
  have hl2 : low32 f.c < 4294967296 := by unfold low32; omega
  have hv2 : IntKind.u64.wrap (low32 f.c : Int) = (low32 f.c : Int) := IntWalk.u64_in _ (by omega)
  obtain ⟨y2, hy2⟩ : ∃ y, y = low32 f.c := ⟨_, rfl⟩
  rw [← hy2] at hu2 hl2 hv2
  have HY2 := Lib.hid hy2
  clear hy2
  go_wp2_with (at_builtin; refine app_step S7.out rfl (.tmp 63) (.tmp 68) rfl rfl _ _ (leB y1 4) Ho7.out rfl (by simp [leB_len]) ?_; intro v8 u8 hS8; have S8 := Lib.hid hS8; have e5 := E5.out _ hS8.blk; clear hS8)
  refine (yput_any y2 4 _ (by omega) (by decide)).mono ?_
  rintro e u9 ⟨⟨v9, rfl, hown9⟩, hb9⟩
  have S9 := Lib.hid (S8.out.next hb9)
  have Ho9 := Lib.hid hown9
  clear hown9 hb9 S8 S7 Ho7 e5 hl2
  go_wp2_with (at_builtin; refine app_step S9.out rfl (.tmp 72) (.tmp 77) rfl rfl _ _ (leB y2 4) Ho9.out rfl (by simp [leB_len]) ?_; intro v10 u10 hS10; have S10 := Lib.hid hS10; clear hS10)
  have hl : ([126, kb] ++ leB f.q 2 ++ leB f.t 4 ++ leB y0 4 ++ leB y1 4 ++ leB y2 4).length ≤ 1000000 := by simp [leB_len]
  have hown' : Crc.Own u10 (w.heap.size + 1) v10 ([126, kb] ++ leB f.q 2 ++ leB f.t 4 ++ leB y0 4 ++ leB y1 4 ++ leB y2 4) := S10.out.own
  obtain ⟨A6, cap6, e6, hby6, _, hn6⟩ := hown'.bytes
  have hput4 := Crc.rput_any A6 ([126, kb] ++ leB f.q 2 ++ leB f.t 4 ++ leB y0 4 ++ leB y1 4 ++ leB y2 4) cap6 u10 hby6 hn6 hl
  rw [← e6] at hput4
  clear hby6 hn6 hown' e6 hl
  refine hput4.mono ?_
  rintro e w6 ⟨v6, rfl, hown6, hb6⟩
  have HO := Lib.hid (own_down hown6 (show w.heap.size ≤ _ from S10.out.below.size))
  have B7 := Lib.hid (_root_.Go.Proofs.Ytijijfggppnbpaa.bt S10.out.below hb6)
  clear hown6 hb6 hput4
  go_wp2_with fail
  refine bodyPost_ret (results_tmp2 rfl _ _ _) rfl ?_
  refine GotF.yes Hc0.out ?_ HO.out B7.out
  rw [Hby.out, HL0.out, HY0.out, HY1.out, HY2.out]
theorem yfput_any (f : Fr) (hf : f.Ok) (w : World) : Calls Try.prog 13 #[f.v] w (GotF w f) := by
  rcases numK_cases f.k with ⟨h, _⟩ | ⟨n, h, h3, h1, h7⟩
  · exact yput_none f h w
  · rcases (by omega : n = 0 ∨ n = 1 ∨ n = 2 ∨ n = 3) with rfl | rfl | rfl | rfl
    · exact yput_0 f hf h h1 h7 w
    · exact yput_1 f hf h h1 h7 w
    · exact yput_2 f hf h h1 h7 w
    · exact yput_3 f hf h h1 h7 w
end Frm
end Go.Proofs.Ytijijfggppnbpaa
