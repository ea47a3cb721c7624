/-
  The walk of layer 30's example.
-/
import Derived.Test.YtijijfggppnbpaaRecQ
import Derived.Test.YtijijfggppnbpaaRecF
namespace Go.Proofs.Ytijijfggppnbpaa
open Go.RowKit Go.Shelf
set_option linter.unusedVariables false
namespace Rec
open Frm Txt
def F4 : Fr := ⟨4, 9, 0, 0, 0, 0⟩
def F5 : Fr := ⟨5, 0, 0, 1, 0, 0⟩
def F3 : Fr := ⟨3, 0, 0, 7, 0, 0⟩
theorem okF4 : F4.Ok := ⟨by decide, by decide, by decide, by decide, by decide, by decide, by decide, by decide, by decide, by decide⟩
theorem okF5 : F5.Ok := ⟨by decide, by decide, by decide, by decide, by decide, by decide, by decide, by decide, by decide, by decide⟩
theorem okF3 : F3.Ok := ⟨by decide, by decide, by decide, by decide, by decide, by decide, by decide, by decide, by decide, by decide⟩
theorem cdF4 : codeF F4 = 0 := by decide
theorem cdF5 : codeF F5 = 0 := by decide
theorem cdF3 : codeF F3 = 0 := by decide
theorem add_good {w : World} {gr gb cap k : Nat} {m : List Fr} {f : Fr} (hf : f.Ok) (h0 : codeF f = 0) (S : RB w gr gb cap (st k m).1 (st k m).2) (hg : AllGood m) (hk1 : 1 ≤ k) (hk2 : k ≤ 1024) (hm : m.length ≤ 1000000) :
    Calls Try.prog 65 #[.pointer (some ⟨gr, 0, none⟩), f.v] w (fun e w' => e = .returned (.tuple #[.int .u64 ((m.length + 1 : Nat) : Int), .int .i64 0]) ∧ RB w' gr gb cap (st k (m ++ [f])).1 (st k (m ++ [f])).2 ∧ Keeps2 w w' gr (some gb)) := by
  refine (add_st f hf S hg hk1 hk2 hm).mono ?_
  rintro e w' ⟨v, c, rfl, hS, hK, (⟨_, rfl, rfl⟩ | ⟨hn, _, _⟩)⟩
  · rw [if_pos h0] at hS
    exact ⟨rfl, hS, hK⟩
  · exact absurd h0 hn
theorem add_bad {w : World} {gr gb cap k : Nat} {m : List Fr} {f : Fr} (hf : f.Ok) (h0 : codeF f ≠ 0) (S : RB w gr gb cap (st k m).1 (st k m).2) (hg : AllGood m) (hk1 : 1 ≤ k) (hk2 : k ≤ 1024) (hm : m.length ≤ 1000000) :
    Calls Try.prog 65 #[.pointer (some ⟨gr, 0, none⟩), f.v] w (fun e w' => e = .returned (.tuple #[.int .u64 0, .int .i64 (codeF f)]) ∧ RB w' gr gb cap (st k m).1 (st k m).2 ∧ Keeps2 w w' gr (some gb)) := by
  refine (add_st f hf S hg hk1 hk2 hm).mono ?_
  rintro e w' ⟨v, c, rfl, hS, hK, (⟨hn, _, _⟩ | ⟨_, rfl, rfl⟩)⟩
  · exact absurd hn h0
  · rw [if_neg h0, List.append_nil] at hS
    exact ⟨rfl, hS, hK⟩
theorem RB.keep {w w' : World} {gr gb cap n : Nat} {B : List UInt8} (S : RB w gr gb cap B n) (hk : ∀ b, b = gr ∨ b = gb → w'.heap[b]? = w.heap[b]?) : RB w' gr gb cap B n := by
  refine ⟨(hk gr (.inl rfl)).trans S.box, ⟨S.own.1, ?_⟩, S.ne⟩
  rcases S.own.2 with h2 | ⟨g, c, cur, e1, e2, e3, r⟩
  · exact .inl h2
  · have e1' := e1
    injection e1' with e4 _ _
    injection e4 with e4
    injection e4 with e4 _ _
    exact .inr ⟨g, c, cur, e1, e2, (hk g (.inr e4.symm)).trans e3, r⟩
/-- the next number, where what is not lost is known -/
theorem next_is {k : Nat} (hk : 1 ≤ k) {m : List Fr} {lo : List Bool} {B : List UInt8} (R : Ring k m lo B) (hm : m.length ≤ 1000000) {N : Nat} (h1 : N = 1 ∨ ∃ x, Valid k m.length x ∧ lo.getD (x % k) false = false ∧ N = x + 1) (h2 : ∀ x, Valid k m.length x → lo.getD (x % k) false = false → x + 1 ≤ N) : nextTo B k k = N := by
  obtain ⟨r1, r2⟩ := ring_next R hm k (Nat.le_refl _)
  have n1 := nextTo_le B k k
  have hmod : ∀ x, x % k < k := fun x => Nat.mod_lt _ hk
  have a1 : nextTo B k k ≤ N := by
    rcases r1 with r1 | ⟨x, hv, _, hl, e⟩
    · rcases h1 with h1 | ⟨y, _, _, e⟩ <;> omega
    · have := h2 x hv hl
      omega
  have a2 : N ≤ nextTo B k k := by
    rcases h1 with h1 | ⟨x, hv, hl, e⟩
    · omega
    · have := r2 x hv (hmod x) hl
      omega
  omega
def m3 : List Fr := [F4, F5, F3]
theorem good3 : AllGood m3 := fun f hf => by
  unfold m3 at hf
  simp only [List.mem_cons, List.not_mem_nil, or_false] at hf
  rcases hf with rfl | rfl | rfl
  · exact ⟨okF4, cdF4⟩
  · exact ⟨okF5, cdF5⟩
  · exact ⟨okF3, cdF3⟩
def B3 : List UInt8 := (st 2 m3).1
def B4 : List UInt8 := flipTo B3 [false, true] 1 2
theorem len3 : B3.length = 80 := st_len (k := 2) (by decide) good3
theorem ring3 : Ring 2 m3 [false, false] B3 := ring_st (by decide) good3 (by decide) (by decide)
theorem ring4 : Ring 2 m3 [false, true] B4 := ring_flip (by decide) good3 (by decide) (by decide) (fun _ _ => rfl)
theorem len4 : B4.length = 80 := (flipTo_len _ _ _ _).trans len3
theorem b4_eq : B4 = B3.set 41 (B3.getD 41 0 ^^^ 1) := rfl
theorem next3 : nextTo B3 2 2 = 4 := next_is (by decide) ring3 (by decide) (.inr ⟨3, by unfold Valid; decide, rfl, rfl⟩) (fun x hv _ => by have := hv.2.1; simp [m3] at this; omega)
theorem next4 : nextTo B4 2 2 = 3 := next_is (by decide) ring4 (by decide) (.inr ⟨2, by unfold Valid; decide, rfl, rfl⟩) (fun x hv hl => by
  have h1 := hv.1
  have h2 := hv.2.1
  have h3 := hv.2.2
  simp [m3] at h2 h3
  have : x = 2 ∨ x = 3 := by omega
  rcases this with rfl | rfl
  · omega
  · exact absurd hl (by decide))
theorem all3 : allE B3 2 4 = [(2, F5), (3, F3)] := (ring_all (by decide) ring3 rfl (N := 4) (by decide) (by decide)).trans rfl
theorem all4 : allE B4 2 3 = [(2, F5)] := (ring_all (by decide) ring4 rfl (N := 3) (by decide) (by decide)).trans rfl
theorem last3 : lastL ((allE B3 2 4).map Prod.snd) 1 = [F3] := by rw [all3]; rfl
theorem last4 : lastL ((allE B4 2 3).map Prod.snd) 9 = [F5] := by rw [all4]; rfl
attribute [local go_sem] Oper.semAt_some
def stepE (s : Int) (x : Nat × Fr) : Int := wrap64 (wrap64 (10 * s) + wrap64 (x.1 : Int))
def sumE (pre : List (Nat × Fr)) : Int := pre.foldl stepE 0
theorem sumE_snoc (pre : List (Nat × Fr)) (x : Nat × Fr) : sumE (pre ++ [x]) = stepE (sumE pre) x := by unfold sumE; rw [List.foldl_append]; rfl
theorem xor_one (x : UInt8) : bits .xor .u8 (x.toNat : Int) 1 = ((x ^^^ 1).toNat : Int) := by
  have h : ∀ n : Fin 256, bits .xor .u8 (n.val : Int) 1 = ((UInt8.ofNat n.val ^^^ 1).toNat : Int) := by decide +kernel
  have h2 := h ⟨x.toNat, x.toNat_lt⟩
  dsimp only at h2
  rw [UInt8.ofNat_toNat] at h2
  exact h2
set_option maxRecDepth 100000 in
set_option maxHeartbeats 2000000 in
theorem works30_any (w : World) : Calls Try.prog 41 #[] w fun e w' => e = .returned (.bool true) ∧ Below w.heap.size w w' := by
  have hnf : ∀ w g, (binOp .eql 103 (.func (.func 73) #[] #[.pointer (some ⟨g, 0, none⟩)]) .nilFunc).run Try.prog w = .ok (.bool false) w := fun _ _ => by kernel_rfl
  have hnew := new_ok (k := 2) (by decide) (by decide) w
  have hbad := fun w => new_bad (k := 0) (.inl (by decide)) w
  refine callsIn_wide.1 (callsIn_of_wp_marks (n := 9) Try.func41 rfl trivial ?_ rfl)
  simp only [Try.ntmps41, List.size_toArray, List.length_nil, Nat.reduceSub, Array.replicate_succ, Array.replicate_zero, List.push_toArray, List.append_toArray, List.nil_append, List.cons_append]
  refine wpIn_wide.2 ?_
  go_wp2_with fail
  refine hnew.mono ?_
  rintro e w1 ⟨gr, gb, cb, rfl, hRB, hg1, hg2, hb⟩
  have HR1 := Lib.hid (show RB w1 gr gb cb (st 2 []).1 (st 2 []).2 from hRB)
  have HK1 := Lib.hid hb
  clear hRB hb hnew
  go_wp2_with fail
  refine (hbad _).mono ?_
  rintro e w2 ⟨rfl, rfl⟩
  have HB5 := Lib.hid (Blk.mk w1 25 F4.cells)
  have HR2 := Lib.hid (HR1.out.next (bl w1 (.cells F4.cells.toArray 25)))
  have HK2 := Lib.hid (bt HK1.out (bl w1 (.cells F4.cells.toArray 25)))
  have hs1 := HK1.out.size
  have hr1 := HR1.out.box.lt
  have hr2 := (own_lt HR1.out.own (b := gb) rfl).2
  obtain ⟨b5, hb5⟩ : ∃ b5, b5 = w1.heap.size := ⟨_, rfl⟩
  have hadd1 := add_good okF4 cdF4 HR2.out (fun _ h => by cases h) (by decide) (by decide) (by decide)
  have HA1 : Hid (Calls Try.prog 65 #[.pointer (some ⟨gr, 0, none⟩), .agg #[.int .i64 4, .int .u16 9, .int .u32 0, .int .i32 0, .int .i32 0, .int .i32 0]] (w1.alloc (.cells #[.int .i64 4, .int .u16 9, .int .u32 0, .int .i32 0, .int .i32 0, .int .i32 0] 25)) (fun e w' => e = .returned (.tuple #[.int .u64 1, .int .i64 0]) ∧ RB w' gr gb cb (st 2 [F4]).1 (st 2 [F4]).2 ∧ Keeps2 (w1.alloc (.cells #[.int .i64 4, .int .u16 9, .int .u32 0, .int .i32 0, .int .i32 0, .int .i32 0] 25)) w' gr (some gb))) := Lib.hid hadd1
  clear hadd1 HR1 HR2 HK1 hbad
  go_wp2_with fail
  refine HA1.out.mono ?_
  rintro e w3 ⟨rfl, hS, hK⟩
  have HR3 := Lib.hid hS
  have HK3 := Lib.hid (Keeps2.below HK2.out hK hg1 hg2 HK2.out.size)
  have hs3 := hK.size
  simp at hs3
  clear hS hK HA1 HK2 HB5
  have HA4 : Hid (Calls Try.prog 65 #[.pointer (some ⟨gr, 0, none⟩), .agg #[.int .i64 5, .int .u16 0, .int .u32 0, .int .i32 1, .int .i32 0, .int .i32 0]] w3 (fun e w' => e = .returned (.tuple #[.int .u64 2, .int .i64 0]) ∧ RB w' gr gb cb (st 2 ([F4] ++ [F5])).1 (st 2 ([F4] ++ [F5])).2 ∧ Keeps2 w3 w' gr (some gb))) := Lib.hid (add_good okF5 cdF5 HR3.out (m := [F4]) (fun g hg => good3 g (by unfold m3; simp at hg ⊢; grind)) (by decide) (by decide) (by decide))
  go_wp2_with fail
  refine HA4.out.mono ?_
  rintro e w4 ⟨rfl, hS, hK⟩
  have HR4 := Lib.hid hS
  have HK4 := Lib.hid (Keeps2.below HK3.out hK hg1 hg2 HK3.out.size)
  have hs4 := hK.size
  clear hS hK HA4 HK3 HR3
  have HA5 : Hid (Calls Try.prog 65 #[.pointer (some ⟨gr, 0, none⟩), .agg #[.int .i64 3, .int .u16 0, .int .u32 0, .int .i32 7, .int .i32 0, .int .i32 0]] w4 (fun e w' => e = .returned (.tuple #[.int .u64 3, .int .i64 0]) ∧ RB w' gr gb cb (st 2 ([F4, F5] ++ [F3])).1 (st 2 ([F4, F5] ++ [F3])).2 ∧ Keeps2 w4 w' gr (some gb))) := Lib.hid (add_good okF3 cdF3 HR4.out (m := [F4, F5]) (fun g hg => good3 g (by unfold m3; simp at hg ⊢; grind)) (by decide) (by decide) (by decide))
  go_wp2_with fail
  refine HA5.out.mono ?_
  rintro e w5 ⟨rfl, hS, hK⟩
  have HR5 := Lib.hid hS
  have HK5 := Lib.hid (Keeps2.below HK4.out hK hg1 hg2 HK4.out.size)
  have hs5 := hK.size
  clear hS hK HA5 HK4 HR4
  have HA6 : Hid (Calls Try.prog 65 #[.pointer (some ⟨gr, 0, none⟩), .agg #[.int .i64 0, .int .u16 0, .int .u32 0, .int .i32 0, .int .i32 0, .int .i32 0]] w5 (fun e w' => e = .returned (.tuple #[.int .u64 0, .int .i64 13]) ∧ RB w' gr gb cb (st 2 m3).1 (st 2 m3).2 ∧ Keeps2 w5 w' gr (some gb))) := Lib.hid (add_bad zero_ok (by decide) HR5.out (m := m3) (fun g hg => good3 g hg) (by decide) (by decide) (by decide))
  go_wp2_with fail
  refine HA6.out.mono ?_
  rintro e w6 ⟨rfl, hS, hK⟩
  have HR6 := Lib.hid hS
  have HK6 := Lib.hid (Keeps2.below HK5.out hK hg1 hg2 HK5.out.size)
  have hs6 := hK.size
  clear hS hK HA6 HK5 HR5
  have hcall := allR_any (some ⟨gr, 0, none⟩) (w6.alloc (.cells #[.int .i64 0] 3))
  go_wp2_with fail
  refine hcall.mono ?_
  rintro e w7 ⟨rfl, rfl⟩
  go_wp2_with fail
  generalize hW0 : (w6.alloc (.cells #[.int .i64 0] 3)).alloc (.cells #[.pointer (some ⟨gr, 0, none⟩)] 65) = W0 at *
  have hs0 : W0.heap.size = w6.heap.size + 1 + 1 := by rw [← hW0]; simp
  have hb0 : Below w6.heap.size w6 W0 := by rw [← hW0]; exact bt (bl _ _) (bl _ _)
  have hsum : Blk W0 w6.heap.size 3 [.int .i64 0] := by rw [← hW0]; exact (Blk.mk w6 3 [.int .i64 0]).alloc _
  have hbx : RX (w6.heap.size + 1) gr gb cb B3 4 W0 := ⟨by rw [← hW0]; simp, by
    have := HR6.out.next hb0
    rw [st_next] at this
    exact this⟩
  have HKW := Lib.hid (bt HK6.out hb0)
  clear hcall hW0
  refine range_entries (s := 14) (k := 2) (Bs := w6.heap.size + 1) rfl len3 (by decide) (by decide) (by decide) (by decide) hbx
    (fun pre W => Keeps2 W0 W w6.heap.size none ∧ Blk W w6.heap.size 3 [.int .i64 (sumE pre)]) (fun _ _ _ => False)
    (fun s W W' row h hg hr => ⟨h.1.grown hg (.inr fun b hb => (hr b hb).1), h.2.grown hg (fun e => by have := (hr _ e.symm).1; omega)⟩) (fun _ _ _ _ _ hs _ _ => hs)
    ⟨Keeps2.refl _ _ _, hsum⟩ (fun _ _ h => h.1.size) ?assign ?body ?done ?stop
  case stop => exact fun _ _ _ _ _ _ h => h.elim
  case assign =>
    rintro l ⟨i, k, q, t, a, b, c⟩ W K hK
    unfold TE entC Fr.cells at hK
    unfold entC Fr.cells
    simp only [List.setIfInBounds_toArray, List.set_cons_zero, List.set_cons_succ] at hK ⊢
    gi_wp2
    exact hK
  case body =>
    rintro l pre ⟨i, x1, x2, x3, x4, x5, x6⟩ B' W hl' ⟨hkp, hbs⟩ hB' hBx hlen
    have y0 : W.cell? ⟨B', 0, none⟩ = some (.int .u64 (i : Int)) := hBx.cell 0
    have c0 : W.cell? ⟨w6.heap.size, 0, none⟩ = some (.int .i64 (sumE pre)) := hbs.cell 0
    have f0 := hbs.free 0
    have HKP := Lib.hid hkp
    have HBS := Lib.hid hbs
    have hws := hkp.size
    have HSN := Lib.hid (sumE_snoc pre (i, ⟨x1, x2, x3, x4, x5, x6⟩))
    clear hkp hbs hBx hbx
    generalize sumE pre = s at *
    unfold TE entC Fr.cells
    simp only [List.setIfInBounds_toArray, List.set_cons_zero, List.set_cons_succ]
    gi_wp2_with fail
    exact ⟨(KeepsOthers.setCell _ _ _).from _, fun h => h.keep (fun b hb => Below.heap_setCell W ⟨w6.heap.size, 0, none⟩ _ b (by show b ≠ w6.heap.size; rcases hb with rfl | rfl | rfl <;> omega)), HKP.out.set 0 _, by rw [HSN.out]; exact HBS.out.put 0 _⟩
  case done =>
    rintro D W hD ⟨hkp, hbs⟩ hKD
    rw [all3, show sumE [(2, F5), (3, F3)] = 23 by decide +kernel] at hbs
    have hRW : RB W gr gb cb B3 4 := hbx.rb.keep (fun b hb => hkp.block b (by rcases hb with rfl | rfl <;> omega) (by rcases hb with rfl | rfl <;> omega) (by simp))
    have HB : Hid (Below w.heap.size w W) := Lib.hid ⟨hkp.os.trans HKW.out.os, hkp.tape.trans HKW.out.tape, hkp.output.trans HKW.out.output, Nat.le_trans HKW.out.size hkp.size, fun b hb => (hkp.block b (by omega) (by omega) (by simp)).trans (HKW.out.block b hb)⟩
    have HRW := Lib.hid hRW
    have HBS := Lib.hid hbs
    have HKD := Lib.hid hKD
    have hws := hkp.size
    have hlast := last_any (k := 2) hRW len3 (by decide) (by decide) (by decide) (by decide) 1 (by decide) (by decide)
    rw [last3] at hlast
    obtain ⟨bs, hbse⟩ : ∃ bs, bs = w6.heap.size := ⟨_, rfl⟩
    rw [← hbse] at HBS
    have hbD : bs ≠ D := by omega
    have hDW := (Array.getElem?_eq_some_iff.1 HKD.out).1
    clear hkp hbs hKD hRW hbx hsum hb0 HKW HR6 HK6
    go_wp2_with fail
    refine hlast.mono ?_
    rintro e w8 ⟨⟨A15, c15, rfl, hr15, hc15⟩, hb8⟩
    have HR15 := Lib.hid hr15
    have HRW8 := Lib.hid (HRW.out.next hb8)
    have HBS8 := Lib.hid (HBS.out.next hb8)
    have HB8 := Lib.hid (bt HB.out hb8)
    have HKD8 := Lib.hid ((hb8.block D hDW).trans HKD.out)
    have hs8 := hb8.size
    have hbyt := bytes_any HRW8.out (by rw [len3]; decide) (by rw [len3]; decide)
    unfold GotB at hbyt
    rw [len3] at hbyt
    clear hr15 hb8 hlast HRW HBS HB HKD
    go_wp2_with fail
    refine hbyt.mono ?_
    rintro e w9 ⟨⟨v16, rfl, ho16⟩, hb9⟩
    obtain ⟨g16, c16, rfl⟩ := own_some ho16 (by decide)
    obtain ⟨_, _, e', hr16, hc16, _, _⟩ := own_rd ho16
    injection e' with e1 _ e3
    subst e1 e3
    have HO16 := Lib.hid ho16
    have HR15b := Lib.hid ((HR15.out.wide (Nat.zero_le _) (Nat.le_refl _)).next hb9)
    have HRW9 := Lib.hid (HRW8.out.next hb9)
    have HBS9 := Lib.hid (HBS8.out.next hb9)
    have HB9 := Lib.hid (bt HB8.out hb9)
    have HKD9 := Lib.hid ((hb9.block D (by omega)).trans HKD8.out)
    have hs9 := hb9.size
    have hop := open_ok (some ⟨g16, 0, none⟩) B3 2 c16 w8.heap.size w9.heap.size w9 hr16 (Nat.le_refl _) len3 (by decide) (by decide) hc16
    rw [next3] at hop
    have hg16 := own_lt ho16 (b := g16) rfl
    clear hb9 hbyt ho16 hr16 HR15 HRW8 HBS8 HB8 HKD8
    go_wp2_with fail
    refine hop.mono ?_
    rintro e w10 ⟨gr2, gb2, cb2, rfl, hRB2, hg3, hg4, hb10⟩
    have HRB2 := Lib.hid hRB2
    have HO16b := Lib.hid (own_next HO16.out hb10)
    have HR15c := Lib.hid (HR15b.out.next hb10)
    have HRW10 := Lib.hid (HRW9.out.next hb10)
    have HBS10 := Lib.hid (HBS9.out.next hb10)
    have HB10 := Lib.hid (bt HB9.out hb10)
    have HKD10 := Lib.hid ((hb10.block D (by omega)).trans HKD9.out)
    have hs10 := hb10.size
    obtain ⟨_, _, e', hr16b, _, _, _⟩ := own_rd HO16b.out
    injection e' with e1 _ e3
    subst e1 e3
    obtain ⟨b', o', e', _, _, _, hcr⟩ := hr16b.some (by rw [List.length_map, len3]; decide)
    injection e' with e'
    injection e' with e1 e3 _
    subst e1 e3
    obtain ⟨x, hx⟩ : ∃ x, B3[41]? = some x := ⟨B3[41]'(by rw [len3]; decide), List.getElem?_eq_getElem _⟩
    have c41 : w10.cell? ⟨g16, 41, none⟩ = some (bv x) := hcr 41 _ (by rw [List.getElem?_map, hx]; rfl)
    have f41 := HO16b.out.frozenAt 41
    have HX := Lib.hid hx
    unfold bv at c41
    clear hRB2 hb10 hop hcr hr16b hx HO16 HR15b HRW9 HBS9 HB9 HKD9
    have hxor := xor_one x
    obtain ⟨y, hy⟩ : ∃ y, y = x ^^^ 1 := ⟨_, rfl⟩
    rw [← hy] at hxor
    obtain ⟨w11, hw11⟩ : ∃ w11, w11 = w10.setCell ⟨g16, 41, none⟩ (.int .u8 (y.toNat : Int)) := ⟨_, rfl⟩
    have hkeep : ∀ b, b ≠ g16 → w11.heap[b]? = w10.heap[b]? := fun b hb => by rw [hw11]; exact Below.heap_setCell w10 ⟨g16, 41, none⟩ _ b hb
    have HO11 : Hid (w11.ownsRow w8.heap.size 5 1 (.slice (some ⟨g16, 0, none⟩) 80 c16) 80 (B4.map bv)) := Lib.hid (by
      have := own_set HO16b.out 41 (bv y)
      rw [hw11, b4_eq, List.map_set, List.getD_eq_getElem?_getD, HX.out]
      rw [hy] at this ⊢
      exact this)
    have HRB3 := Lib.hid (HRB2.out.keep (w' := w11) (fun b hb => hkeep b (by rcases hb with rfl | rfl <;> omega)))
    have HR15d : Hid (RdL w11 0 w8.heap.size A15 (frs [F3])) := Lib.hid (by rw [hw11]; exact HR15c.out.far (p := ⟨g16, 41, none⟩) (.inr hg16.1) _)
    have HRW11 := Lib.hid (HRW10.out.keep (w' := w11) (fun b hb => hkeep b (by rcases hb with rfl | rfl <;> omega)))
    have HBS11 : Hid (Blk w11 bs 3 [.int .i64 23]) := Lib.hid ((hkeep bs (by omega)).trans HBS10.out)
    have HB11 : Hid (Below w.heap.size w w11) := Lib.hid (by rw [hw11]; exact HB10.out.setCell (p := ⟨g16, 41, none⟩) (by show w.heap.size ≤ g16; omega) _)
    have HKD11 := Lib.hid ((hkeep D (by omega)).trans HKD10.out)
    have hs11 : w11.heap.size = w10.heap.size := by rw [hw11]; simp
    obtain ⟨_, _, e', hr16c, _, _, _⟩ := own_rd HO11.out
    injection e' with e1 _ e3
    subst e1 e3
    have hop2 := open_ok (some ⟨g16, 0, none⟩) B4 2 c16 w8.heap.size w11.heap.size w11 hr16c (Nat.le_refl _) len4 (by decide) (by decide) hc16
    rw [next4, hw11] at hop2
    have HW11 := Lib.hid hw11
    have hkeep' := Lib.hid hkeep
    clear hr16c HO16b HRB2 HR15c HRW10 HBS10 HB10 HKD10 hy hw11 hkeep HX
    go_wp2_with fail
    refine hop2.mono ?_
    rw [← HW11.out]
    rintro e w12 ⟨gr3, gb3, cb3, rfl, hRB3, hg5, hg6, hb12⟩
    have HR12 := Lib.hid hRB3
    have HRB12 := Lib.hid (HRB3.out.next hb12)
    have HR15e := Lib.hid (HR15d.out.next hb12)
    have HRW12 := Lib.hid (HRW11.out.next hb12)
    have HBS12 := Lib.hid (HBS11.out.next hb12)
    have HB12 := Lib.hid (bt HB11.out hb12)
    have HKD12 := Lib.hid ((hb12.block D (by omega)).trans HKD11.out)
    have hs12 := hb12.size
    have hob := open_bad (some ⟨g16, 1, none⟩) 79 (c16 - 1) w12 (.inr (.inl (by decide))) (by decide)
    have hc1 : c16 ≠ 1 := by omega
    clear hRB3 hb12 hop2 HRB3 HR15d HRW11 HBS11 HB11 HKD11 c41 f41 hxor
    go_wp2_with fail
    refine hob.mono ?_
    rintro e w13 ⟨rfl, rfl⟩
    have c23 : w12.cell? ⟨w6.heap.size, 0, none⟩ = some (.int .i64 23) := by rw [← hbse]; exact HBS12.out.cell 0
    obtain ⟨ba, oa, rfl, _, _, _, hca⟩ := HR15e.out.some (by decide)
    have c7 : w12.cell? ⟨ba, oa + 3, none⟩ = some (.int .i32 7) := hca 3 _ rfl
    have hn2 := next_any HRB12.out
    have hn3 := next_any HR12.out
    have hl4 := last_any (k := 2) HR12.out len4 (by decide) (by decide) (by decide) (by decide) 9 (by decide) (by decide)
    rw [last4] at hl4
    have HL4 := Lib.hid hl4
    have HN3 := Lib.hid hn3
    clear hob hca hl4 hn3
    go_wp2_with fail
    refine hn2.mono ?_
    rintro e w13 ⟨rfl, rfl⟩
    clear hn2
    go_wp2_with fail
    refine HN3.out.mono ?_
    rintro e w13 ⟨rfl, rfl⟩
    clear HN3
    go_wp2_with fail
    refine HL4.out.mono ?_
    rintro e w14 ⟨⟨A16, c16', rfl, _, _⟩, hb14⟩
    have HKD14 := Lib.hid ((hb14.block D (Array.getElem?_eq_some_iff.1 HKD12.out).1).trans HKD12.out)
    have HB14 := Lib.hid (bt HB12.out hb14)
    have hcl := cells_any (k := 2) (HRW12.out.next hb14) len3 (by decide)
    clear hb14 HL4 HKD12 HB12 HRW12 HBS12 HRB12 HR12 HR15e
    go_wp2_with fail
    refine hcl.mono ?_
    rintro e w15 ⟨rfl, rfl⟩
    clear hcl
    go_wp2_with fail
    refine ⟨by simp, .inl ⟨_, _, rfl, run_takeDeferred HKD14.out, ?_⟩⟩
    exact ⟨_, results_tmp rfl _ _ _, rfl, HB14.out.trans (belowK_b (w := w) (Nat.le_refl _) _ D _ _ (by omega) HKD14.out rfl rfl)⟩
end Rec
end Go.Proofs.Ytijijfggppnbpaa
