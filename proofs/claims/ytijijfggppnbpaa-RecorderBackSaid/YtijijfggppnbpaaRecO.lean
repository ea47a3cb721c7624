/-
  The walk of package recorder's Open.
-/
import Derived.Test.YtijijfggppnbpaaRecR
namespace Go.Proofs.Ytijijfggppnbpaa
open Go.RowKit
set_option linter.unusedVariables false
namespace Rec
open Frm Txt
/-- the next number, of so many cells -/
def nextTo (B : List UInt8) (k : Nat) : Nat → Nat
  | 0 => 1
  | i + 1 => if (readL (chunk B i)).2.2 = true ∧ (readL (chunk B i)).1 % k = i ∧ nextTo B k i ≤ (readL (chunk B i)).1 ∧ (readL (chunk B i)).1 < 9223372036854775808 then (readL (chunk B i)).1 + 1 else nextTo B k i
theorem readL_lt (C : List UInt8) : (readL C).1 < 18446744073709551616 := by
  have h := leVal_lt C 0 8
  unfold readL
  split
  · decide
  · split
    · decide
    · split
      · decide
      · split
        · decide
        · exact h
theorem nextTo_le (B : List UInt8) (k : Nat) : ∀ i, 1 ≤ nextTo B k i ∧ nextTo B k i ≤ 9223372036854775808
  | 0 => by unfold nextTo; omega
  | i + 1 => by
    have ih := nextTo_le B k i
    unfold nextTo
    split
    · omega
    · exact ih
theorem open_bad (A : Option Addr) (m cap : Nat) (w : World) (h : m = 0 ∨ m % 40 ≠ 0 ∨ 40960 < m) (hm : m ≤ 1000000) :
    Calls Try.prog 52 #[.slice A m cap] w fun e w' => e = .returned (.tuple #[.pointer none, .int .i64 5]) ∧ w = w' := by
  have t : (m : Int).tmod 40 = ((m % 40 : Nat) : Int) := by rw [Int.tmod_eq_emod_of_nonneg (by omega)]; rfl
  obtain ⟨q, hq⟩ : ∃ q, q = m % 40 := ⟨_, rfl⟩
  rw [← hq] at t h
  have hq40 : q < 40 := by omega
  clear hq
  have w1 : IntKind.i64.wrap (q : Int) = (q : Int) := IntWalk.i64_in _ (by omega)
  by_cases h1 : m = 0
  · have d1 : ((m : Int) == 0) = true := by rw [beq_iff_eq]; omega
    clear h h1
    go_enter Try.func52, Try.ntmps52
    go_wp2
    go_ret2
    exact ⟨rfl, rfl⟩
  · have d1 : ((m : Int) == 0) = false := by rw [beq_eq_false_iff_ne]; omega
    by_cases h2 : q = 0
    · have d2 : ((q : Int) != 0) = false := by rw [bne_eq_false_iff_eq]; omega
      have d3 : decide (40960 < (m : Int)) = true := decide_eq_true (by omega)
      clear h h1 h2
      go_enter Try.func52, Try.ntmps52
      go_wp2
      go_ret2
      exact ⟨rfl, rfl⟩
    · have d2 : ((q : Int) != 0) = true := by rw [bne_iff_ne]; omega
      clear h h1 h2
      go_enter Try.func52, Try.ntmps52
      go_wp2
      go_ret2
      exact ⟨rfl, rfl⟩
/-- an opening recorder, and the bytes that it is opened from -/
structure OB (w : World) (gr gb cap lo hi : Nat) (A : Option Addr) (B : List UInt8) (n : Nat) (wr : World) : Prop where
  rb : RB wr gr gb cap B n
  rd : RdL wr lo hi A (B.map bv)
  keep : Below w.heap.size w wr
  h1 : w.heap.size ≤ gr
  h2 : w.heap.size ≤ gb
  h3 : hi ≤ w.heap.size
theorem OB.next {w wr w' : World} {gr gb cap lo hi : Nat} {A : Option Addr} {B : List UInt8} {n : Nat} (S : OB w gr gb cap lo hi A B n wr) (hb : Below wr.heap.size wr w') : OB w gr gb cap lo hi A B n w' :=
  ⟨S.rb.next hb, S.rd.next hb, bt S.keep hb, S.h1, S.h2, S.h3⟩
theorem OB.set {w wr : World} {gr gb cap lo hi : Nat} {A : Option Addr} {B : List UInt8} {n : Nat} (S : OB w gr gb cap lo hi A B n wr) (n' : Nat) : OB w gr gb cap lo hi A B n' (wr.setCell ⟨gr, 1, none⟩ (.int .u64 (n' : Int))) :=
  ⟨⟨S.rb.box.put 1 _, ownsRow_setCell_other S.rb.own (a := ⟨gr, 1, none⟩) (fun e => S.rb.ne (Option.some.inj e)) _, S.rb.ne⟩, S.rd.far (p := ⟨gr, 1, none⟩) (.inr (Nat.le_trans S.h3 S.h1)) _, S.keep.setCell (p := ⟨gr, 1, none⟩) S.h1 _, S.h1, S.h2, S.h3⟩
theorem own_up {w : World} {base n g cap : Nat} {e : TypeId} {L : List Value} (h : w.ownsRow base e 1 (.slice (some ⟨g, 0, none⟩) n cap) n L) : w.ownsRow g e 1 (.slice (some ⟨g, 0, none⟩) n cap) n L := by
  refine ⟨h.1, ?_⟩
  rcases h.2 with ⟨hv, _⟩ | ⟨g', cap', cur, hv, _, hh⟩
  · simp at hv
  · simp at hv
    obtain ⟨rfl, rfl⟩ := hv
    exact .inr ⟨g, cap, cur, rfl, Nat.le_refl _, hh⟩
set_option maxRecDepth 100000 in
set_option maxHeartbeats 2000000 in
theorem open_ok (A : Option Addr) (B : List UInt8) (k cap lo hi : Nat) (w : World) (h : RdL w lo hi A (B.map bv)) (hhi : hi ≤ w.heap.size) (hB : B.length = 40 * k) (hk1 : 1 ≤ k) (hk2 : k ≤ 1024) (hcap : 40 * k ≤ cap) :
    Calls Try.prog 52 #[.slice A (40 * k) cap] w (GotR w B (nextTo B k k)) := by
  obtain ⟨i0, hi', hz0, hz1, hz2⟩ := info_parts infoByte
  obtain ⟨m, hm⟩ : ∃ m, m = 40 * k := ⟨_, rfl⟩
  have hBm : B.length = m := hB.trans hm.symm
  rw [← hm] at hcap ⊢
  have t : (m : Int).tmod 40 = 0 := by rw [hm, Int.tmod_eq_emod_of_nonneg (by omega)]; omega
  have d1 : ((m : Int) == 0) = false := by rw [beq_eq_false_iff_ne]; omega
  have d3 : decide (40960 < (m : Int)) = false := decide_eq_false (by omega)
  have hm1 : 0 < m := by omega
  have hm2 : m ≤ 40960 := by omega
  obtain ⟨b0, o0, rfl, hb1, hb2, hb3, _⟩ := h.some (by rw [List.length_map, hBm]; exact hm1)
  have HRD := Lib.hid h
  have HRD1 := Lib.hid (h.next (bl w (.cells #[] 5)))
  have HN := Lib.hid (own_new w 5 1)
  have HK := Lib.hid (bl w (.cells #[] 5))
  have HBM := Lib.hid hBm
  have HM := Lib.hid hm
  have HH := Lib.hid hhi
  clear h hB hBm hm hhi hb1 hb2 hb3
  go_enter Try.func52, Try.ntmps52
  go_wp2_with (at_builtin; refine wpList_append_mine rfl (.tmp 24) (.tmp 25) 26 rfl w.heap.size 5 i0 (.int .u8 0) 1 1 Try.underlying26 hi' hz0 hz1 hz2 rfl (by decide) (.slice (some ⟨w.heap.size, 0, none⟩) 0 0) 0 [] rfl HN.out (some ⟨b0, o0, none⟩) m cap (B.map bv) rfl (by rw [List.length_map, HBM.out]; omega) (fun h => by cases h) HRD1.out.news (bv_one B) (by simp only [maxLen]; omega) (by omega) (by simp) ?_; intro v1 w1 hown1 hgrow1 hwhose1; rw [Nat.zero_add, List.nil_append] at hown1; obtain ⟨gb, cb, rfl⟩ := own_some hown1 (by omega); have HO := Lib.hid hown1; have HKK := Lib.hid (own_grow HK.out HN.out (Nat.le_refl _) hgrow1); have HRD2 := Lib.hid (HRD1.out.grown hgrow1 (fun g hg => .inr (Nat.le_trans HH.out (own_lt HN.out hg).1))); clear hown1 hgrow1 hwhose1)
  have hgb := (own_lt HO.out (b := gb) rfl)
  have hw1 := HKK.out.size
  obtain ⟨gr, hgr⟩ : ∃ gr, gr = w1.heap.size := ⟨_, rfl⟩
  obtain ⟨w2, hw2⟩ : ∃ w2, w2 = w1.alloc (.cells #[.slice (some ⟨gb, 0, none⟩) m cb, .int .u64 1] 108) := ⟨_, rfl⟩
  have HOB := Lib.hid (show OB w gr gb cb lo hi (some ⟨b0, o0, none⟩) B 1 w2 from ⟨⟨by rw [hgr, hw2, HBM.out]; exact Blk.mk _ _ _, by rw [HBM.out, hw2]; exact own_up (own_next HO.out (bl _ _)), by omega⟩, by rw [hw2]; exact HRD2.out.next (bl _ _), by rw [hw2]; exact bt HKK.out (bl _ _), by omega, hgb.1, HH.out⟩)
  rw [← hgr, ← hw2]
  clear hgb hw1 HO HKK HRD2 HK HN HRD HRD1 hw2 hgr
  have hce := cells_any (k := k) HOB.out.rb (by rw [HBM.out, HM.out]) hk2
  have wk : IntKind.u64.wrap (k : Int) = (k : Int) := IntWalk.u64_in _ (by omega)
  go_wp2_with fail
  refine hce.mono ?_
  rintro e w3 ⟨rfl, rfl⟩
  go_wp2_with fail
  refine hce.mono ?_
  rintro e w3 ⟨rfl, rfl⟩
  clear hce
  go_wp2_with fail
  go_loopw [34] (fun s34 wr => ∃ i : Nat, s34 = .int .i64 (i : Int) ∧ i ≤ k ∧ OB w gr gb cb lo hi (some ⟨b0, o0, none⟩) B (nextTo B k i) wr) (fun s34 _ => k - (intOf s34).toNat)
  case atStart => exact ⟨0, rfl, by omega, HOB.out⟩
  case round =>
    obtain ⟨i, rfl, hi0, hS⟩ := hrel
    have HS := Lib.hid hS
    clear hS
    by_cases hlt : i < k
    · have dlt : decide (i < k) = true := decide_eq_true hlt
      have y1 : IntKind.i64.wrap ((i : Int) * 40) = ((40 * i : Nat) : Int) := by rw [IntWalk.i64_in _ (by omega)]; omega
      have y2 : IntKind.i64.wrap (((i : Int) + 1) * 40) = ((40 * i + 40 : Nat) : Int) := by rw [IntWalk.i64_in _ (by omega)]; omega
      obtain ⟨p, hp⟩ : ∃ p, p = 40 * i := ⟨_, rfl⟩
      obtain ⟨q, hq⟩ : ∃ q, q = 40 * i + 40 := ⟨_, rfl⟩
      rw [← hp] at y1
      rw [← hq] at y2
      have hm := HM.out
      have hpq : q - p = 40 := by omega
      have p0 : (0 : Int) ≤ (p : Int) := by omega
      have p1 : (p : Int) ≤ (q : Int) := by omega
      have p2 : (q : Int) ≤ (m : Int) := by omega
      have p3 : (q : Int) ≤ (cap : Int) := by omega
      have p4 : cap ≠ p := by omega
      have hrc : RdL wr lo hi (some ⟨b0, o0 + p, none⟩) ((chunk B i).map bv) := by
        have := (HS.out.rd.drop p).take 40
        rw [← List.map_drop, ← List.map_take] at this
        rw [hp] at this ⊢
        exact this
      have hread := read_any (some ⟨b0, o0 + p, none⟩) (chunk B i) (cap - p) lo hi wr hrc (chunk_len (by rw [HBM.out, HM.out]) hlt) (by omega)
      unfold GotD at hread
      have hnx := nextTo_le B k i
      have hst : Hid (nextTo B k (i + 1) = if (readL (chunk B i)).2.2 = true ∧ (readL (chunk B i)).1 % k = i ∧ nextTo B k i ≤ (readL (chunk B i)).1 ∧ (readL (chunk B i)).1 < 9223372036854775808 then (readL (chunk B i)).1 + 1 else nextTo B k i) := Lib.hid rfl
      have hn64 := readL_lt (chunk B i)
      obtain ⟨n, hn⟩ : ∃ n, n = (readL (chunk B i)).1 := ⟨_, rfl⟩
      obtain ⟨f, hf⟩ : ∃ f, f = (readL (chunk B i)).2.1 := ⟨_, rfl⟩
      obtain ⟨ok, hok⟩ : ∃ ok, ok = (readL (chunk B i)).2.2 := ⟨_, rfl⟩
      obtain ⟨nx, hnxx⟩ : ∃ nx, nx = nextTo B k i := ⟨_, rfl⟩
      rw [← hn, ← hf, ← hok] at hread
      rw [← hn, ← hok, ← hnxx] at hst
      rw [← hn] at hn64
      rw [← hnxx] at hnx HS
      obtain ⟨x1, x2, x3, x4, x5, x6⟩ := f
      unfold Fr.v Fr.cells at hread
      clear hrc hn hf hok hnxx hp hq hm
      go_wp2_with fail
      refine hread.mono ?_
      rintro e w5 ⟨rfl, hb⟩
      have HS5 := Lib.hid ((HS.out.next hb).next (bl w5 (.cells #[.int .i64 x1, .int .u16 (x2 : Int), .int .u32 (x3 : Int), .int .i32 x4, .int .i32 x5, .int .i32 x6] 25)))
      clear hb hread HS y1 y2 hpq p0 p1 p2 p3 p4
      obtain ⟨s, hs⟩ : ∃ s, s = n % k := ⟨_, rfl⟩
      rw [← hs] at hst
      have hsk : s < k := by rw [hs]; exact Nat.mod_lt _ hk1
      have tk : (n : Int).tmod (k : Int) = (s : Int) := by rw [hs, Int.tmod_eq_emod_of_nonneg (by omega)]; rfl
      have ws : IntKind.u64.wrap (s : Int) = (s : Int) := IntWalk.u64_in _ (by omega)
      have wi : IntKind.u64.wrap (i : Int) = (i : Int) := IntWalk.u64_in _ (by omega)
      have nz : ((k : Int) == 0) = false := by rw [beq_eq_false_iff_ne]; omega
      have nz2 : (k : Int) ≠ 0 := by omega
      have nz3 : k ≠ 0 := by omega
      obtain ⟨q0, q1⟩ := HS5.out.rb.cells
      have qf := HS5.out.rb.box.free 1
      clear hs
      cases ok with
      | false =>
        have HNX : Hid (nextTo B k (i + 1) = nx) := Lib.hid (by rw [hst.out, if_neg (by simp)])
        clear hst
        go_wp2_with fail
        go_roundw
        case rel => exact ⟨i + 1, by go_num, by omega, by rw [HNX.out]; exact HS5.out⟩
        case measure => simp [intOf]; omega
      | true =>
        by_cases h2 : s = i
        · have e2 : ((s : Int) == (i : Int)) = true := by rw [beq_iff_eq]; omega
          by_cases h3 : nx ≤ n
          · have e3 : decide (nx ≤ n) = true := decide_eq_true h3
            have e3' : decide ((nx : Int) ≤ (n : Int)) = true := decide_eq_true (by omega)
            by_cases h4 : n < 9223372036854775808
            · have e4 : decide ((n : Int) < 9223372036854775808) = true := decide_eq_true (by omega)
              have wn : IntKind.u64.wrap ((n : Int) + 1) = ((n + 1 : Nat) : Int) := by rw [IntWalk.u64_in _ (by omega)]; rfl
              obtain ⟨n1, hn1⟩ : ∃ n1, n1 = n + 1 := ⟨_, rfl⟩
              rw [← hn1] at wn
              have HNX : Hid (nextTo B k (i + 1) = n1) := Lib.hid (by rw [hst.out, if_pos ⟨rfl, h2, h3, h4⟩, hn1])
              have HS6 := Lib.hid (HS5.out.set n1)
              clear hst h2 h3 h4 hn1 hnx hn64
              go_wp2_with fail
              go_roundw
              case rel => exact ⟨i + 1, by go_num, by omega, by rw [HNX.out]; exact HS6.out⟩
              case measure => simp [intOf]; omega
            · have e4 : decide ((n : Int) < 9223372036854775808) = false := decide_eq_false (by omega)
              have HNX : Hid (nextTo B k (i + 1) = nx) := Lib.hid (by rw [hst.out, if_neg (fun h => h4 h.2.2.2)])
              clear hst h2 h3 h4 hnx hn64
              go_wp2_with fail
              go_roundw
              case rel => exact ⟨i + 1, by go_num, by omega, by rw [HNX.out]; exact HS5.out⟩
              case measure => simp [intOf]; omega
          · have e3 : decide (nx ≤ n) = false := decide_eq_false h3
            have e3' : decide ((nx : Int) ≤ (n : Int)) = false := decide_eq_false (by omega)
            have HNX : Hid (nextTo B k (i + 1) = nx) := Lib.hid (by rw [hst.out, if_neg (fun h => h3 h.2.2.1)])
            clear hst h2 h3 hnx hn64
            go_wp2_with fail
            go_roundw
            case rel => exact ⟨i + 1, by go_num, by omega, by rw [HNX.out]; exact HS5.out⟩
            case measure => simp [intOf]; omega
        · have e2 : ((s : Int) == (i : Int)) = false := by rw [beq_eq_false_iff_ne]; omega
          have HNX : Hid (nextTo B k (i + 1) = nx) := Lib.hid (by rw [hst.out, if_neg (fun h => h2 h.2.1)])
          clear hst h2 hnx hn64
          go_wp2_with fail
          go_roundw
          case rel => exact ⟨i + 1, by go_num, by omega, by rw [HNX.out]; exact HS5.out⟩
          case measure => simp [intOf]; omega
    · have dlt : decide (i < k) = false := decide_eq_false hlt
      obtain rfl : k = i := by omega
      go_wp2_with fail
      go_ret2
      exact ⟨gr, gb, cb, rfl, HS.out.rb, HS.out.h1, HS.out.h2, HS.out.keep⟩
end Rec
end Go.Proofs.Ytijijfggppnbpaa
