/-
  The walk of recorder.All: an iterator over what is in the cells.
-/
import Derived.Test.YtijijfggppnbpaaRecM
namespace Go.Proofs.Ytijijfggppnbpaa
open Go.RowKit Go.Shelf
set_option linter.unusedVariables false
namespace Rec
open Frm Txt
attribute [local go_sem] Oper.semAt_some
/-- what stands in the cell of a number -/
def entry (B : List UInt8) (k n : Nat) : Option (Nat × Fr) := if (readL (chunk B (n % k))).2.2 = true ∧ (readL (chunk B (n % k))).1 = n then some (n, (readL (chunk B (n % k))).2.1) else none
def firstN (k nx : Nat) : Nat := if k < nx then nx - k else 1
/-- what stands in the cells, by rising numbers -/
def allFrom (B : List UInt8) (k n d : Nat) : List (Nat × Fr) := (List.range' n d).filterMap (entry B k)
def allE (B : List UInt8) (k nx : Nat) : List (Nat × Fr) := allFrom B k (firstN k nx) (nx - firstN k nx)
theorem rd_top {w : World} {lo hi : Nat} {A : Option Addr} {l : List Value} (h : RdL w lo hi A l) : RdL w 0 w.heap.size A l := by
  rcases h with h | ⟨b, off, e, h1, h2, h3, hc⟩
  · exact .inl h
  · exact .inr ⟨b, off, e, Nat.zero_le _, h3, h3, hc⟩
theorem allFrom_succ (B : List UInt8) (k n d : Nat) : allFrom B k n (d + 1) = (entry B k n).toList ++ allFrom B k (n + 1) d := by
  unfold allFrom
  rw [List.range'_succ]
  cases h : entry B k n with
  | none => rw [List.filterMap_cons_none h]; rfl
  | some x => rw [List.filterMap_cons_some h]; rfl
theorem allFrom_len (B : List UInt8) (k n d : Nat) : (allFrom B k n d).length ≤ d := by
  unfold allFrom
  refine Nat.le_trans (List.length_filterMap_le _ _) ?_
  rw [List.length_range']
  exact Nat.le_refl _
theorem firstN_le {k nx : Nat} (hk : 1 ≤ k) (hn : 1 ≤ nx) : 1 ≤ firstN k nx ∧ firstN k nx ≤ nx ∧ nx - firstN k nx ≤ k := by
  unfold firstN
  split <;> omega
/-- the box of the recorder's address, and the recorder -/
structure RX (Bs gr gb cap : Nat) (B : List UInt8) (n : Nat) (W : World) : Prop where
  box : W.cell? ⟨Bs, 0, none⟩ = some (.pointer (some ⟨gr, 0, none⟩))
  rb : RB W gr gb cap B n
theorem RX.next {Bs gr gb cap : Nat} {B : List UInt8} {n : Nat} {W W' : World} (S : RX Bs gr gb cap B n W) (hb : Below W.heap.size W W') : RX Bs gr gb cap B n W' :=
  ⟨(hb.cell (p := ⟨Bs, 0, none⟩) (block_lt_of_cell S.box)).trans S.box, S.rb.next hb⟩
def entC (x : Nat × Fr) : List Value := .int .u64 (x.1 : Int) :: x.2.cells
def encE (x : Nat × Fr) : Array Value := #[.agg (entC x).toArray]
def AllPostE (B : List UInt8) (k nx : Nat) (J Jx : List (Nat × Fr) → World → Prop) (e : Ending) (W' : World) : Prop := (∃ v, e = .returned v) ∧
      ((∃ ys, ys = allE B k nx ∧ J ys W') ∨ (∃ pre, pre <+: allE B k nx ∧ Jx pre W'))
set_option maxRecDepth 100000 in
set_option maxHeartbeats 2000000 in
theorem all1_in (n : Nat) (hn : 1 ≤ n) (l Bs gr gb cap k : Nat) (B : List UInt8) (nx : Nat) (hB : B.length = 40 * k) (hk1 : 1 ≤ k) (hk2 : k ≤ 1024) (hn1 : 1 ≤ nx) (hn2 : nx ≤ 9223372036854775808) (hcap : 40 * k ≤ cap) (J Jx : List (Nat × Fr) → World → Prop) (W : World) (hJ : AbidesFrom W.heap.size J)
    (hY : ∀ pre x W1, J pre W1 → pre.length < k → YieldAt Fence.wide (n - 1) Try.prog l (encE x) W1 fun e W' =>
      (e = .returned (.bool true) ∧ J (pre ++ [x]) W' ∧ (RX Bs gr gb cap B nx W1 → RX Bs gr gb cap B nx W')) ∨ (e = .returned (.bool false) ∧ Jx (pre ++ [x]) W'))
    (hbx : RX Bs gr gb cap B nx W) (h0 : J [] W) :
    CallsIn Fence.wide n Try.prog 73 #[.func (.yield l) #[] #[], .pointer (some ⟨Bs, 0, none⟩)] W (AllPostE B k nx J Jx) := by
  have HBL := Lib.hid hB
  obtain ⟨f1, f2, f3⟩ := firstN_le hk1 hn1
  obtain ⟨m, hm⟩ : ∃ m, m = 40 * k := ⟨_, rfl⟩
  have HM := Lib.hid hm
  obtain ⟨fi, hfi⟩ : ∃ fi, fi = firstN k nx := ⟨_, rfl⟩
  rw [← hfi] at f1 f2 f3
  have HFI := Lib.hid hfi
  have hce := fun X (S : RX Bs gr gb cap B nx X) => cells_any S.rb HBL.out hk2
  have wk : IntKind.u64.wrap (k : Int) = (k : Int) := IntWalk.u64_in _ (by omega)
  have hmc : m ≤ cap := by omega
  have hm3 : m ≤ 40960 := by omega
  clear hB hm hcap
  have e0 := hbx.box
  obtain ⟨q0, q1⟩ := hbx.rb.cells
  have HBX := Lib.hid hbx
  have h00 := Lib.hid h0
  clear hbx h0
  refine callsIn_wide.2 ?_
  go_enter Try.func73, Try.ntmps73
  by_cases hkn : k < nx
  · have d1 : decide (k < nx) = true := decide_eq_true hkn
    have y1 : IntKind.u64.wrap ((nx : Int) - (k : Int)) = (fi : Int) := by
      rw [IntWalk.u64_in _ (by omega), HFI.out]
      unfold firstN
      rw [if_pos hkn]
      omega
    have hcex := hce _ HBX.out
    have HX0 := Lib.hid HBX.out
    have H00 := Lib.hid h00.out
    clear hfi
    go_wp2_with fail
    refine hcex.mono ?_
    rintro e w1 ⟨rfl, rfl⟩
    clear hcex
    go_wp2_with fail
    clear e0 q0 q1 HBX h00
    go_loopw [5] (fun u wr => ∃ (i d : Nat) (pre : List (Nat × Fr)), u = .int .u64 (i : Int) ∧ i + d = nx ∧ allFrom B k fi (nx - fi) = pre ++ allFrom B k i d ∧ pre.length + d ≤ k ∧ J pre wr ∧ RX Bs gr gb cap B nx wr) (fun u _ => nx - (intOf u).toNat)
    case atStart => exact ⟨fi, nx - fi, [], rfl, by omega, rfl, by simpa using f3, H00.out, HX0.out⟩
    case round =>
      obtain ⟨i, d, pre, rfl, hid, hall, hpl, hJs, hb⟩ := hrel
      have HAll := Lib.hid hall
      have HB := Lib.hid hb
      have HJs := Lib.hid hJs
      have e0 := hb.box
      obtain ⟨q0, q1⟩ := hb.rb.cells
      clear hall hb hJs HX0 H00
      by_cases hlt : i < nx
      · have dlt : decide (i < nx) = true := decide_eq_true hlt
        obtain ⟨c, hc⟩ : ∃ c, c = i % k := ⟨_, rfl⟩
        have hck : c < k := by rw [hc]; exact Nat.mod_lt _ hk1
        have tk : (i : Int).tmod (k : Int) = (c : Int) := by rw [hc, Int.tmod_eq_emod_of_nonneg (by omega)]; rfl
        have ws : IntKind.u64.wrap (c : Int) = (c : Int) := IntWalk.u64_in _ (by omega)
        have ws2 : IntKind.i64.wrap (c : Int) = (c : Int) := IntWalk.i64_in _ (by omega)
        have nz : ((k : Int) == 0) = false := by rw [beq_eq_false_iff_ne]; omega
        have nz2 : (k : Int) ≠ 0 := by omega
        have nz3 : k ≠ 0 := by omega
        obtain ⟨p, hp⟩ : ∃ p, p = 40 * c := ⟨_, rfl⟩
        have y2 : IntKind.i64.wrap ((c : Int) * 40) = (p : Int) := by rw [IntWalk.i64_in _ (by omega)]; omega
        obtain ⟨q, hq⟩ : ∃ q, q = p + 40 := ⟨_, rfl⟩
        have y3 : IntKind.i64.wrap ((p : Int) + 40) = (q : Int) := by rw [IntWalk.i64_in _ (by omega)]; omega
        have hm := HM.out
        have hpq : q - p = 40 := by omega
        have p0 : (0 : Int) ≤ (p : Int) := by omega
        have p1 : (p : Int) ≤ (q : Int) := by omega
        have p3 : (q : Int) ≤ (cap : Int) := by omega
        have p4 : cap ≠ p := by omega
        have wi1 : IntKind.u64.wrap ((i : Int) + 1) = ((i + 1 : Nat) : Int) := by rw [IntWalk.u64_in _ (by omega)]; rfl
        obtain ⟨_, _, e9, hrd, hca, hcb, _⟩ := own_rd HB.out.rb.own
        injection e9 with e9 e8 e7
        subst e9 e7
        clear e8 hca hcb
        have hrc : RdL wr 0 wr.heap.size (some ⟨gb, p, none⟩) ((chunk B c).map bv) := by
          have := (rd_top hrd).drop p
          have := this.take 40
          rw [← List.map_drop, ← List.map_take, hp] at this
          rw [hp]
          rw [Nat.zero_add] at this
          exact this
        have hread := read_any (some ⟨gb, p, none⟩) (chunk B c) (cap - p) 0 wr.heap.size wr hrc (chunk_len HBL.out hck) (by omega)
        unfold GotD at hread
        have hn64 := readL_lt (chunk B c)
        have hent : Hid (entry B k i = if (readL (chunk B c)).2.2 = true ∧ (readL (chunk B c)).1 = i then some (i, (readL (chunk B c)).2.1) else none) := Lib.hid (by rw [hc]; rfl)
        obtain ⟨n', hn'⟩ : ∃ n, n = (readL (chunk B c)).1 := ⟨_, rfl⟩
        obtain ⟨f, hf⟩ : ∃ f, f = (readL (chunk B c)).2.1 := ⟨_, rfl⟩
        obtain ⟨ok, hok⟩ : ∃ ok, ok = (readL (chunk B c)).2.2 := ⟨_, rfl⟩
        rw [← hn', ← hf, ← hok] at hread hent
        rw [← hn'] at hn64
        obtain ⟨x1, x2, x3, x4, x5, x6⟩ := f
        unfold Fr.v Fr.cells at hread
        have HSUC : Hid (allFrom B k i d = (entry B k i).toList ++ allFrom B k (i + 1) (d - 1)) := Lib.hid (by
          obtain ⟨d', rfl⟩ : ∃ d', d = d' + 1 := ⟨d - 1, by omega⟩
          rw [Nat.add_sub_cancel]
          exact allFrom_succ B k i d')
        clear hrc hn' hf hok hp hq hm hc hrd
        have hcex := hce _ HB.out
        go_wp2_with fail
        refine hcex.mono ?_
        rintro e w1 ⟨rfl, rfl⟩
        clear hcex
        go_wp2_with fail
        refine hread.mono ?_
        rintro e w1 ⟨rfl, hb1⟩
        have hB2 : Below wr.heap.size wr (w1.alloc (.cells #[.int .i64 x1, .int .u16 (x2 : Int), .int .u32 (x3 : Int), .int .i32 x4, .int .i32 x5, .int .i32 x6] 25)) := hb1.alloc hb1.size _
        have hJ1 := hJ pre wr _ none HJs.out (only_below hB2 none) (fun r e => by cases e)
        have HB2 := Lib.hid hB2
        have HJ1 := Lib.hid hJ1
        clear hb1 hB2 hJ1 hread e0 q0 q1 tk ws ws2 nz nz2 nz3 y2 y3 hpq p0 p1 p3 p4
        by_cases hyes : ok = true ∧ n' = i
        · obtain ⟨rfl, rfl⟩ := hyes
          have HE : Hid (entry B k n' = some (n', ⟨x1, x2, x3, x4, x5, x6⟩)) := Lib.hid (by rw [hent.out, if_pos ⟨rfl, rfl⟩])
          have hlen : pre.length < k := by omega
          have en : ((n' : Int) == (n' : Int)) = true := by rw [beq_iff_eq]
          obtain ⟨fn, tmps, assign, body, hy, hR⟩ := hY pre (n', ⟨x1, x2, x3, x4, x5, x6⟩) _ HJ1.out hlen
          dsimp only [encE, entC, Fr.cells] at hy
          clear hent
          go_upto_region 9 with fail
          refine (wpIn_wide (n := n)).1 ?_
          gi_wp2_with fail
          refine hR.mono ?_
          rintro e W3 (⟨rfl, hJ3, hk3⟩ | ⟨rfl, hJx3⟩)
          · have HB3 := Lib.hid (hk3 (HB.out.next HB2.out))
            have HJ3 := Lib.hid hJ3
            clear hk3 hJ3 hR hy
            gi_wp2
            go_wp2
            go_roundw
            case rel => exact ⟨n' + 1, d - 1, pre ++ [(n', ⟨x1, x2, x3, x4, x5, x6⟩)], by go_num, by omega, by rw [HAll.out, HSUC.out, HE.out, List.append_assoc]; rfl, by rw [List.length_append]; show pre.length + 1 + _ ≤ k; omega, HJ3.out, HB3.out⟩
            case measure => first | (simp [intOf]; done) | (simp [intOf]; omega)
          · clear hR hy
            have HJx := Lib.hid hJx3
            clear hJx3
            gi_wp2
            go_wp2
            refine bodyPost_ret (results_none rfl _ _ _) rfl ?_
            exact ⟨⟨_, rfl⟩, .inr ⟨pre ++ [(n', ⟨x1, x2, x3, x4, x5, x6⟩)], ⟨allFrom B k (n' + 1) (d - 1), by unfold allE; rw [← HFI.out, HAll.out, HSUC.out, HE.out, List.append_assoc]; rfl⟩, HJx.out⟩⟩
        · have HE : Hid (entry B k i = none) := Lib.hid (by rw [hent.out, if_neg hyes])
          clear hent
          cases ok with
          | false =>
            go_wp2_with fail
            go_roundw
            case rel => exact ⟨i + 1, d - 1, pre, by go_num, by omega, by rw [HAll.out, HSUC.out, HE.out]; rfl, by omega, HJ1.out, HB.out.next HB2.out⟩
            case measure => first | (simp [intOf]; done) | (simp [intOf]; omega)
          | true =>
            have en : ((n' : Int) == (i : Int)) = false := by rw [beq_eq_false_iff_ne]; intro h; exact hyes ⟨rfl, by omega⟩
            clear hyes
            go_wp2_with fail
            go_roundw
            case rel => exact ⟨i + 1, d - 1, pre, by go_num, by omega, by rw [HAll.out, HSUC.out, HE.out]; rfl, by omega, HJ1.out, HB.out.next HB2.out⟩
            case measure => first | (simp [intOf]; done) | (simp [intOf]; omega)
      · have dlt : decide (i < nx) = false := decide_eq_false hlt
        obtain rfl : i = nx := by omega
        obtain rfl : d = 0 := by omega
        go_wp2
        go_end0
        exact ⟨⟨_, rfl⟩, .inl ⟨pre, by unfold allE; rw [← HFI.out, HAll.out]; unfold allFrom; simp, HJs.out⟩⟩
  · have d1 : decide (k < nx) = false := decide_eq_false hkn
    have hfi1 : fi = 1 := by
      rw [hfi]
      unfold firstN
      rw [if_neg hkn]
    subst hfi1
    have hcex := hce _ HBX.out
    have HX0 := Lib.hid HBX.out
    have H00 := Lib.hid h00.out
    clear hfi
    go_wp2_with fail
    refine hcex.mono ?_
    rintro e w1 ⟨rfl, rfl⟩
    clear hcex
    go_wp2_with fail
    clear e0 q0 q1 HBX h00
    go_loopw [5] (fun u wr => ∃ (i d : Nat) (pre : List (Nat × Fr)), u = .int .u64 (i : Int) ∧ i + d = nx ∧ allFrom B k 1 (nx - 1) = pre ++ allFrom B k i d ∧ pre.length + d ≤ k ∧ J pre wr ∧ RX Bs gr gb cap B nx wr) (fun u _ => nx - (intOf u).toNat)
    case atStart => exact ⟨1, nx - 1, [], rfl, by omega, rfl, by simpa using f3, H00.out, HX0.out⟩
    case round =>
      obtain ⟨i, d, pre, rfl, hid, hall, hpl, hJs, hb⟩ := hrel
      have HAll := Lib.hid hall
      have HB := Lib.hid hb
      have HJs := Lib.hid hJs
      have e0 := hb.box
      obtain ⟨q0, q1⟩ := hb.rb.cells
      clear hall hb hJs HX0 H00
      by_cases hlt : i < nx
      · have dlt : decide (i < nx) = true := decide_eq_true hlt
        obtain ⟨c, hc⟩ : ∃ c, c = i % k := ⟨_, rfl⟩
        have hck : c < k := by rw [hc]; exact Nat.mod_lt _ hk1
        have tk : (i : Int).tmod (k : Int) = (c : Int) := by rw [hc, Int.tmod_eq_emod_of_nonneg (by omega)]; rfl
        have ws : IntKind.u64.wrap (c : Int) = (c : Int) := IntWalk.u64_in _ (by omega)
        have ws2 : IntKind.i64.wrap (c : Int) = (c : Int) := IntWalk.i64_in _ (by omega)
        have nz : ((k : Int) == 0) = false := by rw [beq_eq_false_iff_ne]; omega
        have nz2 : (k : Int) ≠ 0 := by omega
        have nz3 : k ≠ 0 := by omega
        obtain ⟨p, hp⟩ : ∃ p, p = 40 * c := ⟨_, rfl⟩
        have y2 : IntKind.i64.wrap ((c : Int) * 40) = (p : Int) := by rw [IntWalk.i64_in _ (by omega)]; omega
        obtain ⟨q, hq⟩ : ∃ q, q = p + 40 := ⟨_, rfl⟩
        have y3 : IntKind.i64.wrap ((p : Int) + 40) = (q : Int) := by rw [IntWalk.i64_in _ (by omega)]; omega
        have hm := HM.out
        have hpq : q - p = 40 := by omega
        have p0 : (0 : Int) ≤ (p : Int) := by omega
        have p1 : (p : Int) ≤ (q : Int) := by omega
        have p3 : (q : Int) ≤ (cap : Int) := by omega
        have p4 : cap ≠ p := by omega
        have wi1 : IntKind.u64.wrap ((i : Int) + 1) = ((i + 1 : Nat) : Int) := by rw [IntWalk.u64_in _ (by omega)]; rfl
        obtain ⟨_, _, e9, hrd, hca, hcb, _⟩ := own_rd HB.out.rb.own
        injection e9 with e9 e8 e7
        subst e9 e7
        clear e8 hca hcb
        have hrc : RdL wr 0 wr.heap.size (some ⟨gb, p, none⟩) ((chunk B c).map bv) := by
          have := (rd_top hrd).drop p
          have := this.take 40
          rw [← List.map_drop, ← List.map_take, hp] at this
          rw [hp]
          rw [Nat.zero_add] at this
          exact this
        have hread := read_any (some ⟨gb, p, none⟩) (chunk B c) (cap - p) 0 wr.heap.size wr hrc (chunk_len HBL.out hck) (by omega)
        unfold GotD at hread
        have hn64 := readL_lt (chunk B c)
        have hent : Hid (entry B k i = if (readL (chunk B c)).2.2 = true ∧ (readL (chunk B c)).1 = i then some (i, (readL (chunk B c)).2.1) else none) := Lib.hid (by rw [hc]; rfl)
        obtain ⟨n', hn'⟩ : ∃ n, n = (readL (chunk B c)).1 := ⟨_, rfl⟩
        obtain ⟨f, hf⟩ : ∃ f, f = (readL (chunk B c)).2.1 := ⟨_, rfl⟩
        obtain ⟨ok, hok⟩ : ∃ ok, ok = (readL (chunk B c)).2.2 := ⟨_, rfl⟩
        rw [← hn', ← hf, ← hok] at hread hent
        rw [← hn'] at hn64
        obtain ⟨x1, x2, x3, x4, x5, x6⟩ := f
        unfold Fr.v Fr.cells at hread
        have HSUC : Hid (allFrom B k i d = (entry B k i).toList ++ allFrom B k (i + 1) (d - 1)) := Lib.hid (by
          obtain ⟨d', rfl⟩ : ∃ d', d = d' + 1 := ⟨d - 1, by omega⟩
          rw [Nat.add_sub_cancel]
          exact allFrom_succ B k i d')
        clear hrc hn' hf hok hp hq hm hc hrd
        have hcex := hce _ HB.out
        go_wp2_with fail
        refine hcex.mono ?_
        rintro e w1 ⟨rfl, rfl⟩
        clear hcex
        go_wp2_with fail
        refine hread.mono ?_
        rintro e w1 ⟨rfl, hb1⟩
        have hB2 : Below wr.heap.size wr (w1.alloc (.cells #[.int .i64 x1, .int .u16 (x2 : Int), .int .u32 (x3 : Int), .int .i32 x4, .int .i32 x5, .int .i32 x6] 25)) := hb1.alloc hb1.size _
        have hJ1 := hJ pre wr _ none HJs.out (only_below hB2 none) (fun r e => by cases e)
        have HB2 := Lib.hid hB2
        have HJ1 := Lib.hid hJ1
        clear hb1 hB2 hJ1 hread e0 q0 q1 tk ws ws2 nz nz2 nz3 y2 y3 hpq p0 p1 p3 p4
        by_cases hyes : ok = true ∧ n' = i
        · obtain ⟨rfl, rfl⟩ := hyes
          have HE : Hid (entry B k n' = some (n', ⟨x1, x2, x3, x4, x5, x6⟩)) := Lib.hid (by rw [hent.out, if_pos ⟨rfl, rfl⟩])
          have hlen : pre.length < k := by omega
          have en : ((n' : Int) == (n' : Int)) = true := by rw [beq_iff_eq]
          obtain ⟨fn, tmps, assign, body, hy, hR⟩ := hY pre (n', ⟨x1, x2, x3, x4, x5, x6⟩) _ HJ1.out hlen
          dsimp only [encE, entC, Fr.cells] at hy
          clear hent
          go_upto_region 9 with fail
          refine (wpIn_wide (n := n)).1 ?_
          gi_wp2_with fail
          refine hR.mono ?_
          rintro e W3 (⟨rfl, hJ3, hk3⟩ | ⟨rfl, hJx3⟩)
          · have HB3 := Lib.hid (hk3 (HB.out.next HB2.out))
            have HJ3 := Lib.hid hJ3
            clear hk3 hJ3 hR hy
            gi_wp2
            go_wp2
            go_roundw
            case rel => exact ⟨n' + 1, d - 1, pre ++ [(n', ⟨x1, x2, x3, x4, x5, x6⟩)], by go_num, by omega, by rw [HAll.out, HSUC.out, HE.out, List.append_assoc]; rfl, by rw [List.length_append]; show pre.length + 1 + _ ≤ k; omega, HJ3.out, HB3.out⟩
            case measure => first | (simp [intOf]; done) | (simp [intOf]; omega)
          · clear hR hy
            have HJx := Lib.hid hJx3
            clear hJx3
            gi_wp2
            go_wp2
            refine bodyPost_ret (results_none rfl _ _ _) rfl ?_
            exact ⟨⟨_, rfl⟩, .inr ⟨pre ++ [(n', ⟨x1, x2, x3, x4, x5, x6⟩)], ⟨allFrom B k (n' + 1) (d - 1), by unfold allE; rw [← HFI.out, HAll.out, HSUC.out, HE.out, List.append_assoc]; rfl⟩, HJx.out⟩⟩
        · have HE : Hid (entry B k i = none) := Lib.hid (by rw [hent.out, if_neg hyes])
          clear hent
          cases ok with
          | false =>
            go_wp2_with fail
            go_roundw
            case rel => exact ⟨i + 1, d - 1, pre, by go_num, by omega, by rw [HAll.out, HSUC.out, HE.out]; rfl, by omega, HJ1.out, HB.out.next HB2.out⟩
            case measure => first | (simp [intOf]; done) | (simp [intOf]; omega)
          | true =>
            have en : ((n' : Int) == (i : Int)) = false := by rw [beq_eq_false_iff_ne]; intro h; exact hyes ⟨rfl, by omega⟩
            clear hyes
            go_wp2_with fail
            go_roundw
            case rel => exact ⟨i + 1, d - 1, pre, by go_num, by omega, by rw [HAll.out, HSUC.out, HE.out]; rfl, by omega, HJ1.out, HB.out.next HB2.out⟩
            case measure => first | (simp [intOf]; done) | (simp [intOf]; omega)
      · have dlt : decide (i < nx) = false := decide_eq_false hlt
        obtain rfl : i = nx := by omega
        obtain rfl : d = 0 := by omega
        go_wp2
        go_end0
        exact ⟨⟨_, rfl⟩, .inl ⟨pre, by unfold allE; rw [← HFI.out, HAll.out]; unfold allFrom; simp, HJs.out⟩⟩
/-- the iterator, as a caller's range needs it -/
theorem allR_stops (n : Nat) (hn : 1 ≤ n) (Bs gr gb cap k : Nat) (B : List UInt8) (nx : Nat) (hB : B.length = 40 * k) (hk1 : 1 ≤ k) (hk2 : k ≤ 1024) (hn1 : 1 ≤ nx) (hn2 : nx ≤ 9223372036854775808) (w : World) (hbx : RX Bs gr gb cap B nx w) :
    SeqStopsK Fence.wide n Try.prog 73 #[.pointer (some ⟨Bs, 0, none⟩)] encE (fun W W' => RX Bs gr gb cap B nx W → RX Bs gr gb cap B nx W') (fun ys => ys = allE B k nx) (fun pre => pre <+: allE B k nx) k w := fun l J Jx W hW hJ _ hY h0 =>
  all1_in n hn l Bs gr gb cap k B nx hB hk1 hk2 hn1 hn2 (by obtain ⟨_, _, e, _, h, _, _⟩ := own_rd hbx.rb.own; injection e with _ _ e; rw [← hB, e]; exact h) J Jx W hJ hY (hbx.next hW) h0
/-- Recorder.All: the pointer is boxed; the function value captures the box. -/
theorem allR_any (p : Option Addr) (w : World) :
    Calls Try.prog 66 #[.pointer p] w fun e w' => e = .returned (.func (.func 73) #[] #[.pointer (some ⟨w.heap.size, 0, none⟩)]) ∧ w.alloc (.cells #[.pointer p] 65) = w' := by
  go_enter Try.func66, Try.ntmps66
  go_wp2_with fail
  go_ret
  exact ⟨rfl, rfl⟩
theorem rx_putObj {Bs gr gb cap : Nat} {B : List UInt8} {n : Nat} (W : World) (l : Nat) (o o' : Obj) (hl : W.heap[l]? = some o) (ho : o.isCells = false) : RX Bs gr gb cap B n W → RX Bs gr gb cap B n (W.putObj l o') := by
  intro h
  have hsame : ∀ b, b ≠ l → (W.putObj l o').heap[b]? = W.heap[b]? := fun b hb => World.putObj_heap_other hb
  have hne : ∀ (b : Nat) (i : Nat) (v : Value), W.cell? ⟨b, i, none⟩ = some v → b ≠ l := fun b i v hc e => by
    subst e
    unfold World.cell? at hc
    simp only [hl] at hc
    cases o <;> simp_all [Obj.isCells]
  have hbl : ∀ (b : Nat) (cs : Array Value) (t : TypeId) (z : Nat × Nat), W.heap[b]? = some (.cells cs t z) → b ≠ l := fun b cs t z hc e => by
    subst e
    rw [hl] at hc
    injection hc with hc
    subst hc
    cases ho
  refine ⟨?_, ?_, ?_, h.rb.ne⟩
  · rw [← h.box]
    unfold World.cell?
    rw [hsame Bs (hne _ _ _ h.box)]
  · exact (hsame gr (hbl _ _ _ _ h.rb.box)).trans h.rb.box
  · refine ⟨h.rb.own.1, ?_⟩
    rcases h.rb.own.2 with h2 | ⟨g, c, cur, e1, e2, e3, r⟩
    · exact .inl h2
    · exact .inr ⟨g, c, cur, e1, e2, (hsame g (hbl _ _ _ _ e3)).trans e3, r⟩
/-- the temporaries behind the assignment to the loop's left side -/
def TE (a : Act) (q s : Tmp) (x : Nat × Fr) (B : Nat) : Act := { tmps := (a.tmps.setIfInBounds q (.agg (entC x).toArray)).setIfInBounds s (.pointer (some ⟨B, 0, none⟩)), defers := [] }
theorem range_entries {g : Operand} {q s : Tmp} {assign body : Code} {Q : Exit → Act → World → Prop} {a : Act} {W0 : World} {Bs gr gb cap k : Nat} {B : List UInt8} {nx : Nat}
    (hg : a.eval g = .func (.func 73) #[] #[.pointer (some ⟨Bs, 0, none⟩)]) (hB : B.length = 40 * k) (hk1 : 1 ≤ k) (hk2 : k ≤ 1024) (hn1 : 1 ≤ nx) (hn2 : nx ≤ 9223372036854775808) (hbx : RX Bs gr gb cap B nx W0)
    (I : List (Nat × Fr) → World → Prop) (Ix : Code → List (Nat × Fr) → World → Prop) (hI : OwnFrom W0.heap.size I) (hIx : ∀ c, OwnFrom W0.heap.size (Ix c)) (h0 : I [] W0) (hIsz : ∀ pre W, I pre W → W0.heap.size ≤ W.heap.size)
    (hassign : ∀ (l : Nat) (x : Nat × Fr) (W : World) (K : Act → World → Prop), K (TE a q s x W.heap.size) (W.alloc (.cells (entC x).toArray 106)) →
      assign.wpIn (Fence.wide.inRound l) 7 Try.prog (Exit.then K (fun _ _ _ => False)) { tmps := a.tmps.setIfInBounds q (.agg (entC x).toArray), defers := [] } W)
    (hbody : ∀ (l : Nat) (pre : List (Nat × Fr)) (x : Nat × Fr) (B' : Nat) (W : World), W0.heap.size ≤ l → I pre W → W0.heap.size ≤ B' → Blk W B' 106 (entC x) → pre.length < k →
      body.wpIn (Fence.wide.inRound l) 7 Try.prog (ownPostG W0.heap.size (fun W W' => RX Bs gr gb cap B nx W → RX Bs gr gb cap B nx W') I Ix (pre ++ [x]) W) (TE a q s x B') W)
    (hdone : ∀ (D : Nat) (W : World), W0.heap.size ≤ D → I (allE B k nx) W → W.heap[D]? = some (.deferred (some [])) → Q .normal { a with defers := { target := .collected D, args := #[] } :: a.defers } W)
    (hstop : ∀ (D : Nat) (c : Code) (pre : List (Nat × Fr)) (W : World), W0.heap.size ≤ D → pre <+: allE B k nx → Ix c pre W → W.heap[D]? = some (.deferred (some [])) → c.wp Try.prog Q { a with defers := { target := .collected D, args := #[] } :: a.defers } W) :
    (Code.rangeFunc g #[q] assign body).wp Try.prog Q a W0 := by
  refine (wpIn_wide (n := 9)).1 ?_
  refine wpIn_rangeFunc_ownH rfl (by decide) (gf := 73) (lb := #[.pointer (some ⟨Bs, 0, none⟩)]) hg trivial (enters_of Try.func73 (by kernel_rfl) rfl)
    (allR_stops 8 (by decide) Bs gr gb cap k B nx hB hk1 hk2 hn1 hn2 W0 hbx) (fun h k x => k (h x)) (fun W l o o' _ hl ho _ => rx_putObj W l o o' hl ho) (Below.refl _ _) (fun _ => rfl) I Ix hI hIx h0
    (fun x a' W => ∃ B', W0.heap.size ≤ B' ∧ Blk W B' 106 (entC x) ∧ a' = TE a q s x B') ?_ ?_ ?_ ?_ ?_
  · intro x a' s A' B' row hs hgr hr
    obtain ⟨B, h1, h2, h3⟩ := hs
    refine ⟨B, h1, h2.grown hgr (fun e => ?_), h3⟩
    obtain ⟨_, o, ho, hc⟩ := hr B e.symm
    rw [show A'.heap[B]? = _ from h2] at ho
    injection ho with ho
    subst ho
    cases hc
  · intro l pre x W K hi hK
    have e : ((#[q] : Array Tmp).zip (encE x)).foldl (fun t (pv : Tmp × Value) => t.setIfInBounds pv.1 pv.2) a.tmps = a.tmps.setIfInBounds q (.agg (entC x).toArray) := by simp [encE]
    have e2 := hassign l x W K (hK _ _ ((KeepsOthers.alloc W _).from _) (fun h => h.next (bl W _)) (hI.alloc _ hi) ⟨W.heap.size, hIsz pre W hi, Blk.mk W 106 (entC x), rfl⟩)
    rw [← e] at e2
    exact e2
  · rintro l pre x a' W hl' _ hi ⟨B, h1, h2, rfl⟩ hlen
    exact hbody l pre x B W hl' hi h1 h2 hlen
  · rintro D xs W hD rfl hi hK
    exact hdone D W hD hi hK
  · rintro D c pre W hD hpre hi hK
    exact (wpIn_wide (n := 9)).2 (hstop D c pre W hD hpre hi hK)
end Rec
end Go.Proofs.Ytijijfggppnbpaa
