/-
  The walk of frame.All: an iterator over the frames that stand in bytes.
-/
import Derived.Test.YtijijfggppnbpaaFrmP
import Derived.RangeFuncNested
import Derived.RangeFuncBound
import Derived.RangeFuncCalls
import Derived.RangeFuncLeaves
import Derived.Shelf.Abstract
import Derived.Shelf.RegionOpen
import Derived.OwnWalkIn
import Derived.TacticsInMore
import Derived.LoopNIn
import Derived.LoopIn
namespace Go.Proofs.Ytijijfggppnbpaa
open Go.RowKit Go.Shelf
set_option linter.unusedVariables false
namespace Frm
open Txt (kind_cases bv bv_one GotB leB leB_len leB_succ leVal leVal_lt tx tx_list)
attribute [local go_sem] Oper.semAt_some

/-- the frames that stand in bytes from a place on, and where -/
def allL (L : List UInt8) (i : Nat) : List (Nat × Fr) :=
  if h : i < L.length then (if (firstL (L.drop i)).2.2 = 0 then (i, (firstL (L.drop i)).1) :: allL L (i + max (firstL (L.drop i)).2.1 1) else allL L (i + 1)) else []
termination_by L.length - i
decreasing_by all_goals omega
theorem allL_end {L : List UInt8} {i : Nat} (h : ¬ i < L.length) : allL L i = [] := by rw [allL, dif_neg h]
theorem allL_skip {L : List UInt8} {i : Nat} (h : i < L.length) (hc : (firstL (L.drop i)).2.2 ≠ 0) : allL L i = allL L (i + 1) := by rw [allL, dif_pos h, if_neg hc]
theorem allL_frame {L : List UInt8} {i : Nat} (h : i < L.length) (hc : (firstL (L.drop i)).2.2 = 0) : allL L i = (i, (firstL (L.drop i)).1) :: allL L (i + (firstL (L.drop i)).2.1) ∧ 12 ≤ (firstL (L.drop i)).2.1 ∧ (firstL (L.drop i)).2.1 ≤ 24 ∧ i + (firstL (L.drop i)).2.1 ≤ L.length := by
  rcases bytes_first (L.drop i) with ⟨h1, _⟩ | ⟨_, _, _, h12, hle, h24, _⟩
  · exact absurd hc h1
  · rw [List.length_drop] at hle
    refine ⟨?_, h12, h24, by omega⟩
    rw [allL, dif_pos h, if_pos hc, Nat.max_eq_left (by omega)]
theorem allL_len (L : List UInt8) : ∀ d i, L.length - i ≤ d → (allL L i).length ≤ L.length - i
  | 0, i, h => by rw [allL_end (by omega)]; exact Nat.zero_le _
  | d + 1, i, h => by
    by_cases hi : i < L.length
    · by_cases hc : (firstL (L.drop i)).2.2 = 0
      · obtain ⟨e, h12, _, _⟩ := allL_frame hi hc
        have := allL_len L d (i + (firstL (L.drop i)).2.1) (by omega)
        rw [e, List.length_cons]
        omega
      · have := allL_len L d (i + 1) (by omega)
        rw [allL_skip hi hc]
        omega
    · rw [allL_end hi]; exact Nat.zero_le _
/-- the box of the bytes, and the bytes -/
structure Bx (Bs : Nat) (A : Option Addr) (N cap hi : Nat) (L : List UInt8) (W : World) : Prop where
  box : W.cell? ⟨Bs, 0, none⟩ = some (.slice A N cap)
  rd : RdL W 0 hi A (L.map bv)
  sz : hi ≤ W.heap.size
theorem Bx.next {Bs : Nat} {A : Option Addr} {N cap hi : Nat} {L : List UInt8} {W W' : World} (S : Bx Bs A N cap hi L W) (hb : Below W.heap.size W W') : Bx Bs A N cap hi L W' :=
  ⟨(hb.cell (p := ⟨Bs, 0, none⟩) (block_lt_of_cell S.box)).trans S.box, S.rd.next hb, Nat.le_trans S.sz hb.size⟩
def encA (x : Nat × Fr) : Array Value := #[.int .i64 (x.1 : Int), x.2.v]
def AllPost (L : List UInt8) (J Jx : List (Nat × Fr) → World → Prop) (e : Ending) (W' : World) : Prop := (∃ v, e = .returned v) ∧
      ((∃ ys, ys = allL L 0 ∧ J ys W') ∨ (∃ pre, pre <+: allL L 0 ∧ Jx pre W'))
set_option maxRecDepth 100000 in
set_option maxHeartbeats 2000000 in
theorem all1_in (n : Nat) (hn : 1 ≤ n) (l Bs : Nat) (A : Option Addr) (N cap hi : Nat) (L : List UInt8) (hL : L.length = N) (hl : N ≤ 1000000) (hNc : N ≤ cap) (hA : A = none → N = 0 ∧ cap = 0) (J Jx : List (Nat × Fr) → World → Prop) (W : World) (hJ : AbidesFrom W.heap.size J)
    (hY : ∀ pre x W1, J pre W1 → pre.length < N → YieldAt Fence.wide (n - 1) Try.prog l (encA x) W1 fun e W' =>
      (e = .returned (.bool true) ∧ J (pre ++ [x]) W' ∧ (Bx Bs A N cap hi L W1 → Bx Bs A N cap hi L W')) ∨ (e = .returned (.bool false) ∧ Jx (pre ++ [x]) W'))
    (hbx : Bx Bs A N cap hi L W) (h0 : J [] W) :
    CallsIn Fence.wide n Try.prog 63 #[.func (.yield l) #[] #[], .pointer (some ⟨Bs, 0, none⟩)] W (AllPost L J Jx) := by
  have HL := Lib.hid hL
  clear hL
  refine callsIn_of_wp Try.func63 rfl trivial ?_ rfl
  simp only [Try.ntmps63, List.size_toArray, List.length_cons, List.length_nil, Nat.reduceAdd, Nat.reduceSub, Array.replicate_succ, Array.replicate_zero, List.push_toArray, List.append_toArray, List.nil_append, List.cons_append]
  gi_wp2
  gi_loopw [3] (fun u wr => ∃ (i : Nat) (pre : List (Nat × Fr)), u = .int .i64 (i : Int) ∧ i ≤ N ∧ allL L 0 = pre ++ allL L i ∧ pre.length ≤ i ∧ J pre wr ∧ Bx Bs A N cap hi L wr) (fun u _ => N - (intOf u).toNat)
  case atStart => exact ⟨0, [], rfl, Nat.zero_le _, rfl, Nat.le_refl _, h0, hbx⟩
  case round =>
    obtain ⟨i, pre, rfl, hiN, hall, hpl, hJs, hb⟩ := hrel
    have hhw := hb.sz
    have HAll := Lib.hid hall
    have HB := Lib.hid hb
    have HJs := Lib.hid hJs
    have e0 := hb.box
    clear hall hb hJs
    by_cases hlt : i < N
    · have hltI : (i : Int) < (N : Int) := by omega
      have hdl : (L.drop i).length = N - i := by rw [List.length_drop, HL.out]
      obtain ⟨b, off, rfl, _, _, _, _⟩ := HB.out.rd.some (by rw [List.length_map, HL.out]; omega)
      have hrd : RdL wr 0 hi (some ⟨b, off + i, none⟩) ((L.drop i).map bv) := by rw [List.map_drop]; exact HB.out.rd.drop i
      have hfst := first_any (some ⟨b, off + i, none⟩) (L.drop i) (N - i) (cap - i) 0 hi wr hrd hhw hdl (by omega) (by omega)
      have k1 : cap ≠ i := by omega
      have k2 : ¬ cap = i := k1
      have hic : (i : Int) ≤ (N : Int) := by omega
      have h0i : (0 : Int) ≤ (i : Int) := by omega
      have y1 : IntKind.i64.wrap ((i : Int) + 1) = (i : Int) + 1 := IntWalk.i64_in _ (by omega)
      unfold GotI at hfst
      by_cases hc : (firstL (L.drop i)).2.2 = 0
      · obtain ⟨he, h12, h24, hle⟩ := allL_frame (by rw [HL.out]; exact hlt) hc
        have HE := Lib.hid he
        rw [hc] at hfst
        obtain ⟨z, hz⟩ : ∃ z, z = (firstL (L.drop i)).2.1 := ⟨_, rfl⟩
        obtain ⟨f, hf⟩ : ∃ f, f = (firstL (L.drop i)).1 := ⟨_, rfl⟩
        rw [← hz, ← hf] at hfst
        have HZ := Lib.hid hz
        have HF := Lib.hid hf
        rw [← hz] at h12 h24 hle
        rw [HL.out] at hle
        clear he hc hdl hrd hz hf
        obtain ⟨k, q, t, a, bb, c⟩ := f
        unfold Fr.v Fr.cells at hfst
        have y2 : IntKind.i64.wrap ((i : Int) + (z : Int)) = (i : Int) + (z : Int) := IntWalk.i64_in _ (by omega)
        have hlen : pre.length < N := by
          have := allL_len L N i (by rw [HL.out]; omega)
          omega
        gi_wp2_with ((refine ⟨trivial, ?_⟩; gi_at_call 18; refine (callsIn_wide.2 hfst).mono ?_; rintro e w1 ⟨rfl, hb1⟩; have hB2 : Below wr.heap.size wr (w1.alloc (.cells #[.int .i64 k, .int .u16 (q : Int), .int .u32 (t : Int), .int .i32 a, .int .i32 bb, .int .i32 c] 25)) := hb1.alloc hb1.size _; have hJ1 := hJ pre wr _ none HJs.out (only_below hB2 none) (fun r e => by cases e); obtain ⟨fn, tmps, assign, body, hy, hR⟩ := hY pre (i, ⟨k, q, t, a, bb, c⟩) _ hJ1 hlen; dsimp only [encA, Fr.v, Fr.cells] at hy; have HJ1 := Lib.hid hJ1; have HB2 := Lib.hid hB2; clear hb1 hJ1 hB2))
        refine hR.mono ?_
        rintro e W3 (⟨rfl, hJ3, hk3⟩ | ⟨rfl, hJx3⟩)
        · have HB3 := Lib.hid (hk3 (HB.out.next HB2.out))
          have HJ3 := Lib.hid hJ3
          clear hk3 hJ3 hR hy
          gi_wp2
          go_roundw
          case rel => exact ⟨i + z, pre ++ [(i, ⟨k, q, t, a, bb, c⟩)], by go_num, by omega, by rw [HAll.out, HE.out, ← HZ.out, ← HF.out, List.append_assoc]; rfl, by rw [List.length_append]; show pre.length + 1 ≤ i + z; omega, HJ3.out, HB3.out⟩
          case measure => first | (simp [intOf]; done) | (simp [intOf]; omega)
        · clear hR hy
          have HJx := Lib.hid hJx3
          clear hJx3
          gi_wp2
          refine bodyPost_ret (results_none rfl _ _ _) rfl ?_
          exact ⟨⟨_, rfl⟩, .inr ⟨pre ++ [(i, ⟨k, q, t, a, bb, c⟩)], ⟨allL L (i + z), by rw [HAll.out, HE.out, ← HZ.out, ← HF.out, List.append_assoc]; rfl⟩, HJx.out⟩⟩
      · have he := allL_skip (by rw [HL.out]; exact hlt) hc
        have HE := Lib.hid he
        have hz : (firstL (L.drop i)).1 = zeroF := by
          rcases bytes_first (L.drop i) with ⟨_, _, h⟩ | ⟨h, _⟩
          · exact h
          · exact absurd h hc
        have v0 : zeroF.v = .agg #[.int .i64 0, .int .u16 0, .int .u32 0, .int .i32 0, .int .i32 0, .int .i32 0] := rfl
        rw [hz, v0] at hfst
        have hcb : ((firstL (L.drop i)).2.2 == 0) = false := beq_eq_false_iff_ne.2 hc
        have hcb2 : ((firstL (L.drop i)).2.2 != 0) = true := bne_iff_ne.2 hc
        clear he hc hz v0 hdl hrd
        generalize (firstL (L.drop i)).2.2 = c at *
        generalize (firstL (L.drop i)).2.1 = z at *
        gi_wp2_with ((refine ⟨trivial, ?_⟩; gi_at_call 18; refine (callsIn_wide.2 hfst).mono ?_; rintro e w1 ⟨rfl, hb1⟩; have HB1 := Lib.hid hb1; clear hb1))
        go_roundw
        case rel =>
          have hB2 : Below wr.heap.size wr (w1.alloc (.cells #[.int .i64 0, .int .u16 0, .int .u32 0, .int .i32 0, .int .i32 0, .int .i32 0] 25)) := HB1.out.alloc HB1.out.size _
          exact ⟨i + 1, pre, by go_num, by omega, by rw [HAll.out, HE.out], by omega, hJ pre wr _ none HJs.out (only_below hB2 none) (fun r e => by cases e), HB.out.next hB2⟩
        case measure => first | (simp [intOf]; done) | (simp [intOf]; omega)
    · obtain rfl : i = N := by omega
      have hge : ¬ (i : Int) < (i : Int) := by omega
      gi_wp2
      go_end0
      exact ⟨⟨_, rfl⟩, .inl ⟨pre, by rw [HAll.out, allL_end (by rw [HL.out]; omega), List.append_nil], HJs.out⟩⟩
/-- frame.All(b): the bytes are boxed; the function value captures the box. -/
theorem all_any (A : Option Addr) (N cap : Nat) (w : World) :
    Calls Try.prog 22 #[.slice A N cap] w fun e w' => e = .returned (.func (.func 63) #[] #[.pointer (some ⟨w.heap.size, 0, none⟩)]) ∧ w.alloc (.cells #[.slice A N cap] 26) = w' := by
  go_enter Try.func22, Try.ntmps22
  go_wp2_with fail
  go_ret
  exact ⟨rfl, rfl⟩
theorem all_stops (n : Nat) (hn : 1 ≤ n) (Bs : Nat) (A : Option Addr) (N cap hi : Nat) (L : List UInt8) (hL : L.length = N) (hl : N ≤ 1000000) (hNc : N ≤ cap) (hA : A = none → N = 0 ∧ cap = 0) (w : World) (hbx : Bx Bs A N cap hi L w) :
    SeqStopsK Fence.wide n Try.prog 63 #[.pointer (some ⟨Bs, 0, none⟩)] encA (fun W W' => Bx Bs A N cap hi L W → Bx Bs A N cap hi L W') (fun ys => ys = allL L 0) (fun pre => pre <+: allL L 0) N w := fun l J Jx W hW hJ _ hY h0 =>
  all1_in n hn l Bs A N cap hi L hL hl hNc hA J Jx W hJ hY (hbx.next hW) h0
theorem bx_putObj {Bs : Nat} {A : Option Addr} {N cap hi : Nat} {L : List UInt8} (W : World) (l : Nat) (o o' : Obj) (hl : W.heap[l]? = some o) (ho : o.isCells = false) : Bx Bs A N cap hi L W → Bx Bs A N cap hi L (W.putObj l o') := by
  intro h
  have hne : ∀ (b : Nat) (i : Nat) (v : Value), W.cell? ⟨b, i, none⟩ = some v → b ≠ l := fun b i v hc e => by
    subst e
    unfold World.cell? at hc
    simp only [hl] at hc
    cases o <;> simp_all [Obj.isCells]
  have hsame : ∀ b, b ≠ l → (W.putObj l o').heap[b]? = W.heap[b]? := fun b hb => World.putObj_heap_other hb
  have hcs : ∀ (b i : Nat) (v : Value), W.cell? ⟨b, i, none⟩ = some v → (W.putObj l o').cell? ⟨b, i, none⟩ = some v := fun b i v hc => by
    rw [← hc]
    unfold World.cell?
    rw [hsame b (hne b i v hc)]
  have hsz : (W.putObj l o').heap.size = W.heap.size := by simp [World.putObj]
  refine ⟨hcs _ _ _ h.box, ?_, by rw [hsz]; exact h.sz⟩
  rcases h.rd with h | ⟨b, off, e, h1, h2, h3, hc⟩
  · exact .inl h
  · exact .inr ⟨b, off, e, h1, h2, by rw [hsz]; exact h3, fun j u hu => hcs _ _ _ (hc j u hu)⟩
end Frm
end Go.Proofs.Ytijijfggppnbpaa
