/-
  What bytes begin with: the plain words, and small walks.
-/
import Derived.Test.YtijijfggppnbpaaFrmW4
import Derived.Test.YtijijfggppnbpaaCrcW5
namespace Go.Proofs.Ytijijfggppnbpaa
open Go.RowKit
set_option linter.unusedVariables false

theorem results_cell_tmp2_row {P : Program} {fn : Func} {p u v : Tmp} {ty : TypeId} (h : fn.results = #[.cell p ty, .tmp u, .tmp v]) (tmps : Array Value) (w : World) (g : Nat) (t : TypeId) (cs : Array Value) (fr : Nat × Nat) (d : TypeDesc)
    (hp : tmps.getD p undef = .pointer (some ⟨g, 0, none⟩)) (hg : w.heap[g]? = some (.cells cs t fr))
    (hu : P.underlying ty = some d) (hd : (match d with | .struct _ | .array _ _ => true | _ => false) = true) (hi : (P.info? ty).map (·.size) = some cs.size) :
    (results fn tmps).run P w = .ok (.tuple #[.agg cs, tmps.getD u undef, tmps.getD v undef]) w := by
  have hp' : tmps[p]?.getD undef = .pointer (some ⟨g, 0, none⟩) := by simpa using hp
  simp [results, h, hp', asAddr, run_loadVar_row w g t ty cs fr d hg hu hd hi, Result.andThen]
theorem Blk.row {w : World} {g : Nat} {t : TypeId} {l : List Value} (h : Blk w g t l) (cs : List Value) : Blk (w.setRow g cs.toArray) g t cs := setRow_heap w g _ _ t _ h
theorem setRow_other (w : World) (g : Nat) (cs : Array Value) (k : Nat) (hk : k ≠ g) : (w.setRow g cs).heap[k]? = w.heap[k]? := by
  simp only [World.setRow, Array.getElem?_modify]
  rw [if_neg (fun e => hk e.symm)]
theorem Below.row {B : Nat} {w wr : World} (h : Below B w wr) {g : Nat} (hg : B ≤ g) (cs : Array Value) : Below B w (wr.setRow g cs) :=
  ⟨h.os, h.tape, h.output, by simpa using h.size, fun i hi => (setRow_other wr g cs i (by omega)).trans (h.block i hi)⟩
theorem RdL.bytes {w : World} {lo hi : Nat} {A : Option Addr} {l : List UInt8} (h : RdL w lo hi A (l.map Txt.bv)) : Crc.Bytes w A l := by
  rcases h with h | ⟨b, off, e, _, _, hb, hc⟩
  · exact .inl (List.map_eq_nil_iff.1 h)
  · exact .inr ⟨b, off, e, hb, fun i hi => hc i _ (by rw [List.getElem?_map, List.getElem?_eq_getElem hi]; rfl)⟩
namespace Frm
open Txt (kind_cases bv bv_one GotB leB leB_len leB_succ leVal leVal_lt tx)

theorem fr_one (f : Fr) : f.cells.toArray.all (·.oneCell') = true := by simp [Fr.cells, Value.oneCell']
def zeroF : Fr := ⟨0, 0, 0, 0, 0, 0⟩
def i32of (x : Nat) : Int := IntKind.i32.wrap (x : Int)
/-- the numbers of a frame, so many, that stand in bytes; the first i of them -/
def numAt (L : List UInt8) (n i j : Nat) : Int := if j < i ∧ j < n then i32of (leVal L (8 + 4 * j) 4) else 0
def frameOf (L : List UInt8) (k n i : Nat) : Fr := ⟨k, leVal L 2 2, leVal L 4 4, numAt L n i 0, numAt L n i 1, numAt L n i 2⟩
/-- what bytes begin with -/
def firstL : List UInt8 → Fr × Nat × Int
  | [] => (zeroF, 0, 5)
  | [c] => if c ≠ 126 then (zeroF, 0, 3) else (zeroF, 0, 5)
  | c :: k :: s => if c ≠ 126 then (zeroF, 0, 3) else if numN k.toNat < 0 then (zeroF, 0, 13) else
      if (c :: k :: s).length < 12 + 4 * (numN k.toNat).toNat then (zeroF, 0, 5) else
        if Crc.get ((c :: k :: s).take (8 + 4 * (numN k.toNat).toNat)) (((c :: k :: s).drop (8 + 4 * (numN k.toNat).toNat)).take 4) = true then (frameOf (c :: k :: s) k.toNat (numN k.toNat).toNat 3, 12 + 4 * (numN k.toNat).toNat, 0)
        else (zeroF, 0, 4)
def GotI (w : World) (L : List UInt8) (e : Ending) (w' : World) : Prop := e = .returned (.tuple #[(firstL L).1.v, .int .i64 ((firstL L).2.1 : Int), .int .i64 (firstL L).2.2]) ∧ Below w.heap.size w w'
theorem GotI.no {w wr : World} {L : List UInt8} {c : Int} (h : firstL L = (zeroF, 0, c)) (hb : Below w.heap.size w wr) : GotI w L (.returned (.tuple #[.agg zeroF.cells.toArray, .int .i64 0, .int .i64 c])) wr := ⟨by rw [h]; rfl, hb⟩
theorem numN_cases (k : Nat) : numN k = -1 ∨ ∃ n : Nat, numN k = n ∧ n ≤ 3 ∧ 1 ≤ k ∧ k ≤ 7 := by
  by_cases h : k < 1 ∨ 7 < k
  · exact .inl (numN_none h)
  · refine .inr ?_
    rcases (by omega : k = 1 ∨ k = 2 ∨ k = 3 ∨ k = 4 ∨ k = 5 ∨ k = 6 ∨ k = 7) with rfl | rfl | rfl | rfl | rfl | rfl | rfl
    all_goals exact ⟨_, rfl, by decide, by decide, by decide⟩
/-- the ways of bytes -/
theorem first_cases (L : List UInt8) :
    (L = [] ∧ firstL L = (zeroF, 0, 5)) ∨ ∃ (h0 : 0 < L.length), (L[0] ≠ 126 ∧ firstL L = (zeroF, 0, 3)) ∨ (L[0] = 126 ∧ ((L.length = 1 ∧ firstL L = (zeroF, 0, 5)) ∨ ∃ (h1 : 1 < L.length), ((numN L[1].toNat = -1 ∧ firstL L = (zeroF, 0, 13)) ∨ ∃ n : Nat, numN L[1].toNat = n ∧ n ≤ 3 ∧ 1 ≤ L[1].toNat ∧ L[1].toNat ≤ 7 ∧
      ((L.length < 12 + 4 * n ∧ firstL L = (zeroF, 0, 5)) ∨ (12 + 4 * n ≤ L.length ∧
        ((Crc.get (L.take (8 + 4 * n)) ((L.drop (8 + 4 * n)).take 4) = true ∧ firstL L = (frameOf L L[1].toNat n 3, 12 + 4 * n, 0)) ∨ (Crc.get (L.take (8 + 4 * n)) ((L.drop (8 + 4 * n)).take 4) = false ∧ firstL L = (zeroF, 0, 4)))))))) := by
  match L with
  | [] => exact .inl ⟨rfl, rfl⟩
  | c :: r =>
    refine .inr ⟨by simp, ?_⟩
    by_cases hc : c = 126
    · subst hc
      refine .inr ⟨rfl, ?_⟩
      match r with
      | [] => exact .inl ⟨rfl, rfl⟩
      | k :: s =>
        refine .inr ⟨by simp, ?_⟩
        show (numN k.toNat = -1 ∧ _) ∨ ∃ n : Nat, numN k.toNat = n ∧ n ≤ 3 ∧ 1 ≤ k.toNat ∧ k.toNat ≤ 7 ∧ _
        rcases numN_cases k.toNat with h | ⟨n, h, h3, h1, h7⟩
        · refine .inl ⟨h, ?_⟩
          rw [firstL, if_neg (by simp), if_pos (by rw [h]; decide)]
        · refine .inr ⟨n, h, h3, h1, h7, ?_⟩
          have hN : (numN k.toNat).toNat = n := by rw [h]; rfl
          have e : firstL (126 :: k :: s) = if (126 :: k :: s : List UInt8).length < 12 + 4 * n then (zeroF, 0, 5) else if Crc.get ((126 :: k :: s : List UInt8).take (8 + 4 * n)) (((126 :: k :: s : List UInt8).drop (8 + 4 * n)).take 4) = true then (frameOf (126 :: k :: s) k.toNat n 3, 12 + 4 * n, 0) else (zeroF, 0, 4) := by
            rw [firstL, if_neg (by simp), if_neg (by rw [h]; omega), hN]
          by_cases hl : (126 :: k :: s : List UInt8).length < 12 + 4 * n
          · exact .inl ⟨hl, by rw [e, if_pos hl]⟩
          · refine .inr ⟨by omega, ?_⟩
            rw [if_neg hl] at e
            cases hg : Crc.get ((126 :: k :: s : List UInt8).take (8 + 4 * n)) (((126 :: k :: s : List UInt8).drop (8 + 4 * n)).take 4)
            · exact .inr ⟨rfl, by rw [e, hg]; rfl⟩
            · exact .inl ⟨rfl, by rw [e, hg]; rfl⟩
    · refine .inl ⟨hc, ?_⟩
      match r with
      | [] => rw [firstL, if_pos hc]
      | k :: s => rw [firstL, if_pos hc]
/-- how many bytes a frame of a kind has -/
def sizeK (k : Int) : Int := if numK k < 0 then -1 else 12 + 4 * numK k
set_option maxRecDepth 100000 in
set_option maxHeartbeats 400000 in
theorem size_any (k : Int) (w : World) :
    Calls Try.prog 19 #[.int .i64 k] w fun e w' => e = .returned (.int .i64 (sizeK k)) ∧ Below w.heap.size w w' := by
  have hnm := fun w => numbers_any k w
  rcases numK_cases k with ⟨h, _⟩ | ⟨n, h, h3, _⟩
  · have hs : sizeK k = -1 := by unfold sizeK; rw [h]; rfl
    rw [h] at hnm
    have HS := Lib.hid hs
    clear hs h
    go_enter Try.func19, Try.ntmps19
    go_wp2_with fail
    refine (hnm _).mono ?_
    rintro e w1 ⟨rfl, hb⟩
    go_wp2_with fail
    go_ret
    exact ⟨by rw [HS.out]; rfl, hb⟩
  · have hs : sizeK k = 12 + 4 * (n : Int) := by unfold sizeK; rw [h, if_neg (by omega)]
    rw [h] at hnm
    have HS := Lib.hid hs
    have y1 : IntKind.i64.wrap (4 * (n : Int)) = 4 * (n : Int) := IntWalk.i64_in _ (by omega)
    have y2 : IntKind.i64.wrap (8 + 4 * (n : Int)) = 8 + 4 * (n : Int) := IntWalk.i64_in _ (by omega)
    have y3 : IntKind.i64.wrap (8 + 4 * (n : Int) + 4) = 12 + 4 * (n : Int) := by rw [IntWalk.i64_in _ (by omega)]; omega
    have y4 : 8 + 4 * (n : Int) + 4 = 12 + 4 * (n : Int) := by omega
    have n0 : ¬ (n : Int) < 0 := by omega
    clear hs h
    go_enter Try.func19, Try.ntmps19
    go_wp2_with fail
    refine (hnm _).mono ?_
    rintro e w1 ⟨rfl, hb⟩
    go_wp2_with fail
    go_ret
    exact ⟨by rw [HS.out]; rfl, hb⟩
set_option maxRecDepth 100000 in
set_option maxHeartbeats 400000 in
theorem ysize_any (k : Int) (n : Nat) (hn : numK k = n) (hn3 : n ≤ 3) (w : World) :
    Calls Try.prog 61 #[.int .i64 k] w fun e w' => e = .returned (.int .i64 ((12 + 4 * n : Nat) : Int)) ∧ w = w' := by
  have hnm := fun w => ynumbers_any k w
  rw [hn] at hnm
  have y1 : IntKind.i64.wrap (4 * (n : Int)) = 4 * (n : Int) := IntWalk.i64_in _ (by omega)
  have y2 : IntKind.i64.wrap (12 + 4 * (n : Int)) = 12 + 4 * (n : Int) := IntWalk.i64_in _ (by omega)
  clear hn
  go_enter Try.func61, Try.ntmps61
  go_wp2_with fail
  refine (hnm _).mono ?_
  rintro e w1 ⟨rfl, rfl⟩
  go_wp2_with fail
  go_ret
  exact ⟨by congr 1, rfl⟩
set_option maxRecDepth 100000 in
set_option maxHeartbeats 400000 in
/-- the closure that reads a number -/
theorem num_any (g : Nat) (A : Option Addr) (L : List UInt8) (N cap at' k lo hi : Nat) (w : World) (hc : w.cell? ⟨g, 0, none⟩ = some (.slice A N cap)) (h : RdL w lo hi A (L.map bv)) (hn : L.length = N) (hk : k ≤ 8) (hle : at' + k ≤ N) (hl : N ≤ 1000000) :
    Calls Try.prog 59 #[.int .i64 (at' : Int), .int .i64 (k : Int), .pointer (some ⟨g, 0, none⟩)] w fun e w' => e = .returned (.int .u64 (leVal L at' k : Int)) ∧ w = w' := by
  have hget := Txt.get_ok A L N cap at' k lo hi w h hn hk hle hl
  clear h hn hk hle hl
  go_enter Try.func59, Try.ntmps59
  go_wp2_with fail
  refine hget.mono ?_
  rintro e w1 ⟨rfl, rfl⟩
  go_wp2_with fail
  go_ret
  exact ⟨rfl, rfl⟩
end Frm
end Go.Proofs.Ytijijfggppnbpaa
