/-
  Frames, piece by piece: the plain words; the walk of the reference's Feed.
-/
import Derived.Test.YtijijfggppnbpaaFrmP
namespace Go.Proofs.Ytijijfggppnbpaa
open Go.RowKit
set_option linter.unusedVariables false
namespace Frm
open Txt (kind_cases bv bv_one GotB leB leB_len leB_succ leVal leVal_lt tx tx_list)

/-- the frames of bytes from a place on, how many were passed, and where more bytes are waited for -/
def feedL (L : List UInt8) (i : Nat) : List Fr × Nat × Nat :=
  if h : (firstL (L.drop i)).2.2 ≠ 5 ∧ i < L.length then
    (if (firstL (L.drop i)).2.2 = 0 then ((firstL (L.drop i)).1 :: (feedL L (i + max (firstL (L.drop i)).2.1 1)).1, (feedL L (i + max (firstL (L.drop i)).2.1 1)).2.1, (feedL L (i + max (firstL (L.drop i)).2.1 1)).2.2)
      else ((feedL L (i + 1)).1, (feedL L (i + 1)).2.1 + 1, (feedL L (i + 1)).2.2))
  else ([], 0, i)
termination_by L.length - i
decreasing_by all_goals omega
theorem first_nil5 {L : List UInt8} {i : Nat} (h : ¬ i < L.length) : (firstL (L.drop i)).2.2 = 5 := by rw [List.drop_of_length_le (by omega)]; rfl
theorem code_lt {L : List UInt8} {i : Nat} (h : (firstL (L.drop i)).2.2 ≠ 5) : i < L.length := by
  apply Classical.byContradiction
  intro hn
  exact h (first_nil5 hn)
theorem feed_wait {L : List UInt8} {i : Nat} (h : (firstL (L.drop i)).2.2 = 5) : feedL L i = ([], 0, i) := by rw [feedL, dif_neg (fun hh => hh.1 h)]
theorem feed_skip {L : List UInt8} {i : Nat} (h : (firstL (L.drop i)).2.2 ≠ 5) (h0 : (firstL (L.drop i)).2.2 ≠ 0) : feedL L i = ((feedL L (i + 1)).1, (feedL L (i + 1)).2.1 + 1, (feedL L (i + 1)).2.2) := by rw [feedL, dif_pos ⟨h, code_lt h⟩, if_neg h0]
theorem feed_frame {L : List UInt8} {i : Nat} (h0 : (firstL (L.drop i)).2.2 = 0) : feedL L i = ((firstL (L.drop i)).1 :: (feedL L (i + (firstL (L.drop i)).2.1)).1, (feedL L (i + (firstL (L.drop i)).2.1)).2.1, (feedL L (i + (firstL (L.drop i)).2.1)).2.2) ∧ i + 12 ≤ i + (firstL (L.drop i)).2.1 ∧ i + (firstL (L.drop i)).2.1 ≤ L.length := by
  have h5 : (firstL (L.drop i)).2.2 ≠ 5 := by rw [h0]; decide
  have hi := code_lt h5
  rcases bytes_first (L.drop i) with ⟨h1, _⟩ | ⟨_, _, _, h12, hle, h24, _⟩
  · exact absurd h0 h1
  · rw [List.length_drop] at hle
    refine ⟨?_, by omega, by omega⟩
    have e : max (firstL (L.drop i)).2.1 1 = (firstL (L.drop i)).2.1 := Nat.max_eq_left (by omega)
    rw [feedL, dif_pos ⟨h5, hi⟩, if_pos h0, e]
def frs (fs : List Fr) : List Value := fs.flatMap Fr.cells
theorem frs_len (fs : List Fr) : (frs fs).length = fs.length * 6 := flatMap_len Fr.cells 6 (fun _ => rfl) fs
theorem infoFrame : (Try.prog.info? 25).map (fun i => (i.zero, i.size, i.bytes)) = some (some (.agg #[.int .i64 0, .int .u16 0, .int .u32 0, .int .i32 0, .int .i32 0, .int .i32 0]), 6, 32) := by kernel_rfl
theorem fr_cells_one (f : Fr) : ∀ u ∈ f.cells, u.oneCell' = true := by
  intro u hu
  simp only [Fr.cells, List.mem_cons, List.not_mem_nil, or_false] at hu
  rcases hu with rfl | rfl | rfl | rfl | rfl | rfl <;> rfl
/-- a frame behind a row of frames -/
theorem app_frame {wr : World} {base : Nat} {v : Value} {fs : List Fr} {f : Fr} {ops : Array Oper} {rest : List Oper} {o : Oper} {a : Act} {Q : Exit → Act → World → Prop} (hown : wr.ownsRow base 25 6 v fs.length (frs fs)) (hgd : o.guard = none) (s x : Operand)
    (ho : o.op = .call { callee := .builtin .append, args := #[s, x], argTypes := #[38, 38] }) (hs : a.eval s = v) (g : Nat) (hx : a.eval x = .slice (some ⟨g, 0, none⟩) 1 1) (hb : Blk wr g 25 f.cells) (hlen : fs.length ≤ 100000) (hbase : base ≤ wr.heap.size)
    (h : ∀ v' w', w'.ownsRow base 25 6 v' (fs ++ [f]).length (frs (fs ++ [f])) → wr.grownBy w' v.ownBlock → (v'.ownBlock = v.ownBlock ∨ ∀ b, v'.ownBlock = some b → wr.heap.size ≤ b) → wpList Try.prog ops Q rest (a.put o.dst v') w') : wpList Try.prog ops Q (o :: rest) a wr := by
  obtain ⟨i0, hi, hz0, hz1, hz2⟩ := info_parts infoFrame
  refine wpList_append_mine hgd s x 38 ho base 25 i0 _ 6 32 Try.underlying38 hi hz0 hz1 hz2 rfl (by decide) v fs.length (frs fs) hs hown (some ⟨g, 0, none⟩) 1 1 f.cells hx rfl (fun h => by cases h) hb.news (fr_cells_one f) (by unfold maxLen; omega) (by omega) hbase fun v' w' h1 h2 h3 => h v' w' ?_ h2 h3
  rw [List.length_append]
  unfold frs at h1 ⊢
  rw [List.flatMap_append]
  simpa using h1
def GotFeed (w : World) (L : List UInt8) (e : Ending) (w' : World) : Prop :=
  (∃ v, e = .returned (.tuple #[v, .int .i64 ((feedL L 0).2.1 : Int), .int .i64 ((L.length : Int) - ((feedL L 0).2.2 : Int))]) ∧ w'.ownsRow w.heap.size 25 6 v (feedL L 0).1.length (frs (feedL L 0).1)) ∧ Below w.heap.size w w'
set_option maxRecDepth 100000 in
set_option maxHeartbeats 1000000 in
theorem yfeed_any (A : Option Addr) (L : List UInt8) (N cap lo hi : Nat) (w : World) (h : RdL w lo hi A (L.map bv)) (hhi : hi ≤ w.heap.size) (hn : L.length = N) (hl : N ≤ 100000) (hNc : N ≤ cap) :
    Calls Try.prog 24 #[.slice A N cap] w (GotFeed w L) := by
  have HRd := Lib.hid h
  have HN := Lib.hid hn
  clear h hn
  go_enter Try.func24, Try.ntmps24
  go_wp2_with fail
  go_loopw [5, 6, 7] (fun v x u wr => ∃ (i lost : Nat) (fs : List Fr), i ≤ N ∧ lost ≤ i ∧ fs.length ≤ i ∧ u = .int .i64 (i : Int) ∧ x = .int .i64 (lost : Int) ∧ wr.ownsRow w.heap.size 25 6 v fs.length (frs fs) ∧ feedL L 0 = (fs ++ (feedL L i).1, lost + (feedL L i).2.1, (feedL L i).2.2) ∧ Below w.heap.size w wr) (fun _ _ u _ => N - (intOf u).toNat)
  case atStart => exact ⟨0, 0, [], Nat.zero_le _, Nat.le_refl _, Nat.zero_le _, rfl, rfl, World.ownsRow_nil _ _ _ _, by simp, Below.refl _ _⟩
  case round =>
    obtain ⟨i, lost, fs, hiN, hlo, hfl, rfl, rfl, hown, hfd, hb⟩ := hrel
    have HO := Lib.hid hown
    have HF := Lib.hid hfd
    have HB := Lib.hid hb
    have hsz := hb.size
    have hrd : RdL wr lo hi A (L.map bv) := HRd.out.next hb
    clear hown hfd hb
    have hfst := yfirst_any A L N cap lo hi i wr hrd (by omega) HN.out (by omega) hNc (by omega)
    unfold GotI at hfst
    clear hrd
    by_cases h5 : (firstL (L.drop i)).2.2 = 5
    · have hz : (firstL (L.drop i)).1 = zeroF := by
        rcases bytes_first (L.drop i) with ⟨_, _, h⟩ | ⟨h, _⟩
        · exact h
        · rw [h5] at h; cases h
      have v0 : zeroF.v = .agg #[.int .i64 0, .int .u16 0, .int .u32 0, .int .i32 0, .int .i32 0, .int .i32 0] := rfl
      have HW := Lib.hid (feed_wait h5)
      rw [h5, hz, v0] at hfst
      have y1 : IntKind.i64.wrap ((N : Int) - (i : Int)) = (N : Int) - (i : Int) := IntWalk.i64_in _ (by omega)
      clear h5 hz v0
      generalize (firstL (L.drop i)).2.1 = z at *
      go_wp2_with fail
      refine hfst.mono ?_
      rintro e w1 ⟨rfl, hb⟩
      have HB2 := Lib.hid ((_root_.Go.Proofs.Ytijijfggppnbpaa.bt HB.out hb).alloc (by have := hb.size; omega) (.cells zeroF.cells.toArray 25))
      have HO2 := Lib.hid ((own_next HO.out hb).alloc (.cells zeroF.cells.toArray 25))
      clear hb hfst
      go_wp2_with fail
      refine bodyPost_ret (results_tmp3 rfl _ _ _) rfl ?_
      have hf := HF.out
      rw [HW.out] at hf
      have e1 : fs = (feedL L 0).1 := by rw [hf]; simp
      have HOx := HO2.out
      rw [e1] at HOx
      refine ⟨⟨_, ?_, HOx⟩, HB2.out⟩
      rw [hf, HN.out]
      rfl
    · have h5b : ((firstL (L.drop i)).2.2 == 5) = false := beq_eq_false_iff_ne.2 h5
      have hlt := code_lt h5
      rw [HN.out] at hlt
      by_cases h0 : (firstL (L.drop i)).2.2 = 0
      · obtain ⟨he, h12, hle⟩ := feed_frame h0
        rw [HN.out] at hle
        have HE := Lib.hid he
        rw [h0] at hfst
        obtain ⟨z, hz⟩ : ∃ z, z = (firstL (L.drop i)).2.1 := ⟨_, rfl⟩
        obtain ⟨f, hf⟩ : ∃ f, f = (firstL (L.drop i)).1 := ⟨_, rfl⟩
        rw [← hz, ← hf] at hfst
        rw [← hz] at h12 hle
        have HZ := Lib.hid hz
        have HFr := Lib.hid hf
        have y1 : IntKind.i64.wrap ((i : Int) + (z : Int)) = (i : Int) + (z : Int) := IntWalk.i64_in _ (by omega)
        clear he h0 h5 h5b hz hf
        have hcs : f.v = .agg #[.int .i64 f.k, .int .u16 (f.q : Int), .int .u32 (f.t : Int), .int .i32 f.a, .int .i32 f.b, .int .i32 f.c] := rfl
        rw [hcs] at hfst
        go_wp2_with fail
        refine hfst.mono ?_
        rintro e w1 ⟨rfl, hb⟩
        have hsz1 := hb.size
        have HB2 := Lib.hid ((_root_.Go.Proofs.Ytijijfggppnbpaa.bt HB.out hb).alloc (by omega) (.cells f.cells.toArray 25))
        have HO2 := Lib.hid ((own_next HO.out hb).alloc (.cells f.cells.toArray 25))
        have HB3 := Lib.hid (HB2.out.alloc HB2.out.size (.cells f.cells.toArray 25))
        have HO3 := Lib.hid (HO2.out.alloc (.cells f.cells.toArray 25))
        have HK3 : Hid (Blk ((w1.alloc (.cells f.cells.toArray 25)).alloc (.cells f.cells.toArray 25)) (w1.heap.size + 1) 25 f.cells) := Lib.hid (by have := Blk.mk (w1.alloc (.cells f.cells.toArray 25)) 25 f.cells; simpa using this)
        clear hb hfst
        go_wp2_with (at_builtin; refine app_frame HO3.out rfl (.tmp 32) (.tmp 34) rfl rfl (w1.heap.size + 1) rfl HK3.out (by omega) HB3.out.size ?_; intro v2 w2 hown2 hgrow2 _; have Hown2 := Lib.hid hown2; have Hgrow2 := Lib.hid hgrow2; clear hown2 hgrow2)
        go_roundw
        case rel =>
          refine ⟨i + z, lost, fs ++ [f], by omega, by omega, by rw [List.length_append]; show fs.length + 1 ≤ i + z; omega, by go_num, rfl, Hown2.out, ?_, HB3.out.grown Hgrow2.out (by have := HB3.out.size; exact this) (fun q hq => (own_lt HO3.out hq).1)⟩
          rw [HF.out, HE.out, ← HZ.out, ← HFr.out, List.append_assoc]
          rfl
        case measure => first | (simp [intOf]; done) | (simp [intOf]; omega)
      · have h0b : ((firstL (L.drop i)).2.2 == 0) = false := beq_eq_false_iff_ne.2 h0
        have h0c : ((firstL (L.drop i)).2.2 != 0) = true := bne_iff_ne.2 h0
        have hz : (firstL (L.drop i)).1 = zeroF := by
          rcases bytes_first (L.drop i) with ⟨_, _, h⟩ | ⟨h, _⟩
          · exact h
          · exact absurd h h0
        have v0 : zeroF.v = .agg #[.int .i64 0, .int .u16 0, .int .u32 0, .int .i32 0, .int .i32 0, .int .i32 0] := rfl
        have HE := Lib.hid (feed_skip h5 h0)
        rw [hz, v0] at hfst
        have y1 : IntKind.i64.wrap ((i : Int) + 1) = (i : Int) + 1 := IntWalk.i64_in _ (by omega)
        have y2 : IntKind.i64.wrap ((lost : Int) + 1) = (lost : Int) + 1 := IntWalk.i64_in _ (by omega)
        clear h5 h0 hz v0
        generalize (firstL (L.drop i)).2.2 = c at *
        generalize (firstL (L.drop i)).2.1 = z at *
        go_wp2_with fail
        refine hfst.mono ?_
        rintro e w1 ⟨rfl, hb⟩
        have HB2 := Lib.hid ((_root_.Go.Proofs.Ytijijfggppnbpaa.bt HB.out hb).alloc (by have := hb.size; omega) (.cells zeroF.cells.toArray 25))
        have HO2 := Lib.hid ((own_next HO.out hb).alloc (.cells zeroF.cells.toArray 25))
        clear hb hfst
        go_wp2_with fail
        go_roundw
        case rel => exact ⟨i + 1, lost + 1, fs, by omega, by omega, by omega, by go_num, by go_num, HO2.out, by rw [HF.out, HE.out]; refine Prod.ext rfl (Prod.ext ?_ rfl); show lost + ((feedL L (i + 1)).2.1 + 1) = lost + 1 + (feedL L (i + 1)).2.1; omega, HB2.out⟩
        case measure => first | (simp [intOf]; done) | (simp [intOf]; omega)
end Frm
end Go.Proofs.Ytijijfggppnbpaa
