/-
  The walk of the reference's All: the frames that stand in bytes, and where.
-/
import Derived.Test.YtijijfggppnbpaaFrmI
import Derived.Test.YtijijfggppnbpaaFrmJ
namespace Go.Proofs.Ytijijfggppnbpaa
open Go.RowKit
set_option linter.unusedVariables false
namespace Frm
open Txt (kind_cases bv bv_one GotB leB leB_len leB_succ leVal leVal_lt tx tx_list)

def iv (y : Nat × Fr) : Value := .int .i64 (y.1 : Int)
theorem infoInt : (Try.prog.info? 3).map (fun i => (i.zero, i.size, i.bytes)) = some (some (.int .i64 0), 1, 8) := by kernel_rfl
/-- a number behind a row of numbers -/
theorem app_int {wr : World} {base : Nat} {v : Value} {l : List Value} {i : Int} {ops : Array Oper} {rest : List Oper} {o : Oper} {a : Act} {Q : Exit → Act → World → Prop} (hown : wr.ownsRow base 3 1 v l.length l) (hgd : o.guard = none) (s x : Operand)
    (ho : o.op = .call { callee := .builtin .append, args := #[s, x], argTypes := #[39, 39] }) (hs : a.eval s = v) (g : Nat) (hx : a.eval x = .slice (some ⟨g, 0, none⟩) 1 1) (hb : Blk wr g 3 [.int .i64 i]) (hlen : l.length ≤ 100000) (hbase : base ≤ wr.heap.size)
    (h : ∀ v' w', w'.ownsRow base 3 1 v' (l ++ [Value.int .i64 i]).length (l ++ [Value.int .i64 i]) → wr.grownBy w' v.ownBlock → (v'.ownBlock = v.ownBlock ∨ ∀ b, v'.ownBlock = some b → wr.heap.size ≤ b) → wpList Try.prog ops Q rest (a.put o.dst v') w') : wpList Try.prog ops Q (o :: rest) a wr := by
  obtain ⟨i0, hi, hz0, hz1, hz2⟩ := info_parts infoInt
  refine wpList_append_mine hgd s x 39 ho base 3 i0 _ 1 8 Try.underlying39 hi hz0 hz1 hz2 rfl (by decide) v l.length l hs hown (some ⟨g, 0, none⟩) 1 1 [.int .i64 i] hx rfl (fun h => by cases h) hb.news (fun u hu => by rw [List.mem_singleton.1 hu]; rfl) (by unfold maxLen; omega) (by omega) hbase fun v' w' h1 h2 h3 => h v' w' ?_ h2 h3
  rw [List.length_append]
  exact h1
def GotAll (w : World) (L : List UInt8) (e : Ending) (w' : World) : Prop :=
  ∃ v x, e = .returned (.tuple #[v, x]) ∧ w'.ownsRow w.heap.size 25 6 v ((allL L 0).map Prod.snd).length (frs ((allL L 0).map Prod.snd)) ∧ w'.ownsRow w.heap.size 3 1 x ((allL L 0).map iv).length ((allL L 0).map iv) ∧ Below w.heap.size w w'
structure Pa (w : World) (L : List UInt8) (i : Nat) (ys : List (Nat × Fr)) (v x : Value) (wr : World) : Prop where
  fr : wr.ownsRow w.heap.size 25 6 v (ys.map Prod.snd).length (frs (ys.map Prod.snd))
  at' : wr.ownsRow w.heap.size 3 1 x (ys.map iv).length (ys.map iv)
  ap : Apart v x
  all : allL L 0 = ys ++ allL L i
  below : Below w.heap.size w wr
theorem Pa.next {w wr w' : World} {L : List UInt8} {i : Nat} {ys : List (Nat × Fr)} {v x : Value} (S : Pa w L i ys v x wr) (hb : Below wr.heap.size wr w') : Pa w L i ys v x w' :=
  ⟨own_next S.fr hb, own_next S.at' hb, S.ap, S.all, _root_.Go.Proofs.Ytijijfggppnbpaa.bt S.below hb⟩
theorem Pa.mov {w wr : World} {L : List UInt8} {i j : Nat} {ys : List (Nat × Fr)} {v x : Value} (S : Pa w L i ys v x wr) (h : allL L i = allL L j) : Pa w L j ys v x wr :=
  ⟨S.fr, S.at', S.ap, by rw [S.all, h], S.below⟩
set_option maxRecDepth 100000 in
set_option maxHeartbeats 1000000 in
theorem yall_any (A : Option Addr) (L : List UInt8) (N cap lo hi : Nat) (w : World) (h : RdL w lo hi A (L.map bv)) (hhi : hi ≤ w.heap.size) (hn : L.length = N) (hl : N ≤ 100000) (hNc : N ≤ cap) :
    Calls Try.prog 21 #[.slice A N cap] w (GotAll w L) := by
  have HRd := Lib.hid h
  have HN := Lib.hid hn
  clear h hn
  go_enter Try.func21, Try.ntmps21
  go_wp2_with fail
  go_loopw [4, 5, 6] (fun v x u wr => ∃ (i : Nat) (ys : List (Nat × Fr)), ys.length ≤ i ∧ i ≤ N ∧ u = .int .i64 (i : Int) ∧ Pa w L i ys v x wr) (fun _ _ u _ => N - (intOf u).toNat)
  case atStart => exact ⟨0, [], Nat.zero_le _, Nat.zero_le _, rfl, World.ownsRow_nil _ _ _ _, World.ownsRow_nil _ _ _ _, (fun b hb => by cases hb), rfl, Below.refl _ _⟩
  case round =>
    obtain ⟨i, ys, hfl, hiN, rfl, hp⟩ := hrel
    have HP := Lib.hid hp
    have hsz := hp.below.size
    have hrd : RdL wr lo hi A (L.map bv) := HRd.out.next hp.below
    clear hp
    by_cases hlt : i < N
    · have hltI : (i : Int) < (N : Int) := by omega
      have hfst := yfirst_any A L N cap lo hi i wr hrd (by omega) HN.out (by omega) hNc (by omega)
      unfold GotI at hfst
      clear hrd
      have hlt2 : i < L.length := by rw [HN.out]; exact hlt
      by_cases h0 : (firstL (L.drop i)).2.2 = 0
      · obtain ⟨he, h12, _, hle⟩ := allL_frame hlt2 h0
        rw [HN.out] at hle
        have HE := Lib.hid he
        rw [h0] at hfst
        obtain ⟨z, hz⟩ : ∃ z, z = (firstL (L.drop i)).2.1 := ⟨_, rfl⟩
        obtain ⟨f, hf⟩ : ∃ f, f = (firstL (L.drop i)).1 := ⟨_, rfl⟩
        rw [← hz, ← hf] at hfst
        rw [← hz] at h12 hle
        have HZ := Lib.hid hz
        have HFr := Lib.hid hf
        have y1 : IntKind.i64.wrap ((i : Int) + (z : Int)) = (i : Int) + (z : Int) := IntWalk.i64_in _ (by omega)
        clear he h0 hz hf
        have hcs : f.v = .agg #[.int .i64 f.k, .int .u16 (f.q : Int), .int .u32 (f.t : Int), .int .i32 f.a, .int .i32 f.b, .int .i32 f.c] := rfl
        rw [hcs] at hfst
        go_wp2_with fail
        refine hfst.mono ?_
        rintro e w1 ⟨rfl, hb⟩
        have HP2 := Lib.hid ((HP.out.next hb).next (bl w1 (.cells f.cells.toArray 25)))
        have HP3 := Lib.hid (HP2.out.next (bl _ (.cells f.cells.toArray 25)))
        have HK3 : Hid (Blk ((w1.alloc (.cells f.cells.toArray 25)).alloc (.cells f.cells.toArray 25)) (w1.heap.size + 1) 25 f.cells) := Lib.hid (by have := Blk.mk (w1.alloc (.cells f.cells.toArray 25)) 25 f.cells; simpa using this)
        have hml : (ys.map Prod.snd).length ≤ 100000 := by rw [List.length_map]; omega
        have hml2 : (ys.map iv).length ≤ 100000 := by rw [List.length_map]; omega
        clear hb hfst HP hcs
        go_wp2_with (at_builtin; first
          | (refine app_frame HP3.out.fr rfl (.tmp 25) (.tmp 27) rfl rfl (w1.heap.size + 1) rfl HK3.out hml HP3.out.below.size ?_; intro v2 w2 hown2 hgrow2 hwh2; have HO2 := Lib.hid hown2; have HG2 := Lib.hid hgrow2; have HW2 := Lib.hid hwh2; have HX2 := Lib.hid (own_kept HP3.out.at' hgrow2 HP3.out.ap); have HX3 := Lib.hid (HX2.out.alloc (.cells #[.int .i64 (i : Int)] 3)); have HK4 := Lib.hid (Blk.mk w2 3 [.int .i64 (i : Int)]); have hs2 := hgrow2.size; clear hown2 hgrow2 hwh2)
          | (refine app_int HX3.out rfl (.tmp 29) (.tmp 31) rfl rfl w2.heap.size rfl HK4.out hml2 (Nat.le_trans HP3.out.below.size (Nat.le_trans hs2 (bl w2 (.cells #[.int .i64 (i : Int)] 3)).size)) ?_; intro v4 w4 hown4 hgrow4 hwh4; have HO4 := Lib.hid hown4; have HG4 := Lib.hid hgrow4; have HW4 := Lib.hid hwh4; clear hown4 hgrow4 hwh4))
        go_roundw
        case rel =>
          have hA2 : Apart v2 u5 := fun q hq hx => by
            have h5 := (own_lt HP3.out.at' hx).2
            rcases HW2.out with h | h
            · exact HP3.out.ap q (h.symm.trans hq) hx
            · exact absurd (Nat.lt_of_lt_of_le h5 (h q hq)) (Nat.lt_irrefl _)
          have hs4 := HX3.out
          have hA4 : Apart v2 v4 := fun q hq hx => by
            have h5 := (own_lt HO2.out hq).2
            rcases HW4.out with h | h
            · exact hA2 q hq (h.symm.trans hx)
            · have := h q hx; simp at this; omega
          have hb3 := HP3.out.below.grown HG2.out HP3.out.below.size (fun q hq => (own_lt HP3.out.fr hq).1)
          have hb4 := (hb3.alloc hb3.size (.cells #[.int .i64 (i : Int)] 3)).grown HG4.out (Nat.le_trans hb3.size (bl w2 (.cells #[.int .i64 (i : Int)] 3)).size) (fun q hq => (own_lt HX3.out hq).1)
          refine ⟨i + z, ys ++ [(i, f)], by rw [List.length_append]; show ys.length + 1 ≤ i + z; omega, by omega, by go_num, ?_, ?_, hA4, ?_, hb4⟩
          · rw [List.map_append]
            exact own_kept (HO2.out.alloc (.cells #[.int .i64 (i : Int)] 3)) HG4.out hA2.symm
          · rw [List.map_append]
            exact HO4.out
          · rw [HP3.out.all, HE.out, ← HZ.out, ← HFr.out, List.append_assoc]
            rfl
        case measure => first | (simp [intOf]; done) | (simp [intOf]; omega)
      · have h0b : ((firstL (L.drop i)).2.2 == 0) = false := beq_eq_false_iff_ne.2 h0
        have h0c : ((firstL (L.drop i)).2.2 != 0) = true := bne_iff_ne.2 h0
        have hz : (firstL (L.drop i)).1 = zeroF := by
          rcases bytes_first (L.drop i) with ⟨_, _, h⟩ | ⟨h, _⟩
          · exact h
          · exact absurd h h0
        have v0 : zeroF.v = .agg #[.int .i64 0, .int .u16 0, .int .u32 0, .int .i32 0, .int .i32 0, .int .i32 0] := rfl
        have HE := Lib.hid (allL_skip hlt2 h0)
        rw [hz, v0] at hfst
        have y1 : IntKind.i64.wrap ((i : Int) + 1) = (i : Int) + 1 := IntWalk.i64_in _ (by omega)
        clear h0 hz v0
        generalize (firstL (L.drop i)).2.2 = c at *
        generalize (firstL (L.drop i)).2.1 = z at *
        go_wp2_with fail
        refine hfst.mono ?_
        rintro e w1 ⟨rfl, hb⟩
        have HP2 := Lib.hid (((HP.out.next hb).next (bl w1 (.cells zeroF.cells.toArray 25))).mov HE.out)
        clear hb hfst HP
        go_wp2_with fail
        go_roundw
        case rel => exact ⟨i + 1, ys, by omega, by omega, by go_num, HP2.out⟩
        case measure => first | (simp [intOf]; done) | (simp [intOf]; omega)
    · have hltI : ¬ (i : Int) < (N : Int) := by omega
      have hend : allL L i = [] := allL_end (by rw [HN.out]; exact hlt)
      have hall : allL L 0 = ys := by rw [HP.out.all, hend, List.append_nil]
      have HAll := Lib.hid hall
      clear hend hall hrd
      go_wp2_with fail
      refine bodyPost_ret (results_tmp2 rfl _ _ _) rfl ?_
      unfold GotAll
      rw [HAll.out]
      exact ⟨_, _, rfl, HP.out.fr, HP.out.at', HP.out.below⟩
end Frm
end Go.Proofs.Ytijijfggppnbpaa
