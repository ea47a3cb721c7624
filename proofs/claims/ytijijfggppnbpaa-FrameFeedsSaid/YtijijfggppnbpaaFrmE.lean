/-
  FrameFeeds: bytes that come in pieces: what lies in memory on the way.
-/
import Derived.Test.YtijijfggppnbpaaFrmK
import Derived.Test.YtijijfggppnbpaaFrmN
namespace Go.Proofs.Ytijijfggppnbpaa
open Go.RowKit
set_option linter.unusedVariables false
namespace Frm
open Txt (kind_cases bv bv_one GotB leB leB_len leB_succ leVal leVal_lt tx tx_list)

theorem frs_one (fs : List Fr) : ∀ u ∈ frs fs, u.oneCell' = true := by
  intro u hu
  obtain ⟨f, _, h⟩ := List.mem_flatMap.1 hu
  exact fr_cells_one f u h
theorem feed_len (L : List UInt8) : ∀ d i, L.length - i ≤ d → i ≤ L.length → (feedL L i).1.length + (feedL L i).2.1 + i ≤ (feedL L i).2.2 + (feedL L i).2.1 ∧ (feedL L i).2.1 + i ≤ (feedL L i).2.2 ∧ (feedL L i).2.2 ≤ L.length
  | 0, i, h, hi => by
    have h5 : (firstL (L.drop i)).2.2 = 5 := first_nil5 (by omega)
    rw [feed_wait h5]
    simp
    omega
  | d + 1, i, h, hi => by
    by_cases h5 : (firstL (L.drop i)).2.2 = 5
    · rw [feed_wait h5]
      simp
      omega
    · have hlt := code_lt h5
      by_cases h0 : (firstL (L.drop i)).2.2 = 0
      · obtain ⟨e, h12, hle⟩ := feed_frame h0
        have ih := feed_len L d (i + (firstL (L.drop i)).2.1) (by omega) hle
        rw [e]
        simp only [List.length_cons]
        omega
      · have ih := feed_len L d (i + 1) (by omega) (by omega)
        rw [feed_skip h5 h0]
        dsimp only
        omega
theorem feed_small (L : List UInt8) : (feedL L 0).1.length ≤ L.length ∧ (feedL L 0).2.1 ≤ L.length ∧ (feedL L 0).2.2 ≤ L.length := by
  have := feed_len L _ 0 (Nat.le_refl _) (Nat.zero_le _)
  omega
/-- the frames that came, and the feed, when some of the bytes were pushed -/
structure FA (w0 : World) (g : Nat) (P : List UInt8) (lv v : Value) (wr : World) : Prop where
  feed : FeedS wr g v (P.drop (feedL P 0).2.2) (feedL P 0).2.1
  own : wr.ownsRow (g + 1) 25 6 lv (feedL P 0).1.length (frs (feedL P 0).1)
  apart : Apart lv v
  keep : Below w0.heap.size w0 wr
  g0 : w0.heap.size ≤ g
theorem FA.next {w0 wr w' : World} {g : Nat} {P : List UInt8} {lv v : Value} (S : FA w0 g P lv v wr) (hb : Below wr.heap.size wr w') : FA w0 g P lv v w' :=
  ⟨⟨S.feed.blk.next hb, own_next S.feed.own hb⟩, own_next S.own hb, S.apart, bt S.keep hb, S.g0⟩
theorem FA.start (w0 : World) : FA w0 w0.heap.size [] (.slice none 0 0) (.slice none 0 0) (w0.alloc (.cells #[.slice none 0 0, .int .i64 0] 46)) := by
  have hf : feedL [] 0 = ([], 0, 0) := by rw [feed_wait (first_nil5 (by simp))]
  refine ⟨⟨?_, ?_⟩, ?_, (fun b h => by cases h), bl _ _, Nat.le_refl _⟩
  · rw [hf]; exact Blk.mk w0 46 [.slice none 0 0, .int .i64 0]
  · rw [hf]; exact World.ownsRow_nil _ _ _ _
  · rw [hf]; exact World.ownsRow_nil _ _ _ _
/-- .. behind a Push, ahead of the append -/
structure FB (w0 : World) (g : Nat) (P M : List UInt8) (lv ov v : Value) (wr : World) : Prop where
  feed : FeedS wr g v ((P ++ M).drop (feedL (P ++ M) 0).2.2) (feedL (P ++ M) 0).2.1
  own : wr.ownsRow (g + 1) 25 6 lv (feedL P 0).1.length (frs (feedL P 0).1)
  out : ∃ fs, (feedL (P ++ M) 0).1 = (feedL P 0).1 ++ fs ∧ wr.ownsRow (g + 1) 25 6 ov fs.length (frs fs)
  apart : Apart lv v
  keep : Below w0.heap.size w0 wr
  g0 : w0.heap.size ≤ g
theorem FA.push {w0 wr w' : World} {g : Nat} {P M : List UInt8} {lv v : Value} {e : Ending} (S : FA w0 g P lv v wr) (h : GotPush wr g v (P.drop (feedL P 0).2.2) (feedL P 0).2.1 M e w') : ∃ ov v', e = .returned ov ∧ FB w0 g P M lv ov v' w' := by
  obtain ⟨ov, v', rfl, ho, hS, hv, _, hk⟩ := h
  obtain ⟨e1, e2⟩ := feed_piece P M
  have hb := S.feed.blk.lt
  have hne : ∀ b, lv.ownBlock = some b → b ≠ g ∧ some b ≠ v.ownBlock := fun b h => ⟨by have := (own_lt S.own h).1; omega, fun hh => S.apart b h hh.symm⟩
  refine ⟨ov, v', rfl, ⟨?_, ?_, ⟨_, by rw [e1], own_down ho (by omega)⟩, ?_, ?_, S.g0⟩⟩
  · rw [e2, e1]; exact hS
  · exact own_same S.own (fun b hbb => hk.block b (own_lt S.own hbb).2 (hne b hbb).1 (hne b hbb).2)
  · intro b h1 h2
    rcases hv with hv | ⟨b', hv, hge⟩
    · rw [hv] at h2; cases h2
    · rw [hv] at h2
      injection h2 with h2
      subst h2
      have := (own_lt S.own h1).2
      omega
  · refine ⟨hk.os.trans S.keep.os, hk.tape.trans S.keep.tape, hk.output.trans S.keep.output, Nat.le_trans S.keep.size hk.size, fun k hkk => ?_⟩
    have hg0 := S.g0
    refine (hk.block k (Nat.lt_of_lt_of_le hkk S.keep.size) (by omega) (fun h => ?_)).trans (S.keep.block k hkk)
    have := (own_lt S.feed.own h.symm).1
    omega
theorem FB.next {w0 wr w' : World} {g : Nat} {P M : List UInt8} {lv ov v : Value} (S : FB w0 g P M lv ov v wr) (hb : Below wr.heap.size wr w') : FB w0 g P M lv ov v w' := by
  obtain ⟨fs, h1, h2⟩ := S.out
  exact ⟨⟨S.feed.blk.next hb, own_next S.feed.own hb⟩, own_next S.own hb, ⟨fs, h1, own_next h2 hb⟩, S.apart, bt S.keep hb, S.g0⟩
/-- what came is laid behind what there was -/
theorem FB.app {w0 wr : World} {g : Nat} {P M : List UInt8} {lv ov v : Value} {ops : Array Oper} {rest : List Oper} {o : Oper} {a : Act} {Q : Exit → Act → World → Prop} (S : FB w0 g P M lv ov v wr) (hP : P.length + M.length ≤ 10000) (hgd : o.guard = none) (s x : Operand)
    (ho : o.op = .call { callee := .builtin .append, args := #[s, x], argTypes := #[38, 38] }) (hs : a.eval s = lv) (hx : a.eval x = ov)
    (h : ∀ lv' w', FA w0 g (P ++ M) lv' v w' → wpList Try.prog ops Q rest (a.put o.dst lv') w') : wpList Try.prog ops Q (o :: rest) a wr := by
  obtain ⟨i0, hi, hz0, hz1, hz2⟩ := info_parts infoFrame
  obtain ⟨fs, e1, hov⟩ := S.out
  obtain ⟨A2, c2, rfl, hrd, _, _, hA2⟩ := own_rd hov
  have hf1 := feed_small P
  have hf2 := feed_small (P ++ M)
  rw [e1, List.length_append, List.length_append] at hf2
  have hgl := S.feed.blk.lt
  refine wpList_append_mine hgd s x 38 ho (g + 1) 25 i0 _ 6 32 Try.underlying38 hi hz0 hz1 hz2 rfl (by decide) lv _ (frs (feedL P 0).1) hs S.own A2 fs.length c2 (frs fs) hx (frs_len fs) hA2 hrd.news (frs_one fs) (by unfold maxLen; omega) (by omega) (by omega) fun v' w' h1 h2 h3 => h v' w' ⟨⟨?_, ?_⟩, ?_, ?_, ?_, S.g0⟩
  · exact S.feed.blk.grown h2 (fun e => by have := (own_lt S.own e.symm).1; omega)
  · exact own_kept S.feed.own h2 S.apart
  · rw [e1, List.length_append]
    unfold frs at h1 ⊢
    rw [List.flatMap_append]
    exact h1
  · exact S.apart.step S.feed.own h3
  · exact S.keep.grown h2 S.keep.size (fun k hk => by have := (own_lt S.own hk).1; have := S.g0; omega)
end Frm
end Go.Proofs.Ytijijfggppnbpaa
