/-
  The walk of survey.Blocks.
-/
import Derived.Test.YtmiplljcnchjkaaSurQ
import Derived.Test.YtmiplljcnchjkaaHead
import Derived.Deep.DeepCutAuto
import Derived.Deep.AppendLies
import Derived.StillTailTactics
namespace Go.Proofs.Ytmiplljcnchjkaa
open Go.RowKit
set_option linter.unusedVariables false
namespace Sur
def z16 (x : Int) : Value := .int .i16 x
def sms (L : List Sm) : List Value := L.flatMap Sm.cells
theorem sms_len (L : List Sm) : (sms L).length = L.length * 4 := flatMap_len Sm.cells 4 (fun _ => rfl) L
theorem sms_zero (m : Nat) : sms (List.replicate m ⟨0, 0, 0, 0⟩) = List.replicate (m * 4) (.int .i64 0) := by
  induction m with
  | zero => rfl
  | succ m ih =>
    rw [List.replicate_succ, show (m + 1) * 4 = m * 4 + 1 + 1 + 1 + 1 by omega, List.replicate_succ, List.replicate_succ, List.replicate_succ, List.replicate_succ, ← ih]
    rfl
theorem sms_v : ∀ (D : List Sm) (k : Nat) (x : Int) (a : Sm), D[k]? = some a → (sms D).set (k * 4 + 3) (.int .i64 x) = sms (D.set k ⟨a.n, a.s, a.q, x⟩)
  | [], k, x, a, h => by simp at h
  | d :: D, 0, x, a, h => by
    injection h with h
    subst h
    rfl
  | d :: D, k + 1, x, a, h => by
    have ih := sms_v D k x a (by simpa using h)
    have e : sms (d :: D) = d.cells ++ sms D := rfl
    have hl : d.cells.length = 4 := rfl
    rw [e, List.set_append_right (h := by rw [hl]; omega), hl, show (k + 1) * 4 + 3 - 4 = k * 4 + 3 by omega, ih]
    rfl
theorem sms_nsq : ∀ (D : List Sm) (k : Nat) (n s q : Int) (a : Sm), D[k]? = some a → (((sms D).set (k * 4) (.int .i64 n)).set (k * 4 + 1) (.int .i64 s)).set (k * 4 + 2) (.int .i64 q) = sms (D.set k ⟨n, s, q, a.v⟩)
  | [], k, n, s, q, a, h => by simp at h
  | d :: D, 0, n, s, q, a, h => by
    injection h with h
    subst h
    rfl
  | d :: D, k + 1, n, s, q, a, h => by
    have ih := sms_nsq D k n s q a (by simpa using h)
    have e : sms (d :: D) = d.cells ++ sms D := rfl
    have hl : d.cells.length = 4 := rfl
    rw [e, List.set_append_right (h := by rw [hl]; omega), List.set_append_right (h := by rw [hl]; omega), List.set_append_right (h := by rw [hl]; omega), hl, show (k + 1) * 4 - 4 = k * 4 by omega, show (k + 1) * 4 + 1 - 4 = k * 4 + 1 by omega, show (k + 1) * 4 + 2 - 4 = k * 4 + 2 by omega, ih]
    rfl
theorem at4_of {w : World} {g : Nat} {t : TypeId} {D : List Sm} {k : Nat} {a : Sm} (h : Blk w g t (sms D)) (hk : D[k]? = some a) : At4 w g (k * 4) a := by
  obtain ⟨hl, rfl⟩ := List.getElem?_eq_some_iff.1 hk
  have hf := fun j hj => flatMap_at Sm.cells 4 (fun _ => rfl) D k hl j hj
  exact ⟨(h.cell (k * 4)).trans (hf 0 (by decide)), (h.cell (k * 4 + 1)).trans (hf 1 (by decide)), (h.cell (k * 4 + 2)).trans (hf 2 (by decide)), (h.cell (k * 4 + 3)).trans (hf 3 (by decide))⟩
theorem infoSums : (Try.prog.info? 95).map (fun i => (i.zero, i.size, i.bytes)) = some (some (.agg #[.int .i64 0, .int .i64 0, .int .i64 0, .int .i64 0]), 4, 32) := by kernel_rfl
theorem four_zero : ∀ j, j < (Value.agg #[.int .i64 0, .int .i64 0, .int .i64 0, .int .i64 0]).cells.size → (Value.agg #[.int .i64 0, .int .i64 0, .int .i64 0, .int .i64 0]).cells[j]! = .int .i64 0 := by
  intro j hj
  have h : j < 4 := hj
  have : j = 0 ∨ j = 1 ∨ j = 2 ∨ j = 3 := by omega
  rcases this with rfl | rfl | rfl | rfl <;> rfl
/-- the field and the sums in memory -/
structure BD (w : World) (ga lo hi : Nat) (A : Option Addr) (W H n cap : Nat) (Z : List Int) (D : List Sm) (wr : World) : Prop where
  box : Blk wr w.heap.size 53 [.int .i64 (W : Int), .int .i64 (H : Int), .slice A n cap]
  all : Blk wr ga 95 (sms D)
  rd : RdL wr lo hi A (Z.map z16)
  b : Below w.heap.size w wr
  h1 : w.heap.size < ga
  h2 : hi ≤ w.heap.size
section
variable {w wr w' : World} {ga lo hi W H n cap : Nat} {A : Option Addr} {Z : List Int} {D : List Sm}
theorem BD.next (S : BD w ga lo hi A W H n cap Z D wr) (h : Below wr.heap.size wr w') : BD w ga lo hi A W H n cap Z D w' :=
  ⟨S.box.next h, S.all.next h, S.rd.next h, bt S.b h, S.h1, S.h2⟩
theorem BD.drew (S : BD w ga lo hi A W H n cap Z D wr) : BD w ga lo hi A W H n cap Z D wr.drew := S.next ⟨rfl, rfl, rfl, Nat.le_refl _, fun _ _ => rfl⟩
theorem BD.add (S : BD w ga lo hi A W H n cap Z D wr) {k : Nat} {a : Sm} {z : Int} (hk : D[k]? = some a) (h : Add4 wr ga (k * 4) a z w') : BD w ga lo hi A W H n cap Z (D.set k (a.add z)) w' := by
  rcases h with ⟨hz, rfl⟩ | ⟨hz, rfl⟩
  · have e : a.add z = ⟨a.n, a.s, a.q, a.v + 1⟩ := by unfold Sm.add; rw [if_pos hz]
    rw [e]
    refine ⟨S.box.far (p := ⟨ga, k * 4 + 3, none⟩) (fun e => by have := S.h1; rw [e] at this; exact Nat.lt_irrefl _ this) _, ?_, S.rd.far (p := ⟨ga, k * 4 + 3, none⟩) (.inr (by show hi ≤ ga; have := S.h1; have := S.h2; omega)) _, S.b.setCell (p := ⟨ga, k * 4 + 3, none⟩) (by show w.heap.size ≤ ga; have := S.h1; omega) _, S.h1, S.h2⟩
    rw [← sms_v D k _ a hk]
    exact S.all.put (k * 4 + 3) _
  · have e : a.add z = ⟨a.n + 1, a.s + z, a.q + z * z, a.v⟩ := by unfold Sm.add; rw [if_neg hz]
    rw [e]
    have S' := S.drew
    have hne : w.heap.size ≠ ga := fun e => by have := S.h1; rw [e] at this; exact Nat.lt_irrefl _ this
    have hge : hi ≤ ga := by have := S.h1; have := S.h2; omega
    have hle : w.heap.size ≤ ga := by have := S.h1; omega
    refine ⟨((S'.box.far (p := ⟨ga, k * 4, none⟩) hne _).far (p := ⟨ga, k * 4 + 1, none⟩) hne _).far (p := ⟨ga, k * 4 + 2, none⟩) hne _, ?_, ((S'.rd.far (p := ⟨ga, k * 4, none⟩) (.inr hge) _).far (p := ⟨ga, k * 4 + 1, none⟩) (.inr hge) _).far (p := ⟨ga, k * 4 + 2, none⟩) (.inr hge) _, ((S'.b.setCell (p := ⟨ga, k * 4, none⟩) hle _).setCell (p := ⟨ga, k * 4 + 1, none⟩) hle _).setCell (p := ⟨ga, k * 4 + 2, none⟩) hle _, S.h1, S.h2⟩
    rw [← sms_nsq D k _ _ _ a hk]
    exact ((S'.all.put (k * 4) _).put (k * 4 + 1) _).put (k * 4 + 2) _
end
theorem allT_start (W m : Nat) (Z : List Int) : allT W m Z 0 = List.replicate m ⟨0, 0, 0, 0⟩ := by
  apply List.ext_getElem?
  intro k
  by_cases hk : k < m
  · rw [allT_get hk, List.getElem?_replicate, if_pos hk]
    rfl
  · rw [List.getElem?_eq_none (by rw [allT_len]; omega), List.getElem?_eq_none (by rw [List.length_replicate]; omega)]
set_option maxRecDepth 100000 in
theorem blocks_bad (W H : Int) (A : Option Addr) (n cap : Nat) (w : World) (hn : n ≤ maxLen) (hc : codeH W H n ≠ 0) :
    Calls Try.prog 34 #[.agg #[.int .i64 W, .int .i64 H, .slice A n cap]] w fun e w' => e = .returned (.tuple #[.slice none 0 0, .int .i64 (codeH W H n)]) ∧ Below w.heap.size w w' := by
  have h := tcheck_any W H A n cap (w.alloc (.cells #[.int .i64 W, .int .i64 H, .slice A n cap] 53)) hn
  generalize codeH W H n = c at *
  have hd : (c != 0) = true := by rw [bne_iff_ne]; exact hc
  go_enter Try.func34, Try.ntmps34
  go_wp2_with fail
  refine h.mono ?_
  rintro e w2 ⟨rfl, hb⟩
  have HB := Lib.hid (bt (bl w _) hb)
  clear hb h
  go_wp2_with fail
  go_ret2
  exact ⟨rfl, HB.out⟩
/-- .. and the squares so far -/
structure BE (w : World) (ga lo hi : Nat) (A : Option Addr) (W H n cap : Nat) (Z : List Int) (D : List Sm) (B : List Sq) (v : Value) (i : Nat) (wr : World) : Prop where
  bd : BD w ga lo hi A W H n cap Z D wr
  own : wr.ownsRow (ga + 1) 61 5 v i (sqs B)
theorem BE.more {w wr w' : World} {ga lo hi W H n cap i : Nat} {A : Option Addr} {Z : List Int} {D : List Sm} {B : List Sq} {v v' : Value} (S : BE w ga lo hi A W H n cap Z D B v i wr) (b : Sq) (hg : wr.grownBy w' v.ownBlock) (ho : w'.ownsRow (ga + 1) 61 5 v' (i + 1) (sqs B ++ b.cells)) : BE w ga lo hi A W H n cap Z D (B ++ [b]) v' (i + 1) w' := by
  have hv : ∀ k, v.ownBlock = some k → ga + 1 ≤ k := fun k hk => (own_lt S.own hk).1
  have h1 := S.bd.h1
  have h2 := S.bd.h2
  refine ⟨⟨S.bd.box.grown hg (fun e => by have := hv _ e.symm; omega), S.bd.all.grown hg (fun e => by have := hv _ e.symm; omega), S.bd.rd.grown hg (fun g' hg' => .inr (by have := hv g' hg'; omega)), S.bd.b.grown hg S.bd.b.size (fun k hk => by have := hv k hk; omega), h1, h2⟩, ?_⟩
  have e : sqs (B ++ [b]) = sqs B ++ b.cells := by
    unfold sqs
    rw [List.flatMap_append]
    congr 1
  rw [e]
  exact ho
theorem BE.next {w wr w' : World} {ga lo hi W H n cap i : Nat} {A : Option Addr} {Z : List Int} {D : List Sm} {B : List Sq} {v : Value} (S : BE w ga lo hi A W H n cap Z D B v i wr) (h : Below wr.heap.size wr w') : BE w ga lo hi A W H n cap Z D B v i w' := ⟨S.bd.next h, own_next S.own h⟩
def GotD (w : World) (W H : Nat) (Z : List Int) (e : Ending) (w' : World) : Prop :=
  Below w.heap.size w w' ∧ ∃ v, e = .returned (.tuple #[v, .int .i64 0]) ∧ w'.ownsRow (w.heap.size + 1) 61 5 v (sd W * sd H) (sqs (blocksL W H Z))
set_option maxRecDepth 100000 in
set_option maxHeartbeats 2000000 in
theorem blocks_ok (W H : Nat) (hW : 2 ≤ W) (hW2 : W ≤ 256) (hH : 2 ≤ H) (hH2 : H ≤ 256) (A : Option Addr) (Z : List Int) (n cap lo hh : Nat) (w : World) (hrd : RdL w lo hh A (Z.map z16)) (hhi : hh ≤ w.heap.size) (hn : Z.length = n) (hn2 : n = W * H) (hz : InZ Z) :
    Calls Try.prog 34 #[.agg #[.int .i64 (W : Int), .int .i64 (H : Int), .slice A n cap]] w (GotD w W H Z) := by
  have hnl : n ≤ 65536 := by rw [hn2]; exact Nat.mul_le_mul hW2 hH2
  have hcode := codeH_nat hW hW2 hH hH2 hn2
  have h := tcheck_any (W : Int) (H : Int) A n cap (w.alloc (.cells #[.int .i64 (W : Int), .int .i64 (H : Int), .slice A n cap] 53)) (by unfold maxLen; omega)
  rw [hcode] at h
  obtain ⟨a, ha⟩ : ∃ a, a = sd W := ⟨_, rfl⟩
  obtain ⟨b, hb⟩ : ∃ b, b = sd H := ⟨_, rfl⟩
  have ha1 : 1 ≤ a ∧ a ≤ 32 := by rw [ha]; unfold sd; omega
  have hb1 : 1 ≤ b ∧ b ≤ 32 := by rw [hb]; unfold sd; omega
  obtain ⟨m, hm⟩ : ∃ m, m = a * b := ⟨_, rfl⟩
  have hml : m ≤ 32 * 32 := by rw [hm]; exact Nat.mul_le_mul ha1.2 hb1.2
  have v9 : IntKind.i64.wrap ((a : Int) * (b : Int)) = (m : Int) := by rw [← Int.natCast_mul, ← hm]; exact IntWalk.i64_in _ (by omega)
  obtain ⟨i6, hi6, hz0, hz1, hz2⟩ := info_parts infoSums
  have hmk := mk_zero (P := Try.prog) 93 95 i6 _ _ 4 Try.underlying93 hi6 hz0 four_zero (by decide) hz1 (by omega) m m (Nat.le_refl _) (by omega)
  have HRD := Lib.hid hrd
  have HN := Lib.hid hn
  have HN2 := Lib.hid hn2
  have HZ := Lib.hid hz
  have HA := Lib.hid ha
  have HBB := Lib.hid hb
  have HM := Lib.hid hm
  have hbox := Lib.hid (Blk.mk w 53 [.int .i64 (W : Int), .int .i64 (H : Int), .slice A n cap])
  clear hrd hn hn2 hz ha hb hm hcode
  go_enter Try.func34, Try.ntmps34
  go_wp2_with fail
  refine h.mono ?_
  rintro e w2 ⟨rfl, hb2⟩
  have HBX := Lib.hid (hbox.out.next hb2)
  have HB2 := Lib.hid (bt (bl w _) hb2)
  have HRD2 := Lib.hid (HRD.out.next HB2.out)
  clear hb2 h hbox HRD
  go_upto_region 4 with fail
  go_cut [5, 6] (fun s5 s6 wx => s5 = .int .i64 (a : Int) ∧ s6 = .int .i64 (b : Int) ∧ ∃ q, wx = w2.drewN q)
  case first =>
    have x0 : w2.cell? ⟨w.heap.size, 0, none⟩ = some (.int .i64 (W : Int)) := HBX.out.cell 0
    have x1 : w2.cell? ⟨w.heap.size, 1, none⟩ = some (.int .i64 (H : Int)) := HBX.out.cell 1
    clear hmk v9
    go_wp2_with fail
    go_quiet (fail)
    go_wp2_with fail
    go_meet
    have e1 := HA.out
    have e2 := HBB.out
    unfold sd at e1 e2
    exact ⟨by congr 1; omega, by congr 1; omega, _, rfl⟩
  obtain ⟨rfl, rfl, q2, hq2⟩ := hcut
  have hq := bt (Below.refl _ w2) (show Below w2.heap.size w2 wc by rw [hq2]; exact below_drewN (Below.refl _ _) _)
  have HBX2 := Lib.hid (HBX.out.next hq)
  have HB3 := Lib.hid (bt HB2.out hq)
  have HRD3 := Lib.hid (HRD2.out.next hq)
  clear hq hq2 HBX HB2 HRD2
  have hsz := HBX2.out.lt
  obtain ⟨ga, hga⟩ : ∃ g, g = wc.heap.size := ⟨_, rfl⟩
  have HBD : Hid (BD w ga lo hh A W H n cap Z (allT W m Z 0) (wc.alloc (.cells (Array.replicate (m * 4) (Value.int .i64 0)) 95))) := by
    rw [hga, ← List.toArray_replicate]
    have h1 := Blk.mk wc 95 (List.replicate (m * 4) (Value.int .i64 0))
    refine Lib.hid ⟨HBX2.out.alloc _, ?_, HRD3.out.alloc _, bt HB3.out (bl _ _), hsz, hhi⟩
    rw [allT_start, sms_zero]
    exact h1
  have HGA := Lib.hid hga
  have x2 : wc.cell? ⟨w.heap.size, 2, none⟩ = some (.slice A n cap) := HBX2.out.cell 2
  clear HBX2 HB3 HRD3 hga
  go_wp2_with fail
  rw [← HGA.out]
  go_loopw [8, 9, 34] (fun _ _ s34 wr => ∃ t : Nat, s34 = .int .i64 (t : Int) ∧ t ≤ n ∧ BD w ga lo hh A W H n cap Z (allT W m Z t) wr) (fun _ _ s34 _ => n - (intOf s34).toNat)
  case atStart => exact ⟨0, rfl, by omega, HBD.out⟩
  case round =>
    clear HBD hmk x2
    obtain ⟨t, rfl, ht0, hS⟩ := hrel
    have HS := Lib.hid hS
    clear hS
    by_cases ht : t < n
    · have dt : decide (t < n) = true := decide_eq_true ht
      have t0 : (0 : Int) ≤ (t : Int) := by omega
      have t1 : (t : Int) < (n : Int) := by omega
      have hk : blk W t < m := by rw [HM.out, HA.out, HBB.out]; exact blk_lt (by omega) (by rw [← HN2.out]; exact ht)
      have hget := allT_get (Z := Z) (t := t) (W := W) hk
      have hstep : Hid (allT W m Z (t + 1) = (allT W m Z t).set (blk W t) ((smT W Z (blk W t) t).add (Z.getD t 0))) := Lib.hid (allT_step W m Z t)
      have hsm := smT_small (W := W) HZ.out (blk W t) t
      have hzb := HZ.out.get t
      have htz : t < Z.length := by rw [HN.out]; exact ht
      obtain ⟨bZ, oZ, rfl, _, _, _, hcZ⟩ := HS.out.rd.some (by rw [List.length_map]; omega)
      have cz : wr.cell? ⟨bZ, oZ + t, none⟩ = some (.int .i16 (Z.getD t 0)) := hcZ t _ (by rw [List.getElem?_map, List.getElem?_eq_getElem htz, List.getD_eq_getElem?_getD, List.getElem?_eq_getElem htz]; rfl)
      have x0 : wr.cell? ⟨w.heap.size, 0, none⟩ = some (.int .i64 (W : Int)) := HS.out.box.cell 0
      obtain ⟨z, hz⟩ : ∃ z, z = Z.getD t 0 := ⟨_, rfl⟩
      rw [← hz] at hstep hzb cz
      have hkv : blk W t = t / W / 8 * a + t % W / 8 := by rw [HA.out]; rfl
      obtain ⟨k, hke⟩ : ∃ k, k = blk W t := ⟨_, rfl⟩
      rw [← hke] at hkv hk hget hstep hsm
      obtain ⟨r1, hr1⟩ : ∃ r, r = t / W := ⟨_, rfl⟩
      obtain ⟨r2, hr2⟩ : ∃ r, r = t % W := ⟨_, rfl⟩
      have hr1l : r1 ≤ t := by rw [hr1]; exact Nat.div_le_self _ _
      have hr2l : r2 ≤ t := by rw [hr2]; exact Nat.mod_le _ _
      have e1 : (t : Int).tdiv (W : Int) = (r1 : Int) := by rw [Int.tdiv_eq_ediv_of_nonneg (by omega), hr1]; exact (Int.natCast_ediv t W).symm
      have e2 : (t : Int) / (W : Int) = (r1 : Int) := by rw [hr1]; exact (Int.natCast_ediv t W).symm
      have e3 : (t : Int).tmod (W : Int) = (r2 : Int) := by rw [Int.tmod_eq_emod_of_nonneg (by omega), hr2]; exact (Int.natCast_emod t W).symm
      have e4 : (t : Int) % (W : Int) = (r2 : Int) := by rw [hr2]; exact (Int.natCast_emod t W).symm
      rw [← hr1, ← hr2] at hkv
      obtain ⟨r3, hr3⟩ : ∃ r, r = r1 / 8 := ⟨_, rfl⟩
      obtain ⟨r4, hr4⟩ : ∃ r, r = r2 / 8 := ⟨_, rfl⟩
      rw [← hr3, ← hr4] at hkv
      have e5 : (r1 : Int) / 8 = (r3 : Int) := by omega
      have e6 : (r2 : Int) / 8 = (r4 : Int) := by omega
      have e7 : (r1 : Int).tdiv 8 = (r3 : Int) := by rw [Int.tdiv_eq_ediv_of_nonneg (by omega)]; exact e5
      have e8 : (r2 : Int).tdiv 8 = (r4 : Int) := by rw [Int.tdiv_eq_ediv_of_nonneg (by omega)]; exact e6
      obtain ⟨p, hp⟩ : ∃ p, p = r3 * a := ⟨_, rfl⟩
      rw [← hp] at hkv
      have w1 : IntKind.i64.wrap (r1 : Int) = (r1 : Int) := IntWalk.i64_in _ (by omega)
      have w2' : IntKind.i64.wrap (r2 : Int) = (r2 : Int) := IntWalk.i64_in _ (by omega)
      have w3 : IntKind.i64.wrap (r3 : Int) = (r3 : Int) := IntWalk.i64_in _ (by omega)
      have w4 : IntKind.i64.wrap (r4 : Int) = (r4 : Int) := IntWalk.i64_in _ (by omega)
      have w5 : IntKind.i64.wrap ((r3 : Int) * (a : Int)) = (p : Int) := by rw [← Int.natCast_mul, ← hp]; exact IntWalk.i64_in _ (by omega)
      have w6 : IntKind.i64.wrap ((p : Int) + (r4 : Int)) = (k : Int) := by rw [IntWalk.i64_in _ (by omega)]; omega
      have k0 : (0 : Int) ≤ (k : Int) := by omega
      have k1 : (k : Int) < (m : Int) := by omega
      have hW0 : ((W : Int) == 0) = false := by rw [beq_eq_false_iff_ne]; omega
      have hW1 : ¬ (W : Int) = 0 := by omega
      have hW2' : ¬ W = 0 := by omega
      have hadd := fun X (hX : BD w ga lo hh (some ⟨bZ, oZ, none⟩) W H n cap Z (allT W m Z t) X) => add_any ga (k * 4) (smT W Z k t) z (t : Int) hsm (by omega) hzb.1 hzb.2 X (at4_of hX.all hget) hX.all.free
      have HGET := Lib.hid hget
      have HSD := Lib.hid HS.out.drew
      have HKV := Lib.hid hkv
      clear hr1 hr2 hr3 hr4 hp hkv hke hz hsm hget hcZ htz HS
      go_wp2_with fail
      go_still_tail 16, (by kernel_rfl)
      change wpList _ _ _ _ _ wr.drew
      generalize wr.drew = wd at *
      go_wp2_with fail
      refine (hadd _ HSD.out).mono ?_
      rintro e w3 ⟨rfl, hA4⟩
      have HS3 := Lib.hid (HSD.out.add HGET.out hA4)
      rw [← hstep.out] at HS3
      clear hA4 hadd HSD HGET hstep
      go_wp2_with fail
      go_roundw
      case rel => exact ⟨t + 1, by go_num, by omega, HS3.out⟩
      case measure => simp [intOf]; omega
    · have dt : decide (t < n) = false := decide_eq_false ht
      have htn : t = n := by omega
      subst t
      obtain ⟨i7, hi7, hy0, hy1, hy2⟩ := info_parts infoBlock
      have hmk2 : ∀ w : World, (Instr.makeSlice 54 (.int .i64 0) (.int .i64 (m : Int))).run Try.prog w = .ok (.slice (some ⟨w.heap.size, 0, none⟩) 0 m) (w.alloc (.cells (List.replicate (m * 5) (Value.int .i64 0)).toArray 61)) := mk_zero (P := Try.prog) 54 61 i7 _ _ 5 Try.underlying54 hi7 hy0 five_zero (by decide) hy1 (by omega) 0 m (Nat.zero_le _) (by omega)
      obtain ⟨gb, hgb⟩ : ∃ g, g = wr.heap.size := ⟨_, rfl⟩
      have HBE : Hid (BE w ga lo hh A W H n cap Z (allT W m Z n) ((blocksL W H Z).take 0) (.slice (some ⟨gb, 0, none⟩) 0 m) 0 (wr.alloc (.cells (Array.replicate (m * 5) (Value.int .i64 0)) 61))) := by
        rw [hgb, ← List.toArray_replicate]
        have h1 : (wr.alloc (.cells (List.replicate (m * 5) (Value.int .i64 0)).toArray 61)).heap[wr.heap.size]? = some (.cells (List.replicate (m * 5) (Value.int .i64 0)).toArray 61 (0, 0)) := Blk.mk wr 61 (List.replicate (m * 5) (Value.int .i64 0))
        refine Lib.hid ⟨HS.out.next (bl _ _), ⟨by rw [List.take_zero]; rfl, .inr ⟨wr.heap.size, m, _, rfl, HS.out.all.lt, h1, Nat.zero_le _, by unfold maxLen; omega, by simp, by rw [List.take_zero]; rfl⟩⟩⟩
      have HGB := Lib.hid hgb
      clear hgb HS ht ht0
      go_wp2_with fail
      rw [← HGB.out]
      go_loopw [10, 11, 63] (fun s10 _ s63 wr => ∃ (i : Nat) (v : Value), s63 = .int .i64 (i : Int) ∧ i ≤ m ∧ s10 = v ∧ BE w ga lo hh A W H n cap Z (allT W m Z n) ((blocksL W H Z).take i) v i wr) (fun _ _ s63 _ => m - (intOf s63).toNat)
      case atStart => exact ⟨0, _, rfl, by omega, rfl, HBE.out⟩
      case round =>
        clear HBE hmk2
        obtain ⟨i, v, rfl, hi0, rfl, hS⟩ := hrel
        obtain ⟨Av, cv, rfl, _, _, _, _⟩ := own_rd hS.own
        have HS := Lib.hid hS
        clear hS
        by_cases hi : i < m
        · have di : decide (i < m) = true := decide_eq_true hi
          have i0 : (0 : Int) ≤ (i : Int) := by omega
          have i1 : (i : Int) < (m : Int) := by omega
          have hget := allT_get (Z := Z) (t := n) (W := W) hi
          have HG4 := Lib.hid hget
          have h4 := at4_of HS.out.bd.all hget
          have hsm : (smT W Z i n).Small 64 := by rw [HN2.out]; exact smT_end (by omega) HZ.out i
          have hbl : Hid ((blocksL W H Z).take (i + 1) = (blocksL W H Z).take i ++ [sqOf W H Z i]) := Lib.hid (by
            unfold blocksL
            rw [← HA.out, ← HBB.out, ← HM.out, List.take_add_one]
            congr 1
            rw [List.getElem?_map, List.getElem?_range hi]
            rfl)
          have hsq : Hid (sqOf W H Z i = ⟨((i % a : Nat) : Int), ((i / a : Nat) : Int), roughZ (smT W Z i n), (smT W Z i n).n, (smT W Z i n).v⟩) := Lib.hid (by unfold sqOf; rw [← HA.out, ← HN2.out])
          obtain ⟨sm, hsme⟩ : ∃ sm, sm = smT W Z i n := ⟨_, rfl⟩
          rw [← hsme] at h4 hsm hsq HG4
          have hro := fun X (hX : At4 X ga (i * 4) sm) => rough_any ga (i * 4) sm hsm X hX
          obtain ⟨c0, c1, c2, c3⟩ := h4
          obtain ⟨rr, hrr⟩ : ∃ rr, rr = roughZ sm := ⟨_, rfl⟩
          rw [← hrr] at hro hsq
          obtain ⟨p1, hp1⟩ : ∃ p, p = i % a := ⟨_, rfl⟩
          obtain ⟨p2, hp2⟩ : ∃ p, p = i / a := ⟨_, rfl⟩
          rw [← hp1, ← hp2] at hsq
          have hp1l : p1 ≤ i := by rw [hp1]; exact Nat.mod_le _ _
          have hp2l : p2 ≤ i := by rw [hp2]; exact Nat.div_le_self _ _
          have e1 : (i : Int).tdiv (a : Int) = (p2 : Int) := by rw [Int.tdiv_eq_ediv_of_nonneg (by omega), hp2]; exact (Int.natCast_ediv i a).symm
          have e2 : (i : Int) / (a : Int) = (p2 : Int) := by rw [hp2]; exact (Int.natCast_ediv i a).symm
          have e3 : (i : Int).tmod (a : Int) = (p1 : Int) := by rw [Int.tmod_eq_emod_of_nonneg (by omega), hp1]; exact (Int.natCast_emod i a).symm
          have e4 : (i : Int) % (a : Int) = (p1 : Int) := by rw [hp1]; exact (Int.natCast_emod i a).symm
          have w1 : IntKind.i64.wrap (p1 : Int) = (p1 : Int) := IntWalk.i64_in _ (by omega)
          have w2' : IntKind.i64.wrap (p2 : Int) = (p2 : Int) := IntWalk.i64_in _ (by omega)
          have ha0 : ((a : Int) == 0) = false := by rw [beq_eq_false_iff_ne]; omega
          have ha2 : ¬ (a : Int) = 0 := by omega
          have ha3 : ¬ a = 0 := by omega
          have HSD := Lib.hid (HS.out.next ⟨rfl, rfl, rfl, Nat.le_refl _, fun _ _ => rfl⟩ : BE w ga lo hh A W H n cap Z (allT W m Z n) ((blocksL W H Z).take i) (.slice Av i cv) i wr.drew)
          have d0 : wr.drew.cell? ⟨ga, i * 4, none⟩ = some (.int .i64 sm.n) := c0
          have d1 : wr.drew.cell? ⟨ga, i * 4 + 1, none⟩ = some (.int .i64 sm.s) := c1
          have d2 : wr.drew.cell? ⟨ga, i * 4 + 2, none⟩ = some (.int .i64 sm.q) := c2
          have d3 : wr.drew.cell? ⟨ga, i * 4 + 3, none⟩ = some (.int .i64 sm.v) := c3
          clear hget hsm hsme hrr hp1 hp2 HS c0 c1 c2 c3
          go_wp2_with fail
          have hS0 : wr.drew.cell? ⟨ga, i * 4, none⟩ = some (.int .i64 sm.n) ∧ wr.drew.cell? ⟨ga, i * 4 + 1, none⟩ = some (.int .i64 sm.s) ∧ wr.drew.cell? ⟨ga, i * 4 + 2, none⟩ = some (.int .i64 sm.q) ∧ wr.drew.cell? ⟨ga, i * 4 + 3, none⟩ = some (.int .i64 sm.v) := ⟨d0, d1, d2, d3⟩
          clear d0 d1 d2 d3
          refine wp_region_held_drew (S := fun w' => w'.cell? ⟨ga, i * 4, none⟩ = some (.int .i64 sm.n) ∧ w'.cell? ⟨ga, i * 4 + 1, none⟩ = some (.int .i64 sm.s) ∧ w'.cell? ⟨ga, i * 4 + 2, none⟩ = some (.int .i64 sm.q) ∧ w'.cell? ⟨ga, i * 4 + 3, none⟩ = some (.int .i64 sm.v)) (by kernel_rfl) hS0 (fun hHeld => ?_)
          change wpAnyH _ _ _ _ _ _ _ _ wr.drew
          generalize wr.drew = wd at *
          refine wpAnyH_take (i := 0) (oi := ⟨some 66, _, _, _, _, _⟩) (v := ?_) rfl (by kernel_rfl) (by kernel_rfl) (by kernel_rfl) (fun _ _ _ h => h) (Or.inl ⟨by rfl, ?_⟩) (by assumption) ?_
          rotate_left
          · (intro w hSw; (try dsimp only at hSw); go_simp; try (with_reducible rfl))
          try simp only [Act.put, List.setIfInBounds_toArray, List.set_cons_zero, List.set_cons_succ]
          refine wpAnyH_take (i := 1) (oi := ⟨some 67, _, _, _, _, _⟩) (v := ?_) rfl (by kernel_rfl) (by kernel_rfl) (by kernel_rfl) (fun _ _ _ h => h) (Or.inl ⟨by rfl, ?_⟩) (by assumption) ?_
          rotate_left
          · (intro w hSw; (try dsimp only at hSw); go_simp; try (with_reducible rfl))
          try simp only [Act.put, List.setIfInBounds_toArray, List.set_cons_zero, List.set_cons_succ]
          refine wpAnyH_take (i := 2) (oi := ⟨some 68, _, _, _, _, _⟩) (v := ?_) rfl (by kernel_rfl) (by kernel_rfl) (by kernel_rfl) (fun _ _ _ h => h) (Or.inl ⟨by rfl, ?_⟩) (by assumption) ?_
          rotate_left
          · (intro w hSw; (try dsimp only at hSw); go_simp; try (with_reducible rfl))
          try simp only [Act.put, List.setIfInBounds_toArray, List.set_cons_zero, List.set_cons_succ]
          refine wpAnyH_take (i := 3) (oi := ⟨some 69, _, _, _, _, _⟩) (v := ?_) rfl (by kernel_rfl) (by kernel_rfl) (by kernel_rfl) (fun _ _ _ h => h) (Or.inl ⟨by rfl, ?_⟩) (by assumption) ?_
          rotate_left
          · (intro w hSw; (try dsimp only at hSw); go_simp; try (with_reducible rfl))
          try simp only [Act.put, List.setIfInBounds_toArray, List.set_cons_zero, List.set_cons_succ]
          refine wpAnyH_take (i := 4) (oi := ⟨some 70, _, _, _, _, _⟩) (v := ?_) rfl (by kernel_rfl) (by kernel_rfl) (by kernel_rfl) (fun _ _ _ h => h) (Or.inl ⟨by rfl, ?_⟩) (by assumption) ?_
          rotate_left
          · (intro w hSw; (try dsimp only at hSw); go_simp; try (with_reducible rfl))
          try simp only [Act.put, List.setIfInBounds_toArray, List.set_cons_zero, List.set_cons_succ]
          refine wpAnyH_take (i := 5) (oi := ⟨some 71, _, _, _, _, _⟩) (v := ?_) rfl (by kernel_rfl) (by kernel_rfl) (by kernel_rfl) (fun _ _ _ h => h) (Or.inl ⟨by rfl, ?_⟩) (by assumption) ?_
          rotate_left
          · (intro w hSw; (try dsimp only at hSw); go_simp; try (with_reducible rfl))
          try simp only [Act.put, List.setIfInBounds_toArray, List.set_cons_zero, List.set_cons_succ]
          refine wpAnyH_take (i := 6) (oi := ⟨some 72, _, _, _, _, _⟩) (v := ?_) rfl (by kernel_rfl) (by kernel_rfl) (by kernel_rfl) (fun _ _ _ h => h) (Or.inl ⟨by rfl, ?_⟩) (by assumption) ?_
          rotate_left
          · (intro w hSw; (try dsimp only at hSw); go_simp; try (with_reducible rfl))
          try simp only [Act.put, List.setIfInBounds_toArray, List.set_cons_zero, List.set_cons_succ]
          refine wpAnyH_take (i := 7) (oi := ⟨some 73, _, _, _, _, _⟩) (v := ?_) rfl (by kernel_rfl) (by kernel_rfl) (by kernel_rfl) (fun _ _ _ h => h) (Or.inl ⟨by rfl, ?_⟩) (by assumption) ?_
          rotate_left
          · (intro w hSw; (try dsimp only at hSw); go_simp; try (with_reducible rfl))
          try simp only [Act.put, List.setIfInBounds_toArray, List.set_cons_zero, List.set_cons_succ]
          refine wpAnyH_take (i := 8) (oi := ⟨some 74, _, _, _, _, _⟩) (v := ?_) rfl (by kernel_rfl) (by kernel_rfl) (by kernel_rfl) (fun _ _ _ h => h) (Or.inl ⟨by rfl, ?_⟩) (by assumption) ?_
          rotate_left
          · (intro w hSw; (try dsimp only at hSw); go_simp; try (with_reducible rfl))
          try simp only [Act.put, List.setIfInBounds_toArray, List.set_cons_zero, List.set_cons_succ]
          refine wpAnyH_take (i := 9) (oi := ⟨some 75, _, _, _, _, _⟩) (v := ?_) rfl (by kernel_rfl) (by kernel_rfl) (by kernel_rfl) (fun _ _ _ h => h) (Or.inl ⟨by rfl, ?_⟩) (by assumption) ?_
          rotate_left
          · (intro w hSw; (try dsimp only at hSw); go_simp; try (with_reducible rfl))
          try simp only [Act.put, List.setIfInBounds_toArray, List.set_cons_zero, List.set_cons_succ]
          refine wpAnyH_take (i := 11) (oi := ⟨some 77, _, _, _, _, _⟩) (v := ?_) rfl (by kernel_rfl) (by kernel_rfl) (by kernel_rfl) (fun _ _ _ h => h) (Or.inl ⟨by rfl, ?_⟩) (by assumption) ?_
          rotate_left
          · (intro w hSw; (try dsimp only at hSw); go_simp; try (with_reducible rfl))
          try simp only [Act.put, List.setIfInBounds_toArray, List.set_cons_zero, List.set_cons_succ]
          refine wpAnyH_take (i := 12) (oi := ⟨some 78, _, _, _, _, _⟩) (v := ?_) rfl (by kernel_rfl) (by kernel_rfl) (by kernel_rfl) (fun _ _ _ h => h) (Or.inl ⟨by rfl, ?_⟩) (by assumption) ?_
          rotate_left
          · (intro w hSw; (try dsimp only at hSw); go_simp; try (with_reducible rfl))
          try simp only [Act.put, List.setIfInBounds_toArray, List.set_cons_zero, List.set_cons_succ]
          refine wpAnyH_take (i := 13) (oi := ⟨some 79, _, _, _, _, _⟩) (v := ?_) rfl (by kernel_rfl) (by kernel_rfl) (by kernel_rfl) (fun _ _ _ h => h) (Or.inl ⟨by rfl, ?_⟩) (by assumption) ?_
          rotate_left
          · (intro w hSw; (try dsimp only at hSw); go_simp; try (with_reducible rfl))
          try simp only [Act.put, List.setIfInBounds_toArray, List.set_cons_zero, List.set_cons_succ]
          refine wpAnyH_take (i := 14) (oi := ⟨some 80, _, _, _, _, _⟩) (v := ?_) rfl (by kernel_rfl) (by kernel_rfl) (by kernel_rfl) (fun _ _ _ h => h) (Or.inl ⟨by rfl, ?_⟩) (by assumption) ?_
          rotate_left
          · (intro w hSw; (try dsimp only at hSw); go_simp; try (with_reducible rfl))
          try simp only [Act.put, List.setIfInBounds_toArray, List.set_cons_zero, List.set_cons_succ]
          refine wpAnyH_take (i := 15) (oi := ⟨some 81, _, _, _, _, _⟩) (v := ?_) rfl (by kernel_rfl) (by kernel_rfl) (by kernel_rfl) (fun _ _ _ h => h) (Or.inl ⟨by rfl, ?_⟩) (by assumption) ?_
          rotate_left
          · (intro w hSw; (try dsimp only at hSw); go_simp; try (with_reducible rfl))
          try simp only [Act.put, List.setIfInBounds_toArray, List.set_cons_zero, List.set_cons_succ]
          refine wpAnyH_take (i := 16) (oi := ⟨some 82, _, _, _, _, _⟩) (v := ?_) rfl (by kernel_rfl) (by kernel_rfl) (by kernel_rfl) (fun _ _ _ h => h) (Or.inl ⟨by rfl, ?_⟩) (by assumption) ?_
          rotate_left
          · (intro w hSw; (try dsimp only at hSw); go_simp; try (with_reducible rfl))
          try simp only [Act.put, List.setIfInBounds_toArray, List.set_cons_zero, List.set_cons_succ]
          refine wpAnyH_take (i := 17) (oi := ⟨some 83, _, _, _, _, _⟩) (v := ?_) rfl (by kernel_rfl) (by kernel_rfl) (by kernel_rfl) (fun _ _ _ h => h) (Or.inl ⟨by rfl, ?_⟩) (by assumption) ?_
          rotate_left
          · (intro w hSw; (try dsimp only at hSw); go_simp; try (with_reducible rfl))
          try simp only [Act.put, List.setIfInBounds_toArray, List.set_cons_zero, List.set_cons_succ]
          refine wpAnyH_take (i := 18) (oi := ⟨some 84, _, _, _, _, _⟩) (v := ?_) rfl (by kernel_rfl) (by kernel_rfl) (by kernel_rfl) (fun _ _ _ h => h) (Or.inl ⟨by rfl, ?_⟩) (by assumption) ?_
          rotate_left
          · (intro w hSw; (try dsimp only at hSw); go_simp; try (with_reducible rfl))
          try simp only [Act.put, List.setIfInBounds_toArray, List.set_cons_zero, List.set_cons_succ]
          refine wpAnyH_take (i := 19) (oi := ⟨some 85, _, _, _, _, _⟩) (v := ?_) rfl (by kernel_rfl) (by kernel_rfl) (by kernel_rfl) (fun _ _ _ h => h) (Or.inl ⟨by rfl, ?_⟩) (by assumption) ?_
          rotate_left
          · (intro w hSw; (try dsimp only at hSw); go_simp; try (with_reducible rfl))
          try simp only [Act.put, List.setIfInBounds_toArray, List.set_cons_zero, List.set_cons_succ]
          refine wpAnyH_take (i := 20) (oi := ⟨some 86, _, _, _, _, _⟩) (v := ?_) rfl (by kernel_rfl) (by kernel_rfl) (by kernel_rfl) (fun _ _ _ h => h) (Or.inl ⟨by rfl, ?_⟩) (by assumption) ?_
          rotate_left
          · (intro w hSw; (try dsimp only at hSw); go_simp; try (with_reducible rfl))
          try simp only [Act.put, List.setIfInBounds_toArray, List.set_cons_zero, List.set_cons_succ]
          refine wpAnyH_ready (rs := [10]) (by kernel_rfl) (by simp) ?_
          refine AllReadyH.cons (o := ⟨some 76, _, _, _, _, _⟩) rfl (fun K hK => ?_) AllReadyH.nil
          go_simp
          go_at_call 61
          refine (hro _ hHeld).mono ?_
          rintro e w3 ⟨rfl, q, rfl⟩
          have HS3 := Lib.hid (HSD.out.next (below_drewN (Below.refl _ _) q))
          have hS3 := at4_of HS3.out.bd.all HG4.out
          go_wp2_with fail
          refine hK.out _ _ (hS3) (fun hHeld => ?_)
          clear hK K
          try simp only [Act.put, List.setIfInBounds_toArray, List.set_cons_zero, List.set_cons_succ]
          refine wpAnyH_take (i := 21) (oi := ⟨some 87, _, _, _, _, _⟩) (v := ?_) rfl (by kernel_rfl) (by kernel_rfl) (by kernel_rfl) (fun _ _ _ h => h) (Or.inl ⟨by rfl, ?_⟩) (by assumption) ?_
          rotate_left
          · (intro w hSw; (try dsimp only at hSw); go_simp; try (with_reducible rfl))
          try simp only [Act.put, List.setIfInBounds_toArray, List.set_cons_zero, List.set_cons_succ]
          refine wpAnyH_ready (rs := [22]) (by kernel_rfl) (by simp) ?_
          refine AllReadyH.cons (o := ⟨some 88, _, _, _, _, _⟩) rfl (fun K hK => ?_) AllReadyH.nil
          go_simp
          have HS4 := Lib.hid (HS3.out.next (bl _ (.cells #[.int .i64 (p1 : Int), .int .i64 (p2 : Int), .int .i64 rr, .int .i64 sm.n, .int .i64 sm.v] 61)))
          have hS4 := at4_of HS4.out.bd.all HG4.out
          refine hK.out _ _ (hS4) (fun hHeld => ?_)
          clear hK K
          try simp only [Act.put, List.setIfInBounds_toArray, List.set_cons_zero, List.set_cons_succ]
          refine wpAnyH_ready (rs := [23]) (by kernel_rfl) (by simp) ?_
          refine AllReadyH.cons (o := ⟨some 89, _, _, _, _, _⟩) rfl (fun K hK => ?_) AllReadyH.nil
          refine step_append_lies _ (by rfl) _ _ _ (by rfl) (ga + 1) 61 i7 _ 5 40 (by kernel_rfl) hi7 hy0 hy1 hy2 rfl (by omega) (.slice Av i cv) i (sqs ((blocksL W H Z).take i)) (by rfl) HS4.out.own _ 1 1 [.int .i64 (p1 : Int), .int .i64 (p2 : Int), .int .i64 rr, .int .i64 sm.n, .int .i64 sm.v] (by rfl) (by rfl) ((new_rd _ 61 [.int .i64 (p1 : Int), .int .i64 (p2 : Int), .int .i64 rr, .int .i64 sm.n, .int .i64 sm.v]).news _ rfl) (by simp [Value.oneCell']) (by omega) (by simp only [maxLen]; omega) (by omega) (by have := HS4.out.bd.all.lt; omega) _ rfl ?_
          intro gg cc w6 hown hgrow hat hlt'
          have HS6 := Lib.hid (HS4.out.more ⟨(p1 : Int), (p2 : Int), rr, sm.n, sm.v⟩ hgrow hown)
          have hS6 := at4_of HS6.out.bd.all HG4.out
          refine hK.out _ _ (hS6) (fun hHeld => ?_)
          clear hK K
          try simp only [Act.put, List.setIfInBounds_toArray, List.set_cons_zero, List.set_cons_succ]
          refine wpAnyH_take (i := 24) (oi := ⟨some 10, _, _, _, _, _⟩) (v := ?_) rfl (by kernel_rfl) (by kernel_rfl) (by kernel_rfl) (fun _ _ _ h => h) (Or.inl ⟨by rfl, ?_⟩) (by assumption) ?_
          rotate_left
          · (intro w hSw; (try dsimp only at hSw); go_simp; try (with_reducible rfl))
          try simp only [Act.put, List.setIfInBounds_toArray, List.set_cons_zero, List.set_cons_succ]
          refine wpAnyH_done (by kernel_rfl) ?_ _
          clear hown hgrow hat hlt' hS6 hS4 hS3 hHeld hS0
          rw [← hsq.out, ← hbl.out] at HS6
          go_wp2_with fail
          go_roundw
          case rel => exact ⟨i + 1, _, by go_num, by omega, rfl, HS6.out⟩
          case measure => simp [intOf]; omega
        · have di : decide (i < m) = false := decide_eq_false hi
          have him : i = m := by omega
          subst i
          have hl : (blocksL W H Z).take m = blocksL W H Z := List.take_of_length_le (by unfold blocksL; rw [List.length_map, List.length_range, HM.out, HA.out, HBB.out]; exact Nat.le_refl _)
          have hS := HS.out
          rw [hl] at hS
          have HS1 := Lib.hid hS
          clear hS hl HS hi hi0
          go_wp2_with fail
          go_ret2
          unfold GotD
          refine ⟨HS1.out.bd.b, _, rfl, ?_⟩
          rw [← HA.out, ← HBB.out, ← HM.out]
          exact own_down HS1.out.own (by have := HS1.out.bd.h1; omega)
end Sur
end Go.Proofs.Ytmiplljcnchjkaa
