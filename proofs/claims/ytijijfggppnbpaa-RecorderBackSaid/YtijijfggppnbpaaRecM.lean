/-
  The walks of what the laws of layer 30 make: good, made.
-/
import Derived.Test.YtijijfggppnbpaaRecY
namespace Go.Proofs.Ytijijfggppnbpaa
open Go.RowKit
set_option linter.unusedVariables false
namespace Rec
open Frm Txt
def goodB (f : Fr) : Bool := codeF f == 0
/-- those that can be bytes -/
def goods (fs : List Fr) : List Fr := fs.filter goodB
theorem goods_take (fs : List Fr) (i : Nat) (h : i < fs.length) : goods (fs.take (i + 1)) = goods (fs.take i) ++ (if codeF fs[i] = 0 then [fs[i]] else []) := by
  unfold goods
  rw [List.take_succ_eq_append_getElem h, List.filter_append]
  congr 1
  unfold goodB
  by_cases h0 : codeF fs[i] = 0
  · simp [h0]
  · simp [h0]
theorem goods_len (fs : List Fr) : (goods fs).length ≤ fs.length := List.length_filter_le _ _
theorem fr_elem {w : World} {lo hi b off : Nat} {fs : List Fr} (h : RdL w lo hi (some ⟨b, off, none⟩) (frs fs)) {i : Nat} (hi' : i < fs.length) :
    w.cell? ⟨b, off + i * 6, none⟩ = some (.int .i64 fs[i].k) ∧ w.cell? ⟨b, off + i * 6 + 1, none⟩ = some (.int .u16 (fs[i].q : Int)) ∧ w.cell? ⟨b, off + i * 6 + 2, none⟩ = some (.int .u32 (fs[i].t : Int)) ∧ w.cell? ⟨b, off + i * 6 + 3, none⟩ = some (.int .i32 fs[i].a) ∧ w.cell? ⟨b, off + i * 6 + 4, none⟩ = some (.int .i32 fs[i].b) ∧ w.cell? ⟨b, off + i * 6 + 5, none⟩ = some (.int .i32 fs[i].c) := by
  have he := RdL.elem Fr.cells 6 (fun _ => rfl) h hi'
  exact ⟨he 0 _ (by decide) rfl, he 1 _ (by decide) rfl, he 2 _ (by decide) rfl, he 3 _ (by decide) rfl, he 4 _ (by decide) rfl, he 5 _ (by decide) rfl⟩
set_option maxRecDepth 100000 in
set_option maxHeartbeats 1000000 in
theorem good_any (A : Option Addr) (fs : List Fr) (m cap lo hi : Nat) (w : World) (h : RdL w lo hi A (frs fs)) (hhi : hi ≤ w.heap.size) (hm : fs.length = m) (hm2 : m ≤ 1000) (hok : ∀ f ∈ fs, f.Ok) :
    Calls Try.prog 43 #[.slice A m cap] w fun e w' => (∃ v, e = .returned v ∧ w'.ownsRow w.heap.size 25 6 v (goods fs).length (frs (goods fs))) ∧ Below w.heap.size w w' := by
  have HH := Lib.hid hhi
  have HM := Lib.hid hm
  have HOK := Lib.hid hok
  have HRD := Lib.hid h
  clear h hhi hm hok
  go_enter Try.func43, Try.ntmps43
  go_wp2
  go_loopw [3, 4] (fun s3 s4 wr => ∃ i : Nat, s4 = .int .i64 (i : Int) ∧ i ≤ m ∧ wr.ownsRow w.heap.size 25 6 s3 (goods (fs.take i)).length (frs (goods (fs.take i))) ∧ Below w.heap.size w wr ∧ RdL wr lo hi A (frs fs)) (fun _ s4 _ => m - (intOf s4).toNat)
  case atStart => exact ⟨0, rfl, by omega, World.ownsRow_nil _ _ _ _, Below.refl _ _, HRD.out⟩
  case round =>
    obtain ⟨i, rfl, hi0, hO, hK, hR⟩ := hrel
    have HO := Lib.hid hO
    have HK := Lib.hid hK
    have HR := Lib.hid hR
    clear hO hK hR
    by_cases hlt : i < m
    · have dlt : decide (i < m) = true := decide_eq_true hlt
      have hil : i < fs.length := by rw [HM.out]; exact hlt
      obtain ⟨b, off, rfl, _, _, _, _⟩ := HR.out.some (by rw [frs_len]; omega)
      have hel := fr_elem HR.out hil
      have hgt := goods_take fs i hil
      obtain ⟨f, hf⟩ : ∃ f, f = fs[i] := ⟨_, rfl⟩
      rw [← hf] at hel hgt
      have hp := Frm.yfput_any f (by rw [hf]; exact HOK.out _ (List.getElem_mem _)) wr
      obtain ⟨cd, hcd⟩ : ∃ cd, cd = codeF f := ⟨_, rfl⟩
      rw [← hcd] at hgt
      have HCD := Lib.hid hcd
      have HGT := Lib.hid hgt
      have HFI : Hid (∀ X, RdL X lo hi (some ⟨b, off, none⟩) (frs fs) → X.cell? ⟨b, off + i * 6, none⟩ = some (.int .i64 f.k) ∧ X.cell? ⟨b, off + i * 6 + 1, none⟩ = some (.int .u16 (f.q : Int)) ∧ X.cell? ⟨b, off + i * 6 + 2, none⟩ = some (.int .u32 (f.t : Int)) ∧ X.cell? ⟨b, off + i * 6 + 3, none⟩ = some (.int .i32 f.a) ∧ X.cell? ⟨b, off + i * 6 + 4, none⟩ = some (.int .i32 f.b) ∧ X.cell? ⟨b, off + i * 6 + 5, none⟩ = some (.int .i32 f.c)) := Lib.hid (fun X hX => by rw [hf]; exact fr_elem hX hil)
      have hgl := goods_len (fs.take i)
      have htl : (fs.take i).length ≤ i := List.length_take_le _ _
      obtain ⟨x1, x2, x3, x4, x5, x6⟩ := f
      have hp' := hp
      unfold Fr.v Fr.cells at hp'
      obtain ⟨e0, e1, e2, e3, e4, e5⟩ := hel
      have i0 : (0 : Int) ≤ (i : Int) := by omega
      have i1 : (i : Int) < (m : Int) := by omega
      have hsz := HK.out.size
      clear hp hf hcd hgt hil
      obtain ⟨q, hq⟩ : ∃ q, q = (goods (fs.take i)).length := ⟨_, rfl⟩
      have hq1 : q ≤ 1000 := by omega
      clear hgl htl
      dsimp only at e0 e1 e2 e3 e4 e5
      go_wp2_with fail
      refine hp'.mono ?_
      rintro e w1 ⟨⟨v, rfl, _, _⟩, hb⟩
      rw [← HCD.out]
      have HO1 := Lib.hid (own_next HO.out hb)
      have HK1 := Lib.hid (bt HK.out hb)
      have HR1 := Lib.hid (HR.out.next hb)
      clear hb hp' e0 e1 e2 e3 e4 e5 HO HK HR
      by_cases h0 : cd = 0
      · subst h0
        obtain ⟨e0, e1, e2, e3, e4, e5⟩ := HFI.out w1 HR1.out
        have HB := Lib.hid (Blk.mk w1 25 (Fr.cells ⟨x1, x2, x3, x4, x5, x6⟩))
        have HO2 := Lib.hid (own_next HO1.out (bl w1 (.cells (Fr.cells ⟨x1, x2, x3, x4, x5, x6⟩).toArray 25)))
        have HK2 := Lib.hid (bt HK1.out (bl w1 (.cells (Fr.cells ⟨x1, x2, x3, x4, x5, x6⟩).toArray 25)))
        have HR2 := Lib.hid (HR1.out.next (bl w1 (.cells (Fr.cells ⟨x1, x2, x3, x4, x5, x6⟩).toArray 25)))
        have HG2 : Hid (goods (fs.take (i + 1)) = goods (fs.take i) ++ [⟨x1, x2, x3, x4, x5, x6⟩]) := Lib.hid (by rw [HGT.out, if_pos rfl])
        have hs1 := HK1.out.size
        have HQ := Lib.hid hq
        clear hq
        go_wp2_with (at_builtin; refine app_frame HO2.out rfl (.tmp 23) (.tmp 28) rfl rfl w1.heap.size rfl HB.out (by have := HQ.out; omega) (by simp; omega) ?_; intro v2 w2 hown2 hgrow2 _; have HO3 := Lib.hid hown2; have HK3 := Lib.hid (HK2.out.grown hgrow2 HK2.out.size (fun k hk => (own_lt HO2.out hk).1)); have HR3 := Lib.hid (HR2.out.grown hgrow2 (fun g hg => .inr (Nat.le_trans HH.out (own_lt HO2.out hg).1))); clear hown2 hgrow2)
        go_roundw
        case rel => exact ⟨i + 1, by go_num, by omega, by rw [HG2.out]; exact HO3.out, HK3.out, HR3.out⟩
        case measure => simp [intOf]; omega
      · have d0 : (cd == 0) = false := by rw [beq_eq_false_iff_ne]; exact h0
        have HG2 : Hid (goods (fs.take (i + 1)) = goods (fs.take i)) := Lib.hid (by rw [HGT.out, if_neg h0, List.append_nil])
        clear h0
        go_wp2_with fail
        go_roundw
        case rel => exact ⟨i + 1, by go_num, by omega, by rw [HG2.out]; exact HO1.out, HK1.out, HR1.out⟩
        case measure => simp [intOf]; omega
    · have dlt : decide (i < m) = false := decide_eq_false hlt
      obtain rfl : m = i := by omega
      have HF : Hid (fs.take m = fs) := Lib.hid (List.take_of_length_le (by rw [HM.out]; exact Nat.le_refl _))
      go_wp2_with fail
      go_ret
      exact ⟨⟨_, rfl, by have := HO.out; rw [HF.out] at this; exact this⟩, HK.out⟩
/-- the ring, and the next number, behind frames that can be bytes -/
def st (k : Nat) (m : List Fr) : List UInt8 × Nat := m.foldl (fun s f => (putB s.1 (s.2 % k) (cellL s.2 f), s.2 + 1)) (List.replicate (40 * k) 0, 1)
theorem st_snoc (k : Nat) (m : List Fr) (f : Fr) : st k (m ++ [f]) = (putB (st k m).1 ((st k m).2 % k) (cellL (st k m).2 f), (st k m).2 + 1) := by
  unfold st
  rw [List.foldl_append]
  rfl
theorem st_next (k : Nat) (m : List Fr) : (st k m).2 = m.length + 1 := by
  have : ∀ (m : List Fr) (s : List UInt8 × Nat), (m.foldl (fun s f => (putB s.1 (s.2 % k) (cellL s.2 f), s.2 + 1)) s).2 = s.2 + m.length := by
    intro m
    induction m with
    | nil => intro s; rfl
    | cons f m ih => intro s; rw [List.foldl_cons, ih, List.length_cons]; show s.2 + 1 + m.length = _; omega
  unfold st
  rw [this]
  show 1 + m.length = _
  omega
/-- frames that can be bytes -/
def AllGood (m : List Fr) : Prop := ∀ f ∈ m, f.Ok ∧ codeF f = 0
theorem goods_good {fs : List Fr} (h : ∀ f ∈ fs, f.Ok) : AllGood (goods fs) := fun f hf => by
  unfold goods at hf
  obtain ⟨h1, h2⟩ := List.mem_filter.1 hf
  unfold goodB at h2
  exact ⟨h f h1, by simpa using h2⟩
theorem st_len {k : Nat} (hk : 1 ≤ k) : ∀ {m : List Fr}, AllGood m → (st k m).1.length = 40 * k := by
  have : ∀ (m : List Fr) (s : List UInt8 × Nat), AllGood m → s.1.length = 40 * k → (m.foldl (fun s f => (putB s.1 (s.2 % k) (cellL s.2 f), s.2 + 1)) s).1.length = 40 * k := by
    intro m
    induction m with
    | nil => intro s _ hs; exact hs
    | cons f m ih =>
      intro s hg hs
      rw [List.foldl_cons]
      obtain ⟨hf, h0⟩ := hg f (by simp)
      exact ih _ (fun g hg' => hg g (by simp [hg'])) (putB_len hs (Nat.mod_lt _ hk) (cellL_len hf h0))
  intro m hg
  exact this m _ hg (by simp)
theorem _root_.Go.Proofs.Ytijijfggppnbpaa.Keeps2.below {B : Nat} {w0 w w' : World} {g r : Nat} (h : Below B w0 w) (hk : Keeps2 w w' g (some r)) (hg : B ≤ g) (hr : B ≤ r) (hB : B ≤ w.heap.size) : Below B w0 w' :=
  ⟨hk.os.trans h.os, hk.tape.trans h.tape, hk.output.trans h.output, Nat.le_trans h.size hk.size, fun i hi => by
    exact (hk.block i (by omega) (by omega) (fun e => by have := Option.some.inj e; omega)).trans (h.block i hi)⟩
/-- what Add hands back, of a ring in which frames stand -/
def GotAS (w : World) (gr gb cap k : Nat) (m : List Fr) (f : Fr) (e : Ending) (w' : World) : Prop :=
  ∃ v c, e = .returned (.tuple #[.int .u64 v, .int .i64 c]) ∧ RB w' gr gb cap (st k (m ++ if codeF f = 0 then [f] else [])).1 (st k (m ++ if codeF f = 0 then [f] else [])).2 ∧ Keeps2 w w' gr (some gb) ∧
    ((codeF f = 0 ∧ v = ((m.length + 1 : Nat) : Int) ∧ c = 0) ∨ (codeF f ≠ 0 ∧ v = 0 ∧ c = codeF f))
theorem add_st {w : World} {gr gb cap k : Nat} {m : List Fr} (f : Fr) (hf : f.Ok) (S : RB w gr gb cap (st k m).1 (st k m).2) (hg : AllGood m) (hk1 : 1 ≤ k) (hk2 : k ≤ 1024) (hm : m.length ≤ 1000000) :
    Calls Try.prog 65 #[.pointer (some ⟨gr, 0, none⟩), f.v] w (GotAS w gr gb cap k m f) := by
  refine (add_any f hf S (st_len hk1 hg) hk1 hk2 (by rw [st_next]; omega)).mono ?_
  rintro e w' (⟨h0, rfl, hS, hK⟩ | ⟨h0, rfl, hS, hK⟩)
  · exact ⟨0, codeF f, rfl, by rw [if_neg h0, List.append_nil]; exact hS, hK, .inr ⟨h0, rfl, rfl⟩⟩
  · refine ⟨_, 0, rfl, ?_, hK, .inl ⟨h0, by rw [st_next], rfl⟩⟩
    rw [if_pos h0, st_snoc]
    exact hS
/-- what made hands back -/
def GotMade (w : World) (k : Nat) (m : List Fr) (e : Ending) (w' : World) : Prop :=
  ∃ gr gb cap, e = .returned (.tuple #[.pointer (some ⟨gr, 0, none⟩), .int .i64 (k : Int)]) ∧ RB w' gr gb cap (st k m).1 (st k m).2 ∧ w.heap.size ≤ gr ∧ w.heap.size ≤ gb ∧ Below w.heap.size w w'
def madeK (c : Nat) : Nat := 1 + c % 20
set_option maxRecDepth 100000 in
set_option maxHeartbeats 1000000 in
theorem made_any (c : Nat) (hc : c < 256) (A : Option Addr) (fs : List Fr) (m cap lo hi : Nat) (w : World) (h : RdL w lo hi A (frs fs)) (hhi : hi ≤ w.heap.size) (hm : fs.length = m) (hm2 : m ≤ 1000) (hok : ∀ f ∈ fs, f.Ok) :
    Calls Try.prog 42 #[.int .u8 (c : Int), .slice A m cap] w (GotMade w (madeK c) (goods fs)) := by
  obtain ⟨k, hk⟩ : ∃ k, k = madeK c := ⟨_, rfl⟩
  have hk1 : 1 ≤ k := by rw [hk]; unfold madeK; omega
  have hk2 : k ≤ 20 := by rw [hk]; unfold madeK; omega
  have t20 : (c : Int).tmod 20 = ((c % 20 : Nat) : Int) := by rw [Int.tmod_eq_emod_of_nonneg (by omega)]; rfl
  obtain ⟨q, hq⟩ : ∃ q, q = c % 20 := ⟨_, rfl⟩
  have hkq : k = 1 + q := by rw [hk, hq]; rfl
  rw [← hq] at t20
  have wc : IntKind.i64.wrap (c : Int) = (c : Int) := IntWalk.i64_in _ (by omega)
  have wq : IntKind.i64.wrap (q : Int) = (q : Int) := IntWalk.i64_in _ (by omega)
  have wk : IntKind.i64.wrap (1 + (q : Int)) = (k : Int) := by rw [IntWalk.i64_in _ (by omega)]; omega
  have wk2 : 1 + (q : Int) = (k : Int) := by omega
  rw [← hk]
  have hnew := new_ok hk1 (by omega) w
  have HH := Lib.hid hhi
  have HM := Lib.hid hm
  have HOK := Lib.hid hok
  have HRD := Lib.hid h
  clear h hhi hm hok hk hq hkq
  go_enter Try.func42, Try.ntmps42
  go_wp2_with fail
  refine hnew.mono ?_
  rintro e w1 ⟨gr, gb, cb, rfl, hRB, hg1, hg2, hb⟩
  have HRB := Lib.hid hRB
  have HKP := Lib.hid hb
  have HRD1 := Lib.hid (HRD.out.next hb)
  have HG1 := Lib.hid hg1
  have HG2 := Lib.hid hg2
  clear hRB hb hg1 hg2 hnew HRD t20 wc wq wk wk2
  go_wp2_with fail
  go_loopw [9] (fun s9 wr => ∃ i : Nat, s9 = .int .i64 (i : Int) ∧ i ≤ m ∧ RB wr gr gb cb (st k (goods (fs.take i))).1 (st k (goods (fs.take i))).2 ∧ Below w.heap.size w wr ∧ RdL wr lo hi A (frs fs)) (fun s9 _ => m - (intOf s9).toNat)
  case atStart => exact ⟨0, rfl, by omega, HRB.out, HKP.out, HRD1.out⟩
  case round =>
    obtain ⟨i, rfl, hi0, hS, hK, hR⟩ := hrel
    have HS := Lib.hid hS
    have HK := Lib.hid hK
    have HR := Lib.hid hR
    clear hS hK hR
    by_cases hlt : i < m
    · have dlt : decide (i < m) = true := decide_eq_true hlt
      have hil : i < fs.length := by rw [HM.out]; exact hlt
      obtain ⟨b, off, rfl, hlb, hbh, _, _⟩ := HR.out.some (by rw [frs_len]; omega)
      have hel := fr_elem HR.out hil
      have hgt := goods_take fs i hil
      have hgl := goods_len (fs.take i)
      have htl : (fs.take i).length ≤ i := List.length_take_le _ _
      have hgood : AllGood (goods (fs.take i)) := goods_good (fun f hf => HOK.out f (List.mem_of_mem_take hf))
      have hsl := st_len hk1 hgood
      have hsn := st_next k (goods (fs.take i))
      obtain ⟨f, hf⟩ : ∃ f, f = fs[i] := ⟨_, rfl⟩
      rw [← hf] at hel hgt
      have hadd := add_st f (by rw [hf]; exact HOK.out _ (List.getElem_mem _)) HS.out hgood hk1 (by omega) (by omega)
      unfold GotAS at hadd
      rw [← hgt] at hadd
      have HGT := Lib.hid hgt
      have hgsz := HG1.out
      obtain ⟨x1, x2, x3, x4, x5, x6⟩ := f
      unfold Fr.v Fr.cells at hadd
      obtain ⟨e0, e1, e2, e3, e4, e5⟩ := hel
      have i0 : (0 : Int) ≤ (i : Int) := by omega
      have i1 : (i : Int) < (m : Int) := by omega
      clear hf hgt hil hgl htl hgood hsl hsn
      dsimp only at e0 e1 e2 e3 e4 e5
      go_wp2_with fail
      refine hadd.mono ?_
      rintro e w2 ⟨v, cc, rfl, hS2, hK2, _⟩
      have HS2 := Lib.hid hS2
      have HK3 := Lib.hid (Keeps2.below HK.out hK2 HG1.out HG2.out HK.out.size)
      have HR2 := Lib.hid (HR.out.keep hK2.size fun b' h1 h2 h3 => hK2.block b' h3 (by have := HH.out; have := HG1.out; omega) (fun e => by have := Option.some.inj e; have := HH.out; have := HG2.out; omega))
      clear hS2 hK2 hadd e0 e1 e2 e3 e4 e5
      go_wp2_with fail
      go_roundw
      case rel => exact ⟨i + 1, by go_num, by omega, HS2.out, HK3.out, HR2.out⟩
      case measure => simp [intOf]; omega
    · have dlt : decide (i < m) = false := decide_eq_false hlt
      obtain rfl : m = i := by omega
      have HF : Hid (fs.take m = fs) := Lib.hid (List.take_of_length_le (by rw [HM.out]; exact Nat.le_refl _))
      go_wp2_with fail
      go_ret2
      exact ⟨gr, gb, cb, rfl, by have := HS.out; rw [HF.out] at this; exact this, HG1.out, HG2.out, HK.out⟩
end Rec
end Go.Proofs.Ytijijfggppnbpaa
