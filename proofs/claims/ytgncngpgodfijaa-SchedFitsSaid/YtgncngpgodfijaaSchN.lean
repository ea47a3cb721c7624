/-
  The walk of sched.New: tasks are laid.
-/
import Derived.Test.YtgncngpgodfijaaSchW7
namespace Go.Proofs.Ytgncngpgodfijaa
open Go.RowKit
set_option linter.unusedVariables false
namespace Sch

theorem ti_flat (T : List Tk) : (T.map ti).flatMap tic = T.flatMap tkc := by
  induction T with
  | nil => rfl
  | cons t T ih => rw [List.map_cons, List.flatMap_cons, List.flatMap_cons, ih]; rfl
theorem code_ok {T : List Tk} {room : Nat} (hok : ∀ t ∈ T, okK t) (h64 : T.length ≤ 64) (hr : 1 ≤ room ∧ room ≤ 1048576) : code (T.map ti) (room : Int) = 0 := by
  unfold code
  rw [if_neg (by rw [List.length_map]; omega), if_neg (by omega)]
  refine codeL_none _ fun i hi => ?_
  rw [List.length_map] at hi
  rw [List.getElem_map]
  obtain ⟨hp, h1, h2⟩ := hok T[i] (List.getElem_mem hi)
  unfold pw at hp
  exact codeT_0 (by dsimp only [ti]; omega) (by dsimp only [ti]; omega)
theorem codeT_open {t : Ti} (h : codeT t = 0) : ∃ k : Tk, t = ti k ∧ okK k := by
  obtain ⟨p, c⟩ := t
  unfold codeT at h
  split at h
  · split at h
    · rename_i h1 h2
      dsimp only at h1 h2
      refine ⟨⟨p.toNat, c.toNat⟩, ?_, ?_, ?_⟩
      · unfold ti
        dsimp only
        rw [Int.toNat_of_nonneg (by omega), Int.toNat_of_nonneg (by omega)]
      · unfold pw
        dsimp only
        omega
      · dsimp only
        omega
    · cases h
  · cases h
theorem codeL_open {L : List Ti} (h : codeL L = 0) : ∃ T : List Tk, L = T.map ti ∧ ∀ t ∈ T, okK t := by
  induction L with
  | nil => exact ⟨[], rfl, fun t h => by cases h⟩
  | cons a L ih =>
    unfold codeL at h
    split at h
    · rename_i h0
      obtain ⟨k, rfl, hk⟩ := codeT_open h0
      obtain ⟨T, rfl, hT⟩ := ih h
      exact ⟨k :: T, rfl, fun t ht => by
        rcases List.mem_cons.1 ht with e | ht
        · rw [e]; exact hk
        · exact hT _ ht⟩
    · rename_i h0
      exact absurd h h0
theorem code_open {L : List Ti} {room : Int} (h : code L room = 0) : ∃ (T : List Tk) (r : Nat), L = T.map ti ∧ room = (r : Int) ∧ (∀ t ∈ T, okK t) ∧ T.length ≤ 64 ∧ 1 ≤ r ∧ r ≤ 1048576 := by
  unfold code at h
  split at h
  · cases h
  · split at h
    · cases h
    · rename_i h1 h2
      obtain ⟨T, rfl, hT⟩ := codeL_open h
      rw [List.length_map] at h1
      exact ⟨T, room.toNat, rfl, by omega, hT, by omega, by omega, by omega⟩
def GotNew (w : World) (T : List Tk) (room : Nat) (e : Ending) (w' : World) : Prop :=
  (match phases T room with
  | some ms => ∃ g vt vp, e = .returned (.tuple #[.pointer (some ⟨g, 0, none⟩), .int .i64 0]) ∧ w.heap.size ≤ g ∧ PB w' g vt vp T ms room
  | none => e = .returned (.tuple #[.pointer none, .int .i64 6])) ∧ Below w.heap.size w w'
set_option maxRecDepth 100000 in
set_option maxHeartbeats 1000000 in
theorem snew_bad (A : Option Addr) (L : List Ti) (n cap lo hi : Nat) (room : Int) (w : World) (hrd : RdL w lo hi A (L.flatMap tic)) (hhi : hi ≤ w.heap.size) (hl : L.length = n) (hn : n ≤ maxLen) (x : Int) (hx0 : code L room = x) (hc : x ≠ 0) :
    Calls Try.prog 34 #[.slice A n cap, .int .i64 room] w fun e w' => e = .returned (.tuple #[.pointer none, .int .i64 x]) ∧ Below w.heap.size w w' := by
  go_enter Try.func34, Try.ntmps34
  go_wp2_with fail
  refine (scheck_any A L n cap lo hi room w hrd hhi hl hn).mono ?_
  rw [hx0]
  rintro e w2 ⟨rfl, hb2⟩
  clear hrd hhi hl hn hx0
  have hx : (x != 0) = true := by rw [bne_iff_ne]; exact hc
  clear hc
  go_wp2
  go_ret2
  exact ⟨rfl, hb2⟩
set_option maxRecDepth 100000 in
set_option maxHeartbeats 1000000 in
theorem snew_ok (A : Option Addr) (T : List Tk) (n cap lo hi room : Nat) (w : World) (hT : RdL w lo hi A (T.flatMap tkc)) (hhi : hi ≤ w.heap.size) (hl : T.length = n) (hn : n ≤ 64) (hok : ∀ t ∈ T, okK t) (hroom : 1 ≤ room ∧ room ≤ 1048576) :
    Calls Try.prog 34 #[.slice A n cap, .int .i64 (room : Int)] w (GotNew w T room) := by
  have HT := Lib.hid hT
  have Hhi := Lib.hid hhi
  have Hl := Lib.hid hl
  have Hok := Lib.hid hok
  have Hroom := Lib.hid hroom
  clear hT hhi hl hok hroom
  have hzv : ∀ w, (zeroValue 107).run Try.prog w = .ok (.agg (pcells (.slice none 0 0) (.slice none 0 0) (load [] []) 0).toArray) w := fun _ => by kernel_rfl
  have hpl : (pcells (.slice none 0 0) (.slice none 0 0) (load [] []) 0).length = 67 := rfl
  have hps : (pcells (.slice none 0 0) (.slice none 0 0) (load [] []) 0).set 66 (.int .i64 (room : Int)) = pcells (.slice none 0 0) (.slice none 0 0) (load [] []) room := rfl
  go_enter Try.func34, Try.ntmps34
  go_wp2_with fail
  refine (scheck_any A (T.map ti) n cap lo hi (room : Int) w (by rw [ti_flat]; exact HT.out) Hhi.out (by rw [List.length_map]; exact Hl.out) (by unfold maxLen; omega)).mono ?_
  rw [code_ok Hok.out (by rw [Hl.out]; exact hn) Hroom.out]
  rintro e w2 ⟨rfl, hb2⟩
  have Hb2 := Lib.hid hb2
  clear hb2
  go_wp2
  have hpb : PB (w2.alloc (.cells (pcells (.slice none 0 0) (.slice none 0 0) (load [] []) room).toArray 107)) w2.heap.size (.slice none 0 0) (.slice none 0 0) [] [] room :=
    ⟨Blk.mk w2 107 _, World.ownsRow_nil _ _ _ _, World.ownsRow_nil _ _ _ _, by simp [Apart, Value.ownBlock]⟩
  have hwb := Hb2.out.alloc Hb2.out.size (.cells (pcells (.slice none 0 0) (.slice none 0 0) (load [] []) room).toArray 107)
  have hg : w.heap.size ≤ w2.heap.size := Hb2.out.size
  generalize w2.alloc (.cells (pcells (.slice none 0 0) (.slice none 0 0) (load [] []) room).toArray 107) = wa at *
  generalize w2.heap.size = g at *
  have Hpb := Lib.hid hpb
  have Hwb := Lib.hid hwb
  clear hpb hwb Hb2 hzv hpl hps
  go_loopw [9, 21] (fun _ i wr => ∃ (j : Nat) (vt vp : Value) (ks : List Nat), j ≤ n ∧ i = .int .i64 (j : Int) ∧ ks.length = j ∧ PB wr g vt vp (T.take j) ks room ∧ lay room (T.take j) ks (T.drop j) = phases T room ∧ Below w.heap.size w wr) (fun _ i _ => n - (intOf i).toNat)
  case atStart => exact ⟨0, _, _, [], by omega, rfl, rfl, Hpb.out, rfl, Hwb.out⟩
  case round =>
    clear Hpb Hwb
    obtain ⟨j, vt, vp, ks, hj, rfl, hks, hpb, hlay, hb⟩ := hrel
    have Hks := Lib.hid hks
    have Hpb := Lib.hid hpb
    have Hlay := Lib.hid hlay
    have Hb := Lib.hid hb
    have hszb := hb.size
    clear hks hpb hlay hb
    by_cases hlt : j < n
    · have hjl : j < T.length := by rw [Hl.out]; exact hlt
      have hT1 := HT.out.below Hb.out (.inl Hhi.out)
      obtain ⟨b, off, rfl, _, _, hbs, _⟩ := hT1.some (by rw [flatMap_len tkc 2 tkc_len]; omega)
      have hc := hT1.elem tkc 2 tkc_len hjl
      have c0 : wr.cell? ⟨b, off + j * 2, none⟩ = some (.int .i64 (T[j].p : Int)) := hc 0 _ (by decide) rfl
      have c1 : wr.cell? ⟨b, off + j * 2 + 1, none⟩ = some (.int .i64 (T[j].c : Int)) := hc 1 _ (by decide) rfl
      have htk := List.take_succ_eq_append_getElem hjl
      have hdr := List.drop_eq_getElem_cons hjl
      have htl : (T.take j).length = j := by rw [List.length_take]; omega
      have hld : ∀ a, load (T.take j) ks a ≤ 100000 := fun a => Nat.le_trans (load_le _ _ _ (fun t ht => Hok.out t (List.mem_of_mem_take ht))) (by rw [htl]; omega)
      have hokj := Hok.out T[j] (List.getElem_mem hjl)
      have hlay := Hlay.out
      rw [hdr] at hlay
      unfold lay at hlay
      clear hc Hlay hdr hT1
      generalize T[j] = t at *
      have Htk := Lib.hid htk
      have Hlay := Lib.hid hlay
      have Htl := Lib.hid htl
      have Hld := Lib.hid hld
      obtain ⟨p, c⟩ := t
      dsimp only at c0 c1
      have i1 : (j : Int) < (n : Int) := by omega
      have Hokj := Lib.hid hokj
      have hpb2 := Hpb.out.next (bl wr (.cells #[.int .i64 (p : Int), .int .i64 (c : Int)] 72))
      have Hpb2 := Lib.hid hpb2
      have hb2 := Hb.out.alloc hszb (.cells #[.int .i64 (p : Int), .int .i64 (c : Int)] 72)
      have Hb2 := Lib.hid hb2
      have hsz2 := hb2.size
      clear htk hlay htl hld hokj hpb2 hb2
      go_wp2_with fail
      refine (sput_any g vt vp (T.take j) ks room p c _ Hpb2.out (by rw [Hks.out, Htl.out]) (by rw [Htl.out]; omega) Hokj.out Hroom.out.2 Hld.out).mono ?_
      rintro e w3 hgp
      unfold GotPut at hgp
      obtain ⟨hgp, hb3⟩ := hgp
      have hb4 := Hb2.out.trans (hb3.mono hg)
      have Hb4 := Lib.hid hb4
      clear hb3 hb4 c0 c1
      have hlay := Hlay.out
      dsimp only at hgp hlay
      by_cases hf : first (fits (T.take j) ks ⟨p, c⟩ room) p < p
      · rw [if_pos hf] at hgp hlay
        obtain ⟨rfl, vt', vp', hpb3⟩ := hgp
        have Hpb3 := Lib.hid hpb3
        have Hlay2 := Lib.hid hlay
        clear hpb3 hlay hf
        go_wp2
        go_roundw
        case rel => exact ⟨j + 1, vt', vp', ks ++ [first (fits (T.take j) ks ⟨p, c⟩ room) p], by omega, by go_num, by rw [List.length_append, Hks.out]; rfl, by rw [Htk.out]; exact Hpb3.out, by rw [Htk.out]; exact Hlay2.out, Hb4.out⟩
        case measure => simp [intOf]; omega
      · rw [if_neg hf] at hgp hlay
        subst hgp
        have Hlay2 := Lib.hid hlay
        clear hlay hf
        go_wp2
        go_ret2
        unfold GotNew
        rw [← Hlay2.out]
        exact ⟨rfl, Hb4.out⟩
    · obtain rfl : j = n := by omega
      have e1 : T.take j = T := List.take_of_length_le (by rw [Hl.out]; exact Nat.le_refl _)
      have e2 : T.drop j = [] := List.drop_eq_nil_of_le (by rw [Hl.out]; exact Nat.le_refl _)
      have hlay := Hlay.out
      rw [e1, e2] at hlay
      have hpb := Hpb.out
      rw [e1] at hpb
      have Hpb2 := Lib.hid hpb
      have Hlay2 := Lib.hid hlay
      clear hpb hlay e1 e2
      go_wp2
      go_ret2
      unfold GotNew
      rw [← Hlay2.out]
      exact ⟨⟨g, vt, vp, rfl, hg, Hpb2.out⟩, Hb.out⟩
end Sch
end Go.Proofs.Ytgncngpgodfijaa
