/-
  The walk of the document's Reach (package route).
-/
import Derived.Test.YtgncngpgodfijaaRouO
import Derived.Test.YtgncngpgodfijaaRouW5
import Derived.Test.YtgncngpgodfijaaRouU
import Derived.BigQuiet
namespace Go.Proofs.Ytgncngpgodfijaa
open Go.RowKit
set_option linter.unusedVariables false
namespace Rou
theorem own_cell_dd {w : World} {base g cap n : Nat} {e : TypeId} {L : List Int} (h : w.ownsRow base e 1 (.slice (some ⟨g, 0, none⟩) n cap) n (L.map iv)) {i : Nat} (hi : i < L.length) : w.cell? ⟨g, i, none⟩ = some (.int .i64 (dd L i)) := by
  obtain ⟨A, c, e1, hr, _, _, _⟩ := own_rd h
  injection e1 with e1
  subst e1
  obtain ⟨b', o', e, _, _, _, hc⟩ := hr.some (by rw [List.length_map]; omega)
  injection e with e
  injection e with e1 e2
  subst e1 e2
  have := hc i (iv L[i]) (by rw [List.getElem?_map, List.getElem?_eq_getElem hi]; rfl)
  rw [Nat.zero_add] at this
  rw [this]
  unfold dd
  rw [List.getD_eq_getElem?_getD, List.getElem?_eq_getElem hi]
  rfl
/-- the field's box, its costs, and what has been made behind it -/
structure UB (w : World) (W H : Nat) (A : Option Addr) (n cap lo hi : Nat) (C : List Int) (wr : World) : Prop where
  box : Blk wr w.heap.size 80 (fdc W H A n cap)
  rd : RdL wr lo hi A (C.map iv)
  keep : Below w.heap.size w wr
  sz : w.heap.size + 1 ≤ wr.heap.size
  hi : hi ≤ w.heap.size
section
variable {w wr w' : World} {W H n cap lo hi : Nat} {A : Option Addr} {C : List Int}
theorem UB.next (S : UB w W H A n cap lo hi C wr) (hb : Below wr.heap.size wr w') : UB w W H A n cap lo hi C w' := ⟨S.box.next hb, S.rd.next hb, bt S.keep hb, Nat.le_trans S.sz hb.size, S.hi⟩
theorem UB.drewN (S : UB w W H A n cap lo hi C wr) (q : Nat) : UB w W H A n cap lo hi C (wr.drewN q) := S.next (below_drewN (Below.refl _ _) q)
theorem UB.grown (S : UB w W H A n cap lo hi C wr) {r : Option Nat} (hg : wr.grownBy w' r) (hr : ∀ k, r = some k → w.heap.size + 1 ≤ k) : UB w W H A n cap lo hi C w' :=
  ⟨S.box.grown hg (fun e => by have := hr _ e.symm; omega), S.rd.grown hg (fun g e => by have := hr _ e; have := S.hi; omega), S.keep.grown hg S.keep.size (fun k hk => by have := hr _ hk; omega), Nat.le_trans S.sz hg.size, S.hi⟩
theorem UB.set (S : UB w W H A n cap lo hi C wr) {g : Nat} (hg : w.heap.size + 1 ≤ g) (i : Nat) (x : Value) : UB w W H A n cap lo hi C (wr.setCell ⟨g, i, none⟩ x) :=
  ⟨S.box.far (p := ⟨g, i, none⟩) (by show w.heap.size ≠ g; omega) _, S.rd.far (p := ⟨g, i, none⟩) (.inr (by have := S.hi; show hi ≤ g; omega)) _, S.keep.setCell (by show w.heap.size ≤ g; omega) _, by simpa using S.sz, S.hi⟩
end
/-- what the document's Reach hands back -/
def GotU (w : World) (W H : Nat) (C : List Int) (s : Nat) (e : Ending) (w' : World) : Prop :=
  ∃ v E, e = .returned v ∧ w'.ownsRow w.heap.size 2 1 v E.length (E.map iv) ∧ Fix W H C s E ∧ Below w.heap.size w w'
theorem wr0 {x : Nat} {c d r : Int} (hc : wrap64 c = d) (h1 : -2 ≤ d) (h2 : d ≤ 2) (hx : x ≤ 100) (hr : r = (x : Int) + d) : wrap64 ((x : Int) + wrap64 c) = r := by
  rw [hc, hr]
  unfold wrap64
  omega
set_option maxRecDepth 100000 in
set_option maxHeartbeats 2000000 in
theorem ureach_any {w : World} {W H cap s lo hi : Nat} {A : Option Addr} {C : List Int} (Hk : Ok W H C) (R : RdL w lo hi A (C.map iv)) (hhi : hi ≤ w.heap.size) (hs : s < W * H) :
    Calls Try.prog 55 #[.agg #[.int .i64 (W : Int), .int .i64 (H : Int), .slice A C.length cap], .int .i64 (s : Int)] w (GotU w W H C s) := by
  obtain ⟨j0, hj0, hy0, hy1, hy2⟩ := info_parts info64
  have hbig := Hk.big
  have HK := Lib.hid Hk
  obtain ⟨n, hn⟩ : ∃ n, n = C.length := ⟨_, rfl⟩
  have hnV : n = W * H := hn.trans Hk.len
  have hB := Blk.mk w 80 (fdc W H A n cap)
  have hS0 : UB w W H A n cap lo hi C (w.alloc (.cells (fdc W H A n cap).toArray 80)) := ⟨hB, R.alloc _, bl w _, by simp, hhi⟩
  rw [← hn]
  have HN := Lib.hid hn
  have HV := Lib.hid hnV
  have HS := Lib.hid hs
  have hn4 : n ≤ 4096 := by omega
  have HS0 := Lib.hid hS0
  clear R hhi hs hB hS0 hn hnV hbig Hk
  unfold fdc at HS0
  go_enter Try.func55, Try.ntmps55
  go_wp2
  go_loopw [5, 6] (fun v x wr => ∃ i : Nat, x = .int .i64 (i : Int) ∧ i ≤ n ∧ wr.ownsRow (w.heap.size + 1) 2 1 v i ((List.replicate i (-1 : Int)).map iv) ∧ UB w W H A n cap lo hi C wr) (fun _ x _ => n - (intOf x).toNat)
  case atStart => exact ⟨0, rfl, by omega, World.ownsRow_nil _ _ _ _, HS0.out⟩
  case round =>
    obtain ⟨i, rfl, hi1, hO, hU⟩ := hrel
    have q2 : wr.cell? ⟨w.heap.size, 2, none⟩ = some (.slice A n cap) := hU.box.cell 2
    have HO := Lib.hid hO
    have HU := Lib.hid hU
    clear hO hU
    by_cases hlt : i < n
    · have HU2 := Lib.hid (HU.out.next (bl wr (.cells #[Value.int .i64 (-1)] 2)))
      have hks := HU.out.sz
      have dlt : decide (i < n) = true := decide_eq_true hlt
      go_wp2_with (
        at_builtin
        refine wpList_append_mine ?_ (.tmp 23) (.tmp 24) 78 ?_ (w.heap.size + 1) 2 j0 (.int .i64 0) 1 8 Try.underlying78 hj0 hy0 hy1 hy2 ?_ ?_ _ i ((List.replicate i (-1 : Int)).map iv) ?_ (own_next HO.out (bl _ _)) (some ⟨wr.heap.size, 0, none⟩) 1 1 [.int .i64 (-1)] ?_ ?_ ?_ ?_ ?_ ?_ ?_ ?_ ?_
        · rfl
        · rfl
        · rfl
        · decide
        · rfl
        · rfl
        · rfl
        · intro h; cases h
        · intro ad h; injection h with h; subst h; exact cell_one_new _ _ _
        · simp [Value.oneCell']
        · unfold maxLen; omega
        · omega
        · simp; omega
        intro v3 w3 own3 grow3 hw3
        have HU3 := Lib.hid (HU2.out.grown grow3 (fun k hk => (own_lt HO.out hk).1))
        have HO3 := Lib.hid own3
        clear own3 grow3 hw3)
      go_roundw
      case rel => exact ⟨i + 1, by go_num, by omega, by rw [List.replicate_succ', List.map_append]; exact HO3.out, HU3.out⟩
      case measure => simp [intOf]; omega
    · have dlt : decide (i < n) = false := decide_eq_false hlt
      obtain rfl : n = i := by omega
      have hp : 0 < n := by have := HV.out; have := HK.out.big; omega
      have hn1 : 1 ≤ n := hp
      obtain ⟨g, c, rfl, hgw⟩ : ∃ g c, u5 = .slice (some (⟨g, 0, none⟩ : Addr)) n c ∧ w.heap.size + 1 ≤ g := by
        rcases HO.out.2 with ⟨_, h0⟩ | ⟨g, cap', cur, hv, hb, _⟩
        · omega
        · exact ⟨g, cap', hv, hb⟩
      have HE1 := Lib.hid (show wr.ownsRow (w.heap.size + 1) 2 1 (.slice (some ⟨g, 0, none⟩) n c) n ((List.replicate n (-1 : Int)).map iv) from HO.out)
      have HGW := Lib.hid hgw
      obtain ⟨b0, o0, rfl, _, _, _, hcC⟩ := HU.out.rd.some (by rw [List.length_map, ← HN.out]; exact hp)
      obtain ⟨x, hx⟩ : ∃ x, x = cs C s := ⟨_, rfl⟩
      have hsn : s < n := by rw [HV.out]; exact HS.out
      have cx : wr.cell? ⟨b0, o0 + s, none⟩ = some (.int .i64 x) := by rw [hx]; exact cell_cs HU.out.rd (by rw [← HN.out]; exact hsn)
      have HX := Lib.hid hx
      have s0 : (0 : Int) ≤ (s : Int) := by omega
      have s1 : (s : Int) < (n : Int) := by omega
      clear hcC hx hgw hi1 hlt
      by_cases hw : x < 0
      · have dw : decide (x < 0) = true := decide_eq_true hw
        have HW := Lib.hid (fix_wall (w := W) (h := H) (C := C) (s := s) (by rw [← HX.out]; exact hw))
        go_wp2_with fail
        go_ret
        exact ⟨_, List.replicate n (-1), rfl, own_down (by rw [List.length_replicate]; exact HE1.out) (by omega), by rw [HV.out]; exact HW.out, HU.out.keep⟩
      · have dw : decide (x < 0) = false := decide_eq_false hw
        have HRI := Lib.hid (ri_start HK.out HS.out (by rw [← HX.out]; omega))
        have HO2 := Lib.hid (own_set HE1.out s (.int .i64 0))
        have HU2 := Lib.hid (HU.out.set HGW.out s (.int .i64 0))
        have hO3 : (wr.setCell ⟨g, s, none⟩ (.int .i64 0)).ownsRow (w.heap.size + 1) 2 1 (.slice (some ⟨g, 0, none⟩) n c) n (((List.replicate n (-1 : Int)).set s 0).map iv) := by rw [List.map_set]; exact HO2.out
        rw [HV.out] at hO3
        rw [← HV.out] at hO3
        have HO3 := Lib.hid hO3
        have cgs : wr.cell? ⟨g, s, none⟩ = some (.int .i64 (dd (List.replicate n (-1)) s)) := own_cell_dd HE1.out (by rw [List.length_replicate]; exact hsn)
        have fgs := HE1.out.frozenAt s
        clear hO3 hw
        go_wp2_with fail
        clear cx cgs fgs q2
        go_loopw [7, 8] (fun lv mv wr => ∃ (low : Bool) (m : Nat) (E : List Int) (t : Nat), lv = .bool low ∧ mv = .int .i64 (m : Int) ∧ RI W H C s E m t low ∧ t ≤ 16388 * m ∧ m ≤ n + 1 ∧ wr.ownsRow (w.heap.size + 1) 2 1 (.slice (some ⟨g, 0, none⟩) n c) n (E.map iv) ∧ UB w W H (some ⟨b0, o0, none⟩) n cap lo hi C wr) (fun _ mv _ => n + 2 - (intOf mv).toNat)
        case atStart => exact ⟨true, 0, _, 0, rfl, rfl, by have := HRI.out; rw [← HV.out] at this; exact this, by omega, by omega, HO3.out, HU2.out⟩
        case round =>
          obtain ⟨low, m, E, t, rfl, rfl, hRI, ht, hm, hO4, hU4⟩ := hrel
          have HRI4 := Lib.hid hRI
          have HO4 := Lib.hid hO4
          have HU4 := Lib.hid hU4
          clear hRI hO4 hU4
          by_cases hgo : low = true ∧ m ≤ n
          · obtain ⟨rfl, hmn⟩ := hgo
            have dm1 : decide (m ≤ n) = true := decide_eq_true hmn
            have HRX := Lib.hid HRI4.out.enter
            go_wp2_with fail
            go_loopw [7, 9] (fun lv xv wr => ∃ (low : Bool) (i : Nat) (E' : List Int) (t : Nat), lv = .bool low ∧ xv = .int .i64 (i : Int) ∧ i ≤ n ∧ RX W H C s E E' m t low i 0 ∧ t ≤ 16388 * m + 4 * i ∧ wr.ownsRow (w.heap.size + 1) 2 1 (.slice (some ⟨g, 0, none⟩) n c) n (E'.map iv) ∧ UB w W H (some ⟨b0, o0, none⟩) n cap lo hi C wr) (fun _ xv _ => n - (intOf xv).toNat)
            case atStart => exact ⟨false, 0, E, t, rfl, rfl, by omega, HRX.out, by omega, HO4.out, HU4.out⟩
            case round =>
              obtain ⟨low, i, E', t', rfl, rfl, hi1, hRX, ht', hO5, hU5⟩ := hrel
              have HRX5 := Lib.hid hRX
              have HO5 := Lib.hid hO5
              have HU5 := Lib.hid hU5
              clear hRX hO5 hU5
              by_cases hin : i < n
              · have din : decide (i < n) = true := decide_eq_true hin
                have q0 : wr.cell? ⟨w.heap.size, 0, none⟩ = some (.int .i64 (W : Int)) := HU5.out.box.cell 0
                obtain ⟨kw1, kw2, kh1, kh2, _, _⟩ := HK.out
                have t1 := tmodN i W
                have t3 := tdivN i W
                have hnz : ((W : Int) == 0) = false := by rw [beq_eq_false_iff_ne]; omega
                have hnz2 : (W : Int) ≠ 0 := by omega
                have ma := Nat.mod_lt i kw1
                have qa : i / W < H := Nat.div_lt_of_lt_mul (by rw [← HV.out]; exact hin)
                have HDM := Lib.hid (dm W i)
                obtain ⟨x, hx⟩ : ∃ x, x = i % W := ⟨_, rfl⟩
                obtain ⟨y, hy⟩ : ∃ y, y = i / W := ⟨_, rfl⟩
                rw [← hx] at t1 ma HDM
                rw [← hy] at t3 qa HDM
                have HXI := Lib.hid hx
                have HYI := Lib.hid hy
                have w1 : IntKind.i64.wrap (x : Int) = (x : Int) := IntWalk.i64_in _ (by omega)
                have w3 : IntKind.i64.wrap (y : Int) = (y : Int) := IntWalk.i64_in _ (by omega)
                clear hx hy
                go_wp2_with fail
                clear w1 w3 t1 t3 hnz hnz2 q0
                go_loopw [7, 12] (fun lv kv wr => ∃ (low : Bool) (k : Nat) (E' : List Int) (t : Nat), lv = .bool low ∧ kv = .int .i64 (k : Int) ∧ k ≤ 4 ∧ RX W H C s E E' m t low i k ∧ t ≤ 16388 * m + 4 * i + k ∧ wr.ownsRow (w.heap.size + 1) 2 1 (.slice (some ⟨g, 0, none⟩) n c) n (E'.map iv) ∧ UB w W H (some ⟨b0, o0, none⟩) n cap lo hi C wr) (fun _ kv _ => 4 - (intOf kv).toNat)
                case atStart => exact ⟨low, 0, E', t', rfl, rfl, by omega, HRX5.out, by omega, HO5.out, HU5.out⟩
                case round =>
                  obtain ⟨low, k, E1, t1, rfl, rfl, hk4, hRX, ht1, hO6, hU6⟩ := hrel
                  have HRX6 := Lib.hid hRX
                  have HO6 := Lib.hid hO6
                  have HU6 := Lib.hid hU6
                  clear hRX hO6 hU6
                  by_cases hk : k < 4
                  · have dk : decide ((k : Int) < 4) = true := decide_eq_true (by omega)
                    go_upto_region 23 with fail
                    go_cut [7, 12, 13, 14] (fun s7 s12 s13 s14 wx => s7 = .bool low ∧ s12 = .int .i64 (k : Int) ∧ wx = wr ∧ ∃ a b : Int, s13 = .int .i64 a ∧ s14 = .int .i64 b ∧
                      ((dirN W H i k = none ∧ (a < 0 ∨ (W : Int) ≤ a ∨ b < 0 ∨ (H : Int) ≤ b)) ∨ ∃ a' b' j : Nat, a = (a' : Int) ∧ b = (b' : Int) ∧ dirN W H i k = some j ∧ a' < W ∧ b' < H ∧ b' * W + a' = j))
                    case first =>
                      have hk' : k = 0 ∨ k = 1 ∨ k = 2 ∨ k = 3 := by omega
                      clear dk
                      rcases hk' with rfl | rfl | rfl | rfl
                      · go_wp2_with fail
                        go_meet
                        refine ⟨rfl, rfl, rfl, (x : Int), (y : Int) - 1, congrArg (Value.int IntKind.i64) (wr0 (d := 0) (by decide +kernel) (by omega) (by omega) (by omega) (by omega)), congrArg (Value.int IntKind.i64) (by omega), ?_⟩
                        unfold dirN
                        rw [if_pos rfl, ← HYI.out]
                        have hdm := HDM.out
                        by_cases hc : 0 < y
                        · rw [if_pos hc]
                          refine .inr ⟨x, y - 1, i - W, by omega, by omega, rfl, ma, by omega, ?_⟩
                          rw [hdm, Nat.sub_mul, Nat.mul_comm y W]
                          have := Nat.mul_le_mul_left W hc
                          omega
                        · rw [if_neg hc]
                          exact .inl ⟨rfl, by omega⟩
                      · go_wp2_with fail
                        go_meet
                        refine ⟨rfl, rfl, rfl, (x : Int) - 1, (y : Int), congrArg (Value.int IntKind.i64) (wr0 (d := -1) (by decide +kernel) (by omega) (by omega) (by omega) (by omega)), congrArg (Value.int IntKind.i64) (by omega), ?_⟩
                        unfold dirN
                        rw [if_neg (by omega), if_pos rfl, ← HXI.out]
                        have hdm := HDM.out
                        by_cases hc : 0 < x
                        · rw [if_pos hc]
                          refine .inr ⟨x - 1, y, i - 1, by omega, by omega, rfl, by omega, by omega, ?_⟩
                          rw [hdm, Nat.mul_comm y W]
                          omega
                        · rw [if_neg hc]
                          exact .inl ⟨rfl, by omega⟩
                      · go_wp2_with fail
                        go_meet
                        refine ⟨rfl, rfl, rfl, (x : Int), (y : Int) + 1, congrArg (Value.int IntKind.i64) (wr0 (d := 0) (by decide +kernel) (by omega) (by omega) (by omega) (by omega)), congrArg (Value.int IntKind.i64) (by omega), ?_⟩
                        unfold dirN
                        rw [if_neg (by omega), if_neg (by omega), if_pos rfl, ← HYI.out]
                        have hdm := HDM.out
                        by_cases hc : y + 1 < H
                        · rw [if_pos hc]
                          refine .inr ⟨x, y + 1, i + W, by omega, by omega, rfl, by omega, by omega, ?_⟩
                          rw [hdm, Nat.add_mul, Nat.mul_comm y W]
                          omega
                        · rw [if_neg hc]
                          exact .inl ⟨rfl, by omega⟩
                      · go_wp2_with fail
                        go_meet
                        refine ⟨rfl, rfl, rfl, (x : Int) + 1, (y : Int), congrArg (Value.int IntKind.i64) (wr0 (d := 1) (by decide +kernel) (by omega) (by omega) (by omega) (by omega)), congrArg (Value.int IntKind.i64) (by omega), ?_⟩
                        unfold dirN
                        rw [if_neg (by omega), if_neg (by omega), if_neg (by omega), ← HXI.out]
                        have hdm := HDM.out
                        by_cases hc : x + 1 < W
                        · rw [if_pos hc]
                          refine .inr ⟨x + 1, y, i + 1, by omega, by omega, rfl, by omega, by omega, ?_⟩
                          rw [hdm, Nat.mul_comm y W]
                          omega
                        · rw [if_neg hc]
                          exact .inl ⟨rfl, by omega⟩
                    obtain ⟨rfl, rfl, rfl, a, b, rfl, rfl, hdir⟩ := hcut
                    have q0 : wc.cell? ⟨w.heap.size, 0, none⟩ = some (.int .i64 (W : Int)) := HU6.out.box.cell 0
                    have q1 : wc.cell? ⟨w.heap.size, 1, none⟩ = some (.int .i64 (H : Int)) := HU6.out.box.cell 1
                    have q2 : wc.cell? ⟨w.heap.size, 2, none⟩ = some (.slice (some ⟨b0, o0, none⟩) n cap) := HU6.out.box.cell 2
                    rcases hdir with ⟨hnone, hout⟩ | ⟨a', b', j, rfl, rfl, hdj, ha', hb', hj⟩
                    · have HP := Lib.hid (HRX6.out.pass (fun j hj => by rw [hnone] at hj; cases hj))
                      clear hnone
                      by_cases h1 : a < 0
                      · have d1 : decide (a < 0) = true := decide_eq_true h1
                        go_wp2_with fail
                        go_roundw
                        case rel => exact ⟨low, k + 1, E1, t1 + 1, rfl, by go_num, by omega, HP.out, by omega, HO6.out, HU6.out⟩
                        case measure => simp [intOf]; omega
                      · have d1 : decide (a < 0) = false := decide_eq_false h1
                        by_cases h2 : (W : Int) ≤ a
                        · have d2 : decide ((W : Int) ≤ a) = true := decide_eq_true h2
                          go_wp2_with fail
                          go_roundw
                          case rel => exact ⟨low, k + 1, E1, t1 + 1, rfl, by go_num, by omega, HP.out, by omega, HO6.out, HU6.out⟩
                          case measure => simp [intOf]; omega
                        · have d2 : decide ((W : Int) ≤ a) = false := decide_eq_false h2
                          by_cases h3 : b < 0
                          · have d3 : decide (b < 0) = true := decide_eq_true h3
                            go_wp2_with fail
                            go_roundw
                            case rel => exact ⟨low, k + 1, E1, t1 + 1, rfl, by go_num, by omega, HP.out, by omega, HO6.out, HU6.out⟩
                            case measure => simp [intOf]; omega
                          · have d3 : decide (b < 0) = false := decide_eq_false h3
                            have d4 : decide ((H : Int) ≤ b) = true := decide_eq_true (by omega)
                            go_wp2_with fail
                            go_roundw
                            case rel => exact ⟨low, k + 1, E1, t1 + 1, rfl, by go_num, by omega, HP.out, by omega, HO6.out, HU6.out⟩
                            case measure => simp [intOf]; omega
                    · have hbW : b' * W ≤ 4096 := by
                        have := Nat.mul_le_mul (show b' ≤ 64 by omega) kw2
                        omega
                      have hjn : j < n := by
                        have h5 : (b' + 1) * W ≤ H * W := Nat.mul_le_mul_right W hb'
                        rw [Nat.add_mul, Nat.mul_comm H W] at h5
                        have := HV.out
                        omega
                      obtain ⟨q, hq⟩ : ∃ q, q = b' * W := ⟨_, rfl⟩
                      have m1 : IntKind.i64.wrap ((b' : Int) * (W : Int)) = (q : Int) := by
                        rw [show (b' : Int) * (W : Int) = ((b' * W : Nat) : Int) from (Int.natCast_mul _ _).symm, ← hq]
                        exact IntWalk.i64_in _ (by omega)
                      have m2 : IntKind.i64.wrap ((q : Int) + (a' : Int)) = (j : Int) := by rw [IntWalk.i64_in _ (by omega)]; omega
                      have d1 : decide ((a' : Int) < 0) = false := decide_eq_false (by omega)
                      have d2 : decide (W ≤ a') = false := decide_eq_false (by omega)
                      have d3 : decide ((b' : Int) < 0) = false := decide_eq_false (by omega)
                      have d4 : decide (H ≤ b') = false := decide_eq_false (by omega)
                      obtain ⟨e, he⟩ : ∃ e, e = dd E1 i := ⟨_, rfl⟩
                      obtain ⟨v, hv⟩ : ∃ v, v = cs C j := ⟨_, rfl⟩
                      obtain ⟨d, hd⟩ : ∃ d, d = dd E1 j := ⟨_, rfl⟩
                      have hlE : E1.length = n := by rw [HRX6.out.len, HV.out]
                      have ci : wc.cell? ⟨g, i, none⟩ = some (.int .i64 e) := by rw [he]; exact own_cell_dd HO6.out (by omega)
                      have cj : wc.cell? ⟨g, j, none⟩ = some (.int .i64 d) := by rw [hd]; exact own_cell_dd HO6.out (by omega)
                      have cv : wc.cell? ⟨b0, o0 + j, none⟩ = some (.int .i64 v) := by rw [hv]; exact cell_cs HU6.out.rd (by rw [← HN.out]; exact hjn)
                      have fj := HO6.out.frozenAt j
                      have hbe := HRX6.out.bnd i
                      rw [← he] at hbe
                      have hbv := (cs_bnd HK.out j).2
                      rw [← hv] at hbv
                      have HEE := Lib.hid he
                      have HVV := Lib.hid hv
                      have HDD := Lib.hid hd
                      have HDJ := Lib.hid hdj
                      clear he hv hd hdj hq hj hlE
                      have j0' : (0 : Int) ≤ (j : Int) := by omega
                      have j1' : (j : Int) < (n : Int) := by omega
                      have i0' : (0 : Int) ≤ (i : Int) := by omega
                      have i1' : (i : Int) < (n : Int) := by omega
                      by_cases h5 : e < 0
                      · have d5 : decide (e < 0) = true := decide_eq_true h5
                        have HP := Lib.hid (HRX6.out.pass (fun j' hj hc he => by rw [← HEE.out] at he; omega))
                        go_wp2_with fail
                        go_roundw
                        case rel => exact ⟨low, k + 1, E1, t1 + 1, rfl, by go_num, by omega, HP.out, by omega, HO6.out, HU6.out⟩
                        case measure => simp [intOf]; omega
                      · have d5 : decide (e < 0) = false := decide_eq_false h5
                        by_cases h6 : v < 0
                        · have d6 : decide (v < 0) = true := decide_eq_true h6
                          have HP := Lib.hid (HRX6.out.pass (fun j' hj hc he => by
                            rw [HDJ.out] at hj
                            injection hj with hj
                            rw [← hj, ← HVV.out] at hc
                            omega))
                          go_wp2_with fail
                          go_roundw
                          case rel => exact ⟨low, k + 1, E1, t1 + 1, rfl, by go_num, by omega, HP.out, by omega, HO6.out, HU6.out⟩
                          case measure => simp [intOf]; omega
                        · have d6 : decide (v < 0) = false := decide_eq_false h6
                          obtain ⟨z, hz⟩ : ∃ z, z = e + v := ⟨_, rfl⟩
                          have m3 : IntKind.i64.wrap (e + v) = z := by rw [hz]; exact IntWalk.i64_in _ (by omega)
                          have HZ := Lib.hid hz
                          clear hz
                          have hzz : z = dd E1 i + cs C j := by rw [HZ.out, HEE.out, HVV.out]
                          have hin' : i < W * H := by rw [← HV.out]; exact hin
                          have HE0 := Lib.hid (show 0 ≤ dd E1 i by rw [← HEE.out]; omega)
                          have HC0 := Lib.hid (show 0 ≤ cs C j by rw [← HVV.out]; omega)
                          have HZZ := Lib.hid hzz
                          clear hzz
                          go_wp2_with fail
                          go_quiet (fail)
                          by_cases h7 : d < 0
                          · have d7 : decide (d < 0) = true := decide_eq_true h7
                            have HL := Lib.hid (HRX6.out.lower HK.out hin' hk HDJ.out HC0.out HE0.out (.inl (by rw [← HDD.out]; exact h7)))
                            rw [← HZZ.out] at HL
                            go_wp2_with fail
                            go_roundw
                            case rel => exact ⟨true, k + 1, E1.set j z, t1 + 1, rfl, by go_num, by omega, HL.out, by omega, by rw [List.map_set]; exact own_set (own_next HO6.out (below_drewN (Below.refl _ _) _)) j (.int .i64 z), (HU6.out.drewN _).set HGW.out j _⟩
                            case measure => simp [intOf]; omega
                          · have d7 : decide (d < 0) = false := decide_eq_false h7
                            by_cases h8 : z < d
                            · have d8 : decide (z < d) = true := decide_eq_true h8
                              have HL := Lib.hid (HRX6.out.lower HK.out hin' hk HDJ.out HC0.out HE0.out (.inr (by rw [← HDD.out, ← HZZ.out]; exact h8)))
                              rw [← HZZ.out] at HL
                              go_wp2_with fail
                              go_roundw
                              case rel => exact ⟨true, k + 1, E1.set j z, t1 + 1, rfl, by go_num, by omega, HL.out, by omega, by rw [List.map_set]; exact own_set (own_next HO6.out (below_drewN (Below.refl _ _) _)) j (.int .i64 z), (HU6.out.drewN _).set HGW.out j _⟩
                              case measure => simp [intOf]; omega
                            · have d8 : decide (z < d) = false := decide_eq_false h8
                              have HP := Lib.hid (HRX6.out.pass (fun j' hj hc he => by
                                rw [HDJ.out] at hj
                                injection hj with hj
                                rw [← hj, ← HZZ.out, ← HDD.out]
                                omega))
                              go_wp2_with fail
                              go_roundw
                              case rel => exact ⟨low, k + 1, E1, t1 + 1, rfl, by go_num, by omega, HP.out, by omega, own_next HO6.out (below_drewN (Below.refl _ _) _), HU6.out.drewN _⟩
                              case measure => simp [intOf]; omega
                  · have dk : decide ((k : Int) < 4) = false := decide_eq_false (by omega)
                    obtain rfl : k = 4 := by omega
                    go_wp2_with fail
                    go_roundw
                    case rel => exact ⟨low, i + 1, E1, t1, rfl, by go_num, by omega, HRX6.out.next, by omega, HO6.out, HU6.out⟩
                    case measure => simp [intOf]; omega
              · have din : decide (i < n) = false := decide_eq_false hin
                obtain rfl : n = i := by omega
                go_wp2_with fail
                go_roundw
                case rel => exact ⟨low, m + 1, E', t', rfl, by go_num, RX.done (by have := HRX5.out; rw [HV.out] at this; exact this) HK.out, by omega, by omega, HO5.out, HU5.out⟩
                case measure => simp [intOf]; omega
          · have hst : low = false ∨ n < m := by
              cases low
              · exact .inl rfl
              · right
                rcases Nat.lt_or_ge n m with h | h
                · exact h
                · exact absurd ⟨rfl, h⟩ hgo
            have HF := Lib.hid (HRI4.out.fix (hst.imp id fun h => by rw [← HV.out]; omega))
            cases low
            · go_wp2_with fail
              go_ret
              exact ⟨_, E, rfl, own_down (by rw [HRI4.out.len, ← HV.out]; exact HO4.out) (by omega), HF.out, HU4.out.keep⟩
            · have hnm : n < m := by
                rcases hst with h | h
                · exact absurd h (by decide)
                · exact h
              have dm1 : decide (m ≤ n) = false := decide_eq_false (by omega)
              clear hst
              go_wp2_with fail
              go_ret
              exact ⟨_, E, rfl, own_down (by rw [HRI4.out.len, ← HV.out]; exact HO4.out) (by omega), HF.out, HU4.out.keep⟩
end Rou
end Go.Proofs.Ytgncngpgodfijaa
