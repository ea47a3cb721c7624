/-
  The law RouteLeast: what stands behind the search, walked.
-/
import Derived.Test.YtgncngpgodfijaaRouL2
import Derived.Test.YtgncngpgodfijaaRouC2
namespace Go.Proofs.Ytgncngpgodfijaa
open Go.RowKit
set_option linter.unusedVariables false
namespace Rou
def bv8 (x : Nat) : Value := .int .u8 (x : Int)
theorem open_u8s {W : World} {v : Value} (h : VSat W (.slice (.int .u8)) false v) : ∃ (A : Option Addr) (L : List Nat) (cap : Nat), v = .slice A L.length cap ∧ RdL W 0 W.heap.size A (L.map bv8) ∧ (∀ x ∈ L, x < 256) := by
  obtain ⟨A, L, cap, h1, h2, h3, _⟩ := open_slice_of (fun x : Nat => [bv8 x]) (fun x => x < 256) (.int .u8) 1 rfl (fun _ => rfl) (by decide) (by
    rintro cs ⟨i, rfl, hi⟩
    have hb := bounds_u8 hi
    obtain ⟨m, rfl⟩ : ∃ m : Nat, i = (m : Int) := ⟨i.toNat, by omega⟩
    exact ⟨m, rfl, by omega⟩) h
  rw [flatMap_one] at h2
  exact ⟨A, L, cap, h1, h2, h3⟩
theorem cell_bv8 {w : World} {lo hi b off : Nat} {L : List Nat} (h : RdL w lo hi (some ⟨b, off, none⟩) (L.map bv8)) {i : Nat} (hi : i < L.length) : w.cell? ⟨b, off + i, none⟩ = some (.int .u8 ((L[i] : Nat) : Int)) := by
  obtain ⟨b', o', e, _, _, _, hc⟩ := h.some (by rw [List.length_map]; omega)
  injection e with e
  injection e with e1 e2
  subst e1 e2
  exact hc i _ (by rw [List.getElem?_map, List.getElem?_eq_getElem hi]; rfl)
theorem FM.grown {w wr w' : World} {gb W H n cap lo hi : Nat} {A : Option Addr} {C : List Int} (S : FM w gb W H n cap lo hi A C wr) {r : Option Nat} (hg : wr.grownBy w' r) (hr : ∀ g, r = some g → gb < g ∧ hi ≤ g ∧ w.heap.size ≤ g) : FM w gb W H n cap lo hi A C w' :=
  ⟨S.box.grown hg (fun e => by have := (hr _ e.symm).1; omega), S.rd.grown hg (fun g e => .inr (hr g e).2.1), S.keep.grown hg S.keep.size (fun k hk => (hr k hk).2.2), Nat.le_trans S.hi hg.size⟩
/-- the field, the moves and the road, in memory -/
structure LS (w : World) (gb W H n cap lo hi : Nat) (A : Option Addr) (C : List Int) (M : Option Addr) (Mv : List Nat) (v : Value) (R : List Nat) (wr : World) : Prop where
  fm : FM w gb W H n cap lo hi A C wr
  mv : RdL wr 0 w.heap.size M (Mv.map bv8)
  own : wr.ownsRow (gb + 1) 3 1 v R.length (R.map ni)
  b1 : hi ≤ gb
  b2 : w.heap.size ≤ gb
  b3 : gb + 1 ≤ wr.heap.size
section
variable {w wr w' : World} {gb W H n cap lo hi : Nat} {A M : Option Addr} {C : List Int} {Mv : List Nat} {v v1 : Value} {R R1 : List Nat}
theorem LS.next (S : LS w gb W H n cap lo hi A C M Mv v R wr) (hb : Below wr.heap.size wr w') : LS w gb W H n cap lo hi A C M Mv v R w' := ⟨S.fm.next hb, S.mv.next hb, own_next S.own hb, S.b1, S.b2, Nat.le_trans S.b3 hb.size⟩
theorem LS.drewN (S : LS w gb W H n cap lo hi A C M Mv v R wr) (q : Nat) : LS w gb W H n cap lo hi A C M Mv v R (wr.drewN q) := S.next (below_drewN (Below.refl _ _) q)
theorem LS.more (S : LS w gb W H n cap lo hi A C M Mv v R wr) (hg : wr.grownBy w' v.ownBlock) (ho : w'.ownsRow (gb + 1) 3 1 v1 R1.length (R1.map ni)) : LS w gb W H n cap lo hi A C M Mv v1 R1 w' :=
  ⟨S.fm.grown hg (fun g e => by have := (own_lt S.own e).1; have := S.b1; have := S.b2; omega), S.mv.grown hg (fun g e => .inr (by have := (own_lt S.own e).1; have := S.b2; omega)), ho, S.b1, S.b2, Nat.le_trans S.b3 hg.size⟩
end
/-- no way at all costs less -/
theorem sol_key {W H s t : Nat} {C D K : List Int} {r : Nat → Nat} (S : Sol W H C s D K r) (Hk : Ok W H C) (hs : s < W * H) {R : List Nat} (h1 : R.head? = some s) (h2 : R.getLast? = some t) (h3 : 0 ≤ costV (W : Int) (H : Int) C (zs R)) : 0 ≤ dd D t ∧ dd D t ≤ costV (W : Int) (H : Int) C (zs R) := by
  have hne : R ≠ [] := by intro e; rw [e] at h1; cases h1
  have hw := costV_pos Hk hne h3
  rw [costV_way Hk hw]
  obtain ⟨a, q, rfl⟩ : ∃ a q, R = a :: q := by cases R with
    | nil => exact absurd rfl hne
    | cons a q => exact ⟨a, q, rfl⟩
  obtain rfl : a = s := by simpa using h1
  have hs0 := (S.st (way_head hw).2).1
  have := S.least q a hw (by rw [hs0]; exact Int.le_refl _)
  have hl : (a :: q).getLast (by simp) = t := by
    rw [List.getLast?_eq_some_getLast (l := a :: q) (by simp)] at h2
    injection h2
  rw [hl, hs0] at this
  omega
theorem mem_snoc_lt {R : List Nat} {x n : Nat} (h : ∀ z ∈ R, z < n) (hx : x < n) : ∀ z ∈ R ++ [x], z < n := fun z hz => by
  rcases List.mem_append.1 hz with h1 | h1
  · exact h z h1
  · rw [List.mem_singleton.1 h1]; exact hx
theorem own_some {w : World} {base n : Nat} {e : TypeId} {v : Value} {l : List Value} (h : w.ownsRow base e 1 v n l) (h1 : 1 ≤ n) : ∃ g c, v = .slice (some ⟨g, 0, none⟩) n c := by
  rcases h.2 with ⟨_, h0⟩ | ⟨g, cap, cur, hv, _⟩
  · omega
  · exact ⟨g, cap, hv⟩
/-- the code of a function from one region on -/
def isReg (r : Nat) : Code → Bool
  | .region n _ _ => n == r
  | _ => false
def tailAt (r : Nat) : Code → Option Code
  | .seq a b => match isReg r a with
    | true => some (.seq a b)
    | false => match tailAt r a with
      | some c => some c
      | none => tailAt r b
  | .block _ c => tailAt r c
  | .scope c => tailAt r c
  | .loop c => tailAt r c
  | .cond _ a b => match tailAt r a with
    | some c => some c
    | none => tailAt r b
  | _ => none
noncomputable def code12 : Code := ((Try.f12.body.bind (tailAt 12)).getD .skip)
set_option maxRecDepth 1000000 in
set_option maxHeartbeats 4000000 in
theorem least_tail {a b c1 c2 m cap0 mm cl n W H s1 s2 gb cap : Nat} {A0 A M : Option Addr} {C : List Int} {Mv : List Nat} {w wc : World} {x d fe : Int} {v : Value} {u12 u26 u27 u28 u29 u30 u31 u32 u33 u34 u35 u36 u37 u38 u39 u40 u41 u42 u43 u44 u45 u46 u47 u48 u49 u50 u51 u52 u53 u54 u55 u56 u57 u58 u59 u60 u61 u62 u63 u64 u65 u66 u67 u68 u69 u70 u71 u72 u73 u74 u75 u76 u77 u78 u79 u80 u81 u82 u83 u84 u85 u86 u87 u88 u89 u90 u91 u92 u93 u94 u95 u96 u97 u98 u99 u100 u101 u102 u103 u104 u105 u106 u107 u108 u109 u110 u111 u112 u113 u114 u115 u116 u117 u118 u119 u120 u121 u122 u123 u124 u125 u126 u127 u128 u129 u130 u131 u132 u133 u134 u135 u136 u137 u138 u139 u140 u141 u142 u143 u144 u145 u146 u147 u148 u149 u150 u151 u152 u153 u154 u155 u156 u157 u158 u159 u160 u161 u162 u163 u164 u165 u166 u167 u168 u169 u170 u171 u172 u173 u174 u175 u176 u177 u178 u179 u180 u181 u182 u183 u184 u185 u186 u187 u188 u189 u190 u191 u192 u193 u194 u195 u196 u197 u198 u199 u200 u201 u202 u203 u204 u205 u206 u207 u208 u209 u210 u211 u212 u213 u214 u215 u216 u217 u218 u219 u220 u221 u222 u223 u224 u225 u226 u227 u228 u229 : Value}
    (hm2 : mm ≤ 200) (hn1 : 1 ≤ n) (hn2 : n ≤ 144) (hsn1 : s1 < n) (HOK : Hid (Ok W H C)) (HN : Hid (n = C.length)) (HV : Hid (n = W * H)) (HML : Hid (Mv.length = mm)) (HM8 : Hid (∀ x ∈ Mv, x < 256)) (HB2 : Hid (w.heap.size ≤ gb))
    (HKEY : Hid (∀ R : List Nat, R.head? = some s1 → R.getLast? = some s2 → 0 ≤ costV (W : Int) (H : Int) C (zs R) → fe = 0 ∧ d ≤ costV (W : Int) (H : Int) C (zs R)))
    (hcut : FM w gb W H n cap w.heap.size gb A C wc ∧ RdL wc 0 w.heap.size M (Mv.map bv8) ∧ gb + 1 ≤ wc.heap.size) :
    Code.wp Try.prog code12 (bodyPost Try.prog Try.f12 (LawEnd w)) ⟨#[Value.int .u8 (a : Int), Value.int .u8 (b : Int), Value.slice A0 m cap0, Value.int .u8 (c1 : Int), Value.int .u8 (c2 : Int), Value.slice M mm cl, undef, undef, undef, undef, undef, undef, u12, Value.pointer (some ⟨gb, 0, none⟩), Value.int .i64 (s1 : Int), Value.int .i64 (s2 : Int), Value.int .i64 x, v, Value.int .i64 d, Value.int .i64 fe, undef, undef, undef, undef, undef, undef, u26, u27, u28, u29, u30, u31, u32, u33, u34, u35, u36, u37, u38, u39, u40, u41, u42, u43, u44, u45, u46, u47, u48, u49, u50, u51, u52, u53, u54, u55, u56, u57, u58, u59, u60, u61, u62, u63, u64, u65, u66, u67, u68, u69, u70, u71, u72, u73, u74, u75, u76, u77, u78, u79, u80, u81, u82, u83, u84, u85, u86, u87, u88, u89, u90, u91, u92, u93, u94, u95, u96, u97, u98, u99, u100, u101, u102, u103, u104, u105, u106, u107, u108, u109, u110, u111, u112, u113, u114, u115, u116, u117, u118, u119, u120, u121, u122, u123, u124, u125, u126, u127, u128, u129, u130, u131, u132, u133, u134, u135, u136, u137, u138, u139, u140, u141, u142, u143, u144, u145, u146, u147, u148, u149, u150, u151, u152, u153, u154, u155, u156, u157, u158, u159, u160, u161, u162, u163, u164, u165, u166, u167, u168, u169, u170, u171, u172, u173, u174, u175, u176, u177, u178, u179, u180, u181, u182, u183, u184, u185, u186, u187, u188, u189, u190, u191, u192, u193, u194, u195, u196, u197, u198, u199, u200, u201, u202, u203, u204, u205, u206, u207, u208, u209, u210, u211, u212, u213, u214, u215, u216, u217, u218, u219, u220, u221, u222, u223, u224, u225, u226, u227, u228, u229], []⟩ wc := by
  obtain ⟨i0, hi0, hz0, hz1, hz2⟩ := info_parts infoInt
  conv => arg 2; whnf
  obtain ⟨hS, hM, hB⟩ := hcut
  have HLS := Lib.hid (show LS w gb W H n cap w.heap.size gb A C M Mv (.slice (some ⟨wc.heap.size, 0, none⟩) 1 1) [s1] (wc.alloc (.cells #[.int .i64 (s1 : Int)] 3)) from
    ⟨hS.next (bl _ _), hM.next (bl _ _), own_of_blk (l := [ni s1]) (Blk.mk wc 3 [ni s1]) hB (by simp [maxLen]), Nat.le_refl _, HB2.out, by simp; omega⟩)
  clear hS hM hB
  go_wp2_with fail
  go_loopw [20, 21] (fun s20 s21 wr => ∃ (R : List Nat) (i : Nat), s21 = .int .i64 (i : Int) ∧ i ≤ mm ∧ LS w gb W H n cap w.heap.size gb A C M Mv s20 R wr ∧ R.length ≤ i + 1 ∧ R.head? = some s1 ∧ (∀ z ∈ R, z < n)) (fun _ s21 _ => mm - (intOf s21).toNat)
  case atStart => exact ⟨[s1], 0, rfl, by omega, HLS.out, by simp, rfl, fun z hz => by rw [List.mem_singleton.1 hz]; exact hsn1⟩
  case round =>
    obtain ⟨R, i, rfl, hi, hLS, hRn, hRh, hRl⟩ := hrel
    by_cases hlt : i < mm
    · have dlt : decide (i < mm) = true := decide_eq_true hlt
      have hne : R ≠ [] := by intro e; rw [e] at hRh; cases hRh
      obtain ⟨lr, hlr⟩ : ∃ lr, R.length = lr + 1 := ⟨R.length - 1, by have h9 : 0 < R.length := List.length_pos_iff.2 hne; omega⟩
      obtain ⟨g, cr, rfl⟩ := own_some hLS.own (by omega)
      obtain ⟨at1, ha1⟩ : ∃ at1, R[lr]? = some at1 := ⟨R[lr], List.getElem?_eq_getElem (by omega)⟩
      have hat : at1 < n := hRl at1 (List.mem_of_getElem? ha1)
      have ca : wr.cell? ⟨g, lr, none⟩ = some (.int .i64 (at1 : Int)) := by
        have := own_cell hLS.own (i := lr) (by omega)
        rw [List.getD_eq_getElem?_getD, ha1] at this
        exact this
      have yl : IntKind.i64.wrap ((R.length : Int) - 1) = (lr : Int) := by rw [IntWalk.i64_in _ (by omega)]; omega
      obtain ⟨p0, p1, p2⟩ := hLS.fm.cells
      obtain ⟨kw1, kw2, kh1, kh2, _, _⟩ := HOK.out
      have t1 := tmodN at1 W
      have t3 := tdivN at1 W
      have hnz : ((W : Int) == 0) = false := by rw [beq_eq_false_iff_ne]; omega
      have hnz2 : (W : Int) ≠ 0 := by omega
      have ma := Nat.mod_lt at1 kw1
      have qa : at1 / W < H := Nat.div_lt_of_lt_mul (by rw [← HV.out]; exact hat)
      have hdm := dm W at1
      obtain ⟨x, hx⟩ : ∃ x, x = at1 % W := ⟨_, rfl⟩
      obtain ⟨y, hy⟩ : ∃ y, y = at1 / W := ⟨_, rfl⟩
      rw [← hx] at t1 ma hdm
      rw [← hy] at t3 qa hdm
      have hyW : 0 < y → W ≤ at1 := fun h => by
        have := Nat.mul_le_mul_left W h
        omega
      have HXY := Lib.hid (show (0 < y → W ≤ at1) ∧ (0 < x → 1 ≤ at1) ∧ at1 < 144 ∧ W ≤ 64 from ⟨hyW, fun h => by omega, by omega, kw2⟩)
      have HXE := Lib.hid hx
      have HYE := Lib.hid hy
      have w1 : IntKind.i64.wrap (x : Int) = (x : Int) := IntWalk.i64_in _ (by omega)
      have w3 : IntKind.i64.wrap (y : Int) = (y : Int) := IntWalk.i64_in _ (by omega)
      have HLS2 := Lib.hid hLS
      have HNE := Lib.hid hne
      have HRH := Lib.hid hRh
      have HRL := Lib.hid hRl
      have HLR := Lib.hid hlr
      have l0 : (0 : Int) ≤ (lr : Int) := by omega
      have l1 : (lr : Int) < (R.length : Int) := by omega
      clear hx hy hdm hyW hLS hne hRh hRl ha1 hlr
      go_upto_region 17 with fail
      go_cut [22, 23, 24] (fun s22 s23 s24 wx => s22 = .int .i64 (at1 : Int) ∧ s23 = .int .i64 (x : Int) ∧ s24 = .int .i64 (y : Int) ∧ LS w gb W H n cap w.heap.size gb A C M Mv (.slice (some ⟨g, 0, none⟩) R.length cr) R wx)
      case first =>
        go_wp2_with fail
        go_quiet (fail)
        go_wp2_with fail
        go_meet
        exact ⟨rfl, rfl, rfl, HLS2.out.drewN _⟩
      obtain ⟨rfl, rfl, rfl, hLS⟩ := hcut
      have HLS3 := Lib.hid hLS
      obtain ⟨bm, om, rfl, _, _, _, _⟩ := hLS.mv.some (by rw [List.length_map, HML.out]; omega)
      obtain ⟨p, hp⟩ : ∃ p, p = Mv[i]'(by rw [HML.out]; exact hlt) := ⟨_, rfl⟩
      have cm : wc.cell? ⟨bm, om + i, none⟩ = some (.int .u8 (p : Int)) := by rw [hp]; exact cell_bv8 hLS.mv (by rw [HML.out]; exact hlt)
      have hp8 : p < 256 := by rw [hp]; exact HM8.out _ (List.getElem_mem _)
      clear hp ca yl t1 t3 hnz hnz2 w1 w3 p0 p1 p2 HLS2 hLS
      obtain ⟨p0, p1, p2⟩ := HLS3.out.fm.cells
      obtain ⟨q, hq⟩ : ∃ q, q = p % 4 := ⟨_, rfl⟩
      have hpq : (p : Int).tmod 4 = (q : Int) := by rw [hq]; exact tmodN p 4
      have HPQ := Lib.hid hpq
      have hq4 : q = 0 ∨ q = 1 ∨ q = 2 ∨ q = 3 := by omega
      have i0' : (0 : Int) ≤ (i : Int) := by omega
      have i1' : (i : Int) < (mm : Int) := by omega
      have hRn2 : R.length ≤ 201 := by omega
      clear hpq hq
      go_step
      go_step
      go_cut [20] (fun s20 wx => ∃ R', LS w gb W H n cap w.heap.size gb A C (some ⟨bm, om, none⟩) Mv s20 R' wx ∧ R'.length ≤ i + 2 ∧ R'.head? = some s1 ∧ (∀ z ∈ R', z < n))
      case first =>
        go_upto_region 18 with fail
        go_cut [146] (fun sb wx => sb = .bool (decide (q = 0 ∧ 0 < x)) ∧ wx = wc)
        case first =>
          by_cases hq : q = 0
          · have tq : (p : Int).tmod 4 = 0 := by rw [HPQ.out, hq]; rfl
            have tw : IntKind.u8.wrap (0 : Int) = 0 := by decide
            by_cases hc : 0 < x
            · have dc1 : decide (0 < x) = true := decide_eq_true hc
              have dc2 : decide ((0 : Int) < (x : Int)) = true := decide_eq_true (by omega)
              have HT := Lib.hid (show Value.bool true = .bool (decide (q = 0 ∧ 0 < x)) by rw [decide_eq_true ⟨hq, hc⟩])
              clear hq hc
              go_wp2_with fail
              go_meet
              exact ⟨HT.out, rfl⟩
            · have dc1 : decide (0 < x) = false := decide_eq_false hc
              have dc2 : decide ((0 : Int) < (x : Int)) = false := decide_eq_false (by omega)
              have HT := Lib.hid (show Value.bool false = .bool (decide (q = 0 ∧ 0 < x)) by rw [decide_eq_false (fun h => hc h.2)])
              clear hq hc
              go_wp2_with fail
              go_meet
              exact ⟨HT.out, rfl⟩
          · have tq : (p : Int).tmod 4 = (q : Int) := HPQ.out
            have tw : IntKind.u8.wrap (q : Int) = (q : Int) := IntWalk.u8_in _ (by omega)
            have dq : ((q : Int) == 0) = false := by rw [beq_eq_false_iff_ne]; omega
            have HT := Lib.hid (show Value.bool false = .bool (decide (q = 0 ∧ 0 < x)) by rw [decide_eq_false (fun h => hq h.1)])
            clear hq
            go_wp2_with fail
            go_meet
            exact ⟨HT.out, rfl⟩
        obtain ⟨rfl, rfl⟩ := hcut
        by_cases hqc : q = 0 ∧ 0 < x
        · rw [decide_eq_true hqc]
          have hc := hqc.2
          obtain ⟨nx, hnx⟩ : ∃ nx, nx = at1 - 1 := ⟨_, rfl⟩
          have hnl : nx < n := by rw [HV.out]; exact beside_lt HOK.out.w1 (by rw [← HV.out]; exact hat) (by rw [hnx]; exact mem_beside.2 (.inr (.inl ⟨by rw [← HXE.out]; exact hc, rfl⟩)))
          have HNL := Lib.hid hnl
          have z1 : IntKind.i64.wrap ((at1 : Int) - 1) = (nx : Int) := by rw [IntWalk.i64_in _ (by have := HXY.out; omega)]; have := HXY.out; omega
          have HA := Lib.hid (HLS3.out.next (bl wc (.cells #[.int .i64 (nx : Int)] 3)))
          clear hnx hnl hc hqc
          go_wp2_with (at_builtin; refine wpList_append_mine rfl (.tmp 147) (.tmp 150) 56 rfl (gb + 1) 3 i0 (.int .i64 0) 1 8 Try.underlying56 hi0 hz0 hz1 hz2 rfl (by decide) (.slice (some ⟨g, 0, none⟩) R.length cr) R.length (R.map ni) rfl HA.out.own (some ⟨wc.heap.size, 0, Option.none⟩) 1 1 [.int .i64 (nx : Int)] rfl rfl (fun h => by cases h) (by intro ad h; injection h with h; subst h; exact cell_one_new _ _ _) (by simp [Value.oneCell']) (by simp only [maxLen]; omega) (by omega) (by have := HLS3.out.b3; simp; omega) ?_; intro v2 w9 hown hgrow hwh; have hmore := HA.out.more (R1 := R ++ [nx]) hgrow (by rw [List.length_append, List.map_append]; exact hown); have HMore := Lib.hid hmore; clear hown hgrow hwh hmore)
          go_meet
          exact ⟨R ++ [nx], HMore.out, by rw [List.length_append, List.length_singleton]; omega, by rw [List.head?_append, HRH.out]; rfl, mem_snoc_lt HRL.out HNL.out⟩
        · rw [decide_eq_false hqc]
          clear hqc
          go_upto_region 20 with fail
          go_cut [164] (fun sb wx => sb = .bool (decide (q = 1 ∧ x + 1 < W)) ∧ wx = wc)
          case first =>
            by_cases hq : q = 1
            · have tq : (p : Int).tmod 4 = 1 := by rw [HPQ.out, hq]; rfl
              have tw : IntKind.u8.wrap (1 : Int) = 1 := by decide
              by_cases hc : x + 1 < W
              · have dc1 : decide (x + 1 < W) = true := decide_eq_true hc
                have dc2 : decide ((x : Int) < (W : Int) - 1) = true := decide_eq_true (by omega)
                have HT := Lib.hid (show Value.bool true = .bool (decide (q = 1 ∧ x + 1 < W)) by rw [decide_eq_true ⟨hq, hc⟩])
                clear hq hc
                go_wp2_with fail
                go_meet
                exact ⟨HT.out, rfl⟩
              · have dc1 : decide (x + 1 < W) = false := decide_eq_false hc
                have dc2 : decide ((x : Int) < (W : Int) - 1) = false := decide_eq_false (by omega)
                have HT := Lib.hid (show Value.bool false = .bool (decide (q = 1 ∧ x + 1 < W)) by rw [decide_eq_false (fun h => hc h.2)])
                clear hq hc
                go_wp2_with fail
                go_meet
                exact ⟨HT.out, rfl⟩
            · have tq : (p : Int).tmod 4 = (q : Int) := HPQ.out
              have tw : IntKind.u8.wrap (q : Int) = (q : Int) := IntWalk.u8_in _ (by omega)
              have dq : ((q : Int) == 1) = false := by rw [beq_eq_false_iff_ne]; omega
              have HT := Lib.hid (show Value.bool false = .bool (decide (q = 1 ∧ x + 1 < W)) by rw [decide_eq_false (fun h => hq h.1)])
              clear hq
              go_wp2_with fail
              go_meet
              exact ⟨HT.out, rfl⟩
          obtain ⟨rfl, rfl⟩ := hcut
          by_cases hqc : q = 1 ∧ x + 1 < W
          · rw [decide_eq_true hqc]
            have hc := hqc.2
            obtain ⟨nx, hnx⟩ : ∃ nx, nx = at1 + 1 := ⟨_, rfl⟩
            have hnl : nx < n := by rw [HV.out]; exact beside_lt HOK.out.w1 (by rw [← HV.out]; exact hat) (by rw [hnx]; exact mem_beside.2 (.inr (.inr (.inl ⟨by rw [← HXE.out]; exact hc, rfl⟩))))
            have HNL := Lib.hid hnl
            have z1 : IntKind.i64.wrap ((at1 : Int) + 1) = (nx : Int) := by rw [IntWalk.i64_in _ (by have := HXY.out; omega)]; have := HXY.out; omega
            have HA := Lib.hid (HLS3.out.next (bl wc (.cells #[.int .i64 (nx : Int)] 3)))
            clear hnx hnl hc hqc
            go_wp2_with (at_builtin; refine wpList_append_mine rfl (.tmp 165) (.tmp 168) 56 rfl (gb + 1) 3 i0 (.int .i64 0) 1 8 Try.underlying56 hi0 hz0 hz1 hz2 rfl (by decide) (.slice (some ⟨g, 0, none⟩) R.length cr) R.length (R.map ni) rfl HA.out.own (some ⟨wc.heap.size, 0, Option.none⟩) 1 1 [.int .i64 (nx : Int)] rfl rfl (fun h => by cases h) (by intro ad h; injection h with h; subst h; exact cell_one_new _ _ _) (by simp [Value.oneCell']) (by simp only [maxLen]; omega) (by omega) (by have := HLS3.out.b3; simp; omega) ?_; intro v2 w9 hown hgrow hwh; have hmore := HA.out.more (R1 := R ++ [nx]) hgrow (by rw [List.length_append, List.map_append]; exact hown); have HMore := Lib.hid hmore; clear hown hgrow hwh hmore)
            go_meet
            exact ⟨R ++ [nx], HMore.out, by rw [List.length_append, List.length_singleton]; omega, by rw [List.head?_append, HRH.out]; rfl, mem_snoc_lt HRL.out HNL.out⟩
          · rw [decide_eq_false hqc]
            clear hqc
            go_upto_region 22 with fail
            go_cut [179] (fun sb wx => sb = .bool (decide (q = 2 ∧ 0 < y)) ∧ wx = wc)
            case first =>
              by_cases hq : q = 2
              · have tq : (p : Int).tmod 4 = 2 := by rw [HPQ.out, hq]; rfl
                have tw : IntKind.u8.wrap (2 : Int) = 2 := by decide
                by_cases hc : 0 < y
                · have dc1 : decide (0 < y) = true := decide_eq_true hc
                  have dc2 : decide ((0 : Int) < (y : Int)) = true := decide_eq_true (by omega)
                  have HT := Lib.hid (show Value.bool true = .bool (decide (q = 2 ∧ 0 < y)) by rw [decide_eq_true ⟨hq, hc⟩])
                  clear hq hc
                  go_wp2_with fail
                  go_meet
                  exact ⟨HT.out, rfl⟩
                · have dc1 : decide (0 < y) = false := decide_eq_false hc
                  have dc2 : decide ((0 : Int) < (y : Int)) = false := decide_eq_false (by omega)
                  have HT := Lib.hid (show Value.bool false = .bool (decide (q = 2 ∧ 0 < y)) by rw [decide_eq_false (fun h => hc h.2)])
                  clear hq hc
                  go_wp2_with fail
                  go_meet
                  exact ⟨HT.out, rfl⟩
              · have tq : (p : Int).tmod 4 = (q : Int) := HPQ.out
                have tw : IntKind.u8.wrap (q : Int) = (q : Int) := IntWalk.u8_in _ (by omega)
                have dq : ((q : Int) == 2) = false := by rw [beq_eq_false_iff_ne]; omega
                have HT := Lib.hid (show Value.bool false = .bool (decide (q = 2 ∧ 0 < y)) by rw [decide_eq_false (fun h => hq h.1)])
                clear hq
                go_wp2_with fail
                go_meet
                exact ⟨HT.out, rfl⟩
            obtain ⟨rfl, rfl⟩ := hcut
            by_cases hqc : q = 2 ∧ 0 < y
            · rw [decide_eq_true hqc]
              have hc := hqc.2
              obtain ⟨nx, hnx⟩ : ∃ nx, nx = at1 - W := ⟨_, rfl⟩
              have hnl : nx < n := by rw [HV.out]; exact beside_lt HOK.out.w1 (by rw [← HV.out]; exact hat) (by rw [hnx]; exact mem_beside.2 (.inl ⟨by rw [← HYE.out]; exact hc, rfl⟩))
              have HNL := Lib.hid hnl
              have z1 : IntKind.i64.wrap ((at1 : Int) - (W : Int)) = (nx : Int) := by rw [IntWalk.i64_in _ (by have := HXY.out; omega)]; have := HXY.out; omega
              have HA := Lib.hid (HLS3.out.next (bl wc (.cells #[.int .i64 (nx : Int)] 3)))
              clear hnx hnl hc hqc
              go_wp2_with (at_builtin; refine wpList_append_mine rfl (.tmp 180) (.tmp 185) 56 rfl (gb + 1) 3 i0 (.int .i64 0) 1 8 Try.underlying56 hi0 hz0 hz1 hz2 rfl (by decide) (.slice (some ⟨g, 0, none⟩) R.length cr) R.length (R.map ni) rfl HA.out.own (some ⟨wc.heap.size, 0, Option.none⟩) 1 1 [.int .i64 (nx : Int)] rfl rfl (fun h => by cases h) (by intro ad h; injection h with h; subst h; exact cell_one_new _ _ _) (by simp [Value.oneCell']) (by simp only [maxLen]; omega) (by omega) (by have := HLS3.out.b3; simp; omega) ?_; intro v2 w9 hown hgrow hwh; have hmore := HA.out.more (R1 := R ++ [nx]) hgrow (by rw [List.length_append, List.map_append]; exact hown); have HMore := Lib.hid hmore; clear hown hgrow hwh hmore)
              go_meet
              exact ⟨R ++ [nx], HMore.out, by rw [List.length_append, List.length_singleton]; omega, by rw [List.head?_append, HRH.out]; rfl, mem_snoc_lt HRL.out HNL.out⟩
            · rw [decide_eq_false hqc]
              clear hqc
              go_upto_region 24 with fail
              go_cut [199] (fun sb wx => sb = .bool (decide (q = 3 ∧ y + 1 < H)) ∧ wx = wc)
              case first =>
                by_cases hq : q = 3
                · have tq : (p : Int).tmod 4 = 3 := by rw [HPQ.out, hq]; rfl
                  have tw : IntKind.u8.wrap (3 : Int) = 3 := by decide
                  by_cases hc : y + 1 < H
                  · have dc1 : decide (y + 1 < H) = true := decide_eq_true hc
                    have dc2 : decide ((y : Int) < (H : Int) - 1) = true := decide_eq_true (by omega)
                    have HT := Lib.hid (show Value.bool true = .bool (decide (q = 3 ∧ y + 1 < H)) by rw [decide_eq_true ⟨hq, hc⟩])
                    clear hq hc
                    go_wp2_with fail
                    go_meet
                    exact ⟨HT.out, rfl⟩
                  · have dc1 : decide (y + 1 < H) = false := decide_eq_false hc
                    have dc2 : decide ((y : Int) < (H : Int) - 1) = false := decide_eq_false (by omega)
                    have HT := Lib.hid (show Value.bool false = .bool (decide (q = 3 ∧ y + 1 < H)) by rw [decide_eq_false (fun h => hc h.2)])
                    clear hq hc
                    go_wp2_with fail
                    go_meet
                    exact ⟨HT.out, rfl⟩
                · have tq : (p : Int).tmod 4 = (q : Int) := HPQ.out
                  have tw : IntKind.u8.wrap (q : Int) = (q : Int) := IntWalk.u8_in _ (by omega)
                  have dq : ((q : Int) == 3) = false := by rw [beq_eq_false_iff_ne]; omega
                  have HT := Lib.hid (show Value.bool false = .bool (decide (q = 3 ∧ y + 1 < H)) by rw [decide_eq_false (fun h => hq h.1)])
                  clear hq
                  go_wp2_with fail
                  go_meet
                  exact ⟨HT.out, rfl⟩
              obtain ⟨rfl, rfl⟩ := hcut
              by_cases hqc : q = 3 ∧ y + 1 < H
              · rw [decide_eq_true hqc]
                have hc := hqc.2
                obtain ⟨nx, hnx⟩ : ∃ nx, nx = at1 + W := ⟨_, rfl⟩
                have hnl : nx < n := by rw [HV.out]; exact beside_lt HOK.out.w1 (by rw [← HV.out]; exact hat) (by rw [hnx]; exact mem_beside.2 (.inr (.inr (.inr ⟨by rw [← HYE.out]; exact hc, rfl⟩))))
                have HNL := Lib.hid hnl
                have z1 : IntKind.i64.wrap ((at1 : Int) + (W : Int)) = (nx : Int) := by rw [IntWalk.i64_in _ (by have := HXY.out; omega)]; have := HXY.out; omega
                have HA := Lib.hid (HLS3.out.next (bl wc (.cells #[.int .i64 (nx : Int)] 3)))
                clear hnx hnl hc hqc
                go_wp2_with (at_builtin; refine wpList_append_mine rfl (.tmp 200) (.tmp 205) 56 rfl (gb + 1) 3 i0 (.int .i64 0) 1 8 Try.underlying56 hi0 hz0 hz1 hz2 rfl (by decide) (.slice (some ⟨g, 0, none⟩) R.length cr) R.length (R.map ni) rfl HA.out.own (some ⟨wc.heap.size, 0, Option.none⟩) 1 1 [.int .i64 (nx : Int)] rfl rfl (fun h => by cases h) (by intro ad h; injection h with h; subst h; exact cell_one_new _ _ _) (by simp [Value.oneCell']) (by simp only [maxLen]; omega) (by omega) (by have := HLS3.out.b3; simp; omega) ?_; intro v2 w9 hown hgrow hwh; have hmore := HA.out.more (R1 := R ++ [nx]) hgrow (by rw [List.length_append, List.map_append]; exact hown); have HMore := Lib.hid hmore; clear hown hgrow hwh hmore)
                go_meet
                exact ⟨R ++ [nx], HMore.out, by rw [List.length_append, List.length_singleton]; omega, by rw [List.head?_append, HRH.out]; rfl, mem_snoc_lt HRL.out HNL.out⟩
              · rw [decide_eq_false hqc]
                clear hqc
                go_wp2_with fail
                go_meet
                exact ⟨R, HLS3.out, by omega, HRH.out, HRL.out⟩
      obtain ⟨R2, hLS, hRn3, hRh2, hRl2⟩ := hcut
      have HLS4 := Lib.hid hLS
      clear HLS3 cm
      have hne2 : R2 ≠ [] := by intro e; rw [e] at hRh2; cases hRh2
      obtain ⟨lq, hlq⟩ : ∃ lq, R2.length = lq + 1 := ⟨R2.length - 1, by have h9 : 0 < R2.length := List.length_pos_iff.2 hne2; omega⟩
      obtain ⟨g2, cr2, rfl⟩ := own_some hLS.own (by omega)
      obtain ⟨at2, ha2⟩ : ∃ at2, R2[lq]? = some at2 := ⟨R2[lq], List.getElem?_eq_getElem (by omega)⟩
      have ca2 : wc.cell? ⟨g2, lq, none⟩ = some (.int .i64 (at2 : Int)) := by
        have := own_cell hLS.own (i := lq) (by omega)
        rw [List.getD_eq_getElem?_getD, ha2] at this
        exact this
      have hlast : R2.getLast? = some at2 := by rw [List.getLast?_eq_getElem?, hlq, Nat.add_sub_cancel, ha2]
      have yl2 : IntKind.i64.wrap ((R2.length : Int) - 1) = (lq : Int) := by rw [IntWalk.i64_in _ (by omega)]; omega
      have m0 : (0 : Int) ≤ (lq : Int) := by omega
      have m1 : (lq : Int) < (R2.length : Int) := by omega
      have hR2n : R2.length ≤ 202 := by omega
      have HR2H := Lib.hid hRh2
      have HR2L := Lib.hid hRl2
      have HLAST := Lib.hid hlast
      obtain ⟨p0, p1, p2⟩ := hLS.fm.cells
      obtain ⟨k, hk⟩ : ∃ k, k = costV (W : Int) (H : Int) C (zs R2) := ⟨_, rfl⟩
      have hcost := ucost_any (cap := cap) (cl := cr2) (W : Int) (H : Int) (RdL_top hLS.fm.rd) (show RdL wc 0 wc.heap.size (some ⟨g2, 0, none⟩) ((zs R2).map iv) by
        rw [zs_map]
        obtain ⟨A9, c9, e9, hr9, _⟩ := own_rd hLS.own
        injection e9 with e9
        subst e9
        exact RdL_top hr9) (by rw [zs_len]; omega)
      rw [← hk, ← HN.out, zs_len] at hcost
      have HKK := Lib.hid hk
      have HCO := Lib.hid hcost
      have HLQ := Lib.hid hlq
      clear hLS hne2 hRh2 hRl2 ha2 hlast hk hcost hlq
      by_cases hb2 : at2 = s2
      · have db : ((at2 : Int) != (s2 : Int)) = false := by rw [bne_eq_false_iff_eq, hb2]
        have HB9 := Lib.hid hb2
        clear hb2
        go_wp2_with fail
        refine HCO.out.mono ?_
        rintro e w7 ⟨rfl, hb⟩
        have HLS5 := Lib.hid (HLS4.out.next hb)
        clear hb HLS4 HCO ca2
        by_cases hk0 : 0 ≤ k
        · have dk : decide (0 ≤ k) = true := decide_eq_true hk0
          have hkey := HKEY.out R2 HR2H.out (by rw [HLAST.out, HB9.out]) (by rw [← HKK.out]; exact hk0)
          rw [← HKK.out] at hkey
          obtain ⟨hfe, hdk⟩ := hkey
          have de : (fe != 0) = false := by rw [bne_eq_false_iff_eq]; exact hfe
          have dkd : decide (k < d) = false := decide_eq_false (by omega)
          clear hfe
          go_wp2_with fail
          go_roundw
          case rel => exact ⟨R2, i + 1, by go_num, by omega, HLS5.out, by omega, HR2H.out, HR2L.out⟩
          case measure => simp [intOf]; omega
        · have dk : decide (0 ≤ k) = false := decide_eq_false hk0
          go_wp2_with fail
          go_roundw
          case rel => exact ⟨R2, i + 1, by go_num, by omega, HLS5.out, by omega, HR2H.out, HR2L.out⟩
          case measure => simp [intOf]; omega
      · have db : ((at2 : Int) != (s2 : Int)) = true := by rw [bne_iff_ne]; omega
        go_wp2_with fail
        go_roundw
        case rel => exact ⟨R2, i + 1, by go_num, by omega, HLS4.out, by omega, HR2H.out, HR2L.out⟩
        case measure => simp [intOf]; omega
    · have dlt : decide (i < mm) = false := decide_eq_false hlt
      obtain rfl : mm = i := by omega
      have HLS2 := Lib.hid hLS
      clear hLS hRn hRh hRl
      go_wp2_with fail
      refine (works39_any _).mono ?_
      rintro e w6 ⟨rfl, hb⟩
      go_wp2
      go_ret
      exact ⟨rfl, bt HLS2.out.fm.keep hb⟩
end Rou
end Go.Proofs.Ytgncngpgodfijaa
