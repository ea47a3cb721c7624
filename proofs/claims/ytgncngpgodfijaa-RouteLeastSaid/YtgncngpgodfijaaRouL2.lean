/-
  The law RouteRound, walked and joined.
-/
import Derived.Test.YtgncngpgodfijaaRouL1
namespace Go.Proofs.Ytgncngpgodfijaa
open Go.RowKit
set_option linter.unusedVariables false
namespace Rou
theorem got_any {w w' : World} {W H s t : Nat} {C : List Int} {e : Ending} (h : GotF w (W : Int) (H : Int) C (s : Int) (t : Int) e w') (Hk : Ok W H C) (hs : s < W * H) (ht : t < W * H) :
    ∃ D K r, Sol W H C s D K r ∧ ((dd D t = -1 ∧ e = .returned (.tuple #[.slice none 0 0, .int .i64 0, .int .i64 7]) ∧ Below w.heap.size w w') ∨ (0 ≤ dd D t ∧ GotY w W H C s t (dd D t) e w')) := by
  have hf : fcode (W : Int) (H : Int) C (s : Int) (t : Int) = 0 := by
    unfold fcode
    rw [ok_code Hk, if_neg (by decide), if_neg (by have := Hk.len; omega)]
  obtain ⟨v, d, c, he, hb, ⟨h0, h1⟩ | ⟨h0, D, K, r, S, hh⟩⟩ := h
  · exact absurd hf h0
  · have S : Sol W H C s D K r := S
    exact ⟨D, K, r, S, got_yes ⟨v, d, c, he, hb, .inr ⟨h0, D, K, r, S, hh⟩⟩ Hk hs ht S⟩
/-- what of Find's result the laws read: what it costs and what it tells -/
def GotC (w : World) (x k : Int) (e : Ending) (w' : World) : Prop := ∃ v, e = .returned (.tuple #[v, .int .i64 x, .int .i64 k]) ∧ Below w.heap.size w w'
theorem got_c {w w' : World} {W H s t : Nat} {C : List Int} {e : Ending} (h : GotF w (W : Int) (H : Int) C (s : Int) (t : Int) e w') (Hk : Ok W H C) (hs : s < W * H) (ht : t < W * H) :
    ∃ D K r x k, Sol W H C s D K r ∧ GotC w x k e w' ∧ ((dd D t = -1 ∧ x = 0 ∧ k = 7) ∨ (0 ≤ x ∧ x ≤ 4398046511104 ∧ dd D t = x ∧ k = 0)) := by
  obtain ⟨D, K, r, S, ⟨h1, he, hb⟩ | ⟨h1, v, P, he, _, _, _, _, _, _, hb⟩⟩ := got_any h Hk hs ht
  · exact ⟨D, K, r, 0, 7, S, ⟨_, he, hb⟩, .inl ⟨h1, rfl, rfl⟩⟩
  · have := S.rng t ht
    exact ⟨D, K, r, dd D t, 0, S, ⟨_, he, hb⟩, .inr ⟨h1, by omega, rfl, rfl⟩⟩
/-- going round is no cheaper -/
theorem Sol.round {w h s u t : Nat} {C D K D' K' : List Int} {r r' : Nat → Nat} (S : Sol w h C s D K r) (S' : Sol w h C u D' K' r') (ht : t < w * h) (h1 : 0 ≤ dd D u) (h2 : 0 ≤ dd D' t) : 0 ≤ dd D t ∧ dd D t ≤ dd D u + dd D' t := by
  obtain ⟨l, w1, w2, w3, _⟩ := S'.some (r' t) t (Nat.le_refl _) ht h2
  obtain ⟨a, q, e⟩ : ∃ a q, l ++ [t] = a :: q := by cases l with
    | nil => exact ⟨t, [], rfl⟩
    | cons x y => exact ⟨x, y ++ [t], rfl⟩
  have hl : (a :: q).getLast (by simp) = t := by
    have : (l ++ [t]).getLast (by simp) = t := by simp
    rw [← this]
    congr 1
    exact e.symm
  have ha : a = u := by
    have : (l ++ [t]).head (by simp) = a := by simp only [e, List.head_cons]
    rw [← this, w2]
  rw [e] at w1 w3
  have := S.least q a w1 (by rw [ha]; exact h1)
  rw [hl, ha] at this
  rw [ha] at w3
  omega
theorem lawRound_out (a b c1 c2 c3 : Nat) (A : Option Addr) (m cap : Nat) (h : 200 < m) (w : World) :
    Calls Try.prog 13 #[.int .u8 (a : Int), .int .u8 (b : Int), .slice A m cap, .int .u8 (c1 : Int), .int .u8 (c2 : Int), .int .u8 (c3 : Int)] w (LawEnd w) := by
  have d1 : decide (200 < (m : Int)) = true := decide_eq_true (by omega)
  go_enter Try.func13, Try.ntmps13
  go_wp2_with fail
  refine (works39_any _).mono ?_
  rintro e w1 ⟨rfl, hb⟩
  go_wp2
  go_ret
  exact ⟨rfl, hb⟩
set_option maxRecDepth 100000 in
set_option maxHeartbeats 2000000 in
theorem lawRound_core (a b c1 c2 c3 : Nat) (ha : a < 256) (hb : b < 256) (hc1 : c1 < 256) (hc2 : c2 < 256) (hc3 : c3 < 256) (A0 : Option Addr) (Z : List Int) (m cap0 : Nat) (w : World) (hrd : RdL w 0 w.heap.size A0 (Z.map zv16)) (hl : Z.length = m) (hz : ∀ x ∈ Z, -32768 ≤ x ∧ x ≤ 32767) (hm : m ≤ 200) :
    Calls Try.prog 13 #[.int .u8 (a : Int), .int .u8 (b : Int), .slice A0 m cap0, .int .u8 (c1 : Int), .int .u8 (c2 : Int), .int .u8 (c3 : Int)] w (LawEnd w) := by
  have d1 : decide (200 < (m : Int)) = false := decide_eq_false (by omega)
  have hmade := made_any a b ha hb A0 Z m cap0 0 w.heap.size w hrd hl (by omega) (Nat.le_refl _) hz
  have hok := made_ok a b Z hz
  have hbg := hok.big
  have hln := hok.len
  have hW : madeW a ≤ 12 := by unfold madeW; omega
  have hH : madeW b ≤ 12 := by unfold madeW; omega
  have hWH := Nat.mul_le_mul hW hH
  generalize madeL a b Z = C at *
  generalize madeW a = W at *
  generalize madeW b = H at *
  obtain ⟨n, hn⟩ : ∃ n, n = C.length := ⟨_, rfl⟩
  have hnV : n = W * H := hn.trans hln
  have hn1 : 1 ≤ n := by omega
  have hn2 : n ≤ 144 := by omega
  obtain ⟨s1, hs1⟩ : ∃ s, s = c1 % n := ⟨_, rfl⟩
  obtain ⟨s2, hs2⟩ : ∃ s, s = c2 % n := ⟨_, rfl⟩
  obtain ⟨s3, hs3⟩ : ∃ s, s = c3 % n := ⟨_, rfl⟩
  have hsn1 : s1 < n := by rw [hs1]; exact Nat.mod_lt _ hn1
  have hsn2 : s2 < n := by rw [hs2]; exact Nat.mod_lt _ hn1
  have hsn3 : s3 < n := by rw [hs3]; exact Nat.mod_lt _ hn1
  have t1 : (c1 : Int).tmod (n : Int) = (s1 : Int) := by rw [tmodN, hs1]
  have t2 : (c2 : Int).tmod (n : Int) = (s2 : Int) := by rw [tmodN, hs2]
  have t3 : (c3 : Int).tmod (n : Int) = (s3 : Int) := by rw [tmodN, hs3]
  have wc1 : IntKind.i64.wrap (c1 : Int) = (c1 : Int) := IntWalk.i64_in _ (by omega)
  have wc2 : IntKind.i64.wrap (c2 : Int) = (c2 : Int) := IntWalk.i64_in _ (by omega)
  have wc3 : IntKind.i64.wrap (c3 : Int) = (c3 : Int) := IntWalk.i64_in _ (by omega)
  have ws1 : IntKind.i64.wrap (s1 : Int) = (s1 : Int) := IntWalk.i64_in _ (by omega)
  have ws2 : IntKind.i64.wrap (s2 : Int) = (s2 : Int) := IntWalk.i64_in _ (by omega)
  have ws3 : IntKind.i64.wrap (s3 : Int) = (s3 : Int) := IntWalk.i64_in _ (by omega)
  have nz : ((n : Int) == 0) = false := by rw [beq_eq_false_iff_ne]; omega
  have nz2 : (n : Int) ≠ 0 := by omega
  have nz3 : n ≠ 0 := by omega
  have HOK := Lib.hid hok
  have HN := Lib.hid hn
  have HV := Lib.hid hnV
  clear hrd hl hz hok hln hbg hW hH hWH hn hnV hs1 hs2 hs3
  go_enter Try.func13, Try.ntmps13
  go_wp2_with fail
  refine hmade.mono ?_
  rintro e wa ⟨v, rfl, hown, hba⟩
  rw [← HN.out] at hown
  obtain ⟨A, cap, rfl, hra, _, _, _⟩ := own_rd hown
  have S1 : FM w wa.heap.size W H n cap w.heap.size wa.heap.size A C (wa.alloc (.cells #[.int .i64 (W : Int), .int .i64 (H : Int), .slice A n cap] 80)) := ⟨Blk.mk _ _ _, hra.alloc _, hba.alloc hba.size _, by simp⟩
  have HS1 := Lib.hid S1
  obtain ⟨p0, p1, p2⟩ := S1.cells
  clear hown hba hra S1 hmade
  go_upto_region 4 with fail
  go_cut [13, 14, 15, 16] (fun s13 s14 s15 s16 wx => s13 = .pointer (some ⟨wa.heap.size, 0, none⟩) ∧ s14 = .int .i64 (s1 : Int) ∧ s15 = .int .i64 (s2 : Int) ∧ s16 = .int .i64 (s3 : Int) ∧ FM w wa.heap.size W H n cap w.heap.size wa.heap.size A C wx)
  case first =>
    go_wp2_with fail
    go_quiet (fail)
    go_wp2_with fail
    go_meet
    exact ⟨rfl, rfl, rfl, rfl, HS1.out.drewN _⟩
  obtain ⟨rfl, rfl, rfl, rfl, hS⟩ := hcut
  have HS2 := Lib.hid hS
  clear hS p0 p1 p2 wc1 wc2 wc3 ws1 ws2 ws3 t1 t2 t3 nz nz2 nz3
  obtain ⟨p0, p1, p2⟩ := HS2.out.cells
  clear HS1
  go_wp2_with fail
  refine (own_any _ _ _ _ _).mono ?_
  rintro e w2 ⟨rfl, hb⟩
  have HS3 := Lib.hid (HS2.out.next hb)
  have hf1 := find_any (cap := cap) (W : Int) (H : Int) (s1 : Int) (s2 : Int) HS3.out.rd HS3.out.hi
  rw [← HN.out] at hf1
  clear hb p0 p1 p2 HS2
  go_wp2_with fail
  refine hf1.mono ?_
  rintro e w3 hg
  obtain ⟨D, K, r, x, kx, hsol, ⟨v, rfl, hb⟩, hx⟩ := got_c hg HOK.out (by rw [← HV.out]; exact hsn1) (by rw [← HV.out]; exact hsn2)
  have HS4 := Lib.hid (HS3.out.next hb)
  have HD1 := Lib.hid hsol
  have HX1 := Lib.hid hx
  clear hb hg hf1 hsol hx HS3
  obtain ⟨p0, p1, p2⟩ := HS4.out.cells
  go_wp2_with fail
  refine (own_any _ _ _ _ _).mono ?_
  rintro e w4 ⟨rfl, hb⟩
  have HS5 := Lib.hid (HS4.out.next hb)
  have hf2 := find_any (cap := cap) (W : Int) (H : Int) (s2 : Int) (s3 : Int) HS5.out.rd HS5.out.hi
  rw [← HN.out] at hf2
  clear hb p0 p1 p2 HS4
  go_wp2_with fail
  refine hf2.mono ?_
  rintro e w5 hg
  obtain ⟨D2, K2, r2, y, ky, hsol, ⟨v2, rfl, hb⟩, hx⟩ := got_c hg HOK.out (by rw [← HV.out]; exact hsn2) (by rw [← HV.out]; exact hsn3)
  have HS6 := Lib.hid (HS5.out.next hb)
  have HD2 := Lib.hid hsol
  have HX2 := Lib.hid hx
  clear hb hg hf2 hsol hx HS5
  obtain ⟨p0, p1, p2⟩ := HS6.out.cells
  go_wp2_with fail
  refine (own_any _ _ _ _ _).mono ?_
  rintro e w6 ⟨rfl, hb⟩
  have HS7 := Lib.hid (HS6.out.next hb)
  have hf3 := find_any (cap := cap) (W : Int) (H : Int) (s1 : Int) (s3 : Int) HS7.out.rd HS7.out.hi
  rw [← HN.out] at hf3
  clear hb p0 p1 p2 HS6
  go_wp2_with fail
  refine hf3.mono ?_
  rintro e w7 hg
  obtain ⟨D3, K3, r3, z, kz, hsol, ⟨v3, rfl, hb⟩, hx⟩ := got_c hg HOK.out (by rw [← HV.out]; exact hsn1) (by rw [← HV.out]; exact hsn3)
  obtain rfl := hsol.same HD1.out
  have HS8 := Lib.hid (HS7.out.next hb)
  clear hb hg hf3 hsol HS7
  have hx1 := HX1.out
  have hx2 := HX2.out
  rcases hx1 with ⟨_, _, rfl⟩ | ⟨x1, x2, x3, rfl⟩
  · go_wp2_with fail
    refine (works39_any _).mono ?_
    rintro e w8 ⟨rfl, hb⟩
    go_wp2
    go_ret
    exact ⟨rfl, bt HS8.out.keep hb⟩
  · rcases hx2 with ⟨_, _, rfl⟩ | ⟨y1, y2, y3, rfl⟩
    · go_wp2_with fail
      refine (works39_any _).mono ?_
      rintro e w8 ⟨rfl, hb⟩
      go_wp2
      go_ret
      exact ⟨rfl, bt HS8.out.keep hb⟩
    · obtain ⟨z1, z2⟩ := HD1.out.round HD2.out (t := s3) (by rw [← HV.out]; exact hsn3) (by rw [x3]; exact x1) (by rw [y3]; exact y1)
      rw [x3, y3] at z2
      rcases hx with ⟨z3, _⟩ | ⟨z3, z4, z5, rfl⟩
      · omega
      · rw [z5] at z2
        have dz : decide (z ≤ x + y) = true := decide_eq_true z2
        clear x3 y3 z5
        go_wp2_with fail
        refine (works39_any _).mono ?_
        rintro e w8 ⟨rfl, hb⟩
        go_wp2
        go_ret
        exact ⟨rfl, bt HS8.out.keep hb⟩
theorem walkRound (v0 v1 v2 v3 v4 v5 : Value) (W : World) (h0 : VSat W (.int .u8) false v0) (h1 : VSat W (.int .u8) false v1) (h2 : VSat W (.slice (.int .i16)) false v2) (h3 : VSat W (.int .u8) false v3) (h4 : VSat W (.int .u8) false v4) (h5 : VSat W (.int .u8) false v5) :
    Calls Try.prog 13 #[v0, v1, v2, v3, v4, v5] W fun e W' => e = .returned (.bool true) ∧ Below W.heap.size W W' := by
  obtain ⟨a, rfl, ha⟩ := open_u8 h0
  obtain ⟨b, rfl, hb⟩ := open_u8 h1
  obtain ⟨A, Z, cap, rfl, hr, hz⟩ := open_i16 h2
  obtain ⟨c1, rfl, hc1⟩ := open_u8 h3
  obtain ⟨c2, rfl, hc2⟩ := open_u8 h4
  obtain ⟨c3, rfl, hc3⟩ := open_u8 h5
  by_cases h : 200 < Z.length
  · exact lawRound_out a b c1 c2 c3 A Z.length cap h W
  · exact lawRound_core a b c1 c2 c3 ha hb hc1 hc2 hc3 A Z Z.length cap W hr rfl hz (by omega)
end Rou
end Go.Proofs.Ytgncngpgodfijaa
