/- A part of the proof of WholeFaults. -/
import Derived.Test.YtekjehbkmlodmaaGreatZO
import Derived.Test.YtekjehbkmlodmaaGreatEvKtop
set_option linter.unusedVariables false
set_option linter.unusedSimpArgs false
namespace Go.Proofs.YtekjehbkmlodmaaGreat
open Go.RowKit
namespace Top
open Til (z16 In16)
open Txt (bv bv_one)
open Nav (cfL)
def CfSh : Sh := (.cat (.cat (.int .u32) (.cat (.int .i64) (.cat (.int .i64) (.cat (.int .i64) .unit)))) (.cat (.cat (.int .i64) (.cat (.int .i64) (.cat (.int .i64) (.cat (.int .i64) (.cat (.int .i64) (.cat (.int .i64) .unit)))))) (.cat (.cat (.int .i64) (.cat (.int .i64) (.cat (.int .i64) .unit))) (.cat (.int .i64) (.cat (.int .i64) (.cat (.int .i64) (.cat (.int .i64) (.cat (.int .i64) (.cat (.int .i64) (.cat (.int .i64) (.cat (.int .i64) (.cat (.int .i64) (.cat (.int .i64) .unit)))))))))))))
def SpSh : Sh := (.cat (.int .i64) (.cat (.int .i64) .unit))
theorem open_conf {W : World} {v : Value} (h : VSat W CfSh true v) : ∃ r0 r1 r2 r3 m0 m1 m2 m3 m4 m5 n0 n1 n2 far stp gap need meas away num den tms spr : Int, v = .agg (cfL r0 r1 r2 r3 m0 m1 m2 m3 m4 m5 n0 n1 n2 far stp gap need meas away num den tms spr).toArray := by
 obtain ⟨cs, rfl, h⟩ := h
 obtain ⟨_, _, rfl, ⟨_, _, rfl, ⟨cr0, rfl, _⟩, _, _, rfl, ⟨cr1, rfl, _⟩, _, _, rfl, ⟨cr2, rfl, _⟩, _, _, rfl, ⟨cr3, rfl, _⟩, rfl⟩, _, _, rfl, ⟨_, _, rfl, ⟨cm0, rfl, _⟩, _, _, rfl, ⟨cm1, rfl, _⟩, _, _, rfl, ⟨cm2, rfl, _⟩, _, _, rfl, ⟨cm3, rfl, _⟩, _, _, rfl, ⟨cm4, rfl, _⟩, _, _, rfl, ⟨cm5, rfl, _⟩, rfl⟩, _, _, rfl, ⟨_, _, rfl, ⟨cn0, rfl, _⟩, _, _, rfl, ⟨cn1, rfl, _⟩, _, _, rfl, ⟨cn2, rfl, _⟩, rfl⟩, _, _, rfl, ⟨cfar, rfl, _⟩, _, _, rfl, ⟨cstp, rfl, _⟩, _, _, rfl, ⟨cgap, rfl, _⟩, _, _, rfl, ⟨cneed, rfl, _⟩, _, _, rfl, ⟨cmeas, rfl, _⟩, _, _, rfl, ⟨caway, rfl, _⟩, _, _, rfl, ⟨cnum, rfl, _⟩, _, _, rfl, ⟨cden, rfl, _⟩, _, _, rfl, ⟨ctms, rfl, _⟩, _, _, rfl, ⟨cspr, rfl, _⟩, rfl⟩ := h
 exact ⟨cr0, cr1, cr2, cr3, cm0, cm1, cm2, cm3, cm4, cm5, cn0, cn1, cn2, cfar, cstp, cgap, cneed, cmeas, caway, cnum, cden, ctms, cspr, rfl⟩
theorem open_spot {W : World} {v : Value} (h : VSat W SpSh true v) : ∃ x y : Int, v = .agg #[.int .i64 x, .int .i64 y] := by
 obtain ⟨cs, rfl, _, _, rfl, ⟨x, rfl, _⟩, _, _, rfl, ⟨y, rfl, _⟩, rfl⟩ := h
 exact ⟨x, y, rfl⟩
theorem open_u8 {W : World} {v : Value} (h : VSat W (.int .u8) false v) : ∃ m : Nat, v = .int .u8 (m : Int) ∧ m < 256 := by
 obtain ⟨n, e, hw⟩ := h
 injection e with e
 subst e
 have hb := bounds_u8 hw
 obtain ⟨m, rfl⟩ : ∃ m : Nat, n = (m : Int) := ⟨n.toNat, by omega⟩
 exact ⟨m, rfl, by omega⟩
theorem open_u16 {W : World} {v : Value} (h : VSat W (.int .u16) false v) : ∃ m : Nat, v = .int .u16 (m : Int) ∧ m < 65536 := by
 obtain ⟨n, e, hw⟩ := h
 injection e with e
 subst e
 have hb := bounds_u16 hw
 obtain ⟨m, rfl⟩ : ∃ m : Nat, n = (m : Int) := ⟨n.toNat, by omega⟩
 exact ⟨m, rfl, by omega⟩
theorem open_i16 {W : World} {v : Value} (h : VSat W (.slice (.int .i16)) false v) : ∃ (A : Option Addr) (L : List Int) (cap : Nat), v = .slice A L.length cap ∧ RdL W 0 W.heap.size A (L.map z16) ∧ (∀ x ∈ L, -32768 ≤ x ∧ x ≤ 32767) ∧ L.length ≤ cap ∧ cap ≤ maxLen ∧ (A = none → L.length = 0 ∧ cap = 0) := by
 obtain ⟨A, L, cap, h1, h2, h3, h4⟩ := open_slice_of (fun x : Int => [z16 x]) (fun x => -32768 ≤ x ∧ x ≤ 32767) (.int .i16) 1 rfl (fun _ => rfl) (by decide) (by
  rintro cs ⟨i, rfl, hi⟩
  exact ⟨i, rfl, bounds_i16 hi⟩) h
 rw [flatMap_one] at h2
 exact ⟨A, L, cap, h1, h2, h3, h4⟩
theorem open_bytes {W : World} {v : Value} (h : VSat W (.slice (.int .u8)) false v) :
  ∃ A B cap, v = .slice A (List.length B) cap ∧ RdL W 0 W.heap.size A (B.map bv) ∧ B.length ≤ cap ∧ cap ≤ maxLen ∧ (A = none → B.length = 0 ∧ cap = 0) := by
 obtain ⟨A, B, cap, e, h1, _, h2, h3, h4⟩ := open_slice_of (fun c : UInt8 => [bv c]) (fun _ => True) (.int .u8) 1 rfl (fun _ => rfl) (by decide) (fun cs hs => by
  obtain ⟨n, rfl, hw⟩ := hs
  have hb := bounds_u8 hw
  refine ⟨UInt8.ofNat n.toNat, ?_, trivial⟩
  unfold bv
  rw [UInt8.toNat_ofNat', Nat.mod_eq_of_lt (by omega), Int.toNat_of_nonneg (by omega)]) h
 rw [flatMap_one] at h1
 exact ⟨A, B, cap, e, h1, h2, h3, h4⟩
theorem walkFaults (v0 v1 v2 v3 v4 v5 v6 v7 v8 : Value) (W : World) (h0 : VSat W (.int .u8) false v0) (h1 : VSat W (.int .u8) false v1) (h2 : VSat W (.slice (.int .i16)) false v2) (h3 : VSat W (.int .u16) false v3) (h4 : VSat W (.int .u8) false v4) (h5 : VSat W (.int .u16) false v5) (h6 : VSat W CfSh true v6) (h7 : VSat W SpSh true v7) (h8 : VSat W (.slice (.int .u8)) false v8) :
  Calls Tryz.prog 3 #[v0, v1, v2, v3, v4, v5, v6, v7, v8] W fun e W' => e = .returned (.bool true) ∧ Below W.heap.size W W' := by
 obtain ⟨a, rfl, ha⟩ := open_u8 h0
 obtain ⟨b, rfl, hb⟩ := open_u8 h1
 obtain ⟨zA, Z, zc, rfl, hzr, hz, hzc, _, _⟩ := open_i16 h2
 obtain ⟨at', rfl, hat⟩ := open_u16 h3
 obtain ⟨mask, rfl, hmask⟩ := open_u8 h4
 obtain ⟨cut, rfl, hcut⟩ := open_u16 h5
 obtain ⟨r0, r1, r2, r3, m0, m1, m2, m3, m4, m5, n0, n1, n2, far, stp, gap, need, meas, away, num, den, tms, spr, rfl⟩ := open_conf h6
 obtain ⟨x, y, rfl⟩ := open_spot h7
 obtain ⟨bA, B, bc, rfl, hbr, hbc, _, hbA⟩ := open_bytes h8
 obtain ⟨k, hck⟩ := Nav.check_any r0 r1 r2 r3 m0 m1 m2 m3 m4 m5 n0 n1 n2 far stp gap need meas away num den tms spr
 exact law_core r0 r1 r2 r3 m0 m1 m2 m3 m4 m5 n0 n1 n2 far stp gap need meas away num den tms spr x y k a b ha hb hck Orc.runs_any zA Z Z.length zc rfl hzc hz bA B B.length bc rfl hbc hbA at' mask cut hat hmask hcut W hzr hbr
end Top
end Go.Proofs.YtekjehbkmlodmaaGreat
