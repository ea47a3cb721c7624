/-
  What the laws of package pyramid share: the field, its pyramid and the box, in memory.
-/
import Derived.Test.YtoaagemofjddiaaPyrG
namespace Go.Proofs.Ytoaagemofjddiaa
open Go.RowKit
set_option linter.unusedVariables false
namespace Pyr

/-- the box, the field and its pyramid -/
structure LN (w : World) (W H n cap lo hi : Nat) (A : Option Addr) (L : List Int) (bx : Bo) (gb gf bp bl cl sn : Nat) (lvs : List Lv) (wr : World) : Prop where
  box : Blk wr gb 46 (boc bx)
  f : Blk wr gf 24 [.int .i64 (W : Int), .int .i64 (H : Int), .slice A n cap]
  rd : RdL wr lo hi A (L.map zv)
  ps : PS wr bp bl cl lvs sn
  keep : Below w.heap.size w wr
  nb : gb ≠ bp
  nf : gf ≠ bp
  nr : hi ≤ bp
  ge : w.heap.size ≤ bp
section
variable {w wr w' : World} {W H n cap lo hi : Nat} {A : Option Addr} {L : List Int} {bx : Bo} {gb gf bp bl cl sn sn' : Nat} {lvs : List Lv}
theorem LN.next (S : LN w W H n cap lo hi A L bx gb gf bp bl cl sn lvs wr) (hb : Below wr.heap.size wr w') : LN w W H n cap lo hi A L bx gb gf bp bl cl sn lvs w' :=
  ⟨S.box.next hb, S.f.next hb, S.rd.next hb, S.ps.next hb, bt S.keep hb, S.nb, S.nf, S.nr, S.ge⟩
theorem LN.drew (S : LN w W H n cap lo hi A L bx gb gf bp bl cl sn lvs wr) : LN w W H n cap lo hi A L bx gb gf bp bl cl sn lvs wr.drew :=
  ⟨S.box.drew, S.f.drew, S.rd.drew, S.ps.drew, S.keep.drew, S.nb, S.nf, S.nr, S.ge⟩
theorem LN.drewN (S : LN w W H n cap lo hi A L bx gb gf bp bl cl sn lvs wr) (q : Nat) : LN w W H n cap lo hi A L bx gb gf bp bl cl sn lvs (wr.drewN q) :=
  ⟨S.box.drewN q, S.f.drewN q, S.rd.drewN q, S.ps.drewN q, below_drewN S.keep q, S.nb, S.nf, S.nr, S.ge⟩
theorem LN.over (S : LN w W H n cap lo hi A L bx gb gf bp bl cl sn lvs wr) (hP : PS w' bp bl cl lvs sn') (hg : wr.grownBy w' (some bp)) : LN w W H n cap lo hi A L bx gb gf bp bl cl sn' lvs w' :=
  ⟨S.box.grown hg (fun e => S.nb (Option.some.inj e)), S.f.grown hg (fun e => S.nf (Option.some.inj e)), S.rd.grown hg (fun g e => .inr (by have := Option.some.inj e; have := S.nr; omega)), hP,
    S.keep.grown hg S.keep.size (fun k hk => by have := Option.some.inj hk; have := S.ge; omega), S.nb, S.nf, S.nr, S.ge⟩
theorem LN.s (S : LN w W H n cap lo hi A L bx gb gf bp bl cl sn lvs wr) : LN w W H n cap lo hi A L bx gb gf bp bl cl sn lvs wr ∧
    wr.cell? ⟨gb, 0, Option.none⟩ = some (.int .i64 bx.x0) ∧ wr.cell? ⟨gb, 1, Option.none⟩ = some (.int .i64 bx.y0) ∧ wr.cell? ⟨gb, 2, Option.none⟩ = some (.int .i64 bx.x1) ∧ wr.cell? ⟨gb, 3, Option.none⟩ = some (.int .i64 bx.y1) ∧
    wr.cell? ⟨gf, 0, Option.none⟩ = some (.int .i64 (W : Int)) ∧ wr.cell? ⟨gf, 1, Option.none⟩ = some (.int .i64 (H : Int)) ∧ wr.cell? ⟨gf, 2, Option.none⟩ = some (.slice A n cap) :=
  ⟨S, S.box.cell 0, S.box.cell 1, S.box.cell 2, S.box.cell 3, S.f.cell 0, S.f.cell 1, S.f.cell 2⟩
end
theorem most_le (W H : Nat) (hW : W ≤ 256) (hH : H ≤ 256) : ∀ k, most W H k ≤ 1 + 8192 * k
  | 0 => Nat.le_refl _
  | k + 1 => by
    have h1 := most_le W H hW hH k
    have h2 := side_self2 W (k + 1)
    have h3 := side_self2 H (k + 1)
    simp only [most]
    omega
theorem top_one {W H top : Nat} (hT : IsTop W H top) (hW : 0 < W) (hH : 0 < H) : side W top = 1 ∧ side H top = 1 := by
  have := hT.w
  have := hT.h
  have := side_pos hW top
  have := side_pos hH top
  omega
theorem open_i16 {W : World} {v : Value} (h : VSat W (.slice (.int .i16)) false v) : ∃ (A : Option Addr) (L : List Int) (cap : Nat), v = .slice A L.length cap ∧ RdL W 0 W.heap.size A (L.map zv) ∧ (∀ x ∈ L, -32768 ≤ x ∧ x ≤ 32767) ∧ L.length ≤ cap ∧ cap ≤ maxLen ∧ (A = none → L.length = 0 ∧ cap = 0) := by
  obtain ⟨A, L, cap, h1, h2, h3, h4⟩ := open_slice_of (fun x : Int => [zv x]) (fun x => -32768 ≤ x ∧ x ≤ 32767) (.int .i16) 1 rfl (fun _ => rfl) (by decide) (by
    rintro cs ⟨i, rfl, hi⟩
    exact ⟨i, rfl, bounds_i16 hi⟩) h
  rw [flatMap_one] at h2
  exact ⟨A, L, cap, h1, h2, h3, h4⟩
def BoSh : Sh := .cat (.int .i64) (.cat (.int .i64) (.cat (.int .i64) (.cat (.int .i64) .unit)))
theorem open_u8 {W : World} {v : Value} (h : VSat W (.int .u8) false v) : ∃ m : Nat, v = .int .u8 (m : Int) ∧ m < 256 := by
  obtain ⟨n, e, hw⟩ := h
  injection e with e
  subst e
  have hb := bounds_u8 hw
  obtain ⟨m, rfl⟩ : ∃ m : Nat, n = (m : Int) := ⟨n.toNat, by omega⟩
  exact ⟨m, rfl, by omega⟩
theorem open_bo {cs : List Value} {W : World} (h : BoSh.Sat W cs) : ∃ bx : Bo, cs = boc bx ∧ (-9223372036854775808 ≤ bx.x0 ∧ bx.x0 ≤ 9223372036854775807) ∧ (-9223372036854775808 ≤ bx.y0 ∧ bx.y0 ≤ 9223372036854775807) ∧ (-9223372036854775808 ≤ bx.x1 ∧ bx.x1 ≤ 9223372036854775807) ∧ (-9223372036854775808 ≤ bx.y1 ∧ bx.y1 ≤ 9223372036854775807) := by
  obtain ⟨_, _, rfl, ⟨a, rfl, ha⟩, _, _, rfl, ⟨b, rfl, hb⟩, _, _, rfl, ⟨c, rfl, hc⟩, _, _, rfl, ⟨d, rfl, hd⟩, rfl⟩ := h
  exact ⟨⟨a, b, c, d⟩, rfl, bounds_i64 ha, bounds_i64 hb, bounds_i64 hc, bounds_i64 hd⟩
theorem open_box {W : World} {v : Value} (h : VSat W BoSh true v) : ∃ bx : Bo, v = bov bx ∧ (-9223372036854775808 ≤ bx.x0 ∧ bx.x0 ≤ 9223372036854775807) ∧ (-9223372036854775808 ≤ bx.y0 ∧ bx.y0 ≤ 9223372036854775807) ∧ (-9223372036854775808 ≤ bx.x1 ∧ bx.x1 ≤ 9223372036854775807) ∧ (-9223372036854775808 ≤ bx.y1 ∧ bx.y1 ≤ 9223372036854775807) := by
  obtain ⟨cs, rfl, h⟩ := h
  obtain ⟨bx, rfl, hb⟩ := open_bo h
  exact ⟨bx, rfl, hb⟩
end Pyr
end Go.Proofs.Ytoaagemofjddiaa
