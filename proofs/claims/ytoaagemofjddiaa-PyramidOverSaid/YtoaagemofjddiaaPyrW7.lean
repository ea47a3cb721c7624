/-
  The walk of package pyramid's square: for what a cell stands.
-/
import Derived.Test.YtoaagemofjddiaaPyrW6
namespace Go.Proofs.Ytoaagemofjddiaa
open Go.RowKit
set_option linter.unusedVariables false
namespace Pyr
theorem shl_pow (w : World) (k : Nat) (h : k ≤ 8) : (binOp .shl 3 (.int .i64 1) (.int .i64 (k : Int))).run Try.prog w = .ok (.int .i64 ((2 ^ k : Nat) : Int)) w := by
  have : k = 0 ∨ k = 1 ∨ k = 2 ∨ k = 3 ∨ k = 4 ∨ k = 5 ∨ k = 6 ∨ k = 7 ∨ k = 8 := by omega
  rcases this with rfl | rfl | rfl | rfl | rfl | rfl | rfl | rfl | rfl <;> rfl
set_option maxRecDepth 100000 in
set_option maxHeartbeats 1000000 in
theorem square_any {w : World} {bp bl cl seen : Nat} {lvs : List Lv} (S : PS w bp bl cl lvs seen) {l : Lv} (h : lvs[0]? = some l) (p : Pl) (hn : p.n ≤ 8) (hx : p.x ≤ 300) (hy : p.y ≤ 300) (hw : l.wd ≤ 300) (hh : l.h ≤ 300) :
    Calls Try.prog 46 #[.pointer (some ⟨bp, 0, Option.none⟩), plv p] w fun e w' => e = .returned (bov (square l.wd l.h p)) ∧ Below w.heap.size w w' := by
  have e0 := S.p0
  obtain ⟨l0, l1, l2⟩ := S.lev h
  have b1 := S.blk.lt
  have hk : 0 < lvs.length := (List.getElem?_eq_some_iff.1 h).1
  have b2 := S.bl_lt (by omega)
  have i1 : (0 : Int) < (lvs.length : Int) := by omega
  obtain ⟨n, x, y⟩ := p
  dsimp only at hn hx hy
  have hsh := fun w => shl_pow w n hn
  have hs1 : 2 ^ n ≤ 256 := Nat.pow_le_pow_right (by omega) hn
  have hs2 : 0 < 2 ^ n := Nat.two_pow_pos n
  have hsq : square l.wd l.h ⟨n, x, y⟩ = ⟨(x : Int) * (2 ^ n : Nat), (y : Int) * (2 ^ n : Nat), min ((x : Int) * (2 ^ n : Nat) + (2 ^ n : Nat)) l.wd - 1, min ((y : Int) * (2 ^ n : Nat) + (2 ^ n : Nat)) l.h - 1⟩ := rfl
  have hpw : ((2 : Int) ^ n) = ((2 ^ n : Nat) : Int) := (Int.natCast_pow 2 n).symm
  have hpow : wrap64 ((2 : Int) ^ n) = ((2 ^ n : Nat) : Int) := by
    rw [hpw]
    exact IntWalk.wrap64_in _ (by omega)
  have HPow := Lib.hid hpow
  clear hpow hpw
  generalize 2 ^ n = s at *
  have m1 : (x : Int) * (s : Int) = ((x * s : Nat) : Int) := (Int.natCast_mul _ _).symm
  have m2 : (y : Int) * (s : Int) = ((y * s : Nat) : Int) := (Int.natCast_mul _ _).symm
  have n1 : x * s ≤ 300 * 256 := Nat.mul_le_mul hx hs1
  have n2 : y * s ≤ 300 * 256 := Nat.mul_le_mul hy hs1
  rw [m1, m2] at hsq
  generalize x * s = u at *
  generalize y * s = v at *
  have u1 : (u : Int) ≤ 76800 := by omega
  have u2 : (v : Int) ≤ 76800 := by omega
  have u3 : (s : Int) ≤ 256 := by omega
  have y1 : IntKind.i64.wrap (u : Int) = (u : Int) := IntWalk.i64_in _ (by omega)
  have y2 : IntKind.i64.wrap (v : Int) = (v : Int) := IntWalk.i64_in _ (by omega)
  have y3 : IntKind.i64.wrap ((u : Int) + (s : Int)) = (u : Int) + (s : Int) := IntWalk.i64_in _ (by omega)
  have y4 : IntKind.i64.wrap ((v : Int) + (s : Int)) = (v : Int) + (s : Int) := IntWalk.i64_in _ (by omega)
  have HSq := Lib.hid hsq
  simp only [Nat.zero_mul, Nat.zero_add] at l0 l1 l2
  have h' := h
  clear h hsq hs1 hs2 n1 n2
  unfold plv
  dsimp only
  have T := (Blk.mk w 104 [.int .i64 (n : Int), .int .i64 (x : Int), .int .i64 (y : Int)]).alloc (.cells #[.int .i64 0, .int .i64 0, .int .i64 0, .int .i64 0] 46)
  have S2 := (S.next (_root_.Go.Proofs.Ytoaagemofjddiaa.bl w (.cells #[.int .i64 (n : Int), .int .i64 (x : Int), .int .i64 (y : Int)] 104))).next (_root_.Go.Proofs.Ytoaagemofjddiaa.bl _ (.cells #[.int .i64 0, .int .i64 0, .int .i64 0, .int .i64 0] 46))
  have R := Blk.mk (w.alloc (.cells #[.int .i64 (n : Int), .int .i64 (x : Int), .int .i64 (y : Int)] 104)) 46 [.int .i64 0, .int .i64 0, .int .i64 0, .int .i64 0]
  rw [show (w.alloc (.cells #[.int .i64 (n : Int), .int .i64 (x : Int), .int .i64 (y : Int)] 104)).heap.size = w.heap.size + 1 by simp] at R
  have BB := bt (_root_.Go.Proofs.Ytoaagemofjddiaa.bl w (.cells #[.int .i64 (n : Int), .int .i64 (x : Int), .int .i64 (y : Int)] 104)) (_root_.Go.Proofs.Ytoaagemofjddiaa.bl _ (.cells #[.int .i64 0, .int .i64 0, .int .i64 0, .int .i64 0] 46))
  have HT := Lib.hid T
  have HS2 := Lib.hid S2
  have HR := Lib.hid R
  have HBB := Lib.hid BB
  have hl' := h'
  clear T S2 R BB e0 l0 l1 l2 h'
  go_enter Try.func46, Try.ntmps46
  go_wp2
  simp only [HPow.out]
  generalize (w.alloc (.cells #[.int .i64 (n : Int), .int .i64 (x : Int), .int .i64 (y : Int)] 104)).alloc (.cells #[.int .i64 0, .int .i64 0, .int .i64 0, .int .i64 0] 46) = W2 at *
  have e0 := HS2.out.p0
  obtain ⟨l0, l1, l2⟩ := HS2.out.lev hl'
  simp only [Nat.zero_mul, Nat.zero_add] at l0 l1 l2
  have t0 : W2.cell? ⟨w.heap.size, 0, Option.none⟩ = some (.int .i64 (n : Int)) := HT.out.cell 0
  have t1 : W2.cell? ⟨w.heap.size, 1, Option.none⟩ = some (.int .i64 (x : Int)) := HT.out.cell 1
  have t2 : W2.cell? ⟨w.heap.size, 2, Option.none⟩ = some (.int .i64 (y : Int)) := HT.out.cell 2
  have r0 : W2.cell? ⟨w.heap.size + 1, 0, Option.none⟩ = some (.int .i64 0) := HR.out.cell 0
  have r1 : W2.cell? ⟨w.heap.size + 1, 1, Option.none⟩ = some (.int .i64 0) := HR.out.cell 1
  have r2 : W2.cell? ⟨w.heap.size + 1, 2, Option.none⟩ = some (.int .i64 0) := HR.out.cell 2
  have r3 : W2.cell? ⟨w.heap.size + 1, 3, Option.none⟩ = some (.int .i64 0) := HR.out.cell 3
  have f0 := HR.out.free 0
  have f1 := HR.out.free 1
  have f2 := HR.out.free 2
  have f3 := HR.out.free 3
  clear hl'
  go_still_tail 39, (by kernel_rfl)
  change wpList _ _ _ _ _ W2.drew
  go_wp2_with fail
  all_goals
    refine bodyPost_ret (v := bov (square l.wd l.h ⟨n, x, y⟩)) (by rw [HSq.out]; simp [results, Try.results46, go_sem, bov, r0, r1, r2, r3]; omega) rfl ⟨rfl, ?_⟩
    exact ((((HBB.out.drew).setCell (by simp) _).setCell (by simp) _).setCell (by simp) _).setCell (by simp) _
end Pyr
end Go.Proofs.Ytoaagemofjddiaa
