import Derived.Test.YtpnafccedgjaeaaProfW3
import Derived.BigRegion
namespace Go.Proofs.Ytpnafccedgjaeaa
open Go.RowKit
namespace Prof

set_option maxHeartbeats 1000000 in
theorem add_full (g : Nat) (p : Pr) (z : Int) (w : World) (h : PB w g p) (hk : ok p) (hnr : near p = false) (hn : p.n = 64) :
    Calls Try.prog 29 #[.pointer (some ⟨g, 0, none⟩), .int .i64 z] w fun e w' => e = .returned (.bool true) ∧ PB w' g (put (freed p) z) ∧ w.grownBy w' (some g) := by
  rw [near_eq p (by omega)] at hnr
  have hnr' : ¬ (p.x - (last p).dx < p.gap ∧ (last p).dx - p.x < p.gap ∧ p.y - (last p).dy < p.gap ∧ (last p).dy - p.y < p.gap) := by
    rintro ⟨a, b, c, d⟩
    simp [a, b, c, d] at hnr
  clear hnr
  have hll := (hk.2.2.2.2.2.2 ((p.first + p.n + 63) % 64) (Nat.mod_lt _ (by decide)))
  obtain ⟨⟨l1, l2⟩, ⟨l3, l4⟩, l5, l6⟩ := hll
  have hlast := fun w hw => last_any g p w hw hk
  have e : p.l ((p.first + p.n + 63) % 64) = last p := rfl
  rw [e] at l1 l2 l3 l4 l5 l6
  clear e
  generalize last p = s at *
  obtain ⟨sx, sy, sz⟩ := s
  dsimp only at *
  have Hlast := Lib.hid hlast; clear hlast
  have hg := h.lt
  have H := Lib.hid h
  obtain ⟨hk1, hk2, ⟨hx1, hx2⟩, ⟨hy1, hy2⟩, hg1, hg2, _⟩ := hk
  obtain ⟨f1, hf1⟩ : ∃ f1, f1 = (p.first + 1) % 64 := ⟨_, rfl⟩
  have hf64 : f1 < 64 := by omega
  obtain ⟨ix, hix⟩ : ∃ ix, ix = (f1 + 63) % 64 := ⟨_, rfl⟩
  have hix64 : ix < 64 := by omega
  have r1 : ((p.first : Int) + 1) % 64 = (f1 : Int) := by omega
  have s1 : IntKind.i64.wrap ((f1 : Int) + 63) = (f1 : Int) + 63 := IntWalk.i64_in _ (by omega)
  have s4 : ((f1 : Int) + 63).tmod 64 = (ix : Int) := by rw [Int.tmod_eq_emod_of_nonneg (by omega)]; omega
  have he : put (freed p) z = { { { { p with first := f1 } with n := 63 } with l := upd p.l ix ⟨p.x, p.y, z⟩ } with n := 64 } := by
    unfold freed put
    rw [if_pos hn, ← hf1]
    show Pr.mk (upd p.l ((f1 + 63) % 64) _) _ _ _ _ _ = _
    rw [← hix]
  have hn64 : ((p.n : Nat) : Int) = 64 := by omega
  have hgn : (0 : Int) < 64 := by omega
  have He := Lib.hid he; clear he
  clear hix hf1 hn
  obtain ⟨_, _, _, c0, c1, c2, c3, c4⟩ := h.cells
  clear h
  have hm4 := fun (w : World) (a b c d : Int) => run_max4 (P := Try.prog) w #[2, 2, 2, 2] 2 .i64 a b c d
  have hlt : p.gap ≤ mx4 (p.x - sx) (-(p.x - sx)) (p.y - sy) (-(p.y - sy)) := by
    have := mx4_lt (p.x - sx) (p.y - sy) p.gap
    omega
  clear hnr'
  rw [hn64] at c1
  go_enter Try.func29, Try.ntmps29
  go_wp2_with fail
  refine (Hlast.out _ H.out).mono ?_
  rintro e w1 ⟨rfl, hb1⟩
  have h1 := H.out.below hb1 hg
  have H1 := Lib.hid h1
  obtain ⟨b1, b2, b3, d0, d1, d2, d3, d4⟩ := (h1.alloc (.cells #[.int .i64 sx, .int .i64 sy, .int .i64 sz] 39)).cells
  replace b1 := b1 ix hix64
  replace b2 := b2 ix hix64
  replace b3 := b3 ix hix64
  have f := (h1.alloc (.cells #[.int .i64 sx, .int .i64 sy, .int .i64 sz] 39)).free
  have hg1' := h1.lt
  clear h1
  rw [hn64] at d1
  unfold Smp.v
  dsimp only
  have w1' : IntKind.i64.wrap (p.x - sx) = p.x - sx := IntWalk.i64_in _ (by omega)
  have w2' : IntKind.i64.wrap (p.y - sy) = p.y - sy := IntWalk.i64_in _ (by omega)
  go_wp2
  go_quiet (fail)
  clear w1' w2'
  have HP := (H1.out.alloc (.cells #[.int .i64 sx, .int .i64 sy, .int .i64 sz] 39)).drewN nq
  have hbw : Below w.heap.size w ((w1.alloc (.cells #[.int .i64 sx, .int .i64 sy, .int .i64 sz] 39)).drewN nq) := below_drewN (bt hb1 (bl w1 _)) _
  clear b1 b2 b3 d0 d1 d2 d3 d4 f hg1' hb1 H1 c0 c1 c2 c3 c4 
  generalize (w1.alloc (.cells #[.int .i64 sx, .int .i64 sy, .int .i64 sz] 39)).drewN nq = w2 at HP hbw ⊢
  obtain ⟨_, _, _, d0, d1, d2, d3, d4⟩ := HP.cells
  rw [hn64] at d1
  have f := HP.free
  have hg1' := HP.lt
  have HPh := Lib.hid HP
  clear HP
  go_wp2
  have HP : PB ((w2.setCell ⟨g, 192, none⟩ (.int .i64 f1)).setCell ⟨g, 193, none⟩ (.int .i64 63)) g { { p with first := f1 } with n := 63 } := (HPh.out.setFirst f1).setN 63
  have hbw' : w.grownBy ((w2.setCell ⟨g, 192, none⟩ (.int .i64 f1)).setCell ⟨g, 193, none⟩ (.int .i64 63)) (some g) := only_set (only_set (only_below hbw _) _ _) _ _
  clear d0 d1 d2 d3 d4 f hg1' hbw HPh
  generalize (w2.setCell ⟨g, 192, none⟩ (.int .i64 f1)).setCell ⟨g, 193, none⟩ (.int .i64 63) = w3 at HP hbw' ⊢
  obtain ⟨b1, b2, b3, d0, d1, d2, d3, d4⟩ := HP.cells
  replace b1 := b1 ix hix64
  replace b2 := b2 ix hix64
  replace b3 := b3 ix hix64
  have h63 : ((63 : Nat) : Int) = 63 := rfl
  dsimp only at b1 b2 b3 d0 d1 d2 d3 d4
  rw [h63] at d1
  clear h63
  have f := HP.free
  have hg1' := HP.lt
  have HPh := Lib.hid HP
  clear HP hn64 hlt r1
  go_region
  go_wp2
  go_ret
  refine ⟨rfl, ?_, only_set (only_drew (only_set (only_set (only_set hbw' _ _) _ _) _ _)) _ _⟩
  rw [He.out]
  exact (((HPh.out).setS ix hix64 ⟨p.x, p.y, z⟩).drew).setN 64

end Prof
end Go.Proofs.Ytpnafccedgjaeaa
