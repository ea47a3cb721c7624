import Derived.Test.YtpnafccedgjaeaaProfW3
import Derived.BigRegion
namespace Go.Proofs.Ytpnafccedgjaeaa
open Go.RowKit
namespace Prof

set_option maxHeartbeats 1000000 in
theorem add_mid (g : Nat) (p : Pr) (z : Int) (w : World) (h : PB w g p) (hk : ok p) (hnr : near p = false) (hn : 0 < p.n) (hn2 : p.n < 64) :
    Calls Try.prog 29 #[.pointer (some ⟨g, 0, none⟩), .int .i64 z] w fun e w' => e = .returned (.bool true) ∧ PB w' g (put p z) ∧ w.grownBy w' (some g) := by
  rw [near_eq p (by omega)] at hnr
  have hnr' : ¬ (p.x - (last p).dx < p.gap ∧ (last p).dx - p.x < p.gap ∧ p.y - (last p).dy < p.gap ∧ (last p).dy - p.y < p.gap) := by
    rintro ⟨a, b, c, d⟩
    simp [a, b, c, d] at hnr
  clear hnr
  have hll := (hk.2.2.2.2.2.2 ((p.first + p.n + 63) % 64) (Nat.mod_lt _ (by decide)))
  obtain ⟨⟨l1, l2⟩, ⟨l3, l4⟩, l5, l6⟩ := hll
  have hlast := fun w hw => last_any g p w hw hk
  have e : p.l ((p.first + p.n + 63) % 64) = last p := rfl
  rw [e] at l1 l2 l3 l4 l5 l6
  clear e
  generalize last p = s at *
  obtain ⟨sx, sy, sz⟩ := s
  dsimp only at *
  have Hlast := Lib.hid hlast; clear hlast
  have hg := h.lt
  have H := Lib.hid h
  obtain ⟨hk1, hk2, ⟨hx1, hx2⟩, ⟨hy1, hy2⟩, hg1, hg2, _⟩ := hk
  obtain ⟨ix, hix⟩ : ∃ ix, ix = (p.first + p.n) % 64 := ⟨_, rfl⟩
  have hix64 : ix < 64 := by omega
  have s1 : IntKind.i64.wrap ((p.first : Int) + (p.n : Int)) = (p.first : Int) + (p.n : Int) := IntWalk.i64_in _ (by omega)
  have s4 : ((p.first : Int) + (p.n : Int)).tmod 64 = (ix : Int) := by rw [Int.tmod_eq_emod_of_nonneg (by omega)]; omega
  have he : put p z = { { p with l := upd p.l ix ⟨p.x, p.y, z⟩ } with n := p.n + 1 } := by
    unfold put
    rw [← hix]
  have hn64 : ((p.n : Int) == 64) = false := by rw [beq_eq_false_iff_ne]; omega
  have hgn : (0 : Int) < (p.n : Int) := by omega
  have He := Lib.hid he; clear he
  clear hix 
  obtain ⟨_, _, _, c0, c1, c2, c3, c4⟩ := h.cells
  clear h
  have hm4 := fun (w : World) (a b c d : Int) => run_max4 (P := Try.prog) w #[2, 2, 2, 2] 2 .i64 a b c d
  have hlt : p.gap ≤ mx4 (p.x - sx) (-(p.x - sx)) (p.y - sy) (-(p.y - sy)) := by
    have := mx4_lt (p.x - sx) (p.y - sy) p.gap
    omega
  clear hnr'
  go_enter Try.func29, Try.ntmps29
  go_wp2_with fail
  refine (Hlast.out _ H.out).mono ?_
  rintro e w1 ⟨rfl, hb1⟩
  have h1 := H.out.below hb1 hg
  have H1 := Lib.hid h1
  obtain ⟨b1, b2, b3, d0, d1, d2, d3, d4⟩ := (h1.alloc (.cells #[.int .i64 sx, .int .i64 sy, .int .i64 sz] 39)).cells
  replace b1 := b1 ix hix64
  replace b2 := b2 ix hix64
  replace b3 := b3 ix hix64
  have f := (h1.alloc (.cells #[.int .i64 sx, .int .i64 sy, .int .i64 sz] 39)).free
  have hg1' := h1.lt
  clear h1
  unfold Smp.v
  dsimp only
  have w1' : IntKind.i64.wrap (p.x - sx) = p.x - sx := IntWalk.i64_in _ (by omega)
  have w2' : IntKind.i64.wrap (p.y - sy) = p.y - sy := IntWalk.i64_in _ (by omega)
  go_wp2
  go_quiet (fail)
  clear w1' w2'
  go_wp2
  have HP := (H1.out.alloc (.cells #[.int .i64 sx, .int .i64 sy, .int .i64 sz] 39)).drewN nq
  have hbw : Below w.heap.size w ((w1.alloc (.cells #[.int .i64 sx, .int .i64 sy, .int .i64 sz] 39)).drewN nq) := below_drewN (bt hb1 (bl w1 _)) _
  clear b1 b2 b3 d0 d1 d2 d3 d4 f hg1' hb1 H1 c0 c1 c2 c3 c4 hlt
  generalize (w1.alloc (.cells #[.int .i64 sx, .int .i64 sy, .int .i64 sz] 39)).drewN nq = w2 at HP hbw ⊢
  obtain ⟨b1, b2, b3, d0, d1, d2, d3, d4⟩ := HP.cells
  replace b1 := b1 ix hix64
  replace b2 := b2 ix hix64
  replace b3 := b3 ix hix64
  have f := HP.free
  have hg1' := HP.lt
  have HPh := Lib.hid HP
  clear HP
  go_region
  go_wp2
  go_ret
  refine ⟨rfl, ?_, only_set (only_drew (only_set (only_set (only_set (only_below hbw _) _ _) _ _) _ _)) _ _⟩
  rw [He.out]
  exact (((HPh.out).setS ix hix64 ⟨p.x, p.y, z⟩).drew).setN (p.n + 1)

end Prof
end Go.Proofs.Ytpnafccedgjaeaa
