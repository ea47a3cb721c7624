/-
  The walks of crc.Shift: the closure that takes a word through a table.
-/
import Derived.Test.YtpnafccedgjaeaaCrcW5
import Derived.Test.YtpnafccedgjaeaaCrcM
import Derived.Deep.RegionWith
namespace Go.Proofs.Ytpnafccedgjaeaa
open Go.RowKit
namespace Crc

/-- a table's cells -/
def matV (N : Nat) : List Value := (mat N).map fun x => .int .u32 (u x)
theorem matV_len (N : Nat) : (matV N).length = 32 := by simp [matV, mat_len]
theorem matV_get (N i : Nat) (h : i < 32) : (matV N)[i]? = some (.int .u32 (u (steps N (one i)))) := by simp [matV, mat_get N i h]
theorem u_shr1 (x : BitVec 32) (k : Nat) : (u (x >>> k)) / (2 : Int) = u (x >>> (k + 1)) := by
  rw [u_half, BitVec.shiftRight_add]
theorem u_zero (x : BitVec 32) : (u x = 0) ↔ x = 0#32 := by
  constructor
  · intro h; apply BitVec.eq_of_toNat_eq; unfold u at h; simp; omega
  · rintro rfl; rfl
theorem shr_odd (x : BitVec 32) (k : Nat) : Go.bits .and .u32 (u (x >>> k)) 1 = u (bw (x.getLsbD k)) := by
  rw [u_one, and_u, and_one, BitVec.getLsbD_ushiftRight, Nat.add_zero]

set_option maxHeartbeats 1000000 in
theorem apply_any (N : Nat) (x : BitVec 32) (w : World) :
    Calls Try.prog 46 #[.agg (matV N).toArray, .int .u32 (u x)] w fun e w' => e = .returned (.int .u32 (u (steps N x))) ∧ Below w.heap.size w w' := by
  have hlen := Lib.hid (matV_len N)
  go_enter Try.func46, Try.ntmps46
  go_wp2
  go_loopw [1, 5, 6] (fun y o i wr => ∃ k : Nat, k ≤ 32 ∧ i = .int .i64 k ∧ y = .int .u32 (u (x >>> k)) ∧ o = .int .u32 (u (steps N (low x k))) ∧ Blk wr w.heap.size 79 (matV N) ∧ Below w.heap.size w wr) (fun _ _ i _ => 32 - (intOf i).toNat)
  case atStart => exact ⟨0, by omega, rfl, rfl, by rw [low_zero, steps_zero]; rfl, Blk.mk w _ _, bl w _⟩
  case round =>
    obtain ⟨k, hk, rfl, rfl, rfl, hblk, hb⟩ := hrel
    by_cases hz : x >>> k = 0#32
    · have h0 : (u (x >>> k) != 0) = false := by rw [hz]; rfl
      have hx := low_all x k hz
      clear hz
      rw [hx]
      go_wp2
      go_ret
      exact ⟨rfl, hb⟩
    · have hklt := shr_lt hz
      have h0 : (u (x >>> k) != 0) = true := by
        rw [bne_iff_ne]
        exact fun h => hz ((u_zero _).1 h)
      clear hz
      have hs := steps_low N x k hklt
      have hsh := u_shr1 x k
      have hodd := shr_odd x k
      have hc : wr.cell? ⟨w.heap.size, k, none⟩ = some (.int .u32 (u (steps N (one k)))) := by rw [hblk.cell, matV_get N k hklt]
      have hxx := xor_u (steps N (low x k)) (steps N (one k))
      generalize x.getLsbD k = bk at *
      have Hs := Lib.hid hs; clear hs
      cases bk
      · have e1 : (u (bw false) == 1) = false := by decide
        go_wp2
        go_roundw
        case rel =>
          refine ⟨k + 1, by omega, by go_num, rfl, ?_, hblk, hb⟩
          rw [Hs.out]; simp
        case measure => simp [intOf]; omega
      · have e1 : (u (bw true) == 1) = true := by decide
        go_wp2
        go_roundw
        case rel =>
          refine ⟨k + 1, by omega, by go_num, rfl, ?_, hblk, hb⟩
          rw [Hs.out]; simp
        case measure => simp [intOf]; omega

/-- a table that is filled so far -/
def fillV (N k : Nat) : List Value := (matV N).take k ++ List.replicate (32 - k) (.int .u32 0)
theorem fillV_len (N k : Nat) (h : k ≤ 32) : (fillV N k).length = 32 := by simp [fillV, matV_len]; omega
theorem fillV_succ (N k : Nat) (h : k < 32) : (fillV N k).set k (.int .u32 (u (steps N (one k)))) = fillV N (k + 1) := by
  unfold fillV
  have hl : ((matV N).take k).length = k := by simp [matV_len]; omega
  have hr : List.replicate (32 - k) (Value.int .u32 0) = Value.int .u32 0 :: List.replicate (32 - (k + 1)) (Value.int .u32 0) := by
    rw [← List.replicate_succ]
    congr 1
    omega
  have ht : (matV N).take (k + 1) = (matV N).take k ++ [.int .u32 (u (steps N (one k)))] := by
    rw [List.take_add_one, matV_get N k h]; rfl
  rw [hr, ht, List.set_append_right _ _ (by omega), hl, Nat.sub_self, List.set_cons_zero, List.append_assoc]
  rfl
theorem fillV_all (N : Nat) : fillV N 32 = matV N := by
  unfold fillV
  rw [List.take_of_length_le (by rw [matV_len]; omega)]
  simp
theorem fillV_get (N k i : Nat) (h : k ≤ 32) (hi : i < 32) (hik : k ≤ i) : (fillV N k)[i]? = some (.int .u32 0) := by
  unfold fillV
  have hl : ((matV N).take k).length = k := by simp [matV_len]; omega
  rw [List.getElem?_append_right (by omega), hl, List.getElem?_replicate]
  rw [if_pos (by omega)]
theorem one_u (k : Nat) (hk : k < 32) : (2 : Int) ^ k % 4294967296 = u (one k) := by
  unfold u one
  rw [BitVec.toNat_shiftLeft, Nat.shiftLeft_eq]
  have : (2 : Nat) ^ k < 4294967296 := Nat.lt_of_lt_of_le (Nat.pow_lt_pow_right (by decide) hk) (by decide)
  simp

theorem infoArr : (Try.prog.info? 79).map (·.size) = some 32 := by kernel_rfl
def rowOk (w : World) (g : Nat) : Bool := match w.heap[g]? with | some (.cells c t fr) => t == 79 && (c.size == 32 && fr == (0, 0)) | _ => false
def rowAt (w : World) (g : Nat) : Array Value := match w.heap[g]? with | some (.cells c _ _) => c | _ => #[]
theorem rowOk_of {w : World} {g : Nat} {l : List Value} (h : Blk w g 79 l) (hl : l.length = 32) : rowOk w g = true ∧ rowAt w g = l.toArray := by
  unfold Blk at h
  unfold rowOk rowAt
  rw [h]
  simp [hl]
theorem rowOk_drew (w : World) (g : Nat) : rowOk w.drew g = rowOk w g := by cases g <;> rfl
theorem rowAt_drew (w : World) (g : Nat) : rowAt w.drew g = rowAt w g := by cases g <;> rfl
/-- a whole table is read -/
theorem ld_row (w : World) (g : Nat) (h : rowOk w g = true) : (Instr.loadAt 79 (.pointer (some ⟨g, 0, none⟩))).run Try.prog w = .ok (.agg (rowAt w g)) w := by
  unfold Instr.loadAt
  simp only [Instr.sureAddr, Sem.run_bind, Sem.run_pure, Result.andThen_ok]
  unfold rowOk at h
  split at h
  · rename_i c t fr hg
    simp only [Bool.and_eq_true, beq_iff_eq] at h
    obtain ⟨rfl, hc, rfl⟩ := h
    have e : rowAt w g = c := by unfold rowAt; rw [hg]
    rw [e]
    exact run_loadVar_row w g _ _ c (0, 0) _ hg Try.underlying79 rfl (by rw [infoArr, hc])
  · cases h
/-- the load of a table, kept from the walk's own rules till its world is known -/
def myLoad (x : Value) : Sem Value := Instr.loadAt 79 x
theorem to_my (x : Value) : Instr.loadAt 79 x = myLoad x := rfl
theorem run_my (w : World) (g : Nat) (h : rowOk w g = true) : (myLoad (.pointer (some ⟨g, 0, none⟩))).run Try.prog w = .ok (.agg (rowAt w g)) w := ld_row w g h
theorem matV_one (N : Nat) : (matV N).toArray.all (·.oneCell') = true := by
  rw [Array.all_eq_true_iff_forall_mem]
  intro v hv
  obtain ⟨x, _, rfl⟩ := List.mem_map.1 (List.mem_toArray.1 hv)
  rfl
theorem _root_.Go.RowKit.Below.setRow {B : Nat} {a w : World} {g : Nat} (h : Below B a w) (hg : B ≤ g) (cs : Array Value) : Below B a (w.setRow g cs) :=
  h.trans ⟨rfl, rfl, rfl, by simp, fun k hk => setRow_other w g k cs (by omega)⟩
theorem _root_.Go.Proofs.Ytpnafccedgjaeaa.Blk.row {w : World} {g : Nat} {t : TypeId} {l : List Value} (h : Blk w g t l) (l' : List Value) : Blk (w.setRow g l'.toArray) g t l' := setRow_heap w g _ _ t _ h
theorem and_i64 (m : Nat) (hm : m < 9223372036854775808) : Go.bits .and .i64 (m : Int) 1 = ((m % 2 : Nat) : Int) := by
  unfold Go.bits
  have e : (BitVec.ofInt IntKind.i64.bits (m : Int) &&& BitVec.ofInt IntKind.i64.bits 1).toNat = m % 2 := by
    rw [BitVec.toNat_and]
    have h1 : (BitVec.ofInt IntKind.i64.bits (m : Int)).toNat = m := by
      rw [BitVec.toNat_ofInt]
      show ((m : Int) % ((2 ^ 64 : Nat) : Int)).toNat = m
      omega
    have h2 : (BitVec.ofInt IntKind.i64.bits 1).toNat = 1 := by decide
    rw [h1, h2]
    exact Nat.and_two_pow_sub_one_eq_mod m 1
  show IntKind.i64.wrap (((BitVec.ofInt IntKind.i64.bits (m : Int) &&& BitVec.ofInt IntKind.i64.bits 1).toNat : Nat) : Int) = _
  rw [e]
  exact IntWalk.i64_in _ (by omega)

attribute [local go_sem ↓] to_my
attribute [local go_sem] run_my
attribute [local go_sem] rowOk_drew rowAt_drew
set_option maxRecDepth 100000 in
set_option maxHeartbeats 2000000 in
theorem shift_any (x : BitVec 32) (n : Nat) (w : World) (hn : n ≤ 1000000) :
    Calls Try.prog 18 #[.int .u32 (u x), .int .i64 (n : Int)] w fun e w' => e = .returned (.int .u32 (u (shift x n))) ∧ Below w.heap.size w w' := by
  have hmf : ∀ (fn : Fn) (first cap : Array Value) (w : World), (Instr.makeFunc fn first cap).run Try.prog w = .ok (.func fn first cap) w := fun _ _ _ _ => rfl
  go_enter Try.func18, Try.ntmps18
  go_wp2
  go_loopw [11] (fun i wr => ∃ k : Nat, k ≤ 32 ∧ i = .int .i64 k ∧ Blk wr w.heap.size 79 (fillV 8 k) ∧ Below w.heap.size w wr) (fun i _ => 32 - (intOf i).toNat)
  case atStart => exact ⟨0, by omega, rfl, Blk.mk w _ (List.replicate 32 (.int .u32 0)), bl w _⟩
  case round =>
    obtain ⟨k, hk, rfl, hblk, hb⟩ := hrel
    by_cases hlt : k < 32
    · have h1 := one_u k hlt
      have hc : wr.cell? ⟨w.heap.size, k, none⟩ = some (.int .u32 0) := by rw [hblk.cell, fillV_get 8 k k hk hlt (Nat.le_refl _)]
      have hf := hblk.free k
      go_wp2_with (go_at_call 45; refine (byteStep_any _ _).mono ?_; rintro e w' ⟨rfl, rfl⟩)
      go_roundw
      case rel =>
        refine ⟨k + 1, by omega, by go_num, ?_, hb.setCell (by simp) _⟩
        rw [← fillV_succ 8 k hlt]
        exact hblk.put k _
      case measure => simp [intOf]; omega
    · obtain rfl : k = 32 := by omega
      rw [fillV_all] at hblk
      clear hlt hk
      rw [show ((32 : Nat) : Int) = 32 from rfl]
      go_wp2
      go_loopw [0, 8] (fun s m wr => ∃ j : Nat, m = .int .i64 ((n / 2 ^ j : Nat) : Int) ∧ s = .int .u32 (u (steps (8 * (n % 2 ^ j)) x)) ∧ Blk wr w.heap.size 79 (matV (8 * 2 ^ j)) ∧ Below w.heap.size w wr) (fun _ m _ => (intOf m).toNat)
      case atStart => exact ⟨0, by simp, by simp [Nat.mod_one, steps], hblk, hb⟩
      case round =>
        clear hblk hb
        obtain ⟨j, rfl, rfl, hblk, hb⟩ := hrel
        have hle : n / 2 ^ j ≤ 1000000 := Nat.le_trans (Nat.div_le_self _ _) hn
        have hsb := steps_bin x n j
        have hdiv : n / 2 ^ j / 2 = n / 2 ^ (j + 1) := by rw [Nat.div_div_eq_div_mul, Nat.pow_succ]
        have hand := and_i64 (n / 2 ^ j) (by omega)
        generalize hm : n / 2 ^ j = m at *
        have Hm := Lib.hid hm; clear hm
        have Hdiv := Lib.hid hdiv; clear hdiv
        by_cases hm0 : m = 0
        · have hpow : n % 2 ^ j = n := by
            have := Hm.out
            rw [hm0] at this
            exact Nat.mod_eq_of_lt (Nat.lt_of_div_eq_zero (Nat.pow_pos (by decide)) this)
          rw [hpow]
          subst hm0
          clear hsb
          go_wp2
          go_ret
          exact ⟨rfl, hb⟩
        · have hpos : 0 < m := by omega
          clear hm0
          by_cases hodd : m % 2 = 1
          · have h1 : (((m % 2 : Nat) : Int) == 1) = true := by rw [hodd]; rfl
            rw [if_pos hodd] at hsb
            have Hodd := Lib.hid hodd; clear hodd
            have Hsb := Lib.hid hsb; clear hsb
            have hml := matV_len (8 * 2 ^ j)
            go_wp2_with (first | (refine wpList_load_row rfl 79 _ rfl w.heap.size rfl 79 (matV (8 * 2 ^ j)).toArray (0, 0) _ hblk Try.underlying79 rfl (by rw [infoArr]; simp [hml]) ?_) | (go_at_call 46; refine (apply_any _ _ _).mono ?_; rintro e w2 ⟨rfl, hb2⟩))
            have hblk2 : Blk w2 w.heap.size 79 (matV (8 * 2 ^ j)) := hblk.below hb2 (by have := hblk.lt; omega)
            have hbw2 := bt hb hb2
            clear hb2
            have hlt0 := hblk2.lt
            clear hblk hb
            go_loopw [32] (fun i wq => ∃ k : Nat, k ≤ 32 ∧ i = .int .i64 k ∧ Blk wq w.heap.size 79 (matV (8 * 2 ^ j)) ∧ Blk wq w2.heap.size 79 (fillV (8 * 2 ^ j + 8 * 2 ^ j) k) ∧ Below w.heap.size w wq) (fun i _ => 32 - (intOf i).toNat)
            case atStart => exact ⟨0, by omega, rfl, hblk2.alloc _, Blk.mk _ _ (List.replicate 32 (.int .u32 0)), hbw2.alloc hbw2.size _⟩
            case round =>
              clear hblk2 hbw2
              obtain ⟨k, hk, rfl, hbA, hbB, hbq⟩ := hrel
              have hlt3 := hbB.lt
              obtain ⟨hr1, hr2⟩ := rowOk_of hbA (matV_len _)
              obtain ⟨hr3, hr4⟩ := rowOk_of hbB (fillV_len _ k hk)
              by_cases hk32 : k < 32
              · have hcA : wr.cell? ⟨w.heap.size, k, none⟩ = some (.int .u32 (u (steps (8 * 2 ^ j) (one k)))) := by rw [hbA.cell, matV_get _ k hk32]
                have hcB : wr.cell? ⟨w2.heap.size, k, none⟩ = some (.int .u32 0) := by rw [hbB.cell, fillV_get _ k k hk hk32 (Nat.le_refl _)]
                have hfB := hbB.free k
                clear hr3 hr4
                go_wp2_with fail
                go_region_with (go_at_call 46; refine (apply_any _ _ _).mono ?_; rintro e w3 ⟨rfl, hb3⟩; have hcC := (bcell hb3).1 w2.heap.size k (by simp; omega); have hfC := (bcell hb3).2 w2.heap.size k (by simp; omega); simp only [World.cell?_drew, World.frozen?_drew, hcB, hfB] at hcC hfC)
                all_goals
                  go_wp2
                  go_roundw
                  case rel =>
                    refine ⟨k + 1, by omega, by go_num, ((hbA.drew).below hb3 (by simp; omega)).far (by simp; omega) _, ?_, (bt hbq.drew hb3).setCell (by simp; omega) _⟩
                    rw [← fillV_succ _ k hk32, ← steps_twice]
                    exact ((hbB.drew).below hb3 (by simp; omega)).put k _
                  case measure => simp [intOf]; omega
              · obtain rfl : k = 32 := by omega
                rw [fillV_all] at hbB hr4
                have hml2 := matV_len (8 * 2 ^ j + 8 * 2 ^ j)
                clear hr1 hr2
                go_wp2_with (first | (refine wpList_load_row rfl 79 _ rfl w2.heap.size rfl 79 (matV (8 * 2 ^ j + 8 * 2 ^ j)).toArray (0, 0) _ hbB Try.underlying79 rfl (by rw [infoArr]; simp [hml2]) ?_) | (refine wpList_store_row rfl 79 _ _ rfl w.heap.size (matV (8 * 2 ^ j + 8 * 2 ^ j)).toArray rfl rfl 79 (matV (8 * 2 ^ j)).toArray hbA (by rw [infoArr]; simp [hml2]) (by simp [hml, hml2]) (matV_one _) ?_))
                go_roundw
                case rel =>
                  refine ⟨j + 1, by rw [← Hdiv.out]; rfl, by rw [← Hsb.out], ?_, hbq.setRow (by simp) _⟩
                  rw [show 8 * 2 ^ (j + 1) = 8 * 2 ^ j + 8 * 2 ^ j by rw [Nat.pow_succ]; omega]
                  exact hbA.row _
                case measure => simp [intOf]; omega
          · have h1 : (((m % 2 : Nat) : Int) == 1) = false := by rw [show m % 2 = 0 by omega]; rfl
            have h1' : ((m : Int) % 2 == 1) = false := by rw [beq_eq_false_iff_ne]; omega
            rw [if_neg hodd] at hsb
            have Hodd := Lib.hid hodd; clear hodd
            have Hsb := Lib.hid hsb; clear hsb
            have hml := matV_len (8 * 2 ^ j)
            go_wp2_with fail
            have hblk2 := hblk
            have hbw2 := hb
            have hlt0 := hblk2.lt
            clear hblk hb
            obtain ⟨w2, hw2⟩ : ∃ w2 : World, w2 = wr := ⟨_, rfl⟩
            subst hw2
            go_loopw [32] (fun i wq => ∃ k : Nat, k ≤ 32 ∧ i = .int .i64 k ∧ Blk wq w.heap.size 79 (matV (8 * 2 ^ j)) ∧ Blk wq w2.heap.size 79 (fillV (8 * 2 ^ j + 8 * 2 ^ j) k) ∧ Below w.heap.size w wq) (fun i _ => 32 - (intOf i).toNat)
            case atStart => exact ⟨0, by omega, rfl, hblk2.alloc _, Blk.mk _ _ (List.replicate 32 (.int .u32 0)), hbw2.alloc hbw2.size _⟩
            case round =>
              clear hblk2 hbw2
              obtain ⟨k, hk, rfl, hbA, hbB, hbq⟩ := hrel
              have hlt3 := hbB.lt
              obtain ⟨hr1, hr2⟩ := rowOk_of hbA (matV_len _)
              obtain ⟨hr3, hr4⟩ := rowOk_of hbB (fillV_len _ k hk)
              by_cases hk32 : k < 32
              · have hcA : wr.cell? ⟨w.heap.size, k, none⟩ = some (.int .u32 (u (steps (8 * 2 ^ j) (one k)))) := by rw [hbA.cell, matV_get _ k hk32]
                have hcB : wr.cell? ⟨w2.heap.size, k, none⟩ = some (.int .u32 0) := by rw [hbB.cell, fillV_get _ k k hk hk32 (Nat.le_refl _)]
                have hfB := hbB.free k
                clear hr3 hr4
                go_wp2_with fail
                go_region_with (go_at_call 46; refine (apply_any _ _ _).mono ?_; rintro e w3 ⟨rfl, hb3⟩; have hcC := (bcell hb3).1 w2.heap.size k (by simp; omega); have hfC := (bcell hb3).2 w2.heap.size k (by simp; omega); simp only [World.cell?_drew, World.frozen?_drew, hcB, hfB] at hcC hfC)
                all_goals
                  go_wp2
                  go_roundw
                  case rel =>
                    refine ⟨k + 1, by omega, by go_num, ((hbA.drew).below hb3 (by simp; omega)).far (by simp; omega) _, ?_, (bt hbq.drew hb3).setCell (by simp; omega) _⟩
                    rw [← fillV_succ _ k hk32, ← steps_twice]
                    exact ((hbB.drew).below hb3 (by simp; omega)).put k _
                  case measure => simp [intOf]; omega
              · obtain rfl : k = 32 := by omega
                rw [fillV_all] at hbB hr4
                have hml2 := matV_len (8 * 2 ^ j + 8 * 2 ^ j)
                clear hr1 hr2
                go_wp2_with (first | (refine wpList_load_row rfl 79 _ rfl w2.heap.size rfl 79 (matV (8 * 2 ^ j + 8 * 2 ^ j)).toArray (0, 0) _ hbB Try.underlying79 rfl (by rw [infoArr]; simp [hml2]) ?_) | (refine wpList_store_row rfl 79 _ _ rfl w.heap.size (matV (8 * 2 ^ j + 8 * 2 ^ j)).toArray rfl rfl 79 (matV (8 * 2 ^ j)).toArray hbA (by rw [infoArr]; simp [hml2]) (by simp [hml, hml2]) (matV_one _) ?_))
                go_roundw
                case rel =>
                  refine ⟨j + 1, by rw [← Hdiv.out]; rfl, by rw [← Hsb.out], ?_, hbq.setRow (by simp) _⟩
                  rw [show 8 * 2 ^ (j + 1) = 8 * 2 ^ j + 8 * 2 ^ j by rw [Nat.pow_succ]; omega]
                  exact hbA.row _
                case measure => simp [intOf]; omega
end Crc
end Go.Proofs.Ytpnafccedgjaeaa
