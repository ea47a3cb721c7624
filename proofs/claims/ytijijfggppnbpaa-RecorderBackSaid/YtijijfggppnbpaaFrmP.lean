/-
  Frames as bytes, and back: the plain law. No walk in sight.
-/
import Derived.Test.YtijijfggppnbpaaFrmG3
namespace Go.Proofs.Ytijijfggppnbpaa
open Go.RowKit
set_option linter.unusedVariables false
namespace Frm
open Txt (kind_cases bv bv_one GotB leB leB_len leB_succ leVal leVal_lt tx tx_list)

theorem leVal_zero (B : List UInt8) (a k : Nat) : leVal B a k = leVal (B.drop a) 0 k := leVal_drop B a 0 k
theorem leVal_leB : ∀ (k x : Nat) (R : List UInt8), leVal (leB x k ++ R) 0 k = x % 2 ^ (8 * k)
  | 0, x, R => by simp [leVal, Nat.mod_one]
  | k + 1, x, R => by
    rw [leB_succ, List.append_assoc, leVal, leVal_leB k x, Nat.zero_add, List.getD_eq_getElem?_getD, List.getElem?_append_right (by rw [leB_len]; exact Nat.le_refl _), leB_len, Nat.sub_self]
    show x % 2 ^ (8 * k) + (UInt8.ofNat (x / 2 ^ (8 * k))).toNat * 2 ^ (8 * k) = _
    rw [UInt8.toNat_ofNat', show 8 * (k + 1) = 8 * k + 8 by omega, Nat.pow_add, Nat.mod_mul]
    congr 1
    exact Nat.mul_comm _ _
theorem leVal_at (A : List UInt8) (k x : Nat) (R : List UInt8) (hx : x < 2 ^ (8 * k)) (a : Nat) (ha : A.length = a) : leVal (A ++ (leB x k ++ R)) a k = x := by
  rw [leVal_zero, ← ha, List.drop_left, leVal_leB, Nat.mod_eq_of_lt hx]
theorem leB_congr (x y k : Nat) (h : ∀ i, i < k → x / 2 ^ (8 * i) % 256 = y / 2 ^ (8 * i) % 256) : leB x k = leB y k := by
  unfold leB
  refine List.map_congr_left fun i hi => ?_
  apply UInt8.toNat_inj.1
  rw [UInt8.toNat_ofNat', UInt8.toNat_ofNat']
  exact h i (List.mem_range.1 hi)
theorem leB_leVal (L : List UInt8) (a : Nat) : ∀ k, a + k ≤ L.length → leB (leVal L a k) k = (L.drop a).take k
  | 0, _ => rfl
  | k + 1, h => by
    have hk : a + k < L.length := by omega
    have hv := leVal_lt L a k
    have hc : (L.getD (a + k) 0) = L[a + k] := by rw [List.getD_eq_getElem?_getD, List.getElem?_eq_getElem hk]; rfl
    have hc2 := (L[a + k]).toNat_lt
    have hsame : leB (leVal L a (k + 1)) k = leB (leVal L a k) k := by
      refine leB_congr _ _ _ fun i hi => ?_
      rw [leVal]
      have e : (L.getD (a + k) 0).toNat * 2 ^ (8 * k) = 2 ^ (8 * i) * (256 * ((L.getD (a + k) 0).toNat * 2 ^ (8 * (k - i - 1)))) := by
        rw [show 8 * k = 8 * i + (8 + 8 * (k - i - 1)) by omega, Nat.pow_add, Nat.pow_add, show (2 : Nat) ^ 8 = 256 by decide]
        rw [Nat.mul_left_comm, Nat.mul_left_comm (L.getD (a + k) 0).toNat 256]
      rw [e, Nat.add_mul_div_left _ _ (Nat.two_pow_pos _), Nat.add_mul_mod_self_left]
    have hlast : UInt8.ofNat (leVal L a (k + 1) / 2 ^ (8 * k)) = L[a + k] := by
      rw [leVal, hc, Nat.add_mul_div_right _ _ (Nat.two_pow_pos _), Nat.div_eq_of_lt hv, Nat.zero_add]
      apply UInt8.toNat_inj.1
      rw [UInt8.toNat_ofNat']
      omega
    rw [leB_succ, hsame, leB_leVal L a k (by omega), hlast, List.take_add_one, List.getElem?_drop, List.getElem?_eq_getElem hk]
    rfl
theorem i32_low (x : Nat) (h : x < 4294967296) : low32 (i32of x) = x ∧ -2147483648 ≤ i32of x ∧ i32of x ≤ 2147483647 := by
  unfold low32 i32of
  rw [IntKind.wrap_i32]
  omega
theorem low_i32 (x : Int) (h1 : -2147483648 ≤ x) (h2 : x ≤ 2147483647) : low32 x < 4294967296 ∧ i32of (low32 x) = x := by
  unfold low32 i32of
  rw [IntKind.wrap_i32]
  omega
theorem numsL_len' (l : List Int) : (numsL l).length = 4 * l.length := by
  unfold numsL
  induction l with
  | nil => rfl
  | cons a l ih => rw [List.flatMap_cons, List.length_append, ih, leB_len, List.length_cons]; omega
/-- what stands ahead of a frame's sum -/
def preF (f : Fr) (n : Nat) : List UInt8 := headL f ++ numsL (f.nums.take n)
theorem preF_len (f : Fr) (n : Nat) (h : n ≤ 3) : (preF f n).length = 8 + 4 * n := by
  unfold preF headL
  rw [List.length_append, numsL_len', List.length_take]
  simp only [List.length_append, leB_len, List.length_cons, List.length_nil, Fr.nums]
  omega
theorem code_nums' {f : Fr} {n : Nat} (hn : numK f.k = n) (h : codeF f = 0) : ∀ x ∈ f.nums.drop n, x = 0 := by
  unfold codeF at h
  rw [hn, if_neg (by omega)] at h
  intro x hx
  by_cases ha : (f.nums.drop ((n : Int)).toNat).all (· == 0) = true
  · simpa using List.all_eq_true.1 ha x hx
  · rw [if_neg ha] at h; cases h
theorem bytes_pre (f : Fr) (n : Nat) (hn : numK f.k = n) : bytesF f = preF f n ++ Crc.le4 (Crc.sum (preF f n)) := by
  unfold bytesF preF
  rw [hn]
  rfl
theorem first_bytes (f : Fr) (hf : f.Ok) (h0 : codeF f = 0) : firstL (bytesF f) = (f, (bytesF f).length, 0) ∧ ∃ n : Nat, numK f.k = n ∧ n ≤ 3 ∧ (bytesF f).length = 12 + 4 * n := by
  rcases numK_cases f.k with ⟨h, _⟩ | ⟨n, hn, h3, h1, h7⟩
  · exfalso
    unfold codeF at h0
    rw [h, if_pos (by decide)] at h0
    cases h0
  have hb := bytes_pre f n hn
  have hlen : (bytesF f).length = 12 + 4 * n := by rw [hb, List.length_append, preF_len f n h3]; show 8 + 4 * n + 4 = _; omega
  refine ⟨?_, n, hn, h3, hlen⟩
  have hk : (UInt8.ofNat f.k.toNat).toNat = f.k.toNat := by rw [UInt8.toNat_ofNat']; omega
  have hL0 : (bytesF f)[0]? = some 126 := by rw [hb]; rfl
  have hL1 : (bytesF f)[1]? = some (UInt8.ofNat f.k.toNat) := by rw [hb]; rfl
  have hnn : numN (UInt8.ofNat f.k.toNat).toNat = n := by rw [hk]; exact hn
  have htk : (bytesF f).take (8 + 4 * n) = preF f n := by rw [hb, ← preF_len f n h3]; exact List.take_left
  have hdr : ((bytesF f).drop (8 + 4 * n)).take 4 = Crc.le4 (Crc.sum (preF f n)) := by
    rw [hb, ← preF_len f n h3, List.drop_left]
    rfl
  have hget : Crc.get ((bytesF f).take (8 + 4 * n)) (((bytesF f).drop (8 + 4 * n)).take 4) = true := by rw [htk, hdr]; exact beq_self_eq_true _
  rcases first_cases (bytesF f) with ⟨e, _⟩ | ⟨g0, hr⟩
  · rw [e] at hlen; simp at hlen; omega
  have e0 : (bytesF f)[0] = 126 := Option.some.inj ((List.getElem?_eq_getElem g0).symm.trans hL0)
  rw [e0] at hr
  rcases hr with ⟨h, _⟩ | ⟨_, ⟨h, _⟩ | ⟨g1, hr⟩⟩
  · exact absurd rfl h
  · omega
  have e1 : (bytesF f)[1] = UInt8.ofNat f.k.toNat := Option.some.inj ((List.getElem?_eq_getElem g1).symm.trans hL1)
  rw [e1] at hr
  rcases hr with ⟨h, _⟩ | ⟨n', h, _, _, _, hr⟩
  · omega
  obtain rfl : n' = n := by omega
  rcases hr with ⟨h, _⟩ | ⟨_, ⟨_, hr⟩ | ⟨h, _⟩⟩
  · omega
  · rw [hr, hlen]
    congr 1
    -- the frame
    have hz := code_nums' hn h0
    have hq : leVal (bytesF f) 2 2 = f.q := by
      have e : bytesF f = [126, UInt8.ofNat f.k.toNat] ++ (leB f.q 2 ++ (leB f.t 4 ++ numsL (f.nums.take n') ++ Crc.le4 (Crc.sum (preF f n')))) := by
        rw [hb]; unfold preF headL; simp [List.append_assoc]
      rw [e]
      exact leVal_at _ 2 f.q _ (by have := hf.q; omega) 2 rfl
    have ht : leVal (bytesF f) 4 4 = f.t := by
      have e : bytesF f = ([126, UInt8.ofNat f.k.toNat] ++ leB f.q 2) ++ (leB f.t 4 ++ (numsL (f.nums.take n') ++ Crc.le4 (Crc.sum (preF f n')))) := by
        rw [hb]; unfold preF headL; simp [List.append_assoc]
      rw [e]
      exact leVal_at _ 4 f.t _ (by have := hf.t; omega) 4 (by rw [List.length_append, leB_len]; rfl)
    have hnum : ∀ (j : Nat) (x : Int) (A B : List Int), f.nums.take n' = A ++ x :: B → A.length = j → -2147483648 ≤ x → x ≤ 2147483647 → i32of (leVal (bytesF f) (8 + 4 * j) 4) = x := fun j x A B hAB hA b1 b2 => by
      have e : bytesF f = (headL f ++ numsL A) ++ (leB (low32 x) 4 ++ (numsL B ++ Crc.le4 (Crc.sum (preF f n')))) := by
        rw [hb]
        unfold preF
        rw [hAB]
        unfold numsL
        rw [List.flatMap_append, List.flatMap_cons]
        simp [List.append_assoc]
      rw [e, leVal_at _ 4 (low32 x) _ (low_i32 x b1 b2).1 (8 + 4 * j) (by rw [List.length_append, numsL_len', hA]; unfold headL; simp only [List.length_append, leB_len, List.length_cons, List.length_nil]), (low_i32 x b1 b2).2]
    have hk2 : (((UInt8.ofNat f.k.toNat).toNat : Nat) : Int) = f.k := by rw [hk]; omega
    unfold frameOf
    rw [hq, ht, hk2]
    have na : ∀ j, j < 3 → j < n' → numAt (bytesF f) n' 3 j = i32of (leVal (bytesF f) (8 + 4 * j) 4) := fun j a b => by unfold numAt; rw [if_pos ⟨a, b⟩]
    have nz : ∀ j, ¬ j < n' → numAt (bytesF f) n' 3 j = 0 := fun j a => by unfold numAt; rw [if_neg (fun h => a h.2)]
    have oa1 := hf.a1
    have oa2 := hf.a2
    have ob1 := hf.b1
    have ob2 := hf.b2
    have oc1 := hf.c1
    have oc2 := hf.c2
    clear hq ht hk2 hr hget hdr htk hL0 hL1 e0 e1
    generalize bytesF f = L at *
    obtain ⟨k, q, t, a, b, c⟩ := f
    rcases (by omega : n' = 0 ∨ n' = 1 ∨ n' = 2 ∨ n' = 3) with rfl | rfl | rfl | rfl
    · have za := hz a (by simp [Fr.nums])
      have zb := hz b (by simp [Fr.nums])
      have zc := hz c (by simp [Fr.nums])
      subst za zb zc
      rw [nz 0 (by omega), nz 1 (by omega), nz 2 (by omega)]
    · have zb := hz b (by simp [Fr.nums])
      have zc := hz c (by simp [Fr.nums])
      subst zb zc
      rw [na 0 (by omega) (by omega), nz 1 (by omega), nz 2 (by omega), hnum 0 a [] [] rfl rfl oa1 oa2]
    · have zc := hz c (by simp [Fr.nums])
      subst zc
      rw [na 0 (by omega) (by omega), na 1 (by omega) (by omega), nz 2 (by omega), hnum 0 a [] [b] rfl rfl oa1 oa2, hnum 1 b [a] [] rfl rfl ob1 ob2]
    · rw [na 0 (by omega) (by omega), na 1 (by omega) (by omega), na 2 (by omega) (by omega), hnum 0 a [] [b, c] rfl rfl oa1 oa2, hnum 1 b [a] [c] rfl rfl ob1 ob2, hnum 2 c [a, b] [] rfl rfl oc1 oc2]
  · rw [hget] at h; cases h
theorem zero_ok : zeroF.Ok := ⟨by decide, by decide, by decide, by decide, by decide, by decide, by decide, by decide, by decide, by decide⟩
/-- bytes that begin with a frame are its bytes, and more -/
theorem bytes_first (L : List UInt8) : ((firstL L).2.2 ≠ 0 ∧ (firstL L).2.1 = 0 ∧ (firstL L).1 = zeroF) ∨
    ((firstL L).2.2 = 0 ∧ (firstL L).1.Ok ∧ codeF (firstL L).1 = 0 ∧ 12 ≤ (firstL L).2.1 ∧ (firstL L).2.1 ≤ L.length ∧ (firstL L).2.1 ≤ 24 ∧ bytesF (firstL L).1 = L.take (firstL L).2.1) := by
  rcases first_cases L with ⟨_, h⟩ | ⟨g0, ⟨_, h⟩ | ⟨hm, ⟨_, h⟩ | ⟨g1, ⟨_, h⟩ | ⟨n, hn, h3, h1, h7, ⟨_, h⟩ | ⟨hle, ⟨hg, h⟩ | ⟨_, h⟩⟩⟩⟩⟩⟩
  all_goals try exact .inl (by rw [h]; exact ⟨by decide, rfl, rfl⟩)
  refine .inr ?_
  rw [h]
  have q2 := leVal_lt L 2 2
  have q4 := leVal_lt L 4 4
  have qn : ∀ j, leVal L (8 + 4 * j) 4 < 4294967296 := fun j => leVal_lt L (8 + 4 * j) 4
  have na : ∀ j, j < 3 → j < n → numAt L n 3 j = i32of (leVal L (8 + 4 * j) 4) := fun j a b => by unfold numAt; rw [if_pos ⟨a, b⟩]
  have nz : ∀ j, ¬ j < n → numAt L n 3 j = 0 := fun j a => by unfold numAt; rw [if_neg (fun h => a h.2)]
  have nb : ∀ j, -2147483648 ≤ numAt L n 3 j ∧ numAt L n 3 j ≤ 2147483647 := fun j => by
    unfold numAt
    split
    · exact (i32_low _ (qn j)).2
    · omega
  have hK : numK (frameOf L L[1].toNat n 3).k = n := by unfold numK; rw [← hn]; rfl
  have hkb := L[1].toNat_lt
  have hcode : (∀ x ∈ (frameOf L L[1].toNat n 3).nums.drop n, x = 0) → codeF (frameOf L L[1].toNat n 3) = 0 := fun h => by
    unfold codeF
    rw [hK, if_neg (by omega), if_pos]
    exact List.all_eq_true.2 fun x hx => by simpa using h x hx
  have hl1 : ∀ j, 8 + 4 * j + 4 ≤ L.length → leB (leVal L (8 + 4 * j) 4) 4 = (L.drop (8 + 4 * j)).take 4 := fun j hj => leB_leVal L (8 + 4 * j) 4 hj
  have hpre : preF (frameOf L L[1].toNat n 3) n = L.take (8 + 4 * n) := by
    have hhead : headL (frameOf L L[1].toNat n 3) = L.take 8 := by
      have e1 := leB_leVal L 2 2 (by omega)
      have e2 := leB_leVal L 4 4 (by omega)
      have ek : UInt8.ofNat ((frameOf L L[1].toNat n 3).k.toNat) = L[1] := by
        apply UInt8.toNat_inj.1
        rw [UInt8.toNat_ofNat']
        show (((L[1].toNat : Nat) : Int).toNat) % 256 = _
        omega
      unfold headL
      rw [ek]
      show ([126, L[1]] : List UInt8) ++ leB (leVal L 2 2) 2 ++ leB (leVal L 4 4) 4 = _
      rw [e1, e2]
      have t2 : L.take 2 = ([126, L[1]] : List UInt8) := by
        rw [List.take_add_one, List.take_add_one, List.getElem?_eq_getElem g1, List.getElem?_eq_getElem g0, hm]
        rfl
      have t4 : L.take 4 = L.take 2 ++ (L.drop 2).take 2 := List.take_add (l := L) (i := 2) (j := 2)
      have t8 : L.take 8 = L.take 4 ++ (L.drop 4).take 4 := List.take_add (l := L) (i := 4) (j := 4)
      rw [t8, t4, t2]
    have hstep : ∀ j, L.take (8 + 4 * (j + 1)) = L.take (8 + 4 * j) ++ (L.drop (8 + 4 * j)).take 4 := fun j => by rw [show 8 + 4 * (j + 1) = 8 + 4 * j + 4 by omega]; exact List.take_add
    unfold preF
    rw [hhead]
    have hx : ∀ j, j < 3 → j < n → leB (low32 (numAt L n 3 j)) 4 = (L.drop (8 + 4 * j)).take 4 := fun j a b => by rw [na j a b, (i32_low _ (qn j)).1]; exact hl1 j (by omega)
    show L.take 8 ++ numsL (List.take n [numAt L n 3 0, numAt L n 3 1, numAt L n 3 2]) = _
    rcases (by omega : n = 0 ∨ n = 1 ∨ n = 2 ∨ n = 3) with rfl | rfl | rfl | rfl
    · show L.take 8 ++ [] = _; rw [List.append_nil]
    · show L.take 8 ++ (leB (low32 (numAt L 1 3 0)) 4 ++ []) = _
      rw [hx 0 (by omega) (by omega), hstep 0, List.append_nil]
    · show L.take 8 ++ (leB (low32 (numAt L 2 3 0)) 4 ++ (leB (low32 (numAt L 2 3 1)) 4 ++ [])) = _
      rw [hx 0 (by omega) (by omega), hx 1 (by omega) (by omega), hstep 1, hstep 0, List.append_nil, List.append_assoc]
    · show L.take 8 ++ (leB (low32 (numAt L 3 3 0)) 4 ++ (leB (low32 (numAt L 3 3 1)) 4 ++ (leB (low32 (numAt L 3 3 2)) 4 ++ []))) = _
      rw [hx 0 (by omega) (by omega), hx 1 (by omega) (by omega), hx 2 (by omega) (by omega), hstep 2, hstep 1, hstep 0, List.append_nil, List.append_assoc, List.append_assoc]
  have hok : (frameOf L L[1].toNat n 3).Ok := by
    refine ⟨?_, ?_, q2, q4, (nb 0).1, (nb 0).2, (nb 1).1, (nb 1).2, (nb 2).1, (nb 2).2⟩
    · show (-9223372036854775808 : Int) ≤ (L[1].toNat : Int); omega
    · show (L[1].toNat : Int) ≤ 9223372036854775807; omega
  refine ⟨rfl, hok, hcode ?_, by show 12 ≤ 12 + 4 * n; omega, hle, by show 12 + 4 * n ≤ 24; omega, ?_⟩
  · show ∀ x ∈ List.drop n [numAt L n 3 0, numAt L n 3 1, numAt L n 3 2], x = 0
    rcases (by omega : n = 0 ∨ n = 1 ∨ n = 2 ∨ n = 3) with rfl | rfl | rfl | rfl
    · rw [nz 0 (by omega), nz 1 (by omega), nz 2 (by omega)]; simp
    · rw [nz 1 (by omega), nz 2 (by omega)]; simp
    · rw [nz 2 (by omega)]; simp
    · simp
  · rw [bytes_pre _ n hK, hpre]
    unfold Crc.get at hg
    have hg := beq_iff_eq.1 hg
    rw [← hg]
    show _ = L.take (12 + 4 * n)
    rw [show 12 + 4 * n = 8 + 4 * n + 4 by omega]
    exact List.take_add.symm
end Frm
end Go.Proofs.Ytijijfggppnbpaa
