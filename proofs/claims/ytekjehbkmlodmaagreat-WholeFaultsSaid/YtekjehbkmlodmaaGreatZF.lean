/- A part of the proof of WholeFaults. -/
import Derived.Test.YtekjehbkmlodmaaGreatZE
set_option linter.unusedVariables false
set_option linter.unusedSimpArgs false
namespace Go.Proofs.YtekjehbkmlodmaaGreat
section
open Go.RowKit
namespace Frm
open Txt (kind_cases bv bv_one GotB leB leB_len leB_succ leVal leVal_lt tx tx_list)
theorem leVal_zero (B : List UInt8) (a k : Nat) : leVal B a k = leVal (B.drop a) 0 k := leVal_drop B a 0 k
theorem leVal_leB : ∀ (k x : Nat) (R : List UInt8), leVal (leB x k ++ R) 0 k = x % 2 ^ (8 * k)
 | 0, x, R => by simp [leVal, Nat.mod_one]
 | k + 1, x, R => by
  rw [leB_succ, List.append_assoc, leVal, leVal_leB k x, Nat.zero_add, List.getD_eq_getElem?_getD, List.getElem?_append_right (by rw [leB_len]; exact Nat.le_refl _), leB_len, Nat.sub_self]
  show x % 2 ^ (8 * k) + (UInt8.ofNat (x / 2 ^ (8 * k))).toNat * 2 ^ (8 * k) = _
  rw [UInt8.toNat_ofNat', show 8 * (k + 1) = 8 * k + 8 by omega, Nat.pow_add, Nat.mod_mul]
  congr 1
  exact Nat.mul_comm _ _
theorem leVal_at (A : List UInt8) (k x : Nat) (R : List UInt8) (hx : x < 2 ^ (8 * k)) (a : Nat) (ha : A.length = a) : leVal (A ++ (leB x k ++ R)) a k = x := by
 rw [leVal_zero, ← ha, List.drop_left, leVal_leB, Nat.mod_eq_of_lt hx]
theorem leB_congr (x y k : Nat) (h : ∀ i, i < k → x / 2 ^ (8 * i) % 256 = y / 2 ^ (8 * i) % 256) : leB x k = leB y k := by
 unfold leB
 refine List.map_congr_left fun i hi => ?_
 apply UInt8.toNat_inj.1
 rw [UInt8.toNat_ofNat', UInt8.toNat_ofNat']
 exact h i (List.mem_range.1 hi)
theorem leB_leVal (L : List UInt8) (a : Nat) : ∀ k, a + k ≤ L.length → leB (leVal L a k) k = (L.drop a).take k
 | 0, _ => rfl
 | k + 1, h => by
  have hk : a + k < L.length := by omega
  have hv := leVal_lt L a k
  have hc : (L.getD (a + k) 0) = L[a + k] := by rw [List.getD_eq_getElem?_getD, List.getElem?_eq_getElem hk]; rfl
  have hc2 := (L[a + k]).toNat_lt
  have hsame : leB (leVal L a (k + 1)) k = leB (leVal L a k) k := by
   refine leB_congr _ _ _ fun i hi => ?_
   rw [leVal]
   have e : (L.getD (a + k) 0).toNat * 2 ^ (8 * k) = 2 ^ (8 * i) * (256 * ((L.getD (a + k) 0).toNat * 2 ^ (8 * (k - i - 1)))) := by
    rw [show 8 * k = 8 * i + (8 + 8 * (k - i - 1)) by omega, Nat.pow_add, Nat.pow_add, show (2 : Nat) ^ 8 = 256 by decide]
    rw [Nat.mul_left_comm, Nat.mul_left_comm (L.getD (a + k) 0).toNat 256]
   rw [e, Nat.add_mul_div_left _ _ (Nat.two_pow_pos _), Nat.add_mul_mod_self_left]
  have hlast : UInt8.ofNat (leVal L a (k + 1) / 2 ^ (8 * k)) = L[a + k] := by
   rw [leVal, hc, Nat.add_mul_div_right _ _ (Nat.two_pow_pos _), Nat.div_eq_of_lt hv, Nat.zero_add]
   apply UInt8.toNat_inj.1
   rw [UInt8.toNat_ofNat']
   omega
  rw [leB_succ, hsame, leB_leVal L a k (by omega), hlast, List.take_add_one, List.getElem?_drop, List.getElem?_eq_getElem hk]
  rfl
theorem i32_low (x : Nat) (h : x < 4294967296) : low32 (i32of x) = x ∧ -2147483648 ≤ i32of x ∧ i32of x ≤ 2147483647 := by
 unfold low32 i32of
 rw [IntKind.wrap_i32]
 omega
theorem low_i32 (x : Int) (h1 : -2147483648 ≤ x) (h2 : x ≤ 2147483647) : low32 x < 4294967296 ∧ i32of (low32 x) = x := by
 unfold low32 i32of
 rw [IntKind.wrap_i32]
 omega
theorem numsL_len' (l : List Int) : (numsL l).length = 4 * l.length := by
 unfold numsL
 induction l with
 | nil => rfl
 | cons a l ih => rw [List.flatMap_cons, List.length_append, ih, leB_len, List.length_cons]; omega
def preF (f : Fr) (n : Nat) : List UInt8 := headL f ++ numsL (f.nums.take n)
theorem preF_len (f : Fr) (n : Nat) (h : n ≤ 3) : (preF f n).length = 8 + 4 * n := by
 unfold preF headL
 rw [List.length_append, numsL_len', List.length_take]
 simp only [List.length_append, leB_len, List.length_cons, List.length_nil, Fr.nums]
 omega
theorem code_nums' {f : Fr} {n : Nat} (hn : numK f.k = n) (h : codeF f = 0) : ∀ x ∈ f.nums.drop n, x = 0 := by
 unfold codeF at h
 rw [hn, if_neg (by omega)] at h
 intro x hx
 by_cases ha : (f.nums.drop ((n : Int)).toNat).all (· == 0) = true
 ·simpa using List.all_eq_true.1 ha x hx
 ·rw [if_neg ha] at h; cases h
theorem bytes_pre (f : Fr) (n : Nat) (hn : numK f.k = n) : bytesF f = preF f n ++ Crc.le4 (Crc.sum (preF f n)) := by
 unfold bytesF preF
 rw [hn]
 rfl
theorem first_bytes (f : Fr) (hf : f.Ok) (h0 : codeF f = 0) : firstL (bytesF f) = (f, (bytesF f).length, 0) ∧ ∃ n : Nat, numK f.k = n ∧ n ≤ 3 ∧ (bytesF f).length = 12 + 4 * n := by
 rcases numK_cases f.k with ⟨h, _⟩ | ⟨n, hn, h3, h1, h7⟩
 ·exfalso
  unfold codeF at h0
  rw [h, if_pos (by decide)] at h0
  cases h0
 have hb := bytes_pre f n hn
 have hlen : (bytesF f).length = 12 + 4 * n := by rw [hb, List.length_append, preF_len f n h3]; show 8 + 4 * n + 4 = _; omega
 refine ⟨?_, n, hn, h3, hlen⟩
 have hk : (UInt8.ofNat f.k.toNat).toNat = f.k.toNat := by rw [UInt8.toNat_ofNat']; omega
 have hL0 : (bytesF f)[0]? = some 126 := by rw [hb]; rfl
 have hL1 : (bytesF f)[1]? = some (UInt8.ofNat f.k.toNat) := by rw [hb]; rfl
 have hnn : numN (UInt8.ofNat f.k.toNat).toNat = n := by rw [hk]; exact hn
 have htk : (bytesF f).take (8 + 4 * n) = preF f n := by rw [hb, ← preF_len f n h3]; exact List.take_left
 have hdr : ((bytesF f).drop (8 + 4 * n)).take 4 = Crc.le4 (Crc.sum (preF f n)) := by
  rw [hb, ← preF_len f n h3, List.drop_left]
  rfl
 have hget : Crc.get ((bytesF f).take (8 + 4 * n)) (((bytesF f).drop (8 + 4 * n)).take 4) = true := by rw [htk, hdr]; exact beq_self_eq_true _
 rcases first_cases (bytesF f) with ⟨e, _⟩ | ⟨g0, hr⟩
 ·rw [e] at hlen; simp at hlen; omega
 have e0 : (bytesF f)[0] = 126 := Option.some.inj ((List.getElem?_eq_getElem g0).symm.trans hL0)
 rw [e0] at hr
 rcases hr with ⟨h, _⟩ | ⟨_, ⟨h, _⟩ | ⟨g1, hr⟩⟩
 ·exact absurd rfl h
 ·omega
 have e1 : (bytesF f)[1] = UInt8.ofNat f.k.toNat := Option.some.inj ((List.getElem?_eq_getElem g1).symm.trans hL1)
 rw [e1] at hr
 rcases hr with ⟨h, _⟩ | ⟨n', h, _, _, _, hr⟩
 ·omega
 obtain rfl : n' = n := by omega
 rcases hr with ⟨h, _⟩ | ⟨_, ⟨_, hr⟩ | ⟨h, _⟩⟩
 ·omega
 ·rw [hr, hlen]
  congr 1
    
  have hz := code_nums' hn h0
  have hq : leVal (bytesF f) 2 2 = f.q := by
   have e : bytesF f = [126, UInt8.ofNat f.k.toNat] ++ (leB f.q 2 ++ (leB f.t 4 ++ numsL (f.nums.take n') ++ Crc.le4 (Crc.sum (preF f n')))) := by
    rw [hb]; unfold preF headL; simp [List.append_assoc]
   rw [e]
   exact leVal_at _ 2 f.q _ (by have := hf.q; omega) 2 rfl
  have ht : leVal (bytesF f) 4 4 = f.t := by
   have e : bytesF f = ([126, UInt8.ofNat f.k.toNat] ++ leB f.q 2) ++ (leB f.t 4 ++ (numsL (f.nums.take n') ++ Crc.le4 (Crc.sum (preF f n')))) := by
    rw [hb]; unfold preF headL; simp [List.append_assoc]
   rw [e]
   exact leVal_at _ 4 f.t _ (by have := hf.t; omega) 4 (by rw [List.length_append, leB_len]; rfl)
  have hnum : ∀ (j : Nat) (x : Int) (A B : List Int), f.nums.take n' = A ++ x :: B → A.length = j → -2147483648 ≤ x → x ≤ 2147483647 → i32of (leVal (bytesF f) (8 + 4 * j) 4) = x := fun j x A B hAB hA b1 b2 => by
   have e : bytesF f = (headL f ++ numsL A) ++ (leB (low32 x) 4 ++ (numsL B ++ Crc.le4 (Crc.sum (preF f n')))) := by
    rw [hb]
    unfold preF
    rw [hAB]
    unfold numsL
    rw [List.flatMap_append, List.flatMap_cons]
    simp [List.append_assoc]
   rw [e, leVal_at _ 4 (low32 x) _ (low_i32 x b1 b2).1 (8 + 4 * j) (by rw [List.length_append, numsL_len', hA]; unfold headL; simp only [List.length_append, leB_len, List.length_cons, List.length_nil]), (low_i32 x b1 b2).2]
  have hk2 : (((UInt8.ofNat f.k.toNat).toNat : Nat) : Int) = f.k := by rw [hk]; omega
  unfold frameOf
  rw [hq, ht, hk2]
  have na : ∀ j, j < 3 → j < n' → numAt (bytesF f) n' 3 j = i32of (leVal (bytesF f) (8 + 4 * j) 4) := fun j a b => by unfold numAt; rw [if_pos ⟨a, b⟩]
  have nz : ∀ j, ¬ j < n' → numAt (bytesF f) n' 3 j = 0 := fun j a => by unfold numAt; rw [if_neg (fun h => a h.2)]
  have oa1 := hf.a1
  have oa2 := hf.a2
  have ob1 := hf.b1
  have ob2 := hf.b2
  have oc1 := hf.c1
  have oc2 := hf.c2
  clear hq ht hk2 hr hget hdr htk hL0 hL1 e0 e1
  generalize bytesF f = L at *
  obtain ⟨k, q, t, a, b, c⟩ := f
  rcases (by omega : n' = 0 ∨ n' = 1 ∨ n' = 2 ∨ n' = 3) with rfl | rfl | rfl | rfl
  ·have za := hz a (by simp [Fr.nums])
   have zb := hz b (by simp [Fr.nums])
   have zc := hz c (by simp [Fr.nums])
   subst za zb zc
   rw [nz 0 (by omega), nz 1 (by omega), nz 2 (by omega)]
  ·have zb := hz b (by simp [Fr.nums])
   have zc := hz c (by simp [Fr.nums])
   subst zb zc
   rw [na 0 (by omega) (by omega), nz 1 (by omega), nz 2 (by omega), hnum 0 a [] [] rfl rfl oa1 oa2]
  ·have zc := hz c (by simp [Fr.nums])
   subst zc
   rw [na 0 (by omega) (by omega), na 1 (by omega) (by omega), nz 2 (by omega), hnum 0 a [] [b] rfl rfl oa1 oa2, hnum 1 b [a] [] rfl rfl ob1 ob2]
  ·rw [na 0 (by omega) (by omega), na 1 (by omega) (by omega), na 2 (by omega) (by omega), hnum 0 a [] [b, c] rfl rfl oa1 oa2, hnum 1 b [a] [c] rfl rfl ob1 ob2, hnum 2 c [a, b] [] rfl rfl oc1 oc2]
 ·rw [hget] at h; cases h
theorem bytes_first (L : List UInt8) : ((firstL L).2.2 ≠ 0 ∧ (firstL L).2.1 = 0 ∧ (firstL L).1 = zeroF) ∨
  ((firstL L).2.2 = 0 ∧ (firstL L).1.Ok ∧ codeF (firstL L).1 = 0 ∧ 12 ≤ (firstL L).2.1 ∧ (firstL L).2.1 ≤ L.length ∧ (firstL L).2.1 ≤ 24 ∧ bytesF (firstL L).1 = L.take (firstL L).2.1) := by
 rcases first_cases L with ⟨_, h⟩ | ⟨g0, ⟨_, h⟩ | ⟨hm, ⟨_, h⟩ | ⟨g1, ⟨_, h⟩ | ⟨n, hn, h3, h1, h7, ⟨_, h⟩ | ⟨hle, ⟨hg, h⟩ | ⟨_, h⟩⟩⟩⟩⟩⟩
 all_goals try exact .inl (by rw [h]; exact ⟨by decide, rfl, rfl⟩)
 refine .inr ?_
 rw [h]
 have q2 := leVal_lt L 2 2
 have q4 := leVal_lt L 4 4
 have qn : ∀ j, leVal L (8 + 4 * j) 4 < 4294967296 := fun j => leVal_lt L (8 + 4 * j) 4
 have na : ∀ j, j < 3 → j < n → numAt L n 3 j = i32of (leVal L (8 + 4 * j) 4) := fun j a b => by unfold numAt; rw [if_pos ⟨a, b⟩]
 have nz : ∀ j, ¬ j < n → numAt L n 3 j = 0 := fun j a => by unfold numAt; rw [if_neg (fun h => a h.2)]
 have nb : ∀ j, -2147483648 ≤ numAt L n 3 j ∧ numAt L n 3 j ≤ 2147483647 := fun j => by
  unfold numAt
  split
  ·exact (i32_low _ (qn j)).2
  ·omega
 have hK : numK (frameOf L L[1].toNat n 3).k = n := by unfold numK; rw [← hn]; rfl
 have hkb := L[1].toNat_lt
 have hcode : (∀ x ∈ (frameOf L L[1].toNat n 3).nums.drop n, x = 0) → codeF (frameOf L L[1].toNat n 3) = 0 := fun h => by
  unfold codeF
  rw [hK, if_neg (by omega), if_pos]
  exact List.all_eq_true.2 fun x hx => by simpa using h x hx
 have hl1 : ∀ j, 8 + 4 * j + 4 ≤ L.length → leB (leVal L (8 + 4 * j) 4) 4 = (L.drop (8 + 4 * j)).take 4 := fun j hj => leB_leVal L (8 + 4 * j) 4 hj
 have hpre : preF (frameOf L L[1].toNat n 3) n = L.take (8 + 4 * n) := by
  have hhead : headL (frameOf L L[1].toNat n 3) = L.take 8 := by
   have e1 := leB_leVal L 2 2 (by omega)
   have e2 := leB_leVal L 4 4 (by omega)
   have ek : UInt8.ofNat ((frameOf L L[1].toNat n 3).k.toNat) = L[1] := by
    apply UInt8.toNat_inj.1
    rw [UInt8.toNat_ofNat']
    show (((L[1].toNat : Nat) : Int).toNat) % 256 = _
    omega
   unfold headL
   rw [ek]
   show ([126, L[1]] : List UInt8) ++ leB (leVal L 2 2) 2 ++ leB (leVal L 4 4) 4 = _
   rw [e1, e2]
   have t2 : L.take 2 = ([126, L[1]] : List UInt8) := by
    rw [List.take_add_one, List.take_add_one, List.getElem?_eq_getElem g1, List.getElem?_eq_getElem g0, hm]
    rfl
   have t4 : L.take 4 = L.take 2 ++ (L.drop 2).take 2 := List.take_add (l := L) (i := 2) (j := 2)
   have t8 : L.take 8 = L.take 4 ++ (L.drop 4).take 4 := List.take_add (l := L) (i := 4) (j := 4)
   rw [t8, t4, t2]
  have hstep : ∀ j, L.take (8 + 4 * (j + 1)) = L.take (8 + 4 * j) ++ (L.drop (8 + 4 * j)).take 4 := fun j => by rw [show 8 + 4 * (j + 1) = 8 + 4 * j + 4 by omega]; exact List.take_add
  unfold preF
  rw [hhead]
  have hx : ∀ j, j < 3 → j < n → leB (low32 (numAt L n 3 j)) 4 = (L.drop (8 + 4 * j)).take 4 := fun j a b => by rw [na j a b, (i32_low _ (qn j)).1]; exact hl1 j (by omega)
  show L.take 8 ++ numsL (List.take n [numAt L n 3 0, numAt L n 3 1, numAt L n 3 2]) = _
  rcases (by omega : n = 0 ∨ n = 1 ∨ n = 2 ∨ n = 3) with rfl | rfl | rfl | rfl
  ·show L.take 8 ++ [] = _; rw [List.append_nil]
  ·show L.take 8 ++ (leB (low32 (numAt L 1 3 0)) 4 ++ []) = _
   rw [hx 0 (by omega) (by omega), hstep 0, List.append_nil]
  ·show L.take 8 ++ (leB (low32 (numAt L 2 3 0)) 4 ++ (leB (low32 (numAt L 2 3 1)) 4 ++ [])) = _
   rw [hx 0 (by omega) (by omega), hx 1 (by omega) (by omega), hstep 1, hstep 0, List.append_nil, List.append_assoc]
  ·show L.take 8 ++ (leB (low32 (numAt L 3 3 0)) 4 ++ (leB (low32 (numAt L 3 3 1)) 4 ++ (leB (low32 (numAt L 3 3 2)) 4 ++ []))) = _
   rw [hx 0 (by omega) (by omega), hx 1 (by omega) (by omega), hx 2 (by omega) (by omega), hstep 2, hstep 1, hstep 0, List.append_nil, List.append_assoc, List.append_assoc]
 have hok : (frameOf L L[1].toNat n 3).Ok := by
  refine ⟨?_, ?_, q2, q4, (nb 0).1, (nb 0).2, (nb 1).1, (nb 1).2, (nb 2).1, (nb 2).2⟩
  ·show (-9223372036854775808 : Int) ≤ (L[1].toNat : Int); omega
  ·show (L[1].toNat : Int) ≤ 9223372036854775807; omega
 refine ⟨rfl, hok, hcode ?_, by show 12 ≤ 12 + 4 * n; omega, hle, by show 12 + 4 * n ≤ 24; omega, ?_⟩
 ·show ∀ x ∈ List.drop n [numAt L n 3 0, numAt L n 3 1, numAt L n 3 2], x = 0
  rcases (by omega : n = 0 ∨ n = 1 ∨ n = 2 ∨ n = 3) with rfl | rfl | rfl | rfl
  ·rw [nz 0 (by omega), nz 1 (by omega), nz 2 (by omega)]; simp
  ·rw [nz 1 (by omega), nz 2 (by omega)]; simp
  ·rw [nz 2 (by omega)]; simp
  ·simp
 ·rw [bytes_pre _ n hK, hpre]
  unfold Crc.get at hg
  have hg := beq_iff_eq.1 hg
  rw [← hg]
  show _ = L.take (12 + 4 * n)
  rw [show 12 + 4 * n = 8 + 4 * n + 4 by omega]
  exact List.take_add.symm
end Frm
end
section
open Go.RowKit
namespace Frm
open Txt (kind_cases bv bv_one GotB leB leB_len leB_succ leVal leVal_lt tx tx_list)
def feedL (L : List UInt8) (i : Nat) : List Fr × Nat × Nat :=
 if h : (firstL (L.drop i)).2.2 ≠ 5 ∧ i < L.length then
  (if (firstL (L.drop i)).2.2 = 0 then ((firstL (L.drop i)).1 :: (feedL L (i + max (firstL (L.drop i)).2.1 1)).1, (feedL L (i + max (firstL (L.drop i)).2.1 1)).2.1, (feedL L (i + max (firstL (L.drop i)).2.1 1)).2.2)
   else ((feedL L (i + 1)).1, (feedL L (i + 1)).2.1 + 1, (feedL L (i + 1)).2.2))
 else ([], 0, i)
termination_by L.length - i
decreasing_by all_goals omega
theorem first_nil5 {L : List UInt8} {i : Nat} (h : ¬ i < L.length) : (firstL (L.drop i)).2.2 = 5 := by rw [List.drop_of_length_le (by omega)]; rfl
theorem code_lt {L : List UInt8} {i : Nat} (h : (firstL (L.drop i)).2.2 ≠ 5) : i < L.length := by
 apply Classical.byContradiction
 intro hn
 exact h (first_nil5 hn)
theorem feed_wait {L : List UInt8} {i : Nat} (h : (firstL (L.drop i)).2.2 = 5) : feedL L i = ([], 0, i) := by rw [feedL, dif_neg (fun hh => hh.1 h)]
theorem feed_skip {L : List UInt8} {i : Nat} (h : (firstL (L.drop i)).2.2 ≠ 5) (h0 : (firstL (L.drop i)).2.2 ≠ 0) : feedL L i = ((feedL L (i + 1)).1, (feedL L (i + 1)).2.1 + 1, (feedL L (i + 1)).2.2) := by rw [feedL, dif_pos ⟨h, code_lt h⟩, if_neg h0]
theorem feed_frame {L : List UInt8} {i : Nat} (h0 : (firstL (L.drop i)).2.2 = 0) : feedL L i = ((firstL (L.drop i)).1 :: (feedL L (i + (firstL (L.drop i)).2.1)).1, (feedL L (i + (firstL (L.drop i)).2.1)).2.1, (feedL L (i + (firstL (L.drop i)).2.1)).2.2) ∧ i + 12 ≤ i + (firstL (L.drop i)).2.1 ∧ i + (firstL (L.drop i)).2.1 ≤ L.length := by
 have h5 : (firstL (L.drop i)).2.2 ≠ 5 := by rw [h0]; decide
 have hi := code_lt h5
 rcases bytes_first (L.drop i) with ⟨h1, _⟩ | ⟨_, _, _, h12, hle, h24, _⟩
 ·exact absurd h0 h1
 ·rw [List.length_drop] at hle
  refine ⟨?_, by omega, by omega⟩
  have e : max (firstL (L.drop i)).2.1 1 = (firstL (L.drop i)).2.1 := Nat.max_eq_left (by omega)
  rw [feedL, dif_pos ⟨h5, hi⟩, if_pos h0, e]
def frs (fs : List Fr) : List Value := fs.flatMap Fr.cells
theorem frs_len (fs : List Fr) : (frs fs).length = fs.length * 6 := flatMap_len Fr.cells 6 (fun _ => rfl) fs
theorem infoFrame : (Tryz.prog.info? 59).map (fun i => (i.zero, i.size, i.bytes)) = some (some (.agg #[.int .i64 0, .int .u16 0, .int .u32 0, .int .i32 0, .int .i32 0, .int .i32 0]), 6, 32) := by kernel_rfl
theorem fr_cells_one (f : Fr) : ∀ u ∈ f.cells, u.oneCell' = true := by
 intro u hu
 simp only [Fr.cells, List.mem_cons, List.not_mem_nil, or_false] at hu
 rcases hu with rfl | rfl | rfl | rfl | rfl | rfl <;> rfl
theorem app_frame {wr : World} {base : Nat} {v : Value} {fs : List Fr} {f : Fr} {ops : Array Oper} {rest : List Oper} {o : Oper} {a : Act} {Q : Exit → Act → World → Prop} (hown : wr.ownsRow base 59 6 v fs.length (frs fs)) (hgd : o.guard = none) (s x : Operand)
  (ho : o.op = .call { callee := .builtin .append, args := #[s, x], argTypes := #[54, 54] }) (hs : a.eval s = v) (g : Nat) (hx : a.eval x = .slice (some ⟨g, 0, none⟩) 1 1) (hb : Blk wr g 59 f.cells) (hlen : fs.length ≤ 100000) (hbase : base ≤ wr.heap.size)
  (h : ∀ v' w', w'.ownsRow base 59 6 v' (fs ++ [f]).length (frs (fs ++ [f])) → wr.grownBy w' v.ownBlock → (v'.ownBlock = v.ownBlock ∨ ∀ b, v'.ownBlock = some b → wr.heap.size ≤ b) → wpList Tryz.prog ops Q rest (a.put o.dst v') w') : wpList Tryz.prog ops Q (o :: rest) a wr := by
 obtain ⟨i0, hi, hz0, hz1, hz2⟩ := info_parts infoFrame
 refine wpList_append_mine hgd s x 54 ho base 59 i0 _ 6 32 Tryz.underlying54 hi hz0 hz1 hz2 rfl (by decide) v fs.length (frs fs) hs hown (some ⟨g, 0, none⟩) 1 1 f.cells hx rfl (fun h => by cases h) hb.news (fr_cells_one f) (by unfold maxLen; omega) (by omega) hbase fun v' w' h1 h2 h3 => h v' w' ?_ h2 h3
 rw [List.length_append]
 unfold frs at h1 ⊢
 rw [List.flatMap_append]
 simpa using h1
def GotFeed (w : World) (L : List UInt8) (e : Ending) (w' : World) : Prop :=
 (∃ v, e = .returned (.tuple #[v, .int .i64 ((feedL L 0).2.1 : Int), .int .i64 ((L.length : Int) - ((feedL L 0).2.2 : Int))]) ∧ w'.ownsRow w.heap.size 59 6 v (feedL L 0).1.length (frs (feedL L 0).1)) ∧ Below w.heap.size w w'
set_option maxRecDepth 100000 in
set_option maxHeartbeats 1000000 in
theorem yfeed_any (A : Option Addr) (L : List UInt8) (N cap lo hi : Nat) (w : World) (h : RdL w lo hi A (L.map bv)) (hhi : hi ≤ w.heap.size) (hn : L.length = N) (hl : N ≤ 100000) (hNc : N ≤ cap) :
  Calls Tryz.prog 12 #[.slice A N cap] w (GotFeed w L) := by
 have HRd := Lib.hid h
 have HN := Lib.hid hn
 clear h hn
 go_enter Tryz.func12, Tryz.ntmps12
 go_wp2_with fail
 go_loopw [5, 6, 7] (fun v x u wr => ∃ (i lost : Nat) (fs : List Fr), i ≤ N ∧ lost ≤ i ∧ fs.length ≤ i ∧ u = .int .i64 (i : Int) ∧ x = .int .i64 (lost : Int) ∧ wr.ownsRow w.heap.size 59 6 v fs.length (frs fs) ∧ feedL L 0 = (fs ++ (feedL L i).1, lost + (feedL L i).2.1, (feedL L i).2.2) ∧ Below w.heap.size w wr) (fun _ _ u _ => N - (intOf u).toNat)
 case atStart => exact ⟨0, 0, [], Nat.zero_le _, Nat.le_refl _, Nat.zero_le _, rfl, rfl, World.ownsRow_nil _ _ _ _, by simp, Below.refl _ _⟩
 case round =>
  obtain ⟨i, lost, fs, hiN, hlo, hfl, rfl, rfl, hown, hfd, hb⟩ := hrel
  have HO := Lib.hid hown
  have HF := Lib.hid hfd
  have HB := Lib.hid hb
  have hsz := hb.size
  have hrd : RdL wr lo hi A (L.map bv) := HRd.out.next hb
  clear hown hfd hb
  have hfst := yfirst_any A L N cap lo hi i wr hrd (by omega) HN.out (by omega) hNc (by omega)
  unfold GotI at hfst
  clear hrd
  by_cases h5 : (firstL (L.drop i)).2.2 = 5
  ·have hz : (firstL (L.drop i)).1 = zeroF := by
    rcases bytes_first (L.drop i) with ⟨_, _, h⟩ | ⟨h, _⟩
    ·exact h
    ·rw [h5] at h; cases h
   have v0 : zeroF.v = .agg #[.int .i64 0, .int .u16 0, .int .u32 0, .int .i32 0, .int .i32 0, .int .i32 0] := rfl
   have HW := Lib.hid (feed_wait h5)
   rw [h5, hz, v0] at hfst
   have y1 : IntKind.i64.wrap ((N : Int) - (i : Int)) = (N : Int) - (i : Int) := IntWalk.i64_in _ (by omega)
   clear h5 hz v0
   generalize (firstL (L.drop i)).2.1 = z at *
   go_wp2_with fail
   refine hfst.mono ?_
   rintro e w1 ⟨rfl, hb⟩
   have HB2 := Lib.hid ((_root_.Go.Proofs.YtekjehbkmlodmaaGreat.bt HB.out hb).alloc (by have := hb.size; omega) (.cells zeroF.cells.toArray 59))
   have HO2 := Lib.hid ((own_next HO.out hb).alloc (.cells zeroF.cells.toArray 59))
   clear hb hfst
   go_wp2_with fail
   refine bodyPost_ret (results_tmp3 rfl _ _ _) rfl ?_
   have hf := HF.out
   rw [HW.out] at hf
   have e1 : fs = (feedL L 0).1 := by rw [hf]; simp
   have HOx := HO2.out
   rw [e1] at HOx
   refine ⟨⟨_, ?_, HOx⟩, HB2.out⟩
   rw [hf, HN.out]
   rfl
  ·have h5b : ((firstL (L.drop i)).2.2 == 5) = false := beq_eq_false_iff_ne.2 h5
   have hlt := code_lt h5
   rw [HN.out] at hlt
   by_cases h0 : (firstL (L.drop i)).2.2 = 0
   ·obtain ⟨he, h12, hle⟩ := feed_frame h0
    rw [HN.out] at hle
    have HE := Lib.hid he
    rw [h0] at hfst
    obtain ⟨z, hz⟩ : ∃ z, z = (firstL (L.drop i)).2.1 := ⟨_, rfl⟩
    obtain ⟨f, hf⟩ : ∃ f, f = (firstL (L.drop i)).1 := ⟨_, rfl⟩
    rw [← hz, ← hf] at hfst
    rw [← hz] at h12 hle
    have HZ := Lib.hid hz
    have HFr := Lib.hid hf
    have y1 : IntKind.i64.wrap ((i : Int) + (z : Int)) = (i : Int) + (z : Int) := IntWalk.i64_in _ (by omega)
    clear he h0 h5 h5b hz hf
    have hcs : f.v = .agg #[.int .i64 f.k, .int .u16 (f.q : Int), .int .u32 (f.t : Int), .int .i32 f.a, .int .i32 f.b, .int .i32 f.c] := rfl
    rw [hcs] at hfst
    go_wp2_with fail
    refine hfst.mono ?_
    rintro e w1 ⟨rfl, hb⟩
    have hsz1 := hb.size
    have HB2 := Lib.hid ((_root_.Go.Proofs.YtekjehbkmlodmaaGreat.bt HB.out hb).alloc (by omega) (.cells f.cells.toArray 59))
    have HO2 := Lib.hid ((own_next HO.out hb).alloc (.cells f.cells.toArray 59))
    have HB3 := Lib.hid (HB2.out.alloc HB2.out.size (.cells f.cells.toArray 59))
    have HO3 := Lib.hid (HO2.out.alloc (.cells f.cells.toArray 59))
    have HK3 : Hid (Blk ((w1.alloc (.cells f.cells.toArray 59)).alloc (.cells f.cells.toArray 59)) (w1.heap.size + 1) 59 f.cells) := Lib.hid (by have := Blk.mk (w1.alloc (.cells f.cells.toArray 59)) 59 f.cells; simpa using this)
    clear hb hfst
    go_wp2_with (at_builtin; refine app_frame HO3.out rfl (.tmp 32) (.tmp 34) rfl rfl (w1.heap.size + 1) rfl HK3.out (by omega) HB3.out.size ?_; intro v2 w2 hown2 hgrow2 _; have Hown2 := Lib.hid hown2; have Hgrow2 := Lib.hid hgrow2; clear hown2 hgrow2)
    go_roundw
    case rel =>
     refine ⟨i + z, lost, fs ++ [f], by omega, by omega, by rw [List.length_append]; show fs.length + 1 ≤ i + z; omega, by go_num, rfl, Hown2.out, ?_, HB3.out.grown Hgrow2.out (by have := HB3.out.size; exact this) (fun q hq => (own_lt HO3.out hq).1)⟩
     rw [HF.out, HE.out, ← HZ.out, ← HFr.out, List.append_assoc]
     rfl
    case measure => first | (simp [intOf]; done) | (simp [intOf]; omega)
   ·have h0b : ((firstL (L.drop i)).2.2 == 0) = false := beq_eq_false_iff_ne.2 h0
    have h0c : ((firstL (L.drop i)).2.2 != 0) = true := bne_iff_ne.2 h0
    have hz : (firstL (L.drop i)).1 = zeroF := by
     rcases bytes_first (L.drop i) with ⟨_, _, h⟩ | ⟨h, _⟩
     ·exact h
     ·exact absurd h h0
    have v0 : zeroF.v = .agg #[.int .i64 0, .int .u16 0, .int .u32 0, .int .i32 0, .int .i32 0, .int .i32 0] := rfl
    have HE := Lib.hid (feed_skip h5 h0)
    rw [hz, v0] at hfst
    have y1 : IntKind.i64.wrap ((i : Int) + 1) = (i : Int) + 1 := IntWalk.i64_in _ (by omega)
    have y2 : IntKind.i64.wrap ((lost : Int) + 1) = (lost : Int) + 1 := IntWalk.i64_in _ (by omega)
    clear h5 h0 hz v0
    generalize (firstL (L.drop i)).2.2 = c at *
    generalize (firstL (L.drop i)).2.1 = z at *
    go_wp2_with fail
    refine hfst.mono ?_
    rintro e w1 ⟨rfl, hb⟩
    have HB2 := Lib.hid ((_root_.Go.Proofs.YtekjehbkmlodmaaGreat.bt HB.out hb).alloc (by have := hb.size; omega) (.cells zeroF.cells.toArray 59))
    have HO2 := Lib.hid ((own_next HO.out hb).alloc (.cells zeroF.cells.toArray 59))
    clear hb hfst
    go_wp2_with fail
    go_roundw
    case rel => exact ⟨i + 1, lost + 1, fs, by omega, by omega, by omega, by go_num, by go_num, HO2.out, by rw [HF.out, HE.out]; refine Prod.ext rfl (Prod.ext ?_ rfl); show lost + ((feedL L (i + 1)).2.1 + 1) = lost + 1 + (feedL L (i + 1)).2.1; omega, HB2.out⟩
    case measure => first | (simp [intOf]; done) | (simp [intOf]; omega)
end Frm
end
section
open Go.RowKit
structure Keeps2 (w w' : World) (g : Nat) (r : Option Nat) : Prop where
 os : w'.os = w.os
 tape : w'.tape = w.tape
 output : w'.output = w.output
 size : w.heap.size ≤ w'.heap.size
 block : ∀ k, k < w.heap.size → k ≠ g → some k ≠ r → w'.heap[k]? = w.heap[k]?
theorem Keeps2.refl (w : World) (g : Nat) (r : Option Nat) : Keeps2 w w g r := ⟨rfl, rfl, rfl, Nat.le_refl _, fun _ _ _ _ => rfl⟩
theorem Keeps2.next {w wr w' : World} {g : Nat} {r : Option Nat} (S : Keeps2 w wr g r) (hb : Below wr.heap.size wr w') : Keeps2 w w' g r :=
 ⟨hb.os.trans S.os, hb.tape.trans S.tape, hb.output.trans S.output, Nat.le_trans S.size hb.size, fun k h1 h2 h3 => (hb.block k (Nat.lt_of_lt_of_le h1 S.size)).trans (S.block k h1 h2 h3)⟩
theorem Keeps2.grown {w wr w' : World} {g : Nat} {r row : Option Nat} (S : Keeps2 w wr g r) (hg : wr.grownBy w' row) (hr : row = r ∨ ∀ b, row = some b → w.heap.size ≤ b) : Keeps2 w w' g r :=
 ⟨hg.os.trans S.os, hg.tape.trans S.tape, hg.output.trans S.output, Nat.le_trans S.size hg.size, fun k h1 h2 h3 => (hg.block k (Nat.lt_of_lt_of_le h1 S.size) (by
  rcases hr with rfl | hr
  ·exact h3
  ·intro e; have := hr k e.symm; omega)).trans (S.block k h1 h2 h3)⟩
theorem Keeps2.set {w wr : World} {g : Nat} {r : Option Nat} (S : Keeps2 w wr g r) (i : Nat) (u : Value) : Keeps2 w (wr.setCell ⟨g, i, none⟩ u) g r :=
 ⟨S.os, S.tape, S.output, by simpa using S.size, fun k h1 h2 h3 => (Below.heap_setCell wr ⟨g, i, none⟩ u k h2).trans (S.block k h1 h2 h3)⟩
namespace Frm
open Txt (kind_cases bv bv_one GotB leB leB_len leB_succ leVal leVal_lt tx tx_list)
def lenV : Option Value → Nat
 | some (.slice _ n _) => n
 | _ => 0
end Frm
end
section
open Go.RowKit
namespace Frm
open Txt (kind_cases bv bv_one GotB leB leB_len leB_succ leVal leVal_lt tx tx_list)
structure FeedD (p0 : Value) (tl : List Value) (w : World) (g : Nat) (v : Value) (R : List UInt8) (lost : Nat) : Prop where
 blk : Blk w g 91 (p0 :: v :: .int .i64 (lost : Int) :: tl)
 own : w.ownsRow (g + 1) 5 1 v R.length (R.map bv)
def GotPushD (p0 : Value) (tl : List Value) (w : World) (g : Nat) (v : Value) (R : List UInt8) (lost : Nat) (M : List UInt8) (e : Ending) (w' : World) : Prop :=
 ∃ out v', e = .returned out ∧ w'.ownsRow w.heap.size 59 6 out (feedL (R ++ M) 0).1.length (frs (feedL (R ++ M) 0).1) ∧
  FeedD p0 tl w' g v' ((R ++ M).drop (feedL (R ++ M) 0).2.2) (lost + (feedL (R ++ M) 0).2.1) ∧ (v'.ownBlock = none ∨ ∃ b, v'.ownBlock = some b ∧ w.heap.size ≤ b) ∧ Apart out v' ∧ Keeps2 w w' g v.ownBlock
structure PhD (p0 : Value) (tl : List Value) (w : World) (g : Nat) (r : Option Nat) (A : Option Addr) (n cap hh : Nat) (D : List UInt8) (lost : Nat) (out : Value) (fs : List Fr) (wr : World) : Prop where
 blk : Blk wr g 91 (p0 :: .slice A n cap :: .int .i64 (lost : Int) :: tl)
 rd : RdL wr (g + 1) hh A (D.map bv)
 hih : hh ≤ wr.heap.size
 len : D.length = n
 cp : n ≤ cap
 nl : A = none → n = 0 ∧ cap = 0
 own : wr.ownsRow hh 59 6 out fs.length (frs fs)
 keep : Keeps2 w wr g r
 gh : g < hh
 wh : w.heap.size ≤ hh
theorem PhD.next {p0 : Value} {tl : List Value} {w wr w' : World} {g : Nat} {r : Option Nat} {A : Option Addr} {n cap hh : Nat} {D : List UInt8} {lost : Nat} {out : Value} {fs : List Fr} (S : PhD p0 tl w g r A n cap hh D lost out fs wr) (hb : Below wr.heap.size wr w') : PhD p0 tl w g r A n cap hh D lost out fs w' :=
 ⟨S.blk.next hb, S.rd.next hb, Nat.le_trans S.hih hb.size, S.len, S.cp, S.nl, own_next S.own hb, S.keep.next hb, S.gh, S.wh⟩
theorem PhD.far {p0 : Value} {tl : List Value} {w wr : World} {g : Nat} {r : Option Nat} {A : Option Addr} {n cap hh : Nat} {D : List UInt8} {lost : Nat} {out : Value} {fs : List Fr} (S : PhD p0 tl w g r A n cap hh D lost out fs wr) (q : Nat) (hq : out.ownBlock = some q) : g ≠ q := by
 have := (own_lt S.own hq).1
 have := S.gh
 omega
theorem PhD.cut {p0 : Value} {tl : List Value} {w wr : World} {g : Nat} {r : Option Nat} {b off n cap hh : Nat} {D : List UInt8} {lost : Nat} {out : Value} {fs : List Fr} (S : PhD p0 tl w g r (some ⟨b, off, none⟩) n cap hh D lost out fs wr) (z : Nat) (hz : z ≤ n) (A' : Addr) (hA' : cap = z ∨ A' = ⟨b, off + z, none⟩) :
  PhD p0 tl w g r (some A') (n - z) (cap - z) hh (D.drop z) lost out fs (wr.setCell ⟨g, 1, none⟩ (.slice (some A') (n - z) (cap - z))) := by
 refine ⟨S.blk.put 1 _, ?_, by simpa using S.hih, by rw [List.length_drop, S.len], by have := S.cp; omega, (fun h => by cases h), ?_, S.keep.set 1 _, S.gh, S.wh⟩
 ·rcases hA' with h | rfl
  ·refine .inl ?_
   rw [List.drop_of_length_le (by rw [S.len]; have := S.cp; omega)]
   rfl
  ·rw [List.map_drop]
   exact (S.rd.far (p := ⟨g, 1, none⟩) (.inl (by show g < g + 1; omega)) _).drop z
 ·exact own_same S.own (fun q hq => Below.heap_setCell wr ⟨g, 1, none⟩ _ q (fun e => S.far q hq e.symm))
theorem PhD.loss {p0 : Value} {tl : List Value} {w wr : World} {g : Nat} {r : Option Nat} {A : Option Addr} {n cap hh : Nat} {D : List UInt8} {lost : Nat} {out : Value} {fs : List Fr} (S : PhD p0 tl w g r A n cap hh D lost out fs wr) :
  PhD p0 tl w g r A n cap hh D (lost + 1) out fs (wr.setCell ⟨g, 2, none⟩ (.int .i64 ((lost : Int) + 1))) := by
 have hb := S.blk.put 2 (.int .i64 ((lost : Int) + 1))
 refine ⟨hb, S.rd.far (p := ⟨g, 2, none⟩) (.inl (by show g < g + 1; omega)) _, by simpa using S.hih, S.len, S.cp, S.nl, ?_, S.keep.set 2 _, S.gh, S.wh⟩
 exact own_same S.own (fun q hq => Below.heap_setCell wr ⟨g, 2, none⟩ _ q (fun e => S.far q hq e.symm))
theorem PhD.more {p0 : Value} {tl : List Value} {w wr w' : World} {g : Nat} {r : Option Nat} {A : Option Addr} {n cap hh : Nat} {D : List UInt8} {lost : Nat} {out out' : Value} {fs fs' : List Fr} (S : PhD p0 tl w g r A n cap hh D lost out fs wr) (ho : w'.ownsRow hh 59 6 out' fs'.length (frs fs')) (hg : wr.grownBy w' out.ownBlock) : PhD p0 tl w g r A n cap hh D lost out' fs' w' := by
 have h1 : ∀ k, out.ownBlock = some k → hh ≤ k := fun k hk => (own_lt S.own hk).1
 refine ⟨S.blk.grown hg (fun e => S.far g e.symm rfl), S.rd.grown hg (fun q hq => .inr (h1 q hq)), Nat.le_trans S.hih hg.size, S.len, S.cp, S.nl, ho, S.keep.grown hg (.inr fun q hq => Nat.le_trans S.wh (h1 q hq)), S.gh, S.wh⟩
theorem PhD.num {p0 : Value} {tl : List Value} {w wr : World} {g : Nat} {r : Option Nat} {A : Option Addr} {n n' cap hh : Nat} {D D' : List UInt8} {lost lost' : Nat} {out : Value} {fs : List Fr} (S : PhD p0 tl w g r A n cap hh D lost out fs wr) (h : n = n') (h2 : D = D') (h3 : lost = lost') : PhD p0 tl w g r A n' cap hh D' lost' out fs wr := by
 subst h h2 h3
 exact S
set_option maxRecDepth 100000 in
set_option maxHeartbeats 4000000 in
theorem pushd_any (p0 : Value) (tl : List Value) (g : Nat) (v : Value) (R : List UInt8) (lost : Nat) (A : Option Addr) (M : List UInt8) (m cap lo hi : Nat) (w : World) (hS : FeedD p0 tl w g v R lost) (h : RdL w lo hi A (M.map bv)) (hm : M.length = m) (hA : A = none → m = 0 ∧ cap = 0) (hlen : R.length + M.length ≤ 10000) (hlost : lost ≤ 10000) :
  Calls Tryz.prog 40 #[.pointer (some ⟨g, 1, none⟩), .slice A m cap] w (GotPushD p0 tl w g v R lost M) := by
 obtain ⟨i0, hi', hz0, hz1, hz2⟩ := info_parts Txt.infoByte
 have HS := Lib.hid hS
 have HR := Lib.hid h
 have HM := Lib.hid hm
 have e0 : w.cell? ⟨g, 1, none⟩ = some v := hS.blk.cell 1
 have hg := hS.blk.lt
 have hvo : ∀ k, v.ownBlock = some k → g + 1 ≤ k := own_ge hS.own
 clear hS h hm
 obtain ⟨D, hD⟩ : ∃ d, d = R ++ M := ⟨_, rfl⟩
 have hDl : D.length = R.length + m := by rw [hD, List.length_append, HM.out]
 have HD := Lib.hid hD
 obtain ⟨N, hN⟩ : ∃ k, k = R.length + m := ⟨_, rfl⟩
 rw [← hN] at hDl
 have HDl := Lib.hid hDl
 have hN2 : N ≤ 10000 := by have := HM.out; omega
 have HN := Lib.hid hN
 clear hD hDl hN
 go_enter Tryz.func40, Tryz.ntmps40
 go_wp2_with (at_builtin; refine wpList_append_mine rfl (.tmp 13) (.tmp 14) 35 rfl (g + 1) 5 i0 (.int .u8 0) 1 1 Tryz.underlying35 hi' hz0 hz1 hz2 rfl (by decide) v R.length (R.map bv) rfl HS.out.own A m cap (M.map bv) rfl (by rw [List.length_map, HM.out]; simp) hA HR.out.news (bv_one M) (by unfold maxLen; have := HM.out; omega) (by have := HM.out; omega) (by omega) ?_; intro v1 w1 hown1 hgrow1 hwhose1; rw [← HN.out, ← List.map_append, ← HD.out] at hown1; obtain ⟨A1, cap1, rfl, hrd1, hnc1, hcm1, hA1⟩ := own_rd hown1; have hb1 : Blk w1 g 91 (p0 :: v :: .int .i64 (lost : Int) :: tl) := HS.out.blk.grown hgrow1 (fun e => by have := hvo g e.symm; omega); have f0 : w1.frozen? ⟨g, 1, none⟩ = false := hb1.free 1; have e1 : w1.cell? ⟨g, 1, none⟩ = some v := hb1.cell 1; have HP : Hid (PhD p0 tl w g v.ownBlock A1 N cap1 w1.heap.size D lost (.slice none 0 0) [] (w1.setCell ⟨g, 1, none⟩ (.slice A1 N cap1))) := Lib.hid ⟨hb1.put 1 _, hrd1.far (p := ⟨g, 1, none⟩) (.inl (by show g < g + 1; omega)) _, by simp, HDl.out, hnc1, hA1, World.ownsRow_nil _ _ _ _, ((Keeps2.refl w g v.ownBlock).grown hgrow1 (.inl rfl)).set 1 _, Nat.lt_of_lt_of_le hg hgrow1.size, hgrow1.size⟩; clear hown1 hgrow1 hwhose1 hrd1 hb1 hnc1 hcm1 hA1)
 go_loopw [5] (fun o wr => ∃ (i l : Nat) (fs : List Fr) (A2 : Option Addr) (cap2 : Nat), i ≤ N ∧ l ≤ i ∧ fs.length ≤ i ∧ PhD p0 tl w g v.ownBlock A2 (N - i) cap2 w1.heap.size (D.drop i) (lost + l) o fs wr ∧ feedL D 0 = (fs ++ (feedL D i).1, l + (feedL D i).2.1, (feedL D i).2.2)) (fun _ wr => lenV (wr.cell? ⟨g, 1, none⟩))
 case atStart => exact ⟨0, 0, [], A1, cap1, Nat.zero_le _, Nat.le_refl _, Nat.zero_le _, HP.out, by simp⟩
 case round =>
  clear HP e1 f0 e0
  obtain ⟨i, l, fs, A2, cap2, hiN, hli, hfl, hp, hfd⟩ := hrel
  have HP := Lib.hid hp
  have HF := Lib.hid hfd
  have e0 := hp.blk.cell 1
  change _ = some (Value.slice A2 (N - i) cap2) at e0
  have hfst := first_any A2 (D.drop i) (N - i) cap2 (g + 1) w1.heap.size wr hp.rd hp.hih hp.len (by omega) hp.cp
  unfold GotI at hfst
  clear hp hfd
  have hmz : lenV (wr.cell? ⟨g, 1, none⟩) = N - i := by rw [e0]; rfl
  have HMz := Lib.hid hmz
  clear hmz
  by_cases h5 : (firstL (D.drop i)).2.2 = 5
  ·have hz : (firstL (D.drop i)).1 = zeroF := by
    rcases bytes_first (D.drop i) with ⟨_, _, h⟩ | ⟨h, _⟩
    ·exact h
    ·rw [h5] at h; cases h
   have v0 : zeroF.v = .agg #[.int .i64 0, .int .u16 0, .int .u32 0, .int .i32 0, .int .i32 0, .int .i32 0] := rfl
   have HW := Lib.hid (feed_wait h5)
   rw [h5, hz, v0] at hfst
   clear h5 hz v0
   generalize (firstL (D.drop i)).2.1 = z at *
   go_wp2_with fail
   refine hfst.mono ?_
   rintro e w2 ⟨rfl, hb⟩
   have HPw := Lib.hid (HP.out.next hb)
   have HP2 := Lib.hid (HPw.out.next (bl w2 (.cells #[.int .i64 0, .int .u16 0, .int .u32 0, .int .i32 0, .int .i32 0, .int .i32 0] 59)))
   clear hb hfst HP e0
   have HP3 := Lib.hid (HP2.out.next (bl _ (.cells #[] 5)))
   have e2 : w2.cell? ⟨g, 1, none⟩ = some (.slice A2 (N - i) cap2) := HPw.out.blk.cell 1
   have hg2 := HPw.out.blk.lt
   have hg3 : g < w2.heap.size + 1 := by omega
   have ho3 : ((w2.alloc (.cells #[.int .i64 0, .int .u16 0, .int .u32 0, .int .i32 0, .int .i32 0, .int .i32 0] 59)).alloc (.cells #[] 5)).ownsRow (w2.heap.size + 1) 5 1 (.slice (some ⟨w2.heap.size + 1, 0, none⟩) 0 0) 0 [] := by
    have := own_new (w2.alloc (.cells #[.int .i64 0, .int .u16 0, .int .u32 0, .int .i32 0, .int .i32 0, .int .i32 0] 59)) 5 1
    simpa using this
   have HO3 := Lib.hid ho3
   have HL3 : Hid ((D.drop i).length = N - i) := Lib.hid HP2.out.len
   clear ho3
   go_wp2_with (at_builtin; refine wpList_append_mine rfl (.tmp 61) (.tmp 65) 35 rfl (w2.heap.size + 1) 5 i0 (.int .u8 0) 1 1 Tryz.underlying35 hi' hz0 hz1 hz2 rfl (by decide) _ 0 [] rfl HO3.out A2 (N - i) cap2 ((D.drop i).map bv) rfl (by rw [List.length_map, HL3.out]; simp) HP3.out.nl HP3.out.rd.news (bv_one _) (by unfold maxLen; omega) (by omega) (by simp) ?_; intro v5 w5 hown5 hgrow5 hwhose5; rw [Nat.zero_add, List.nil_append] at hown5; obtain ⟨A5, cap5, rfl, hrd5, hnc5, hcm5, hA5⟩ := own_rd hown5; have HO5 := Lib.hid hown5; have HG5 := Lib.hid hgrow5; have HW5 := Lib.hid hwhose5; have HP5 := Lib.hid (HP3.out.blk.grown hgrow5 (fun e => by have e' : some g = some (w2.heap.size + 1) := e; injection e' with e'; omega)); have f5 := HP5.out.free 1; have e5 : w5.cell? ⟨g, 1, none⟩ = some (.slice A2 (N - i) cap2) := HP5.out.cell 1; clear hown5 hgrow5 hwhose5 hrd5 hnc5 hcm5 hA5)
   refine bodyPost_ret (results_tmp rfl _ _ _) rfl ?_
   have hf := HF.out
   rw [HW.out] at hf
   have e1 : (feedL D 0).1 = fs := by rw [hf]; simp
   have e2' : (feedL D 0).2.1 = l := by rw [hf]; simp
   have e3 : (feedL D 0).2.2 = i := by rw [hf]
   have hK := (HP3.out.keep.grown HG5.out (.inr fun q hq => by have hq' : some (w2.heap.size + 1) = some q := hq; injection hq' with hq'; have := HPw.out.keep.size; omega)).set 1 (.slice A5 (N - i) cap5)
   have hwsz := HPw.out.keep.size
   have hown : (w5.setCell ⟨g, 1, none⟩ (.slice A5 (N - i) cap5)).ownsRow (w2.heap.size + 1) 5 1 (.slice A5 (N - i) cap5) (N - i) ((D.drop i).map bv) :=
    own_same HO5.out (fun q hq => Below.heap_setCell w5 ⟨g, 1, none⟩ _ q (fun e => by have := (own_lt HO5.out hq).1; have e : q = g := e; omega))
   have hou : (w5.setCell ⟨g, 1, none⟩ (.slice A5 (N - i) cap5)).ownsRow w1.heap.size 59 6 u5 fs.length (frs fs) := by
    refine own_same (own_kept HP3.out.own HG5.out ?_) (fun q hq => Below.heap_setCell w5 ⟨g, 1, none⟩ _ q (fun e => HP3.out.far q hq e.symm))
    intro q hq hq2
    have hq' : some (w2.heap.size + 1) = some q := hq
    injection hq' with hq'
    have := (own_lt HPw.out.own hq2).2
    omega
   refine ⟨_, .slice A5 (N - i) cap5, rfl, ?_, ⟨?_, ?_⟩, ?_, ?_, hK⟩
   ·rw [← HD.out, e1]; exact own_down hou HP3.out.wh
   ·rw [← HD.out, e2']; exact HP5.out.put 1 _
   ·rw [← HD.out, e3, HL3.out]; exact own_down hown (by omega)
   ·cases hq : (Value.slice A5 (N - i) cap5).ownBlock with
    | none => exact .inl rfl
    | some q => exact .inr ⟨q, rfl, by have := (own_lt HO5.out hq).1; omega⟩
   ·intro q hq hq2
    have h1 := (own_lt HPw.out.own hq).2
    have h2 := (own_lt HO5.out hq2).1
    omega
  ·have h5b : ((firstL (D.drop i)).2.2 == 5) = false := beq_eq_false_iff_ne.2 h5
   have hlt := code_lt h5
   rw [HDl.out] at hlt
   obtain ⟨b, off, rfl, _, _, _, _⟩ := HP.out.rd.some (by rw [List.length_map, List.length_drop, HDl.out]; omega)
   by_cases h0 : (firstL (D.drop i)).2.2 = 0
   ·obtain ⟨he, h12, hle⟩ := feed_frame h0
    rw [HDl.out] at hle
    have HE := Lib.hid he
    rw [h0] at hfst
    obtain ⟨z, hz⟩ : ∃ z, z = (firstL (D.drop i)).2.1 := ⟨_, rfl⟩
    obtain ⟨f, hf⟩ : ∃ f, f = (firstL (D.drop i)).1 := ⟨_, rfl⟩
    rw [← hz, ← hf] at hfst
    rw [← hz] at h12 hle
    have HZ := Lib.hid hz
    have HFr := Lib.hid hf
    clear he h0 h5 h5b hz hf
    have hcs : f.v = .agg #[.int .i64 f.k, .int .u16 (f.q : Int), .int .u32 (f.t : Int), .int .i32 f.a, .int .i32 f.b, .int .i32 f.c] := rfl
    rw [hcs] at hfst
    have hzn : z ≤ N - i := by omega
    have hzI : (z : Int) ≤ ((N - i : Nat) : Int) := by omega
    have h0z : (0 : Int) ≤ (z : Int) := by omega
    have hcz : z = cap2 ∨ cap2 ≠ z := by omega
    have hsub : N - i - z = N - (i + z) := by omega
    have Hsub := Lib.hid hsub
    clear hsub
    clear hcs
    rcases hcz with rfl | hcz
    all_goals
     go_wp2_with fail
     refine hfst.mono ?_
     rintro e w2 ⟨rfl, hb⟩
     have HPw := Lib.hid (HP.out.next hb)
     have HP2 := Lib.hid (HPw.out.next (bl w2 (.cells f.cells.toArray 59)))
     have HP3 := Lib.hid (HP2.out.next (bl (w2.alloc (.cells f.cells.toArray 59)) (.cells f.cells.toArray 59)))
     have HK3 : Hid (Blk ((w2.alloc (.cells f.cells.toArray 59)).alloc (.cells f.cells.toArray 59)) (w2.heap.size + 1) 59 f.cells) := Lib.hid (by have := Blk.mk (w2.alloc (.cells f.cells.toArray 59)) 59 f.cells; simpa using this)
     clear hb hfst HP e0
     go_wp2_with (at_builtin; refine app_frame HP3.out.own rfl (.tmp 45) (.tmp 47) rfl rfl (w2.heap.size + 1) rfl HK3.out (by omega) HP3.out.hih ?_; intro v5 w5 hown5 hgrow5 _; have HP5 := Lib.hid (HP3.out.more hown5 hgrow5); have f5 := HP5.out.blk.free 1; have e5 := HP5.out.blk.cell 1; change _ = some (Value.slice (some ⟨b, off, none⟩) (N - i) _) at e5; clear hown5 hgrow5)
     go_roundw
     case rel =>
      first
       | have hc := HP5.out.cut z hzn ⟨b, off, none⟩ (.inl rfl)
       | have hc := HP5.out.cut z hzn ⟨b, off + z, none⟩ (.inr rfl)
      have hc2 := hc.num Hsub.out (List.drop_drop) rfl
      try rw [Nat.sub_self] at hc2
      have hfin : feedL D 0 = ((fs ++ [f]) ++ (feedL D (i + z)).1, l + (feedL D (i + z)).2.1, (feedL D (i + z)).2.2) := by
       rw [HF.out, HE.out, ← HZ.out, ← HFr.out, List.append_assoc]
       rfl
      exact ⟨i + z, l, fs ++ [f], _, _, by omega, by omega, by rw [List.length_append]; show fs.length + 1 ≤ i + z; omega, hc2, hfin⟩
     case measure =>
      first
       | have hc := HP5.out.cut z hzn ⟨b, off, none⟩ (.inl rfl)
       | have hc := HP5.out.cut z hzn ⟨b, off + z, none⟩ (.inr rfl)
      have hcell := hc.blk.cell 1
      try rw [Nat.sub_self] at hcell
      rw [HMz.out]
      refine Nat.lt_of_le_of_lt (Nat.le_of_eq (congrArg lenV hcell)) ?_
      show N - i - z < N - i
      omega
   ·have h0b : ((firstL (D.drop i)).2.2 == 0) = false := beq_eq_false_iff_ne.2 h0
    have hz : (firstL (D.drop i)).1 = zeroF := by
     rcases bytes_first (D.drop i) with ⟨_, _, h⟩ | ⟨h, _⟩
     ·exact h
     ·exact absurd h h0
    have v0 : zeroF.v = .agg #[.int .i64 0, .int .u16 0, .int .u32 0, .int .i32 0, .int .i32 0, .int .i32 0] := rfl
    have HE := Lib.hid (feed_skip h5 h0)
    rw [hz, v0] at hfst
    have y1 : IntKind.i64.wrap (((lost + l : Nat) : Int) + 1) = ((lost + l : Nat) : Int) + 1 := IntWalk.i64_in _ (by omega)
    have h1n : 1 ≤ N - i := by omega
    have h1I : (1 : Int) ≤ ((N - i : Nat) : Int) := by omega
    have hcz : 1 = cap2 ∨ cap2 ≠ 1 := by omega
    have hsub : N - i - 1 = N - (i + 1) := by omega
    have Hsub := Lib.hid hsub
    have HLo := Lib.hid (show lost + (l + 1) = lost + l + 1 by omega)
    clear h5 h0 hz v0 hsub
    generalize (firstL (D.drop i)).2.2 = c at *
    generalize (firstL (D.drop i)).2.1 = z at *
    obtain ⟨q, hq⟩ : ∃ q, q = lost + l := ⟨_, rfl⟩
    rw [← hq] at HP y1 HLo
    have Hq := Lib.hid hq
    clear hq
    rcases hcz with rfl | hcz
    all_goals
     go_wp2_with fail
     refine hfst.mono ?_
     rintro e w2 ⟨rfl, hb⟩
     have HPw := Lib.hid (HP.out.next hb)
     have HP5 := Lib.hid HPw.out.loss
     have hg2 := HPw.out.blk.lt
     have f5 := HPw.out.blk.free 1
     have f6 := HPw.out.blk.free 2
     have e5 := HPw.out.blk.cell 1
     have e6 := HPw.out.blk.cell 2
     change _ = some (Value.slice (some ⟨b, off, none⟩) (N - i) _) at e5
     change _ = some (Value.int .i64 (q : Int)) at e6
     clear hb hfst HP e0
     go_wp2_with fail
     go_roundw
     case rel =>
      first
       | have hc := (HP5.out.cut 1 h1n ⟨b, off, none⟩ (.inl rfl)).next (bl _ (.cells #[.int .i64 0, .int .u16 0, .int .u32 0, .int .i32 0, .int .i32 0, .int .i32 0] 59))
       | have hc := (HP5.out.cut 1 h1n ⟨b, off + 1, none⟩ (.inr rfl)).next (bl _ (.cells #[.int .i64 0, .int .u16 0, .int .u32 0, .int .i32 0, .int .i32 0, .int .i32 0] 59))
      have hc2 := hc.num Hsub.out (List.drop_drop) HLo.out.symm
      try rw [Nat.sub_self] at hc2
      have hfin : feedL D 0 = (fs ++ (feedL D (i + 1)).1, l + 1 + (feedL D (i + 1)).2.1, (feedL D (i + 1)).2.2) := by
       rw [HF.out, HE.out]
       refine Prod.ext rfl (Prod.ext ?_ rfl)
       show l + ((feedL D (i + 1)).2.1 + 1) = l + 1 + (feedL D (i + 1)).2.1
       omega
      exact ⟨i + 1, l + 1, fs, _, _, by omega, by omega, by omega, hc2, hfin⟩
     case measure =>
      first
       | have hc := (HP5.out.cut 1 h1n ⟨b, off, none⟩ (.inl rfl)).next (bl _ (.cells #[.int .i64 0, .int .u16 0, .int .u32 0, .int .i32 0, .int .i32 0, .int .i32 0] 59))
       | have hc := (HP5.out.cut 1 h1n ⟨b, off + 1, none⟩ (.inr rfl)).next (bl _ (.cells #[.int .i64 0, .int .u16 0, .int .u32 0, .int .i32 0, .int .i32 0, .int .i32 0] 59))
      have hcell := hc.blk.cell 1
      try rw [Nat.sub_self] at hcell
      rw [HMz.out]
      refine Nat.lt_of_le_of_lt (Nat.le_of_eq (congrArg lenV hcell)) ?_
      show N - i - 1 < N - i
      omega
end Frm
end
section
open Go.RowKit
namespace Frm
open Txt (kind_cases bv bv_one GotB leB leB_len leB_succ leVal leVal_lt tx tx_list)
theorem take_app (P M : List UInt8) (k : Nat) (h : k ≤ P.length) : (P ++ M).take k = P.take k := by
 rw [List.take_append_of_le_length h]
theorem drop_take_app (P M : List UInt8) (a k : Nat) (h : a + k ≤ P.length) : ((P ++ M).drop a).take k = (P.drop a).take k := by
 rw [List.drop_append_of_le_length (by omega), List.take_append_of_le_length (by rw [List.length_drop]; omega)]
theorem leVal_app (P M : List UInt8) (a : Nat) : ∀ j, a + j ≤ P.length → leVal (P ++ M) a j = leVal P a j
 | 0, _ => rfl
 | j + 1, h => by
  rw [leVal, leVal, leVal_app P M a j (by omega)]
  congr 3
  rw [List.getD_eq_getElem?_getD, List.getD_eq_getElem?_getD, List.getElem?_append_left (by omega)]
theorem first_app (P M : List UInt8) (h : (firstL P).2.2 ≠ 5) : firstL (P ++ M) = firstL P := by
 match P with
 | [] => exact absurd rfl h
 | [c] =>
  by_cases hc : c = 126
  ·subst hc; exact absurd rfl h
  ·have e : firstL [c] = (zeroF, 0, 3) := by rw [firstL, if_pos hc]
   rw [e]
   match M with
   | [] => show firstL [c] = _; rw [e]
   | m :: M => show firstL (c :: m :: M) = _; rw [firstL, if_pos hc]
 | c :: k :: s =>
  show firstL (c :: k :: (s ++ M)) = _
  by_cases hc : c = 126
  ·have hc' : ¬ (c ≠ 126) := by simp [hc]
   by_cases hn : numN k.toNat < 0
   ·rw [firstL, if_neg hc', if_pos hn, firstL, if_neg hc', if_pos hn]
   ·by_cases hl : (c :: k :: s).length < 12 + 4 * (numN k.toNat).toNat
    ·exfalso
     apply h
     rw [firstL, if_neg hc', if_neg hn, if_pos hl]
    ·have hl2 : ¬ (c :: k :: (s ++ M)).length < 12 + 4 * (numN k.toNat).toNat := by
      simp only [List.length_cons, List.length_append] at hl ⊢
      omega
     have hle : 12 + 4 * (numN k.toNat).toNat ≤ (c :: k :: s).length := by omega
     have e1 : (c :: k :: (s ++ M)).take (8 + 4 * (numN k.toNat).toNat) = (c :: k :: s).take (8 + 4 * (numN k.toNat).toNat) := take_app (c :: k :: s) M _ (by omega)
     have e2 : ((c :: k :: (s ++ M)).drop (8 + 4 * (numN k.toNat).toNat)).take 4 = ((c :: k :: s).drop (8 + 4 * (numN k.toNat).toNat)).take 4 := drop_take_app (c :: k :: s) M _ _ (by omega)
     have e3 : ∀ a j, a + j ≤ 12 + 4 * (numN k.toNat).toNat → leVal (c :: k :: (s ++ M)) a j = leVal (c :: k :: s) a j := fun a j hj => leVal_app (c :: k :: s) M a j (by omega)
     have e4 : frameOf (c :: k :: (s ++ M)) k.toNat (numN k.toNat).toNat 3 = frameOf (c :: k :: s) k.toNat (numN k.toNat).toNat 3 := by
      unfold frameOf numAt
      rw [e3 2 2 (by omega), e3 4 4 (by omega)]
      have e5 : ∀ j, (if j < 3 ∧ j < (numN k.toNat).toNat then i32of (leVal (c :: k :: (s ++ M)) (8 + 4 * j) 4) else 0) = (if j < 3 ∧ j < (numN k.toNat).toNat then i32of (leVal (c :: k :: s) (8 + 4 * j) 4) else 0) := fun j => by
       split
       ·rw [e3 _ _ (by omega)]
       ·rfl
      rw [e5 0, e5 1, e5 2]
     rw [firstL, if_neg hc', if_neg hn, if_neg hl2, e1, e2, e4, firstL, if_neg hc', if_neg hn, if_neg hl]
  ·rw [firstL, if_pos hc, firstL, if_pos hc]
theorem feed_shift (L : List UInt8) (k : Nat) : ∀ d i, (L.drop k).length - i ≤ d → feedL L (k + i) = ((feedL (L.drop k) i).1, (feedL (L.drop k) i).2.1, k + (feedL (L.drop k) i).2.2) := by
 intro d
 induction d with
 | zero =>
  intro i h
  have h5 : (firstL ((L.drop k).drop i)).2.2 = 5 := first_nil5 (by omega)
  rw [feed_wait h5]
  rw [List.drop_drop] at h5
  rw [feed_wait h5]
 | succ d ih =>
  intro i h
  have hd : L.drop (k + i) = (L.drop k).drop i := by rw [List.drop_drop]
  by_cases h5 : (firstL ((L.drop k).drop i)).2.2 = 5
  ·rw [feed_wait h5, feed_wait (by rw [hd]; exact h5)]
  ·have hlt := code_lt h5
   by_cases h0 : (firstL ((L.drop k).drop i)).2.2 = 0
   ·obtain ⟨e, h12, hle⟩ := feed_frame h0
    obtain ⟨e2, _, _⟩ := feed_frame (L := L) (i := k + i) (by rw [hd]; exact h0)
    rw [hd] at e2
    rw [e2, e, Nat.add_assoc, ih (i + (firstL ((L.drop k).drop i)).2.1) (by omega)]
   ·have e := feed_skip h5 h0
    have e2 := feed_skip (L := L) (i := k + i) (by rw [hd]; exact h5) (by rw [hd]; exact h0)
    rw [e2, e, Nat.add_assoc, ih (i + 1) (by omega)]
end Frm
end
section
open Go.RowKit
namespace Top
open Frm (Fr feedL firstL bytesF codeF first_app first_bytes bytes_first feed_frame feed_skip feed_wait feed_shift code_lt numK)
def Good (f : Fr) : Prop := f.Ok ∧ codeF f = 0
theorem feed_cat : ∀ fs : List Fr, (∀ f ∈ fs, Good f) → feedL (fs.flatMap bytesF) 0 = (fs, 0, (fs.flatMap bytesF).length)
 | [], _ => feed_wait rfl
 | f :: fs, h => by
  have ih := feed_cat fs (fun g hg => h g (List.mem_cons_of_mem _ hg))
  obtain ⟨hf, h0⟩ := h f List.mem_cons_self
  obtain ⟨e, _⟩ := first_bytes f hf h0
  rw [List.flatMap_cons]
  generalize fs.flatMap bytesF = R at *
  have e5 : (firstL (bytesF f)).2.2 ≠ 5 := by rw [e]; exact (by decide : (0 : Int) ≠ 5)
  have ea := first_app (bytesF f) R e5
  rw [e] at ea
  obtain ⟨ef, _, _⟩ := feed_frame (L := bytesF f ++ R) (i := 0) (by rw [List.drop_zero, ea])
  rw [List.drop_zero, ea] at ef
  have es := feed_shift (bytesF f ++ R) (bytesF f).length _ 0 (Nat.le_refl _)
  rw [List.drop_left, ih, Nat.add_zero] at es
  dsimp only at ef es
  rw [ef, Nat.zero_add, es, List.length_append]
theorem feed_good (L : List UInt8) : ∀ d i, L.length - i ≤ d → (∀ f ∈ (feedL L i).1, Good f ∧ 1 ≤ f.k ∧ f.k ≤ 7) ∧ (feedL L i).1.length ≤ L.length - i := by
 intro d
 induction d with
 | zero =>
  intro i h
  have h5 : (firstL (L.drop i)).2.2 = 5 := Frm.first_nil5 (by omega)
  rw [feed_wait h5]
  exact ⟨fun f hf => (by cases hf), Nat.zero_le _⟩
 | succ d ih =>
  intro i h
  by_cases h5 : (firstL (L.drop i)).2.2 = 5
  ·rw [feed_wait h5]
   exact ⟨fun f hf => (by cases hf), Nat.zero_le _⟩
  ·have hlt := code_lt h5
   by_cases h0 : (firstL (L.drop i)).2.2 = 0
   ·obtain ⟨e, h12, hle⟩ := feed_frame h0
    obtain ⟨i1, i2⟩ := ih (i + (firstL (L.drop i)).2.1) (by omega)
    rw [e]
    refine ⟨fun f hf => ?_, by rw [List.length_cons]; omega⟩
    rcases List.mem_cons.1 hf with rfl | hf
    ·rcases bytes_first (L.drop i) with ⟨h1, _⟩ | ⟨_, ho, hc, _⟩
     ·exact absurd h0 h1
     ·refine ⟨⟨ho, hc⟩, ?_⟩
      rcases Frm.numK_cases (firstL (L.drop i)).1.k with ⟨hk, _⟩ | ⟨n, _, _, h1, h7⟩
      ·unfold codeF at hc
       rw [hk, if_pos (by decide)] at hc
       cases hc
      ·exact ⟨h1, h7⟩
    ·exact i1 f hf
   ·obtain ⟨i1, i2⟩ := ih (i + 1) (by omega)
    rw [feed_skip h5 h0]
    exact ⟨i1, by dsimp only; omega⟩
def mF (s : Nat) : Fr := ⟨7, s, 0, 4, 0, 0⟩
theorem mF_good {s : Nat} (h : s < 65536) : Good (mF s) := by
 refine ⟨⟨by simp [mF], by simp [mF], h, by simp [mF], by simp [mF], by simp [mF], by simp [mF], by simp [mF], by simp [mF], by simp [mF]⟩, ?_⟩
 have hk : numK (mF s).k = 2 := rfl
 unfold codeF
 rw [hk]
 rfl
def tellL (n : Nat) : List Fr := (List.range n).map fun i => mF ((i + 1) % 65536)
theorem tellL_succ (n : Nat) : tellL (n + 1) = tellL n ++ [mF ((n + 1) % 65536)] := by simp [tellL, List.range_succ]
theorem tellL_len (n : Nat) : (tellL n).length = n := by simp [tellL]
theorem tellL_good (n : Nat) : ∀ f ∈ tellL n, Good f := fun f hf => by
 obtain ⟨i, _, rfl⟩ := List.mem_map.1 hf
 exact mF_good (Nat.mod_lt _ (by decide))
theorem tellL_get {n i : Nat} (h : i < n) : (tellL n)[i]? = some (mF ((i + 1) % 65536)) := by simp [tellL, h]
def tellB (n : Nat) : List UInt8 := (tellL n).flatMap bytesF
theorem mF_len {s : Nat} (h : s < 65536) : (bytesF (mF s)).length = 20 := by
 obtain ⟨hf, h0⟩ := mF_good h
 obtain ⟨_, n, hn, _, hl⟩ := first_bytes (mF s) hf h0
 have hk : numK (mF s).k = 2 := rfl
 rw [hk] at hn
 omega
theorem tellB_succ (n : Nat) : tellB (n + 1) = tellB n ++ bytesF (mF ((n + 1) % 65536)) := by simp [tellB, tellL_succ]
theorem tellB_len : ∀ n, (tellB n).length = 20 * n
 | 0 => rfl
 | n + 1 => by rw [tellB_succ, List.length_append, tellB_len n, mF_len (Nat.mod_lt _ (by decide))]; omega
theorem tell_feed (n : Nat) : feedL (tellB n) 0 = (tellL n, 0, 20 * n) := by
 have := feed_cat (tellL n) (tellL_good n)
 rw [← tellB_len n]
 exact this
end Top
end
end Go.Proofs.YtekjehbkmlodmaaGreat
