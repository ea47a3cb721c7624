/-
  What a line is, as a frame: the plain law. No walk in sight.
-/
import Derived.Test.YtijijfggppnbpaaTxtW10
namespace Go.Proofs.Ytijijfggppnbpaa
open Go.RowKit
set_option linter.unusedVariables false
namespace Txt
open Frm (Fr codeF numK numN GotF)

/-- the kind that is called so; 0: none -/
def kindOf (l : List UInt8) : Nat :=
  if wordN 1 = l then 1 else if wordN 2 = l then 2 else if wordN 3 = l then 3 else if wordN 4 = l then 4 else if wordN 5 = l then 5 else if wordN 6 = l then 6 else if wordN 7 = l then 7 else 0
theorem IsKind.eq {l : List UInt8} {k : Nat} (h : IsKind l k) : k = kindOf l := by
  rcases h with ⟨rfl, h⟩ | ⟨h1, h7, rfl⟩
  · unfold kindOf
    rw [if_neg (h 1 (by decide) (by decide)), if_neg (h 2 (by decide) (by decide)), if_neg (h 3 (by decide) (by decide)), if_neg (h 4 (by decide) (by decide)), if_neg (h 5 (by decide) (by decide)), if_neg (h 6 (by decide) (by decide)), if_neg (h 7 (by decide) (by decide))]
  · rcases (by omega : k = 1 ∨ k = 2 ∨ k = 3 ∨ k = 4 ∨ k = 5 ∨ k = 6 ∨ k = 7) with rfl | rfl | rfl | rfl | rfl | rfl | rfl <;> decide
theorem kindOf_is (l : List UInt8) : IsKind l (kindOf l) := by
  unfold kindOf IsKind
  by_cases h1 : wordN 1 = l
  · rw [if_pos h1]; exact .inr ⟨by decide, by decide, h1⟩
  rw [if_neg h1]
  by_cases h2 : wordN 2 = l
  · rw [if_pos h2]; exact .inr ⟨by decide, by decide, h2⟩
  rw [if_neg h2]
  by_cases h3 : wordN 3 = l
  · rw [if_pos h3]; exact .inr ⟨by decide, by decide, h3⟩
  rw [if_neg h3]
  by_cases h4 : wordN 4 = l
  · rw [if_pos h4]; exact .inr ⟨by decide, by decide, h4⟩
  rw [if_neg h4]
  by_cases h5 : wordN 5 = l
  · rw [if_pos h5]; exact .inr ⟨by decide, by decide, h5⟩
  rw [if_neg h5]
  by_cases h6 : wordN 6 = l
  · rw [if_pos h6]; exact .inr ⟨by decide, by decide, h6⟩
  rw [if_neg h6]
  by_cases h7 : wordN 7 = l
  · rw [if_pos h7]; exact .inr ⟨by decide, by decide, h7⟩
  rw [if_neg h7]
  refine .inl ⟨rfl, fun j hj1 hj7 => ?_⟩
  rcases (by omega : j = 1 ∨ j = 2 ∨ j = 3 ∨ j = 4 ∨ j = 5 ∨ j = 6 ∨ j = 7) with rfl | rfl | rfl | rfl | rfl | rfl | rfl <;> assumption
def zeroF : Fr := ⟨0, 0, 0, 0, 0, 0⟩
def lo (i : Nat) : Int := if i < 2 then 0 else -2147483648
def hi (i : Nat) : Int := if i = 0 then 65535 else if i = 1 then 4294967295 else 2147483647
def wcode (i : Nat) (v : List UInt8) : Int := if isNum v = true then (if numVal v < lo i ∨ hi i < numVal v then 2 else 0) else 3
def scan : Nat → List (List UInt8) → Int
  | _, [] => 0
  | i, v :: r => if wcode i v = 0 then scan (i + 1) r else wcode i v
def valAt (vs : List (List UInt8)) (j : Nat) : Int := if j < vs.length then numVal (vs.getD j []) else 0
def xsAt (vs : List (List UInt8)) (i : Nat) : List Int := (List.range 5).map fun j => if j < i then valAt vs j else 0
theorem xsAt_set (vs : List (List UInt8)) (i : Nat) (h : i < vs.length) (h5 : i < 5) : (xsAt vs i).set i (numVal vs[i]) = xsAt vs (i + 1) := by
  have hv : valAt vs i = numVal vs[i] := by unfold valAt; rw [if_pos h, List.getD_eq_getElem?_getD, List.getElem?_eq_getElem h]; rfl
  rw [← hv]
  unfold xsAt
  rcases (by omega : i = 0 ∨ i = 1 ∨ i = 2 ∨ i = 3 ∨ i = 4) with rfl | rfl | rfl | rfl | rfl <;> rfl
theorem xsAt_zero (vs : List (List UInt8)) : xsAt vs 0 = [0, 0, 0, 0, 0] := rfl
def mkF (k : Nat) (vs : List (List UInt8)) : Fr := ⟨k, (valAt vs 0).toNat, (valAt vs 1).toNat, valAt vs 2, valAt vs 3, valAt vs 4⟩
theorem xsAt_all (vs : List (List UInt8)) : xsAt vs vs.length = [valAt vs 0, valAt vs 1, valAt vs 2, valAt vs 3, valAt vs 4] := by
  have h : ∀ j, (if j < vs.length then valAt vs j else 0) = valAt vs j := fun j => by
    unfold valAt
    by_cases h : j < vs.length
    · rw [if_pos h, if_pos h]
    · rw [if_neg h, if_neg h]
  unfold xsAt
  simp only [h]
  rfl
def getW : Option (List (List UInt8)) → Fr × Int
  | none => (zeroF, 3)
  | some [] => (zeroF, 5)
  | some (w0 :: vs) => if kindOf w0 = 0 then (zeroF, 13) else if ((vs.length + 1 : Nat) : Int) ≠ 3 + numN (kindOf w0) then (zeroF, 5) else if scan 0 vs = 0 then (mkF (kindOf w0) vs, 0) else (zeroF, scan 0 vs)
/-- what a line is -/
def getR (l : List UInt8) : Fr × Int := getW (words l)
def GotG (w : World) (l : List UInt8) (e : Ending) (w' : World) : Prop := e = .returned (.tuple #[(getR l).1.v, .int .i64 (getR l).2]) ∧ Below w.heap.size w w'
/-- words, a blank behind each -/
def jn (ws : List (List UInt8)) : List UInt8 := ws.flatMap fun v => v ++ [32]
theorem wl_jn : ∀ (r cur : List UInt8) (out ws : List (List UInt8)), wl (r ++ [32]) cur out = some ws → ws ≠ [] ∧ jn out ++ cur ++ r ++ [32] = jn ws
  | [], cur, out, ws, h => by
    rw [List.nil_append, wl, if_pos rfl] at h
    by_cases hc : cur = []
    · rw [if_pos hc] at h; cases h
    · rw [if_neg hc, wl] at h
      injection h with h
      subst h
      refine ⟨by simp, ?_⟩
      unfold jn
      rw [List.flatMap_append]
      simp
  | c :: r, cur, out, ws, h => by
    rw [List.cons_append, wl] at h
    by_cases h32 : c = 32
    · subst h32
      rw [if_pos rfl] at h
      by_cases hc : cur = []
      · rw [if_pos hc] at h; cases h
      · rw [if_neg hc] at h
        obtain ⟨h1, h2⟩ := wl_jn r [] _ _ h
        refine ⟨h1, ?_⟩
        rw [← h2]
        unfold jn
        rw [List.flatMap_append]
        simp
    · rw [if_neg h32] at h
      obtain ⟨h1, h2⟩ := wl_jn r _ _ _ h
      refine ⟨h1, ?_⟩
      rw [← h2]
      simp
theorem words_jn {l : List UInt8} {ws : List (List UInt8)} (h : words l = some ws) : l.length ≤ 80 ∧ ws ≠ [] ∧ l ++ [32] = jn ws := by
  unfold words at h
  by_cases hl : 80 < l.length
  · rw [if_pos hl] at h; cases h
  · rw [if_neg hl] at h
    obtain ⟨h1, h2⟩ := wl_jn l [] [] ws h
    exact ⟨by omega, h1, by rw [← h2]; simp [jn]⟩
theorem words_len {l : List UInt8} {ws : List (List UInt8)} (h : words l = some ws) : ∀ v ∈ ws, v.length ≤ 80 := by
  intro v hv
  obtain ⟨h1, _, h2⟩ := words_jn h
  obtain ⟨a, b, rfl⟩ := List.append_of_mem hv
  have := congrArg List.length h2
  unfold jn at this
  rw [List.flatMap_append, List.flatMap_cons] at this
  simp only [List.length_append, List.length_cons, List.length_nil] at this
  omega
theorem wl_of : ∀ (ws out : List (List UInt8)), (∀ v ∈ ws, v ≠ [] ∧ ∀ c ∈ v, c ≠ 32) → wl (jn ws) [] out = some (out ++ ws)
  | [], out, _ => by simp [jn, wl]
  | v :: ws, out, h => by
    obtain ⟨h1, h2⟩ := h v List.mem_cons_self
    have ih := wl_of ws (out ++ [v]) (fun x hx => h x (List.mem_cons_of_mem _ hx))
    unfold jn at ih ⊢
    rw [List.flatMap_cons, List.append_assoc, wl_skip v _ _ _ h2, List.nil_append, List.singleton_append, wl, if_pos rfl, if_neg h1, ih]
    simp
theorem words_of {l : List UInt8} {ws : List (List UInt8)} (h80 : l.length ≤ 80) (hj : l ++ [32] = jn ws) (h : ∀ v ∈ ws, v ≠ [] ∧ ∀ c ∈ v, c ≠ 32) : words l = some ws := by
  unfold words
  rw [if_neg (by omega), hj, wl_of ws [] h]
  rfl
theorem tail_jn (xs : List Int) : tailL xs ++ [32] = 32 :: jn (xs.map numL) := by
  induction xs with
  | nil => rfl
  | cons x xs ih =>
    unfold tailL jn at ih ⊢
    rw [List.flatMap_cons, List.append_assoc, ih, List.map_cons, List.flatMap_cons]
    simp
theorem isD_32 {c : UInt8} (h : isD c = true) : c ≠ 32 := by
  intro e
  subst e
  exact absurd h (by decide)
theorem numL_word (x : Int) : numL x ≠ [] ∧ ∀ c ∈ numL x, c ≠ 32 := by
  have h1 := digs_all x.natAbs
  have h2 := digs_pos x.natAbs
  have hd : ∀ c ∈ digs x.natAbs, c ≠ 32 := fun c hc => isD_32 (List.all_eq_true.1 h1 c hc)
  unfold numL
  split
  · refine ⟨by simp, fun c hc => ?_⟩
    rcases List.mem_cons.1 hc with rfl | hc
    · decide
    · exact hd c hc
  · refine ⟨(fun e => by rw [e] at h2; cases h2), hd⟩
theorem wordL_word {k : Int} (h1 : 1 ≤ k) (h7 : k ≤ 7) : wordL k ≠ [] ∧ (∀ c ∈ wordL k, c ≠ 32) ∧ (kindOf (wordL k) : Int) = k := by
  rcases (by omega : k = 1 ∨ k = 2 ∨ k = 3 ∨ k = 4 ∨ k = 5 ∨ k = 6 ∨ k = 7) with rfl | rfl | rfl | rfl | rfl | rfl | rfl
  all_goals exact ⟨by decide, by decide, by decide⟩
theorem wcode_zero {i : Nat} {v : List UInt8} : wcode i v = 0 ↔ isNum v = true ∧ lo i ≤ numVal v ∧ numVal v ≤ hi i := by
  unfold wcode
  cases isNum v
  · simp
  · simp only [if_true, true_and]
    by_cases h : numVal v < lo i ∨ hi i < numVal v
    · rw [if_pos h]
      constructor
      · intro h; cases h
      · intro h2; omega
    · rw [if_neg h]
      constructor
      · intro _; omega
      · intro _; rfl
theorem scan_zero : ∀ (vs : List (List UInt8)) (i : Nat), scan i vs = 0 ↔ ∀ j (h : j < vs.length), wcode (i + j) vs[j] = 0
  | [], i => ⟨fun _ j h => by simp at h, fun _ => rfl⟩
  | v :: r, i => by
    rw [scan]
    by_cases hz : wcode i v = 0
    · rw [if_pos hz, scan_zero r (i + 1)]
      constructor
      · intro h j hj
        cases j with
        | zero => exact hz
        | succ j => have := h j (by simpa using hj); rw [show i + (j + 1) = i + 1 + j by omega]; exact this
      · intro h j hj
        have := h (j + 1) (by simpa using hj)
        rw [show i + 1 + j = i + (j + 1) by omega]
        exact this
    · rw [if_neg hz]
      constructor
      · intro h; exact absurd h hz
      · intro h; exact absurd (h 0 (by simp)) hz
theorem scan_step (vs : List (List UInt8)) (i : Nat) (h : i < vs.length) : scan i (vs.drop i) = if wcode i vs[i] = 0 then scan (i + 1) (vs.drop (i + 1)) else wcode i vs[i] := by
  rw [List.drop_eq_getElem_cons h, scan]
theorem numL_back {v : List UInt8} (h : isNum v = true) : numL (numVal v) = v := by
  unfold isNum at h
  simp only [Bool.and_eq_true, decide_eq_true_eq] at h
  obtain ⟨⟨⟨h1, h2⟩, h3⟩, h4⟩ := h
  rw [numL_iff v h4 h1]
  intro ⟨ha, hb⟩
  rw [decide_eq_true ha, decide_eq_true hb] at h3
  cases h3
theorem numL_len11 (x : Int) (h : x.natAbs < 10 ^ 10) : (numL x).length ≤ 11 := by
  have := digs_len 9 x.natAbs h
  unfold numL
  split
  · simp; omega
  · omega
theorem tailL_len12 (l : List Int) (h : ∀ x ∈ l, x.natAbs < 10 ^ 10) : (tailL l).length ≤ 12 * l.length := by
  induction l with
  | nil => exact Nat.le_refl _
  | cons a l ih =>
    have h1 := ih fun x hx => h x (List.mem_cons_of_mem _ hx)
    have h2 := numL_len11 a (h a List.mem_cons_self)
    unfold tailL at h1 ⊢
    rw [List.flatMap_cons, List.length_append, List.length_cons, List.length_cons]
    omega
theorem valAt_map (xs : List Int) (h : ∀ x ∈ xs, -1000000000000000000 < x ∧ x < 1000000000000000000) (j : Nat) : valAt (xs.map numL) j = xs.getD j 0 := by
  unfold valAt
  rw [List.length_map]
  by_cases hj : j < xs.length
  · rw [if_pos hj, List.getD_eq_getElem?_getD, List.getElem?_map, List.getD_eq_getElem?_getD, List.getElem?_eq_getElem hj]
    obtain ⟨h1, h2⟩ := h xs[j] (List.getElem_mem hj)
    exact (isNum_numL xs[j] h1 h2).2
  · rw [if_neg hj, List.getD_eq_getElem?_getD, List.getElem?_eq_none (by omega)]
    rfl
theorem lo_zero : lo 0 = 0 := rfl
theorem code_nums {f : Fr} {n : Nat} (hn : numK f.k = n) (h : codeF f = 0) : ∀ x ∈ f.nums.drop n, x = 0 := by
  unfold codeF at h
  rw [hn, if_neg (by omega)] at h
  intro x hx
  by_cases ha : (f.nums.drop ((n : Int)).toNat).all (· == 0) = true
  · simpa using List.all_eq_true.1 ha x hx
  · rw [if_neg ha] at h; cases h
theorem line_eq (f : Fr) (n : Nat) (hn : numK f.k = n) (hn3 : n ≤ 3) : lineF f = wordL f.k ++ tailL ((nums5 f).take (2 + n)) := by
  rw [line5 f n hn3]
  unfold lineF
  rw [hn]
  rfl
theorem get_put (f : Fr) (hf : f.Ok) (h0 : codeF f = 0) : getR (lineF f) = (f, 0) ∧ (lineF f).length ≤ 80 := by
  rcases Frm.numK_cases f.k with ⟨h, _⟩ | ⟨n, hn, h3, h1, h7⟩
  · exfalso
    unfold codeF at h0
    rw [h, if_pos (by decide)] at h0
    cases h0
  have hl := line_eq f n hn h3
  obtain ⟨w1, w2, w3⟩ := wordL_word h1 h7
  have hok := nums5_ok hf
  have hxs : ∀ x ∈ (nums5 f).take (2 + n), -2147483648 ≤ x ∧ x ≤ 4294967295 := fun x hx => hok x (List.mem_of_mem_take hx)
  have hxl : ((nums5 f).take (2 + n)).length = 2 + n := by rw [List.length_take, show (nums5 f).length = 5 from rfl]; omega
  have h80 : (lineF f).length ≤ 80 := by
    rw [hl, List.length_append]
    have a1 := wordL_len f.k
    have a2 := tailL_len12 ((nums5 f).take (2 + n)) (fun x hx => by have := hxs x hx; omega)
    rw [hxl] at a2
    omega
  have hj : lineF f ++ [32] = jn (wordL f.k :: ((nums5 f).take (2 + n)).map numL) := by
    rw [hl, List.append_assoc, tail_jn]
    unfold jn
    rw [List.flatMap_cons]
    simp
  have hw := words_of h80 hj (fun v hv => by
    rcases List.mem_cons.1 hv with rfl | hv
    · exact ⟨w1, w2⟩
    · obtain ⟨x, _, rfl⟩ := List.mem_map.1 hv
      exact numL_word x)
  refine ⟨?_, h80⟩
  unfold getR
  rw [hw]
  have hK : kindOf (wordL f.k) = f.k.toNat := by omega
  have hval : ∀ j, valAt (((nums5 f).take (2 + n)).map numL) j = ((nums5 f).take (2 + n)).getD j 0 := valAt_map _ (fun x hx => by have := hxs x hx; omega)
  have hsc : scan 0 (((nums5 f).take (2 + n)).map numL) = 0 := by
    rw [scan_zero]
    intro j hj
    rw [List.length_map] at hj
    rw [List.getElem_map, Nat.zero_add, wcode_zero]
    obtain ⟨b1, b2⟩ := hxs _ (List.getElem_mem hj)
    obtain ⟨c1, c2⟩ := isNum_numL ((nums5 f).take (2 + n))[j] (by omega) (by omega)
    refine ⟨c1, ?_⟩
    rw [c2, List.getElem_take]
    rw [hxl] at hj
    have := hf.q
    have := hf.t
    have := hf.a1
    have := hf.a2
    have := hf.b1
    have := hf.b2
    have := hf.c1
    have := hf.c2
    rcases (by omega : j = 0 ∨ j = 1 ∨ j = 2 ∨ j = 3 ∨ j = 4) with rfl | rfl | rfl | rfl | rfl
    · show (0 : Int) ≤ (f.q : Int) ∧ (f.q : Int) ≤ 65535; omega
    · show (0 : Int) ≤ (f.t : Int) ∧ (f.t : Int) ≤ 4294967295; omega
    · show (-2147483648 : Int) ≤ f.a ∧ f.a ≤ 2147483647; omega
    · show (-2147483648 : Int) ≤ f.b ∧ f.b ≤ 2147483647; omega
    · show (-2147483648 : Int) ≤ f.c ∧ f.c ≤ 2147483647; omega
  have hnz := code_nums hn h0
  rw [getW]
  rw [if_neg (by omega), if_neg, if_pos hsc]
  · unfold mkF
    simp only [hval, hK]
    have e0 : ((f.k.toNat : Nat) : Int) = f.k := by omega
    rw [e0]
    clear hsc hval hw hj h80 hl hxs hxl hok
    obtain ⟨k, q, t, a, b, c⟩ := f
    rcases (by omega : n = 0 ∨ n = 1 ∨ n = 2 ∨ n = 3) with rfl | rfl | rfl | rfl
    · have za := hnz a (by simp [Fr.nums])
      have zb := hnz b (by simp [Fr.nums])
      have zc := hnz c (by simp [Fr.nums])
      subst za zb zc
      rfl
    · have zb := hnz b (by simp [Fr.nums])
      have zc := hnz c (by simp [Fr.nums])
      subst zb zc
      rfl
    · have zc := hnz c (by simp [Fr.nums])
      subst zc
      rfl
    · rfl
  · rw [hK]
    unfold numK at hn
    rw [hn, List.length_map, hxl]
    omega
theorem wcode_le {i : Nat} {v : List UInt8} (h : wcode i v = 0) : lo i ≤ numVal v ∧ numVal v ≤ hi i := (wcode_zero.1 h).2
theorem mk_of (k n : Nat) (vs : List (List UInt8)) (hk : 1 ≤ k ∧ k ≤ 7) (hn : numN k = n) (hn3 : n ≤ 3) (hl : vs.length = 2 + n) (hs : scan 0 vs = 0) :
    (mkF k vs).Ok ∧ codeF (mkF k vs) = 0 ∧ (nums5 (mkF k vs)).take (2 + n) = vs.map numVal := by
  have hb : ∀ j (h : j < vs.length), lo j ≤ numVal vs[j] ∧ numVal vs[j] ≤ hi j := fun j h => by
    have := (scan_zero vs 0).1 hs j h
    rw [Nat.zero_add] at this
    exact wcode_le this
  have hK : numK (mkF k vs).k = n := by unfold numK; rw [← hn]; rfl
  have hcode : (∀ x ∈ (mkF k vs).nums.drop n, x = 0) → codeF (mkF k vs) = 0 := fun h => by
    unfold codeF
    rw [hK, if_neg (by omega), if_pos]
    exact List.all_eq_true.2 fun x hx => by simpa using h x hx
  have hkb : (-9223372036854775808 : Int) ≤ (mkF k vs).k ∧ (mkF k vs).k ≤ 9223372036854775807 := by show (-9223372036854775808 : Int) ≤ (k : Int) ∧ (k : Int) ≤ 9223372036854775807; omega
  rcases (by omega : n = 0 ∨ n = 1 ∨ n = 2 ∨ n = 3) with rfl | rfl | rfl | rfl
  · match vs, hl, hb, hcode, hkb with
    | [v0, v1], _, hb, hcode, hkb =>
      have b0 : (0 : Int) ≤ numVal v0 ∧ numVal v0 ≤ 65535 := hb 0 (by simp)
      have b1 : (0 : Int) ≤ numVal v1 ∧ numVal v1 ≤ 4294967295 := hb 1 (by simp)
      have q0 : ((numVal v0).toNat : Int) = numVal v0 := by omega
      have q1 : ((numVal v1).toNat : Int) = numVal v1 := by omega
      refine ⟨⟨hkb.1, hkb.2, ?_, ?_, ?_, ?_, ?_, ?_, ?_, ?_⟩, hcode (fun x hx => ?_), ?_⟩
      · show (numVal v0).toNat < 65536; omega
      · show (numVal v1).toNat < 4294967296; omega
      · show (-2147483648 : Int) ≤ 0; omega
      · show (0 : Int) ≤ 2147483647; omega
      · show (-2147483648 : Int) ≤ 0; omega
      · show (0 : Int) ≤ 2147483647; omega
      · show (-2147483648 : Int) ≤ 0; omega
      · show (0 : Int) ≤ 2147483647; omega
      · have hx' : x ∈ [(0 : Int), 0, 0] := hx
        simpa using hx'
      · show [((numVal v0).toNat : Int), ((numVal v1).toNat : Int)] = [numVal v0, numVal v1]
        rw [q0, q1]
  · match vs, hl, hb, hcode, hkb with
    | [v0, v1, v2], _, hb, hcode, hkb =>
      have b0 : (0 : Int) ≤ numVal v0 ∧ numVal v0 ≤ 65535 := hb 0 (by simp)
      have b1 : (0 : Int) ≤ numVal v1 ∧ numVal v1 ≤ 4294967295 := hb 1 (by simp)
      have b2 : (-2147483648 : Int) ≤ numVal v2 ∧ numVal v2 ≤ 2147483647 := hb 2 (by simp)
      have q0 : ((numVal v0).toNat : Int) = numVal v0 := by omega
      have q1 : ((numVal v1).toNat : Int) = numVal v1 := by omega
      refine ⟨⟨hkb.1, hkb.2, ?_, ?_, b2.1, b2.2, ?_, ?_, ?_, ?_⟩, hcode (fun x hx => ?_), ?_⟩
      · show (numVal v0).toNat < 65536; omega
      · show (numVal v1).toNat < 4294967296; omega
      · show (-2147483648 : Int) ≤ 0; omega
      · show (0 : Int) ≤ 2147483647; omega
      · show (-2147483648 : Int) ≤ 0; omega
      · show (0 : Int) ≤ 2147483647; omega
      · have hx' : x ∈ [(0 : Int), 0] := hx
        simpa using hx'
      · show [((numVal v0).toNat : Int), ((numVal v1).toNat : Int), numVal v2] = [numVal v0, numVal v1, numVal v2]
        rw [q0, q1]
  · match vs, hl, hb, hcode, hkb with
    | [v0, v1, v2, v3], _, hb, hcode, hkb =>
      have b0 : (0 : Int) ≤ numVal v0 ∧ numVal v0 ≤ 65535 := hb 0 (by simp)
      have b1 : (0 : Int) ≤ numVal v1 ∧ numVal v1 ≤ 4294967295 := hb 1 (by simp)
      have b2 : (-2147483648 : Int) ≤ numVal v2 ∧ numVal v2 ≤ 2147483647 := hb 2 (by simp)
      have b3 : (-2147483648 : Int) ≤ numVal v3 ∧ numVal v3 ≤ 2147483647 := hb 3 (by simp)
      have q0 : ((numVal v0).toNat : Int) = numVal v0 := by omega
      have q1 : ((numVal v1).toNat : Int) = numVal v1 := by omega
      refine ⟨⟨hkb.1, hkb.2, ?_, ?_, b2.1, b2.2, b3.1, b3.2, ?_, ?_⟩, hcode (fun x hx => ?_), ?_⟩
      · show (numVal v0).toNat < 65536; omega
      · show (numVal v1).toNat < 4294967296; omega
      · show (-2147483648 : Int) ≤ 0; omega
      · show (0 : Int) ≤ 2147483647; omega
      · have hx' : x ∈ [(0 : Int)] := hx
        simpa using hx'
      · show [((numVal v0).toNat : Int), ((numVal v1).toNat : Int), numVal v2, numVal v3] = [numVal v0, numVal v1, numVal v2, numVal v3]
        rw [q0, q1]
  · match vs, hl, hb, hcode, hkb with
    | [v0, v1, v2, v3, v4], _, hb, hcode, hkb =>
      have b0 : (0 : Int) ≤ numVal v0 ∧ numVal v0 ≤ 65535 := hb 0 (by simp)
      have b1 : (0 : Int) ≤ numVal v1 ∧ numVal v1 ≤ 4294967295 := hb 1 (by simp)
      have b2 : (-2147483648 : Int) ≤ numVal v2 ∧ numVal v2 ≤ 2147483647 := hb 2 (by simp)
      have b3 : (-2147483648 : Int) ≤ numVal v3 ∧ numVal v3 ≤ 2147483647 := hb 3 (by simp)
      have b4 : (-2147483648 : Int) ≤ numVal v4 ∧ numVal v4 ≤ 2147483647 := hb 4 (by simp)
      have q0 : ((numVal v0).toNat : Int) = numVal v0 := by omega
      have q1 : ((numVal v1).toNat : Int) = numVal v1 := by omega
      refine ⟨⟨hkb.1, hkb.2, ?_, ?_, b2.1, b2.2, b3.1, b3.2, b4.1, b4.2⟩, hcode (fun x hx => ?_), ?_⟩
      · show (numVal v0).toNat < 65536; omega
      · show (numVal v1).toNat < 4294967296; omega
      · have hx' : x ∈ ([] : List Int) := hx
        cases hx'
      · show [((numVal v0).toNat : Int), ((numVal v1).toNat : Int), numVal v2, numVal v3, numVal v4] = [numVal v0, numVal v1, numVal v2, numVal v3, numVal v4]
        rw [q0, q1]
theorem numN_cases {k : Nat} (h : 1 ≤ k ∧ k ≤ 7) : ∃ n : Nat, numN k = n ∧ n ≤ 3 := by
  rcases (by omega : k = 1 ∨ k = 2 ∨ k = 3 ∨ k = 4 ∨ k = 5 ∨ k = 6 ∨ k = 7) with rfl | rfl | rfl | rfl | rfl | rfl | rfl
  · exact ⟨3, rfl, by decide⟩
  · exact ⟨2, rfl, by decide⟩
  · exact ⟨2, rfl, by decide⟩
  · exact ⟨0, rfl, by decide⟩
  · exact ⟨1, rfl, by decide⟩
  · exact ⟨3, rfl, by decide⟩
  · exact ⟨2, rfl, by decide⟩
/-- the ways of a line -/
theorem get_cases (l : List UInt8) :
    (words l = none ∧ getR l = (zeroF, 3)) ∨
    ∃ w0 vs, words l = some (w0 :: vs) ∧ (∀ v ∈ w0 :: vs, v.length ≤ 80) ∧ ((kindOf w0 = 0 ∧ getR l = (zeroF, 13)) ∨
      ∃ n : Nat, numN (kindOf w0) = n ∧ n ≤ 3 ∧ 1 ≤ kindOf w0 ∧ kindOf w0 ≤ 7 ∧ ((vs.length ≠ 2 + n ∧ getR l = (zeroF, 5)) ∨
        (vs.length = 2 + n ∧ ((scan 0 vs = 0 ∧ getR l = (mkF (kindOf w0) vs, 0)) ∨ (scan 0 vs ≠ 0 ∧ getR l = (zeroF, scan 0 vs)))))) := by
  unfold getR
  cases hw : words l with
  | none => exact .inl ⟨rfl, rfl⟩
  | some ws =>
    obtain ⟨h80, hne, hj⟩ := words_jn hw
    obtain ⟨w0, vs, rfl⟩ := List.exists_cons_of_ne_nil hne
    refine .inr ⟨w0, vs, rfl, words_len hw, ?_⟩
    rw [getW]
    by_cases hk : kindOf w0 = 0
    · exact .inl ⟨hk, by rw [if_pos hk]⟩
    · have hk2 : 1 ≤ kindOf w0 ∧ kindOf w0 ≤ 7 := by
        rcases kindOf_is w0 with ⟨h, _⟩ | ⟨h1, h2, _⟩
        · exact absurd h hk
        · exact ⟨h1, h2⟩
      obtain ⟨n, hn, hn3⟩ := numN_cases hk2
      refine .inr ⟨n, hn, hn3, hk2.1, hk2.2, ?_⟩
      rw [if_neg hk, hn]
      by_cases hl : vs.length = 2 + n
      · refine .inr ⟨hl, ?_⟩
        rw [if_neg (show ¬ ((vs.length + 1 : Nat) : Int) ≠ 3 + (n : Int) by omega)]
        by_cases hs : scan 0 vs = 0
        · exact .inl ⟨hs, by rw [if_pos hs]⟩
        · exact .inr ⟨hs, by rw [if_neg hs]⟩
      · refine .inl ⟨hl, ?_⟩
        rw [if_pos (show ((vs.length + 1 : Nat) : Int) ≠ 3 + (n : Int) by omega)]
theorem scan_code : ∀ (vs : List (List UInt8)) (i : Nat), scan i vs = 0 ∨ scan i vs = 2 ∨ scan i vs = 3
  | [], i => .inl rfl
  | v :: r, i => by
    rw [scan]
    by_cases h : wcode i v = 0
    · rw [if_pos h]; exact scan_code r (i + 1)
    · rw [if_neg h]
      unfold wcode
      split
      · split
        · exact .inr (.inl rfl)
        · exact .inl rfl
      · exact .inr (.inr rfl)
theorem zero_ok : zeroF.Ok := ⟨by decide, by decide, by decide, by decide, by decide, by decide, by decide, by decide, by decide, by decide⟩
theorem put_get (l : List UInt8) : ((getR l).2 ≠ 0 ∧ (getR l).1 = zeroF) ∨ ((getR l).2 = 0 ∧ (getR l).1.Ok ∧ codeF (getR l).1 = 0 ∧ lineF (getR l).1 = l) := by
  rcases get_cases l with ⟨_, h⟩ | ⟨w0, vs, hw, _, ⟨_, h⟩ | ⟨n, hn, hn3, k1, k7, ⟨_, h⟩ | ⟨hl, ⟨hs, h⟩ | ⟨hs, h⟩⟩⟩⟩
  · exact .inl (by rw [h]; exact ⟨by decide, rfl⟩)
  · exact .inl (by rw [h]; exact ⟨by decide, rfl⟩)
  · exact .inl (by rw [h]; exact ⟨by decide, rfl⟩)
  · obtain ⟨m1, m2, m3⟩ := mk_of (kindOf w0) n vs ⟨k1, k7⟩ hn hn3 hl hs
    refine .inr (by
      rw [h]
      refine ⟨rfl, m1, m2, ?_⟩
      have hK : numK (mkF (kindOf w0) vs).k = n := by unfold numK; rw [← hn]; rfl
      show lineF (mkF (kindOf w0) vs) = l
      have e := line_eq (mkF (kindOf w0) vs) n hK hn3
      rw [m3] at e
      have hw0 : wordL (mkF (kindOf w0) vs).k = w0 := by
        rcases kindOf_is w0 with ⟨h0, _⟩ | ⟨_, _, h2⟩
        · omega
        · exact h2
      obtain ⟨_, _, hj⟩ := words_jn hw
      have hback : (vs.map numVal).map numL = vs := by
        rw [List.map_map]
        conv => rhs; rw [← List.map_id vs]
        refine List.map_congr_left fun v hv => ?_
        obtain ⟨j, hj, rfl⟩ := List.getElem_of_mem hv
        have := (scan_zero vs 0).1 hs j hj
        exact numL_back (wcode_zero.1 this).1
      refine (List.append_left_inj [32]).1 ?_
      rw [e, List.append_assoc, tail_jn, hback, hj, hw0]
      unfold jn
      rw [List.flatMap_cons]
      simp)
  · refine .inl ?_
    rw [h]
    exact ⟨hs, rfl⟩
end Txt
end Go.Proofs.Ytijijfggppnbpaa
