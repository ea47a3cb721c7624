/- A part of the proof of WholeFaults. -/
import Derived.RangeFuncLeaves
import Derived.Test.YtekjehbkmlodmaaGreatProg
import Derived.OrdersIn
set_option linter.unusedVariables false
set_option linter.unusedSimpArgs false
section
namespace Go.Ev
open Go
inductive QB where
 | h
 | o (p : QB)
 | i (p : QB)
def QB.toN : QB → Nat
 | .h => 0
 | .o p => 2 * p.toN + 1
 | .i p => 2 * p.toN + 2
noncomputable def qBF : Nat → Nat → QB :=
 Nat.rec (motive := fun _ => Nat → QB) (fun _ => .h) (fun _ ih n => cond (Nat.beq n 0) .h (cond (Nat.beq (Nat.mod n 2) 1) (.o (ih (Nat.div n 2))) (.i (ih (Nat.sub (Nat.div n 2) 1)))))
noncomputable def qB (n : Nat) : QB := qBF n n
inductive TB (α : Type) where
 | leaf
 | node (l : TB α) (v : Option α) (r : TB α)
section treeB
variable {α : Type}
noncomputable def TB.gH (t : TB α) : Option α := TB.rec (motive := fun _ => Option α) none (fun _ v _ _ _ => v) t
noncomputable def TB.gO (ih : TB α → Option α) (t : TB α) : Option α := TB.rec (motive := fun _ => (TB α → Option α) → Option α) (fun _ => none) (fun l _ _ _ _ ih => ih l) t ih
noncomputable def TB.gI (ih : TB α → Option α) (t : TB α) : Option α := TB.rec (motive := fun _ => (TB α → Option α) → Option α) (fun _ => none) (fun _ _ r _ _ ih => ih r) t ih
noncomputable def TB.get (t : TB α) (p : QB) : Option α :=
 QB.rec (motive := fun _ => TB α → Option α) TB.gH (fun _ ih => TB.gO ih) (fun _ ih => TB.gI ih) p t
end treeB
inductive D16 where
 | d0
 | d1
 | d2
 | d3
 | d4
 | d5
 | d6
 | d7
 | d8
 | d9
 | d10
 | d11
 | d12
 | d13
 | d14
 | d15
def D16.n : D16 → Nat
 | .d0 => 0
 | .d1 => 1
 | .d2 => 2
 | .d3 => 3
 | .d4 => 4
 | .d5 => 5
 | .d6 => 6
 | .d7 => 7
 | .d8 => 8
 | .d9 => 9
 | .d10 => 10
 | .d11 => 11
 | .d12 => 12
 | .d13 => 13
 | .d14 => 14
 | .d15 => 15
inductive Q where
 | h
 | c (d : D16) (p : Q)
def Q.toN : Q → Nat
 | .h => 0
 | .c d p => 16 * p.toN + d.n + 1
def dOf (n : Nat) : D16 :=
 (cond (Nat.ble 8 n) (cond (Nat.ble 12 n) (cond (Nat.ble 14 n) (cond (Nat.ble 15 n) .d15 .d14) (cond (Nat.ble 13 n) .d13 .d12)) (cond (Nat.ble 10 n) (cond (Nat.ble 11 n) .d11 .d10) (cond (Nat.ble 9 n) .d9 .d8))) (cond (Nat.ble 4 n) (cond (Nat.ble 6 n) (cond (Nat.ble 7 n) .d7 .d6) (cond (Nat.ble 5 n) .d5 .d4)) (cond (Nat.ble 2 n) (cond (Nat.ble 3 n) .d3 .d2) (cond (Nat.ble 1 n) .d1 .d0))))
noncomputable def qOfF : Nat → Nat → Q :=
 Nat.rec (motive := fun _ => Nat → Q) (fun _ => .h) (fun _ ih n => cond (Nat.beq n 0) .h (.c (dOf (Nat.mod (Nat.sub n 1) 16)) (ih (Nat.div (Nat.sub n 1) 16))))
noncomputable def qOf (n : Nat) : Q := qOfF n n
noncomputable def Q.nx (d : D16) (p ih : Q) : Q := D16.rec (motive := fun _ => Q → Q → Q) (fun p _ => .c .d1 p) (fun p _ => .c .d2 p) (fun p _ => .c .d3 p) (fun p _ => .c .d4 p) (fun p _ => .c .d5 p) (fun p _ => .c .d6 p) (fun p _ => .c .d7 p) (fun p _ => .c .d8 p) (fun p _ => .c .d9 p) (fun p _ => .c .d10 p) (fun p _ => .c .d11 p) (fun p _ => .c .d12 p) (fun p _ => .c .d13 p) (fun p _ => .c .d14 p) (fun p _ => .c .d15 p) (fun _ ih => .c .d0 ih) d p ih
noncomputable def Q.succ (p : Q) : Q := Q.rec (motive := fun _ => Q) (.c .d0 .h) (fun d p ih => Q.nx d p ih) p
structure N16 (α : Type) where
 (c0 c1 c2 c3 c4 c5 c6 c7 c8 c9 c10 c11 c12 c13 c14 c15 : α)
section n16
variable {α : Type}
abbrev N16.MG (α : Type) : D16 → Type := fun _ => N16 α → α
abbrev N16.MS (α : Type) : D16 → Type := fun _ => N16 α → α → N16 α
abbrev N16.MR (α : Type) : N16 α → Type := fun _ => α → N16 α
noncomputable def N16.get (d : D16) (s : N16 α) : α := D16.rec (motive := N16.MG α) N16.c0 N16.c1 N16.c2 N16.c3 N16.c4 N16.c5 N16.c6 N16.c7 N16.c8 N16.c9 N16.c10 N16.c11 N16.c12 N16.c13 N16.c14 N16.c15 d s
def N16.r0 (c0 c1 c2 c3 c4 c5 c6 c7 c8 c9 c10 c11 c12 c13 c14 c15 y : α) : N16 α := ⟨y, c1, c2, c3, c4, c5, c6, c7, c8, c9, c10, c11, c12, c13, c14, c15⟩
def N16.r1 (c0 c1 c2 c3 c4 c5 c6 c7 c8 c9 c10 c11 c12 c13 c14 c15 y : α) : N16 α := ⟨c0, y, c2, c3, c4, c5, c6, c7, c8, c9, c10, c11, c12, c13, c14, c15⟩
def N16.r2 (c0 c1 c2 c3 c4 c5 c6 c7 c8 c9 c10 c11 c12 c13 c14 c15 y : α) : N16 α := ⟨c0, c1, y, c3, c4, c5, c6, c7, c8, c9, c10, c11, c12, c13, c14, c15⟩
def N16.r3 (c0 c1 c2 c3 c4 c5 c6 c7 c8 c9 c10 c11 c12 c13 c14 c15 y : α) : N16 α := ⟨c0, c1, c2, y, c4, c5, c6, c7, c8, c9, c10, c11, c12, c13, c14, c15⟩
def N16.r4 (c0 c1 c2 c3 c4 c5 c6 c7 c8 c9 c10 c11 c12 c13 c14 c15 y : α) : N16 α := ⟨c0, c1, c2, c3, y, c5, c6, c7, c8, c9, c10, c11, c12, c13, c14, c15⟩
def N16.r5 (c0 c1 c2 c3 c4 c5 c6 c7 c8 c9 c10 c11 c12 c13 c14 c15 y : α) : N16 α := ⟨c0, c1, c2, c3, c4, y, c6, c7, c8, c9, c10, c11, c12, c13, c14, c15⟩
def N16.r6 (c0 c1 c2 c3 c4 c5 c6 c7 c8 c9 c10 c11 c12 c13 c14 c15 y : α) : N16 α := ⟨c0, c1, c2, c3, c4, c5, y, c7, c8, c9, c10, c11, c12, c13, c14, c15⟩
def N16.r7 (c0 c1 c2 c3 c4 c5 c6 c7 c8 c9 c10 c11 c12 c13 c14 c15 y : α) : N16 α := ⟨c0, c1, c2, c3, c4, c5, c6, y, c8, c9, c10, c11, c12, c13, c14, c15⟩
def N16.r8 (c0 c1 c2 c3 c4 c5 c6 c7 c8 c9 c10 c11 c12 c13 c14 c15 y : α) : N16 α := ⟨c0, c1, c2, c3, c4, c5, c6, c7, y, c9, c10, c11, c12, c13, c14, c15⟩
def N16.r9 (c0 c1 c2 c3 c4 c5 c6 c7 c8 c9 c10 c11 c12 c13 c14 c15 y : α) : N16 α := ⟨c0, c1, c2, c3, c4, c5, c6, c7, c8, y, c10, c11, c12, c13, c14, c15⟩
def N16.r10 (c0 c1 c2 c3 c4 c5 c6 c7 c8 c9 c10 c11 c12 c13 c14 c15 y : α) : N16 α := ⟨c0, c1, c2, c3, c4, c5, c6, c7, c8, c9, y, c11, c12, c13, c14, c15⟩
def N16.r11 (c0 c1 c2 c3 c4 c5 c6 c7 c8 c9 c10 c11 c12 c13 c14 c15 y : α) : N16 α := ⟨c0, c1, c2, c3, c4, c5, c6, c7, c8, c9, c10, y, c12, c13, c14, c15⟩
def N16.r12 (c0 c1 c2 c3 c4 c5 c6 c7 c8 c9 c10 c11 c12 c13 c14 c15 y : α) : N16 α := ⟨c0, c1, c2, c3, c4, c5, c6, c7, c8, c9, c10, c11, y, c13, c14, c15⟩
def N16.r13 (c0 c1 c2 c3 c4 c5 c6 c7 c8 c9 c10 c11 c12 c13 c14 c15 y : α) : N16 α := ⟨c0, c1, c2, c3, c4, c5, c6, c7, c8, c9, c10, c11, c12, y, c14, c15⟩
def N16.r14 (c0 c1 c2 c3 c4 c5 c6 c7 c8 c9 c10 c11 c12 c13 c14 c15 y : α) : N16 α := ⟨c0, c1, c2, c3, c4, c5, c6, c7, c8, c9, c10, c11, c12, c13, y, c15⟩
def N16.r15 (c0 c1 c2 c3 c4 c5 c6 c7 c8 c9 c10 c11 c12 c13 c14 c15 y : α) : N16 α := ⟨c0, c1, c2, c3, c4, c5, c6, c7, c8, c9, c10, c11, c12, c13, c14, y⟩
noncomputable def N16.s0 (s : N16 α) (y : α) : N16 α := N16.rec (motive := N16.MR α) N16.r0 s y
noncomputable def N16.s1 (s : N16 α) (y : α) : N16 α := N16.rec (motive := N16.MR α) N16.r1 s y
noncomputable def N16.s2 (s : N16 α) (y : α) : N16 α := N16.rec (motive := N16.MR α) N16.r2 s y
noncomputable def N16.s3 (s : N16 α) (y : α) : N16 α := N16.rec (motive := N16.MR α) N16.r3 s y
noncomputable def N16.s4 (s : N16 α) (y : α) : N16 α := N16.rec (motive := N16.MR α) N16.r4 s y
noncomputable def N16.s5 (s : N16 α) (y : α) : N16 α := N16.rec (motive := N16.MR α) N16.r5 s y
noncomputable def N16.s6 (s : N16 α) (y : α) : N16 α := N16.rec (motive := N16.MR α) N16.r6 s y
noncomputable def N16.s7 (s : N16 α) (y : α) : N16 α := N16.rec (motive := N16.MR α) N16.r7 s y
noncomputable def N16.s8 (s : N16 α) (y : α) : N16 α := N16.rec (motive := N16.MR α) N16.r8 s y
noncomputable def N16.s9 (s : N16 α) (y : α) : N16 α := N16.rec (motive := N16.MR α) N16.r9 s y
noncomputable def N16.s10 (s : N16 α) (y : α) : N16 α := N16.rec (motive := N16.MR α) N16.r10 s y
noncomputable def N16.s11 (s : N16 α) (y : α) : N16 α := N16.rec (motive := N16.MR α) N16.r11 s y
noncomputable def N16.s12 (s : N16 α) (y : α) : N16 α := N16.rec (motive := N16.MR α) N16.r12 s y
noncomputable def N16.s13 (s : N16 α) (y : α) : N16 α := N16.rec (motive := N16.MR α) N16.r13 s y
noncomputable def N16.s14 (s : N16 α) (y : α) : N16 α := N16.rec (motive := N16.MR α) N16.r14 s y
noncomputable def N16.s15 (s : N16 α) (y : α) : N16 α := N16.rec (motive := N16.MR α) N16.r15 s y
noncomputable def N16.set (d : D16) (s : N16 α) (y : α) : N16 α := D16.rec (motive := N16.MS α) N16.s0 N16.s1 N16.s2 N16.s3 N16.s4 N16.s5 N16.s6 N16.s7 N16.s8 N16.s9 N16.s10 N16.s11 N16.s12 N16.s13 N16.s14 N16.s15 d s y
end n16
inductive T (α : Type) where
 | leaf
 | node (v : Option α) (ch : N16 (T α))
section tree
variable {α : Type}
def T.none16 : N16 (T α) := ⟨.leaf, .leaf, .leaf, .leaf, .leaf, .leaf, .leaf, .leaf, .leaf, .leaf, .leaf, .leaf, .leaf, .leaf, .leaf, .leaf⟩
abbrev T.M2 (α : Type) : N16 (T α) → Type := fun _ => Unit
def T.mU {β : Type} (_c0 _c1 _c2 _c3 _c4 _c5 _c6 _c7 _c8 _c9 _c10 _c11 _c12 _c13 _c14 _c15 : T α) (_i0 _i1 _i2 _i3 _i4 _i5 _i6 _i7 _i8 _i9 _i10 _i11 _i12 _i13 _i14 _i15 : β) : Unit := ()
abbrev T.MH (α : Type) : T α → Type := fun _ => Option α
def T.gH2 (v : Option α) (_ : N16 (T α)) (_ : Unit) : Option α := v
noncomputable def T.gH (t : T α) : Option α := T.rec (motive_1 := T.MH α) (motive_2 := T.M2 α) none T.gH2 T.mU t
abbrev T.MC (α : Type) : T α → Type := fun _ => D16 → (T α → Option α) → Option α
def T.gC1 (_ : D16) (_ : T α → Option α) : Option α := none
noncomputable def T.gC2 (_ : Option α) (ch : N16 (T α)) (_ : Unit) (d : D16) (ih : T α → Option α) : Option α := ih (N16.get d ch)
noncomputable def T.gC (d : D16) (ih : T α → Option α) (t : T α) : Option α := T.rec (motive_1 := T.MC α) (motive_2 := T.M2 α) T.gC1 T.gC2 T.mU t d ih
abbrev T.MQ (α : Type) : Q → Type := fun _ => T α → Option α
noncomputable def T.gQ (d : D16) (_ : Q) (ih : T α → Option α) : T α → Option α := T.gC d ih
noncomputable def T.get (t : T α) (p : Q) : Option α := Q.rec (motive := T.MQ α) T.gH T.gQ p t
abbrev T.MS (α : Type) : T α → Type := fun _ => Option α → N16 (T α) → D16 → T α
noncomputable def T.sC1 (v : Option α) (ch : N16 (T α)) (d : D16) : T α := .node v (N16.set d ch .leaf)
noncomputable def T.sC2 (v' : Option α) (ch' : N16 (T α)) (_ : Unit) (v : Option α) (ch : N16 (T α)) (d : D16) : T α := .node v (N16.set d ch (.node v' ch'))
noncomputable def T.sC (v : Option α) (ch : N16 (T α)) (d : D16) (y : T α) : T α := T.rec (motive_1 := T.MS α) (motive_2 := T.M2 α) T.sC1 T.sC2 T.mU y v ch d
abbrev T.MP (α : Type) : T α → Type := fun _ => Option α → T α
def T.pH1 (x : Option α) : T α := .node x T.none16
def T.pH2 (_ : Option α) (ch : N16 (T α)) (_ : Unit) (x : Option α) : T α := .node x ch
noncomputable def T.pH (t : T α) (x : Option α) : T α := T.rec (motive_1 := T.MP α) (motive_2 := T.M2 α) T.pH1 T.pH2 T.mU t x
abbrev T.MPC (α : Type) : T α → Type := fun _ => D16 → (T α → Option α → T α) → Option α → T α
noncomputable def T.pC1 (d : D16) (ih : T α → Option α → T α) (x : Option α) : T α := T.sC none T.none16 d (ih .leaf x)
noncomputable def T.pC2 (v : Option α) (ch : N16 (T α)) (_ : Unit) (d : D16) (ih : T α → Option α → T α) (x : Option α) : T α := T.sC v ch d (ih (N16.get d ch) x)
noncomputable def T.pC (d : D16) (ih : T α → Option α → T α) (t : T α) (x : Option α) : T α := T.rec (motive_1 := T.MPC α) (motive_2 := T.M2 α) T.pC1 T.pC2 T.mU t d ih x
abbrev T.MPQ (α : Type) : Q → Type := fun _ => T α → Option α → T α
noncomputable def T.pQ (d : D16) (_ : Q) (ih : T α → Option α → T α) : T α → Option α → T α := T.pC d ih
noncomputable def T.put (t : T α) (x : Option α) (p : Q) : T α := Q.rec (motive := T.MPQ α) T.pH T.pQ p t x
end tree
inductive AV where
 | int (k : IntKind) (u : Nat)
 | bool (b : Bool)
 | ptr (b : Q) (o : Nat)
 | nilp
 | sl (b : Q) (o n c : Nat)
 | slk (b : Q) (n : Nat)
 | nils
 | fn (f : Nat) (first caps : List AV)
 | yld (l : Q)
 | agg (cs : List AV)
 | tup (vs : List AV)
 | nilf
 | tail (b : Q) (o l z m : Nat)
 deriving Inhabited
def M : IntKind → Nat
 | .i8 => 256 | .u8 => 256 | .i16 => 65536 | .u16 => 65536 | .i32 => 4294967296 | .u32 => 4294967296 | .i64 => 18446744073709551616 | .u64 => 18446744073709551616
def hf : IntKind → Nat
 | .i8 => 128 | .u8 => 0 | .i16 => 32768 | .u16 => 0 | .i32 => 2147483648 | .u32 => 0 | .i64 => 9223372036854775808 | .u64 => 0
def isNeg (k : IntKind) (u : Nat) : Bool := match k with
 | .i8 => Nat.ble 128 u | .u8 => false | .i16 => Nat.ble 32768 u | .u16 => false | .i32 => Nat.ble 2147483648 u | .u32 => false | .i64 => Nat.ble 9223372036854775808 u | .u64 => false
def toU (k : IntKind) (n : Int) : Nat := match n with
 | .ofNat a => Nat.mod a (M k)
 | .negSucc a => Nat.sub (Nat.sub (M k) 1) (Nat.mod a (M k))
def ofU (k : IntKind) (u : Nat) : Int := cond (isNeg k u) ((u : Int) - (M k : Int)) (u : Int)
def bitsOf : IntKind → Nat
 | .i8 => 8 | .u8 => 8 | .i16 => 16 | .u16 => 16 | .i32 => 32 | .u32 => 32 | .i64 => 64 | .u64 => 64
def UNK : Nat := 1180591620717411303424
def mag (k : IntKind) (u : Nat) : Nat := cond (isNeg k u) (Nat.sub (M k) u) u
def signed (k : IntKind) (neg : Bool) (m : Nat) : Nat := cond neg (Nat.mod (Nat.sub (M k) (Nat.mod m (M k))) (M k)) (Nat.mod m (M k))
def ltU (k : IntKind) (a b : Nat) : Bool := Nat.blt (Nat.mod (Nat.add a (hf k)) (M k)) (Nat.mod (Nat.add b (hf k)) (M k))
def leU (k : IntKind) (a b : Nat) : Bool := Nat.ble (Nat.mod (Nat.add a (hf k)) (M k)) (Nat.mod (Nat.add b (hf k)) (M k))
def shrU (k : IntKind) (a n : Nat) : Nat := cond (isNeg k a) (Nat.sub (Nat.sub (M k) 1) (Nat.shiftRight (Nat.sub (Nat.sub (M k) 1) a) n)) (Nat.shiftRight a n)
def minN (a b : Nat) : Nat := cond (Nat.ble a b) a b
def kindEq : IntKind → IntKind → Bool
 | .i8, .i8 => true | .i16, .i16 => true | .i32, .i32 => true | .i64, .i64 => true | .u8, .u8 => true | .u16, .u16 => true | .u32, .u32 => true | .u64, .u64 => true | _, _ => false
inductive D where
 | int (k : IntKind)
 | bool
 | ptr
 | one
 | sl (e : Nat)
 | st (fs : List (Nat × Nat × Bool))
 | arr (n e : Nat)
structure TI where
 d : D
 size : Nat
 bytes : Nat
 zero : List AV
noncomputable def rep (n : Nat) (v : AV) (l : List AV) : List AV := Nat.rec (motive := fun _ => List AV) l (fun _ ih => v :: ih) n
noncomputable def cat (a b : List AV) : List AV := List.rec (motive := fun _ => List AV) b (fun v _ ih => v :: ih) a
noncomputable def repL (n : Nat) (a l : List AV) : List AV := Nat.rec (motive := fun _ => List AV) l (fun _ ih => cat a ih) n
noncomputable def forceN1 (a : Nat) (f : Nat → Nat) : Nat := Nat.rec (motive := fun _ => (Nat → Nat) → Nat) (fun f => f 0) (fun p _ f => f (Nat.succ p)) a f
noncomputable def lenF {β : Type} (l : List β) : Nat := List.rec (motive := fun _ => Nat → Nat) (fun n => n) (fun _ _ ih n => forceN1 (Nat.add n 1) ih) l 0
inductive AB where
 | cells (n : Nat) (row : Option (Nat × Nat)) (t : T AV)
 | loop (st : Nat) (pend : Option Code) (s : T AV) (ps : List Nat) (assign body : Code)
 | dfr
structure H where
 t : T AB
 n : Q
inductive Fn where
 | code (body : Code) (res : List ResultVar)
 | orc (f : List AV → H → Option (AV × H))
 | mix (body : Code) (res : List ResultVar) (f : List AV → H → Option (AV × H))
 | ext (g : List AV → Option AV)
end Go.Ev
end
section
namespace Go.Ev
open Go
def fnOf (f : Func) : Option Fn := match f.body with
 | some b => some (.code b f.results.toList)
 | none => none
noncomputable def ft : TB Fn := (.node (.node (.node (.node (.node (.node (.node (.node .leaf (fnOf Proofs.Tryz.f127) .leaf) (fnOf Proofs.Tryz.f63) (.node .leaf (fnOf Proofs.Tryz.f191) .leaf)) (fnOf Proofs.Tryz.f31) (.node (.node .leaf (fnOf Proofs.Tryz.f159) .leaf) (fnOf Proofs.Tryz.f95) (.node .leaf (fnOf Proofs.Tryz.f223) .leaf))) (fnOf Proofs.Tryz.f15) (.node (.node (.node .leaf (fnOf Proofs.Tryz.f143) .leaf) (fnOf Proofs.Tryz.f79) (.node .leaf (fnOf Proofs.Tryz.f207) .leaf)) (fnOf Proofs.Tryz.f47) (.node (.node .leaf (fnOf Proofs.Tryz.f175) .leaf) (fnOf Proofs.Tryz.f111) .leaf))) (fnOf Proofs.Tryz.f7) (.node (.node (.node (.node .leaf (fnOf Proofs.Tryz.f135) .leaf) (fnOf Proofs.Tryz.f71) (.node .leaf (fnOf Proofs.Tryz.f199) .leaf)) (fnOf Proofs.Tryz.f39) (.node (.node .leaf (fnOf Proofs.Tryz.f167) .leaf) (fnOf Proofs.Tryz.f103) (.node .leaf (fnOf Proofs.Tryz.f231) .leaf))) (fnOf Proofs.Tryz.f23) (.node (.node (.node .leaf (fnOf Proofs.Tryz.f151) .leaf) (fnOf Proofs.Tryz.f87) (.node .leaf (fnOf Proofs.Tryz.f215) .leaf)) (fnOf Proofs.Tryz.f55) (.node (.node .leaf (fnOf Proofs.Tryz.f183) .leaf) (fnOf Proofs.Tryz.f119) .leaf)))) (fnOf Proofs.Tryz.f3) (.node (.node (.node (.node (.node .leaf (fnOf Proofs.Tryz.f131) .leaf) (fnOf Proofs.Tryz.f67) (.node .leaf (fnOf Proofs.Tryz.f195) .leaf)) (fnOf Proofs.Tryz.f35) (.node (.node .leaf (fnOf Proofs.Tryz.f163) .leaf) (fnOf Proofs.Tryz.f99) (.node .leaf (fnOf Proofs.Tryz.f227) .leaf))) (fnOf Proofs.Tryz.f19) (.node (.node (.node .leaf (fnOf Proofs.Tryz.f147) .leaf) (fnOf Proofs.Tryz.f83) (.node .leaf (fnOf Proofs.Tryz.f211) .leaf)) (fnOf Proofs.Tryz.f51) (.node (.node .leaf (fnOf Proofs.Tryz.f179) .leaf) (fnOf Proofs.Tryz.f115) .leaf))) (fnOf Proofs.Tryz.f11) (.node (.node (.node (.node .leaf (fnOf Proofs.Tryz.f139) .leaf) (fnOf Proofs.Tryz.f75) (.node .leaf (fnOf Proofs.Tryz.f203) .leaf)) (fnOf Proofs.Tryz.f43) (.node (.node .leaf (fnOf Proofs.Tryz.f171) .leaf) (fnOf Proofs.Tryz.f107) .leaf)) (fnOf Proofs.Tryz.f27) (.node (.node (.node .leaf (fnOf Proofs.Tryz.f155) .leaf) (fnOf Proofs.Tryz.f91) .leaf) (fnOf Proofs.Tryz.f59) (.node (.node .leaf (fnOf Proofs.Tryz.f187) .leaf) (fnOf Proofs.Tryz.f123) .leaf))))) none (.node (.node (.node (.node (.node (.node .leaf (fnOf Proofs.Tryz.f129) .leaf) (fnOf Proofs.Tryz.f65) (.node .leaf (fnOf Proofs.Tryz.f193) .leaf)) (fnOf Proofs.Tryz.f33) (.node (.node .leaf (fnOf Proofs.Tryz.f161) .leaf) (fnOf Proofs.Tryz.f97) (.node .leaf (fnOf Proofs.Tryz.f225) .leaf))) (fnOf Proofs.Tryz.f17) (.node (.node (.node .leaf (fnOf Proofs.Tryz.f145) .leaf) (fnOf Proofs.Tryz.f81) (.node .leaf (fnOf Proofs.Tryz.f209) .leaf)) (fnOf Proofs.Tryz.f49) (.node (.node .leaf (fnOf Proofs.Tryz.f177) .leaf) (fnOf Proofs.Tryz.f113) .leaf))) (fnOf Proofs.Tryz.f9) (.node (.node (.node (.node .leaf (fnOf Proofs.Tryz.f137) .leaf) (fnOf Proofs.Tryz.f73) (.node .leaf (fnOf Proofs.Tryz.f201) .leaf)) (fnOf Proofs.Tryz.f41) (.node (.node .leaf (fnOf Proofs.Tryz.f169) .leaf) (fnOf Proofs.Tryz.f105) .leaf)) (fnOf Proofs.Tryz.f25) (.node (.node (.node .leaf (fnOf Proofs.Tryz.f153) .leaf) (fnOf Proofs.Tryz.f89) (.node .leaf (fnOf Proofs.Tryz.f217) .leaf)) (fnOf Proofs.Tryz.f57) (.node (.node .leaf (fnOf Proofs.Tryz.f185) .leaf) (fnOf Proofs.Tryz.f121) .leaf)))) (fnOf Proofs.Tryz.f5) (.node (.node (.node (.node (.node .leaf (fnOf Proofs.Tryz.f133) .leaf) (fnOf Proofs.Tryz.f69) (.node .leaf (fnOf Proofs.Tryz.f197) .leaf)) (fnOf Proofs.Tryz.f37) (.node (.node .leaf (fnOf Proofs.Tryz.f165) .leaf) (fnOf Proofs.Tryz.f101) (.node .leaf (fnOf Proofs.Tryz.f229) .leaf))) (fnOf Proofs.Tryz.f21) (.node (.node (.node .leaf (fnOf Proofs.Tryz.f149) .leaf) (fnOf Proofs.Tryz.f85) (.node .leaf (fnOf Proofs.Tryz.f213) .leaf)) (fnOf Proofs.Tryz.f53) (.node (.node .leaf (fnOf Proofs.Tryz.f181) .leaf) (fnOf Proofs.Tryz.f117) .leaf))) (fnOf Proofs.Tryz.f13) (.node (.node (.node (.node .leaf (fnOf Proofs.Tryz.f141) .leaf) (fnOf Proofs.Tryz.f77) (.node .leaf (fnOf Proofs.Tryz.f205) .leaf)) (fnOf Proofs.Tryz.f45) (.node (.node .leaf (fnOf Proofs.Tryz.f173) .leaf) (fnOf Proofs.Tryz.f109) .leaf)) (fnOf Proofs.Tryz.f29) (.node (.node (.node .leaf (fnOf Proofs.Tryz.f157) .leaf) (fnOf Proofs.Tryz.f93) (.node .leaf (fnOf Proofs.Tryz.f221) .leaf)) (fnOf Proofs.Tryz.f61) (.node (.node .leaf (fnOf Proofs.Tryz.f189) .leaf) (fnOf Proofs.Tryz.f125) .leaf)))))) none (.node (.node (.node (.node (.node (.node (.node .leaf (fnOf Proofs.Tryz.f128) .leaf) (fnOf Proofs.Tryz.f64) (.node .leaf (fnOf Proofs.Tryz.f192) .leaf)) (fnOf Proofs.Tryz.f32) (.node (.node .leaf (fnOf Proofs.Tryz.f160) .leaf) (fnOf Proofs.Tryz.f96) (.node .leaf (fnOf Proofs.Tryz.f224) .leaf))) (fnOf Proofs.Tryz.f16) (.node (.node (.node .leaf (fnOf Proofs.Tryz.f144) .leaf) (fnOf Proofs.Tryz.f80) .leaf) (fnOf Proofs.Tryz.f48) (.node (.node .leaf (fnOf Proofs.Tryz.f176) .leaf) (fnOf Proofs.Tryz.f112) .leaf))) (fnOf Proofs.Tryz.f8) (.node (.node (.node (.node .leaf (fnOf Proofs.Tryz.f136) .leaf) (fnOf Proofs.Tryz.f72) (.node .leaf (fnOf Proofs.Tryz.f200) .leaf)) (fnOf Proofs.Tryz.f40) (.node (.node .leaf (fnOf Proofs.Tryz.f168) .leaf) (fnOf Proofs.Tryz.f104) .leaf)) (fnOf Proofs.Tryz.f24) (.node (.node (.node .leaf (fnOf Proofs.Tryz.f152) .leaf) (fnOf Proofs.Tryz.f88) (.node .leaf (fnOf Proofs.Tryz.f216) .leaf)) (fnOf Proofs.Tryz.f56) (.node (.node .leaf (fnOf Proofs.Tryz.f184) .leaf) (fnOf Proofs.Tryz.f120) .leaf)))) (fnOf Proofs.Tryz.f4) (.node (.node (.node (.node (.node .leaf (fnOf Proofs.Tryz.f132) .leaf) (fnOf Proofs.Tryz.f68) (.node .leaf (fnOf Proofs.Tryz.f196) .leaf)) (fnOf Proofs.Tryz.f36) (.node (.node .leaf (fnOf Proofs.Tryz.f164) .leaf) (fnOf Proofs.Tryz.f100) (.node .leaf (fnOf Proofs.Tryz.f228) .leaf))) (fnOf Proofs.Tryz.f20) (.node (.node (.node .leaf (fnOf Proofs.Tryz.f148) .leaf) (fnOf Proofs.Tryz.f84) (.node .leaf (fnOf Proofs.Tryz.f212) .leaf)) (fnOf Proofs.Tryz.f52) (.node (.node .leaf (fnOf Proofs.Tryz.f180) .leaf) (fnOf Proofs.Tryz.f116) .leaf))) (fnOf Proofs.Tryz.f12) (.node (.node (.node (.node .leaf (fnOf Proofs.Tryz.f140) .leaf) (fnOf Proofs.Tryz.f76) (.node .leaf (fnOf Proofs.Tryz.f204) .leaf)) (fnOf Proofs.Tryz.f44) (.node (.node .leaf (fnOf Proofs.Tryz.f172) .leaf) (fnOf Proofs.Tryz.f108) .leaf)) (fnOf Proofs.Tryz.f28) (.node (.node (.node .leaf (fnOf Proofs.Tryz.f156) .leaf) (fnOf Proofs.Tryz.f92) (.node .leaf (fnOf Proofs.Tryz.f220) .leaf)) (fnOf Proofs.Tryz.f60) (.node (.node .leaf (fnOf Proofs.Tryz.f188) .leaf) (fnOf Proofs.Tryz.f124) .leaf))))) none (.node (.node (.node (.node (.node (.node .leaf (fnOf Proofs.Tryz.f130) .leaf) (fnOf Proofs.Tryz.f66) (.node .leaf (fnOf Proofs.Tryz.f194) .leaf)) (fnOf Proofs.Tryz.f34) (.node (.node .leaf (fnOf Proofs.Tryz.f162) .leaf) (fnOf Proofs.Tryz.f98) (.node .leaf (fnOf Proofs.Tryz.f226) .leaf))) (fnOf Proofs.Tryz.f18) (.node (.node (.node .leaf (fnOf Proofs.Tryz.f146) .leaf) (fnOf Proofs.Tryz.f82) (.node .leaf (fnOf Proofs.Tryz.f210) .leaf)) (fnOf Proofs.Tryz.f50) (.node (.node .leaf (fnOf Proofs.Tryz.f178) .leaf) (fnOf Proofs.Tryz.f114) .leaf))) (fnOf Proofs.Tryz.f10) (.node (.node (.node (.node .leaf (fnOf Proofs.Tryz.f138) .leaf) (fnOf Proofs.Tryz.f74) (.node .leaf (fnOf Proofs.Tryz.f202) .leaf)) (fnOf Proofs.Tryz.f42) (.node (.node .leaf (fnOf Proofs.Tryz.f170) .leaf) (fnOf Proofs.Tryz.f106) .leaf)) (fnOf Proofs.Tryz.f26) (.node (.node (.node .leaf (fnOf Proofs.Tryz.f154) .leaf) (fnOf Proofs.Tryz.f90) (.node .leaf (fnOf Proofs.Tryz.f218) .leaf)) (fnOf Proofs.Tryz.f58) (.node (.node .leaf (fnOf Proofs.Tryz.f186) .leaf) (fnOf Proofs.Tryz.f122) .leaf)))) (fnOf Proofs.Tryz.f6) (.node (.node (.node (.node (.node .leaf (fnOf Proofs.Tryz.f134) .leaf) (fnOf Proofs.Tryz.f70) (.node .leaf (fnOf Proofs.Tryz.f198) .leaf)) (fnOf Proofs.Tryz.f38) (.node (.node .leaf (fnOf Proofs.Tryz.f166) .leaf) (fnOf Proofs.Tryz.f102) (.node .leaf (fnOf Proofs.Tryz.f230) .leaf))) (fnOf Proofs.Tryz.f22) (.node (.node (.node .leaf (fnOf Proofs.Tryz.f150) .leaf) (fnOf Proofs.Tryz.f86) (.node .leaf (fnOf Proofs.Tryz.f214) .leaf)) (fnOf Proofs.Tryz.f54) (.node (.node .leaf (fnOf Proofs.Tryz.f182) .leaf) (fnOf Proofs.Tryz.f118) .leaf))) (fnOf Proofs.Tryz.f14) (.node (.node (.node (.node .leaf (fnOf Proofs.Tryz.f142) .leaf) (fnOf Proofs.Tryz.f78) (.node .leaf (fnOf Proofs.Tryz.f206) .leaf)) (fnOf Proofs.Tryz.f46) (.node (.node .leaf (fnOf Proofs.Tryz.f174) .leaf) (fnOf Proofs.Tryz.f110) .leaf)) (fnOf Proofs.Tryz.f30) (.node (.node (.node .leaf (fnOf Proofs.Tryz.f158) .leaf) (fnOf Proofs.Tryz.f94) (.node .leaf (fnOf Proofs.Tryz.f222) .leaf)) (fnOf Proofs.Tryz.f62) (.node (.node .leaf (fnOf Proofs.Tryz.f190) .leaf) (fnOf Proofs.Tryz.f126) .leaf)))))))
noncomputable def tt : TB TI := (.node (.node (.node (.node (.node .leaf none (.node (.node (.node .leaf (some ⟨.ptr, 1, 8, [.nilp]⟩) .leaf) none .leaf) none (.node (.node .leaf (some ⟨.st [(0, 1, false), (1, 1, false), (2, 256, true), (258, 1, false)], 259, 536, [.int .i64 0, .int .i64 0, .int .i16 0, .int .i16 0, .int .i16 0, .int .i16 0, .int .i16 0, .int .i16 0, .int .i16 0, .int .i16 0, .int .i16 0, .int .i16 0, .int .i16 0, .int .i16 0, .int .i16 0, .int .i16 0, .int .i16 0, .int .i16 0, .int .i16 0, .int .i16 0, .int .i16 0, .int .i16 0, .int .i16 0, .int .i16 0, .int .i16 0, .int .i16 0, .int .i16 0, .int .i16 0, .int .i16 0, .int .i16 0, .int .i16 0, .int .i16 0, .int .i16 0, .int .i16 0, .int .i16 0, .int .i16 0, .int .i16 0, .int .i16 0, .int .i16 0, .int .i16 0, .int .i16 0, .int .i16 0, .int .i16 0, .int .i16 0, .int .i16 0, .int .i16 0, .int .i16 0, .int .i16 0, .int .i16 0, .int .i16 0, .int .i16 0, .int .i16 0, .int .i16 0, .int .i16 0, .int .i16 0, .int .i16 0, .int .i16 0, .int .i16 0, .int .i16 0, .int .i16 0, .int .i16 0, .int .i16 0, .int .i16 0, .int .i16 0, .int .i16 0, .int .i16 0, .int .i16 0, .int .i16 0, .int .i16 0, .int .i16 0, .int .i16 0, .int .i16 0, .int .i16 0, .int .i16 0, .int .i16 0, .int .i16 0, .int .i16 0, .int .i16 0, .int .i16 0, .int .i16 0, .int .i16 0, .int .i16 0, .int .i16 0, .int .i16 0, .int .i16 0, .int .i16 0, .int .i16 0, .int .i16 0, .int .i16 0, .int .i16 0, .int .i16 0, .int .i16 0, .int .i16 0, .int .i16 0, .int .i16 0, .int .i16 0, .int .i16 0, .int .i16 0, .int .i16 0, .int .i16 0, .int .i16 0, .int .i16 0, .int .i16 0, .int .i16 0, .int .i16 0, .int .i16 0, .int .i16 0, .int .i16 0, .int .i16 0, .int .i16 0, .int .i16 0, .int .i16 0, .int .i16 0, .int .i16 0, .int .i16 0, .int .i16 0, .int .i16 0, .int .i16 0, .int .i16 0, .int .i16 0, .int .i16 0, .int .i16 0, .int .i16 0, .int .i16 0, .int .i16 0, .int .i16 0, .int .i16 0, .int .i16 0, .int .i16 0, .int .i16 0, .int .i16 0, .int .i16 0, .int .i16 0, .int .i16 0, .int .i16 0, .int .i16 0, .int .i16 0, .int .i16 0, .int .i16 0, .int .i16 0, .int .i16 0, .int .i16 0, .int .i16 0, .int .i16 0, .int .i16 0, .int .i16 0, .int .i16 0, .int .i16 0, .int .i16 0, .int .i16 0, .int .i16 0, .int .i16 0, .int .i16 0, .int .i16 0, .int .i16 0, .int .i16 0, .int .i16 0, .int .i16 0, .int .i16 0, .int .i16 0, .int .i16 0, .int .i16 0, .int .i16 0, .int .i16 0, .int .i16 0, .int .i16 0, .int .i16 0, .int .i16 0, .int .i16 0, .int .i16 0, .int .i16 0, .int .i16 0, .int .i16 0, .int .i16 0, .int .i16 0, .int .i16 0, .int .i16 0, .int .i16 0, .int .i16 0, .int .i16 0, .int .i16 0, .int .i16 0, .int .i16 0, .int .i16 0, .int .i16 0, .int .i16 0, .int .i16 0, .int .i16 0, .int .i16 0, .int .i16 0, .int .i16 0, .int .i16 0, .int .i16 0, .int .i16 0, .int .i16 0, .int .i16 0, .int .i16 0, .int .i16 0, .int .i16 0, .int .i16 0, .int .i16 0, .int .i16 0, .int .i16 0, .int .i16 0, .int .i16 0, .int .i16 0, .int .i16 0, .int .i16 0, .int .i16 0, .int .i16 0, .int .i16 0, .int .i16 0, .int .i16 0, .int .i16 0, .int .i16 0, .int .i16 0, .int .i16 0, .int .i16 0, .int .i16 0, .int .i16 0, .int .i16 0, .int .i16 0, .int .i16 0, .int .i16 0, .int .i16 0, .int .i16 0, .int .i16 0, .int .i16 0, .int .i16 0, .int .i16 0, .int .i16 0, .int .i16 0, .int .i16 0, .int .i16 0, .int .i16 0, .int .i16 0, .int .i16 0, .int .i16 0, .int .i16 0, .int .i16 0, .int .i16 0, .int .i16 0, .int .i16 0, .int .i16 0, .int .i16 0, .int .i16 0, .int .i16 0, .int .i16 0, .int .i16 0, .int .i16 0, .int .i16 0, .int .i16 0, .int .i16 0, .int .i16 0, .int .i16 0, .int .i16 0, .int .i16 0, .int .i16 0, .int .i64 0]⟩) .leaf) (some ⟨.st [(0, 6, true), (6, 32, true), (38, 1, false), (39, 1, false)], 40, 320, [.int .i64 0, .int .i64 0, .int .i64 0, .int .i64 0, .int .i64 0, .int .i64 0, .int .i64 0, .int .i64 0, .int .i64 0, .int .i64 0, .int .i64 0, .int .i64 0, .int .i64 0, .int .i64 0, .int .i64 0, .int .i64 0, .int .i64 0, .int .i64 0, .int .i64 0, .int .i64 0, .int .i64 0, .int .i64 0, .int .i64 0, .int .i64 0, .int .i64 0, .int .i64 0, .int .i64 0, .int .i64 0, .int .i64 0, .int .i64 0, .int .i64 0, .int .i64 0, .int .i64 0, .int .i64 0, .int .i64 0, .int .i64 0, .int .i64 0, .int .i64 0, .int .i64 0, .int .i64 0]⟩) .leaf))) none (.node (.node .leaf none (.node .leaf (some ⟨.st [(0, 4, true), (4, 1, false), (5, 1, false), (6, 1, false), (7, 1, false), (8, 1, false), (9, 1, false), (10, 1, false), (11, 1, false), (12, 1, false), (13, 7, true)], 20, 136, [.int .u32 0, .int .i64 0, .int .i64 0, .int .i64 0, .bool false, .int .u16 0, .int .u32 0, .int .i64 0, .int .u32 0, .bool false, .int .i64 0, .bool false, .int .i64 0, .int .i64 0, .int .i64 0, .int .i64 0, .int .i64 0, .int .i64 0, .int .i64 0, .int .i64 0]⟩) .leaf)) (some ⟨.int .u16, 1, 2, [.int .u16 0]⟩) (.node .leaf none (.node .leaf (some ⟨.sl 187, 1, 24, [.nils]⟩) (.node .leaf (some ⟨.st [(0, 1, false), (1, 1, false)], 2, 16, [.int .i64 0, .int .u64 0]⟩) .leaf))))) (some ⟨.int .i64, 1, 8, [.int .i64 0]⟩) (.node (.node (.node (.node (.node .leaf (some ⟨.arr 3 38, 3, 24, [.int .i64 0, .int .i64 0, .int .i64 0]⟩) .leaf) none .leaf) (some ⟨.sl 5, 1, 24, [.nils]⟩) .leaf) none (.node (.node .leaf (some ⟨.int .u64, 1, 8, [.int .u64 0]⟩) .leaf) none (.node (.node (.node .leaf (some ⟨.one, 1, 8, [.nilf]⟩) .leaf) (some ⟨.ptr, 1, 8, [.nilp]⟩) .leaf) none .leaf))) none (.node (.node (.node (.node (.node .leaf (some ⟨.arr 5 4, 5, 5, [.bool false, .bool false, .bool false, .bool false, .bool false]⟩) .leaf) (some ⟨.st [(0, 1, false), (1, 1, false)], 2, 32, [.nils, .int .i64 0]⟩) .leaf) none .leaf) none .leaf) none (.node (.node .leaf (some ⟨.st [(0, 1, false), (1, 2, true), (3, 1, false), (4, 1, false), (5, 8, true)], 13, 120, [.nilp, .nils, .int .i64 0, .int .i64 0, .int .i64 0, .int .i64 0, .int .i64 0, .int .i64 0, .int .i64 0, .int .i64 0, .int .i64 0, .int .i64 0, .int .i64 0]⟩) (.node (.node .leaf (some ⟨.one, 1, 16, []⟩) .leaf) (some ⟨.st [(0, 1, false), (1, 1, false), (2, 1, false), (3, 1, false), (4, 1, false)], 5, 40, [.int .i64 0, .int .i64 0, .int .i64 0, .int .i64 0, .int .i64 0]⟩) .leaf)) (some ⟨.st [(0, 1, false), (1, 1, false), (2, 1, false), (3, 1, false), (4, 1, false), (5, 1, false)], 6, 32, [.int .i64 0, .int .u16 0, .int .u32 0, .int .i32 0, .int .i32 0, .int .i32 0]⟩) (.node (.node .leaf (some ⟨.st [(0, 1, false), (1, 1, false), (2, 1, false), (3, 1, false), (4, 1, false), (5, 1, false), (6, 1, false), (7, 1, false), (8, 1, false)], 9, 9, [.bool false, .bool false, .bool false, .bool false, .bool false, .bool false, .bool false, .bool false, .bool false]⟩) .leaf) none .leaf))))) none (.node (.node (.node (.node (.node .leaf none (.node .leaf (some ⟨.arr 3 192, 3, 24, [.nilp, .nilp, .nilp]⟩) .leaf)) none (.node (.node .leaf (some ⟨.arr 3 21, 3, 12, [.int .i32 0, .int .i32 0, .int .i32 0]⟩) .leaf) none .leaf)) none (.node .leaf (some ⟨.ptr, 1, 8, [.nilp]⟩) (.node .leaf (some ⟨.st [(0, 1, false), (1, 1, false)], 2, 16, [.bool false, .int .i64 0]⟩) .leaf))) (some ⟨.one, 1, 16, []⟩) (.node (.node .leaf none (.node .leaf (some ⟨.st [(0, 1, false), (1, 1, false), (2, 1, false)], 3, 24, [.int .i64 0, .int .i64 0, .int .i64 0]⟩) (.node .leaf (some ⟨.st [(0, 2, true), (2, 1, false), (3, 1, false)], 4, 32, [.int .i64 0, .int .i64 0, .int .i64 0, .int .i64 0]⟩) .leaf))) none (.node (.node .leaf (some ⟨.arr 8 3, 8, 64, [.int .i64 0, .int .i64 0, .int .i64 0, .int .i64 0, .int .i64 0, .int .i64 0, .int .i64 0, .int .i64 0]⟩) .leaf) none (.node .leaf (some ⟨.st [(0, 23, true), (23, 1, false), (24, 20, true), (44, 197, true), (241, 40, true), (281, 2, true), (283, 2, true), (285, 1, false), (286, 6, true), (292, 6, true), (298, 2, true), (300, 1, false), (301, 1, false), (302, 1, false), (303, 1, false), (304, 1, false), (305, 1, false), (306, 1, false), (307, 1, false)], 308, 2496, [.int .u32 0, .int .i64 0, .int .i64 0, .int .i64 0, .int .i64 0, .int .i64 0, .int .i64 0, .int .i64 0, .int .i64 0, .int .i64 0, .int .i64 0, .int .i64 0, .int .i64 0, .int .i64 0, .int .i64 0, .int .i64 0, .int .i64 0, .int .i64 0, .int .i64 0, .int .i64 0, .int .i64 0, .int .i64 0, .int .i64 0, .nilp, .int .u32 0, .int .i64 0, .int .i64 0, .int .i64 0, .bool false, .int .u16 0, .int .u32 0, .int .i64 0, .int .u32 0, .bool false, .int .i64 0, .bool false, .int .i64 0, .int .i64 0, .int .i64 0, .int .i64 0, .int .i64 0, .int .i64 0, .int .i64 0, .int .i64 0, .int .i64 0, .int .i64 0, .int .i64 0, .int .i64 0, .int .i64 0, .int .i64 0, .int .i64 0, .int .i64 0, .int .i64 0, .int .i64 0, .int .i64 0, .int .i64 0, .int .i64 0, .int .i64 0, .int .i64 0, .int .i64 0, .int .i64 0, .int .i64 0, .int .i64 0, .int .i64 0, .int .i64 0, .int .i64 0, .int .i64 0, .int .i64 0, .int .i64 0, .int .i64 0, .int .i64 0, .int .i64 0, .int .i64 0, .int .i64 0, .int .i64 0, .int .i64 0, .int .i64 0, .int .i64 0, .int .i64 0, .int .i64 0, .int .i64 0, .int .i64 0, .int .i64 0, .int .i64 0, .int .i64 0, .int .i64 0, .int .i64 0, .int .i64 0, .int .i64 0, .int .i64 0, .int .i64 0, .int .i64 0, .int .i64 0, .int .i64 0, .int .i64 0, .int .i64 0, .int .i64 0, .int .i64 0, .int .i64 0, .int .i64 0, .int .i64 0, .int .i64 0, .int .i64 0, .int .i64 0, .int .i64 0, .int .i64 0, .int .i64 0, .int .i64 0, .int .i64 0, .int .i64 0, .int .i64 0, .int .i64 0, .int .i64 0, .int .i64 0, .int .i64 0, .int .i64 0, .int .i64 0, .int .i64 0, .int .i64 0, .int .i64 0, .int .i64 0, .int .i64 0, .int .i64 0, .int .i64 0, .int .i64 0, .int .i64 0, .int .i64 0, .int .i64 0, .int .i64 0, .int .i64 0, .int .i64 0, .int .i64 0, .int .i64 0, .int .i64 0, .int .i64 0, .int .i64 0, .int .i64 0, .int .i64 0, .int .i64 0, .int .i64 0, .int .i64 0, .int .i64 0, .int .i64 0, .int .i64 0, .int .i64 0, .int .i64 0, .int .i64 0, .int .i64 0, .int .i64 0, .int .i64 0, .int .i64 0, .int .i64 0, .int .i64 0, .int .i64 0, .int .i64 0, .int .i64 0, .int .i64 0, .int .i64 0, .int .i64 0, .int .i64 0, .int .i64 0, .int .i64 0, .int .i64 0, .int .i64 0, .int .i64 0, .int .i64 0, .int .i64 0, .int .i64 0, .int .i64 0, .int .i64 0, .int .i64 0, .int .i64 0, .int .i64 0, .int .i64 0, .int .i64 0, .int .i64 0, .int .i64 0, .int .i64 0, .int .i64 0, .int .i64 0, .int .i64 0, .int .i64 0, .int .i64 0, .int .i64 0, .int .i64 0, .int .i64 0, .int .i64 0, .int .i64 0, .int .i64 0, .int .i64 0, .int .i64 0, .int .i64 0, .int .i64 0, .int .i64 0, .int .i64 0, .int .i64 0, .int .i64 0, .int .i64 0, .int .i64 0, .int .i64 0, .int .i64 0, .int .i64 0, .int .i64 0, .int .i64 0, .int .i64 0, .int .i64 0, .int .i64 0, .int .i64 0, .int .i64 0, .int .i64 0, .int .i64 0, .int .i64 0, .int .i64 0, .int .i64 0, .int .i64 0, .int .i64 0, .int .i64 0, .int .i64 0, .int .i64 0, .int .i64 0, .int .i64 0, .int .i64 0, .int .i64 0, .int .i64 0, .int .i64 0, .int .i64 0, .int .i64 0, .int .i64 0, .int .i64 0, .int .i64 0, .int .i64 0, .int .i64 0, .int .i64 0, .int .i64 0, .int .i64 0, .int .i64 0, .int .i64 0, .int .i64 0, .int .i64 0, .int .i64 0, .int .i64 0, .int .i64 0, .int .i64 0, .int .i64 0, .int .i64 0, .int .i64 0, .int .i64 0, .int .i64 0, .int .i64 0, .int .i64 0, .int .i64 0, .int .i64 0, .int .i64 0, .int .i64 0, .int .i64 0, .int .i64 0, .int .i64 0, .int .i64 0, .int .i64 0, .int .i64 0, .int .i64 0, .int .i64 0, .int .i64 0, .int .i64 0, .int .i64 0, .int .i64 0, .int .i64 0, .int .i64 0, .int .i64 0, .int .i64 0, .int .i64 0, .int .i64 0, .int .i64 0, .int .i64 0, .int .i64 0, .int .i64 0, .int .i64 0, .int .i64 0, .int .i64 0, .int .i64 0, .int .i64 0, .bool false, .int .i64 0, .int .i64 0, .int .i64 0, .int .i64 0, .int .i64 0, .int .i64 0, .int .i64 0, .int .i64 0, .int .i64 0, .nils, .int .i64 0, .int .i64 0, .int .i64 0, .int .i64 0, .int .i64 0, .nils, .int .i64 0, .int .i64 0, .int .i64 0, .bool false, .bool false, .int .u16 0, .int .u32 0, .nils, .nils, .nils]⟩) .leaf)))) (some ⟨.int .u8, 1, 1, [.int .u8 0]⟩) (.node (.node (.node (.node (.node (.node .leaf (some ⟨.ptr, 1, 8, [.nilp]⟩) .leaf) none .leaf) (some ⟨.sl 221, 1, 24, [.nils]⟩) .leaf) none (.node .leaf (some ⟨.arr 7 3, 7, 56, [.int .i64 0, .int .i64 0, .int .i64 0, .int .i64 0, .int .i64 0, .int .i64 0, .int .i64 0]⟩) .leaf)) (some ⟨.int .i32, 1, 4, [.int .i32 0]⟩) .leaf) none (.node (.node (.node .leaf (some ⟨.st [(0, 1, false), (1, 1, false)], 2, 16, [.int .i64 0, .int .i64 0]⟩) .leaf) none (.node (.node .leaf (some ⟨.arr 256 62, 256, 512, [.int .i16 0, .int .i16 0, .int .i16 0, .int .i16 0, .int .i16 0, .int .i16 0, .int .i16 0, .int .i16 0, .int .i16 0, .int .i16 0, .int .i16 0, .int .i16 0, .int .i16 0, .int .i16 0, .int .i16 0, .int .i16 0, .int .i16 0, .int .i16 0, .int .i16 0, .int .i16 0, .int .i16 0, .int .i16 0, .int .i16 0, .int .i16 0, .int .i16 0, .int .i16 0, .int .i16 0, .int .i16 0, .int .i16 0, .int .i16 0, .int .i16 0, .int .i16 0, .int .i16 0, .int .i16 0, .int .i16 0, .int .i16 0, .int .i16 0, .int .i16 0, .int .i16 0, .int .i16 0, .int .i16 0, .int .i16 0, .int .i16 0, .int .i16 0, .int .i16 0, .int .i16 0, .int .i16 0, .int .i16 0, .int .i16 0, .int .i16 0, .int .i16 0, .int .i16 0, .int .i16 0, .int .i16 0, .int .i16 0, .int .i16 0, .int .i16 0, .int .i16 0, .int .i16 0, .int .i16 0, .int .i16 0, .int .i16 0, .int .i16 0, .int .i16 0, .int .i16 0, .int .i16 0, .int .i16 0, .int .i16 0, .int .i16 0, .int .i16 0, .int .i16 0, .int .i16 0, .int .i16 0, .int .i16 0, .int .i16 0, .int .i16 0, .int .i16 0, .int .i16 0, .int .i16 0, .int .i16 0, .int .i16 0, .int .i16 0, .int .i16 0, .int .i16 0, .int .i16 0, .int .i16 0, .int .i16 0, .int .i16 0, .int .i16 0, .int .i16 0, .int .i16 0, .int .i16 0, .int .i16 0, .int .i16 0, .int .i16 0, .int .i16 0, .int .i16 0, .int .i16 0, .int .i16 0, .int .i16 0, .int .i16 0, .int .i16 0, .int .i16 0, .int .i16 0, .int .i16 0, .int .i16 0, .int .i16 0, .int .i16 0, .int .i16 0, .int .i16 0, .int .i16 0, .int .i16 0, .int .i16 0, .int .i16 0, .int .i16 0, .int .i16 0, .int .i16 0, .int .i16 0, .int .i16 0, .int .i16 0, .int .i16 0, .int .i16 0, .int .i16 0, .int .i16 0, .int .i16 0, .int .i16 0, .int .i16 0, .int .i16 0, .int .i16 0, .int .i16 0, .int .i16 0, .int .i16 0, .int .i16 0, .int .i16 0, .int .i16 0, .int .i16 0, .int .i16 0, .int .i16 0, .int .i16 0, .int .i16 0, .int .i16 0, .int .i16 0, .int .i16 0, .int .i16 0, .int .i16 0, .int .i16 0, .int .i16 0, .int .i16 0, .int .i16 0, .int .i16 0, .int .i16 0, .int .i16 0, .int .i16 0, .int .i16 0, .int .i16 0, .int .i16 0, .int .i16 0, .int .i16 0, .int .i16 0, .int .i16 0, .int .i16 0, .int .i16 0, .int .i16 0, .int .i16 0, .int .i16 0, .int .i16 0, .int .i16 0, .int .i16 0, .int .i16 0, .int .i16 0, .int .i16 0, .int .i16 0, .int .i16 0, .int .i16 0, .int .i16 0, .int .i16 0, .int .i16 0, .int .i16 0, .int .i16 0, .int .i16 0, .int .i16 0, .int .i16 0, .int .i16 0, .int .i16 0, .int .i16 0, .int .i16 0, .int .i16 0, .int .i16 0, .int .i16 0, .int .i16 0, .int .i16 0, .int .i16 0, .int .i16 0, .int .i16 0, .int .i16 0, .int .i16 0, .int .i16 0, .int .i16 0, .int .i16 0, .int .i16 0, .int .i16 0, .int .i16 0, .int .i16 0, .int .i16 0, .int .i16 0, .int .i16 0, .int .i16 0, .int .i16 0, .int .i16 0, .int .i16 0, .int .i16 0, .int .i16 0, .int .i16 0, .int .i16 0, .int .i16 0, .int .i16 0, .int .i16 0, .int .i16 0, .int .i16 0, .int .i16 0, .int .i16 0, .int .i16 0, .int .i16 0, .int .i16 0, .int .i16 0, .int .i16 0, .int .i16 0, .int .i16 0, .int .i16 0, .int .i16 0, .int .i16 0, .int .i16 0, .int .i16 0, .int .i16 0, .int .i16 0, .int .i16 0, .int .i16 0, .int .i16 0, .int .i16 0, .int .i16 0, .int .i16 0, .int .i16 0, .int .i16 0, .int .i16 0, .int .i16 0, .int .i16 0, .int .i16 0, .int .i16 0, .int .i16 0, .int .i16 0, .int .i16 0, .int .i16 0, .int .i16 0, .int .i16 0, .int .i16 0, .int .i16 0]⟩) .leaf) (some ⟨.arr 32 2, 32, 256, [.int .i64 0, .int .i64 0, .int .i64 0, .int .i64 0, .int .i64 0, .int .i64 0, .int .i64 0, .int .i64 0, .int .i64 0, .int .i64 0, .int .i64 0, .int .i64 0, .int .i64 0, .int .i64 0, .int .i64 0, .int .i64 0, .int .i64 0, .int .i64 0, .int .i64 0, .int .i64 0, .int .i64 0, .int .i64 0, .int .i64 0, .int .i64 0, .int .i64 0, .int .i64 0, .int .i64 0, .int .i64 0, .int .i64 0, .int .i64 0, .int .i64 0, .int .i64 0]⟩) (.node .leaf (some ⟨.st [(0, 1, false), (1, 1, false), (2, 1, false)], 3, 24, [.int .i64 0, .int .i64 0, .int .i64 0]⟩) .leaf))) none (.node (.node .leaf none (.node .leaf (some ⟨.st [(0, 1, false), (1, 6, true), (7, 1, false), (8, 1, false), (9, 1, false), (10, 1, false), (11, 5, true)], 16, 160, [.int .i64 0, .int .i64 0, .int .i64 0, .int .i64 0, .int .i64 0, .int .i64 0, .nils, .int .i64 0, .int .i64 0, .int .i64 0, .nils, .int .i64 0, .int .i64 0, .int .i64 0, .int .i64 0, .int .i64 0]⟩) .leaf)) none (.node .leaf (some ⟨.one, 1, 8, [.nilf]⟩) .leaf)))))) none (.node (.node (.node (.node (.node (.node .leaf none (.node (.node .leaf (some ⟨.arr 4 2, 4, 32, [.int .i64 0, .int .i64 0, .int .i64 0, .int .i64 0]⟩) .leaf) (some ⟨.ptr, 1, 8, [.nilp]⟩) .leaf)) (some ⟨.st [(0, 4, true), (4, 6, true), (10, 3, true), (13, 1, false), (14, 1, false), (15, 1, false), (16, 1, false), (17, 1, false), (18, 1, false), (19, 1, false), (20, 1, false), (21, 1, false), (22, 1, false)], 23, 184, [.int .u32 0, .int .i64 0, .int .i64 0, .int .i64 0, .int .i64 0, .int .i64 0, .int .i64 0, .int .i64 0, .int .i64 0, .int .i64 0, .int .i64 0, .int .i64 0, .int .i64 0, .int .i64 0, .int .i64 0, .int .i64 0, .int .i64 0, .int .i64 0, .int .i64 0, .int .i64 0, .int .i64 0, .int .i64 0, .int .i64 0]⟩) (.node (.node (.node .leaf (some ⟨.one, 1, 8, [.nilf]⟩) .leaf) none .leaf) none .leaf)) none (.node (.node (.node (.node .leaf (some ⟨.arr 2 2, 2, 16, [.int .i64 0, .int .i64 0]⟩) .leaf) none .leaf) none .leaf) none (.node (.node .leaf (some ⟨.arr 32 175, 8288, 17152, []⟩) .leaf) none .leaf))) none (.node (.node (.node .leaf none (.node .leaf (some ⟨.st [(0, 1, false), (1, 1, false), (2, 1, false)], 3, 40, [.nils, .int .i64 0, .bool false]⟩) .leaf)) none .leaf) (some ⟨.int .u32, 1, 4, [.int .u32 0]⟩) (.node (.node .leaf (some ⟨.st [(0, 1, false), (1, 1, false)], 2, 32, [.nils, .int .i64 0]⟩) .leaf) none .leaf))) (some ⟨.bool, 1, 1, [.bool false]⟩) (.node (.node (.node .leaf none (.node .leaf (some ⟨.ptr, 1, 8, [.nilp]⟩) .leaf)) none (.node (.node (.node (.node .leaf (some ⟨.st [(0, 1, false), (1, 1, false), (2, 1, false)], 3, 24, [.int .i64 0, .int .i64 0, .int .i64 0]⟩) .leaf) none .leaf) none .leaf) none (.node .leaf (some ⟨.st [(0, 1, false), (1, 1, false), (2, 1, false), (3, 1, false), (4, 1, false), (5, 1, false)], 6, 64, [.int .i64 0, .int .i64 0, .int .i64 0, .int .i64 0, .int .i64 0, .nils]⟩) .leaf))) none (.node (.node (.node (.node .leaf (some ⟨.sl 21, 1, 24, [.nils]⟩) .leaf) none .leaf) (some ⟨.st [(0, 3, true), (3, 1, false), (4, 1, false), (5, 1, false)], 6, 56, [.int .i64 0, .int .i64 0, .nils, .int .i64 0, .int .i32 0, .int .i32 0]⟩) (.node .leaf (some ⟨.st [(0, 192, true), (192, 1, false), (193, 1, false), (194, 1, false), (195, 1, false), (196, 1, false)], 197, 1576, [.int .i64 0, .int .i64 0, .int .i64 0, .int .i64 0, .int .i64 0, .int .i64 0, .int .i64 0, .int .i64 0, .int .i64 0, .int .i64 0, .int .i64 0, .int .i64 0, .int .i64 0, .int .i64 0, .int .i64 0, .int .i64 0, .int .i64 0, .int .i64 0, .int .i64 0, .int .i64 0, .int .i64 0, .int .i64 0, .int .i64 0, .int .i64 0, .int .i64 0, .int .i64 0, .int .i64 0, .int .i64 0, .int .i64 0, .int .i64 0, .int .i64 0, .int .i64 0, .int .i64 0, .int .i64 0, .int .i64 0, .int .i64 0, .int .i64 0, .int .i64 0, .int .i64 0, .int .i64 0, .int .i64 0, .int .i64 0, .int .i64 0, .int .i64 0, .int .i64 0, .int .i64 0, .int .i64 0, .int .i64 0, .int .i64 0, .int .i64 0, .int .i64 0, .int .i64 0, .int .i64 0, .int .i64 0, .int .i64 0, .int .i64 0, .int .i64 0, .int .i64 0, .int .i64 0, .int .i64 0, .int .i64 0, .int .i64 0, .int .i64 0, .int .i64 0, .int .i64 0, .int .i64 0, .int .i64 0, .int .i64 0, .int .i64 0, .int .i64 0, .int .i64 0, .int .i64 0, .int .i64 0, .int .i64 0, .int .i64 0, .int .i64 0, .int .i64 0, .int .i64 0, .int .i64 0, .int .i64 0, .int .i64 0, .int .i64 0, .int .i64 0, .int .i64 0, .int .i64 0, .int .i64 0, .int .i64 0, .int .i64 0, .int .i64 0, .int .i64 0, .int .i64 0, .int .i64 0, .int .i64 0, .int .i64 0, .int .i64 0, .int .i64 0, .int .i64 0, .int .i64 0, .int .i64 0, .int .i64 0, .int .i64 0, .int .i64 0, .int .i64 0, .int .i64 0, .int .i64 0, .int .i64 0, .int .i64 0, .int .i64 0, .int .i64 0, .int .i64 0, .int .i64 0, .int .i64 0, .int .i64 0, .int .i64 0, .int .i64 0, .int .i64 0, .int .i64 0, .int .i64 0, .int .i64 0, .int .i64 0, .int .i64 0, .int .i64 0, .int .i64 0, .int .i64 0, .int .i64 0, .int .i64 0, .int .i64 0, .int .i64 0, .int .i64 0, .int .i64 0, .int .i64 0, .int .i64 0, .int .i64 0, .int .i64 0, .int .i64 0, .int .i64 0, .int .i64 0, .int .i64 0, .int .i64 0, .int .i64 0, .int .i64 0, .int .i64 0, .int .i64 0, .int .i64 0, .int .i64 0, .int .i64 0, .int .i64 0, .int .i64 0, .int .i64 0, .int .i64 0, .int .i64 0, .int .i64 0, .int .i64 0, .int .i64 0, .int .i64 0, .int .i64 0, .int .i64 0, .int .i64 0, .int .i64 0, .int .i64 0, .int .i64 0, .int .i64 0, .int .i64 0, .int .i64 0, .int .i64 0, .int .i64 0, .int .i64 0, .int .i64 0, .int .i64 0, .int .i64 0, .int .i64 0, .int .i64 0, .int .i64 0, .int .i64 0, .int .i64 0, .int .i64 0, .int .i64 0, .int .i64 0, .int .i64 0, .int .i64 0, .int .i64 0, .int .i64 0, .int .i64 0, .int .i64 0, .int .i64 0, .int .i64 0, .int .i64 0, .int .i64 0, .int .i64 0, .int .i64 0, .int .i64 0, .int .i64 0, .int .i64 0, .int .i64 0, .int .i64 0, .int .i64 0, .int .i64 0]⟩) .leaf)) (some ⟨.st [(0, 1, false), (1, 1, false), (2, 1, false), (3, 1, false), (4, 1, false), (5, 1, false)], 6, 48, [.int .i64 0, .int .i64 0, .int .i64 0, .int .i64 0, .int .i64 0, .int .i64 0]⟩) (.node (.node .leaf (some ⟨.sl 3, 1, 24, [.nils]⟩) .leaf) none .leaf)))) (some ⟨.int .i64, 1, 8, [.int .i64 0]⟩) (.node (.node (.node (.node .leaf (some ⟨.st [(0, 1, false), (1, 1, false)], 2, 16, [.int .i64 0, .int .i64 0]⟩) .leaf) none (.node (.node (.node .leaf (some ⟨.int .u64, 1, 8, [.int .u64 0]⟩) .leaf) none (.node .leaf (some ⟨.ptr, 1, 8, [.nilp]⟩) .leaf)) none (.node (.node .leaf (some ⟨.st [(0, 1, false), (1, 8, true), (9, 8288, true), (8297, 1, false), (8298, 1, false), (8299, 1, false), (8300, 1, false)], 8301, 17312, (cat [.nils, .int .i64 0, .int .i64 0, .nils, .int .i64 0, .int .i32 0, .int .i32 0, .nils, .nils] (repL 32 (cat [.int .i64 0, .int .i64 0] (rep 256 (.int .i16 0) [.int .i64 0])) [.int .i64 0, .int .i64 0, .int .i64 0, .int .i64 0]))⟩) .leaf) (some ⟨.sl 2, 1, 24, [.nils]⟩) .leaf))) none (.node (.node (.node .leaf (some ⟨.sl 77, 1, 24, [.nils]⟩) .leaf) (some ⟨.st [(0, 1, false), (1, 1, false), (2, 1, false)], 3, 40, [.int .i64 0, .int .i64 0, .nils]⟩) (.node .leaf (some ⟨.arr 64 105, 192, 1536, [.int .i64 0, .int .i64 0, .int .i64 0, .int .i64 0, .int .i64 0, .int .i64 0, .int .i64 0, .int .i64 0, .int .i64 0, .int .i64 0, .int .i64 0, .int .i64 0, .int .i64 0, .int .i64 0, .int .i64 0, .int .i64 0, .int .i64 0, .int .i64 0, .int .i64 0, .int .i64 0, .int .i64 0, .int .i64 0, .int .i64 0, .int .i64 0, .int .i64 0, .int .i64 0, .int .i64 0, .int .i64 0, .int .i64 0, .int .i64 0, .int .i64 0, .int .i64 0, .int .i64 0, .int .i64 0, .int .i64 0, .int .i64 0, .int .i64 0, .int .i64 0, .int .i64 0, .int .i64 0, .int .i64 0, .int .i64 0, .int .i64 0, .int .i64 0, .int .i64 0, .int .i64 0, .int .i64 0, .int .i64 0, .int .i64 0, .int .i64 0, .int .i64 0, .int .i64 0, .int .i64 0, .int .i64 0, .int .i64 0, .int .i64 0, .int .i64 0, .int .i64 0, .int .i64 0, .int .i64 0, .int .i64 0, .int .i64 0, .int .i64 0, .int .i64 0, .int .i64 0, .int .i64 0, .int .i64 0, .int .i64 0, .int .i64 0, .int .i64 0, .int .i64 0, .int .i64 0, .int .i64 0, .int .i64 0, .int .i64 0, .int .i64 0, .int .i64 0, .int .i64 0, .int .i64 0, .int .i64 0, .int .i64 0, .int .i64 0, .int .i64 0, .int .i64 0, .int .i64 0, .int .i64 0, .int .i64 0, .int .i64 0, .int .i64 0, .int .i64 0, .int .i64 0, .int .i64 0, .int .i64 0, .int .i64 0, .int .i64 0, .int .i64 0, .int .i64 0, .int .i64 0, .int .i64 0, .int .i64 0, .int .i64 0, .int .i64 0, .int .i64 0, .int .i64 0, .int .i64 0, .int .i64 0, .int .i64 0, .int .i64 0, .int .i64 0, .int .i64 0, .int .i64 0, .int .i64 0, .int .i64 0, .int .i64 0, .int .i64 0, .int .i64 0, .int .i64 0, .int .i64 0, .int .i64 0, .int .i64 0, .int .i64 0, .int .i64 0, .int .i64 0, .int .i64 0, .int .i64 0, .int .i64 0, .int .i64 0, .int .i64 0, .int .i64 0, .int .i64 0, .int .i64 0, .int .i64 0, .int .i64 0, .int .i64 0, .int .i64 0, .int .i64 0, .int .i64 0, .int .i64 0, .int .i64 0, .int .i64 0, .int .i64 0, .int .i64 0, .int .i64 0, .int .i64 0, .int .i64 0, .int .i64 0, .int .i64 0, .int .i64 0, .int .i64 0, .int .i64 0, .int .i64 0, .int .i64 0, .int .i64 0, .int .i64 0, .int .i64 0, .int .i64 0, .int .i64 0, .int .i64 0, .int .i64 0, .int .i64 0, .int .i64 0, .int .i64 0, .int .i64 0, .int .i64 0, .int .i64 0, .int .i64 0, .int .i64 0, .int .i64 0, .int .i64 0, .int .i64 0, .int .i64 0, .int .i64 0, .int .i64 0, .int .i64 0, .int .i64 0, .int .i64 0, .int .i64 0, .int .i64 0, .int .i64 0, .int .i64 0, .int .i64 0, .int .i64 0, .int .i64 0, .int .i64 0, .int .i64 0, .int .i64 0, .int .i64 0, .int .i64 0, .int .i64 0, .int .i64 0, .int .i64 0, .int .i64 0]⟩) (.node .leaf (some ⟨.sl 105, 1, 24, [.nils]⟩) .leaf))) (some ⟨.st [(0, 1, false), (1, 1, false), (2, 1, false), (3, 1, false)], 4, 32, [.int .u32 0, .int .i64 0, .int .i64 0, .int .i64 0]⟩) .leaf)) none (.node (.node (.node (.node .leaf none (.node (.node .leaf (some ⟨.one, 1, 8, [.nilf]⟩) .leaf) none .leaf)) (some ⟨.int .i64, 1, 8, [.int .i64 0]⟩) (.node .leaf none (.node .leaf (some ⟨.ptr, 1, 8, [.nilp]⟩) .leaf))) (some ⟨.sl 62, 1, 24, [.nils]⟩) (.node .leaf (some ⟨.sl 59, 1, 24, [.nils]⟩) (.node .leaf (some ⟨.st [(0, 1, false), (1, 1, false)], 2, 16, [.int .i64 0, .int .i64 0]⟩) .leaf))) none (.node (.node .leaf (some ⟨.ptr, 1, 8, [.nilp]⟩) .leaf) (some ⟨.st [(0, 1, false), (1, 1, false), (2, 1, false)], 3, 24, [.int .i64 0, .int .i64 0, .int .i64 0]⟩) (.node (.node .leaf (some ⟨.st [(0, 6, true), (6, 1, false), (7, 1, false)], 8, 104, [.int .i64 0, .int .i64 0, .nils, .int .i64 0, .int .i32 0, .int .i32 0, .nils, .nils]⟩) (.node (.node .leaf (some ⟨.arr 16 2, 16, 128, [.int .i64 0, .int .i64 0, .int .i64 0, .int .i64 0, .int .i64 0, .int .i64 0, .int .i64 0, .int .i64 0, .int .i64 0, .int .i64 0, .int .i64 0, .int .i64 0, .int .i64 0, .int .i64 0, .int .i64 0, .int .i64 0]⟩) .leaf) none .leaf)) (some ⟨.int .i16, 1, 2, [.int .i16 0]⟩) .leaf))))))
end Go.Ev
end
section
namespace Go.Ev
open Go
inductive X where
 | normal
 | exit (id : Nat)
 | ret
abbrev Res := Option (AV × H)
abbrev KV := AV → H → Res
abbrev Hd := T AV → H → KV → Res
noncomputable def bindV (o : Option AV) (f : AV → Res) : Res := Option.rec (motive := fun _ => (AV → Res) → Res) (fun _ => none) (fun v f => f v) o f
noncomputable def bindT (o : Option TI) (f : TI → Res) : Res := Option.rec (motive := fun _ => (TI → Res) → Res) (fun _ => none) (fun v f => f v) o f
noncomputable def bindB (o : Option AB) (f : AB → Res) : Res := Option.rec (motive := fun _ => (AB → Res) → Res) (fun _ => none) (fun v f => f v) o f
noncomputable def when_ (b : Bool) (r : Res) : Res := Bool.rec (motive := fun _ => Res → Res) (fun _ => none) (fun r => r) b r
noncomputable def ifB (b : Bool) (x y : Res) : Res := Bool.rec (motive := fun _ => Res → Res → Res) (fun _ y => y) (fun x _ => x) b x y
noncomputable def forceK (a : Nat) (f : Nat → Res) : Res := Nat.rec (motive := fun _ => (Nat → Res) → Res) (fun f => f 0) (fun p _ f => f (Nat.succ p)) a f
noncomputable def forceC (b : Bool) (h : H) (k : KV) : Res := Bool.rec (motive := fun _ => H → KV → Res) (fun h k => k (.bool false) h) (fun h k => k (.bool true) h) b h k
section elim
abbrev EI := (IntKind → Nat → Res) → Res
noncomputable def elimInt (v : AV) (f : IntKind → Nat → Res) : Res :=
 AV.rec (motive_1 := fun _ => EI) (motive_2 := fun _ => Unit) (fun k u f => f k u) (fun _ _ => none) (fun _ _ _ => none) (fun _ => none) (fun _ _ _ _ _ => none) (fun _ _ _ => none) (fun _ => none) (fun _ _ _ _ _ _ => none) (fun _ _ => none) (fun _ _ _ => none) (fun _ _ _ => none) (fun _ => none) (fun _ _ _ _ _ _ => none) () (fun _ _ _ _ => ()) v f
abbrev EP := (Q → Nat → Res) → Res
noncomputable def elimPtr (v : AV) (f : Q → Nat → Res) : Res :=
 AV.rec (motive_1 := fun _ => EP) (motive_2 := fun _ => Unit) (fun _ _ _ => none) (fun _ _ => none) (fun b o f => f b o) (fun _ => none) (fun _ _ _ _ _ => none) (fun _ _ _ => none) (fun _ => none) (fun _ _ _ _ _ _ => none) (fun _ _ => none) (fun _ _ _ => none) (fun _ _ _ => none) (fun _ => none) (fun _ _ _ _ _ _ => none) () (fun _ _ _ _ => ()) v f
noncomputable def elimBool (v : AV) (x y : Res) : Res :=
 AV.rec (motive_1 := fun _ => Res → Res → Res) (motive_2 := fun _ => Unit) (fun _ _ _ _ => none) (fun b x y => ifB b x y) (fun _ _ _ _ => none) (fun _ _ => none) (fun _ _ _ _ _ _ => none) (fun _ _ _ _ => none) (fun _ _ => none) (fun _ _ _ _ _ _ _ => none) (fun _ _ _ => none) (fun _ _ _ _ => none) (fun _ _ _ _ => none) (fun _ _ => none) (fun _ _ _ _ _ _ _ => none) () (fun _ _ _ _ => ()) v x y
abbrev ER := (Nat → Option (Q × Nat) → Res) → Res
noncomputable def elimRow (v : AV) (f : Nat → Option (Q × Nat) → Res) : Res :=
 AV.rec (motive_1 := fun _ => ER) (motive_2 := fun _ => Unit) (fun _ _ _ => none) (fun _ _ => none) (fun _ _ _ => none) (fun _ => none) (fun b o n _ f => f n (some (b, o))) (fun b n f => f n (some (b, 0))) (fun f => f 0 none) (fun _ _ _ _ _ _ => none) (fun _ _ => none) (fun _ _ _ => none) (fun _ _ _ => none) (fun _ => none) (fun _ _ _ _ _ f => f 0 none) () (fun _ _ _ _ => ()) v f
abbrev EL := (List AV → Res) → Res
noncomputable def elimTup (v : AV) (f : List AV → Res) : Res :=
 AV.rec (motive_1 := fun _ => EL) (motive_2 := fun _ => Unit) (fun _ _ _ => none) (fun _ _ => none) (fun _ _ _ => none) (fun _ => none) (fun _ _ _ _ _ => none) (fun _ _ _ => none) (fun _ => none) (fun _ _ _ _ _ _ => none) (fun _ _ => none) (fun _ _ _ => none) (fun vs _ f => f vs) (fun _ => none) (fun _ _ _ _ _ _ => none) () (fun _ _ _ _ => ()) v f
noncomputable def elimAgg (v : AV) (f : List AV → Res) : Res :=
 AV.rec (motive_1 := fun _ => EL) (motive_2 := fun _ => Unit) (fun _ _ _ => none) (fun _ _ => none) (fun _ _ _ => none) (fun _ => none) (fun _ _ _ _ _ => none) (fun _ _ _ => none) (fun _ => none) (fun _ _ _ _ _ _ => none) (fun _ _ => none) (fun vs _ f => f vs) (fun _ _ _ => none) (fun _ => none) (fun _ _ _ _ _ _ => none) () (fun _ _ _ _ => ()) v f
noncomputable def elimFn (v : AV) (f : Nat → List AV → List AV → Res) (g : Q → Res) : Res :=
 AV.rec (motive_1 := fun _ => (Nat → List AV → List AV → Res) → (Q → Res) → Res) (motive_2 := fun _ => Unit) (fun _ _ _ _ => none) (fun _ _ _ => none) (fun _ _ _ _ => none) (fun _ _ => none) (fun _ _ _ _ _ _ => none) (fun _ _ _ _ => none) (fun _ _ => none) (fun n a b _ _ f _ => f n a b) (fun l _ g => g l) (fun _ _ _ _ => none) (fun _ _ _ _ => none) (fun _ _ => none) (fun _ _ _ _ _ _ _ => none) () (fun _ _ _ _ => ()) v f g
abbrev EC := (Nat → Option (Nat × Nat) → T AV → Res) → Res
noncomputable def elimCells (b : AB) (f : Nat → Option (Nat × Nat) → T AV → Res) : Res := AB.rec (motive := fun _ => EC) (fun n s t f => f n s t) (fun _ _ _ _ _ _ _ => none) (fun _ => none) b f
end elim
def encV (v : Value) : Option AV := match v with
 | .int k n => if ofU k (toU k n) = n then some (.int k (toU k n)) else none
 | .bool b => some (.bool b)
 | .pointer none => some .nilp
 | .nilFunc => some .nilf
 | .slice none n c => cond (Nat.beq n 0 && Nat.beq c 0) (some .nils) none
 | _ => none
noncomputable def look (s : T AV) (x : Operand) : Option AV :=
 Operand.rec (motive := fun _ => T AV → Option AV) (fun t s => s.get (qOf t)) (fun v _ => encV v) (fun _ _ => none) (fun f _ => some (.fn f [] [])) x s
noncomputable def lookK (s : T AV) (x : Operand) (f : AV → Res) : Res := bindV (look s x) f
noncomputable def lookI (s : T AV) (x : Operand) (f : IntKind → Nat → Res) : Res := bindV (look s x) fun v => elimInt v f
noncomputable def lookP (s : T AV) (x : Operand) (f : Q → Nat → Res) : Res := bindV (look s x) fun v => elimPtr v f
noncomputable def lookL (xs : List Operand) (s : T AV) (k : List AV → Res) : Res :=
 List.rec (motive := fun _ => T AV → (List AV → Res) → Res) (fun _ k => k []) (fun x _ ih s k => lookK s x fun v => ih s fun vs => k (v :: vs)) xs s k
noncomputable def cellsK (v : AV) (f : List AV → Res) : Res :=
 AV.rec (motive_1 := fun _ => (List AV → Res) → Res) (motive_2 := fun _ => Unit) (fun k u f => f [.int k u]) (fun b f => f [.bool b]) (fun b o f => f [.ptr b o]) (fun f => f [.nilp]) (fun b o n c f => f [.sl b o n c]) (fun b n f => f [.slk b n]) (fun f => f [.nils]) (fun n a b _ _ f => f [.fn n a b]) (fun l f => f [.yld l]) (fun cs _ f => f cs) (fun _ _ _ => none) (fun f => f [.nilf]) (fun b o l z m f => f [.tail b o l z m]) () (fun _ _ _ _ => ()) v f
noncomputable def cellAt (t : T AV) (o : Nat) : Option AV := t.get (qOf o)
noncomputable def loadL (n : Nat) (o : Nat) (t : T AV) (k : List AV → Res) : Res :=
 Nat.rec (motive := fun _ => Nat → T AV → (List AV → Res) → Res) (fun _ _ k => k []) (fun _ ih o t k => bindV (cellAt t o) fun v => ih (Nat.add o 1) t fun vs => k (v :: vs)) n o t k
noncomputable def storeL (vs : List AV) (o : Nat) (t : T AV) : T AV :=
 List.rec (motive := fun _ => Nat → T AV → T AV) (fun _ t => t) (fun v _ ih o t => ih (Nat.add o 1) (t.put (some v) (qOf o))) vs o t
noncomputable def treeOf (vs : List AV) : T AV := storeL vs 0 .leaf
def setAt (cs vs : List AV) (o : Nat) : List AV := (cs.take o) ++ vs ++ (cs.drop (o + vs.length))
def repl (n : Nat) (z : List AV) : List AV := (List.range n).flatMap fun _ => z
def isAggD : D → Bool
 | .st _ => true
 | .arr _ _ => true
 | _ => false
noncomputable def ti (t : Nat) (f : TI → Res) : Res := bindT (tt.get (qB t)) f
noncomputable def cellsB (h : H) (b : Q) (f : Nat → Option (Nat × Nat) → T AV → Res) : Res := bindB (h.t.get b) fun x => elimCells x f
noncomputable def setB (h : H) (b : Q) (x : Option AB) : H := ⟨h.t.put x b, h.n⟩
noncomputable def newB (h : H) (b : AB) : H := ⟨h.t.put (some b) h.n, h.n.succ⟩
noncomputable def fillL (parts : List (Nat × Operand)) (s : T AV) (place : Nat → Option (Nat × Nat)) (cs : List AV) (k : List AV → Res) : Res :=
 List.rec (motive := fun _ => List AV → Res) (fun cs => k cs) (fun p _ ih cs => match place p.1 with
  | some (off, size) => lookK s p.2 fun v => cellsK v fun vs => when_ (Nat.beq vs.length size && Nat.ble (Nat.add off size) cs.length) (ih (setAt cs vs off))
  | none => none) parts cs
noncomputable def hMove (x : Operand) : Hd := fun s h k => lookK s x fun v => k v h
noncomputable def hPick (c a b : Operand) : Hd := fun s h k => lookK s c fun c => elimBool c (lookK s a fun v => k v h) (lookK s b fun v => k v h)
def zOk (i : TI) : Bool := Nat.beq i.zero.length i.size && Nat.blt 0 i.size
abbrev KF := (Q → AV) → AB → Res
def mkPtr (id : Q) : AV := .ptr id 0
def mkRow (n : Nat) (id : Q) : AV := .slk id n
noncomputable def laid (h : H) (k : KV) : KF := fun mk b => k (mk h.n) (newB h b)
noncomputable def fAlloc (e : Nat) (s : T AV) (k : KF) : Res := ti e fun i => when_ (zOk i) (k mkPtr (.cells i.zero.length none (treeOf i.zero)))
noncomputable def fBox (e : Nat) (x : Operand) (s : T AV) (k : KF) : Res := lookK s x fun v => cellsK v fun vs => k mkPtr (.cells vs.length none (treeOf vs))
noncomputable def hAlloc (e : Nat) : Hd := fun s h k => fAlloc e s (laid h k)
noncomputable def hBox (e : Nat) (x : Operand) : Hd := fun s h k => fBox e x s (laid h k)
def placeSt (fs : List (Nat × Nat × Bool)) (j : Nat) : Option (Nat × Nat) := match fs[j]? with
 | some f => some (f.1, f.2.1)
 | none => none
def placeAr (size : Nat) (j : Nat) : Option (Nat × Nat) := some (j * size, size)
noncomputable def hBuild (t : Nat) (parts : Array (Nat × Operand)) : Hd := fun s h k => ti t fun i => match i.d with
 | .st fs => when_ (zOk i) (fillL parts.toList s (placeSt fs) i.zero fun cs => k (.agg cs) h)
 | .arr _ e => when_ (zOk i) (ti e fun ei => fillL parts.toList s (placeAr ei.size) i.zero fun cs => k (.agg cs) h)
 | _ => none
noncomputable def fBuildSlice (t len : Nat) (parts : Array (Nat × Operand)) (s : T AV) (k : KF) : Res := ti t fun i => match i.d with
 | .sl e => ti e fun ei => when_ (zOk ei && Nat.ble len 1000) (fillL parts.toList s (placeAr ei.size) (repl len ei.zero) fun cs => k (mkRow len) (.cells cs.length (some (ei.size, e)) (treeOf cs)))
 | _ => none
noncomputable def hBuildSlice (t len : Nat) (parts : Array (Nat × Operand)) : Hd := fun s h k => fBuildSlice t len parts s (laid h k)
noncomputable def hLoad (t : Nat) (a : Operand) : Hd := fun s h k => ti t fun i => lookP s a fun b o => cellsB h b fun _ _ c => ifB (isAggD i.d) (loadL i.size o c fun vs => k (.agg vs) h) (bindV (cellAt c o) fun v => k v h)
noncomputable def hStore (t : Nat) (a x : Operand) : Hd := fun s h k => ti t fun i => lookP s a fun b o => lookK s x fun v => cellsB h b fun n sz c => cellsK v fun vs =>
 when_ (Nat.beq vs.length i.size && Nat.ble (Nat.add o i.size) n) (k (.tup []) (setB h b (some (.cells n sz (storeL vs o c)))))
noncomputable def hNil (x : Operand) : Hd := fun s h k => lookK s x fun v => match v with
 | .ptr b o => k (.ptr b o) h
 | .fn f a b => k (.fn f a b) h
 | _ => none
abbrev HB := IntKind → Nat → IntKind → Nat → H → KV → Res
noncomputable def outI (k : IntKind) (u : Nat) (h : H) (f : KV) : Res := forceK u fun u => f (.int k u) h
noncomputable def bAdd : HB := fun k a _ b h f => outI k (Nat.mod (Nat.add a b) (M k)) h f
noncomputable def bSub : HB := fun k a _ b h f => outI k (Nat.mod (Nat.add a (Nat.sub (M k) b)) (M k)) h f
noncomputable def bMul : HB := fun k a _ b h f => outI k (Nat.mod (Nat.mul a b) (M k)) h f
noncomputable def bQuo : HB := fun k a _ b h f => ifB (Nat.beq b 0) none (outI k (signed k (xor (isNeg k a) (isNeg k b)) (Nat.div (mag k a) (mag k b))) h f)
noncomputable def bRem : HB := fun k a _ b h f => ifB (Nat.beq b 0) none (outI k (signed k (isNeg k a) (Nat.mod (mag k a) (mag k b))) h f)
noncomputable def bAnd : HB := fun k a _ b h f => outI k (Nat.land a b) h f
noncomputable def bOr : HB := fun k a _ b h f => outI k (Nat.lor a b) h f
noncomputable def bXor : HB := fun k a _ b h f => outI k (Nat.xor a b) h f
noncomputable def bShl : HB := fun k a k' b h f => ifB (isNeg k' b) none (outI k (Nat.mod (Nat.shiftLeft a (minN b (bitsOf k))) (M k)) h f)
noncomputable def bShr : HB := fun k a k' b h f => ifB (isNeg k' b) none (outI k (shrU k a (minN b (bitsOf k))) h f)
noncomputable def bNo : HB := fun _ _ _ _ _ _ => none
noncomputable def bEql : HB := fun _ a _ b h f => forceC (Nat.beq a b) h f
noncomputable def bNeq : HB := fun _ a _ b h f => forceC (not (Nat.beq a b)) h f
noncomputable def bLss : HB := fun k a _ b h f => forceC (ltU k a b) h f
noncomputable def bLeq : HB := fun k a _ b h f => forceC (leU k a b) h f
noncomputable def bGtr : HB := fun k a _ b h f => forceC (ltU k b a) h f
noncomputable def bGeq : HB := fun k a _ b h f => forceC (leU k b a) h f
noncomputable def binI (op : BinOp) : HB := BinOp.rec (motive := fun _ => HB) bAdd bSub bMul bQuo bRem bAnd bOr bXor bShl bShr bNo bEql bNeq bLss bLeq bGtr bGeq op
noncomputable def bin2 (t : Nat) (op : BinOp) (v w : AV) (h : H) (k : KV) : Res := ti t fun i => match i.d, v, w with
 | .bool, .bool a, .bool b => (match op with
  | .eql => k (.bool (a == b)) h
  | .neq => k (.bool (!(a == b))) h
  | _ => none)
 | .ptr, .ptr _ _, .nilp => (match op with
  | .eql => k (.bool false) h
  | .neq => k (.bool true) h
  | _ => none)
 | .sl _, .slk _ _, .nils => (match op with
  | .eql => k (.bool false) h
  | .neq => k (.bool true) h
  | _ => none)
 | .st _, .agg [.int .i64 a, .int .i64 b], .agg [.int .i64 c, .int .i64 e] => when_ (Nat.beq t 34) (match op with
  | .eql => forceC (Nat.beq a c && Nat.beq b e) h k
  | _ => none)
 | .st _, .agg [.int .i64 a, .int .u64 b], .agg [.int .i64 c, .int .u64 e] => when_ (Nat.beq t 247) (match op with
  | .eql => forceC (Nat.beq a c && Nat.beq b e) h k
  | _ => none)
 | _, _, _ => none
noncomputable def isIntV (v : AV) : Bool :=
 AV.rec (motive_1 := fun _ => Bool) (motive_2 := fun _ => Unit) (fun _ _ => true) (fun _ => false) (fun _ _ => false) false (fun _ _ _ _ => false) (fun _ _ => false) false (fun _ _ _ _ _ => false) (fun _ => false) (fun _ _ => false) (fun _ _ => false) false (fun _ _ _ _ _ => false) () (fun _ _ _ _ => ()) v
def kOk (op : BinOp) (k1 k2 : IntKind) : Bool := match op with
 | .shl => true
 | .shr => true
 | _ => kindEq k1 k2
noncomputable def hBin (op : BinOp) (t : Nat) (x y : Operand) (ty : Nat) : Hd := fun s h k => lookK s x fun v => lookK s y fun w => ifB (isIntV v) (elimInt v fun k1 a => elimInt w fun k2 b => when_ (kOk op k1 k2) (binI op k1 a k2 b h k)) (bin2 t op v w h k)
noncomputable def hUn (op : UnOp) (t : Nat) (x : Operand) : Hd := fun s h k => lookK s x fun v => match op, v with
  | .not, .bool b => forceC (!b) h k
  | .neg, .int kd u => outI kd (Nat.mod (Nat.sub (M kd) u) (M kd)) h k
  | .xor, .int kd u => outI kd (Nat.sub (Nat.sub (M kd) 1) u) h k
  | _, _ => none
noncomputable def hConv (t d : Nat) (x : Operand) : Hd := fun s h k => ti d fun i => match i.d with
 | .int kd => lookI s x fun ks u => ifB (isNeg ks u) (outI kd (Nat.mod (Nat.add u (Nat.sub 18446744073709551616 (M ks))) (M kd)) h k) (outI kd (Nat.mod u (M kd)) h k)
 | _ => none
noncomputable def hMakeFunc (fn : Go.Fn) (first caps : Array Operand) : Hd := fun s h k => match fn with
  | .func f => lookL first.toList s fun a => lookL caps.toList s fun b => k (.fn f a b) h
  | _ => none
noncomputable def fMakeSlice (t : Nat) (l c : Operand) (s : T AV) (k : KF) : Res := ti t fun i => match i.d with
 | .sl e => ti e fun ei => lookI s l fun lk l => lookI s c fun ck c => when_ (zOk ei && Nat.ble ei.bytes 4096 && !(isNeg lk l) && !(isNeg ck c) && Nat.ble l c && Nat.ble c 100000) (k (mkRow l) (.cells (repl c ei.zero).length (some (ei.size, e)) (treeOf (repl c ei.zero))))
 | _ => none
noncomputable def hMakeSlice (t : Nat) (l c : Operand) : Hd := fun s h k => fMakeSlice t l c s (laid h k)
noncomputable def bound (s : T AV) (y : Option Operand) (d : Nat) (f : Nat → Res) : Res := match y with
 | none => f d
 | some y => lookI s y fun kd u => ifB (isNeg kd u) none (f u)
def rowIs (row : Option (Nat × Nat)) (size e : Nat) : Bool := match row with
 | some (a, b) => Nat.beq a size && Nat.beq b e
 | none => false
noncomputable def hSlice (t : Nat) (x : Operand) (lo hi mx : Option Operand) : Hd := fun s h k => ti t fun i => lookK s x fun v => match mx, i.d, v with
 | none, .sl e, .sl b o n c => ti e fun ei => bound s lo 0 fun l => bound s hi n fun hh => ifB (Nat.blt c UNK)
   (when_ (Nat.ble l hh && Nat.ble hh c) (forceK (cond (Nat.beq l c) o (Nat.add o (Nat.mul l ei.size))) fun o' => forceK (Nat.sub hh l) fun n' => forceK (Nat.sub c l) fun c' => k (.sl b o' n' c') h))
   (cellsB h b fun nn row _ => when_ (rowIs row ei.size e && Nat.ble (Nat.mul (Nat.add (Nat.sub c UNK) n) ei.size) nn && Nat.blt 0 ei.size) (ifB (Nat.beq l hh && Nat.ble hh n) (k (.tail b o l ei.size (Nat.sub c UNK)) h) (when_ (Nat.blt l hh && Nat.ble hh n) (forceK (Nat.add o (Nat.mul l ei.size)) fun o' => forceK (Nat.sub hh l) fun n' => forceK (Nat.add c l) fun c' => k (.sl b o' n' c') h))))
 | none, .sl e, .slk b n => ti e fun ei => cellsB h b fun nn row _ => when_ (rowIs row ei.size e && Nat.ble (Nat.mul n ei.size) nn && Nat.blt 0 ei.size) (bound s lo 0 fun l => bound s hi n fun hh => ifB (Nat.beq l 0) (when_ (Nat.ble hh n) (k (.slk b hh) h))
   (when_ (Nat.blt l hh && Nat.ble hh n) (forceK (Nat.mul l ei.size) fun o' => forceK (Nat.sub hh l) fun n' => forceK (Nat.add UNK l) fun c' => k (.sl b o' n' c') h)))
 | none, .arr n e, .ptr b o => ti e fun ei => bound s lo 0 fun l => bound s hi n fun hh => when_ (Nat.ble l hh && Nat.ble hh n && Nat.blt n UNK) (forceK (cond (Nat.beq l n) o (Nat.add o (Nat.mul l ei.size))) fun o' => forceK (Nat.sub hh l) fun n' => forceK (Nat.sub n l) fun c' => k (.sl b o' n' c') h)
 | _, _, _ => none
noncomputable def hFieldAddr (t : Nat) (x : Operand) (f : Nat) : Hd := fun s h k => ti t fun i => match i.d with
 | .st fs => lookP s x fun b o => match fs[f]? with
  | some (off, size, _) => ifB (Nat.beq size 0) none (forceK (Nat.add o off) fun o' => k (.ptr b o') h)
  | none => none
 | _ => none
noncomputable def hField (t : Nat) (x : Operand) (f : Nat) : Hd := fun s h k => ti t fun i => match i.d with
 | .st fs => lookK s x fun v => elimAgg v fun cs => match fs[f]? with
  | some (off, size, ag) => ifB ag (k (.agg ((cs.drop off).take size)) h) (bindV cs[off]? fun v => k v h)
  | none => none
 | _ => none
noncomputable def hIndexAddr (t : Nat) (x i : Operand) : Hd := fun s h k => ti t fun d => lookI s i fun ki u => match d.d with
 | .sl e => ti e fun ei => lookK s x fun v => elimRow v fun n p => match p with
  | some (b, o) => when_ (!(isNeg ki u) && Nat.blt u n) (forceK (Nat.add o (Nat.mul u ei.size)) fun o' => k (.ptr b o') h)
  | none => none
 | .arr n e => ti e fun ei => lookP s x fun b o => when_ (!(isNeg ki u) && Nat.blt u n) (forceK (Nat.add o (Nat.mul u ei.size)) fun o' => k (.ptr b o') h)
 | _ => none
noncomputable def hIndex (t : Nat) (x i : Operand) : Hd := fun s h k => ti t fun d => lookI s i fun ki u => match d.d with
 | .arr n e => ti e fun ei => lookK s x fun v => elimAgg v fun cs => when_ (!(isNeg ki u) && Nat.blt u n) (ifB (isAggD ei.d) (k (.agg ((cs.drop (Nat.mul u ei.size)).take ei.size)) h) (bindV cs[Nat.mul u ei.size]? fun v => k v h))
 | _ => none
noncomputable def hExtract (x : Operand) (i : Nat) : Hd := fun s h k => lookK s x fun v => elimTup v fun vs => bindV vs[i]? fun v => k v h
noncomputable def cellsAt (h : H) (p : Option (Q × Nat)) (n : Nat) (k : List AV → Res) : Res :=
 match p with
 | none => k []
 | some (b, o) => cellsB h b fun _ _ c => loadL n o c k
noncomputable def evBuiltin (b : Builtin) (ts : List Nat) (args : List AV) (h : H) (k : KV) : Res :=
 match b, args with
 | .len, [v] => match ts with
  | t :: _ => ti t fun i => match i.d with
   | .sl _ => elimRow v fun n _ => when_ (Nat.ble n 1000000000) (k (.int .i64 n) h)
   | _ => none
  | _ => none
 | .min, [.int k1 a, .int k2 b] => when_ (kindEq k1 k2) (k (.int k1 (cond (ltU k1 b a) b a)) h)
 | .max, [.int k1 a, .int k2 b] => when_ (kindEq k1 k2) (k (.int k1 (cond (ltU k1 a b) b a)) h)
 | .max, [.int k1 a, .int k2 b, .int k3 c, .int k4 d] => when_ (kindEq k1 k2 && kindEq k1 k3 && kindEq k1 k4) (forceK (cond (ltU k1 a b) b a) fun x => forceK (cond (ltU k1 x c) c x) fun y => k (.int k1 (cond (ltU k1 y d) d y)) h)
 | .copy, [x, y] => match ts with
  | t :: _ => ti t fun i => match i.d with
   | .sl e => ti e fun ei => elimRow x fun n p => elimRow y fun m q => match p with
    | some (b, o) => forceK (minN n m) fun j => when_ (Nat.ble j 1000000000) <| cellsAt h q (Nat.mul j ei.size) fun vs => cellsB h b fun nn sz c => when_ (Nat.ble (Nat.add o vs.length) nn) (k (.int .i64 j) (setB h b (some (.cells nn sz (storeL vs o c)))))
    | none => none
   | _ => none
  | _ => none
 | .append, [x, y] => match ts with
  | [t, t2] => when_ (Nat.beq t t2) <| ti t fun i => match i.d with
   | .sl e => ti e fun ei => elimRow y fun m q => cellsAt h q (Nat.mul m ei.size) fun vs => when_ (zOk ei && Nat.ble ei.bytes 4096) (match x with
    | .nils => when_ (Nat.ble m 1000000) (ifB (Nat.beq m 0) (k .nils h) (k (.slk h.n m) (newB h (.cells (Nat.mul m ei.size) (some (ei.size, e)) (treeOf vs)))))
    | .slk b n => when_ (Nat.ble (Nat.add n m) 1000000) (cellsB h b fun nn row c => when_ (rowIs row ei.size e && Nat.beq nn (Nat.mul n ei.size)) (forceK (Nat.add n m) fun l => k (.slk h.n l) (newB (setB h b none) (.cells (Nat.mul l ei.size) row (storeL vs (Nat.mul n ei.size) c)))))
    | _ => none)
   | _ => none
  | _ => none
 | _, _ => none
noncomputable def okOp : Op → Bool
 | .convert t _ _ => (Proofs.Tryz.prog.underlying t).isSome
 | _ => true
noncomputable def okOper (n : Nat) (o : Oper) : Bool := okOp o.op && (match o.dst with
 | some d => Nat.blt d n
 | none => true)
def tb (m i : Nat) : Bool := Nat.beq (Nat.land (Nat.shiftRight m i) 1) 1
def one_ (acc : List Nat) (o : Oper) : Nat := o.after.toList.foldl (fun m e => cond (Region.binds .any e) (Nat.lor (Nat.lor m (2 ^ e.on)) (acc.getD e.on 0)) m) 0
def befs : List Oper → List Nat → List Nat
 | [], acc => acc
 | o :: r, acc => befs r (acc ++ [one_ acc o])
def drawOk (ops : Array Oper) : Bool :=
 let bs := befs ops.toList []
 ops.toList.zipIdx.all fun p => p.1.after.toList.all (fun e => !Region.binds .any e || Nat.blt e.on p.2) && ((ops.toList.take p.2).zipIdx.all fun q => q.1.apart ops p.1 || tb (bs.getD p.2 0) q.2)
noncomputable def okC (n : Nat) : Code → Bool
 | .region _ ops dr => ops.toList.all (okOper n) && (!dr || drawOk ops)
 | .seq a b => okC n a && okC n b
 | .cond _ a b => okC n a && okC n b
 | .block _ a => okC n a
 | .loop a => okC n a
 | .rangeFunc _ ps a b => ps.toList.all (fun p => Nat.blt p n) && okC n a && okC n b
 | .scope a => okC n a
 | _ => true
abbrev Cl := AV → List AV → H → KV → Res
abbrev HdC := Cl → Hd
noncomputable def cBuiltin (b : Builtin) : Call → HdC := fun c _ s h k => lookL c.args.toList s fun args => evBuiltin b c.argTypes.toList args h k
noncomputable def cValue (f : Operand) : Call → HdC := fun c call s h k => lookL c.args.toList s fun args => lookK s f fun g => call g args h k
noncomputable def cInvoke (f : Operand) (m : String) : Call → HdC := fun _ _ _ _ _ => none
noncomputable def hCall (c : Call) : HdC := Callee.rec (motive := fun _ => Call → HdC) cValue cInvoke cBuiltin c.callee c
noncomputable def pl (x : Hd) : HdC := fun _ => x
noncomputable def no_ : HdC := fun _ _ _ _ => none
noncomputable def evO (op : Op) : HdC :=
 Op.rec (motive := fun _ => HdC) (fun x => pl (hMove x)) (fun x => pl (hMove x)) (fun c a b => pl (hPick c a b)) (fun e => pl (hAlloc e)) (fun e v => pl (hBox e v)) (fun t p => pl (hBuild t p)) (fun t l p => pl (hBuildSlice t l p))
  (fun _ _ _ _ => no_) (fun t a => pl (hLoad t a)) (fun t a v => pl (hStore t a v)) (fun _ => no_) (fun _ => no_) (fun x => pl (hNil x)) (fun op t x y ty => pl (hBin op t x y ty)) (fun op t x => pl (hUn op t x)) (fun s d x => pl (hConv s d x))
  (fun _ _ => no_) (fun _ _ => no_) (fun f a c => pl (hMakeFunc f a c)) (fun _ _ => no_) (fun _ _ => no_) (fun t l c => pl (hMakeSlice t l c)) (fun t x lo hi mx => pl (hSlice t x lo hi mx)) (fun t x f => pl (hFieldAddr t x f)) (fun t x f => pl (hField t x f))
  (fun t x i => pl (hIndexAddr t x i)) (fun t x i => pl (hIndex t x i)) (fun _ _ _ _ => no_) (fun _ _ _ _ => no_) (fun _ _ _ => no_) (fun _ _ _ _ => no_) (fun _ _ => no_) (fun _ _ => no_) (fun _ => no_) (fun _ _ _ _ => no_) (fun t i => pl (hExtract t i))
  hCall (fun _ => no_) (fun _ => no_) (fun _ => no_) (fun _ _ => no_) (fun _ _ _ => no_) (fun _ _ => no_) op
noncomputable def guardK (o : Option AV) (want : Bool) (x y : Res) : Res := match o with
 | some (.bool c) => ifB (c == want) x y
 | some (.tup []) => y
 | _ => none
noncomputable def setN (s : T AV) (d : Option Nat) (v : AV) : T AV := Option.rec (motive := fun _ => T AV → AV → T AV) (fun s _ => s) (fun d s v => s.put (some v) (qOf d)) d s v
abbrev KS := T AV → H → Res
abbrev Ops := List Oper → Cl → T AV → H → KS → Res
noncomputable def gNone : Oper → Ops → Ops := fun o ih all call s h k => evO o.op call s h fun v h => ih all call (setN s o.dst v) h k
noncomputable def gSome : Nat × Bool → Oper → Ops → Ops := fun g o ih all call s h k => match all[g.1]? with
 | some oj => match oj.dst with
  | some d => guardK (s.get (qOf d)) g.2 (evO o.op call s h fun v h => ih all call (setN s o.dst v) h k) (ih all call (setN s o.dst (.tup [])) h k)
  | none => none
 | none => none
noncomputable def opsNil : Ops := fun _ _ s h k => k s h
noncomputable def opsCons : Oper → Ops → Ops := fun o ih => Option.rec (motive := fun _ => Oper → Ops → Ops) gNone gSome o.guard o ih
noncomputable def evOps (ops : List Oper) : Ops := List.rec (motive := fun _ => Ops) opsNil (fun o _ ih => opsCons o ih) ops
inductive Cls where
 | float
 | eff
 | read
 | plain
def clsOf : Op → Cls
 | .alloc _ => .float
 | .box _ _ => .float
 | .buildSlice _ _ _ => .float
 | .makeSlice _ _ _ => .float
 | .store _ _ _ => .eff
 | .call c => match c.callee with
  | .builtin .len => .plain
  | .builtin .min => .plain
  | .builtin .max => .plain
  | _ => .eff
 | .load _ _ => .read
 | .slice _ _ _ _ _ => .read
 | _ => .plain
noncomputable def evFloat (op : Op) (s : T AV) (k : KF) : Res := match op with
 | .alloc e => fAlloc e s k
 | .box e x => fBox e x s k
 | .buildSlice t l p => fBuildSlice t l p s k
 | .makeSlice t l c => fMakeSlice t l c s k
 | _ => none
abbrev FA := List (Nat × Q × AB)
noncomputable def withF (h : H) (mg : Nat) (fa : FA) (mask : Nat) : H :=
 List.rec (motive := fun _ => H) h (fun f _ ih => cond (tb mask f.1 && !(tb mg f.1)) ⟨ih.t.put (some f.2.2) f.2.1, ih.n⟩ ih) fa
noncomputable def withA (h : H) (mg : Nat) (fa : FA) : H :=
 List.rec (motive := fun _ => H) h (fun f _ ih => cond (tb mg f.1) ih ⟨ih.t.put (some f.2.2) f.2.1, ih.n⟩) fa
noncomputable def bindR2 (o : Option (AV × H)) (f : AV → Res) : Res := Option.rec (motive := fun _ => (AV → Res) → Res) (fun _ => none) (fun p f => f p.1) o f
noncomputable def bindR3 (o : Option (AV × H)) (f : AV → H → Res) : Res := Option.rec (motive := fun _ => (AV → H → Res) → Res) (fun _ => none) (fun p f => f p.1 p.2) o f
noncomputable def idk : KV := fun v h => some (v, h)
noncomputable def call0 : Cl := fun _ _ _ _ => none
mutual
def eqAV : AV → AV → Bool
 | .int k u, .int k' u' => kindEq k k' && Nat.beq u u'
 | .bool a, .bool b => a == b
 | .ptr b o, .ptr b' o' => Nat.beq b.toN b'.toN && Nat.beq o o'
 | .nilp, .nilp => true
 | .sl b o n c, .sl b' o' n' c' => Nat.beq b.toN b'.toN && Nat.beq o o' && Nat.beq n n' && Nat.beq c c'
 | .slk b n, .slk b' n' => Nat.beq b.toN b'.toN && Nat.beq n n'
 | .nils, .nils => true
 | .nilf, .nilf => true
 | .fn f a b, .fn f' a' b' => Nat.beq f f' && eqAVL a a' && eqAVL b b'
 | .agg a, .agg a' => eqAVL a a'
 | .tup a, .tup a' => eqAVL a a'
 | _, _ => false
def eqAVL : List AV → List AV → Bool
 | [], [] => true
 | a :: l, b :: m => eqAV a b && eqAVL l m
 | _, _ => false
end
noncomputable def reads (op : Op) (s : T AV) (h : H) (v : AV) (r : Res) : Res := bindR2 (evO op call0 s h idk) fun w => when_ (eqAV w v) r
structure Rd where
 j : Nat
 bj : Nat
 op : Op
 s : T AV
 v : AV
structure Vr where
 c : Nat
 h : H
 mg : Nat
abbrev Es := List (Nat × Nat)
def compat (j bj c : Nat) (es : Es) : Bool := es.all fun e => cond (Nat.blt e.1 c) (!(Nat.blt j e.1 && tb e.2 j)) (!(Nat.blt e.1 j && tb bj e.1))
noncomputable def chkV (e : Rd) (fa : FA) (es : Es) (vs : List Vr) (r : Res) : Res :=
 List.rec (motive := fun _ => Res) r (fun p _ ih => ifB (compat e.j e.bj p.c es) (reads e.op e.s (withF p.h p.mg fa e.bj) e.v ih) ih) vs
noncomputable def chkR (fa : FA) (es : Es) (vs : List Vr) (rd : List Rd) (r : Res) : Res :=
 List.rec (motive := fun _ => Res) r (fun e _ ih => chkV e fa es vs ih) rd
structure St where
 s : T AV
 h : H
 mg : Nat
 fa : FA
 vs : List Vr
 es : Es
 rd : List Rd
 ids : List Q
abbrev DK := Nat → T AV → H → Nat → FA → List Vr → Es → List Rd → List Q → KS → Res
noncomputable def dNil : DK := fun _ s h mg fa vs es rd _ k => chkR fa es vs rd (k s (withA h mg fa))
noncomputable def dFloat (o : Oper) (ih : DK) : DK := fun i s h mg fa vs es rd ids k => match ids with
 | id :: ids => evFloat o.op s fun mk b => ih (Nat.succ i) (setN s o.dst (mk id)) h mg ((i, id, b) :: fa) vs es rd ids k
 | [] => none
noncomputable def dEff (call : Cl) (o : Oper) (bi : Nat) (ih : DK) : DK := fun i s h mg fa vs es rd ids k =>
 when_ (es.all fun e => tb bi e.1) (bindR3 (evO o.op call s (withF h mg fa bi) idk) fun v h' =>
   forceK (Nat.lor mg bi) fun mg' => ih (Nat.succ i) (setN s o.dst v) h' mg' fa (⟨Nat.succ i, h', mg'⟩ :: vs) ((i, bi) :: es) rd ids k)
noncomputable def dRead (o : Oper) (bi : Nat) (ih : DK) : DK := fun i s h mg fa vs es rd ids k =>
 bindR2 (evO o.op call0 s (withF h mg fa bi) idk) fun v => ih (Nat.succ i) (setN s o.dst v) h mg fa vs es (⟨i, bi, o.op, s, v⟩ :: rd) ids k
noncomputable def dPlain (o : Oper) (ih : DK) : DK := fun i s h mg fa vs es rd ids k => bindR2 (evO o.op call0 s ⟨.leaf, .h⟩ idk) fun v => ih (Nat.succ i) (setN s o.dst v) h mg fa vs es rd ids k
noncomputable def dStep (call : Cl) (o : Oper) (bi : Nat) (ih : DK) (c : Cls) : DK := Cls.rec (motive := fun _ => DK) (dFloat o ih) (dEff call o bi ih) (dRead o bi ih) (dPlain o ih) c
noncomputable def dSkip (o : Oper) (ih : DK) : DK := fun i s h mg fa vs es rd ids k => ih (Nat.succ i) (setN s o.dst (.tup [])) h mg fa vs es rd ids k
noncomputable def dOne (call : Cl) (all : List Oper) (p : Oper × Nat) (ih : DK) : DK := fun i s h mg fa vs es rd ids k => match p.1.guard with
  | none => dStep call p.1 p.2 ih (clsOf p.1.op) i s h mg fa vs es rd ids k
  | some (j, want) => match all[j]? with
   | some oj => match oj.dst with
    | some d => guardK (s.get (qOf d)) want (dStep call p.1 p.2 ih (clsOf p.1.op) i s h mg fa vs es rd ids k) (dSkip p.1 ih i s h mg fa vs es rd ids k)
    | none => none
   | none => none
noncomputable def dGo (call : Cl) (all : List Oper) (ops : List (Oper × Nat)) : DK := List.rec (motive := fun _ => DK) dNil (fun p _ ih => dOne call all p ih) ops
noncomputable def namesK (n : Nat) (q : Q) (k : List Q → Q → Res) : Res := Nat.rec (motive := fun _ => Q → (List Q → Q → Res) → Res) (fun q k => k [] q) (fun _ ih q k => ih q.succ fun l e => k (q :: l) e) n q k
def isFloat : Op → Bool
 | .alloc _ => true
 | .box _ _ => true
 | .buildSlice _ _ _ => true
 | .makeSlice _ _ _ => true
 | _ => false
noncomputable def evDraw (call : Cl) (ops : Array Oper) (s : T AV) (h : H) (k : KS) : Res :=
 namesK (ops.toList.countP fun o => isFloat o.op) h.n fun ids n => dGo call ops.toList (ops.toList.zip (befs ops.toList [])) 0 s ⟨h.t, n⟩ 0 [] [⟨0, ⟨h.t, n⟩, 0⟩] [] [] ids k
noncomputable def setArgs (ps : List Nat) : List AV → T AV → Option (T AV) :=
 List.rec (motive := fun _ => List AV → T AV → Option (T AV)) (fun vs s => match vs with | [] => some s | _ => none) (fun p _ ih vs s => match vs with
  | v :: vs => ih vs (s.put (some v) (qOf p))
  | [] => none) ps
noncomputable def evRes (rs : List ResultVar) (s : T AV) (h : H) (k : List AV → Res) : Res :=
 List.rec (motive := fun _ => (List AV → Res) → Res) (fun k => k []) (fun r _ ih k => match r with
  | .tmp t => bindV (s.get (qOf t)) fun v => ih fun vs => k (v :: vs)
  | .cell a t => ti t fun i => bindV (s.get (qOf a)) fun v => elimPtr v fun b o => cellsB h b fun _ _ c => ifB (isAggD i.d) (loadL i.size o c fun l => ih fun vs => k (.agg l :: vs)) (bindV (cellAt c o) fun v => ih fun vs => k (v :: vs))) rs k
noncomputable def dropMarks (ds : List Q) (h : H) (k : H → Res) : Res :=
 List.rec (motive := fun _ => H → Res) (fun h => k h) (fun d _ ih h => match h.t.get d with
  | some .dfr => ih (setB h d none)
  | _ => none) ds h
def jumpOf : X → Option Code
 | .normal => none
 | .exit id => some (.exit id)
 | .ret => some .ret
abbrev KX := X → T AV → List Q → H → Res
abbrev Run := Code → Bool → T AV → List Q → H → KX → Res
def one (vs : List AV) : AV := match vs with
 | [v] => v
 | vs => .tup vs
noncomputable def endCallN (res : List ResultVar) (k : KV) (s : T AV) (ds : List Q) (h : H) : Res := dropMarks ds h fun h => evRes res s h fun vs => k (one vs) h
noncomputable def endCall (res : List ResultVar) (k : KV) (x : X) : T AV → List Q → H → Res := X.rec (motive := fun _ => List ResultVar → KV → T AV → List Q → H → Res) endCallN (fun _ _ _ _ _ _ => none) endCallN x res k
noncomputable def callCode (body : Code) (res : List ResultVar) (run : Run) (args : List AV) (h : H) (k : KV) : Res := run body false (storeL args 0 .leaf) [] h fun x s ds h => endCall res k x s ds h
noncomputable def bindR (o : Option (AV × H)) (k : KV) : Res := Option.rec (motive := fun _ => KV → Res) (fun _ => none) (fun p k => k p.1 p.2) o k
noncomputable def callOrc (f : List AV → H → Option (AV × H)) (_ : Run) (args : List AV) (h : H) (k : KV) : Res := bindR (f args h) k
noncomputable def callMix (body : Code) (res : List ResultVar) (f : List AV → H → Option (AV × H)) (run : Run) (args : List AV) (h : H) (k : KV) : Res := Option.rec (motive := fun _ => Code → List ResultVar → Run → List AV → H → KV → Res) callCode (fun p _ _ _ _ _ k => k p.1 p.2) (f args h) body res run args h k
noncomputable def allInt (l : List AV) : Bool := List.rec (motive := fun _ => Bool) true (fun v _ ih => cond (isIntV v) ih false) l
noncomputable def callExt (g : List AV → Option AV) (_ : Run) (args : List AV) (h : H) (k : KV) : Res := when_ (allInt args) (bindV (g args) fun v => k v h)
noncomputable def callFn (fn : Fn) (run : Run) (args : List AV) (h : H) (k : KV) : Res := Fn.rec (motive := fun _ => Run → List AV → H → KV → Res) callCode callOrc callMix callExt fn run args h k
noncomputable def callOpt (o : Option Fn) (run : Run) (args : List AV) (h : H) (k : KV) : Res := Option.rec (motive := fun _ => Run → List AV → H → KV → Res) (fun _ _ _ _ => none) (fun fn run args h k => callFn fn run args h k) o run args h k
noncomputable def endRound (l : Q) (k : KV) (x : X) (ds : List Q) (h : H) : Res := match ds with
 | [] => match h.t.get l with
  | some (.loop 1 _ s ps asg body) => match x with
   | .normal => k (.bool true) (setB h l (some (.loop 0 none s ps asg body)))
   | x => k (.bool false) (setB h l (some (.loop 2 (jumpOf x) s ps asg body)))
  | _ => none
 | _ => none
noncomputable def midRound (run : Run) (l : Q) (k : KV) (body : Code) (x : X) (s : T AV) (ds : List Q) (h : H) : Res := match x, ds with
 | .normal, [] => match h.t.get l with
  | some (.loop 0 pend s0 ps asg body') => run body true s [] (setB h l (some (.loop 1 pend s0 ps asg body'))) fun x _ ds h => endRound l k x ds h
  | _ => none
 | _, _ => none
noncomputable def callYield (run : Run) (l : Q) (args : List AV) (h : H) (k : KV) : Res := match h.t.get l with
  | some (.loop _ _ s ps asg body) => match setArgs ps args s with
   | some s1 => run asg true s1 [] h fun x s2 ds h => midRound run l k body x s2 ds h
   | none => none
  | _ => none
noncomputable def evCall (F : TB Fn) (run : Run) : Cl := fun g args h k => elimFn g (fun f first caps => callOpt (F.get (qB f)) run (first ++ args ++ caps) h k) (fun l => callYield run l args h k)
noncomputable def endRange (ds : List Q) (d l : Q) (s : T AV) (k : KX) (h' : H) : Res := match h'.t.get l with
 | some (.loop st pend _ _ _ _) => match st with
  | 1 => none
  | _ => match pend with
   | none => k .normal s (d :: ds) (setB h' l none)
   | some .ret => k .ret s (d :: ds) (setB h' l none)
   | some (.exit id) => k (.exit id) s (d :: ds) (setB h' l none)
   | _ => none
 | _ => none
abbrev Cd := Cl → Run → Bool → T AV → List Q → H → KX → Res
noncomputable def xSkip : Cd := fun _ _ _ s ds h k => k .normal s ds h
noncomputable def xPlain (ops : Array Oper) : Cd := fun call _ _ s ds h k => evOps ops.toList ops.toList call s h fun s h => k .normal s ds h
noncomputable def xDraw (ops : Array Oper) : Cd := fun call _ _ s ds h k => evDraw call ops s h fun s h => k .normal s ds h
noncomputable def xRegion : Nat → Array Oper → Bool → Cd := fun _ ops dr => Bool.rec (motive := fun _ => Array Oper → Cd) xPlain xDraw dr ops
noncomputable def xSeqK (x : X) : Cd → KX → Cl → Run → Bool → T AV → List Q → H → Res := X.rec (motive := fun _ => Cd → KX → Cl → Run → Bool → T AV → List Q → H → Res) (fun rb k call run rd s ds h => rb call run rd s ds h k) (fun id _ k _ _ _ s ds h => k (.exit id) s ds h) (fun _ k _ _ _ s ds h => k .ret s ds h) x
noncomputable def xSeq : Code → Code → Cd → Cd → Cd := fun _ _ ra rb call run rd s ds h k => ra call run rd s ds h fun x s ds h => xSeqK x rb k call run rd s ds h
noncomputable def xCond : Operand → Code → Code → Cd → Cd → Cd := fun c _ _ rt re call run rd s ds h k => lookK s c fun c => elimBool c (rt call run rd s ds h k) (re call run rd s ds h k)
noncomputable def xBlockK (x : X) : Nat → KX → T AV → List Q → H → Res := X.rec (motive := fun _ => Nat → KX → T AV → List Q → H → Res) (fun _ k s ds h => k .normal s ds h) (fun id' id k s ds h => ifB (Nat.beq id' id) (k .normal s ds h) (k (.exit id') s ds h)) (fun _ k s ds h => k .ret s ds h) x
noncomputable def xBlock : Nat → Code → Cd → Cd := fun id _ rb call run rd s ds h k => rb call run rd s ds h fun x s ds h => xBlockK x id k s ds h
noncomputable def xLoopK (x : X) : Code → KX → Run → Bool → T AV → List Q → H → Res := X.rec (motive := fun _ => Code → KX → Run → Bool → T AV → List Q → H → Res) (fun c k run rd s ds h => run (.loop c) rd s ds h k) (fun id _ k _ _ s ds h => k (.exit id) s ds h) (fun _ k _ _ s ds h => k .ret s ds h) x
noncomputable def xLoop : Code → Cd → Cd := fun c rb call run rd s ds h k => rb call run rd s ds h fun x s ds h => xLoopK x c k run rd s ds h
noncomputable def xRange : Operand → Array Tmp → Code → Code → Cd → Cd → Cd := fun f ps asg body _ _ call run rd s ds h k => ifB rd none (lookK s f fun g => elimFn g (fun f a b =>
 call (.fn f a b) [.yld h.n.succ] (newB (newB h .dfr) (.loop 0 none s ps.toList asg body)) fun _ h' => endRange ds h.n h.n.succ s k h') (fun _ => none))
noncomputable def xExit : Nat → Cd := fun id _ _ _ s ds h k => k (.exit id) s ds h
noncomputable def xScope : Code → Cd → Cd := fun _ rb call run rd s ds h k => ifB rd none (rb call run rd s ds h k)
noncomputable def xLabel : Nat → Cd := fun _ _ _ _ s ds h k => k .normal s ds h
noncomputable def xNo : Cd := fun _ _ _ _ _ _ _ => none
noncomputable def xRet : Cd := fun _ _ _ s ds h k => k .ret s ds h
noncomputable def evC (c : Code) : Cd := Code.rec (motive := fun _ => Cd) xSkip xRegion xSeq xCond xBlock xLoop xRange xExit xScope xLabel (fun _ => xNo) xRet (fun _ => xNo) c
noncomputable def run0 : Run := fun _ _ _ _ _ _ => none
noncomputable def runS (F : TB Fn) (again : Run) : Run := fun c rd s ds h k => evC c (evCall F again) again rd s ds h k
noncomputable def run (F : TB Fn) (n : Nat) : Run := Nat.rec (motive := fun _ => Run) run0 (fun _ again => runS F again) n
end Go.Ev
end
section
namespace Go.Ev
open Go
inductive WG where
 | mk (f : T AV → Option AV)
inductive WP where
 | mk (f : T AV → Option AV → T AV)
abbrev HdF := Cl → T AV → H → KV → Res
inductive WH where
 | mk (f : HdF)
abbrev OpsF := Cl → T AV → H → KS → Res
inductive WO where
 | mk (f : OpsF)
inductive WC where
 | mk (f : Cd)
inductive WB where
 | mk (f : HB) (ok : IntKind → IntKind → Bool)
def mU1 (_c0 _c1 _c2 _c3 _c4 _c5 _c6 _c7 _c8 _c9 _c10 _c11 _c12 _c13 _c14 _c15 : T AV) (_i0 _i1 _i2 _i3 _i4 _i5 _i6 _i7 _i8 _i9 _i10 _i11 _i12 _i13 _i14 _i15 : (T AV → Option AV) → Option AV) : Unit := ()
def gm0 (_ : Option AV) (ch : N16 (T AV)) (_ : Unit) (f : T AV → Option AV) : Option AV := f ch.c0
noncomputable def gk0 (f : T AV → Option AV) (t : T AV) : Option AV := T.rec (motive_1 := fun _ => (T AV → Option AV) → Option AV) (motive_2 := fun _ => Unit) (fun _ => none) gm0 mU1 t f
def gm1 (_ : Option AV) (ch : N16 (T AV)) (_ : Unit) (f : T AV → Option AV) : Option AV := f ch.c1
noncomputable def gk1 (f : T AV → Option AV) (t : T AV) : Option AV := T.rec (motive_1 := fun _ => (T AV → Option AV) → Option AV) (motive_2 := fun _ => Unit) (fun _ => none) gm1 mU1 t f
def gm2 (_ : Option AV) (ch : N16 (T AV)) (_ : Unit) (f : T AV → Option AV) : Option AV := f ch.c2
noncomputable def gk2 (f : T AV → Option AV) (t : T AV) : Option AV := T.rec (motive_1 := fun _ => (T AV → Option AV) → Option AV) (motive_2 := fun _ => Unit) (fun _ => none) gm2 mU1 t f
def gm3 (_ : Option AV) (ch : N16 (T AV)) (_ : Unit) (f : T AV → Option AV) : Option AV := f ch.c3
noncomputable def gk3 (f : T AV → Option AV) (t : T AV) : Option AV := T.rec (motive_1 := fun _ => (T AV → Option AV) → Option AV) (motive_2 := fun _ => Unit) (fun _ => none) gm3 mU1 t f
def gm4 (_ : Option AV) (ch : N16 (T AV)) (_ : Unit) (f : T AV → Option AV) : Option AV := f ch.c4
noncomputable def gk4 (f : T AV → Option AV) (t : T AV) : Option AV := T.rec (motive_1 := fun _ => (T AV → Option AV) → Option AV) (motive_2 := fun _ => Unit) (fun _ => none) gm4 mU1 t f
def gm5 (_ : Option AV) (ch : N16 (T AV)) (_ : Unit) (f : T AV → Option AV) : Option AV := f ch.c5
noncomputable def gk5 (f : T AV → Option AV) (t : T AV) : Option AV := T.rec (motive_1 := fun _ => (T AV → Option AV) → Option AV) (motive_2 := fun _ => Unit) (fun _ => none) gm5 mU1 t f
def gm6 (_ : Option AV) (ch : N16 (T AV)) (_ : Unit) (f : T AV → Option AV) : Option AV := f ch.c6
noncomputable def gk6 (f : T AV → Option AV) (t : T AV) : Option AV := T.rec (motive_1 := fun _ => (T AV → Option AV) → Option AV) (motive_2 := fun _ => Unit) (fun _ => none) gm6 mU1 t f
def gm7 (_ : Option AV) (ch : N16 (T AV)) (_ : Unit) (f : T AV → Option AV) : Option AV := f ch.c7
noncomputable def gk7 (f : T AV → Option AV) (t : T AV) : Option AV := T.rec (motive_1 := fun _ => (T AV → Option AV) → Option AV) (motive_2 := fun _ => Unit) (fun _ => none) gm7 mU1 t f
def gm8 (_ : Option AV) (ch : N16 (T AV)) (_ : Unit) (f : T AV → Option AV) : Option AV := f ch.c8
noncomputable def gk8 (f : T AV → Option AV) (t : T AV) : Option AV := T.rec (motive_1 := fun _ => (T AV → Option AV) → Option AV) (motive_2 := fun _ => Unit) (fun _ => none) gm8 mU1 t f
def gm9 (_ : Option AV) (ch : N16 (T AV)) (_ : Unit) (f : T AV → Option AV) : Option AV := f ch.c9
noncomputable def gk9 (f : T AV → Option AV) (t : T AV) : Option AV := T.rec (motive_1 := fun _ => (T AV → Option AV) → Option AV) (motive_2 := fun _ => Unit) (fun _ => none) gm9 mU1 t f
def gm10 (_ : Option AV) (ch : N16 (T AV)) (_ : Unit) (f : T AV → Option AV) : Option AV := f ch.c10
noncomputable def gk10 (f : T AV → Option AV) (t : T AV) : Option AV := T.rec (motive_1 := fun _ => (T AV → Option AV) → Option AV) (motive_2 := fun _ => Unit) (fun _ => none) gm10 mU1 t f
def gm11 (_ : Option AV) (ch : N16 (T AV)) (_ : Unit) (f : T AV → Option AV) : Option AV := f ch.c11
noncomputable def gk11 (f : T AV → Option AV) (t : T AV) : Option AV := T.rec (motive_1 := fun _ => (T AV → Option AV) → Option AV) (motive_2 := fun _ => Unit) (fun _ => none) gm11 mU1 t f
def gm12 (_ : Option AV) (ch : N16 (T AV)) (_ : Unit) (f : T AV → Option AV) : Option AV := f ch.c12
noncomputable def gk12 (f : T AV → Option AV) (t : T AV) : Option AV := T.rec (motive_1 := fun _ => (T AV → Option AV) → Option AV) (motive_2 := fun _ => Unit) (fun _ => none) gm12 mU1 t f
def gm13 (_ : Option AV) (ch : N16 (T AV)) (_ : Unit) (f : T AV → Option AV) : Option AV := f ch.c13
noncomputable def gk13 (f : T AV → Option AV) (t : T AV) : Option AV := T.rec (motive_1 := fun _ => (T AV → Option AV) → Option AV) (motive_2 := fun _ => Unit) (fun _ => none) gm13 mU1 t f
def gm14 (_ : Option AV) (ch : N16 (T AV)) (_ : Unit) (f : T AV → Option AV) : Option AV := f ch.c14
noncomputable def gk14 (f : T AV → Option AV) (t : T AV) : Option AV := T.rec (motive_1 := fun _ => (T AV → Option AV) → Option AV) (motive_2 := fun _ => Unit) (fun _ => none) gm14 mU1 t f
def gm15 (_ : Option AV) (ch : N16 (T AV)) (_ : Unit) (f : T AV → Option AV) : Option AV := f ch.c15
noncomputable def gk15 (f : T AV → Option AV) (t : T AV) : Option AV := T.rec (motive_1 := fun _ => (T AV → Option AV) → Option AV) (motive_2 := fun _ => Unit) (fun _ => none) gm15 mU1 t f
noncomputable def gW (d : D16) (f : T AV → Option AV) : WG := D16.rec (motive := fun _ => (T AV → Option AV) → WG) (fun f => .mk (gk0 f)) (fun f => .mk (gk1 f)) (fun f => .mk (gk2 f)) (fun f => .mk (gk3 f)) (fun f => .mk (gk4 f)) (fun f => .mk (gk5 f)) (fun f => .mk (gk6 f)) (fun f => .mk (gk7 f)) (fun f => .mk (gk8 f)) (fun f => .mk (gk9 f)) (fun f => .mk (gk10 f)) (fun f => .mk (gk11 f)) (fun f => .mk (gk12 f)) (fun f => .mk (gk13 f)) (fun f => .mk (gk14 f)) (fun f => .mk (gk15 f)) d f
noncomputable def getW (p : Q) : WG := Q.rec (motive := fun _ => WG) (.mk T.gH) (fun d _ ih => WG.rec (motive := fun _ => WG) (fun f => gW d f) ih) p
theorem getW_eq : ∀ p : Q, getW p = .mk (fun t => t.get p)
 | .h => rfl
 | .c d p => by
  show WG.rec (motive := fun _ => WG) (fun f => gW d f) (getW p) = _
  rw [getW_eq p]
  show gW d (fun t => t.get p) = _
  cases d <;> (show WG.mk _ = WG.mk _; congr 1; funext t; cases t <;> rfl)
abbrev PT := T AV → Option AV → T AV
def mU2 {β : Type} (_c0 _c1 _c2 _c3 _c4 _c5 _c6 _c7 _c8 _c9 _c10 _c11 _c12 _c13 _c14 _c15 : T AV) (_i0 _i1 _i2 _i3 _i4 _i5 _i6 _i7 _i8 _i9 _i10 _i11 _i12 _i13 _i14 _i15 : β) : Unit := ()
def nr0 (c0 c1 c2 c3 c4 c5 c6 c7 c8 c9 c10 c11 c12 c13 c14 c15 y : T AV) : N16 (T AV) := ⟨y, c1, c2, c3, c4, c5, c6, c7, c8, c9, c10, c11, c12, c13, c14, c15⟩
noncomputable def ns0 (s : N16 (T AV)) (y : T AV) : N16 (T AV) := N16.rec (motive := fun _ => T AV → N16 (T AV)) nr0 s y
noncomputable def pf0 (y : T AV) (v : Option AV) (ch : N16 (T AV)) : T AV := T.rec (motive_1 := fun _ => Option AV → N16 (T AV) → T AV) (motive_2 := fun _ => Unit) (fun v ch => .node v (ns0 ch .leaf)) (fun v' ch' _ v ch => .node v (ns0 ch (.node v' ch'))) mU2 y v ch
noncomputable def pk0 (f : PT) (t : T AV) (x : Option AV) : T AV := T.rec (motive_1 := fun _ => PT → Option AV → T AV) (motive_2 := fun _ => Unit) (fun f x => pf0 (f .leaf x) none T.none16) (fun v ch _ f x => pf0 (f ch.c0 x) v ch) mU2 t f x
def nr1 (c0 c1 c2 c3 c4 c5 c6 c7 c8 c9 c10 c11 c12 c13 c14 c15 y : T AV) : N16 (T AV) := ⟨c0, y, c2, c3, c4, c5, c6, c7, c8, c9, c10, c11, c12, c13, c14, c15⟩
noncomputable def ns1 (s : N16 (T AV)) (y : T AV) : N16 (T AV) := N16.rec (motive := fun _ => T AV → N16 (T AV)) nr1 s y
noncomputable def pf1 (y : T AV) (v : Option AV) (ch : N16 (T AV)) : T AV := T.rec (motive_1 := fun _ => Option AV → N16 (T AV) → T AV) (motive_2 := fun _ => Unit) (fun v ch => .node v (ns1 ch .leaf)) (fun v' ch' _ v ch => .node v (ns1 ch (.node v' ch'))) mU2 y v ch
noncomputable def pk1 (f : PT) (t : T AV) (x : Option AV) : T AV := T.rec (motive_1 := fun _ => PT → Option AV → T AV) (motive_2 := fun _ => Unit) (fun f x => pf1 (f .leaf x) none T.none16) (fun v ch _ f x => pf1 (f ch.c1 x) v ch) mU2 t f x
def nr2 (c0 c1 c2 c3 c4 c5 c6 c7 c8 c9 c10 c11 c12 c13 c14 c15 y : T AV) : N16 (T AV) := ⟨c0, c1, y, c3, c4, c5, c6, c7, c8, c9, c10, c11, c12, c13, c14, c15⟩
noncomputable def ns2 (s : N16 (T AV)) (y : T AV) : N16 (T AV) := N16.rec (motive := fun _ => T AV → N16 (T AV)) nr2 s y
noncomputable def pf2 (y : T AV) (v : Option AV) (ch : N16 (T AV)) : T AV := T.rec (motive_1 := fun _ => Option AV → N16 (T AV) → T AV) (motive_2 := fun _ => Unit) (fun v ch => .node v (ns2 ch .leaf)) (fun v' ch' _ v ch => .node v (ns2 ch (.node v' ch'))) mU2 y v ch
noncomputable def pk2 (f : PT) (t : T AV) (x : Option AV) : T AV := T.rec (motive_1 := fun _ => PT → Option AV → T AV) (motive_2 := fun _ => Unit) (fun f x => pf2 (f .leaf x) none T.none16) (fun v ch _ f x => pf2 (f ch.c2 x) v ch) mU2 t f x
def nr3 (c0 c1 c2 c3 c4 c5 c6 c7 c8 c9 c10 c11 c12 c13 c14 c15 y : T AV) : N16 (T AV) := ⟨c0, c1, c2, y, c4, c5, c6, c7, c8, c9, c10, c11, c12, c13, c14, c15⟩
noncomputable def ns3 (s : N16 (T AV)) (y : T AV) : N16 (T AV) := N16.rec (motive := fun _ => T AV → N16 (T AV)) nr3 s y
noncomputable def pf3 (y : T AV) (v : Option AV) (ch : N16 (T AV)) : T AV := T.rec (motive_1 := fun _ => Option AV → N16 (T AV) → T AV) (motive_2 := fun _ => Unit) (fun v ch => .node v (ns3 ch .leaf)) (fun v' ch' _ v ch => .node v (ns3 ch (.node v' ch'))) mU2 y v ch
noncomputable def pk3 (f : PT) (t : T AV) (x : Option AV) : T AV := T.rec (motive_1 := fun _ => PT → Option AV → T AV) (motive_2 := fun _ => Unit) (fun f x => pf3 (f .leaf x) none T.none16) (fun v ch _ f x => pf3 (f ch.c3 x) v ch) mU2 t f x
def nr4 (c0 c1 c2 c3 c4 c5 c6 c7 c8 c9 c10 c11 c12 c13 c14 c15 y : T AV) : N16 (T AV) := ⟨c0, c1, c2, c3, y, c5, c6, c7, c8, c9, c10, c11, c12, c13, c14, c15⟩
noncomputable def ns4 (s : N16 (T AV)) (y : T AV) : N16 (T AV) := N16.rec (motive := fun _ => T AV → N16 (T AV)) nr4 s y
noncomputable def pf4 (y : T AV) (v : Option AV) (ch : N16 (T AV)) : T AV := T.rec (motive_1 := fun _ => Option AV → N16 (T AV) → T AV) (motive_2 := fun _ => Unit) (fun v ch => .node v (ns4 ch .leaf)) (fun v' ch' _ v ch => .node v (ns4 ch (.node v' ch'))) mU2 y v ch
noncomputable def pk4 (f : PT) (t : T AV) (x : Option AV) : T AV := T.rec (motive_1 := fun _ => PT → Option AV → T AV) (motive_2 := fun _ => Unit) (fun f x => pf4 (f .leaf x) none T.none16) (fun v ch _ f x => pf4 (f ch.c4 x) v ch) mU2 t f x
def nr5 (c0 c1 c2 c3 c4 c5 c6 c7 c8 c9 c10 c11 c12 c13 c14 c15 y : T AV) : N16 (T AV) := ⟨c0, c1, c2, c3, c4, y, c6, c7, c8, c9, c10, c11, c12, c13, c14, c15⟩
noncomputable def ns5 (s : N16 (T AV)) (y : T AV) : N16 (T AV) := N16.rec (motive := fun _ => T AV → N16 (T AV)) nr5 s y
noncomputable def pf5 (y : T AV) (v : Option AV) (ch : N16 (T AV)) : T AV := T.rec (motive_1 := fun _ => Option AV → N16 (T AV) → T AV) (motive_2 := fun _ => Unit) (fun v ch => .node v (ns5 ch .leaf)) (fun v' ch' _ v ch => .node v (ns5 ch (.node v' ch'))) mU2 y v ch
noncomputable def pk5 (f : PT) (t : T AV) (x : Option AV) : T AV := T.rec (motive_1 := fun _ => PT → Option AV → T AV) (motive_2 := fun _ => Unit) (fun f x => pf5 (f .leaf x) none T.none16) (fun v ch _ f x => pf5 (f ch.c5 x) v ch) mU2 t f x
def nr6 (c0 c1 c2 c3 c4 c5 c6 c7 c8 c9 c10 c11 c12 c13 c14 c15 y : T AV) : N16 (T AV) := ⟨c0, c1, c2, c3, c4, c5, y, c7, c8, c9, c10, c11, c12, c13, c14, c15⟩
noncomputable def ns6 (s : N16 (T AV)) (y : T AV) : N16 (T AV) := N16.rec (motive := fun _ => T AV → N16 (T AV)) nr6 s y
noncomputable def pf6 (y : T AV) (v : Option AV) (ch : N16 (T AV)) : T AV := T.rec (motive_1 := fun _ => Option AV → N16 (T AV) → T AV) (motive_2 := fun _ => Unit) (fun v ch => .node v (ns6 ch .leaf)) (fun v' ch' _ v ch => .node v (ns6 ch (.node v' ch'))) mU2 y v ch
noncomputable def pk6 (f : PT) (t : T AV) (x : Option AV) : T AV := T.rec (motive_1 := fun _ => PT → Option AV → T AV) (motive_2 := fun _ => Unit) (fun f x => pf6 (f .leaf x) none T.none16) (fun v ch _ f x => pf6 (f ch.c6 x) v ch) mU2 t f x
def nr7 (c0 c1 c2 c3 c4 c5 c6 c7 c8 c9 c10 c11 c12 c13 c14 c15 y : T AV) : N16 (T AV) := ⟨c0, c1, c2, c3, c4, c5, c6, y, c8, c9, c10, c11, c12, c13, c14, c15⟩
noncomputable def ns7 (s : N16 (T AV)) (y : T AV) : N16 (T AV) := N16.rec (motive := fun _ => T AV → N16 (T AV)) nr7 s y
noncomputable def pf7 (y : T AV) (v : Option AV) (ch : N16 (T AV)) : T AV := T.rec (motive_1 := fun _ => Option AV → N16 (T AV) → T AV) (motive_2 := fun _ => Unit) (fun v ch => .node v (ns7 ch .leaf)) (fun v' ch' _ v ch => .node v (ns7 ch (.node v' ch'))) mU2 y v ch
noncomputable def pk7 (f : PT) (t : T AV) (x : Option AV) : T AV := T.rec (motive_1 := fun _ => PT → Option AV → T AV) (motive_2 := fun _ => Unit) (fun f x => pf7 (f .leaf x) none T.none16) (fun v ch _ f x => pf7 (f ch.c7 x) v ch) mU2 t f x
def nr8 (c0 c1 c2 c3 c4 c5 c6 c7 c8 c9 c10 c11 c12 c13 c14 c15 y : T AV) : N16 (T AV) := ⟨c0, c1, c2, c3, c4, c5, c6, c7, y, c9, c10, c11, c12, c13, c14, c15⟩
noncomputable def ns8 (s : N16 (T AV)) (y : T AV) : N16 (T AV) := N16.rec (motive := fun _ => T AV → N16 (T AV)) nr8 s y
noncomputable def pf8 (y : T AV) (v : Option AV) (ch : N16 (T AV)) : T AV := T.rec (motive_1 := fun _ => Option AV → N16 (T AV) → T AV) (motive_2 := fun _ => Unit) (fun v ch => .node v (ns8 ch .leaf)) (fun v' ch' _ v ch => .node v (ns8 ch (.node v' ch'))) mU2 y v ch
noncomputable def pk8 (f : PT) (t : T AV) (x : Option AV) : T AV := T.rec (motive_1 := fun _ => PT → Option AV → T AV) (motive_2 := fun _ => Unit) (fun f x => pf8 (f .leaf x) none T.none16) (fun v ch _ f x => pf8 (f ch.c8 x) v ch) mU2 t f x
def nr9 (c0 c1 c2 c3 c4 c5 c6 c7 c8 c9 c10 c11 c12 c13 c14 c15 y : T AV) : N16 (T AV) := ⟨c0, c1, c2, c3, c4, c5, c6, c7, c8, y, c10, c11, c12, c13, c14, c15⟩
noncomputable def ns9 (s : N16 (T AV)) (y : T AV) : N16 (T AV) := N16.rec (motive := fun _ => T AV → N16 (T AV)) nr9 s y
noncomputable def pf9 (y : T AV) (v : Option AV) (ch : N16 (T AV)) : T AV := T.rec (motive_1 := fun _ => Option AV → N16 (T AV) → T AV) (motive_2 := fun _ => Unit) (fun v ch => .node v (ns9 ch .leaf)) (fun v' ch' _ v ch => .node v (ns9 ch (.node v' ch'))) mU2 y v ch
noncomputable def pk9 (f : PT) (t : T AV) (x : Option AV) : T AV := T.rec (motive_1 := fun _ => PT → Option AV → T AV) (motive_2 := fun _ => Unit) (fun f x => pf9 (f .leaf x) none T.none16) (fun v ch _ f x => pf9 (f ch.c9 x) v ch) mU2 t f x
def nr10 (c0 c1 c2 c3 c4 c5 c6 c7 c8 c9 c10 c11 c12 c13 c14 c15 y : T AV) : N16 (T AV) := ⟨c0, c1, c2, c3, c4, c5, c6, c7, c8, c9, y, c11, c12, c13, c14, c15⟩
noncomputable def ns10 (s : N16 (T AV)) (y : T AV) : N16 (T AV) := N16.rec (motive := fun _ => T AV → N16 (T AV)) nr10 s y
noncomputable def pf10 (y : T AV) (v : Option AV) (ch : N16 (T AV)) : T AV := T.rec (motive_1 := fun _ => Option AV → N16 (T AV) → T AV) (motive_2 := fun _ => Unit) (fun v ch => .node v (ns10 ch .leaf)) (fun v' ch' _ v ch => .node v (ns10 ch (.node v' ch'))) mU2 y v ch
noncomputable def pk10 (f : PT) (t : T AV) (x : Option AV) : T AV := T.rec (motive_1 := fun _ => PT → Option AV → T AV) (motive_2 := fun _ => Unit) (fun f x => pf10 (f .leaf x) none T.none16) (fun v ch _ f x => pf10 (f ch.c10 x) v ch) mU2 t f x
def nr11 (c0 c1 c2 c3 c4 c5 c6 c7 c8 c9 c10 c11 c12 c13 c14 c15 y : T AV) : N16 (T AV) := ⟨c0, c1, c2, c3, c4, c5, c6, c7, c8, c9, c10, y, c12, c13, c14, c15⟩
noncomputable def ns11 (s : N16 (T AV)) (y : T AV) : N16 (T AV) := N16.rec (motive := fun _ => T AV → N16 (T AV)) nr11 s y
noncomputable def pf11 (y : T AV) (v : Option AV) (ch : N16 (T AV)) : T AV := T.rec (motive_1 := fun _ => Option AV → N16 (T AV) → T AV) (motive_2 := fun _ => Unit) (fun v ch => .node v (ns11 ch .leaf)) (fun v' ch' _ v ch => .node v (ns11 ch (.node v' ch'))) mU2 y v ch
noncomputable def pk11 (f : PT) (t : T AV) (x : Option AV) : T AV := T.rec (motive_1 := fun _ => PT → Option AV → T AV) (motive_2 := fun _ => Unit) (fun f x => pf11 (f .leaf x) none T.none16) (fun v ch _ f x => pf11 (f ch.c11 x) v ch) mU2 t f x
def nr12 (c0 c1 c2 c3 c4 c5 c6 c7 c8 c9 c10 c11 c12 c13 c14 c15 y : T AV) : N16 (T AV) := ⟨c0, c1, c2, c3, c4, c5, c6, c7, c8, c9, c10, c11, y, c13, c14, c15⟩
noncomputable def ns12 (s : N16 (T AV)) (y : T AV) : N16 (T AV) := N16.rec (motive := fun _ => T AV → N16 (T AV)) nr12 s y
noncomputable def pf12 (y : T AV) (v : Option AV) (ch : N16 (T AV)) : T AV := T.rec (motive_1 := fun _ => Option AV → N16 (T AV) → T AV) (motive_2 := fun _ => Unit) (fun v ch => .node v (ns12 ch .leaf)) (fun v' ch' _ v ch => .node v (ns12 ch (.node v' ch'))) mU2 y v ch
noncomputable def pk12 (f : PT) (t : T AV) (x : Option AV) : T AV := T.rec (motive_1 := fun _ => PT → Option AV → T AV) (motive_2 := fun _ => Unit) (fun f x => pf12 (f .leaf x) none T.none16) (fun v ch _ f x => pf12 (f ch.c12 x) v ch) mU2 t f x
def nr13 (c0 c1 c2 c3 c4 c5 c6 c7 c8 c9 c10 c11 c12 c13 c14 c15 y : T AV) : N16 (T AV) := ⟨c0, c1, c2, c3, c4, c5, c6, c7, c8, c9, c10, c11, c12, y, c14, c15⟩
noncomputable def ns13 (s : N16 (T AV)) (y : T AV) : N16 (T AV) := N16.rec (motive := fun _ => T AV → N16 (T AV)) nr13 s y
noncomputable def pf13 (y : T AV) (v : Option AV) (ch : N16 (T AV)) : T AV := T.rec (motive_1 := fun _ => Option AV → N16 (T AV) → T AV) (motive_2 := fun _ => Unit) (fun v ch => .node v (ns13 ch .leaf)) (fun v' ch' _ v ch => .node v (ns13 ch (.node v' ch'))) mU2 y v ch
noncomputable def pk13 (f : PT) (t : T AV) (x : Option AV) : T AV := T.rec (motive_1 := fun _ => PT → Option AV → T AV) (motive_2 := fun _ => Unit) (fun f x => pf13 (f .leaf x) none T.none16) (fun v ch _ f x => pf13 (f ch.c13 x) v ch) mU2 t f x
def nr14 (c0 c1 c2 c3 c4 c5 c6 c7 c8 c9 c10 c11 c12 c13 c14 c15 y : T AV) : N16 (T AV) := ⟨c0, c1, c2, c3, c4, c5, c6, c7, c8, c9, c10, c11, c12, c13, y, c15⟩
noncomputable def ns14 (s : N16 (T AV)) (y : T AV) : N16 (T AV) := N16.rec (motive := fun _ => T AV → N16 (T AV)) nr14 s y
noncomputable def pf14 (y : T AV) (v : Option AV) (ch : N16 (T AV)) : T AV := T.rec (motive_1 := fun _ => Option AV → N16 (T AV) → T AV) (motive_2 := fun _ => Unit) (fun v ch => .node v (ns14 ch .leaf)) (fun v' ch' _ v ch => .node v (ns14 ch (.node v' ch'))) mU2 y v ch
noncomputable def pk14 (f : PT) (t : T AV) (x : Option AV) : T AV := T.rec (motive_1 := fun _ => PT → Option AV → T AV) (motive_2 := fun _ => Unit) (fun f x => pf14 (f .leaf x) none T.none16) (fun v ch _ f x => pf14 (f ch.c14 x) v ch) mU2 t f x
def nr15 (c0 c1 c2 c3 c4 c5 c6 c7 c8 c9 c10 c11 c12 c13 c14 c15 y : T AV) : N16 (T AV) := ⟨c0, c1, c2, c3, c4, c5, c6, c7, c8, c9, c10, c11, c12, c13, c14, y⟩
noncomputable def ns15 (s : N16 (T AV)) (y : T AV) : N16 (T AV) := N16.rec (motive := fun _ => T AV → N16 (T AV)) nr15 s y
noncomputable def pf15 (y : T AV) (v : Option AV) (ch : N16 (T AV)) : T AV := T.rec (motive_1 := fun _ => Option AV → N16 (T AV) → T AV) (motive_2 := fun _ => Unit) (fun v ch => .node v (ns15 ch .leaf)) (fun v' ch' _ v ch => .node v (ns15 ch (.node v' ch'))) mU2 y v ch
noncomputable def pk15 (f : PT) (t : T AV) (x : Option AV) : T AV := T.rec (motive_1 := fun _ => PT → Option AV → T AV) (motive_2 := fun _ => Unit) (fun f x => pf15 (f .leaf x) none T.none16) (fun v ch _ f x => pf15 (f ch.c15 x) v ch) mU2 t f x
noncomputable def pW (d : D16) (f : PT) : WP := D16.rec (motive := fun _ => PT → WP) (fun f => .mk (pk0 f)) (fun f => .mk (pk1 f)) (fun f => .mk (pk2 f)) (fun f => .mk (pk3 f)) (fun f => .mk (pk4 f)) (fun f => .mk (pk5 f)) (fun f => .mk (pk6 f)) (fun f => .mk (pk7 f)) (fun f => .mk (pk8 f)) (fun f => .mk (pk9 f)) (fun f => .mk (pk10 f)) (fun f => .mk (pk11 f)) (fun f => .mk (pk12 f)) (fun f => .mk (pk13 f)) (fun f => .mk (pk14 f)) (fun f => .mk (pk15 f)) d f
noncomputable def putW (p : Q) : WP := Q.rec (motive := fun _ => WP) (.mk T.pH) (fun d _ ih => WP.rec (motive := fun _ => WP) (fun f => pW d f) ih) p
theorem pf0_eq (y : T AV) (v : Option AV) (ch : N16 (T AV)) : pf0 y v ch = T.sC v ch .d0 y := by cases y <;> rfl
theorem pf1_eq (y : T AV) (v : Option AV) (ch : N16 (T AV)) : pf1 y v ch = T.sC v ch .d1 y := by cases y <;> rfl
theorem pf2_eq (y : T AV) (v : Option AV) (ch : N16 (T AV)) : pf2 y v ch = T.sC v ch .d2 y := by cases y <;> rfl
theorem pf3_eq (y : T AV) (v : Option AV) (ch : N16 (T AV)) : pf3 y v ch = T.sC v ch .d3 y := by cases y <;> rfl
theorem pf4_eq (y : T AV) (v : Option AV) (ch : N16 (T AV)) : pf4 y v ch = T.sC v ch .d4 y := by cases y <;> rfl
theorem pf5_eq (y : T AV) (v : Option AV) (ch : N16 (T AV)) : pf5 y v ch = T.sC v ch .d5 y := by cases y <;> rfl
theorem pf6_eq (y : T AV) (v : Option AV) (ch : N16 (T AV)) : pf6 y v ch = T.sC v ch .d6 y := by cases y <;> rfl
theorem pf7_eq (y : T AV) (v : Option AV) (ch : N16 (T AV)) : pf7 y v ch = T.sC v ch .d7 y := by cases y <;> rfl
theorem pf8_eq (y : T AV) (v : Option AV) (ch : N16 (T AV)) : pf8 y v ch = T.sC v ch .d8 y := by cases y <;> rfl
theorem pf9_eq (y : T AV) (v : Option AV) (ch : N16 (T AV)) : pf9 y v ch = T.sC v ch .d9 y := by cases y <;> rfl
theorem pf10_eq (y : T AV) (v : Option AV) (ch : N16 (T AV)) : pf10 y v ch = T.sC v ch .d10 y := by cases y <;> rfl
theorem pf11_eq (y : T AV) (v : Option AV) (ch : N16 (T AV)) : pf11 y v ch = T.sC v ch .d11 y := by cases y <;> rfl
theorem pf12_eq (y : T AV) (v : Option AV) (ch : N16 (T AV)) : pf12 y v ch = T.sC v ch .d12 y := by cases y <;> rfl
theorem pf13_eq (y : T AV) (v : Option AV) (ch : N16 (T AV)) : pf13 y v ch = T.sC v ch .d13 y := by cases y <;> rfl
theorem pf14_eq (y : T AV) (v : Option AV) (ch : N16 (T AV)) : pf14 y v ch = T.sC v ch .d14 y := by cases y <;> rfl
theorem pf15_eq (y : T AV) (v : Option AV) (ch : N16 (T AV)) : pf15 y v ch = T.sC v ch .d15 y := by cases y <;> rfl
theorem putW_eq : ∀ p : Q, putW p = .mk (fun t x => t.put x p)
 | .h => rfl
 | .c d p => by
  show WP.rec (motive := fun _ => WP) (fun f => pW d f) (putW p) = _
  rw [putW_eq p]
  show pW d (fun t x => t.put x p) = _
  cases d

  ·show WP.mk _ = WP.mk _
   congr 1; funext t x
   cases t
   ·exact pf0_eq _ _ _
   ·exact pf0_eq _ _ _
  ·show WP.mk _ = WP.mk _
   congr 1; funext t x
   cases t
   ·exact pf1_eq _ _ _
   ·exact pf1_eq _ _ _
  ·show WP.mk _ = WP.mk _
   congr 1; funext t x
   cases t
   ·exact pf2_eq _ _ _
   ·exact pf2_eq _ _ _
  ·show WP.mk _ = WP.mk _
   congr 1; funext t x
   cases t
   ·exact pf3_eq _ _ _
   ·exact pf3_eq _ _ _
  ·show WP.mk _ = WP.mk _
   congr 1; funext t x
   cases t
   ·exact pf4_eq _ _ _
   ·exact pf4_eq _ _ _
  ·show WP.mk _ = WP.mk _
   congr 1; funext t x
   cases t
   ·exact pf5_eq _ _ _
   ·exact pf5_eq _ _ _
  ·show WP.mk _ = WP.mk _
   congr 1; funext t x
   cases t
   ·exact pf6_eq _ _ _
   ·exact pf6_eq _ _ _
  ·show WP.mk _ = WP.mk _
   congr 1; funext t x
   cases t
   ·exact pf7_eq _ _ _
   ·exact pf7_eq _ _ _
  ·show WP.mk _ = WP.mk _
   congr 1; funext t x
   cases t
   ·exact pf8_eq _ _ _
   ·exact pf8_eq _ _ _
  ·show WP.mk _ = WP.mk _
   congr 1; funext t x
   cases t
   ·exact pf9_eq _ _ _
   ·exact pf9_eq _ _ _
  ·show WP.mk _ = WP.mk _
   congr 1; funext t x
   cases t
   ·exact pf10_eq _ _ _
   ·exact pf10_eq _ _ _
  ·show WP.mk _ = WP.mk _
   congr 1; funext t x
   cases t
   ·exact pf11_eq _ _ _
   ·exact pf11_eq _ _ _
  ·show WP.mk _ = WP.mk _
   congr 1; funext t x
   cases t
   ·exact pf12_eq _ _ _
   ·exact pf12_eq _ _ _
  ·show WP.mk _ = WP.mk _
   congr 1; funext t x
   cases t
   ·exact pf13_eq _ _ _
   ·exact pf13_eq _ _ _
  ·show WP.mk _ = WP.mk _
   congr 1; funext t x
   cases t
   ·exact pf14_eq _ _ _
   ·exact pf14_eq _ _ _
  ·show WP.mk _ = WP.mk _
   congr 1; funext t x
   cases t
   ·exact pf15_eq _ _ _
   ·exact pf15_eq _ _ _
noncomputable def lookW (x : Operand) : WG := Operand.rec (motive := fun _ => WG) (fun t => getW (qOf t)) (fun v => Option.rec (motive := fun _ => WG) (.mk fun _ => none) (fun a => .mk fun _ => some a) (encV v)) (fun _ => .mk fun _ => none) (fun f => .mk fun _ => some (.fn f [] [])) x
theorem lookW_eq (x : Operand) : lookW x = .mk (fun s => look s x) := by
 cases x with
 | tmp t => exact getW_eq _
 | const v =>
  show Option.rec (motive := fun _ => WG) (.mk fun _ => none) (fun a => .mk fun _ => some a) (encV v) = .mk (fun s => encV v)
  cases encV v <;> rfl
 | global g => rfl
 | func f => rfl
noncomputable def kc (k : IntKind) : Nat := IntKind.rec (motive := fun _ => Nat) 0 1 2 3 4 5 6 7 k
noncomputable def kEq (a b : IntKind) : Bool := Nat.beq (kc a) (kc b)
theorem kEq_eq (a b : IntKind) : kEq a b = kindEq a b := by cases a <;> cases b <;> rfl
noncomputable def binW (op : BinOp) : WB := BinOp.rec (motive := fun _ => WB) (.mk bAdd kEq) (.mk bSub kEq) (.mk bMul kEq) (.mk bQuo kEq) (.mk bRem kEq) (.mk bAnd kEq) (.mk bOr kEq) (.mk bXor kEq) (.mk bShl fun _ _ => true) (.mk bShr fun _ _ => true) (.mk bNo kEq) (.mk bEql kEq) (.mk bNeq kEq) (.mk bLss kEq) (.mk bLeq kEq) (.mk bGtr kEq) (.mk bGeq kEq) op
theorem binW_eq (op : BinOp) : binW op = .mk (binI op) (kOk op) := by
 have h : kEq = kindEq := funext fun a => funext fun b => kEq_eq a b
 cases op <;> (show WB.mk _ _ = WB.mk _ _; first | rfl | (congr 1; done) | (congr 1; rw [h]; done))
abbrev EIO := (IntKind → Nat → Res) → Res → Res
noncomputable def elimIO (v : AV) (f : IntKind → Nat → Res) (g : Res) : Res :=
 AV.rec (motive_1 := fun _ => EIO) (motive_2 := fun _ => Unit) (fun k u f _ => f k u) (fun _ _ g => g) (fun _ _ _ g => g) (fun _ g => g) (fun _ _ _ _ _ g => g) (fun _ _ _ g => g) (fun _ g => g) (fun _ _ _ _ _ _ g => g) (fun _ _ g => g) (fun _ _ _ g => g) (fun _ _ _ g => g) (fun _ g => g) (fun _ _ _ _ _ _ g => g) () (fun _ _ _ _ => ()) v f g
theorem elimIO_eq (v : AV) (f : IntKind → Nat → Res) (g : Res) : elimIO v f g = ifB (isIntV v) (elimInt v f) g := by cases v <;> rfl
noncomputable def fMove (f : T AV → Option AV) : HdF := fun _ s h k => bindV (f s) fun v => k v h
noncomputable def wMove (x : Operand) : WH := WG.rec (motive := fun _ => WH) (fun f => .mk (fMove f)) (lookW x)
theorem wMove_eq (x : Operand) : wMove x = .mk (pl (hMove x)) := by unfold wMove; rw [lookW_eq]; rfl
noncomputable def fBin (op : BinOp) (t : Nat) (hb : HB) (ok : IntKind → IntKind → Bool) (f g : T AV → Option AV) : HdF := fun _ s h k => bindV (f s) fun v => bindV (g s) fun w => elimIO v (fun k1 a => elimInt w fun k2 b => when_ (ok k1 k2) (hb k1 a k2 b h k)) (bin2 t op v w h k)
noncomputable def wBin (op : BinOp) (t : Nat) (x y : Operand) : WH := WB.rec (motive := fun _ => WH) (fun hb ok => WG.rec (motive := fun _ => WH) (fun f => WG.rec (motive := fun _ => WH) (fun g => .mk (fBin op t hb ok f g)) (lookW y)) (lookW x)) (binW op)
theorem wBin_eq (op : BinOp) (t : Nat) (x y : Operand) (ty : Nat) : wBin op t x y = .mk (pl (hBin op t x y ty)) := by
 unfold wBin
 rw [lookW_eq, lookW_eq, binW_eq]
 show WH.mk _ = WH.mk _
 congr 1
 funext c s h k
 show bindV (look s x) (fun v => bindV (look s y) fun w => elimIO v (fun k1 a => elimInt w fun k2 b => when_ (kOk op k1 k2) (binI op k1 a k2 b h k)) (bin2 t op v w h k)) = bindV (look s x) (fun v => bindV (look s y) fun w => ifB (isIntV v) (elimInt v fun k1 a => elimInt w fun k2 b => when_ (kOk op k1 k2) (binI op k1 a k2 b h k)) (bin2 t op v w h k))
 simp only [elimIO_eq]
noncomputable def fLoad1 (f : T AV → Option AV) : HdF := fun _ s h k => bindV (f s) fun v => elimPtr v fun b o => cellsB h b fun _ _ c => bindV (cellAt c o) fun v => k v h
noncomputable def fLoadA (n : Nat) (f : T AV → Option AV) : HdF := fun _ s h k => bindV (f s) fun v => elimPtr v fun b o => cellsB h b fun _ _ c => loadL n o c fun vs => k (.agg vs) h
noncomputable def fNone : HdF := fun _ _ _ _ => none
noncomputable def wLoad (t : Nat) (x : Operand) : WH := Option.rec (motive := fun _ => WH) (.mk fNone) (fun i => WG.rec (motive := fun _ => WH) (fun f => Bool.rec (motive := fun _ => WH) (.mk (fLoad1 f)) (.mk (fLoadA i.size f)) (isAggD i.d)) (lookW x)) (tt.get (qB t))
theorem wLoad_eq (t : Nat) (x : Operand) : wLoad t x = .mk (pl (hLoad t x)) := by
 unfold wLoad
 rw [lookW_eq]
 cases hi : tt.get (qB t) with
 | none =>
  show WH.mk _ = WH.mk _
  congr 1
  funext c s h k
  show none = ti t _
  unfold ti
  rw [hi]
  rfl
 | some i =>
  cases hb : isAggD i.d with
  | false =>
   show Bool.rec (motive := fun _ => WH) _ _ (isAggD i.d) = _
   rw [hb]
   show WH.mk _ = WH.mk _
   congr 1
   funext c s h k
   show _ = ti t _
   unfold ti
   rw [hi]
   show _ = lookP s x fun b o => cellsB h b fun _ _ c => ifB (isAggD i.d) (loadL i.size o c fun vs => k (.agg vs) h) (bindV (cellAt c o) fun v => k v h)
   rw [hb]
   rfl
  | true =>
   show Bool.rec (motive := fun _ => WH) _ _ (isAggD i.d) = _
   rw [hb]
   show WH.mk _ = WH.mk _
   congr 1
   funext c s h k
   show _ = ti t _
   unfold ti
   rw [hi]
   show _ = lookP s x fun b o => cellsB h b fun _ _ c => ifB (isAggD i.d) (loadL i.size o c fun vs => k (.agg vs) h) (bindV (cellAt c o) fun v => k v h)
   rw [hb]
   rfl
noncomputable def fStore (n0 : Nat) (f g : T AV → Option AV) : HdF := fun _ s h k => bindV (f s) fun v => elimPtr v fun b o => bindV (g s) fun v => cellsB h b fun n sz c => cellsK v fun vs =>
 when_ (Nat.beq vs.length n0 && Nat.ble (Nat.add o n0) n) (k (.tup []) (setB h b (some (.cells n sz (storeL vs o c)))))
noncomputable def wStore (t : Nat) (x y : Operand) : WH := Option.rec (motive := fun _ => WH) (.mk fNone) (fun i => WG.rec (motive := fun _ => WH) (fun f => WG.rec (motive := fun _ => WH) (fun g => .mk (fStore i.size f g)) (lookW y)) (lookW x)) (tt.get (qB t))
theorem wStore_eq (t : Nat) (x y : Operand) : wStore t x y = .mk (pl (hStore t x y)) := by
 unfold wStore
 rw [lookW_eq, lookW_eq]
 cases hi : tt.get (qB t) with
 | none =>
  show WH.mk _ = WH.mk _
  congr 1
  funext c s h k
  show none = ti t _
  unfold ti
  rw [hi]
  rfl
 | some i =>
  show WH.mk _ = WH.mk _
  congr 1
  funext c s h k
  show _ = ti t _
  unfold ti
  rw [hi]
  rfl
noncomputable def fFA (off : Nat) (f : T AV → Option AV) : HdF := fun _ s h k => bindV (f s) fun v => elimPtr v fun b o => forceK (Nat.add o off) fun o' => k (.ptr b o') h
def faOf (i : TI) (j : Nat) : Option Nat := match i.d with
 | .st fs => match fs[j]? with
  | some (off, size, _) => cond (Nat.beq size 0) none (some off)
  | none => none
 | _ => none
noncomputable def wFieldAddr (t : Nat) (x : Operand) (j : Nat) : WH := Option.rec (motive := fun _ => WH) (.mk fNone) (fun i => Option.rec (motive := fun _ => WH) (.mk (pl (hFieldAddr t x j))) (fun off => WG.rec (motive := fun _ => WH) (fun f => .mk (fFA off f)) (lookW x)) (faOf i j)) (tt.get (qB t))
theorem wFieldAddr_eq (t : Nat) (x : Operand) (j : Nat) : wFieldAddr t x j = .mk (pl (hFieldAddr t x j)) := by
 unfold wFieldAddr
 rw [lookW_eq]
 cases hi : tt.get (qB t) with
 | none =>
  show WH.mk _ = WH.mk _
  congr 1
  funext c s h k
  show none = ti t _
  unfold ti
  rw [hi]
  rfl
 | some i =>
  show Option.rec (motive := fun _ => WH) _ _ (faOf i j) = _
  cases hf : faOf i j with
  | none => rfl
  | some off =>
   show WH.mk _ = WH.mk _
   congr 1
   funext c s h k
   show _ = ti t _
   unfold ti
   rw [hi]
   unfold faOf at hf
   show _ = (match i.d with
    | .st fs => lookP s x fun b o => match fs[j]? with
     | some (off, size, _) => ifB (Nat.beq size 0) none (forceK (Nat.add o off) fun o' => k (.ptr b o') h)
     | none => none
    | _ => none)
   split at hf
   ·rename_i fs hd
    split at hf
    ·rename_i off' size ag hfj
     cases hs : Nat.beq size 0 with
     | true => rw [hs] at hf; cases hf
     | false =>
      rw [hs] at hf
      injection hf with hf
      subst hf
      rfl
    ·cases hf
   ·cases hf
noncomputable def fExtract (i : Nat) (f : T AV → Option AV) : HdF := fun _ s h k => bindV (f s) fun v => elimTup v fun vs => bindV vs[i]? fun v => k v h
noncomputable def wExtract (x : Operand) (i : Nat) : WH := WG.rec (motive := fun _ => WH) (fun f => .mk (fExtract i f)) (lookW x)
theorem wExtract_eq (x : Operand) (i : Nat) : wExtract x i = .mk (pl (hExtract x i)) := by unfold wExtract; rw [lookW_eq]; rfl
noncomputable def putO (d : Option Nat) : WP := Option.rec (motive := fun _ => WP) (.mk fun s _ => s) (fun d => putW (qOf d)) d
theorem putO_eq (d : Option Nat) : putO d = .mk (fun s x => match d with | none => s | some d => s.put x (qOf d)) := by
 cases d with
 | none => rfl
 | some d => exact putW_eq _
noncomputable def fOp (hd : HdF) (put : PT) (rest : OpsF) : OpsF := fun call s h k => hd call s h fun v h => rest call (put s (some v)) h k
noncomputable def w1 (f : Cd → Cd) (a : WC) : WC := WC.rec (motive := fun _ => WC) (fun a => .mk (f a)) a
noncomputable def w2 (f : Cd → Cd → Cd) (a b : WC) : WC := WC.rec (motive := fun _ => WC) (fun a => WC.rec (motive := fun _ => WC) (fun b => .mk (f a b)) b) a
noncomputable def fCond (f : T AV → Option AV) (rt re : Cd) : Cd := fun call run rd s ds h k => bindV (f s) fun c => elimBool c (rt call run rd s ds h k) (re call run rd s ds h k)
noncomputable def wCond (c : Operand) (_ _ : Code) (a b : WC) : WC := WG.rec (motive := fun _ => WC) (fun f => w2 (fCond f) a b) (lookW c)
end Go.Ev
end
section
namespace Go.Ev
open Go
theorem forceN1_eq (a : Nat) (f : Nat → Nat) : forceN1 a f = f a := by cases a <;> rfl
theorem lenF_go {β : Type} : ∀ (l : List β) (n : Nat), (List.rec (motive := fun _ => Nat → Nat) (fun n => n) (fun _ _ ih n => forceN1 (Nat.add n 1) ih) l n : Nat) = n + l.length
 | [], n => rfl
 | a :: l, n => by
  show forceN1 (Nat.add n 1) (fun n => (List.rec (motive := fun _ => Nat → Nat) (fun n => n) (fun _ _ ih n => forceN1 (Nat.add n 1) ih) l n : Nat)) = _
  rw [forceN1_eq, lenF_go l, List.length_cons, show Nat.add n 1 = n + 1 from rfl]
  omega
theorem lenF_eq {β : Type} (l : List β) : lenF l = l.length := by
 unfold lenF
 rw [lenF_go]
 omega
theorem forceK_eq' (a : Nat) (f : Nat → Res) : forceK a f = f a := by cases a <;> rfl
noncomputable def forceT (t : T AV) (f : T AV → T AV) : T AV := T.rec (motive_1 := fun _ => (T AV → T AV) → T AV) (motive_2 := fun _ => Unit) (fun f => f .leaf) (fun v ch _ f => f (.node v ch)) T.mU t f
theorem forceT_eq (t : T AV) (f : T AV → T AV) : forceT t f = f t := by cases t <;> rfl
noncomputable def forceM (a : Nat) (f : Nat → T AV) : T AV := Nat.rec (motive := fun _ => (Nat → T AV) → T AV) (fun f => f 0) (fun p _ f => f (Nat.succ p)) a f
theorem forceM_eq (a : Nat) (f : Nat → T AV) : forceM a f = f a := by cases a <;> rfl
noncomputable def storeF (vs : List AV) (o : Nat) (t : T AV) : T AV :=
 List.rec (motive := fun _ => Nat → T AV → T AV) (fun _ t => t) (fun v _ ih o t => forceT (t.put (some v) (qOf o)) fun t => forceM (Nat.add o 1) fun o => ih o t) vs o t
theorem storeF_eq : ∀ (vs : List AV) (o : Nat) (t : T AV), storeF vs o t = storeL vs o t
 | [], _, _ => rfl
 | v :: vs, o, t => by
  show forceT (t.put (some v) (qOf o)) (fun t => forceM (Nat.add o 1) fun o => storeF vs o t) = storeL vs (Nat.add o 1) (t.put (some v) (qOf o))
  rw [forceT_eq, forceM_eq, storeF_eq vs]
noncomputable def zOkF (i : TI) : Bool := forceN1 (lenF i.zero) (fun n => cond (Nat.beq n i.size && Nat.blt 0 i.size) 1 0) |>.beq 1
theorem zOkF_eq (i : TI) : zOkF i = zOk i := by
 unfold zOkF zOk
 rw [forceN1_eq, lenF_eq]
 cases (Nat.beq i.zero.length i.size && Nat.blt 0 i.size) <;> rfl
noncomputable def fillF (parts : List (Nat × Operand)) (s : T AV) (place : Nat → Option (Nat × Nat)) (cs : List AV) (k : List AV → Res) : Res :=
 List.rec (motive := fun _ => List AV → Res) (fun cs => k cs) (fun p _ ih cs => match place p.1 with
  | some (off, size) => lookK s p.2 fun v => cellsK v fun vs => when_ (Nat.beq (lenF vs) size && Nat.ble (Nat.add off size) (lenF cs)) (ih (setAt cs vs off))
  | none => none) parts cs
theorem fillF_eq (s : T AV) (place : Nat → Option (Nat × Nat)) (k : List AV → Res) : ∀ (parts : List (Nat × Operand)) (cs : List AV), fillF parts s place cs k = fillL parts s place cs k
 | [], cs => rfl
 | p :: parts, cs => by
  show (match place p.1 with
   | some (off, size) => lookK s p.2 fun v => cellsK v fun vs => when_ (Nat.beq (lenF vs) size && Nat.ble (Nat.add off size) (lenF cs)) (fillF parts s place (setAt cs vs off) k)
   | none => none) = (match place p.1 with
   | some (off, size) => lookK s p.2 fun v => cellsK v fun vs => when_ (Nat.beq vs.length size && Nat.ble (Nat.add off size) cs.length) (fillL parts s place (setAt cs vs off) k)
   | none => none)
  simp only [lenF_eq, fillF_eq s place k parts]
noncomputable def fBuildS (fs : List (Nat × Nat × Bool)) (z : List AV) (parts : List (Nat × Operand)) : HdF := fun _ s h k => fillF parts s (placeSt fs) z fun cs => k (.agg cs) h
def stOf (i : TI) : Option (List (Nat × Nat × Bool)) := match i.d with
 | .st fs => some fs
 | _ => none
noncomputable def wBuild (t : Nat) (parts : Array (Nat × Operand)) : WH := Option.rec (motive := fun _ => WH) (.mk fNone) (fun i => Option.rec (motive := fun _ => WH) (.mk (pl (hBuild t parts))) (fun fs => Bool.rec (motive := fun _ => WH) (.mk fNone) (.mk (fBuildS fs i.zero parts.toList)) (zOkF i)) (stOf i)) (tt.get (qB t))
theorem wBuild_eq (t : Nat) (parts : Array (Nat × Operand)) : wBuild t parts = .mk (pl (hBuild t parts)) := by
 unfold wBuild
 cases hi : tt.get (qB t) with
 | none =>
  show WH.mk _ = WH.mk _
  congr 1
  funext c s h k
  show none = ti t _
  unfold ti
  rw [hi]
  rfl
 | some i =>
  show Option.rec (motive := fun _ => WH) _ _ (stOf i) = _
  obtain ⟨d, sz, by_, z⟩ := i
  cases d with
  | st fs =>
   show Bool.rec (motive := fun _ => WH) _ _ (zOkF _) = _
   rw [zOkF_eq]
   have key : ∀ (c : Cl) (s : T AV) (h : H) (k : KV), pl (hBuild t parts) c s h k = when_ (zOk ⟨.st fs, sz, by_, z⟩) (fillL parts.toList s (placeSt fs) z fun cs => k (.agg cs) h) := fun c s h k => by
    show ti t _ = _
    unfold ti
    rw [hi]
    rfl
   cases hz : zOk ⟨.st fs, sz, by_, z⟩ with
   | false =>
    show WH.mk _ = WH.mk _
    congr 1
    funext c s h k
    rw [key, hz]
    rfl
   | true =>
    show WH.mk _ = WH.mk _
    congr 1
    funext c s h k
    rw [key, hz]
    exact fillF_eq s (placeSt fs) _ parts.toList z
  | _ => rfl
noncomputable def fBoxF (f : T AV → Option AV) : HdF := fun _ s h k => bindV (f s) fun v => cellsK v fun vs => forceK (lenF vs) fun n => laid h k mkPtr (.cells n none (storeF vs 0 .leaf))
noncomputable def wBox (x : Operand) : WH := WG.rec (motive := fun _ => WH) (fun f => .mk (fBoxF f)) (lookW x)
theorem wBox_eq (e : Nat) (x : Operand) : wBox x = .mk (pl (hBox e x)) := by
 unfold wBox
 rw [lookW_eq]
 show WH.mk _ = WH.mk _
 congr 1
 funext c s h k
 show bindV (look s x) (fun v => cellsK v fun vs => forceK (lenF vs) fun n => laid h k mkPtr (.cells n none (storeF vs 0 .leaf))) = lookK s x fun v => cellsK v fun vs => laid h k mkPtr (.cells vs.length none (treeOf vs))
 simp only [forceK_eq', lenF_eq, storeF_eq]
 rfl
noncomputable def fNil (f : T AV → Option AV) : HdF := fun _ s h k => bindV (f s) fun v => match v with
 | .ptr b o => k (.ptr b o) h
 | .fn f a b => k (.fn f a b) h
 | _ => none
noncomputable def wNil (x : Operand) : WH := WG.rec (motive := fun _ => WH) (fun f => .mk (fNil f)) (lookW x)
theorem wNil_eq (x : Operand) : wNil x = .mk (pl (hNil x)) := by unfold wNil; rw [lookW_eq]; rfl
noncomputable def fUn (op : UnOp) (f : T AV → Option AV) : HdF := fun _ s h k => bindV (f s) fun v => match op, v with
  | .not, .bool b => forceC (!b) h k
  | .neg, .int kd u => outI kd (Nat.mod (Nat.sub (M kd) u) (M kd)) h k
  | .xor, .int kd u => outI kd (Nat.sub (Nat.sub (M kd) 1) u) h k
  | _, _ => none
noncomputable def wUn (op : UnOp) (x : Operand) : WH := WG.rec (motive := fun _ => WH) (fun f => .mk (fUn op f)) (lookW x)
theorem wUn_eq (op : UnOp) (t : Nat) (x : Operand) : wUn op x = .mk (pl (hUn op t x)) := by
 unfold wUn
 rw [lookW_eq]
 show WH.mk _ = WH.mk _
 congr 1
noncomputable def fPick (c f g : T AV → Option AV) : HdF := fun _ s h k => bindV (c s) fun c => elimBool c (bindV (f s) fun v => k v h) (bindV (g s) fun v => k v h)
noncomputable def wPick (c x y : Operand) : WH := WG.rec (motive := fun _ => WH) (fun c => WG.rec (motive := fun _ => WH) (fun f => WG.rec (motive := fun _ => WH) (fun g => .mk (fPick c f g)) (lookW y)) (lookW x)) (lookW c)
theorem wPick_eq (c x y : Operand) : wPick c x y = .mk (pl (hPick c x y)) := by unfold wPick; rw [lookW_eq, lookW_eq, lookW_eq]; rfl
noncomputable def fConv (kd : IntKind) (f : T AV → Option AV) : HdF := fun _ s h k => bindV (f s) fun v => elimInt v fun ks u => ifB (isNeg ks u) (outI kd (Nat.mod (Nat.add u (Nat.sub 18446744073709551616 (M ks))) (M kd)) h k) (outI kd (Nat.mod u (M kd)) h k)
def kdOf (i : TI) : Option IntKind := match i.d with
 | .int k => some k
 | _ => none
noncomputable def wConv (t d : Nat) (x : Operand) : WH := Option.rec (motive := fun _ => WH) (.mk fNone) (fun i => Option.rec (motive := fun _ => WH) (.mk fNone) (fun kd => WG.rec (motive := fun _ => WH) (fun f => .mk (fConv kd f)) (lookW x)) (kdOf i)) (tt.get (qB d))
theorem wConv_eq (t d : Nat) (x : Operand) : wConv t d x = .mk (pl (hConv t d x)) := by
 unfold wConv
 rw [lookW_eq]
 cases hi : tt.get (qB d) with
 | none =>
  show WH.mk _ = WH.mk _
  congr 1
  funext c s h k
  show none = ti d _
  unfold ti
  rw [hi]
  rfl
 | some i =>
  show Option.rec (motive := fun _ => WH) _ _ (kdOf i) = _
  cases hf : kdOf i with
  | none =>
   show WH.mk _ = WH.mk _
   congr 1
   funext c s h k
   show none = ti d _
   unfold ti
   rw [hi]
   unfold kdOf at hf
   show none = (match i.d with
    | .int kd => lookI s x fun ks u => ifB (isNeg ks u) (outI kd (Nat.mod (Nat.add u (Nat.sub 18446744073709551616 (M ks))) (M kd)) h k) (outI kd (Nat.mod u (M kd)) h k)
    | _ => none)
   split at hf
   ·cases hf
   ·rfl
  | some kd =>
   show WH.mk _ = WH.mk _
   congr 1
   funext c s h k
   show _ = ti d _
   unfold ti
   rw [hi]
   unfold kdOf at hf
   show _ = (match i.d with
    | .int kd => lookI s x fun ks u => ifB (isNeg ks u) (outI kd (Nat.mod (Nat.add u (Nat.sub 18446744073709551616 (M ks))) (M kd)) h k) (outI kd (Nat.mod u (M kd)) h k)
    | _ => none)
   split at hf
   ·injection hf with hf
    subst hf
    rfl
   ·cases hf
noncomputable def fIA (size : Nat) (f g : T AV → Option AV) : HdF := fun _ s h k => bindV (g s) fun v => elimInt v fun ki u => bindV (f s) fun v => elimRow v fun n p => match p with
  | some (b, o) => when_ (!(isNeg ki u) && Nat.blt u n) (forceK (Nat.add o (Nat.mul u size)) fun o' => k (.ptr b o') h)
  | none => none
noncomputable def iaOf (d : TI) : Option Nat := match d.d with
 | .sl e => Option.rec (motive := fun _ => Option Nat) none (fun ei => some ei.size) (tt.get (qB e))
 | _ => none
noncomputable def wIA (t : Nat) (x i : Operand) : WH := Option.rec (motive := fun _ => WH) (.mk fNone) (fun d => Option.rec (motive := fun _ => WH) (.mk (pl (hIndexAddr t x i))) (fun size => WG.rec (motive := fun _ => WH) (fun f => WG.rec (motive := fun _ => WH) (fun g => .mk (fIA size f g)) (lookW i)) (lookW x)) (iaOf d)) (tt.get (qB t))
theorem wIA_eq (t : Nat) (x i : Operand) : wIA t x i = .mk (pl (hIndexAddr t x i)) := by
 unfold wIA
 rw [lookW_eq, lookW_eq]
 cases hi : tt.get (qB t) with
 | none =>
  show WH.mk _ = WH.mk _
  congr 1
  funext c s h k
  show none = ti t _
  unfold ti
  rw [hi]
  rfl
 | some d =>
  show Option.rec (motive := fun _ => WH) _ _ (iaOf d) = _
  cases hf : iaOf d with
  | none => rfl
  | some size =>
   show WH.mk _ = WH.mk _
   congr 1
   funext c s h k
   show _ = hIndexAddr t x i s h k
   unfold hIndexAddr ti
   rw [hi]
   unfold iaOf at hf
   obtain ⟨dd, sz, by_, z⟩ := d
   cases dd with
   | sl e =>
    change Option.rec (motive := fun _ => Option Nat) none (fun ei => some ei.size) (tt.get (qB e)) = some size at hf
    cases he : tt.get (qB e) with
    | none => rw [he] at hf; cases hf
    | some ei =>
     rw [he] at hf
     injection hf with hf
     subst hf
     show _ = lookI s i fun ki u => bindT (tt.get (qB e)) fun ei => lookK s x fun v => elimRow v fun n p => match p with
      | some (b, o) => when_ (!(isNeg ki u) && Nat.blt u n) (forceK (Nat.add o (Nat.mul u ei.size)) fun o' => k (.ptr b o') h)
      | none => none
     rw [he]
     rfl
   | _ => cases hf
inductive WL where
 | mk (f : T AV → (List AV → Res) → Res)
noncomputable def fLook (f : T AV → Option AV) (g : T AV → (List AV → Res) → Res) : T AV → (List AV → Res) → Res := fun s k => bindV (f s) fun v => g s fun vs => k (v :: vs)
noncomputable def lookLW (xs : List Operand) : WL := List.rec (motive := fun _ => WL) (.mk fun _ k => k []) (fun x _ ih => WL.rec (motive := fun _ => WL) (fun g => WG.rec (motive := fun _ => WL) (fun f => .mk (fLook f g)) (lookW x)) ih) xs
theorem lookLW_eq : ∀ xs : List Operand, lookLW xs = .mk (lookL xs)
 | [] => rfl
 | x :: xs => by
  show WL.rec (motive := fun _ => WL) (fun g => WG.rec (motive := fun _ => WL) (fun f => .mk (fLook f g)) (lookW x)) (lookLW xs) = _
  rw [lookLW_eq xs, lookW_eq]
  rfl
noncomputable def fCallV (l : T AV → (List AV → Res) → Res) (g : T AV → Option AV) : HdF := fun call s h k => l s fun args => bindV (g s) fun g => call g args h k
noncomputable def fCallB (b : Builtin) (ts : List Nat) (l : T AV → (List AV → Res) → Res) : HdF := fun _ s h k => l s fun args => evBuiltin b ts args h k
noncomputable def wCall (c : Call) : WH := Callee.rec (motive := fun _ => Call → WH) (fun f c => WL.rec (motive := fun _ => WH) (fun l => WG.rec (motive := fun _ => WH) (fun g => .mk (fCallV l g)) (lookW f)) (lookLW c.args.toList)) (fun f m c => .mk (cInvoke f m c)) (fun b c => WL.rec (motive := fun _ => WH) (fun l => .mk (fCallB b c.argTypes.toList l)) (lookLW c.args.toList)) c.callee c
theorem wCall_eq (c : Call) : wCall c = .mk (hCall c) := by
 obtain ⟨callee, args, ts⟩ := c
 cases callee with
 | value f =>
  show WL.rec (motive := fun _ => WH) (fun l => WG.rec (motive := fun _ => WH) (fun g => .mk (fCallV l g)) (lookW f)) (lookLW args.toList) = _
  rw [lookLW_eq, lookW_eq]
  rfl
 | invoke f m => rfl
 | builtin b =>
  show WL.rec (motive := fun _ => WH) (fun l => .mk (fCallB b ts.toList l)) (lookLW args.toList) = _
  rw [lookLW_eq]
  rfl
noncomputable def opX (op : Op) : WH :=
 Op.rec (motive := fun _ => WH) wMove wMove wPick (fun e => .mk (pl (hAlloc e))) (fun _ v => wBox v) wBuild (fun t l p => .mk (pl (hBuildSlice t l p)))
  (fun _ _ _ _ => .mk no_) wLoad wStore (fun _ => .mk no_) (fun _ => .mk no_) wNil (fun op t x y _ => wBin op t x y) (fun op _ x => wUn op x) wConv
  (fun _ _ => .mk no_) (fun _ _ => .mk no_) (fun f a c => .mk (pl (hMakeFunc f a c))) (fun _ _ => .mk no_) (fun _ _ => .mk no_) (fun t l c => .mk (pl (hMakeSlice t l c))) (fun t x lo hi mx => .mk (pl (hSlice t x lo hi mx))) wFieldAddr (fun t x f => .mk (pl (hField t x f)))
  wIA (fun t x i => .mk (pl (hIndex t x i))) (fun _ _ _ _ => .mk no_) (fun _ _ _ _ => .mk no_) (fun _ _ _ => .mk no_) (fun _ _ _ _ => .mk no_) (fun _ _ => .mk no_) (fun _ _ => .mk no_) (fun _ => .mk no_) (fun _ _ _ _ => .mk no_) wExtract
  wCall (fun _ => .mk no_) (fun _ => .mk no_) (fun _ => .mk no_) (fun _ _ => .mk no_) (fun _ _ _ => .mk no_) (fun _ _ => .mk no_) op
theorem opX_eq (op : Op) : opX op = .mk (evO op) := by
 cases op <;> first | rfl | exact wMove_eq _ | exact wLoad_eq _ _ | exact wStore_eq _ _ _ | exact wBin_eq _ _ _ _ _ | exact wFieldAddr_eq _ _ _ | exact wExtract_eq _ _ | exact wPick_eq _ _ _ | exact wNil_eq _ | exact wUn_eq _ _ _ | exact wConv_eq _ _ _ | exact wIA_eq _ _ _ | exact wCall_eq _ | exact wBuild_eq _ _ | exact wBox_eq _ _
noncomputable def putF (d : Option Nat) : PT := fun s x => Option.rec (motive := fun _ => T AV) s (fun d => s.put x (qOf d)) d
theorem putF_eq (d : Option Nat) : putO d = .mk (putF d) := by
 rw [putO_eq]
 congr 1
 funext s x
 cases d <;> rfl
theorem setN_eq (s : T AV) (d : Option Nat) (v : AV) : setN s d v = putF d s (some v) := by cases d <;> rfl
noncomputable def fGuardX (f : T AV → Option AV) (want : Bool) (hd : HdF) (put : PT) (rest : OpsF) : OpsF := fun call s h k => guardK (f s) want (hd call s h fun v h => rest call (put s (some v)) h k) (rest call (put s (some (.tup []))) h k)
def gOf (all : List Oper) (j : Nat) : Option Nat := match all[j]? with
 | some oj => oj.dst
 | none => none
noncomputable def opsX (all : List Oper) (ops : List Oper) : WO := List.rec (motive := fun _ => WO) (.mk fun _ s h k => k s h) (fun o _ ih => WO.rec (motive := fun _ => WO) (fun rest => WH.rec (motive := fun _ => WO) (fun hd => WP.rec (motive := fun _ => WO) (fun put =>
 Option.rec (motive := fun _ => WO) (.mk (fOp hd put rest)) (fun g => Option.rec (motive := fun _ => WO) (.mk fun _ _ _ _ => none) (fun d => WG.rec (motive := fun _ => WO) (fun f => .mk (fGuardX f g.2 hd put rest)) (getW (qOf d))) (gOf all g.1)) o.guard) (putO o.dst)) (opX o.op)) ih) ops
theorem opsX_eq (all : List Oper) : ∀ ops : List Oper, opsX all ops = .mk (evOps ops all)
 | [] => rfl
 | o :: ops => by
  show WO.rec (motive := fun _ => WO) (fun rest => WH.rec (motive := fun _ => WO) (fun hd => WP.rec (motive := fun _ => WO) (fun put =>
   Option.rec (motive := fun _ => WO) (.mk (fOp hd put rest)) (fun g => Option.rec (motive := fun _ => WO) (.mk fun _ _ _ _ => none) (fun d => WG.rec (motive := fun _ => WO) (fun f => .mk (fGuardX f g.2 hd put rest)) (getW (qOf d))) (gOf all g.1)) o.guard) (putO o.dst)) (opX o.op)) (opsX all ops) = .mk (opsCons o (evOps ops) all)
  rw [opsX_eq all ops, opX_eq, putF_eq]
  show Option.rec (motive := fun _ => WO) _ _ o.guard = _
  unfold opsCons
  cases hg : o.guard with
  | none =>
   show WO.mk _ = WO.mk _
   congr 1
   funext call s h k
   show evO o.op call s h _ = evO o.op call s h _
   congr 1
   funext v h
   cases o.dst <;> rfl
  | some g =>
   show Option.rec (motive := fun _ => WO) _ _ (gOf all g.1) = WO.mk (gSome g o (evOps ops) all)
   cases hgo : gOf all g.1 with
   | none =>
    show WO.mk _ = WO.mk _
    congr 1
    funext call s h k
    show none = gSome g o (evOps ops) all call s h k
    unfold gSome
    unfold gOf at hgo
    cases hj : all[g.1]? with
    | none => rfl
    | some oj => rw [hj] at hgo; dsimp only at hgo ⊢; rw [hgo]
   | some d =>
    show WG.rec (motive := fun _ => WO) (fun f => .mk (fGuardX f g.2 (evO o.op) (putF o.dst) (evOps ops all))) (getW (qOf d)) = _
    rw [getW_eq]
    show WO.mk _ = WO.mk _
    congr 1
    funext call s h k
    unfold gOf at hgo
    show fGuardX _ g.2 _ _ _ call s h k = gSome g o (evOps ops) all call s h k
    unfold fGuardX gSome
    cases hj : all[g.1]? with
    | none => rw [hj] at hgo; cases hgo
    | some oj =>
     rw [hj] at hgo
     dsimp only at hgo ⊢
     rw [hgo]
     cases o.dst <;> rfl
inductive WD where
 | mk (f : Cl → DK)
noncomputable def runH (w : WH) (call : Cl) (s : T AV) (h : H) (k : KV) : Res := WH.rec (motive := fun _ => Cl → T AV → H → KV → Res) (fun f => f) w call s h k
noncomputable def readsX (op : Op) (s : T AV) (h : H) (v : AV) (r : Res) : Res := bindR2 (runH (opX op) call0 s h idk) fun w => when_ (eqAV w v) r
theorem readsX_eq (op : Op) (s : T AV) (h : H) (v : AV) (r : Res) : readsX op s h v r = reads op s h v r := by unfold readsX; rw [opX_eq]; rfl
noncomputable def chkVX (e : Rd) (fa : FA) (es : Es) (vs : List Vr) (r : Res) : Res :=
 List.rec (motive := fun _ => Res) r (fun p _ ih => ifB (compat e.j e.bj p.c es) (readsX e.op e.s (withF p.h p.mg fa e.bj) e.v ih) ih) vs
noncomputable def chkRX (fa : FA) (es : Es) (vs : List Vr) (rd : List Rd) (r : Res) : Res :=
 List.rec (motive := fun _ => Res) r (fun e _ ih => chkVX e fa es vs ih) rd
theorem chkVX_eq (e : Rd) (fa : FA) (es : Es) (r : Res) : ∀ vs : List Vr, chkVX e fa es vs r = chkV e fa es vs r
 | [] => rfl
 | p :: vs => by
  show ifB (compat e.j e.bj p.c es) (readsX e.op e.s (withF p.h p.mg fa e.bj) e.v (chkVX e fa es vs r)) (chkVX e fa es vs r) = _
  rw [readsX_eq, chkVX_eq e fa es r vs]
  rfl
theorem chkRX_eq (fa : FA) (es : Es) (vs : List Vr) (r : Res) : ∀ rd : List Rd, chkRX fa es vs rd r = chkR fa es vs rd r
 | [] => rfl
 | e :: rd => by
  show chkVX e fa es vs (chkRX fa es vs rd r) = chkV e fa es vs (chkR fa es vs rd r)
  rw [chkVX_eq, chkRX_eq fa es vs r rd]
noncomputable def xdNil : Cl → DK := fun _ _ s h mg fa vs es rd _ k => chkRX fa es vs rd (k s (withA h mg fa))
noncomputable def xdFloat (op : Op) (put : PT) (ih : Cl → DK) : Cl → DK := fun call i s h mg fa vs es rd ids k => match ids with
 | id :: ids => evFloat op s fun mk b => ih call (Nat.succ i) (put s (some (mk id))) h mg ((i, id, b) :: fa) vs es rd ids k
 | [] => none
noncomputable def xdEff (hd : HdF) (bi : Nat) (put : PT) (ih : Cl → DK) : Cl → DK := fun call i s h mg fa vs es rd ids k =>
 when_ (es.all fun e => tb bi e.1) (bindR3 (hd call s (withF h mg fa bi) idk) fun v h' =>
   forceK (Nat.lor mg bi) fun mg' => ih call (Nat.succ i) (put s (some v)) h' mg' fa (⟨Nat.succ i, h', mg'⟩ :: vs) ((i, bi) :: es) rd ids k)
noncomputable def xdRead (op : Op) (hd : HdF) (bi : Nat) (put : PT) (ih : Cl → DK) : Cl → DK := fun call i s h mg fa vs es rd ids k =>
 bindR2 (hd call0 s (withF h mg fa bi) idk) fun v => ih call (Nat.succ i) (put s (some v)) h mg fa vs es (⟨i, bi, op, s, v⟩ :: rd) ids k
noncomputable def xdPlain (hd : HdF) (put : PT) (ih : Cl → DK) : Cl → DK := fun call i s h mg fa vs es rd ids k => bindR2 (hd call0 s ⟨.leaf, .h⟩ idk) fun v => ih call (Nat.succ i) (put s (some v)) h mg fa vs es rd ids k
noncomputable def xdSkip (put : PT) (ih : Cl → DK) : Cl → DK := fun call i s h mg fa vs es rd ids k => ih call (Nat.succ i) (put s (some (.tup []))) h mg fa vs es rd ids k
noncomputable def xdGuard (f : T AV → Option AV) (want : Bool) (a b : Cl → DK) : Cl → DK := fun call i s h mg fa vs es rd ids k => guardK (f s) want (a call i s h mg fa vs es rd ids k) (b call i s h mg fa vs es rd ids k)
noncomputable def xdNone : Cl → DK := fun _ _ _ _ _ _ _ _ _ _ _ => none
noncomputable def xdStep (op : Op) (hd : HdF) (bi : Nat) (put : PT) (ih : Cl → DK) : WD := Cls.rec (motive := fun _ => WD) (.mk (xdFloat op put ih)) (.mk (xdEff hd bi put ih)) (.mk (xdRead op hd bi put ih)) (.mk (xdPlain hd put ih)) (clsOf op)
noncomputable def xdOne (all : List Oper) (p : Oper × Nat) (put : PT) (ih : Cl → DK) (w : WD) : WD := Option.rec (motive := fun _ => WD) w (fun g => Option.rec (motive := fun _ => WD) (.mk xdNone) (fun d => WG.rec (motive := fun _ => WD) (fun f => WD.rec (motive := fun _ => WD) (fun a => .mk (xdGuard f g.2 a (xdSkip put ih))) w) (getW (qOf d))) (gOf all g.1)) p.1.guard
noncomputable def dX (all : List Oper) (ops : List (Oper × Nat)) : WD := List.rec (motive := fun _ => WD) (.mk xdNil) (fun p _ ih => WD.rec (motive := fun _ => WD) (fun ih => WH.rec (motive := fun _ => WD) (fun hd => WP.rec (motive := fun _ => WD) (fun put => xdOne all p put ih (xdStep p.1.op hd p.2 put ih)) (putO p.1.dst)) (opX p.1.op)) ih) ops
theorem xdStep_eq (o : Oper) (bi : Nat) (ih : Cl → DK) : xdStep o.op (evO o.op) bi (putF o.dst) ih = .mk (fun call => dStep call o bi (ih call) (clsOf o.op)) := by
 unfold xdStep
 cases hc : clsOf o.op with
 | float =>
  show WD.mk _ = WD.mk _
  congr 1
  funext call i s h mg fa vs es rd ids k
  show xdFloat _ _ _ call i s h mg fa vs es rd ids k = dFloat o (ih call) i s h mg fa vs es rd ids k
  unfold xdFloat dFloat
  cases ids with
  | nil => rfl
  | cons id ids => simp only [setN_eq]
 | eff =>
  show WD.mk _ = WD.mk _
  congr 1
  funext call i s h mg fa vs es rd ids k
  show xdEff _ _ _ _ call i s h mg fa vs es rd ids k = dEff call o bi (ih call) i s h mg fa vs es rd ids k
  unfold xdEff dEff
  simp only [setN_eq]
 | read =>
  show WD.mk _ = WD.mk _
  congr 1
  funext call i s h mg fa vs es rd ids k
  show xdRead _ _ _ _ _ call i s h mg fa vs es rd ids k = dRead o bi (ih call) i s h mg fa vs es rd ids k
  unfold xdRead dRead
  simp only [setN_eq]
 | plain =>
  show WD.mk _ = WD.mk _
  congr 1
  funext call i s h mg fa vs es rd ids k
  show xdPlain _ _ _ call i s h mg fa vs es rd ids k = dPlain o (ih call) i s h mg fa vs es rd ids k
  unfold xdPlain dPlain
  simp only [setN_eq]
theorem dX_eq (all : List Oper) : ∀ ops : List (Oper × Nat), dX all ops = .mk (fun call => dGo call all ops)
 | [] => by
  show WD.mk _ = WD.mk _
  congr 1
  funext call i s h mg fa vs es rd ids k
  show xdNil call i s h mg fa vs es rd ids k = dNil i s h mg fa vs es rd ids k
  unfold xdNil dNil
  rw [chkRX_eq]
 | p :: ops => by
  show WD.rec (motive := fun _ => WD) (fun ih => WH.rec (motive := fun _ => WD) (fun hd => WP.rec (motive := fun _ => WD) (fun put => xdOne all p put ih (xdStep p.1.op hd p.2 put ih)) (putO p.1.dst)) (opX p.1.op)) (dX all ops) = .mk (fun call => dOne call all p (dGo call all ops))
  rw [dX_eq all ops, opX_eq, putF_eq]
  show xdOne all p _ _ (xdStep p.1.op (evO p.1.op) p.2 _ _) = _
  rw [xdStep_eq]
  unfold xdOne
  cases hg : p.1.guard with
  | none =>
   show WD.mk _ = WD.mk _
   congr 1
   funext call i s h mg fa vs es rd ids k
   unfold dOne
   rw [hg]
  | some g =>
   obtain ⟨j, want⟩ := g
   show Option.rec (motive := fun _ => WD) _ _ (gOf all j) = _
   cases hgo : gOf all j with
   | none =>
    show WD.mk _ = WD.mk _
    congr 1
    funext call i s h mg fa vs es rd ids k
    show none = dOne call all p (dGo call all ops) i s h mg fa vs es rd ids k
    unfold dOne
    rw [hg]
    unfold gOf at hgo
    dsimp only
    cases hj : all[j]? with
    | none => rfl
    | some oj => rw [hj] at hgo; dsimp only at hgo ⊢; rw [hgo]
   | some d =>
    show WG.rec (motive := fun _ => WD) (fun f => .mk (xdGuard f want (fun call => dStep call p.1 p.2 (dGo call all ops) (clsOf p.1.op)) (xdSkip (putF p.1.dst) fun call => dGo call all ops))) (getW (qOf d)) = _
    rw [getW_eq]
    show WD.mk _ = WD.mk _
    congr 1
    funext call i s h mg fa vs es rd ids k
    show xdGuard _ want _ _ call i s h mg fa vs es rd ids k = dOne call all p (dGo call all ops) i s h mg fa vs es rd ids k
    unfold dOne
    rw [hg]
    unfold gOf at hgo
    dsimp only
    cases hj : all[j]? with
    | none => rw [hj] at hgo; cases hgo
    | some oj =>
     rw [hj] at hgo
     dsimp only at hgo ⊢
     rw [hgo]
     show guardK _ _ _ (xdSkip _ _ call i s h mg fa vs es rd ids k) = guardK _ _ _ (dSkip p.1 (dGo call all ops) i s h mg fa vs es rd ids k)
     unfold xdSkip dSkip
     rw [setN_eq]
noncomputable def xPlainW (ops : Array Oper) : WC := WO.rec (motive := fun _ => WC) (fun f => .mk fun call _ _ s ds h k => f call s h fun s h => k .normal s ds h) (opsX ops.toList ops.toList)
noncomputable def fDraw (n : Nat) (f : Cl → DK) : Cd := fun call _ _ s ds h k => namesK n h.n fun ids nx => f call 0 s ⟨h.t, nx⟩ 0 [] [⟨0, ⟨h.t, nx⟩, 0⟩] [] [] ids fun s h => k .normal s ds h
noncomputable def xDrawW (ops : Array Oper) : WC := WD.rec (motive := fun _ => WC) (fun f => .mk (fDraw (ops.toList.countP fun o => isFloat o.op) f)) (dX ops.toList (ops.toList.zip (befs ops.toList [])))
noncomputable def regionX : Nat → Array Oper → Bool → WC := fun _ ops dr => Bool.rec (motive := fun _ => Array Oper → WC) xPlainW xDrawW dr ops
noncomputable def codeX (c : Code) : WC := Code.rec (motive := fun _ => WC) (.mk xSkip) regionX (fun a b x y => w2 (xSeq a b) x y) wCond (fun id a x => w1 (xBlock id a) x) (fun a x => w1 (xLoop a) x) (fun f ps a b x y => w2 (xRange f ps a b) x y) (fun id => .mk (xExit id)) (fun a x => w1 (xScope a) x) (fun l => .mk (xLabel l)) (fun _ => .mk xNo) (.mk xRet) (fun _ => .mk xNo) c
theorem regionX_eq (id : Nat) (ops : Array Oper) (dr : Bool) : regionX id ops dr = .mk (xRegion id ops dr) := by
 cases dr with
 | true =>
  show xDrawW ops = _
  unfold xDrawW
  rw [dX_eq]
  rfl
 | false =>
  show xPlainW ops = _
  unfold xPlainW
  rw [opsX_eq]
  rfl
theorem codeX_eq (c : Code) : codeX c = .mk (evC c) := by
 induction c with
 | region id ops dr => exact regionX_eq id ops dr
 | seq a b iha ihb =>
  show w2 (xSeq a b) (codeX a) (codeX b) = _
  rw [iha, ihb]; rfl
 | cond c a b iha ihb =>
  show wCond c a b (codeX a) (codeX b) = _
  rw [iha, ihb]
  unfold wCond
  rw [lookW_eq]; rfl
 | block id a iha =>
  show w1 (xBlock id a) (codeX a) = _
  rw [iha]; rfl
 | loop a iha =>
  show w1 (xLoop a) (codeX a) = _
  rw [iha]; rfl
 | rangeFunc f ps a b iha ihb =>
  show w2 (xRange f ps a b) (codeX a) (codeX b) = _
  rw [iha, ihb]; rfl
 | scope a iha =>
  show w1 (xScope a) (codeX a) = _
  rw [iha]; rfl
 | _ => rfl
noncomputable def runY (F : TB Fn) (again : Run) : Run := fun c rd s ds h k => WC.rec (motive := fun _ => Cl → Run → Bool → T AV → List Q → H → KX → Res) (fun f => f) (codeX c) (evCall F again) again rd s ds h k
noncomputable def runX (F : TB Fn) (n : Nat) : Run := Nat.rec (motive := fun _ => Run) run0 (fun _ again => runY F again) n
theorem runX_eq (F : TB Fn) : ∀ n, runX F n = run F n
 | 0 => rfl
 | n + 1 => by
  show runY F (runX F n) = runS F (run F n)
  rw [runX_eq F n]
  funext c rd s ds h k
  unfold runY
  rw [codeX_eq]
  rfl
end Go.Ev
end
