/- A part of the proof of WholeFaults. -/
import Derived.Test.YtekjehbkmlodmaaGreatZR
import Derived.KernelRfl
import Derived.Test.YtekjehbkmlodmaaGreatZS
set_option linter.unusedVariables false
set_option linter.unusedSimpArgs false
section
namespace Go.Ev
open Go
noncomputable def chkFn (f : Func) : Bool := match f.body with
 | some b => okC f.ntmps b && !(f.name == "runtime.NumGoroutine")
 | none => false
theorem fnok {f : Nat} {fu : Func} (h : PP.funcs[f]? = some fu) (c : chkFn fu = true) : ∀ fn, fnOf fu = some fn → FnOK f fn := by
 intro fn e
 unfold chkFn at c
 unfold fnOf at e
 cases hb : fu.body with
 | none => rw [hb] at e; cases e
 | some b =>
  rw [hb] at e c
  injection e with e
  subst e
  rw [Bool.and_eq_true] at c
  exact .inr ⟨fu, b, h, by simpa using c.2, hb, rfl, rfl, c.1⟩
def AllB (P : Nat → Fn → Prop) : TB Fn → Nat → Nat → Prop
 | .leaf, _, _ => True
 | .node l v r, b, m => (∀ x, v = some x → P b x) ∧ AllB P l (b + m) (2 * m) ∧ AllB P r (b + 2 * m) (2 * m)
theorem allB_get {P : Nat → Fn → Prop} : ∀ (t : TB Fn) (b m : Nat) (p : QB) (x : Fn), AllB P t b m → t.get p = some x → P (b + m * p.toN) x
 | .leaf, _, _, p, i, _, h => by simp at h
 | .node l v r, b, m, .h, i, hc, h => by
  simp only [TB.get_h] at h
  simpa [QB.toN] using hc.1 i h
 | .node l v r, b, m, .o p, i, hc, h => by
  simp only [TB.get_o] at h
  have := allB_get l _ _ p i hc.2.1 h
  rw [show b + m * (QB.o p).toN = b + m + 2 * m * p.toN by simp only [QB.toN, Nat.mul_add, Nat.mul_one]; rw [Nat.mul_comm 2 m, Nat.mul_assoc]; omega]
  exact this
 | .node l v r, b, m, .i p, i, hc, h => by
  simp only [TB.get_i] at h
  have := allB_get r _ _ p i hc.2.2 h
  rw [show b + m * (QB.i p).toN = b + 2 * m + 2 * m * p.toN by simp only [QB.toN, Nat.mul_add]; rw [Nat.mul_comm 2 m, Nat.mul_assoc]; omega]
  exact this
theorem ftOK_of {t : TB Fn} (h : AllB FnOK t 0 1) : FtOK t := fun f fn e => by
 have := allB_get t 0 1 _ fn h e
 rw [toN_qB, Nat.zero_add, Nat.one_mul] at this
 exact this
theorem ok3 : chkFn Proofs.Tryz.f3 = true := by kernel_rfl
theorem fok3 : ∀ fn, fnOf Proofs.Tryz.f3 = some fn → FnOK 3 fn := fnok Proofs.Tryz.func3 ok3
theorem ok4 : chkFn Proofs.Tryz.f4 = true := by kernel_rfl
theorem fok4 : ∀ fn, fnOf Proofs.Tryz.f4 = some fn → FnOK 4 fn := fnok Proofs.Tryz.func4 ok4
theorem ok5 : chkFn Proofs.Tryz.f5 = true := by kernel_rfl
theorem fok5 : ∀ fn, fnOf Proofs.Tryz.f5 = some fn → FnOK 5 fn := fnok Proofs.Tryz.func5 ok5
theorem ok6 : chkFn Proofs.Tryz.f6 = true := by kernel_rfl
theorem fok6 : ∀ fn, fnOf Proofs.Tryz.f6 = some fn → FnOK 6 fn := fnok Proofs.Tryz.func6 ok6
theorem ok7 : chkFn Proofs.Tryz.f7 = true := by kernel_rfl
theorem fok7 : ∀ fn, fnOf Proofs.Tryz.f7 = some fn → FnOK 7 fn := fnok Proofs.Tryz.func7 ok7
theorem ok8 : chkFn Proofs.Tryz.f8 = true := by kernel_rfl
theorem fok8 : ∀ fn, fnOf Proofs.Tryz.f8 = some fn → FnOK 8 fn := fnok Proofs.Tryz.func8 ok8
theorem ok9 : chkFn Proofs.Tryz.f9 = true := by kernel_rfl
theorem fok9 : ∀ fn, fnOf Proofs.Tryz.f9 = some fn → FnOK 9 fn := fnok Proofs.Tryz.func9 ok9
theorem ok10 : chkFn Proofs.Tryz.f10 = true := by kernel_rfl
theorem fok10 : ∀ fn, fnOf Proofs.Tryz.f10 = some fn → FnOK 10 fn := fnok Proofs.Tryz.func10 ok10
theorem ok11 : chkFn Proofs.Tryz.f11 = true := by kernel_rfl
theorem fok11 : ∀ fn, fnOf Proofs.Tryz.f11 = some fn → FnOK 11 fn := fnok Proofs.Tryz.func11 ok11
theorem ok12 : chkFn Proofs.Tryz.f12 = true := by kernel_rfl
theorem fok12 : ∀ fn, fnOf Proofs.Tryz.f12 = some fn → FnOK 12 fn := fnok Proofs.Tryz.func12 ok12
theorem ok13 : chkFn Proofs.Tryz.f13 = true := by kernel_rfl
theorem fok13 : ∀ fn, fnOf Proofs.Tryz.f13 = some fn → FnOK 13 fn := fnok Proofs.Tryz.func13 ok13
theorem ok14 : chkFn Proofs.Tryz.f14 = true := by kernel_rfl
theorem fok14 : ∀ fn, fnOf Proofs.Tryz.f14 = some fn → FnOK 14 fn := fnok Proofs.Tryz.func14 ok14
theorem ok15 : chkFn Proofs.Tryz.f15 = true := by kernel_rfl
theorem fok15 : ∀ fn, fnOf Proofs.Tryz.f15 = some fn → FnOK 15 fn := fnok Proofs.Tryz.func15 ok15
theorem ok16 : chkFn Proofs.Tryz.f16 = true := by kernel_rfl
theorem fok16 : ∀ fn, fnOf Proofs.Tryz.f16 = some fn → FnOK 16 fn := fnok Proofs.Tryz.func16 ok16
theorem ok17 : chkFn Proofs.Tryz.f17 = true := by kernel_rfl
theorem fok17 : ∀ fn, fnOf Proofs.Tryz.f17 = some fn → FnOK 17 fn := fnok Proofs.Tryz.func17 ok17
theorem ok18 : chkFn Proofs.Tryz.f18 = true := by kernel_rfl
theorem fok18 : ∀ fn, fnOf Proofs.Tryz.f18 = some fn → FnOK 18 fn := fnok Proofs.Tryz.func18 ok18
theorem ok19 : chkFn Proofs.Tryz.f19 = true := by kernel_rfl
theorem fok19 : ∀ fn, fnOf Proofs.Tryz.f19 = some fn → FnOK 19 fn := fnok Proofs.Tryz.func19 ok19
theorem ok20 : chkFn Proofs.Tryz.f20 = true := by kernel_rfl
theorem fok20 : ∀ fn, fnOf Proofs.Tryz.f20 = some fn → FnOK 20 fn := fnok Proofs.Tryz.func20 ok20
theorem ok21 : chkFn Proofs.Tryz.f21 = true := by kernel_rfl
theorem fok21 : ∀ fn, fnOf Proofs.Tryz.f21 = some fn → FnOK 21 fn := fnok Proofs.Tryz.func21 ok21
theorem ok22 : chkFn Proofs.Tryz.f22 = true := by kernel_rfl
theorem fok22 : ∀ fn, fnOf Proofs.Tryz.f22 = some fn → FnOK 22 fn := fnok Proofs.Tryz.func22 ok22
theorem ok23 : chkFn Proofs.Tryz.f23 = true := by kernel_rfl
theorem fok23 : ∀ fn, fnOf Proofs.Tryz.f23 = some fn → FnOK 23 fn := fnok Proofs.Tryz.func23 ok23
theorem ok24 : chkFn Proofs.Tryz.f24 = true := by kernel_rfl
theorem fok24 : ∀ fn, fnOf Proofs.Tryz.f24 = some fn → FnOK 24 fn := fnok Proofs.Tryz.func24 ok24
theorem ok25 : chkFn Proofs.Tryz.f25 = true := by kernel_rfl
theorem fok25 : ∀ fn, fnOf Proofs.Tryz.f25 = some fn → FnOK 25 fn := fnok Proofs.Tryz.func25 ok25
theorem ok26 : chkFn Proofs.Tryz.f26 = true := by kernel_rfl
theorem fok26 : ∀ fn, fnOf Proofs.Tryz.f26 = some fn → FnOK 26 fn := fnok Proofs.Tryz.func26 ok26
theorem ok27 : chkFn Proofs.Tryz.f27 = true := by kernel_rfl
theorem fok27 : ∀ fn, fnOf Proofs.Tryz.f27 = some fn → FnOK 27 fn := fnok Proofs.Tryz.func27 ok27
theorem ok28 : chkFn Proofs.Tryz.f28 = true := by kernel_rfl
theorem fok28 : ∀ fn, fnOf Proofs.Tryz.f28 = some fn → FnOK 28 fn := fnok Proofs.Tryz.func28 ok28
theorem ok29 : chkFn Proofs.Tryz.f29 = true := by kernel_rfl
theorem fok29 : ∀ fn, fnOf Proofs.Tryz.f29 = some fn → FnOK 29 fn := fnok Proofs.Tryz.func29 ok29
theorem ok30 : chkFn Proofs.Tryz.f30 = true := by kernel_rfl
theorem fok30 : ∀ fn, fnOf Proofs.Tryz.f30 = some fn → FnOK 30 fn := fnok Proofs.Tryz.func30 ok30
theorem ok31 : chkFn Proofs.Tryz.f31 = true := by kernel_rfl
theorem fok31 : ∀ fn, fnOf Proofs.Tryz.f31 = some fn → FnOK 31 fn := fnok Proofs.Tryz.func31 ok31
theorem ok32 : chkFn Proofs.Tryz.f32 = true := by kernel_rfl
theorem fok32 : ∀ fn, fnOf Proofs.Tryz.f32 = some fn → FnOK 32 fn := fnok Proofs.Tryz.func32 ok32
theorem ok33 : chkFn Proofs.Tryz.f33 = true := by kernel_rfl
theorem fok33 : ∀ fn, fnOf Proofs.Tryz.f33 = some fn → FnOK 33 fn := fnok Proofs.Tryz.func33 ok33
theorem ok34 : chkFn Proofs.Tryz.f34 = true := by kernel_rfl
theorem fok34 : ∀ fn, fnOf Proofs.Tryz.f34 = some fn → FnOK 34 fn := fnok Proofs.Tryz.func34 ok34
theorem ok35 : chkFn Proofs.Tryz.f35 = true := by kernel_rfl
theorem fok35 : ∀ fn, fnOf Proofs.Tryz.f35 = some fn → FnOK 35 fn := fnok Proofs.Tryz.func35 ok35
theorem ok36 : chkFn Proofs.Tryz.f36 = true := by kernel_rfl
theorem fok36 : ∀ fn, fnOf Proofs.Tryz.f36 = some fn → FnOK 36 fn := fnok Proofs.Tryz.func36 ok36
theorem ok37 : chkFn Proofs.Tryz.f37 = true := by kernel_rfl
theorem fok37 : ∀ fn, fnOf Proofs.Tryz.f37 = some fn → FnOK 37 fn := fnok Proofs.Tryz.func37 ok37
theorem ok38 : chkFn Proofs.Tryz.f38 = true := by kernel_rfl
theorem fok38 : ∀ fn, fnOf Proofs.Tryz.f38 = some fn → FnOK 38 fn := fnok Proofs.Tryz.func38 ok38
theorem ok39 : chkFn Proofs.Tryz.f39 = true := by kernel_rfl
theorem fok39 : ∀ fn, fnOf Proofs.Tryz.f39 = some fn → FnOK 39 fn := fnok Proofs.Tryz.func39 ok39
theorem ok40 : chkFn Proofs.Tryz.f40 = true := by kernel_rfl
theorem fok40 : ∀ fn, fnOf Proofs.Tryz.f40 = some fn → FnOK 40 fn := fnok Proofs.Tryz.func40 ok40
theorem ok41 : chkFn Proofs.Tryz.f41 = true := by kernel_rfl
theorem fok41 : ∀ fn, fnOf Proofs.Tryz.f41 = some fn → FnOK 41 fn := fnok Proofs.Tryz.func41 ok41
theorem ok42 : chkFn Proofs.Tryz.f42 = true := by kernel_rfl
theorem fok42 : ∀ fn, fnOf Proofs.Tryz.f42 = some fn → FnOK 42 fn := fnok Proofs.Tryz.func42 ok42
theorem ok43 : chkFn Proofs.Tryz.f43 = true := by kernel_rfl
theorem fok43 : ∀ fn, fnOf Proofs.Tryz.f43 = some fn → FnOK 43 fn := fnok Proofs.Tryz.func43 ok43
theorem ok44 : chkFn Proofs.Tryz.f44 = true := by kernel_rfl
theorem fok44 : ∀ fn, fnOf Proofs.Tryz.f44 = some fn → FnOK 44 fn := fnok Proofs.Tryz.func44 ok44
theorem ok45 : chkFn Proofs.Tryz.f45 = true := by kernel_rfl
theorem fok45 : ∀ fn, fnOf Proofs.Tryz.f45 = some fn → FnOK 45 fn := fnok Proofs.Tryz.func45 ok45
theorem ok46 : chkFn Proofs.Tryz.f46 = true := by kernel_rfl
theorem fok46 : ∀ fn, fnOf Proofs.Tryz.f46 = some fn → FnOK 46 fn := fnok Proofs.Tryz.func46 ok46
theorem ok47 : chkFn Proofs.Tryz.f47 = true := by kernel_rfl
theorem fok47 : ∀ fn, fnOf Proofs.Tryz.f47 = some fn → FnOK 47 fn := fnok Proofs.Tryz.func47 ok47
theorem ok48 : chkFn Proofs.Tryz.f48 = true := by kernel_rfl
theorem fok48 : ∀ fn, fnOf Proofs.Tryz.f48 = some fn → FnOK 48 fn := fnok Proofs.Tryz.func48 ok48
theorem ok49 : chkFn Proofs.Tryz.f49 = true := by kernel_rfl
theorem fok49 : ∀ fn, fnOf Proofs.Tryz.f49 = some fn → FnOK 49 fn := fnok Proofs.Tryz.func49 ok49
theorem ok50 : chkFn Proofs.Tryz.f50 = true := by kernel_rfl
theorem fok50 : ∀ fn, fnOf Proofs.Tryz.f50 = some fn → FnOK 50 fn := fnok Proofs.Tryz.func50 ok50
theorem ok51 : chkFn Proofs.Tryz.f51 = true := by kernel_rfl
theorem fok51 : ∀ fn, fnOf Proofs.Tryz.f51 = some fn → FnOK 51 fn := fnok Proofs.Tryz.func51 ok51
theorem ok52 : chkFn Proofs.Tryz.f52 = true := by kernel_rfl
theorem fok52 : ∀ fn, fnOf Proofs.Tryz.f52 = some fn → FnOK 52 fn := fnok Proofs.Tryz.func52 ok52
theorem ok53 : chkFn Proofs.Tryz.f53 = true := by kernel_rfl
theorem fok53 : ∀ fn, fnOf Proofs.Tryz.f53 = some fn → FnOK 53 fn := fnok Proofs.Tryz.func53 ok53
theorem ok54 : chkFn Proofs.Tryz.f54 = true := by kernel_rfl
theorem fok54 : ∀ fn, fnOf Proofs.Tryz.f54 = some fn → FnOK 54 fn := fnok Proofs.Tryz.func54 ok54
theorem ok55 : chkFn Proofs.Tryz.f55 = true := by kernel_rfl
theorem fok55 : ∀ fn, fnOf Proofs.Tryz.f55 = some fn → FnOK 55 fn := fnok Proofs.Tryz.func55 ok55
theorem ok56 : chkFn Proofs.Tryz.f56 = true := by kernel_rfl
theorem fok56 : ∀ fn, fnOf Proofs.Tryz.f56 = some fn → FnOK 56 fn := fnok Proofs.Tryz.func56 ok56
theorem ok57 : chkFn Proofs.Tryz.f57 = true := by kernel_rfl
theorem fok57 : ∀ fn, fnOf Proofs.Tryz.f57 = some fn → FnOK 57 fn := fnok Proofs.Tryz.func57 ok57
theorem ok58 : chkFn Proofs.Tryz.f58 = true := by kernel_rfl
theorem fok58 : ∀ fn, fnOf Proofs.Tryz.f58 = some fn → FnOK 58 fn := fnok Proofs.Tryz.func58 ok58
theorem ok59 : chkFn Proofs.Tryz.f59 = true := by kernel_rfl
theorem fok59 : ∀ fn, fnOf Proofs.Tryz.f59 = some fn → FnOK 59 fn := fnok Proofs.Tryz.func59 ok59
theorem ok60 : chkFn Proofs.Tryz.f60 = true := by kernel_rfl
theorem fok60 : ∀ fn, fnOf Proofs.Tryz.f60 = some fn → FnOK 60 fn := fnok Proofs.Tryz.func60 ok60
theorem ok61 : chkFn Proofs.Tryz.f61 = true := by kernel_rfl
theorem fok61 : ∀ fn, fnOf Proofs.Tryz.f61 = some fn → FnOK 61 fn := fnok Proofs.Tryz.func61 ok61
theorem ok62 : chkFn Proofs.Tryz.f62 = true := by kernel_rfl
theorem fok62 : ∀ fn, fnOf Proofs.Tryz.f62 = some fn → FnOK 62 fn := fnok Proofs.Tryz.func62 ok62
theorem ok63 : chkFn Proofs.Tryz.f63 = true := by kernel_rfl
theorem fok63 : ∀ fn, fnOf Proofs.Tryz.f63 = some fn → FnOK 63 fn := fnok Proofs.Tryz.func63 ok63
theorem ok64 : chkFn Proofs.Tryz.f64 = true := by kernel_rfl
theorem fok64 : ∀ fn, fnOf Proofs.Tryz.f64 = some fn → FnOK 64 fn := fnok Proofs.Tryz.func64 ok64
theorem ok65 : chkFn Proofs.Tryz.f65 = true := by kernel_rfl
theorem fok65 : ∀ fn, fnOf Proofs.Tryz.f65 = some fn → FnOK 65 fn := fnok Proofs.Tryz.func65 ok65
theorem ok66 : chkFn Proofs.Tryz.f66 = true := by kernel_rfl
theorem fok66 : ∀ fn, fnOf Proofs.Tryz.f66 = some fn → FnOK 66 fn := fnok Proofs.Tryz.func66 ok66
theorem ok67 : chkFn Proofs.Tryz.f67 = true := by kernel_rfl
theorem fok67 : ∀ fn, fnOf Proofs.Tryz.f67 = some fn → FnOK 67 fn := fnok Proofs.Tryz.func67 ok67
theorem ok68 : chkFn Proofs.Tryz.f68 = true := by kernel_rfl
theorem fok68 : ∀ fn, fnOf Proofs.Tryz.f68 = some fn → FnOK 68 fn := fnok Proofs.Tryz.func68 ok68
theorem ok69 : chkFn Proofs.Tryz.f69 = true := by kernel_rfl
theorem fok69 : ∀ fn, fnOf Proofs.Tryz.f69 = some fn → FnOK 69 fn := fnok Proofs.Tryz.func69 ok69
theorem ok70 : chkFn Proofs.Tryz.f70 = true := by kernel_rfl
theorem fok70 : ∀ fn, fnOf Proofs.Tryz.f70 = some fn → FnOK 70 fn := fnok Proofs.Tryz.func70 ok70
theorem ok71 : chkFn Proofs.Tryz.f71 = true := by kernel_rfl
theorem fok71 : ∀ fn, fnOf Proofs.Tryz.f71 = some fn → FnOK 71 fn := fnok Proofs.Tryz.func71 ok71
theorem ok72 : chkFn Proofs.Tryz.f72 = true := by kernel_rfl
theorem fok72 : ∀ fn, fnOf Proofs.Tryz.f72 = some fn → FnOK 72 fn := fnok Proofs.Tryz.func72 ok72
theorem ok73 : chkFn Proofs.Tryz.f73 = true := by kernel_rfl
theorem fok73 : ∀ fn, fnOf Proofs.Tryz.f73 = some fn → FnOK 73 fn := fnok Proofs.Tryz.func73 ok73
theorem ok74 : chkFn Proofs.Tryz.f74 = true := by kernel_rfl
theorem fok74 : ∀ fn, fnOf Proofs.Tryz.f74 = some fn → FnOK 74 fn := fnok Proofs.Tryz.func74 ok74
theorem ok75 : chkFn Proofs.Tryz.f75 = true := by kernel_rfl
theorem fok75 : ∀ fn, fnOf Proofs.Tryz.f75 = some fn → FnOK 75 fn := fnok Proofs.Tryz.func75 ok75
theorem ok76 : chkFn Proofs.Tryz.f76 = true := by kernel_rfl
theorem fok76 : ∀ fn, fnOf Proofs.Tryz.f76 = some fn → FnOK 76 fn := fnok Proofs.Tryz.func76 ok76
theorem ok77 : chkFn Proofs.Tryz.f77 = true := by kernel_rfl
theorem fok77 : ∀ fn, fnOf Proofs.Tryz.f77 = some fn → FnOK 77 fn := fnok Proofs.Tryz.func77 ok77
theorem ok78 : chkFn Proofs.Tryz.f78 = true := by kernel_rfl
theorem fok78 : ∀ fn, fnOf Proofs.Tryz.f78 = some fn → FnOK 78 fn := fnok Proofs.Tryz.func78 ok78
theorem ok79 : chkFn Proofs.Tryz.f79 = true := by kernel_rfl
theorem fok79 : ∀ fn, fnOf Proofs.Tryz.f79 = some fn → FnOK 79 fn := fnok Proofs.Tryz.func79 ok79
theorem ok80 : chkFn Proofs.Tryz.f80 = true := by kernel_rfl
theorem fok80 : ∀ fn, fnOf Proofs.Tryz.f80 = some fn → FnOK 80 fn := fnok Proofs.Tryz.func80 ok80
theorem ok81 : chkFn Proofs.Tryz.f81 = true := by kernel_rfl
theorem fok81 : ∀ fn, fnOf Proofs.Tryz.f81 = some fn → FnOK 81 fn := fnok Proofs.Tryz.func81 ok81
theorem ok82 : chkFn Proofs.Tryz.f82 = true := by kernel_rfl
theorem fok82 : ∀ fn, fnOf Proofs.Tryz.f82 = some fn → FnOK 82 fn := fnok Proofs.Tryz.func82 ok82
theorem ok83 : chkFn Proofs.Tryz.f83 = true := by kernel_rfl
theorem fok83 : ∀ fn, fnOf Proofs.Tryz.f83 = some fn → FnOK 83 fn := fnok Proofs.Tryz.func83 ok83
theorem ok84 : chkFn Proofs.Tryz.f84 = true := by kernel_rfl
theorem fok84 : ∀ fn, fnOf Proofs.Tryz.f84 = some fn → FnOK 84 fn := fnok Proofs.Tryz.func84 ok84
theorem ok85 : chkFn Proofs.Tryz.f85 = true := by kernel_rfl
theorem fok85 : ∀ fn, fnOf Proofs.Tryz.f85 = some fn → FnOK 85 fn := fnok Proofs.Tryz.func85 ok85
theorem ok86 : chkFn Proofs.Tryz.f86 = true := by kernel_rfl
theorem fok86 : ∀ fn, fnOf Proofs.Tryz.f86 = some fn → FnOK 86 fn := fnok Proofs.Tryz.func86 ok86
theorem ok87 : chkFn Proofs.Tryz.f87 = true := by kernel_rfl
theorem fok87 : ∀ fn, fnOf Proofs.Tryz.f87 = some fn → FnOK 87 fn := fnok Proofs.Tryz.func87 ok87
theorem ok88 : chkFn Proofs.Tryz.f88 = true := by kernel_rfl
theorem fok88 : ∀ fn, fnOf Proofs.Tryz.f88 = some fn → FnOK 88 fn := fnok Proofs.Tryz.func88 ok88
theorem ok89 : chkFn Proofs.Tryz.f89 = true := by kernel_rfl
theorem fok89 : ∀ fn, fnOf Proofs.Tryz.f89 = some fn → FnOK 89 fn := fnok Proofs.Tryz.func89 ok89
theorem ok90 : chkFn Proofs.Tryz.f90 = true := by kernel_rfl
theorem fok90 : ∀ fn, fnOf Proofs.Tryz.f90 = some fn → FnOK 90 fn := fnok Proofs.Tryz.func90 ok90
theorem ok91 : chkFn Proofs.Tryz.f91 = true := by kernel_rfl
theorem fok91 : ∀ fn, fnOf Proofs.Tryz.f91 = some fn → FnOK 91 fn := fnok Proofs.Tryz.func91 ok91
theorem ok92 : chkFn Proofs.Tryz.f92 = true := by kernel_rfl
theorem fok92 : ∀ fn, fnOf Proofs.Tryz.f92 = some fn → FnOK 92 fn := fnok Proofs.Tryz.func92 ok92
theorem ok93 : chkFn Proofs.Tryz.f93 = true := by kernel_rfl
theorem fok93 : ∀ fn, fnOf Proofs.Tryz.f93 = some fn → FnOK 93 fn := fnok Proofs.Tryz.func93 ok93
theorem ok94 : chkFn Proofs.Tryz.f94 = true := by kernel_rfl
theorem fok94 : ∀ fn, fnOf Proofs.Tryz.f94 = some fn → FnOK 94 fn := fnok Proofs.Tryz.func94 ok94
theorem ok95 : chkFn Proofs.Tryz.f95 = true := by kernel_rfl
theorem fok95 : ∀ fn, fnOf Proofs.Tryz.f95 = some fn → FnOK 95 fn := fnok Proofs.Tryz.func95 ok95
theorem ok96 : chkFn Proofs.Tryz.f96 = true := by kernel_rfl
theorem fok96 : ∀ fn, fnOf Proofs.Tryz.f96 = some fn → FnOK 96 fn := fnok Proofs.Tryz.func96 ok96
theorem ok97 : chkFn Proofs.Tryz.f97 = true := by kernel_rfl
theorem fok97 : ∀ fn, fnOf Proofs.Tryz.f97 = some fn → FnOK 97 fn := fnok Proofs.Tryz.func97 ok97
theorem ok98 : chkFn Proofs.Tryz.f98 = true := by kernel_rfl
theorem fok98 : ∀ fn, fnOf Proofs.Tryz.f98 = some fn → FnOK 98 fn := fnok Proofs.Tryz.func98 ok98
theorem ok99 : chkFn Proofs.Tryz.f99 = true := by kernel_rfl
theorem fok99 : ∀ fn, fnOf Proofs.Tryz.f99 = some fn → FnOK 99 fn := fnok Proofs.Tryz.func99 ok99
theorem ok100 : chkFn Proofs.Tryz.f100 = true := by kernel_rfl
theorem fok100 : ∀ fn, fnOf Proofs.Tryz.f100 = some fn → FnOK 100 fn := fnok Proofs.Tryz.func100 ok100
theorem ok101 : chkFn Proofs.Tryz.f101 = true := by kernel_rfl
theorem fok101 : ∀ fn, fnOf Proofs.Tryz.f101 = some fn → FnOK 101 fn := fnok Proofs.Tryz.func101 ok101
theorem ok102 : chkFn Proofs.Tryz.f102 = true := by kernel_rfl
theorem fok102 : ∀ fn, fnOf Proofs.Tryz.f102 = some fn → FnOK 102 fn := fnok Proofs.Tryz.func102 ok102
theorem ok103 : chkFn Proofs.Tryz.f103 = true := by kernel_rfl
theorem fok103 : ∀ fn, fnOf Proofs.Tryz.f103 = some fn → FnOK 103 fn := fnok Proofs.Tryz.func103 ok103
theorem ok104 : chkFn Proofs.Tryz.f104 = true := by kernel_rfl
theorem fok104 : ∀ fn, fnOf Proofs.Tryz.f104 = some fn → FnOK 104 fn := fnok Proofs.Tryz.func104 ok104
theorem ok105 : chkFn Proofs.Tryz.f105 = true := by kernel_rfl
theorem fok105 : ∀ fn, fnOf Proofs.Tryz.f105 = some fn → FnOK 105 fn := fnok Proofs.Tryz.func105 ok105
theorem ok106 : chkFn Proofs.Tryz.f106 = true := by kernel_rfl
theorem fok106 : ∀ fn, fnOf Proofs.Tryz.f106 = some fn → FnOK 106 fn := fnok Proofs.Tryz.func106 ok106
theorem ok107 : chkFn Proofs.Tryz.f107 = true := by kernel_rfl
theorem fok107 : ∀ fn, fnOf Proofs.Tryz.f107 = some fn → FnOK 107 fn := fnok Proofs.Tryz.func107 ok107
theorem ok108 : chkFn Proofs.Tryz.f108 = true := by kernel_rfl
theorem fok108 : ∀ fn, fnOf Proofs.Tryz.f108 = some fn → FnOK 108 fn := fnok Proofs.Tryz.func108 ok108
theorem ok109 : chkFn Proofs.Tryz.f109 = true := by kernel_rfl
theorem fok109 : ∀ fn, fnOf Proofs.Tryz.f109 = some fn → FnOK 109 fn := fnok Proofs.Tryz.func109 ok109
theorem ok110 : chkFn Proofs.Tryz.f110 = true := by kernel_rfl
theorem fok110 : ∀ fn, fnOf Proofs.Tryz.f110 = some fn → FnOK 110 fn := fnok Proofs.Tryz.func110 ok110
theorem ok111 : chkFn Proofs.Tryz.f111 = true := by kernel_rfl
theorem fok111 : ∀ fn, fnOf Proofs.Tryz.f111 = some fn → FnOK 111 fn := fnok Proofs.Tryz.func111 ok111
theorem ok112 : chkFn Proofs.Tryz.f112 = true := by kernel_rfl
theorem fok112 : ∀ fn, fnOf Proofs.Tryz.f112 = some fn → FnOK 112 fn := fnok Proofs.Tryz.func112 ok112
theorem ok113 : chkFn Proofs.Tryz.f113 = true := by kernel_rfl
theorem fok113 : ∀ fn, fnOf Proofs.Tryz.f113 = some fn → FnOK 113 fn := fnok Proofs.Tryz.func113 ok113
theorem ok114 : chkFn Proofs.Tryz.f114 = true := by kernel_rfl
theorem fok114 : ∀ fn, fnOf Proofs.Tryz.f114 = some fn → FnOK 114 fn := fnok Proofs.Tryz.func114 ok114
theorem ok115 : chkFn Proofs.Tryz.f115 = true := by kernel_rfl
theorem fok115 : ∀ fn, fnOf Proofs.Tryz.f115 = some fn → FnOK 115 fn := fnok Proofs.Tryz.func115 ok115
theorem ok116 : chkFn Proofs.Tryz.f116 = true := by kernel_rfl
theorem fok116 : ∀ fn, fnOf Proofs.Tryz.f116 = some fn → FnOK 116 fn := fnok Proofs.Tryz.func116 ok116
theorem ok117 : chkFn Proofs.Tryz.f117 = true := by kernel_rfl
theorem fok117 : ∀ fn, fnOf Proofs.Tryz.f117 = some fn → FnOK 117 fn := fnok Proofs.Tryz.func117 ok117
theorem ok118 : chkFn Proofs.Tryz.f118 = true := by kernel_rfl
theorem fok118 : ∀ fn, fnOf Proofs.Tryz.f118 = some fn → FnOK 118 fn := fnok Proofs.Tryz.func118 ok118
theorem ok119 : chkFn Proofs.Tryz.f119 = true := by kernel_rfl
theorem fok119 : ∀ fn, fnOf Proofs.Tryz.f119 = some fn → FnOK 119 fn := fnok Proofs.Tryz.func119 ok119
theorem ok120 : chkFn Proofs.Tryz.f120 = true := by kernel_rfl
theorem fok120 : ∀ fn, fnOf Proofs.Tryz.f120 = some fn → FnOK 120 fn := fnok Proofs.Tryz.func120 ok120
theorem ok121 : chkFn Proofs.Tryz.f121 = true := by kernel_rfl
theorem fok121 : ∀ fn, fnOf Proofs.Tryz.f121 = some fn → FnOK 121 fn := fnok Proofs.Tryz.func121 ok121
theorem ok122 : chkFn Proofs.Tryz.f122 = true := by kernel_rfl
theorem fok122 : ∀ fn, fnOf Proofs.Tryz.f122 = some fn → FnOK 122 fn := fnok Proofs.Tryz.func122 ok122
theorem ok123 : chkFn Proofs.Tryz.f123 = true := by kernel_rfl
theorem fok123 : ∀ fn, fnOf Proofs.Tryz.f123 = some fn → FnOK 123 fn := fnok Proofs.Tryz.func123 ok123
theorem ok124 : chkFn Proofs.Tryz.f124 = true := by kernel_rfl
theorem fok124 : ∀ fn, fnOf Proofs.Tryz.f124 = some fn → FnOK 124 fn := fnok Proofs.Tryz.func124 ok124
theorem ok125 : chkFn Proofs.Tryz.f125 = true := by kernel_rfl
theorem fok125 : ∀ fn, fnOf Proofs.Tryz.f125 = some fn → FnOK 125 fn := fnok Proofs.Tryz.func125 ok125
theorem ok126 : chkFn Proofs.Tryz.f126 = true := by kernel_rfl
theorem fok126 : ∀ fn, fnOf Proofs.Tryz.f126 = some fn → FnOK 126 fn := fnok Proofs.Tryz.func126 ok126
theorem ok127 : chkFn Proofs.Tryz.f127 = true := by kernel_rfl
theorem fok127 : ∀ fn, fnOf Proofs.Tryz.f127 = some fn → FnOK 127 fn := fnok Proofs.Tryz.func127 ok127
theorem ok128 : chkFn Proofs.Tryz.f128 = true := by kernel_rfl
theorem fok128 : ∀ fn, fnOf Proofs.Tryz.f128 = some fn → FnOK 128 fn := fnok Proofs.Tryz.func128 ok128
theorem ok129 : chkFn Proofs.Tryz.f129 = true := by kernel_rfl
theorem fok129 : ∀ fn, fnOf Proofs.Tryz.f129 = some fn → FnOK 129 fn := fnok Proofs.Tryz.func129 ok129
theorem ok130 : chkFn Proofs.Tryz.f130 = true := by kernel_rfl
theorem fok130 : ∀ fn, fnOf Proofs.Tryz.f130 = some fn → FnOK 130 fn := fnok Proofs.Tryz.func130 ok130
theorem ok131 : chkFn Proofs.Tryz.f131 = true := by kernel_rfl
theorem fok131 : ∀ fn, fnOf Proofs.Tryz.f131 = some fn → FnOK 131 fn := fnok Proofs.Tryz.func131 ok131
theorem ok132 : chkFn Proofs.Tryz.f132 = true := by kernel_rfl
theorem fok132 : ∀ fn, fnOf Proofs.Tryz.f132 = some fn → FnOK 132 fn := fnok Proofs.Tryz.func132 ok132
theorem ok133 : chkFn Proofs.Tryz.f133 = true := by kernel_rfl
theorem fok133 : ∀ fn, fnOf Proofs.Tryz.f133 = some fn → FnOK 133 fn := fnok Proofs.Tryz.func133 ok133
theorem ok134 : chkFn Proofs.Tryz.f134 = true := by kernel_rfl
theorem fok134 : ∀ fn, fnOf Proofs.Tryz.f134 = some fn → FnOK 134 fn := fnok Proofs.Tryz.func134 ok134
theorem ok135 : chkFn Proofs.Tryz.f135 = true := by kernel_rfl
theorem fok135 : ∀ fn, fnOf Proofs.Tryz.f135 = some fn → FnOK 135 fn := fnok Proofs.Tryz.func135 ok135
theorem ok136 : chkFn Proofs.Tryz.f136 = true := by kernel_rfl
theorem fok136 : ∀ fn, fnOf Proofs.Tryz.f136 = some fn → FnOK 136 fn := fnok Proofs.Tryz.func136 ok136
theorem ok137 : chkFn Proofs.Tryz.f137 = true := by kernel_rfl
theorem fok137 : ∀ fn, fnOf Proofs.Tryz.f137 = some fn → FnOK 137 fn := fnok Proofs.Tryz.func137 ok137
theorem ok138 : chkFn Proofs.Tryz.f138 = true := by kernel_rfl
theorem fok138 : ∀ fn, fnOf Proofs.Tryz.f138 = some fn → FnOK 138 fn := fnok Proofs.Tryz.func138 ok138
theorem ok139 : chkFn Proofs.Tryz.f139 = true := by kernel_rfl
theorem fok139 : ∀ fn, fnOf Proofs.Tryz.f139 = some fn → FnOK 139 fn := fnok Proofs.Tryz.func139 ok139
theorem ok140 : chkFn Proofs.Tryz.f140 = true := by kernel_rfl
theorem fok140 : ∀ fn, fnOf Proofs.Tryz.f140 = some fn → FnOK 140 fn := fnok Proofs.Tryz.func140 ok140
theorem ok141 : chkFn Proofs.Tryz.f141 = true := by kernel_rfl
theorem fok141 : ∀ fn, fnOf Proofs.Tryz.f141 = some fn → FnOK 141 fn := fnok Proofs.Tryz.func141 ok141
theorem ok142 : chkFn Proofs.Tryz.f142 = true := by kernel_rfl
theorem fok142 : ∀ fn, fnOf Proofs.Tryz.f142 = some fn → FnOK 142 fn := fnok Proofs.Tryz.func142 ok142
theorem ok143 : chkFn Proofs.Tryz.f143 = true := by kernel_rfl
theorem fok143 : ∀ fn, fnOf Proofs.Tryz.f143 = some fn → FnOK 143 fn := fnok Proofs.Tryz.func143 ok143
theorem ok144 : chkFn Proofs.Tryz.f144 = true := by kernel_rfl
theorem fok144 : ∀ fn, fnOf Proofs.Tryz.f144 = some fn → FnOK 144 fn := fnok Proofs.Tryz.func144 ok144
theorem ok145 : chkFn Proofs.Tryz.f145 = true := by kernel_rfl
theorem fok145 : ∀ fn, fnOf Proofs.Tryz.f145 = some fn → FnOK 145 fn := fnok Proofs.Tryz.func145 ok145
theorem ok146 : chkFn Proofs.Tryz.f146 = true := by kernel_rfl
theorem fok146 : ∀ fn, fnOf Proofs.Tryz.f146 = some fn → FnOK 146 fn := fnok Proofs.Tryz.func146 ok146
theorem ok147 : chkFn Proofs.Tryz.f147 = true := by kernel_rfl
theorem fok147 : ∀ fn, fnOf Proofs.Tryz.f147 = some fn → FnOK 147 fn := fnok Proofs.Tryz.func147 ok147
theorem ok148 : chkFn Proofs.Tryz.f148 = true := by kernel_rfl
theorem fok148 : ∀ fn, fnOf Proofs.Tryz.f148 = some fn → FnOK 148 fn := fnok Proofs.Tryz.func148 ok148
theorem ok149 : chkFn Proofs.Tryz.f149 = true := by kernel_rfl
theorem fok149 : ∀ fn, fnOf Proofs.Tryz.f149 = some fn → FnOK 149 fn := fnok Proofs.Tryz.func149 ok149
theorem ok150 : chkFn Proofs.Tryz.f150 = true := by kernel_rfl
theorem fok150 : ∀ fn, fnOf Proofs.Tryz.f150 = some fn → FnOK 150 fn := fnok Proofs.Tryz.func150 ok150
theorem ok151 : chkFn Proofs.Tryz.f151 = true := by kernel_rfl
theorem fok151 : ∀ fn, fnOf Proofs.Tryz.f151 = some fn → FnOK 151 fn := fnok Proofs.Tryz.func151 ok151
theorem ok152 : chkFn Proofs.Tryz.f152 = true := by kernel_rfl
theorem fok152 : ∀ fn, fnOf Proofs.Tryz.f152 = some fn → FnOK 152 fn := fnok Proofs.Tryz.func152 ok152
theorem ok153 : chkFn Proofs.Tryz.f153 = true := by kernel_rfl
theorem fok153 : ∀ fn, fnOf Proofs.Tryz.f153 = some fn → FnOK 153 fn := fnok Proofs.Tryz.func153 ok153
theorem ok154 : chkFn Proofs.Tryz.f154 = true := by kernel_rfl
theorem fok154 : ∀ fn, fnOf Proofs.Tryz.f154 = some fn → FnOK 154 fn := fnok Proofs.Tryz.func154 ok154
theorem ok155 : chkFn Proofs.Tryz.f155 = true := by kernel_rfl
theorem fok155 : ∀ fn, fnOf Proofs.Tryz.f155 = some fn → FnOK 155 fn := fnok Proofs.Tryz.func155 ok155
theorem ok156 : chkFn Proofs.Tryz.f156 = true := by kernel_rfl
theorem fok156 : ∀ fn, fnOf Proofs.Tryz.f156 = some fn → FnOK 156 fn := fnok Proofs.Tryz.func156 ok156
theorem ok157 : chkFn Proofs.Tryz.f157 = true := by kernel_rfl
theorem fok157 : ∀ fn, fnOf Proofs.Tryz.f157 = some fn → FnOK 157 fn := fnok Proofs.Tryz.func157 ok157
theorem ok158 : chkFn Proofs.Tryz.f158 = true := by kernel_rfl
theorem fok158 : ∀ fn, fnOf Proofs.Tryz.f158 = some fn → FnOK 158 fn := fnok Proofs.Tryz.func158 ok158
theorem ok159 : chkFn Proofs.Tryz.f159 = true := by kernel_rfl
theorem fok159 : ∀ fn, fnOf Proofs.Tryz.f159 = some fn → FnOK 159 fn := fnok Proofs.Tryz.func159 ok159
theorem ok160 : chkFn Proofs.Tryz.f160 = true := by kernel_rfl
theorem fok160 : ∀ fn, fnOf Proofs.Tryz.f160 = some fn → FnOK 160 fn := fnok Proofs.Tryz.func160 ok160
theorem ok161 : chkFn Proofs.Tryz.f161 = true := by kernel_rfl
theorem fok161 : ∀ fn, fnOf Proofs.Tryz.f161 = some fn → FnOK 161 fn := fnok Proofs.Tryz.func161 ok161
theorem ok162 : chkFn Proofs.Tryz.f162 = true := by kernel_rfl
theorem fok162 : ∀ fn, fnOf Proofs.Tryz.f162 = some fn → FnOK 162 fn := fnok Proofs.Tryz.func162 ok162
theorem ok163 : chkFn Proofs.Tryz.f163 = true := by kernel_rfl
theorem fok163 : ∀ fn, fnOf Proofs.Tryz.f163 = some fn → FnOK 163 fn := fnok Proofs.Tryz.func163 ok163
theorem ok164 : chkFn Proofs.Tryz.f164 = true := by kernel_rfl
theorem fok164 : ∀ fn, fnOf Proofs.Tryz.f164 = some fn → FnOK 164 fn := fnok Proofs.Tryz.func164 ok164
theorem ok165 : chkFn Proofs.Tryz.f165 = true := by kernel_rfl
theorem fok165 : ∀ fn, fnOf Proofs.Tryz.f165 = some fn → FnOK 165 fn := fnok Proofs.Tryz.func165 ok165
theorem ok166 : chkFn Proofs.Tryz.f166 = true := by kernel_rfl
theorem fok166 : ∀ fn, fnOf Proofs.Tryz.f166 = some fn → FnOK 166 fn := fnok Proofs.Tryz.func166 ok166
theorem ok167 : chkFn Proofs.Tryz.f167 = true := by kernel_rfl
theorem fok167 : ∀ fn, fnOf Proofs.Tryz.f167 = some fn → FnOK 167 fn := fnok Proofs.Tryz.func167 ok167
theorem ok168 : chkFn Proofs.Tryz.f168 = true := by kernel_rfl
theorem fok168 : ∀ fn, fnOf Proofs.Tryz.f168 = some fn → FnOK 168 fn := fnok Proofs.Tryz.func168 ok168
theorem ok169 : chkFn Proofs.Tryz.f169 = true := by kernel_rfl
theorem fok169 : ∀ fn, fnOf Proofs.Tryz.f169 = some fn → FnOK 169 fn := fnok Proofs.Tryz.func169 ok169
theorem ok170 : chkFn Proofs.Tryz.f170 = true := by kernel_rfl
theorem fok170 : ∀ fn, fnOf Proofs.Tryz.f170 = some fn → FnOK 170 fn := fnok Proofs.Tryz.func170 ok170
theorem ok171 : chkFn Proofs.Tryz.f171 = true := by kernel_rfl
theorem fok171 : ∀ fn, fnOf Proofs.Tryz.f171 = some fn → FnOK 171 fn := fnok Proofs.Tryz.func171 ok171
theorem ok172 : chkFn Proofs.Tryz.f172 = true := by kernel_rfl
theorem fok172 : ∀ fn, fnOf Proofs.Tryz.f172 = some fn → FnOK 172 fn := fnok Proofs.Tryz.func172 ok172
theorem ok173 : chkFn Proofs.Tryz.f173 = true := by kernel_rfl
theorem fok173 : ∀ fn, fnOf Proofs.Tryz.f173 = some fn → FnOK 173 fn := fnok Proofs.Tryz.func173 ok173
theorem ok174 : chkFn Proofs.Tryz.f174 = true := by kernel_rfl
theorem fok174 : ∀ fn, fnOf Proofs.Tryz.f174 = some fn → FnOK 174 fn := fnok Proofs.Tryz.func174 ok174
theorem ok175 : chkFn Proofs.Tryz.f175 = true := by kernel_rfl
theorem fok175 : ∀ fn, fnOf Proofs.Tryz.f175 = some fn → FnOK 175 fn := fnok Proofs.Tryz.func175 ok175
theorem ok176 : chkFn Proofs.Tryz.f176 = true := by kernel_rfl
theorem fok176 : ∀ fn, fnOf Proofs.Tryz.f176 = some fn → FnOK 176 fn := fnok Proofs.Tryz.func176 ok176
theorem ok177 : chkFn Proofs.Tryz.f177 = true := by kernel_rfl
theorem fok177 : ∀ fn, fnOf Proofs.Tryz.f177 = some fn → FnOK 177 fn := fnok Proofs.Tryz.func177 ok177
theorem ok178 : chkFn Proofs.Tryz.f178 = true := by kernel_rfl
theorem fok178 : ∀ fn, fnOf Proofs.Tryz.f178 = some fn → FnOK 178 fn := fnok Proofs.Tryz.func178 ok178
theorem ok179 : chkFn Proofs.Tryz.f179 = true := by kernel_rfl
theorem fok179 : ∀ fn, fnOf Proofs.Tryz.f179 = some fn → FnOK 179 fn := fnok Proofs.Tryz.func179 ok179
theorem ok180 : chkFn Proofs.Tryz.f180 = true := by kernel_rfl
theorem fok180 : ∀ fn, fnOf Proofs.Tryz.f180 = some fn → FnOK 180 fn := fnok Proofs.Tryz.func180 ok180
theorem ok181 : chkFn Proofs.Tryz.f181 = true := by kernel_rfl
theorem fok181 : ∀ fn, fnOf Proofs.Tryz.f181 = some fn → FnOK 181 fn := fnok Proofs.Tryz.func181 ok181
theorem ok182 : chkFn Proofs.Tryz.f182 = true := by kernel_rfl
theorem fok182 : ∀ fn, fnOf Proofs.Tryz.f182 = some fn → FnOK 182 fn := fnok Proofs.Tryz.func182 ok182
theorem ok183 : chkFn Proofs.Tryz.f183 = true := by kernel_rfl
theorem fok183 : ∀ fn, fnOf Proofs.Tryz.f183 = some fn → FnOK 183 fn := fnok Proofs.Tryz.func183 ok183
theorem ok184 : chkFn Proofs.Tryz.f184 = true := by kernel_rfl
theorem fok184 : ∀ fn, fnOf Proofs.Tryz.f184 = some fn → FnOK 184 fn := fnok Proofs.Tryz.func184 ok184
theorem ok185 : chkFn Proofs.Tryz.f185 = true := by kernel_rfl
theorem fok185 : ∀ fn, fnOf Proofs.Tryz.f185 = some fn → FnOK 185 fn := fnok Proofs.Tryz.func185 ok185
theorem ok186 : chkFn Proofs.Tryz.f186 = true := by kernel_rfl
theorem fok186 : ∀ fn, fnOf Proofs.Tryz.f186 = some fn → FnOK 186 fn := fnok Proofs.Tryz.func186 ok186
theorem ok187 : chkFn Proofs.Tryz.f187 = true := by kernel_rfl
theorem fok187 : ∀ fn, fnOf Proofs.Tryz.f187 = some fn → FnOK 187 fn := fnok Proofs.Tryz.func187 ok187
theorem ok188 : chkFn Proofs.Tryz.f188 = true := by kernel_rfl
theorem fok188 : ∀ fn, fnOf Proofs.Tryz.f188 = some fn → FnOK 188 fn := fnok Proofs.Tryz.func188 ok188
theorem ok189 : chkFn Proofs.Tryz.f189 = true := by kernel_rfl
theorem fok189 : ∀ fn, fnOf Proofs.Tryz.f189 = some fn → FnOK 189 fn := fnok Proofs.Tryz.func189 ok189
theorem ok190 : chkFn Proofs.Tryz.f190 = true := by kernel_rfl
theorem fok190 : ∀ fn, fnOf Proofs.Tryz.f190 = some fn → FnOK 190 fn := fnok Proofs.Tryz.func190 ok190
theorem ok191 : chkFn Proofs.Tryz.f191 = true := by kernel_rfl
theorem fok191 : ∀ fn, fnOf Proofs.Tryz.f191 = some fn → FnOK 191 fn := fnok Proofs.Tryz.func191 ok191
theorem ok192 : chkFn Proofs.Tryz.f192 = true := by kernel_rfl
theorem fok192 : ∀ fn, fnOf Proofs.Tryz.f192 = some fn → FnOK 192 fn := fnok Proofs.Tryz.func192 ok192
theorem ok193 : chkFn Proofs.Tryz.f193 = true := by kernel_rfl
theorem fok193 : ∀ fn, fnOf Proofs.Tryz.f193 = some fn → FnOK 193 fn := fnok Proofs.Tryz.func193 ok193
theorem ok194 : chkFn Proofs.Tryz.f194 = true := by kernel_rfl
theorem fok194 : ∀ fn, fnOf Proofs.Tryz.f194 = some fn → FnOK 194 fn := fnok Proofs.Tryz.func194 ok194
theorem ok195 : chkFn Proofs.Tryz.f195 = true := by kernel_rfl
theorem fok195 : ∀ fn, fnOf Proofs.Tryz.f195 = some fn → FnOK 195 fn := fnok Proofs.Tryz.func195 ok195
theorem ok196 : chkFn Proofs.Tryz.f196 = true := by kernel_rfl
theorem fok196 : ∀ fn, fnOf Proofs.Tryz.f196 = some fn → FnOK 196 fn := fnok Proofs.Tryz.func196 ok196
theorem ok197 : chkFn Proofs.Tryz.f197 = true := by kernel_rfl
theorem fok197 : ∀ fn, fnOf Proofs.Tryz.f197 = some fn → FnOK 197 fn := fnok Proofs.Tryz.func197 ok197
theorem ok198 : chkFn Proofs.Tryz.f198 = true := by kernel_rfl
theorem fok198 : ∀ fn, fnOf Proofs.Tryz.f198 = some fn → FnOK 198 fn := fnok Proofs.Tryz.func198 ok198
theorem ok199 : chkFn Proofs.Tryz.f199 = true := by kernel_rfl
theorem fok199 : ∀ fn, fnOf Proofs.Tryz.f199 = some fn → FnOK 199 fn := fnok Proofs.Tryz.func199 ok199
theorem ok200 : chkFn Proofs.Tryz.f200 = true := by kernel_rfl
theorem fok200 : ∀ fn, fnOf Proofs.Tryz.f200 = some fn → FnOK 200 fn := fnok Proofs.Tryz.func200 ok200
theorem ok201 : chkFn Proofs.Tryz.f201 = true := by kernel_rfl
theorem fok201 : ∀ fn, fnOf Proofs.Tryz.f201 = some fn → FnOK 201 fn := fnok Proofs.Tryz.func201 ok201
theorem ok202 : chkFn Proofs.Tryz.f202 = true := by kernel_rfl
theorem fok202 : ∀ fn, fnOf Proofs.Tryz.f202 = some fn → FnOK 202 fn := fnok Proofs.Tryz.func202 ok202
theorem ok203 : chkFn Proofs.Tryz.f203 = true := by kernel_rfl
theorem fok203 : ∀ fn, fnOf Proofs.Tryz.f203 = some fn → FnOK 203 fn := fnok Proofs.Tryz.func203 ok203
theorem ok204 : chkFn Proofs.Tryz.f204 = true := by kernel_rfl
theorem fok204 : ∀ fn, fnOf Proofs.Tryz.f204 = some fn → FnOK 204 fn := fnok Proofs.Tryz.func204 ok204
theorem ok205 : chkFn Proofs.Tryz.f205 = true := by kernel_rfl
theorem fok205 : ∀ fn, fnOf Proofs.Tryz.f205 = some fn → FnOK 205 fn := fnok Proofs.Tryz.func205 ok205
theorem ok206 : chkFn Proofs.Tryz.f206 = true := by kernel_rfl
theorem fok206 : ∀ fn, fnOf Proofs.Tryz.f206 = some fn → FnOK 206 fn := fnok Proofs.Tryz.func206 ok206
theorem ok207 : chkFn Proofs.Tryz.f207 = true := by kernel_rfl
theorem fok207 : ∀ fn, fnOf Proofs.Tryz.f207 = some fn → FnOK 207 fn := fnok Proofs.Tryz.func207 ok207
theorem ok209 : chkFn Proofs.Tryz.f209 = true := by kernel_rfl
theorem fok209 : ∀ fn, fnOf Proofs.Tryz.f209 = some fn → FnOK 209 fn := fnok Proofs.Tryz.func209 ok209
theorem ok210 : chkFn Proofs.Tryz.f210 = true := by kernel_rfl
theorem fok210 : ∀ fn, fnOf Proofs.Tryz.f210 = some fn → FnOK 210 fn := fnok Proofs.Tryz.func210 ok210
theorem ok211 : chkFn Proofs.Tryz.f211 = true := by kernel_rfl
theorem fok211 : ∀ fn, fnOf Proofs.Tryz.f211 = some fn → FnOK 211 fn := fnok Proofs.Tryz.func211 ok211
theorem ok212 : chkFn Proofs.Tryz.f212 = true := by kernel_rfl
theorem fok212 : ∀ fn, fnOf Proofs.Tryz.f212 = some fn → FnOK 212 fn := fnok Proofs.Tryz.func212 ok212
theorem ok213 : chkFn Proofs.Tryz.f213 = true := by kernel_rfl
theorem fok213 : ∀ fn, fnOf Proofs.Tryz.f213 = some fn → FnOK 213 fn := fnok Proofs.Tryz.func213 ok213
theorem ok214 : chkFn Proofs.Tryz.f214 = true := by kernel_rfl
theorem fok214 : ∀ fn, fnOf Proofs.Tryz.f214 = some fn → FnOK 214 fn := fnok Proofs.Tryz.func214 ok214
theorem ok215 : chkFn Proofs.Tryz.f215 = true := by kernel_rfl
theorem fok215 : ∀ fn, fnOf Proofs.Tryz.f215 = some fn → FnOK 215 fn := fnok Proofs.Tryz.func215 ok215
theorem ok216 : chkFn Proofs.Tryz.f216 = true := by kernel_rfl
theorem fok216 : ∀ fn, fnOf Proofs.Tryz.f216 = some fn → FnOK 216 fn := fnok Proofs.Tryz.func216 ok216
theorem ok217 : chkFn Proofs.Tryz.f217 = true := by kernel_rfl
theorem fok217 : ∀ fn, fnOf Proofs.Tryz.f217 = some fn → FnOK 217 fn := fnok Proofs.Tryz.func217 ok217
theorem ok218 : chkFn Proofs.Tryz.f218 = true := by kernel_rfl
theorem fok218 : ∀ fn, fnOf Proofs.Tryz.f218 = some fn → FnOK 218 fn := fnok Proofs.Tryz.func218 ok218
theorem ok220 : chkFn Proofs.Tryz.f220 = true := by kernel_rfl
theorem fok220 : ∀ fn, fnOf Proofs.Tryz.f220 = some fn → FnOK 220 fn := fnok Proofs.Tryz.func220 ok220
theorem ok221 : chkFn Proofs.Tryz.f221 = true := by kernel_rfl
theorem fok221 : ∀ fn, fnOf Proofs.Tryz.f221 = some fn → FnOK 221 fn := fnok Proofs.Tryz.func221 ok221
theorem ok222 : chkFn Proofs.Tryz.f222 = true := by kernel_rfl
theorem fok222 : ∀ fn, fnOf Proofs.Tryz.f222 = some fn → FnOK 222 fn := fnok Proofs.Tryz.func222 ok222
theorem ok223 : chkFn Proofs.Tryz.f223 = true := by kernel_rfl
theorem fok223 : ∀ fn, fnOf Proofs.Tryz.f223 = some fn → FnOK 223 fn := fnok Proofs.Tryz.func223 ok223
theorem ok224 : chkFn Proofs.Tryz.f224 = true := by kernel_rfl
theorem fok224 : ∀ fn, fnOf Proofs.Tryz.f224 = some fn → FnOK 224 fn := fnok Proofs.Tryz.func224 ok224
theorem ok225 : chkFn Proofs.Tryz.f225 = true := by kernel_rfl
theorem fok225 : ∀ fn, fnOf Proofs.Tryz.f225 = some fn → FnOK 225 fn := fnok Proofs.Tryz.func225 ok225
theorem ok226 : chkFn Proofs.Tryz.f226 = true := by kernel_rfl
theorem fok226 : ∀ fn, fnOf Proofs.Tryz.f226 = some fn → FnOK 226 fn := fnok Proofs.Tryz.func226 ok226
theorem ok227 : chkFn Proofs.Tryz.f227 = true := by kernel_rfl
theorem fok227 : ∀ fn, fnOf Proofs.Tryz.f227 = some fn → FnOK 227 fn := fnok Proofs.Tryz.func227 ok227
theorem ok228 : chkFn Proofs.Tryz.f228 = true := by kernel_rfl
theorem fok228 : ∀ fn, fnOf Proofs.Tryz.f228 = some fn → FnOK 228 fn := fnok Proofs.Tryz.func228 ok228
theorem ok229 : chkFn Proofs.Tryz.f229 = true := by kernel_rfl
theorem fok229 : ∀ fn, fnOf Proofs.Tryz.f229 = some fn → FnOK 229 fn := fnok Proofs.Tryz.func229 ok229
theorem ok230 : chkFn Proofs.Tryz.f230 = true := by kernel_rfl
theorem fok230 : ∀ fn, fnOf Proofs.Tryz.f230 = some fn → FnOK 230 fn := fnok Proofs.Tryz.func230 ok230
theorem ok231 : chkFn Proofs.Tryz.f231 = true := by kernel_rfl
theorem fok231 : ∀ fn, fnOf Proofs.Tryz.f231 = some fn → FnOK 231 fn := fnok Proofs.Tryz.func231 ok231
set_option maxRecDepth 100000 in
theorem ft_ok : FtOK ft := ftOK_of ⟨nofun, ⟨nofun, ⟨fok3, ⟨fok7, ⟨fok15, ⟨fok31, ⟨fok63, ⟨fok127, trivial, trivial⟩, ⟨fok191, trivial, trivial⟩⟩, ⟨fok95, ⟨fok159, trivial, trivial⟩, ⟨fok223, trivial, trivial⟩⟩⟩, ⟨fok47, ⟨fok79, ⟨fok143, trivial, trivial⟩, ⟨fok207, trivial, trivial⟩⟩, ⟨fok111, ⟨fok175, trivial, trivial⟩, trivial⟩⟩⟩, ⟨fok23, ⟨fok39, ⟨fok71, ⟨fok135, trivial, trivial⟩, ⟨fok199, trivial, trivial⟩⟩, ⟨fok103, ⟨fok167, trivial, trivial⟩, ⟨fok231, trivial, trivial⟩⟩⟩, ⟨fok55, ⟨fok87, ⟨fok151, trivial, trivial⟩, ⟨fok215, trivial, trivial⟩⟩, ⟨fok119, ⟨fok183, trivial, trivial⟩, trivial⟩⟩⟩⟩, ⟨fok11, ⟨fok19, ⟨fok35, ⟨fok67, ⟨fok131, trivial, trivial⟩, ⟨fok195, trivial, trivial⟩⟩, ⟨fok99, ⟨fok163, trivial, trivial⟩, ⟨fok227, trivial, trivial⟩⟩⟩, ⟨fok51, ⟨fok83, ⟨fok147, trivial, trivial⟩, ⟨fok211, trivial, trivial⟩⟩, ⟨fok115, ⟨fok179, trivial, trivial⟩, trivial⟩⟩⟩, ⟨fok27, ⟨fok43, ⟨fok75, ⟨fok139, trivial, trivial⟩, ⟨fok203, trivial, trivial⟩⟩, ⟨fok107, ⟨fok171, trivial, trivial⟩, trivial⟩⟩, ⟨fok59, ⟨fok91, ⟨fok155, trivial, trivial⟩, trivial⟩, ⟨fok123, ⟨fok187, trivial, trivial⟩, trivial⟩⟩⟩⟩⟩, ⟨fok5, ⟨fok9, ⟨fok17, ⟨fok33, ⟨fok65, ⟨fok129, trivial, trivial⟩, ⟨fok193, trivial, trivial⟩⟩, ⟨fok97, ⟨fok161, trivial, trivial⟩, ⟨fok225, trivial, trivial⟩⟩⟩, ⟨fok49, ⟨fok81, ⟨fok145, trivial, trivial⟩, ⟨fok209, trivial, trivial⟩⟩, ⟨fok113, ⟨fok177, trivial, trivial⟩, trivial⟩⟩⟩, ⟨fok25, ⟨fok41, ⟨fok73, ⟨fok137, trivial, trivial⟩, ⟨fok201, trivial, trivial⟩⟩, ⟨fok105, ⟨fok169, trivial, trivial⟩, trivial⟩⟩, ⟨fok57, ⟨fok89, ⟨fok153, trivial, trivial⟩, ⟨fok217, trivial, trivial⟩⟩, ⟨fok121, ⟨fok185, trivial, trivial⟩, trivial⟩⟩⟩⟩, ⟨fok13, ⟨fok21, ⟨fok37, ⟨fok69, ⟨fok133, trivial, trivial⟩, ⟨fok197, trivial, trivial⟩⟩, ⟨fok101, ⟨fok165, trivial, trivial⟩, ⟨fok229, trivial, trivial⟩⟩⟩, ⟨fok53, ⟨fok85, ⟨fok149, trivial, trivial⟩, ⟨fok213, trivial, trivial⟩⟩, ⟨fok117, ⟨fok181, trivial, trivial⟩, trivial⟩⟩⟩, ⟨fok29, ⟨fok45, ⟨fok77, ⟨fok141, trivial, trivial⟩, ⟨fok205, trivial, trivial⟩⟩, ⟨fok109, ⟨fok173, trivial, trivial⟩, trivial⟩⟩, ⟨fok61, ⟨fok93, ⟨fok157, trivial, trivial⟩, ⟨fok221, trivial, trivial⟩⟩, ⟨fok125, ⟨fok189, trivial, trivial⟩, trivial⟩⟩⟩⟩⟩⟩, ⟨nofun, ⟨fok4, ⟨fok8, ⟨fok16, ⟨fok32, ⟨fok64, ⟨fok128, trivial, trivial⟩, ⟨fok192, trivial, trivial⟩⟩, ⟨fok96, ⟨fok160, trivial, trivial⟩, ⟨fok224, trivial, trivial⟩⟩⟩, ⟨fok48, ⟨fok80, ⟨fok144, trivial, trivial⟩, trivial⟩, ⟨fok112, ⟨fok176, trivial, trivial⟩, trivial⟩⟩⟩, ⟨fok24, ⟨fok40, ⟨fok72, ⟨fok136, trivial, trivial⟩, ⟨fok200, trivial, trivial⟩⟩, ⟨fok104, ⟨fok168, trivial, trivial⟩, trivial⟩⟩, ⟨fok56, ⟨fok88, ⟨fok152, trivial, trivial⟩, ⟨fok216, trivial, trivial⟩⟩, ⟨fok120, ⟨fok184, trivial, trivial⟩, trivial⟩⟩⟩⟩, ⟨fok12, ⟨fok20, ⟨fok36, ⟨fok68, ⟨fok132, trivial, trivial⟩, ⟨fok196, trivial, trivial⟩⟩, ⟨fok100, ⟨fok164, trivial, trivial⟩, ⟨fok228, trivial, trivial⟩⟩⟩, ⟨fok52, ⟨fok84, ⟨fok148, trivial, trivial⟩, ⟨fok212, trivial, trivial⟩⟩, ⟨fok116, ⟨fok180, trivial, trivial⟩, trivial⟩⟩⟩, ⟨fok28, ⟨fok44, ⟨fok76, ⟨fok140, trivial, trivial⟩, ⟨fok204, trivial, trivial⟩⟩, ⟨fok108, ⟨fok172, trivial, trivial⟩, trivial⟩⟩, ⟨fok60, ⟨fok92, ⟨fok156, trivial, trivial⟩, ⟨fok220, trivial, trivial⟩⟩, ⟨fok124, ⟨fok188, trivial, trivial⟩, trivial⟩⟩⟩⟩⟩, ⟨fok6, ⟨fok10, ⟨fok18, ⟨fok34, ⟨fok66, ⟨fok130, trivial, trivial⟩, ⟨fok194, trivial, trivial⟩⟩, ⟨fok98, ⟨fok162, trivial, trivial⟩, ⟨fok226, trivial, trivial⟩⟩⟩, ⟨fok50, ⟨fok82, ⟨fok146, trivial, trivial⟩, ⟨fok210, trivial, trivial⟩⟩, ⟨fok114, ⟨fok178, trivial, trivial⟩, trivial⟩⟩⟩, ⟨fok26, ⟨fok42, ⟨fok74, ⟨fok138, trivial, trivial⟩, ⟨fok202, trivial, trivial⟩⟩, ⟨fok106, ⟨fok170, trivial, trivial⟩, trivial⟩⟩, ⟨fok58, ⟨fok90, ⟨fok154, trivial, trivial⟩, ⟨fok218, trivial, trivial⟩⟩, ⟨fok122, ⟨fok186, trivial, trivial⟩, trivial⟩⟩⟩⟩, ⟨fok14, ⟨fok22, ⟨fok38, ⟨fok70, ⟨fok134, trivial, trivial⟩, ⟨fok198, trivial, trivial⟩⟩, ⟨fok102, ⟨fok166, trivial, trivial⟩, ⟨fok230, trivial, trivial⟩⟩⟩, ⟨fok54, ⟨fok86, ⟨fok150, trivial, trivial⟩, ⟨fok214, trivial, trivial⟩⟩, ⟨fok118, ⟨fok182, trivial, trivial⟩, trivial⟩⟩⟩, ⟨fok30, ⟨fok46, ⟨fok78, ⟨fok142, trivial, trivial⟩, ⟨fok206, trivial, trivial⟩⟩, ⟨fok110, ⟨fok174, trivial, trivial⟩, trivial⟩⟩, ⟨fok62, ⟨fok94, ⟨fok158, trivial, trivial⟩, ⟨fok222, trivial, trivial⟩⟩, ⟨fok126, ⟨fok190, trivial, trivial⟩, trivial⟩⟩⟩⟩⟩⟩⟩
end Go.Ev
end
section
namespace Go.Proofs.YtekjehbkmlodmaaGreat
open Go.RowKit Go.Ev
namespace Orc
noncomputable def fe0 : FE := ⟨[126, 7, 1, 0, 0, 0, 0, 0, 1, 0, 0, 0, 0, 0, 0, 0, 21, 224, 251, 217], .tup [.agg [.int .i64 7, .int .u16 1, .int .u32 0, .int .i32 1, .int .i32 0, .int .i32 0], .int .i64 20, .int .i64 0]⟩
theorem fe0_ok : FEok fe0 := ⟨⟨7, 1, 0, 1, 0, 0⟩, by decide +kernel, by constructor <;> decide, by decide, by kernel_rfl⟩
noncomputable def fe1 : FE := ⟨[126, 7, 2, 0, 0, 0, 0, 0, 1, 0, 0, 0, 0, 0, 0, 0, 206, 197, 154, 165], .tup [.agg [.int .i64 7, .int .u16 2, .int .u32 0, .int .i32 1, .int .i32 0, .int .i32 0], .int .i64 20, .int .i64 0]⟩
theorem fe1_ok : FEok fe1 := ⟨⟨7, 2, 0, 1, 0, 0⟩, by decide +kernel, by constructor <;> decide, by decide, by kernel_rfl⟩
noncomputable def fe2 : FE := ⟨[126, 7, 3, 0, 0, 0, 0, 0, 2, 0, 0, 0, 0, 0, 0, 0, 91, 35, 26, 182], .tup [.agg [.int .i64 7, .int .u16 3, .int .u32 0, .int .i32 2, .int .i32 0, .int .i32 0], .int .i64 20, .int .i64 0]⟩
theorem fe2_ok : FEok fe2 := ⟨⟨7, 3, 0, 2, 0, 0⟩, by decide +kernel, by constructor <;> decide, by decide, by kernel_rfl⟩
noncomputable def fe3 : FE := ⟨[126, 6, 3, 0, 0, 0, 0, 0, 0, 1, 0, 0, 0, 1, 0, 0, 0, 0, 0, 0, 215, 137, 76, 201], .tup [.agg [.int .i64 6, .int .u16 3, .int .u32 0, .int .i32 256, .int .i32 256, .int .i32 0], .int .i64 24, .int .i64 0]⟩
theorem fe3_ok : FEok fe3 := ⟨⟨6, 3, 0, 256, 256, 0⟩, by decide +kernel, by constructor <;> decide, by decide, by kernel_rfl⟩
noncomputable def fe4 : FE := ⟨[126, 7, 4, 0, 0, 0, 0, 0, 2, 0, 0, 0, 0, 0, 0, 0, 155, 137, 215, 211], .tup [.agg [.int .i64 7, .int .u16 4, .int .u32 0, .int .i32 2, .int .i32 0, .int .i32 0], .int .i64 20, .int .i64 0]⟩
theorem fe4_ok : FEok fe4 := ⟨⟨7, 4, 0, 2, 0, 0⟩, by decide +kernel, by constructor <;> decide, by decide, by kernel_rfl⟩
noncomputable def fe5 : FE := ⟨[126, 6, 4, 0, 0, 0, 0, 0, 0, 1, 0, 0, 254, 0, 0, 0, 171, 0, 0, 0, 123, 16, 158, 254], .tup [.agg [.int .i64 6, .int .u16 4, .int .u32 0, .int .i32 256, .int .i32 254, .int .i32 171], .int .i64 24, .int .i64 0]⟩
theorem fe5_ok : FEok fe5 := ⟨⟨6, 4, 0, 256, 254, 171⟩, by decide +kernel, by constructor <;> decide, by decide, by kernel_rfl⟩
noncomputable def fe6 : FE := ⟨[126, 7, 1, 0, 0, 0, 0, 0, 4, 0, 0, 0, 0, 0, 0, 0, 113, 238, 27, 145], .tup [.agg [.int .i64 7, .int .u16 1, .int .u32 0, .int .i32 4, .int .i32 0, .int .i32 0], .int .i64 20, .int .i64 0]⟩
theorem fe6_ok : FEok fe6 := ⟨⟨7, 1, 0, 4, 0, 0⟩, by decide +kernel, by constructor <;> decide, by decide, by kernel_rfl⟩
noncomputable def fe7 : FE := ⟨[126, 7, 2, 0, 0, 0, 0, 0, 4, 0, 0, 0, 0, 0, 0, 0, 170, 203, 122, 237], .tup [.agg [.int .i64 7, .int .u16 2, .int .u32 0, .int .i32 4, .int .i32 0, .int .i32 0], .int .i64 20, .int .i64 0]⟩
theorem fe7_ok : FEok fe7 := ⟨⟨7, 2, 0, 4, 0, 0⟩, by decide +kernel, by constructor <;> decide, by decide, by kernel_rfl⟩
noncomputable def fe8 : FE := ⟨[126, 7, 3, 0, 0, 0, 0, 0, 4, 0, 0, 0, 0, 0, 0, 0, 220, 42, 117, 112], .tup [.agg [.int .i64 7, .int .u16 3, .int .u32 0, .int .i32 4, .int .i32 0, .int .i32 0], .int .i64 20, .int .i64 0]⟩
theorem fe8_ok : FEok fe8 := ⟨⟨7, 3, 0, 4, 0, 0⟩, by decide +kernel, by constructor <;> decide, by decide, by kernel_rfl⟩
noncomputable def fe9 : FE := ⟨[126, 7, 4, 0, 0, 0, 0, 0, 4, 0, 0, 0, 0, 0, 0, 0, 28, 128, 184, 21], .tup [.agg [.int .i64 7, .int .u16 4, .int .u32 0, .int .i32 4, .int .i32 0, .int .i32 0], .int .i64 20, .int .i64 0]⟩
theorem fe9_ok : FEok fe9 := ⟨⟨7, 4, 0, 4, 0, 0⟩, by decide +kernel, by constructor <;> decide, by decide, by kernel_rfl⟩
noncomputable def fe10 : FE := ⟨[126, 7, 5, 0, 0, 0, 0, 0, 4, 0, 0, 0, 0, 0, 0, 0, 106, 97, 183, 136], .tup [.agg [.int .i64 7, .int .u16 5, .int .u32 0, .int .i32 4, .int .i32 0, .int .i32 0], .int .i64 20, .int .i64 0]⟩
theorem fe10_ok : FEok fe10 := ⟨⟨7, 5, 0, 4, 0, 0⟩, by decide +kernel, by constructor <;> decide, by decide, by kernel_rfl⟩
noncomputable def fe11 : FE := ⟨[126, 7, 6, 0, 0, 0, 0, 0, 4, 0, 0, 0, 0, 0, 0, 0, 177, 68, 214, 244], .tup [.agg [.int .i64 7, .int .u16 6, .int .u32 0, .int .i32 4, .int .i32 0, .int .i32 0], .int .i64 20, .int .i64 0]⟩
theorem fe11_ok : FEok fe11 := ⟨⟨7, 6, 0, 4, 0, 0⟩, by decide +kernel, by constructor <;> decide, by decide, by kernel_rfl⟩
noncomputable def fe12 : FE := ⟨[126, 7, 7, 0, 0, 0, 0, 0, 4, 0, 0, 0, 0, 0, 0, 0, 199, 165, 217, 105], .tup [.agg [.int .i64 7, .int .u16 7, .int .u32 0, .int .i32 4, .int .i32 0, .int .i32 0], .int .i64 20, .int .i64 0]⟩
theorem fe12_ok : FEok fe12 := ⟨⟨7, 7, 0, 4, 0, 0⟩, by decide +kernel, by constructor <;> decide, by decide, by kernel_rfl⟩
noncomputable def fe13 : FE := ⟨[126, 7, 8, 0, 0, 0, 0, 0, 4, 0, 0, 0, 0, 0, 0, 0, 49, 17, 77, 63], .tup [.agg [.int .i64 7, .int .u16 8, .int .u32 0, .int .i32 4, .int .i32 0, .int .i32 0], .int .i64 20, .int .i64 0]⟩
theorem fe13_ok : FEok fe13 := ⟨⟨7, 8, 0, 4, 0, 0⟩, by decide +kernel, by constructor <;> decide, by decide, by kernel_rfl⟩
noncomputable def fe14 : FE := ⟨[126, 7, 9, 0, 0, 0, 0, 0, 4, 0, 0, 0, 0, 0, 0, 0, 71, 240, 66, 162], .tup [.agg [.int .i64 7, .int .u16 9, .int .u32 0, .int .i32 4, .int .i32 0, .int .i32 0], .int .i64 20, .int .i64 0]⟩
theorem fe14_ok : FEok fe14 := ⟨⟨7, 9, 0, 4, 0, 0⟩, by decide +kernel, by constructor <;> decide, by decide, by kernel_rfl⟩
noncomputable def fe15 : FE := ⟨[126, 7, 10, 0, 0, 0, 0, 0, 4, 0, 0, 0, 0, 0, 0, 0, 156, 213, 35, 222], .tup [.agg [.int .i64 7, .int .u16 10, .int .u32 0, .int .i32 4, .int .i32 0, .int .i32 0], .int .i64 20, .int .i64 0]⟩
theorem fe15_ok : FEok fe15 := ⟨⟨7, 10, 0, 4, 0, 0⟩, by decide +kernel, by constructor <;> decide, by decide, by kernel_rfl⟩
noncomputable def feL : List FE := [fe0, fe1, fe2, fe3, fe4, fe5, fe6, fe7, fe8, fe9, fe10, fe11, fe12, fe13, fe14, fe15]
theorem feL_ok : ∀ e ∈ feL, FEok e := by
 intro e he
 simp only [feL, List.mem_cons, List.not_mem_nil, or_false] at he
 rcases he with rfl | rfl | rfl | rfl | rfl | rfl | rfl | rfl | rfl | rfl | rfl | rfl | rfl | rfl | rfl | rfl
 ·exact fe0_ok
 ·exact fe1_ok
 ·exact fe2_ok
 ·exact fe3_ok
 ·exact fe4_ok
 ·exact fe5_ok
 ·exact fe6_ok
 ·exact fe7_ok
 ·exact fe8_ok
 ·exact fe9_ok
 ·exact fe10_ok
 ·exact fe11_ok
 ·exact fe12_ok
 ·exact fe13_ok
 ·exact fe14_ok
 ·exact fe15_ok
end Orc
end Go.Proofs.YtekjehbkmlodmaaGreat
end
section
namespace Go.Proofs.YtekjehbkmlodmaaGreat
open Go.RowKit Go.Ev
namespace Orc
noncomputable def FT1 : TB Ev.Fn := TB.put (orcOf (ft.get (qB 228)) oLen) (qB 228) (TB.put (orcOf (ft.get (qB 196)) oMul) (qB 196) (TB.put (orcOf (ft.get (qB 87)) oSize) (qB 87) (TB.put (orcOf (ft.get (qB 90)) oFold) (qB 90)
 (TB.put (orcOf (ft.get (qB 74)) oByte) (qB 74) (TB.put (some (.ext eAdd)) (qB 208) (TB.put (some (.ext eSub)) (qB 219) (TB.put (mixOf (ft.get (qB 36)) (oFirst feL)) (qB 36) ft)))))))
theorem ft1_ok : FtOK FT1 := ((((((((ft_ok.mix ft_ok (oFirst_ok feL_ok)).ext eSub_ok).ext eAdd_ok).orc ft_ok oByte_ok).orc ft_ok oFold_ok).orc ft_ok oSize_ok).orc ft_ok oMul_ok).orc ft_ok oLen_ok)
end Orc
end Go.Proofs.YtekjehbkmlodmaaGreat
end
