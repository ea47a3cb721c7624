/- A part of the proof of WholeFaults. -/
import Derived.Test.YtekjehbkmlodmaaGreatZU
import Derived.Test.YtekjehbkmlodmaaGreatEvKriceBest0
import Derived.Test.YtekjehbkmlodmaaGreatEvKriceBest4
import Derived.Test.YtekjehbkmlodmaaGreatEvKriceBest5
import Derived.Test.YtekjehbkmlodmaaGreatEvKriceBest8
import Derived.Test.YtekjehbkmlodmaaGreatEvKtilePut1
import Derived.Test.YtekjehbkmlodmaaGreatEvKtilePut2
import Derived.Test.YtekjehbkmlodmaaGreatEvKTile2
import Derived.Test.YtekjehbkmlodmaaGreatEvKseedMake0
import Derived.Test.YtekjehbkmlodmaaGreatEvKWeights0
import Derived.Test.YtekjehbkmlodmaaGreatEvKRgDo2
import Derived.Test.YtekjehbkmlodmaaGreatEvKRgDo3
import Derived.Test.YtekjehbkmlodmaaGreatEvKRgDo4
import Derived.Test.YtekjehbkmlodmaaGreatEvKRgDo5
import Derived.Test.YtekjehbkmlodmaaGreatEvKRgChoose2
import Derived.Test.YtekjehbkmlodmaaGreatEvKmove2
import Derived.Test.YtekjehbkmlodmaaGreatEvKtilePut0
import Derived.Test.YtekjehbkmlodmaaGreatEvKTile0
import Derived.Test.YtekjehbkmlodmaaGreatEvKTile1
import Derived.Test.YtekjehbkmlodmaaGreatEvKTile4
import Derived.Test.YtekjehbkmlodmaaGreatEvKweigh0
import Derived.Test.YtekjehbkmlodmaaGreatEvKBytes0
import Derived.Test.YtekjehbkmlodmaaGreatEvKDrNew0
import Derived.Test.YtekjehbkmlodmaaGreatEvKlook0
set_option linter.unusedVariables false
set_option linter.unusedSimpArgs false
namespace Go.Proofs.YtekjehbkmlodmaaGreat
open Go.RowKit Go.Ev
namespace Orc
noncomputable def FT5 : TB Ev.Fn := TB.put (mixOf (ft.get (qB 107)) (memoE [elook0])) (qB 107) (TB.put (mixOf (ft.get (qB 8)) (memoE [eDrNew0])) (qB 8) (TB.put (mixOf (ft.get (qB 17)) (memoE [eBytes0])) (qB 17) (TB.put (mixOf (ft.get (qB 108)) (memoE [eweigh0])) (qB 108) (TB.put (mixOf (ft.get (qB 82)) (memoE [emove2])) (qB 82) (TB.put (mixOf (ft.get (qB 179)) (memoE [eRgChoose2])) (qB 179) (TB.put (mixOf (ft.get (qB 138)) (memoE [eRgDo2, eRgDo3, eRgDo4, eRgDo5])) (qB 138) (TB.put (mixOf (ft.get (qB 131)) (memoE [eWeights0])) (qB 131) (TB.put (mixOf (ft.get (qB 130)) (memoE [eseedMake0])) (qB 130) (TB.put (mixOf (ft.get (qB 34)) (memoE [eTile2, eTile0, eTile1, eTile4])) (qB 34) (TB.put (mixOf (ft.get (qB 27)) (memoE [etilePut1, etilePut2, etilePut0])) (qB 27) (TB.put (mixOf (ft.get (qB 70)) (memoE [ericeBest0, ericeBest4, ericeBest5, ericeBest8])) (qB 70) (FT2))))))))))))
theorem ft5_ok : FtOK FT5 := ((((((((((((ft2_ok.mix ft_ok (memoE_ok (List.forall_mem_cons.2 ⟨⟨_, _, ft2_ok, criceBest0⟩, List.forall_mem_cons.2 ⟨⟨_, _, ft2_ok, criceBest4⟩, List.forall_mem_cons.2 ⟨⟨_, _, ft2_ok, criceBest5⟩, List.forall_mem_cons.2 ⟨⟨_, _, ft2_ok, criceBest8⟩, fun e he => by cases he⟩⟩⟩⟩))).mix ft_ok (memoE_ok (List.forall_mem_cons.2 ⟨⟨_, _, ft2_ok, ctilePut1⟩, List.forall_mem_cons.2 ⟨⟨_, _, ft2_ok, ctilePut2⟩, List.forall_mem_cons.2 ⟨⟨_, _, ft3_ok, ctilePut0⟩, fun e he => by cases he⟩⟩⟩))).mix ft_ok (memoE_ok (List.forall_mem_cons.2 ⟨⟨_, _, ft2_ok, cTile2⟩, List.forall_mem_cons.2 ⟨⟨_, _, ft3_ok, cTile0⟩, List.forall_mem_cons.2 ⟨⟨_, _, ft3_ok, cTile1⟩, List.forall_mem_cons.2 ⟨⟨_, _, ft3_ok, cTile4⟩, fun e he => by cases he⟩⟩⟩⟩))).mix ft_ok (memoE_ok (List.forall_mem_cons.2 ⟨⟨_, _, ft2_ok, cseedMake0⟩, fun e he => by cases he⟩))).mix ft_ok (memoE_ok (List.forall_mem_cons.2 ⟨⟨_, _, ft2_ok, cWeights0⟩, fun e he => by cases he⟩))).mix ft_ok (memoE_ok (List.forall_mem_cons.2 ⟨⟨_, _, ft2_ok, cRgDo2⟩, List.forall_mem_cons.2 ⟨⟨_, _, ft2_ok, cRgDo3⟩, List.forall_mem_cons.2 ⟨⟨_, _, ft2_ok, cRgDo4⟩, List.forall_mem_cons.2 ⟨⟨_, _, ft2_ok, cRgDo5⟩, fun e he => by cases he⟩⟩⟩⟩))).mix ft_ok (memoE_ok (List.forall_mem_cons.2 ⟨⟨_, _, ft2_ok, cRgChoose2⟩, fun e he => by cases he⟩))).mix ft_ok (memoE_ok (List.forall_mem_cons.2 ⟨⟨_, _, ft2_ok, cmove2⟩, fun e he => by cases he⟩))).mix ft_ok (memoE_ok (List.forall_mem_cons.2 ⟨⟨_, _, ft3_ok, cweigh0⟩, fun e he => by cases he⟩))).mix ft_ok (memoE_ok (List.forall_mem_cons.2 ⟨⟨_, _, ft4_ok, cBytes0⟩, fun e he => by cases he⟩))).mix ft_ok (memoE_ok (List.forall_mem_cons.2 ⟨⟨_, _, ft4_ok, cDrNew0⟩, fun e he => by cases he⟩))).mix ft_ok (memoE_ok (List.forall_mem_cons.2 ⟨⟨_, _, ft4_ok, clook0⟩, fun e he => by cases he⟩)))
end Orc
end Go.Proofs.YtekjehbkmlodmaaGreat
