import Derived.Test.YtpnafccedgjaeaaProfW3b
import Derived.Test.YtpnafccedgjaeaaProfW3c
namespace Go.Proofs.Ytpnafccedgjaeaa
open Go.RowKit
namespace Prof

theorem add_any (g : Nat) (p : Pr) (z : Int) (w : World) (h : PB w g p) (hk : ok p) :
    Calls Try.prog 29 #[.pointer (some ⟨g, 0, none⟩), .int .i64 z] w fun e w' => e = .returned (.bool (!near p)) ∧ PB w' g (add p z) ∧ w.grownBy w' (some g) := by
  unfold add
  cases hn : near p
  · rw [if_neg (by decide)]
    by_cases h0 : p.n = 0
    · have : freed p = p := by unfold freed; rw [if_neg (by omega)]
      rw [this]
      exact add_empty g p z w h hk h0
    · by_cases h64 : p.n = 64
      · exact add_full g p z w h hk hn h64
      · have : freed p = p := by unfold freed; rw [if_neg h64]
        rw [this]
        exact add_mid g p z w h hk hn (by omega) (by have := hk.2.1; omega)
  · rw [if_pos rfl]
    exact add_near g p z w h hk hn
end Prof
end Go.Proofs.Ytpnafccedgjaeaa
