/-
  WheelPlays, any list of turns: a long one is let pass, the others are played.
-/
import Derived.Test.YtdahefphohkhlaaDoorWhPlayW
set_option linter.unusedSimpArgs false
set_option linter.unusedVariables false
namespace Go.Proofs.YtdahefphohkhlaaDoor
open Go.RowKit Go.Maps
set_option maxRecDepth 100000 in
theorem wheelPlays_any (ta : Option Addr) (xs : List Tu) (tc : Nat) (w : World) (hg : Handle w) (hm : xs.length ≤ maxLen) (hok : ∀ x ∈ xs, x.Ok) (hxa : TusAt w ta xs) :
    Calls Tryd.prog 3 #[.slice ta xs.length tc] w fun e w' => e = .returned (.bool true) ∧ Chg Nil w w' := by
  by_cases hxl : xs.length ≤ 150
  · exact wheelPlays_in ta xs tc w hxl hok hxa hg
  · have h150 : (150 : Int) < (xs.length : Int) := by omega
    go_enter Tryd.func3, Tryd.ntmps3
    go_wp2_with fail
    go_ret
    exact ⟨rfl, Chg.refl _ _⟩
end Go.Proofs.YtdahefphohkhlaaDoor
