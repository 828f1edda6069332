import Derived.Test.YtajadnlejdpceaaTlU2
set_option linter.unusedVariables false
namespace Go.TL
theorem zY {α : Type} {c : Bool} {x y : Option α} {r : Option α} (h : c = true) (H : (bif c then x else y) = r) : x = r := by rw [h] at H; exact H
theorem zX {α : Type} {c : Bool} {x y : Option α} {r : Option α} (h : c = false) (H : (bif c then x else y) = r) : y = r := by rw [h] at H; exact H
end Go.TL
