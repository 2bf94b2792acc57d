/- What a row's arguments are, read out of the typed reading. -/
import Derived.Test.YtnmobjhmohcjfaaAW
import Derived.ChangeArms
import Derived.ChangeShapes
import Derived.Deep.Slices
import Derived.DataReads
set_option linter.unusedSimpArgs false
set_option linter.unusedVariables false
set_option linter.unnecessarySimpa false
namespace Go.A
open Go
section
variable {H : Type} {enc : TypeId × Value → H} {P : Program} {w : World} {base : Nat} {spare : Nat → Bool} {held : Bool}
end
end Go.A

namespace Go.A
open Go
section
variable {H : Type} {enc : TypeId × Value → H} {P : Program} {w : World}
theorem absV_slice {b off len cap : Nat} {c : Array Value} {ty : TypeId} {fr : Nat × Nat} (h : w.heap[b]? = some (.cells c ty fr)) : absV w (.slice (some ⟨b,off,none⟩) len cap) = .sl b off len cap 0 c.size true := by
 simp only [absV,h]
end
end Go.A
