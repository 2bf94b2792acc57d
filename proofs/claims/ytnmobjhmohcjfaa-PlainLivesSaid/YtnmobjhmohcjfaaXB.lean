/- How many bytes a packet has. -/
import Derived.Test.YtnmobjhmohcjfaaXA
import Derived.Test.YtnmobjhmohcjfaaAX
set_option linter.unusedSimpArgs false
set_option linter.unusedVariables false
set_option linter.unnecessarySimpa false
namespace Go.A.V.S
open Go Go.A
set_option linter.unusedSimpArgs false
set_option linter.unusedVariables false

def base (p : Pk) (w : Nat) : Nat := headV p.part w + lsize (p.ff.length - 1) (lenWd w)
section
variable {H : Heap}
end
end Go.A.V.S

namespace Go.A.V.S
open Go Go.A
set_option linter.unusedSimpArgs false
set_option linter.unusedVariables false

section
variable {H : Heap}
end
end Go.A.V.S

namespace Go.A.V.S
open Go Go.A
set_option linter.unusedSimpArgs false
set_option linter.unusedVariables false

end Go.A.V.S

namespace Go.A.V.S
open Go Go.A
set_option linter.unusedSimpArgs false
set_option linter.unusedVariables false

section
variable {H : Heap} {za zb : Bool} {fa fb : List Bs}
end
end Go.A.V.S
