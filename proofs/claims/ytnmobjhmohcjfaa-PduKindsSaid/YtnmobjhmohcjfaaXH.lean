/- Equal statuses, equal packets that are not acknowledged. -/
import Derived.Test.YtnmobjhmohcjfaaXG
import Derived.Test.YtnmobjhmohcjfaaXD
import Derived.Test.YtnmobjhmohcjfaaXB
set_option linter.unusedSimpArgs false
set_option linter.unusedVariables false
set_option linter.unnecessarySimpa false
namespace Go.A.V.S
open Go Go.A
set_option linter.unusedSimpArgs false
set_option linter.unusedVariables false
section
variable {H : Heap}
end
end Go.A.V.S

namespace Go.A.V.S
open Go Go.A
set_option linter.unusedSimpArgs false
set_option linter.unusedVariables false
section
variable {H : Heap}
end
/-- A unit. -/
structure Un where
  kind : Int
  raw : Bs
  um : Um
  am : Pk
  st : St
def Un.v (u : Un) : List AV := [ai u.kind, bv u.raw, ai u.um.fi, ai u.um.sn, lst u.um.z 1 none (bvs u.um.ff), ab u.am.poll, ai u.am.fi, ai u.am.sn, ab u.am.part, ab u.am.last, ai u.am.off, lst u.am.z 1 none (bvs u.am.ff), ai u.st.ack, lst u.st.z 4 none (mvs u.st.ms)]
end Go.A.V.S

namespace Go.A.V.S
open Go Go.A
set_option linter.unusedSimpArgs false
set_option linter.unusedVariables false
end Go.A.V.S
