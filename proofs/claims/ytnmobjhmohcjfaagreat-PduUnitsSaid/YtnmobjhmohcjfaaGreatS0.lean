/- The set's seat on the value machine: its calls are sound. -/
import Derived.Test.YtnmobjhmohcjfaaGreatK2
import Derived.Test.YtnmobjhmohcjfaaGreatK1P
import Derived.Test.YtnmobjhmohcjfaaGreatXC
import Derived.Test.YtnmobjhmohcjfaaGreatRows
import Derived.WalkKit
import Derived.ProofKit
import Derived.OpenShut
import Derived.ShutString
import Derived.ChangeOld
import Derived.Below
import Derived.SizedLaws
set_option linter.unusedSimpArgs false
set_option linter.unusedVariables false
set_option linter.unnecessarySimpa false
namespace Go.Proofs.YtnmobjhmohcjfaaGreat
open Go Go.A Go.A.V Go.A.V.S Go.RowKit
theorem aen:ownKnob Tryz.prog.godebug=none:=by kernel_rfl
theorem ut:laidOutB Tryz.prog=true:=by kernel_rfl
theorem KA:eN Tryz.prog XO:=fun f args H v H' h=>by simp [XO] at h
theorem KB:eN Tryz.prog (A.callW tbl XO):=yM Tl KA mix
theorem ac2:L7 P tbl XO where
 ft:=fun f s h=>⟨(D7 f s h).1,fun _ _=>rfl,(D7 f s h).2⟩
 fx:=fun f args H v H' h=>by simp [P,XO] at h
end Go.Proofs.YtnmobjhmohcjfaaGreat
