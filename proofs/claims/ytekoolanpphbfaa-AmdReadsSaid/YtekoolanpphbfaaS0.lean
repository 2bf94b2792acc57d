/- The set's seat on the value machine: its calls are sound. -/
import Derived.Test.YtekoolanpphbfaaK2
import Derived.Test.YtekoolanpphbfaaK1P
import Derived.Test.YtekoolanpphbfaaXC
import Derived.Test.YtekoolanpphbfaaRows
import Derived.WalkKit
import Derived.ProofKit
import Derived.OpenShut
import Derived.ShutString
import Derived.ChangeOld
import Derived.Below
import Derived.SizedLaws
set_option linter.unusedSimpArgs false
set_option linter.unusedVariables false
set_option linter.unnecessarySimpa false
namespace Go.Proofs.Ytekoolanpphbfaa
open Go Go.A Go.A.V Go.A.V.S Go.RowKit
set_option linter.unusedVariables false
theorem own0 : ownKnob Try.prog.godebug = none := by kernel_rfl
theorem laidOut0 : laidOutB Try.prog = true := by kernel_rfl
theorem XO_sound : SoundO Try.prog XO := fun f args H v H' h => by simp [XO] at h
theorem calls_ok : SoundO Try.prog (A.callW tbl XO) := callW_sound tbl_ok XO_sound mix
theorem fits0 : Fits P tbl XO where
  ft := fun f s h => ⟨(tblV_ok f s h).1, fun _ _ => rfl, (tblV_ok f s h).2⟩
  fx := fun f args H v H' h => by simp [P, XO] at h
end Go.Proofs.Ytekoolanpphbfaa
