/- THE ABSTRACT MACHINE: conversions. -/
import Derived.Test.YtekoolanpphbfaaA27
set_option linter.unusedSimpArgs false
set_option linter.unusedVariables false
set_option linter.unnecessarySimpa false
namespace Go.A
open Go
def convI (k : IntKind) : AV → Option AV
  | .c (.int _ n) => some (.c (.int k (k.wrap n)))
  | _ => none
theorem opA_convi (C : Oracle) (d : Option Nat) (σ : List AV) (H : Heap) (k : IntKind) (x : SX) : opA C d (.conv (.int k) x) σ H = (convI k (evalX σ x)).map fun v => (v, σ, H) := by
  simp only [opA, convI]
  split <;> simp_all
theorem convI_int (k k' : IntKind) (n : Int) : convI k (.c (.int k' n)) = some (.c (.int k (k.wrap n))) := rfl
attribute [simp] opA_convi convI_int
theorem wrap_u64 {n : Int} (h1 : 0 ≤ n) (h2 : n ≤ 18446744073709551615) : IntKind.u64.wrap n = n := by
  simp [IntKind.wrap, IntKind.bits, IntKind.signed]
  omega
theorem wrap_u8 {n : Int} (h1 : 0 ≤ n) (h2 : n ≤ 255) : IntKind.u8.wrap n = n := by
  simp [IntKind.wrap, IntKind.bits, IntKind.signed]
  omega
theorem fdiv2 (s : Nat) : ((s : Nat) : Int).fdiv 2 = ((s / 2 : Nat) : Int) := by
  rw [Int.fdiv_eq_ediv_of_nonneg _ (by omega)]
  omega
end Go.A
