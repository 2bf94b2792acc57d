/- THE VALUE MACHINE: comparisons that the hypotheses decide. -/
import Derived.Test.YtnmobjhmohcjfaaV13
set_option linter.unusedSimpArgs false
set_option linter.unusedVariables false
set_option linter.unnecessarySimpa false
namespace Go.A.V
open Go Go.A
theorem cmp_ilt {a b : Int} (h : a < b) : (a < b) = True := eq_true h
theorem cmp_ilf {a b : Int} (h : b ≤ a) : (a < b) = False := eq_false (by omega)
theorem cmp_ile {a b : Int} (h : a ≤ b) : (a ≤ b) = True := eq_true h
theorem cmp_ilg {a b : Int} (h : b < a) : (a ≤ b) = False := eq_false (by omega)
theorem cmp_ine {a b : Int} (h : a < b ∨ b < a) : (a = b) = False := eq_false (by omega)
theorem cmp_ieq {a b : Int} (h : a ≤ b ∧ b ≤ a) : (a = b) = True := eq_true (by omega)
theorem cmp_nlt {a b : Nat} (h : a < b) : (a < b) = True := eq_true h
theorem cmp_nlf {a b : Nat} (h : b ≤ a) : (a < b) = False := eq_false (by omega)
theorem cmp_nle {a b : Nat} (h : a ≤ b) : (a ≤ b) = True := eq_true h
theorem cmp_nne {a b : Nat} (h : a < b ∨ b < a) : (a = b) = False := eq_false (by omega)
theorem cmp_neq {a b : Nat} (h : a ≤ b ∧ b ≤ a) : (a = b) = True := eq_true (by omega)
theorem rdV_load (k : Option Nat) (x : SX) (σ : List AV) (H : Heap) : rdV (.load k x) σ H = loadV σ H k (evalX σ x) := by
 simp only [rdV,loadV]
 cases evalX σ x <;> rfl
theorem rdV_str (x : SX) (σ : List AV) (H : Heap) : rdV (.conv .toStr x) σ H = strV H (evalX σ x) := by
 simp only [rdV,strV]
 cases evalX σ x <;> rfl
end Go.A.V
