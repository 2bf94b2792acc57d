/- THE VALUE MACHINE: comparisons that the hypotheses decide. -/
import Derived.Test.YtnmobjhmohcjfaaGreatV13
set_option linter.unusedSimpArgs false
set_option linter.unusedVariables false
set_option linter.unnecessarySimpa false
namespace Go.A.V
open Go Go.A
theorem aw {a b:Int} (h:a<b):(a<b)=True:=eq_true h
theorem ax {a b:Int} (h:b≤a):(a<b)=False:=eq_false (by omega)
theorem ay {a b:Int} (h:a≤b):(a≤b)=True:=eq_true h
theorem az {a b:Int} (h:b<a):(a≤b)=False:=eq_false (by omega)
theorem aA {a b:Int} (h:a<b∨b<a):(a=b)=False:=eq_false (by omega)
theorem aB {a b:Int} (h:a≤b∧b≤a):(a=b)=True:=eq_true (by omega)
theorem aC {a b:Nat} (h:a<b):(a<b)=True:=eq_true h
theorem aD {a b:Nat} (h:b≤a):(a<b)=False:=eq_false (by omega)
theorem aE {a b:Nat} (h:a≤b):(a≤b)=True:=eq_true h
theorem aF {a b:Nat} (h:a<b∨b<a):(a=b)=False:=eq_false (by omega)
theorem aG {a b:Nat} (h:a≤b∧b≤a):(a=b)=True:=eq_true (by omega)
theorem bI (k:Option Nat) (x:SX) (σ:List AV) (H:ae):rdV (.load k x) σ H=td σ H k (av σ x):=by
 simp only [rdV,td]
 cases av σ x<;>rfl
def CM:=And.intro @aw <| And.intro @ax <| And.intro @ay <| And.intro @az <| And.intro @aA <| And.intro @aB <| And.intro @aC <| And.intro @aD <| And.intro @aE <| And.intro @cmp_nlg <| And.intro @aF <| And.intro @aG <| And.intro @ag <| And.intro @aj <| @ar
end Go.A.V
