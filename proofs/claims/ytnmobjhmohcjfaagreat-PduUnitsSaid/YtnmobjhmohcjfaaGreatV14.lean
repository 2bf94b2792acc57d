/- THE VALUE MACHINE: comparisons that the hypotheses decide. -/
import Derived.Test.YtnmobjhmohcjfaaGreatV13
set_option linter.unusedSimpArgs false
set_option linter.unusedVariables false
set_option linter.unnecessarySimpa false
namespace Go.A.V
open Go Go.A
theorem N8 {a b:Int} (h:a<b):(a<b)=True:=eq_true h
theorem N9 {a b:Int} (h:b≤a):(a<b)=False:=eq_false (by omega)
theorem Oa {a b:Int} (h:a≤b):(a≤b)=True:=eq_true h
theorem Ob {a b:Int} (h:b<a):(a≤b)=False:=eq_false (by omega)
theorem Oc {a b:Int} (h:a<b∨b<a):(a=b)=False:=eq_false (by omega)
theorem Od {a b:Int} (h:a≤b∧b≤a):(a=b)=True:=eq_true (by omega)
theorem Oe {a b:Nat} (h:a<b):(a<b)=True:=eq_true h
theorem Of {a b:Nat} (h:b≤a):(a<b)=False:=eq_false (by omega)
theorem Og {a b:Nat} (h:a≤b):(a≤b)=True:=eq_true h
theorem Oh {a b:Nat} (h:a<b∨b<a):(a=b)=False:=eq_false (by omega)
theorem Oi {a b:Nat} (h:a≤b∧b≤a):(a=b)=True:=eq_true (by omega)
theorem bq (k:Option Nat) (x:SX) (σ:List AV) (H:ae):rdV (.load k x) σ H=sV σ H k (ak σ x):=by
 simp only [rdV,sV]
 cases ak σ x<;>rfl
set_option linter.defProp false
def CM:=And.intro @N8 <| And.intro @N9 <| And.intro @Oa <| And.intro @Ob <| And.intro @Oc <| And.intro @Od <| And.intro @Oe <| And.intro @Of <| And.intro @Og <| And.intro @Oh <| And.intro @Oi <| And.intro @aq <| And.intro @bJ <| @gj
end Go.A.V
