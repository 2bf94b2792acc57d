/- THE ABSTRACT MACHINE: what a new local box makes of the slots. -/
import Derived.Test.YtekoolanpphbfaaA29
set_option linter.unusedSimpArgs false
set_option linter.unusedVariables false
set_option linter.unnecessarySimpa false
namespace Go.A
open Go
theorem forget_free {v : AV} (h : v.free = true) (d : Nat) : forget d v = v := by cases v <;> first | rfl | simp [AV.free] at h
theorem forget_c (d : Nat) (v : Value) : forget d (.c v) = .c v := rfl
theorem forget_undef (d : Nat) : forget d .undef = .undef := rfl
theorem forget_sl (d r o l c z g : Nat) (e : Bool) : forget d (.sl r o l c z g e) = .sl r o l c z g e := rfl
theorem forget_ptr (d r o g : Nat) : forget d (.ptr r o g) = .ptr r o g := rfl
theorem forget_lptr (d d' o : Nat) : forget d (.lptr d' o) = if d' = d then .undef else .lptr d' o := rfl
theorem forget_lbox (d : Nat) (xs : List AV) : forget d (.lbox xs) = .lbox xs := rfl
theorem forget_agg (d : Nat) (xs : List AV) : forget d (.agg xs) = .agg xs := rfl
theorem forget_tup (d : Nat) (xs : List AV) : forget d (.tup xs) = .tup xs := rfl
theorem forget_fn (d : Nat) (f : FuncId) (xs : List AV) : forget d (.fn f xs) = .fn f xs := rfl
theorem forget_iface (d : Nat) (t : TypeId) (x : AV) : forget d (.iface t x) = .iface t x := rfl
attribute [simp] forget_c forget_undef forget_sl forget_ptr forget_lptr forget_lbox forget_agg forget_tup forget_fn forget_iface
end Go.A
