/- How many bytes a packet has. -/
import Derived.Test.YtnmobjhmohcjfaaXA
import Derived.Test.YtnmobjhmohcjfaaAX
set_option linter.unusedSimpArgs false
set_option linter.unusedVariables false
set_option linter.unnecessarySimpa false
namespace Go.A.V.S
open Go Go.A
def base (p : Pk) (w : Nat) : Nat := headV p.part w + lsize (p.ff.length - 1) (lenWd w)
section
variable {H : Heap}
end
end Go.A.V.S

namespace Go.A.V.S
open Go Go.A
theorem sumR_pos : ∀ (ff : List (List Nat)) (n : Nat),sumR n ff ≠ 0 → (∀ f ∈ ff,f.length ≠ 0) ∧ (∀ f ∈ ff.dropLast,f.length ≤ 2047) ∧ (ff ≠ [] → n + ff.flatten.length ≤ 4000) ∧ sumR n ff = n + ff.flatten.length
 | [],n,h => ⟨by simp,by simp,fun h => (h rfl).elim,by simp [sumR]⟩
 | f :: r,n,h => by
  rw [sumR] at h ⊢
  by_cases c1 : f.length = 0
  ·rw [if_pos c1] at h; exact (h rfl).elim
  ·rw [if_neg c1] at h ⊢
   by_cases c2 : 2047 < f.length ∧ 0 < r.length
   ·rw [if_pos c2] at h; exact (h rfl).elim
   ·rw [if_neg c2] at h ⊢
    by_cases c3 : 4000 < f.length + n
    ·rw [if_pos c3] at h; exact (h rfl).elim
    ·rw [if_neg c3] at h ⊢
     obtain ⟨h1,h2,h3,h4⟩ := sumR_pos r (n + f.length) h
     refine ⟨?_,?_,fun _ => ?_,?_⟩
     ·intro x hx
      rcases List.mem_cons.1 hx with rfl | hx
      ·exact c1
      ·exact h1 x hx
     ·cases r with
      | nil => simp
      | cons g s =>
       intro x hx
       rw [List.dropLast_cons_cons] at hx
       rcases List.mem_cons.1 hx with rfl | hx
       ·simp at c2; omega
       ·exact h2 x hx
     ·rw [List.flatten_cons,List.length_append]
      cases r with
      | nil => simp; omega
      | cons g s => have := h3 (by simp); omega
     ·rw [h4,List.flatten_cons,List.length_append]; omega
theorem elems_lst (z : Bool) (f : Option Nat) (k : Nat) (l : List (List AV)) (H : Heap) : elems H k (lst z k f l) = some l := by
 rcases lst_cases z k f l with ⟨_,h,e⟩ | ⟨e,_⟩
 ·rw [e,h]; rfl
 ·rw [e]; simp [elems]
section
variable {H : Heap}
end
end Go.A.V.S

namespace Go.A.V.S
open Go Go.A
theorem lBits_le {w : Nat} (hw : w = 11 ∨ w = 15) {l : List Nat} (h : l.length ≤ 23) : (lBits w l).length ≤ 368 := by
 rw [lBits_len]
 have : l.length * (w + 1) ≤ 23 * 16 := Nat.mul_le_mul h (by omega)
 omega
end Go.A.V.S

namespace Go.A.V.S
open Go Go.A
section
variable {H : Heap} {za zb : Bool} {fa fb : List Bs}
end
end Go.A.V.S
