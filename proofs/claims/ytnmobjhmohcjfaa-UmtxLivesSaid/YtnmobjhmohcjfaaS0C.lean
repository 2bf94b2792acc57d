/- The set's seat on the value machine: its calls are sound; a law's fixed calls are run by the kernel. -/
import Derived.Test.YtnmobjhmohcjfaaK2
import Derived.Test.YtnmobjhmohcjfaaK1P
import Derived.Test.YtnmobjhmohcjfaaXC
import Derived.Test.YtnmobjhmohcjfaaT16
import Derived.Test.YtnmobjhmohcjfaaRows
import Derived.WalkKit
import Derived.ProofKit
import Derived.OpenShut
import Derived.ShutString
import Derived.ChangeOld
import Derived.Below
import Derived.SizedLaws
set_option linter.unusedSimpArgs false
set_option linter.unusedVariables false
set_option linter.unnecessarySimpa false
namespace Go.Proofs.Ytnmobjhmohcjfaa
open Go Go.A Go.A.V Go.A.V.S Go.RowKit
theorem own0 : ownKnob Try.prog.godebug = none := by kernel_rfl
theorem laidOut0 : laidOutB Try.prog = true := by kernel_rfl
theorem X0_sound : SoundO Try.prog (fun _ _ _ => none) := fun f args H v H' h => by simp at h
theorem fixed18 : isFn Try.prog 18 = true ∧ ∃ H1,SoundCall Try.prog 18 [] [] (ab true) H1 := by
 obtain ⟨⟨u,H1⟩,h1,h2⟩ := Option.map_eq_some_iff.1 alive18
 simp only at h2
 subst h2
 have := callN_sound tbl_ok X0_sound mix 100 18 [] [] _ _ h1
 exact ⟨this.1,H1,this.2⟩
theorem XO_is {f : FuncId} {args : List AV} {H : Heap} {v : AV} {H' : Heap} (h : XO f args H = some (v,H')) : (f = 18) ∧ args = [] ∧ v = ab true ∧ H' = H := by
 unfold XO at h
 split at h
 ·split at h
  ·simp only [Option.some.injEq,Prod.mk.injEq] at h
   exact ⟨rfl,rfl,h.1.symm,h.2.symm⟩
  ·simp at h
 ·simp at h
theorem XO_sound : SoundO Try.prog XO := fun f args H v H' h => by
 obtain ⟨hf,rfl,rfl,rfl⟩ := XO_is h
 subst hf
 ·obtain ⟨h1,H1,h2⟩ := fixed18
  exact ⟨h1,const_call rfl rfl h2 H'⟩
theorem calls_ok : SoundO Try.prog (A.callW tbl XO) := callW_sound tbl_ok XO_sound mix
theorem fits0 : Fits P tbl XO where
 ft := fun f s h => by
  refine ⟨(tblV_ok f s h).1,fun args H => ?_,(tblV_ok f s h).2⟩
  cases hx : XO f args H with
  | none => rfl
  | some y =>
   obtain ⟨v,H'⟩ := y
   obtain ⟨hf,_⟩ := XO_is hx
   exfalso
   subst hf
   simp [P,tblV] at h
 fx := fun f args H v H' h => by
  have h0 : XO f args H = some (v,H') := h
  obtain ⟨hf,rfl,rfl,rfl⟩ := XO_is h0
  intro g aa hh ha
  simp only [RVs] at ha
  subst ha
  refine ⟨ab true,g,no,?_,rfl,hh,rv_of_c _ _ _,fun c r e => by simp [no] at e,Up.refl g,fun _ _ _ => rfl,fun _ _ _ _ => rfl⟩
  have hX : XO f [] g.M = some (ab true,g.M) := by
   subst hf; rfl
  rw [A.callW_eq,hX]
end Go.Proofs.Ytnmobjhmohcjfaa
