/- PduConfigs (bowlinelaw12): whatever the config and the mode, it is true; the arguments read as before. -/
import Derived.Test.YtgjjmhmaomcnaaaB2
import Derived.Test.YtgjjmhmaomcnaaaB4
import Derived.Test.YtgjjmhmaomcnaaaB10
import Derived.Test.YtgjjmhmaomcnaaaR1
import Derived.Test.YtgjjmhmaomcnaaaRows
import Derived.WalkKit
import Derived.ProofKit
import Derived.OpenShut
import Derived.ShutString
import Derived.ChangeOld
import Derived.Below
import Derived.SizedLaws
namespace Go.Proofs.Ytgjjmhmaomcnaaa.pduConfigs
open Go.ChangeShapes Go.WideShapes Go.ChangeAt Go.RowKit Go.A Go.A.SeatB
open Go.ChangeMaps (open_string shut_string)
set_option linter.unusedVariables false
theorem own : ownKnob Try.prog.godebug = none := by kernel_rfl
theorem laidOut : laidOutB Try.prog = true := by kernel_rfl
theorem X1_sound : SoundO Try.prog X1 := constO_sound fun f v h => by
  have hf : f = 8 ∧ v = ab true := by
    simp only [List.lookup] at h
    split at h
    · rename_i hb
      exact ⟨by simpa using hb, (Option.some.inj h).symm⟩
    · simp at h
  obtain ⟨rfl, rfl⟩ := hf
  obtain ⟨⟨u, H1⟩, h1, h2⟩ := Option.map_eq_some_iff.1 alive8c
  simp only at h2
  subst h2
  have := callN_sound tbl_ok X0_sound mix 100 8 [] [] _ _ h1
  exact ⟨this.1, rfl, H1, this.2⟩
theorem callW_ok : SoundO Try.prog (callW tbl X1) := callW_sound tbl_ok X1_sound mix

theorem walk (zs : List Int) (hz : zs.length = 10) (cs : Array Value) (hc : cs.toList = zs.map (Value.int .i64)) (m : Int) (w : World) :
    Calls Try.prog 3 #[.agg cs, .int .i64 m] w fun e w' => e = .returned (.bool true) ∧ Below w.heap.size w w' := by
  match zs, hz with
  | [a, b, c, d, e, f, g, h, i, j], _ =>
    obtain ⟨⟨v, H'⟩, h1, h2⟩ := law3 ⟨a, b, c, d, e, f, g, h, i, j⟩ m (absW w)
    simp only at h2
    subst h2
    refine law_calls callW_ok (vs := [.agg cs, .int .i64 m]) (H' := H') ?_
    simp only [List.map_cons, List.map_nil, absA_ints w cs _ hc, absA_int]
    exact h1

set_option maxRecDepth 100000 in
theorem lifted (os : Os) (started : os.Started) (H : Type) (enc : TypeId × Value → H) :
    ReturnsInHanded {} Try.checked os 3 .any (Rows.pduConfigsSpec.pre6 enc Try.prog Try.f3 Rows.pduConfigsRow.domain false) (Rows.pduConfigsSpec.post enc Try.prog Try.f3 false true false false) := by
  refine returnsInHanded_of_change_sized (C := Try.checked) own started (by kernel_rfl) Try.func3
    (ChangeSpec.witness6 (enc := enc) (C := Try.checked) false ⟨#[], #[.agg (Array.replicate 10 (.int .i64 0)), .int .i64 0], []⟩ 8 (by kernel_rfl) (by kernel_rfl) (by kernel_rfl) (by kernel_rfl)) ?_
  intro W base args ds gs before hval0 hW hcnd hsz0 _
  have hval : ∀ (j : Nat) t v, Try.f3.params[j]? = some t → args[j]? = some v → Value.okWide Try.prog W .any base t v := hval0
  have hW' := hW
  obtain ⟨p, q, hA0, hV, rfl, hfz, hnd⟩ := hW
  have hA : DataW.TrodAll enc Try.prog W 0 (fun _ => true) true Try.f3.params.toList args.toList ds p := hA0
  rw [Try.params3] at hA hval
  obtain ⟨v0, vs0, d0, ds0, p0, q0, hargs, rfl, rfl, h0, r0⟩ := trodAll_cons hA
  obtain ⟨v1, vs1, d1, ds1, p1, q1, rfl, rfl, rfl, h1, r1⟩ := trodAll_cons r0
  obtain ⟨rfl, rfl, rfl⟩ := trodAll_nil r1
  obtain rfl : args = #[v0, v1] := by cases args; simp_all
  obtain ⟨rfl, rfl⟩ := trodVars_none hV
  obtain ⟨cs, rfl, _⟩ := okWide_struct Try.underlying23 (hval 0 23 v0 rfl rfl)
  have k0 := h0
  have lt0 : ∀ x ∈ p0, x.block < W.heap.size := by obtain ⟨m, hm⟩ := k0; exact DataW.trod_lt m _ _ _ hm
  obtain ⟨zs, hz, hc⟩ : ∃ zs : List Int, zs.length = 10 ∧ cs.toList = zs.map (Value.int .i64) := by
    obtain ⟨m, hm⟩ := h0
    obtain ⟨zs, q1, q2, _⟩ := open_int_struct Try.underlying23 (by kernel_rfl) (by kernel_rfl) hm
    exact ⟨zs, q1, q2⟩
  obtain ⟨a1, rfl, rfl, rfl, w1⟩ := open_int Try.underlying3 (hval 1 3 v1 rfl rfl) h1
  clear hA0 hval0 hsz0
  refine (walk zs hz cs hc a1 W).mono fun e W' ⟨he, bel⟩ => ?_
  subst he
  exact ⟨_, rfl, _, _, _, [], _, [], hW', trodAll_mk1 (shut_bool Try.underlying4 _), (trodAll_cons_mk (Below.trod laidOut (by kernel_rfl) (of_decide_eq_true (by kernel_rfl)) k0 bel lt0) (trodAll_cons_mk (shut_int Try.underlying3 w1) trodAll_mk0)), rfl, bel.frame _, fun h => by cases h⟩

theorem over : Rows.pduConfigsRow.holds Try.pinned (OpenSpec.ofChange Rows.pduConfigsSpec) :=
  OpenClaim.holds_of_wide 3 Try.f3 rfl rfl rfl rfl rfl rfl rfl ⟨rfl, rfl, rfl, rfl, rfl⟩ rfl rfl rfl rfl rfl (by kernel_rfl) Try.func3 (by kernel_rfl)
    (of_decide_eq_true (by kernel_rfl)) (by unfold Func.isWrapper; first | (rw [if_pos (by decide +kernel)]; kernel_rfl) | (rw [if_neg (by decide +kernel)]; exact ⟨rfl, rfl⟩))
    (fun os started H enc _ => lifted os started H enc)
theorem proved : Rows.PduConfigsSaid := over
end Go.Proofs.Ytgjjmhmaomcnaaa.pduConfigs
namespace Go.Proofs.Ytgjjmhmaomcnaaa
/-- The row, under a short name, for the claim. -/
theorem pduConfigs_holds : Rows.PduConfigsSaid := pduConfigs.proved
end Go.Proofs.Ytgjjmhmaomcnaaa
#print axioms Go.Proofs.Ytgjjmhmaomcnaaa.pduConfigs_holds
