/- UmtxFits (bowlinelaw16): whatever the bits, the texts and the grants, it is true; the arguments read as before. -/
import Derived.Test.YtnmobjhmohcjfaaS0C
import Derived.Test.YtnmobjhmohcjfaaXJ
set_option linter.unusedSimpArgs false
set_option linter.unusedVariables false
set_option linter.unnecessarySimpa false
namespace Go.Proofs.Ytnmobjhmohcjfaa.umtxFits
open Go.ChangeShapes Go.WideShapes Go.ChangeAt Go.RowKit Go.A Go.A.V Go.A.V.S
set_option linter.unusedVariables false

theorem walk (W : World) (a0 : Int) (w0 : (Lit.int .i64 a0).wf = true) (v1 : Value) (c1 : AV) (h1 : Go.A.V.CT.is (.sl [.sl [.i .u8]]) c1) (r1 : RV (gv (absW W)) no c1 (absA W v1)) (v2 : Value) (c2 : AV) (h2 : Go.A.V.CT.is (.sl [.i .u16]) c2) (r2 : RV (gv (absW W)) no c2 (absA W v2)) :
    Calls Try.prog 5 #[.int .i64 a0, v1, v2] W fun e w' => e = .returned (.bool true) ∧ Below W.heap.size W w' := by
  obtain ⟨H', hk⟩ := umtxFits_all a0 w0 c1 h1 c2 h2
  refine vlaw_calls fits0 calls_ok (vs := [.int .i64 a0, v1, v2]) ?_ hk
  simp only [List.map_cons, List.map_nil, RVs]
  exact ⟨_, _, rfl, (by simp only [RV]; rfl), _, _, rfl, r1, _, _, rfl, r2, rfl⟩

set_option maxRecDepth 100000 in
theorem lifted (os : Os) (started : os.Started) (H : Type) (enc : TypeId × Value → H) :
    ReturnsInHanded {} Try.checked os 5 .any (Rows.umtxFitsSpec.pre6 enc Try.prog Try.f5 Rows.umtxFitsRow.domain false) (Rows.umtxFitsSpec.post enc Try.prog Try.f5 false true false false) := by
  refine returnsInHanded_of_change_sized (C := Try.checked) own0 started (by kernel_rfl) Try.func5
    (ChangeSpec.witness6 (enc := enc) (C := Try.checked) false ⟨#[], #[.int .i64 0, .slice none 0 0, .slice none 0 0], []⟩ 8 (by kernel_rfl) (by kernel_rfl) (by kernel_rfl) (by kernel_rfl)) ?_
  intro W base args ds gs before hval0 hW hcnd hsz0 _
  have hval : ∀ (j : Nat) t v, Try.f5.params[j]? = some t → args[j]? = some v → Value.okWide Try.prog W .any base t v := hval0
  have hW' := hW
  obtain ⟨p, q, hA0, hV, rfl, hfz, hnd⟩ := hW
  have hA : DataW.TrodAll enc Try.prog W 0 (fun _ => true) true Try.f5.params.toList args.toList ds p := hA0
  rw [Try.params5] at hA hval
  obtain ⟨v0, vs0, d0, ds0, p0, q0, hargs, rfl, rfl, h0, rr0⟩ := trodAll_cons hA
  obtain ⟨v1, vs1, d1, ds1, p1, q1, rfl, rfl, rfl, h1, rr1⟩ := trodAll_cons rr0
  obtain ⟨v2, vs2, d2, ds2, p2, q2, rfl, rfl, rfl, h2, rr2⟩ := trodAll_cons rr1
  obtain ⟨rfl, rfl, rfl⟩ := trodAll_nil rr2
  obtain rfl : args = #[v0, v1, v2] := by cases args; simp_all
  obtain ⟨rfl, rfl⟩ := trodVars_none hV
  obtain ⟨a0, rfl, rfl, rfl, w0⟩ := open_int Try.underlying3 (hval 0 3 v0 rfl rfl) h0
  have k1 := h1
  have lt1 : ∀ x ∈ p1, x.block < W.heap.size := by obtain ⟨m, hm⟩ := k1; exact DataW.trod_lt m _ _ _ hm
  obtain ⟨c1, i1, j1⟩ := open_cell (n := 6) (tc := .sl [.sl [.i .u8]]) (by kernel_rfl) (by kernel_rfl) (hval 1 48 v1 rfl rfl) h1
  have k2 := h2
  have lt2 : ∀ x ∈ p2, x.block < W.heap.size := by obtain ⟨m, hm⟩ := k2; exact DataW.trod_lt m _ _ _ hm
  obtain ⟨c2, i2, j2⟩ := open_cell (n := 6) (tc := .sl [.i .u16]) (by kernel_rfl) (by kernel_rfl) (hval 2 64 v2 rfl rfl) h2
  clear hA0 hval0 hsz0
  refine (walk W a0 w0 v1 c1 i1 j1 v2 c2 i2 j2).mono fun e W' ⟨he, bel⟩ => ?_
  subst he
  exact ⟨_, rfl, _, _, _, [], _, [], hW', trodAll_mk1 (shut_bool Try.underlying4 _), (trodAll_cons_mk (shut_int Try.underlying3 w0) (trodAll_cons_mk (Below.trod laidOut0 (by kernel_rfl) (of_decide_eq_true (by kernel_rfl)) k1 bel lt1) (trodAll_cons_mk (Below.trod laidOut0 (by kernel_rfl) (of_decide_eq_true (by kernel_rfl)) k2 bel lt2) trodAll_mk0))), rfl, bel.frame _, fun h => by cases h⟩

theorem over : Rows.umtxFitsRow.holds Try.pinned (OpenSpec.ofChange Rows.umtxFitsSpec) :=
  OpenClaim.holds_of_wide 5 Try.f5 rfl rfl rfl rfl rfl rfl rfl ⟨rfl, rfl, rfl, rfl, rfl⟩ rfl rfl rfl rfl rfl (by kernel_rfl) Try.func5 (by kernel_rfl)
    (of_decide_eq_true (by kernel_rfl)) (by unfold Func.isWrapper; first | (rw [if_pos (by decide +kernel)]; kernel_rfl) | (rw [if_neg (by decide +kernel)]; exact ⟨rfl, rfl⟩))
    (fun os started H enc _ => lifted os started H enc)
theorem proved : Rows.UmtxFitsSaid := over
end Go.Proofs.Ytnmobjhmohcjfaa.umtxFits
namespace Go.Proofs.Ytnmobjhmohcjfaa
/-- The row, under a short name, for the claim. -/
theorem umtxFits_holds : Rows.UmtxFitsSaid := umtxFits.proved
end Go.Proofs.Ytnmobjhmohcjfaa
#print axioms Go.Proofs.Ytnmobjhmohcjfaa.umtxFits_holds
