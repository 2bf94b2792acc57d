/- UmtxLives (bowlinelaw16): whatever the config and the calls, it is true; the arguments read as before. -/
import Derived.Test.YtnmobjhmohcjfaaS0C
import Derived.Test.YtnmobjhmohcjfaaXO
set_option linter.unusedSimpArgs false
set_option linter.unusedVariables false
set_option linter.unnecessarySimpa false
namespace Go.Proofs.Ytnmobjhmohcjfaa.umtxLives
open Go.ChangeShapes Go.WideShapes Go.ChangeAt Go.RowKit Go.A Go.A.V Go.A.V.S
theorem walk (W : World) (cs0 : Array Value) (u0 : List AV) (h0 : Go.A.V.CT.iss [.i .i64,.i .i64,.i .i64,.i .i64,.i .i64,.i .i64,.i .i64,.i .i64,.i .i64,.i .i64] u0) (r0 : RV (gv (absW W)) no (.agg u0) (absA W (.agg cs0))) (v1 : Value) (c1 : AV) (h1 : Go.A.V.CT.is (.sl [.i .i64,.i .i64,.sl [.i .u8]]) c1) (r1 : RV (gv (absW W)) no c1 (absA W v1)) :
  Calls Try.prog 3 #[.agg cs0,v1] W fun e w' => e = .returned (.bool true) ∧ Below W.heap.size W w' := by
 obtain ⟨H',hk⟩ := umtxLives_all u0 h0 c1 h1
 refine vlaw_calls fits0 calls_ok (vs := [.agg cs0,v1]) ?_ hk
 simp only [List.map_cons,List.map_nil,RVs]
 exact ⟨_,_,rfl,r0,_,_,rfl,r1,rfl⟩
set_option maxRecDepth 100000 in
theorem lifted (os : Os) (started : os.Started) (H : Type) (enc : TypeId × Value → H) :
  ReturnsInHanded {} Try.checked os 3 .any (Rows.umtxLivesSpec.pre6 enc Try.prog Try.f3 Rows.umtxLivesRow.domain false) (Rows.umtxLivesSpec.post enc Try.prog Try.f3 false true false false) := by
 refine returnsInHanded_of_change_sized (C := Try.checked) own0 started (by kernel_rfl) Try.func3
  (ChangeSpec.witness6 (enc := enc) (C := Try.checked) false ⟨#[],#[.agg #[.int .i64 0,.int .i64 0,.int .i64 0,.int .i64 0,.int .i64 0,.int .i64 0,.int .i64 0,.int .i64 0,.int .i64 0,.int .i64 0],.slice none 0 0],[]⟩ 8 (by kernel_rfl) (by kernel_rfl) (by kernel_rfl) (by kernel_rfl)) ?_
 intro W base args ds gs before hval0 hW hcnd hsz0 _
 have hval : ∀ (j : Nat) t v,Try.f3.params[j]? = some t → args[j]? = some v → Value.okWide Try.prog W .any base t v := hval0
 have hW' := hW
 obtain ⟨p,q,hA0,hV,rfl,hfz,hnd⟩ := hW
 have hA : DataW.TrodAll enc Try.prog W 0 (fun _ => true) true Try.f3.params.toList args.toList ds p := hA0
 rw [Try.params3] at hA hval
 obtain ⟨v0,vs0,d0,ds0,p0,q0,hargs,rfl,rfl,h0,rr0⟩ := trodAll_cons hA
 obtain ⟨v1,vs1,d1,ds1,p1,q1,rfl,rfl,rfl,h1,rr1⟩ := trodAll_cons rr0
 obtain ⟨rfl,rfl,rfl⟩ := trodAll_nil rr1
 obtain rfl : args = #[v0,v1] := by cases args; simp_all
 obtain ⟨rfl,rfl⟩ := trodVars_none hV
 obtain ⟨cs0,rfl,_⟩ := okWide_struct Try.underlying23 (hval 0 23 v0 rfl rfl)
 have k0 := h0
 have lt0 : ∀ x ∈ p0,x.block < W.heap.size := by obtain ⟨m,hm⟩ := k0; exact DataW.trod_lt m _ _ _ hm
 obtain ⟨u0,i0,j0⟩ := open_agg (n := 6) (ts := [.i .i64,.i .i64,.i .i64,.i .i64,.i .i64,.i .i64,.i .i64,.i .i64,.i .i64,.i .i64]) (by kernel_rfl) h0
 have k1 := h1
 have lt1 : ∀ x ∈ p1,x.block < W.heap.size := by obtain ⟨m,hm⟩ := k1; exact DataW.trod_lt m _ _ _ hm
 obtain ⟨c1,i1,j1⟩ := open_cell (n := 6) (tc := .sl [.i .i64,.i .i64,.sl [.i .u8]]) (by kernel_rfl) (by kernel_rfl) (hval 1 24 v1 rfl rfl) h1
 clear hA0 hval0 hsz0
 refine (walk W cs0 u0 i0 j0 v1 c1 i1 j1).mono fun e W' ⟨he,bel⟩ => ?_
 subst he
 exact ⟨_,rfl,_,_,_,[],_,[],hW',trodAll_mk1 (shut_bool Try.underlying4 _),(trodAll_cons_mk (Below.trod laidOut0 (by kernel_rfl) (of_decide_eq_true (by kernel_rfl)) k0 bel lt0) (trodAll_cons_mk (Below.trod laidOut0 (by kernel_rfl) (of_decide_eq_true (by kernel_rfl)) k1 bel lt1) trodAll_mk0)),rfl,bel.frame _,fun h => by cases h⟩
theorem over : Rows.umtxLivesRow.holds Try.pinned (OpenSpec.ofChange Rows.umtxLivesSpec) :=
 OpenClaim.holds_of_wide 3 Try.f3 rfl rfl rfl rfl rfl rfl rfl ⟨rfl,rfl,rfl,rfl,rfl⟩ rfl rfl rfl rfl rfl (by kernel_rfl) Try.func3 (by kernel_rfl)
  (of_decide_eq_true (by kernel_rfl)) (by unfold Func.isWrapper; first | (rw [if_pos (by decide +kernel)]; kernel_rfl) | (rw [if_neg (by decide +kernel)]; exact ⟨rfl,rfl⟩))
  (fun os started H enc _ => lifted os started H enc)
theorem proved : Rows.UmtxLivesSaid := over
end Go.Proofs.Ytnmobjhmohcjfaa.umtxLives
namespace Go.Proofs.Ytnmobjhmohcjfaa
theorem umtxLives_holds : Rows.UmtxLivesSaid := umtxLives.proved
end Go.Proofs.Ytnmobjhmohcjfaa
#print axioms Go.Proofs.Ytnmobjhmohcjfaa.umtxLives_holds
