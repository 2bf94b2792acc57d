/- SplitAll (bowlinelaw29): whatever the total and the asks, it is true; the arguments read as before. -/
import Derived.Test.YtekoolanpphbfaaC35
import Derived.Test.YtekoolanpphbfaaNE
set_option linter.unusedSimpArgs false
set_option linter.unusedVariables false
set_option linter.unnecessarySimpa false
namespace Go.Proofs.Ytekoolanpphbfaa.splitAll
open Go.ChangeShapes Go.WideShapes Go.ChangeAt Go.RowKit Go.A Go.A.Seat
set_option linter.unusedVariables false

theorem walk (total : Int) (v : Value) (W : World) (la : List Go.A.Seat.Ask) (ha : Sl (absW W) 4 (absA W v) (asks la)) :
    Calls Try.prog 4 #[.int .i64 total, v] W fun e w' => e = .returned (.bool true) ∧ Below W.heap.size W w' := by
  obtain ⟨⟨u, H'⟩, h1, h2⟩ := law4 total ha
  simp only at h2
  subst h2
  refine law_calls callW_ok (vs := [.int .i64 total, v]) (H' := H') ?_
  simp only [List.map_cons, List.map_nil, absA_int]
  exact h1

set_option maxRecDepth 100000 in
theorem lifted (os : Os) (started : os.Started) (H : Type) (enc : TypeId × Value → H) :
    ReturnsInHanded {} Try.checked os 4 .any (Rows.splitAllSpec.pre6 enc Try.prog Try.f4 Rows.splitAllRow.domain false) (Rows.splitAllSpec.post enc Try.prog Try.f4 false true false false) := by
  refine returnsInHanded_of_change_sized (C := Try.checked) own0 started (by kernel_rfl) Try.func4
    (ChangeSpec.witness6 (enc := enc) (C := Try.checked) false ⟨#[], #[.int .i64 0, .slice none 0 0], []⟩ 8 (by kernel_rfl) (by kernel_rfl) (by kernel_rfl) (by kernel_rfl)) ?_
  intro W base args ds gs before hval0 hW hcnd hsz0 _
  have hval : ∀ (j : Nat) t v, Try.f4.params[j]? = some t → args[j]? = some v → Value.okWide Try.prog W .any base t v := hval0
  have hW' := hW
  obtain ⟨p, q, hA0, hV, rfl, hfz, hnd⟩ := hW
  have hA : DataW.TrodAll enc Try.prog W 0 (fun _ => true) true Try.f4.params.toList args.toList ds p := hA0
  rw [Try.params4] at hA hval
  obtain ⟨v0, vs0, d0, ds0, p0, q0, hargs, rfl, rfl, h0, r0⟩ := trodAll_cons hA
  obtain ⟨v1, vs1, d1, ds1, p1, q1, rfl, rfl, rfl, h1, r1⟩ := trodAll_cons r0
  obtain ⟨rfl, rfl, rfl⟩ := trodAll_nil r1
  obtain rfl : args = #[v0, v1] := by cases args; simp_all
  obtain ⟨rfl, rfl⟩ := trodVars_none hV
  obtain ⟨a0, rfl, rfl, rfl, w0⟩ := open_int Try.underlying3 (hval 0 3 v0 rfl rfl) h0
  have k1 := h1
  have lt1 : ∀ x ∈ p1, x.block < W.heap.size := by obtain ⟨m, hm⟩ := k1; exact DataW.trod_lt m _ _ _ hm
  obtain ⟨la, hla, hwf⟩ := open_asks (hval 1 22 v1 rfl rfl) h1
  clear hA0 hval0 hsz0
  refine (walk a0 v1 W la hla).mono fun e W' ⟨he, bel⟩ => ?_
  subst he
  exact ⟨_, rfl, _, _, _, [], _, [], hW', trodAll_mk1 (shut_bool Try.underlying4 _), (trodAll_cons_mk (shut_int Try.underlying3 w0) (trodAll_cons_mk (Below.trod laidOut0 (by kernel_rfl) (of_decide_eq_true (by kernel_rfl)) k1 bel lt1) trodAll_mk0)), rfl, bel.frame _, fun h => by cases h⟩

theorem over : Rows.splitAllRow.holds Try.pinned (OpenSpec.ofChange Rows.splitAllSpec) :=
  OpenClaim.holds_of_wide 4 Try.f4 rfl rfl rfl rfl rfl rfl rfl ⟨rfl, rfl, rfl, rfl, rfl⟩ rfl rfl rfl rfl rfl (by kernel_rfl) Try.func4 (by kernel_rfl)
    (of_decide_eq_true (by kernel_rfl)) (by unfold Func.isWrapper; first | (rw [if_pos (by decide +kernel)]; kernel_rfl) | (rw [if_neg (by decide +kernel)]; exact ⟨rfl, rfl⟩))
    (fun os started H enc _ => lifted os started H enc)
theorem proved : Rows.SplitAllSaid := over
end Go.Proofs.Ytekoolanpphbfaa.splitAll
namespace Go.Proofs.Ytekoolanpphbfaa
/-- The row, under a short name, for the claim. -/
theorem splitAll_holds : Rows.SplitAllSaid := splitAll.proved
end Go.Proofs.Ytekoolanpphbfaa
#print axioms Go.Proofs.Ytekoolanpphbfaa.splitAll_holds
