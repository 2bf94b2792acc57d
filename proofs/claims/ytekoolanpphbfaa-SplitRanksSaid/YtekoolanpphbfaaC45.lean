/- SplitRanks (bowlinelaw29): whatever the totals and the asks, it is true; the arguments read as before. -/
import Derived.Test.YtekoolanpphbfaaC35
import Derived.Test.YtekoolanpphbfaaNE
set_option linter.unusedSimpArgs false
set_option linter.unusedVariables false
set_option linter.unnecessarySimpa false
namespace Go.Proofs.Ytekoolanpphbfaa.splitRanks
open Go.ChangeShapes Go.WideShapes Go.ChangeAt Go.RowKit Go.A Go.A.Seat
set_option linter.unusedVariables false

theorem walk (total more : Int) (v : Value) (W : World) (la : List Go.A.Seat.Ask) (ha : Sl (absW W) 4 (absA W v) (asks la)) :
    Calls Try.prog 5 #[.int .i64 total, .int .i64 more, v] W fun e w' => e = .returned (.bool true) ∧ Below W.heap.size W w' := by
  obtain ⟨⟨u, H'⟩, h1, h2⟩ := law5 total more ha
  simp only at h2
  subst h2
  refine law_calls callW_ok (vs := [.int .i64 total, .int .i64 more, v]) (H' := H') ?_
  simp only [List.map_cons, List.map_nil, absA_int]
  exact h1

set_option maxRecDepth 100000 in
theorem lifted (os : Os) (started : os.Started) (H : Type) (enc : TypeId × Value → H) :
    ReturnsInHanded {} Try.checked os 5 .any (Rows.splitRanksSpec.pre6 enc Try.prog Try.f5 Rows.splitRanksRow.domain false) (Rows.splitRanksSpec.post enc Try.prog Try.f5 false true false false) := by
  refine returnsInHanded_of_change_sized (C := Try.checked) own0 started (by kernel_rfl) Try.func5
    (ChangeSpec.witness6 (enc := enc) (C := Try.checked) false ⟨#[], #[.int .i64 0, .int .i64 0, .slice none 0 0], []⟩ 8 (by kernel_rfl) (by kernel_rfl) (by kernel_rfl) (by kernel_rfl)) ?_
  intro W base args ds gs before hval0 hW hcnd hsz0 _
  have hval : ∀ (j : Nat) t v, Try.f5.params[j]? = some t → args[j]? = some v → Value.okWide Try.prog W .any base t v := hval0
  have hW' := hW
  obtain ⟨p, q, hA0, hV, rfl, hfz, hnd⟩ := hW
  have hA : DataW.TrodAll enc Try.prog W 0 (fun _ => true) true Try.f5.params.toList args.toList ds p := hA0
  rw [Try.params5] at hA hval
  obtain ⟨v0, vs0, d0, ds0, p0, q0, hargs, rfl, rfl, h0, r0⟩ := trodAll_cons hA
  obtain ⟨v1, vs1, d1, ds1, p1, q1, rfl, rfl, rfl, h1, r1⟩ := trodAll_cons r0
  obtain ⟨v2, vs2, d2, ds2, p2, q2, rfl, rfl, rfl, h2, r2⟩ := trodAll_cons r1
  obtain ⟨rfl, rfl, rfl⟩ := trodAll_nil r2
  obtain rfl : args = #[v0, v1, v2] := by cases args; simp_all
  obtain ⟨rfl, rfl⟩ := trodVars_none hV
  obtain ⟨a0, rfl, rfl, rfl, w0⟩ := open_int Try.underlying3 (hval 0 3 v0 rfl rfl) h0
  obtain ⟨a1, rfl, rfl, rfl, w1⟩ := open_int Try.underlying3 (hval 1 3 v1 rfl rfl) h1
  have k2 := h2
  have lt2 : ∀ x ∈ p2, x.block < W.heap.size := by obtain ⟨m, hm⟩ := k2; exact DataW.trod_lt m _ _ _ hm
  obtain ⟨la, hla, hwf⟩ := open_asks (hval 2 22 v2 rfl rfl) h2
  clear hA0 hval0 hsz0
  refine (walk a0 a1 v2 W la hla).mono fun e W' ⟨he, bel⟩ => ?_
  subst he
  exact ⟨_, rfl, _, _, _, [], _, [], hW', trodAll_mk1 (shut_bool Try.underlying4 _), (trodAll_cons_mk (shut_int Try.underlying3 w0) (trodAll_cons_mk (shut_int Try.underlying3 w1) (trodAll_cons_mk (Below.trod laidOut0 (by kernel_rfl) (of_decide_eq_true (by kernel_rfl)) k2 bel lt2) trodAll_mk0))), rfl, bel.frame _, fun h => by cases h⟩

theorem over : Rows.splitRanksRow.holds Try.pinned (OpenSpec.ofChange Rows.splitRanksSpec) :=
  OpenClaim.holds_of_wide 5 Try.f5 rfl rfl rfl rfl rfl rfl rfl ⟨rfl, rfl, rfl, rfl, rfl⟩ rfl rfl rfl rfl rfl (by kernel_rfl) Try.func5 (by kernel_rfl)
    (of_decide_eq_true (by kernel_rfl)) (by unfold Func.isWrapper; first | (rw [if_pos (by decide +kernel)]; kernel_rfl) | (rw [if_neg (by decide +kernel)]; exact ⟨rfl, rfl⟩))
    (fun os started H enc _ => lifted os started H enc)
theorem proved : Rows.SplitRanksSaid := over
end Go.Proofs.Ytekoolanpphbfaa.splitRanks
namespace Go.Proofs.Ytekoolanpphbfaa
/-- The row, under a short name, for the claim. -/
theorem splitRanks_holds : Rows.SplitRanksSaid := splitRanks.proved
end Go.Proofs.Ytekoolanpphbfaa
#print axioms Go.Proofs.Ytekoolanpphbfaa.splitRanks_holds
