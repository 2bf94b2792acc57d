/- The set's seat: the calls are sound; a slice of asks is opened. -/
import Derived.Test.YtekoolanpphbfaaC2
import Derived.Test.YtekoolanpphbfaaC4
import Derived.Test.YtekoolanpphbfaaND
import Derived.Test.YtekoolanpphbfaaME
import Derived.Test.YtekoolanpphbfaaRows
import Derived.WalkKit
import Derived.ProofKit
import Derived.OpenShut
import Derived.ShutString
import Derived.ChangeOld
import Derived.Below
import Derived.SizedLaws
set_option linter.unusedSimpArgs false
set_option linter.unusedVariables false
set_option linter.unnecessarySimpa false
namespace Go.Proofs.Ytekoolanpphbfaa
open Go.A Go.A.Seat
set_option linter.unusedVariables false
theorem own0 : ownKnob Try.prog.godebug = none := by kernel_rfl
theorem laidOut0 : laidOutB Try.prog = true := by kernel_rfl
theorem X1_sound : SoundO Try.prog X1 := constO_sound fun f v h => by
  have hf : f = 10 ∧ v = ab true := by
    simp only [List.lookup] at h
    split at h
    · rename_i hb
      exact ⟨by simpa using hb, (Option.some.inj h).symm⟩
    · simp at h
  obtain ⟨rfl, rfl⟩ := hf
  obtain ⟨⟨u, H1⟩, h1, h2⟩ := Option.map_eq_some_iff.1 alive29c
  simp only at h2
  subst h2
  have := callN_sound tbl_ok X0_sound mix 40 10 [] [] _ _ h1
  exact ⟨this.1, rfl, H1, this.2⟩
theorem callW_ok : SoundO Try.prog (callW tbl X1) := callW_sound tbl_ok X1_sound mix

set_option maxRecDepth 100000 in
/-- A slice of asks. -/
theorem open_asks {H : Type} {enc : TypeId × Value → H} {W : World} {b0 : Nat} {v : Value} {d : DataW H} {ps : List MemPlace} (hok : Value.okWide Try.prog W .any b0 22 v) (hT : DataW.Trod enc Try.prog W 0 (fun _ => true) true 22 v d ps) :
    ∃ la : List Go.A.Seat.Ask, Sl (absW W) 4 (absA W v) (asks la) ∧ ∀ a ∈ la, (Lit.int .i64 a.id).wf = true ∧ (Lit.int .i64 a.rank).wf = true ∧ (Lit.int .i64 a.rate).wf = true ∧ (Lit.int .i64 a.want).wf = true := by
  obtain ⟨n, f, hsl, hf⟩ := open_sl (k := 4) (by omega) Try.underlying22 (by kernel_rfl) hok hT
  obtain ⟨g, hg⟩ := Go.Deep.choose_lt (α := Int × Int × Int × Int) (n := n) (p := fun i a => (f i).map (absV W) = [ai a.1, ai a.2.1, ai a.2.2.1, ai a.2.2.2] ∧ (Lit.int .i64 a.1).wf = true ∧ (Lit.int .i64 a.2.1).wf = true ∧ (Lit.int .i64 a.2.2.1).wf = true ∧ (Lit.int .i64 a.2.2.2).wf = true) (fun i hi => by
    obtain ⟨_, fuel, y, hy⟩ := hf i hi
    obtain ⟨zs, q1, q2, q3⟩ := open_int_struct Try.underlying26 (by kernel_rfl) (by kernel_rfl) hy
    match zs, q1 with
    | [z1, z2, z3, z4], _ =>
      refine ⟨(z1, z2, z3, z4), ?_, q3 z1 (by simp), q3 z2 (by simp), q3 z3 (by simp), q3 z4 (by simp)⟩
      rw [q2]
      rfl)
  refine ⟨(List.range n).map fun i => ⟨(g i).1, (g i).2.1, (g i).2.2.1, (g i).2.2.2⟩, ?_, ?_⟩
  · have : ((List.range n).map fun i => (f i).map (absV W)) = asks ((List.range n).map fun i => ⟨(g i).1, (g i).2.1, (g i).2.2.1, (g i).2.2.2⟩) := by
      simp only [asks, List.map_map]
      refine List.map_congr_left fun i hi => ?_
      exact (hg i (List.mem_range.1 hi)).1
    rw [← this]
    exact hsl
  · intro a ha
    obtain ⟨i, hi, rfl⟩ := List.mem_map.1 ha
    exact (hg i (List.mem_range.1 hi)).2
end Go.Proofs.Ytekoolanpphbfaa
