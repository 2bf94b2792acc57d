/- What a row's arguments are, read out of the typed reading. -/
import Derived.Test.YtgjjmhmaomcnaaaA27
import Derived.ChangeArms
import Derived.ChangeShapes
namespace Go.A
open Go

def intFields (P : Program) (fs : Array Field) : Bool := (List.range fs.size).all fun i => match fs[i]? with
  | some f => f.offset == i && (match P.underlying f.type with | some (.int .i64) => true | _ => false) && P.cellsOf f.type == 1
  | none => false

section
variable {H : Type} {enc : TypeId × Value → H} {P : Program} {w : World} {base : Nat} {spare : Nat → Bool} {held : Bool}

/-- A struct of whole numbers. -/
theorem open_int_struct {t : TypeId} {fs : Array Field} (hu : P.underlying t = some (.struct fs)) (hf : intFields P fs = true) (hn : P.cellsOf t = fs.size) {fuel : Nat} {cs : List Value} {x : DataW H × List MemPlace} (h : DataW.trod enc P w base spare held fuel t cs = some x) :
    ∃ zs : List Int, zs.length = fs.size ∧ cs = zs.map (Value.int .i64) ∧ ∀ z ∈ zs, (Lit.int .i64 z).wf = true := by
  obtain ⟨xs, n, _, _, hl, hx, hall⟩ := DataW.trod_struct hu h
  have one : ∀ i, i < fs.size → ∃ z, cs[i]? = some (Value.int .i64 z) ∧ (Lit.int .i64 z).wf = true := by
    intro i hi
    have hb := List.all_eq_true.1 hf i (List.mem_range.2 hi)
    cases hfi : fs[i]? with
    | none => rw [hfi] at hb; simp at hb
    | some f =>
      rw [hfi] at hb
      simp only [Bool.and_eq_true, beq_iff_eq] at hb
      obtain ⟨⟨h1, h2⟩, h3⟩ := hb
      have hty : P.underlying f.type = some (.int .i64) := by
        split at h2
        · assumption
        · simp at h2
      have ha := hall i f hfi
      have hxi : i < xs.length := by omega
      rw [List.getElem?_eq_getElem hxi] at ha
      obtain ⟨z, hz, _, hw⟩ := DataW.trod_int hty ha
      refine ⟨z, ?_, hw⟩
      rw [h1, h3, List.take_one, List.head?_drop] at hz
      cases hc : cs[i]? with
      | none => rw [hc] at hz; simp at hz
      | some v => rw [hc] at hz; simp at hz; rw [hz]
  have hlen : cs.length = fs.size := by omega
  refine ⟨cs.map fun v => match v with | .int _ z => z | _ => 0, by simp [hlen], ?_, ?_⟩
  · apply List.ext_getElem?
    intro i
    by_cases hi : i < fs.size
    · obtain ⟨z, hz, _⟩ := one i hi
      simp [hz]
    · rw [List.getElem?_eq_none (by omega), List.getElem?_eq_none (by simp; omega)]
  · intro z hz
    obtain ⟨v, hv, rfl⟩ := List.mem_map.1 hz
    obtain ⟨i, hi, rfl⟩ := List.getElem_of_mem hv
    obtain ⟨z, hz, hw⟩ := one i (by omega)
    rw [List.getElem?_eq_getElem hi] at hz
    rw [Option.some.inj hz]
    exact hw
end

theorem absA_ints (w : World) (cs : Array Value) (zs : List Int) (h : cs.toList = zs.map (Value.int .i64)) : absA w (.agg cs) = .agg (zs.map ai) := by
  simp only [absA, h, List.map_map]
  congr 1
theorem absA_int (w : World) (k : IntKind) (z : Int) : absA w (.int k z) = .c (.int k z) := rfl
theorem absA_bool (w : World) (b : Bool) : absA w (.bool b) = ab b := rfl
end Go.A
