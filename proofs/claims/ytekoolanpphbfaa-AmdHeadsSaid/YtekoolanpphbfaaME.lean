/- What a row's arguments are, read out of the typed reading. -/
import Derived.Test.YtekoolanpphbfaaAW
import Derived.ChangeArms
import Derived.ChangeShapes
import Derived.Deep.Slices
import Derived.DataReads
set_option linter.unusedSimpArgs false
set_option linter.unusedVariables false
set_option linter.unnecessarySimpa false
namespace Go.A
open Go

def intFields (P : Program) (fs : Array Field) : Bool := (List.range fs.size).all fun i => match fs[i]? with
  | some f => f.offset == i && (match P.underlying f.type with | some (.int .i64) => true | _ => false) && P.cellsOf f.type == 1
  | none => false

section
variable {H : Type} {enc : TypeId × Value → H} {P : Program} {w : World} {base : Nat} {spare : Nat → Bool} {held : Bool}

/-- A struct of whole numbers. -/
theorem open_int_struct {t : TypeId} {fs : Array Field} (hu : P.underlying t = some (.struct fs)) (hf : intFields P fs = true) (hn : P.cellsOf t = fs.size) {fuel : Nat} {cs : List Value} {x : DataW H × List MemPlace} (h : DataW.trod enc P w base spare held fuel t cs = some x) :
    ∃ zs : List Int, zs.length = fs.size ∧ cs = zs.map (Value.int .i64) ∧ ∀ z ∈ zs, (Lit.int .i64 z).wf = true := by
  obtain ⟨xs, n, _, _, hl, hx, hall⟩ := DataW.trod_struct hu h
  have one : ∀ i, i < fs.size → ∃ z, cs[i]? = some (Value.int .i64 z) ∧ (Lit.int .i64 z).wf = true := by
    intro i hi
    have hb := List.all_eq_true.1 hf i (List.mem_range.2 hi)
    cases hfi : fs[i]? with
    | none => rw [hfi] at hb; simp at hb
    | some f =>
      rw [hfi] at hb
      simp only [Bool.and_eq_true, beq_iff_eq] at hb
      obtain ⟨⟨h1, h2⟩, h3⟩ := hb
      have hty : P.underlying f.type = some (.int .i64) := by
        split at h2
        · assumption
        · simp at h2
      have ha := hall i f hfi
      have hxi : i < xs.length := by omega
      rw [List.getElem?_eq_getElem hxi] at ha
      obtain ⟨z, hz, _, hw⟩ := DataW.trod_int hty ha
      refine ⟨z, ?_, hw⟩
      rw [h1, h3, List.take_one, List.head?_drop] at hz
      cases hc : cs[i]? with
      | none => rw [hc] at hz; simp at hz
      | some v => rw [hc] at hz; simp at hz; rw [hz]
  have hlen : cs.length = fs.size := by omega
  refine ⟨cs.map fun v => match v with | .int _ z => z | _ => 0, by simp [hlen], ?_, ?_⟩
  · apply List.ext_getElem?
    intro i
    by_cases hi : i < fs.size
    · obtain ⟨z, hz, _⟩ := one i hi
      simp [hz]
    · rw [List.getElem?_eq_none (by omega), List.getElem?_eq_none (by simp; omega)]
  · intro z hz
    obtain ⟨v, hv, rfl⟩ := List.mem_map.1 hz
    obtain ⟨i, hi, rfl⟩ := List.getElem_of_mem hv
    obtain ⟨z, hz, hw⟩ := one i (by omega)
    rw [List.getElem?_eq_getElem hi] at hz
    rw [Option.some.inj hz]
    exact hw
end

theorem absA_ints (w : World) (cs : Array Value) (zs : List Int) (h : cs.toList = zs.map (Value.int .i64)) : absA w (.agg cs) = .agg (zs.map ai) := by
  simp only [absA, h, List.map_map]
  congr 1
theorem absA_int (w : World) (k : IntKind) (z : Int) : absA w (.int k z) = .c (.int k z) := rfl
theorem absA_bool (w : World) (b : Bool) : absA w (.bool b) = ab b := rfl
end Go.A

namespace Go.A
open Go

section
variable {H : Type} {enc : TypeId × Value → H} {P : Program} {w : World}

theorem absV_slice {b off len cap : Nat} {c : Array Value} {ty : TypeId} {fr : Nat × Nat} (h : w.heap[b]? = some (.cells c ty fr)) : absV w (.slice (some ⟨b, off, none⟩) len cap) = .sl b off len cap 0 c.size true := by
  simp only [absV, h]

/-- A slice argument, whatever its elements are. -/
theorem open_sl {t e : TypeId} {k : Nat} (hk : 0 < k) (ht : P.underlying t = some (.slice e)) (hc : P.cellsOf e = k) {r : Go.Reach} {b0 : Nat} {v : Value} {d : DataW H} {ps : List MemPlace} (hok : Value.okWide P w r b0 t v) (hT : DataW.Trod enc P w 0 (fun _ => true) true t v d ps) :
    ∃ (n : Nat) (f : Nat → List Value), Sl (absW w) k (absA w v) ((List.range n).map fun i => (f i).map (absV w)) ∧ ∀ i, i < n → (f i).length = k ∧ ∃ fuel y, DataW.trod enc P w 0 (fun _ => true) true fuel e (f i) = some y := by
  obtain ⟨a, len, cap, rfl⟩ := Go.WideShapes.okWide_slice ht hok
  obtain ⟨fuel, hf⟩ := hT
  have hcl : (Value.slice a len cap).cells.toList = [.slice a len cap] := rfl
  rw [hcl] at hf
  rcases Go.Deep.open_slice ht hf with ⟨h1, _⟩ | ⟨a', len', cap', m, n, D, Pl, h1, _, hlc, _, hm, _, hel⟩
  · simp only [List.cons.injEq, Value.slice.injEq, and_true] at h1
    obtain ⟨rfl, rfl, rfl⟩ := h1
    exact ⟨0, fun _ => [], .inl ⟨rfl, rfl⟩, fun i hi => by omega⟩
  · simp only [List.cons.injEq, Value.slice.injEq, and_true] at h1
    obtain ⟨rfl, rfl, rfl⟩ := h1
    simp only [if_true] at hm
    subst hm
    rw [hc] at hel
    simp only [Value.okWide, ht, Cell.okWide, Cell.ok] at hok
    obtain ⟨_, _, _, hspot, row, cells, hsh, _⟩ := hok
    obtain ⟨b, off, spot⟩ := a'
    simp only at hspot hsh
    subst hspot
    obtain ⟨c, ty, fr, hb⟩ : ∃ c ty fr, w.heap[b]? = some (.cells c ty fr) := by
      unfold World.shape? at hsh
      split at hsh
      · exact ⟨_, _, _, by assumption⟩
      · simp at hsh
    obtain ⟨f, hfe⟩ := Go.Deep.choose_lt (p := fun i cs => w.cells? 0 ((⟨b, off, none⟩ : Addr).add (i * k)) k = some cs ∧ ∃ fuel y, DataW.trod enc P w 0 (fun _ => true) true fuel e cs = some y) (n := len) (fun i hi => by
      obtain ⟨cs', h1, h2⟩ := hel i (by omega)
      exact ⟨cs', h1, _, _, h2⟩)
    refine ⟨len, f, ?_, fun i hi => ⟨(World.cells?_some (hfe i hi).1).2.1, (hfe i hi).2⟩⟩
    refine .inr ⟨b, off, m, 0, c.size, true, ?_, ⟨by simpa using hlc, rfl⟩, fun i cs hi => ?_⟩
    · show absV w (.slice (some ⟨b, off, none⟩) len m) = _
      rw [absV_slice hb]
      simp
    · rw [List.getElem?_map] at hi
      cases hr : (List.range len)[i]? with
      | none => rw [hr] at hi; simp at hi
      | some j =>
        rw [hr] at hi
        have hil := (List.getElem?_eq_some_iff.1 hr).1
        simp only [List.length_range] at hil
        rw [List.getElem?_range hil] at hr
        obtain rfl := Option.some.inj hr
        obtain rfl := Option.some.inj hi
        obtain ⟨h1, _⟩ := hfe i hil
        obtain ⟨_, hl, hcell⟩ := World.cells?_some h1
        have hcl : ∀ j, j < k → c[off + i * k + j]? = (f i)[j]? := by
          intro j hj
          have := hcell j hj
          have hadd : (((⟨b, off, none⟩ : Addr).add (i * k)).add j) = ⟨b, off + i * k + j, none⟩ := by
            unfold Addr.add
            by_cases h0 : i * k = 0 <;> by_cases h1 : j = 0 <;> simp [h0, h1]
          rw [hadd] at this
          simpa [World.cell?, hb] using this
        have hin : off + i * k + k ≤ c.size := by
          have := hcl (k - 1) (by omega)
          rw [List.getElem?_eq_getElem (by omega)] at this
          have := (Array.getElem?_eq_some_iff.1 this).1
          omega
        simp only [rdRow, absW_get hb, AObj.isRow, AObj.lo, AObj.cells, List.length_map, Array.length_toList]
        rw [if_pos ⟨trivial, Nat.zero_le _, hin, Nat.le_refl _⟩]
        congr 1
        apply List.ext_getElem?
        intro j
        by_cases hj : j < k
        · rw [List.getElem?_take, if_pos hj, List.getElem?_drop, List.getElem?_map, List.getElem?_map, ← hcl j hj]
          simp
        · rw [List.getElem?_eq_none (by simp; omega), List.getElem?_eq_none (by simp; omega)]
end
end Go.A
