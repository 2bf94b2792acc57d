/- THE ABSTRACT MACHINE: a call that is told of no memory, and tells of none, may be run in an empty heap. -/
import Derived.Test.YtekoolanpphbfaaA19
set_option linter.unusedSimpArgs false
set_option linter.unusedVariables false
set_option linter.unnecessarySimpa false
namespace Go.A
open Go
variable {P : Program}

mutual
def AV.const : AV → Bool
  | .c _ => true
  | .agg xs => AV.constAll xs
  | .tup xs => AV.constAll xs
  | _ => false
def AV.constAll : List AV → Bool
  | [] => true
  | x :: r => AV.const x && AV.constAll r
end

mutual
theorem vr_const {g g' : G} {H H' : Heap} {w w' : World} : ∀ (a : AV) (v : Value), a.const = true → VR g H w a v → VR g' H' w' a v
  | .c _, _, _, hv => by simpa only [VR] using hv
  | .agg xs, v, hc, hv => by
    simp only [VR] at hv ⊢
    obtain ⟨vs, e, hs⟩ := hv
    exact ⟨vs, e, vrs_const xs _ (by simpa [AV.const] using hc) hs⟩
  | .tup xs, v, hc, hv => by
    simp only [VR] at hv ⊢
    obtain ⟨vs, e, hs⟩ := hv
    exact ⟨vs, e, vrs_const xs _ (by simpa [AV.const] using hc) hs⟩
  | .undef, _, hc, _ => by simp [AV.const] at hc
  | .ptr .., _, hc, _ => by simp [AV.const] at hc
  | .sl .., _, hc, _ => by simp [AV.const] at hc
  | .lbox _, _, hc, _ => by simp [AV.const] at hc
  | .lptr .., _, hc, _ => by simp [AV.const] at hc
  | .fn .., _, hc, _ => by simp [AV.const] at hc
  | .iface .., _, hc, _ => by simp [AV.const] at hc
  | .map _, _, hc, _ => by simp [AV.const] at hc
theorem vrs_const {g g' : G} {H H' : Heap} {w w' : World} : ∀ (xs : List AV) (vs : List Value), AV.constAll xs = true → VRs g H w xs vs → VRs g' H' w' xs vs
  | [], _, _, hv => by simpa only [VRs] using hv
  | x :: xs, vs, hc, hv => by
    simp only [VRs] at hv ⊢
    simp only [AV.constAll, Bool.and_eq_true] at hc
    obtain ⟨v, r, e, h1, h2⟩ := hv
    exact ⟨v, r, e, vr_const x v hc.1 h1, vrs_const xs r hc.2 h2⟩
end

theorem keeps_below {g : G} {H : Heap} {w w' : World} (hr : HeapR g H w) (hs : w.heap.size ≤ w'.heap.size) (hb : ∀ b, b < w.heap.size → w'.heap[b]? = w.heap[b]?) : Keeps g H w g H w' where
  addr := fun r k b o ha => by
    have hrl : r < H.length := (List.getElem?_eq_some_iff.1 ha.at_).1
    have hα := hr.lt r hrl
    have hbl : b < w.heap.size := by
      by_cases e : b = g.α r
      · rw [e]; exact hα
      · exact (ha.far e).1
    refine ⟨o, ⟨ha.at_, ha.isRow, ha.le, ha.fixed, ha.top, fun e => ⟨Nat.lt_of_lt_of_le (ha.far e).1 hs, (ha.far e).2⟩, fun h1 j hj => ?_⟩, fun e => ⟨e, ?_⟩⟩
    · rw [cellAt_blk (hb b hbl), cellAt_blk (hb _ hα)]; exact ha.same h1 j hj
    · rw [bsz_blk (hb _ hα)]; exact Nat.le_refl _

theorem heap_below {g : G} {H : Heap} {w w' : World} (hr : HeapR g H w) (hs : w.heap.size ≤ w'.heap.size) (hb : ∀ b, b < w.heap.size → w'.heap[b]? = w.heap[b]?) : HeapR g H w' where
  inj := hr.inj
  lt := fun r h => Nat.lt_of_lt_of_le (hr.lt r h) hs
  nloc := hr.nloc
  bsz0 := Nat.le_trans hr.bsz0 hs
  n0 := hr.n0
  new := hr.new
  locb := fun b h => ⟨(hr.locb b h).1, Nat.lt_of_lt_of_le (hr.locb b h).2 hs⟩
  row := fun r o h1 h2 => by
    obtain ⟨q1, q2, c, e, fr, q3⟩ := hr.row r o h1 h2
    exact ⟨q1, q2, c, e, fr, q3.keeps (keeps_below hr hs hb) (hb _ (hr.lt r (List.getElem?_eq_some_iff.1 h1).1))⟩

theorem const_call {f : FuncId} {args : List AV} {v : AV} {H1 : Heap} (hc : AV.constAll args = true) (hv : v.const = true) (h : SoundCall P f args [] v H1) (H : Heap) : SoundCall P f args H v H := by
  intro haf g w vs hh hvs
  have h0 : HeapR ⟨fun r => r, g.γ, fun _ => False, 0, w.heap.size⟩ [] w :=
    ⟨fun r _ hr => by simp at hr, fun r hr => by simp at hr, fun r hr => by simp at hr, Nat.le_refl _, Nat.le_refl _, fun r _ hr => by simp at hr, fun b hb => hb.elim, fun r o hr => by simp at hr⟩
  refine (h haf _ w vs h0 (vrs_const _ _ hc hvs)).mono ?_
  rintro e w' ⟨g', u, rfl, q1, q2, _, q4, _, _⟩
  have hb : ∀ b, b < w.heap.size → w'.heap[b]? = w.heap[b]? := q4.old
  refine ⟨g, u, rfl, q1, vr_const _ _ hv q2, heap_below hh q4.size hb, ⟨rfl, q4.size, q4.os, q4.tape, q4.output, Nat.le_refl _, fun b hb' => hb b (Nat.lt_of_lt_of_le hb' hh.bsz0), fun _ h => h, fun _ h => .inl h, fun a v hf hv => vr_keeps (keeps_below hh q4.size hb) a v hf hv⟩, rfl, fun b hb' => hb b (hh.locb b hb').2⟩

/-- What fixed calls tell. -/
def constO (l : List (FuncId × AV)) : Oracle := fun f args H => match args, l.lookup f with
  | [], some v => some (v, H)
  | _, _ => none

theorem constO_sound {l : List (FuncId × AV)} (h : ∀ f v, l.lookup f = some v → isFn P f = true ∧ v.const = true ∧ ∃ H1, SoundCall P f [] [] v H1) : SoundO P (constO l) := by
  intro f args H v H' he
  unfold constO at he
  split at he
  · rename_i u hl
    simp only [Option.some.injEq, Prod.mk.injEq] at he
    obtain ⟨rfl, rfl⟩ := he
    obtain ⟨h1, h2, H1, h3⟩ := h f u hl
    exact ⟨h1, const_call rfl h2 h3 H⟩
  · simp at he

end Go.A
