/- THE ABSTRACT MACHINE: aggregates made, memory made, read and written. -/
import Derived.Test.YtnmobjhmohcjfaaA7
set_option linter.unusedSimpArgs false
set_option linter.unusedVariables false
set_option linter.unnecessarySimpa false
namespace Go.A
open Go
variable {P : Program}
section
variable {L0 : Nat → Prop} {g : G} {H : Heap} {w : World} {σ : List AV} {a : Act} {o : Oper}
theorem zerosOf_run {t : TypeId} {zs : List AV} (h : zerosOf P t = some zs) : ∃ z : Value,(∀ w,(zeroValue t).run P w = .ok z w) ∧ szOf P t = some z.cells.size ∧ zs.length = z.cells.size ∧ (∀ (g : G) (H : Heap) (w : World),VRs g H w zs z.cells.toList) ∧ AV.freeAll zs = true ∧ zs.all okCell = true ∧ (∀ v ∈ z.cells.toList,oneV v = true) := by
 unfold zerosOf at h
 obtain ⟨i,hi,h⟩ := Option.bind_eq_some_iff.1 h
 obtain ⟨z,hz,h⟩ := Option.bind_eq_some_iff.1 h
 split at h
 ·rename_i hc
  obtain rfl := Option.some.inj h
  have hall : ∀ v ∈ z.cells.toList,okConst v = true := fun v hv => List.all_eq_true.1 hc.1 v hv
  refine ⟨z,fun w => by simp [zeroValue,run_typeInfo' hi,hz,Result.andThen],by simp [szOf,hi,hc.2],by simp,fun g H w => ?_,freeAll_iff.2 fun x hx => ?_,List.all_eq_true.2 fun x hx => ?_,fun v hv => ?_⟩
  ·refine vrs_of (by simp) fun i x v hx hv => ?_
   rw [List.getElem?_map,hv] at hx
   simp at hx
   subst hx
   simp [VR]
  ·obtain ⟨v,hv,rfl⟩ := List.mem_map.1 hx
   rfl
  ·obtain ⟨v,hv,rfl⟩ := List.mem_map.1 hx
   have := hall v hv
   cases v <;> first | rfl | (simp [okConst] at this)
  ·have := hall v hv
   cases v <;> first | rfl | (simp [okConst] at this)
 ·simp at h
theorem run_places' (w : World) : ∀ (fs : List Field),(fs.all fun f => (szOf P f.type).isSome) = true →
  (fs.mapM fun f => Prod.mk f.offset <$> sizeOf f.type).run P w = .ok (fs.map fun f => (f.offset,(szOf P f.type).getD 0)) w
 | [],_ => by simp
 | f :: fs,h => by
  simp only [List.all_cons,Bool.and_eq_true] at h
  obtain ⟨k,hk⟩ := Option.isSome_iff_exists.1 h.1
  simp [List.mapM_cons,run_sizeOf' hk,hk,run_places' w fs h.2,Result.andThen]
theorem op_buildS (hs : StR L0 g H w σ a.tmps none) (hh : HeapR g H w) {t : TypeId} {ps : Array (Nat × Operand)} (ho : o.op = .build t ps) {fs : Array Field} (hsu : P.underlying t = some (.struct fs)) (hall : (fs.toList.all fun f => (szOf P f.type).isSome) = true) {zs vs : List AV} (hz : zerosOf P t = some zs) {sps : List (Nat × Nat × SX)}
  (hp : rParts (fun i => (fs[i]?).bind fun f => (szOf P f.type).map fun k => (f.offset,k)) ps.toList = some sps) (hv : placeAll zs (sps.map fun (o,k,x) => (o,k,evalX σ x)) = some vs) :
  OpRuns P o a w (fun u w' => ∃ g',OpPost L0 g H w a.tmps o.dst (.agg vs) σ H u w' g') := by
 obtain ⟨z,hzr,hz1,hz2,hz3,hz4,_,_⟩ := zerosOf_run hz
 obtain ⟨us,h1,h2,h3,_⟩ := fill_rel ps.toList sps zs z.cells vs hp hs (hz3 g H w) hz4 hv
 refine pure_op hs hh (u := .agg us) ?_ (by simp only [VR]; exact ⟨_,rfl,h2⟩) (.inl (by simpa [AV.free] using h3))
 have hpl : (fun (i : Nat) => ((fs.toList.map fun f => (f.offset,(szOf P f.type).getD 0)).toArray)[i]?) = (fun (i : Nat) => (fs[i]?).bind fun (f : Field) => (szOf P f.type).map fun k => (f.offset,k)) := by
  funext i
  simp only [List.getElem?_toArray,List.getElem?_map,Array.getElem?_toList]
  cases hf : fs[i]? with
  | none => rfl
  | some f =>
   have hm : f ∈ fs.toList := by
    rw [← Array.getElem?_toList] at hf
    exact List.mem_of_getElem? hf
   obtain ⟨k,hk⟩ := Option.isSome_iff_exists.1 (List.all_eq_true.1 hall f hm)
   simp [hk]
 have hfill : Instr.fill (fun i => ((fs.toList.map fun f => (f.offset,(szOf P f.type).getD 0)).toArray)[i]?) z.cells (ps.map fun (i,x) => (i,a.eval x)).toList = some us := by
  rw [hpl,Array.toList_map]; exact h1
 simp only [execOp,ho,Instr.build,Sem.run_bind,hzr,Result.andThen,run_underlying' hsu,Array.mapM_eq_mapM_toList]
 simp [run_places' w fs.toList hall,Result.andThen]
 simp at hfill
 simp [hfill]
theorem op_buildA (hs : StR L0 g H w σ a.tmps none) (hh : HeapR g H w) {t e : TypeId} {n k : Nat} {ps : Array (Nat × Operand)} (ho : o.op = .build t ps) (hsu : P.underlying t = some (.array n e)) (hk : szOf P e = some k) {zs vs : List AV} (hz : zerosOf P t = some zs) {sps : List (Nat × Nat × SX)}
  (hp : rParts (fun i => some (i * k,k)) ps.toList = some sps) (hv : placeAll zs (sps.map fun (o,k,x) => (o,k,evalX σ x)) = some vs) :
  OpRuns P o a w (fun u w' => ∃ g',OpPost L0 g H w a.tmps o.dst (.agg vs) σ H u w' g') := by
 obtain ⟨z,hzr,hz1,hz2,hz3,hz4,_,_⟩ := zerosOf_run hz
 obtain ⟨us,h1,h2,h3,_⟩ := fill_rel ps.toList sps zs z.cells vs hp hs (hz3 g H w) hz4 hv
 refine pure_op hs hh (u := .agg us) ?_ (by simp only [VR]; exact ⟨_,rfl,h2⟩) (.inl (by simpa [AV.free] using h3))
 have hfill : Instr.fill (fun i => some (i * k,k)) z.cells (ps.map fun (i,x) => (i,a.eval x)).toList = some us := by
  rw [Array.toList_map]; exact h1
 simp only [execOp,ho,Instr.build,Sem.run_bind,hzr,Result.andThen,run_underlying' hsu,run_sizeOf' hk]
 simp at hfill
 simp [hfill]
end
end Go.A
