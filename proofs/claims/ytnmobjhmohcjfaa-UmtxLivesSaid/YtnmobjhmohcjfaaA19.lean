/- THE ABSTRACT MACHINE: the world that a law begins in. -/
import Derived.Test.YtnmobjhmohcjfaaA18
import Derived.Below
set_option linter.unusedSimpArgs false
set_option linter.unusedVariables false
set_option linter.unnecessarySimpa false
namespace Go.A
open Go Go.RowKit
variable {P : Program}
def absV (w : World) : Value → AV
 | .slice (some ⟨b,i,none⟩) len cap => match w.heap[b]? with
  | some (.cells c _ _) => .sl b i len cap 0 c.size true
  | _ => if len = 0 ∧ cap = 0 then .sl 0 0 0 0 0 0 true else .undef
 | .slice (some ⟨_,_,some _⟩) len cap => if len = 0 ∧ cap = 0 then .sl 0 0 0 0 0 0 true else .undef
 | .pointer (some ⟨b,i,none⟩) => match w.heap[b]? with
  | some (.cells c _ _) => .ptr b i c.size
  | _ => .undef
 | v => if okConst v = true then .c v else .undef
def absA (w : World) : Value → AV
 | .agg cs => .agg (cs.toList.map (absV w))
 | v => absV w v
def absO (w : World) : Obj → AObj
 | .cells c _ _ => .old (c.toList.map (absV w))
 | _ => .other
def absW (w : World) : Heap := w.heap.toList.map (absO w)
def g0 (w : World) : G := ⟨fun r => r,fun _ => 0,fun _ => False,w.heap.size,w.heap.size⟩
theorem absW_get {w : World} {b : Nat} {c : Array Value} {e : TypeId} {fr : Nat × Nat} (h : w.heap[b]? = some (.cells c e fr)) : (absW w)[b]? = some (.old (c.toList.map (absV w))) := by
 simp [absW,h,absO]
theorem addrOk0 {w : World} {b : Nat} {c : Array Value} {e : TypeId} {fr : Nat × Nat} (h : w.heap[b]? = some (.cells c e fr)) : AddrOk (g0 w) (absW w) w b c.size b (.old (c.toList.map (absV w))) where
 at_ := absW_get h
 isRow := rfl
 le := by simp [AObj.cells]
 fixed := fun cs h => by simp at h
 top := fun _ => rfl
 far := fun h => (h rfl).elim
 same := fun _ _ _ => rfl
theorem absV_rel (w : World) (v : Value) : (absV w v).free = true ∧ VR (g0 w) (absW w) w (absV w v) v := by
 unfold absV
 split
 ·split
  ·rename_i h
   refine ⟨rfl,?_⟩
   simp only [VR]
   exact .inr ⟨_,_,_,_,rfl,.inl rfl,addrOk0 h,Nat.le_refl _,fun _ => rfl,fun h => by simp at h⟩
  ·split
   ·rename_i h
    obtain ⟨rfl,rfl⟩ := h
    refine ⟨rfl,?_⟩
    simp only [VR]
    exact .inl ⟨_,rfl,by simp⟩
   ·simp [AV.free,VR]
 ·split
  ·rename_i h
   obtain ⟨rfl,rfl⟩ := h
   refine ⟨rfl,?_⟩
   simp only [VR]
   exact .inl ⟨_,rfl,by simp⟩
  ·simp [AV.free,VR]
 ·split
  ·rename_i h
   refine ⟨rfl,?_⟩
   simp only [VR]
   exact ⟨_,_,rfl,addrOk0 h⟩
  ·simp [AV.free,VR]
 ·split
  ·simp [AV.free,VR]
  ·simp [AV.free,VR]
theorem absA_rel (w : World) (v : Value) : (absA w v).free = true ∧ VR (g0 w) (absW w) w (absA w v) v := by
 unfold absA
 split
 ·rename_i cs
  refine ⟨?_,?_⟩
  ·simp only [AV.free]
   rw [freeAll_iff]
   intro x hx
   obtain ⟨v,_,rfl⟩ := List.mem_map.1 hx
   exact (absV_rel w v).1
  ·simp only [VR]
   refine ⟨cs,rfl,vrs_of (by simp) fun i x v hx hv => ?_⟩
   rw [List.getElem?_map,hv] at hx
   obtain rfl := Option.some.inj hx
   exact (absV_rel w v).2
 ·exact absV_rel w _
theorem heap0 (w : World) : HeapR (g0 w) (absW w) w where
 inj := fun r r' _ _ h => h
 lt := fun r hr => by
  show r < w.heap.size
  simpa [absW] using hr
 nloc := fun r _ h => h
 bsz0 := Nat.le_refl _
 n0 := by simp [g0,absW]
 new := fun r h _ => h
 locb := fun b h => h.elim
 row := fun r o h1 h2 => by
  have hr : r < w.heap.size := by
   have := (List.getElem?_eq_some_iff.1 h1).1
   simpa [absW] using this
  have h1' : (absO w w.heap[r]) = o := by
   simp [absW,hr] at h1
   exact h1
  cases ho : w.heap[r] with
  | cells c e fr =>
   rw [ho] at h1'
   simp only [absO] at h1'
   subst h1'
   refine ⟨by simp [AObj.lo],by simp [AObj.isW],c,e,fr,?_⟩
   refine ⟨by show w.heap[r]? = _; rw [Array.getElem?_eq_getElem hr,ho],by simp [AObj.cells],by simp [AObj.isW],fun j a hj => ?_⟩
   simp only [AObj.cells,List.getElem?_map,Option.map_eq_some_iff] at hj
   obtain ⟨v,hv,rfl⟩ := hj
   exact ⟨(absV_rel w v).1,v,by simpa using hv,(absV_rel w v).2⟩
  | _ =>
   rw [ho] at h1'
   simp only [absO] at h1'
   subst h1'
   simp [AObj.isRow] at h2
theorem law_calls {C : Oracle} (hC : SoundO P C) {f : FuncId} {vs : List Value} {w : World} {H' : Heap} {b : Bool} (h : C f (vs.map (absA w)) (absW w) = some (.c (.bool b),H')) :
  Calls P f vs.toArray w fun e w' => e = .returned (.bool b) ∧ Below w.heap.size w w' := by
 have hv : VRs (g0 w) (absW w) w (vs.map (absA w)) vs := vrs_of (by simp) fun i x v hx hv => by
  rw [List.getElem?_map,hv] at hx
  obtain rfl := Option.some.inj hx
  exact (absA_rel w v).2
 have hf : AV.freeAll (vs.map (absA w)) = true := by
  rw [freeAll_iff]
  intro x hx
  obtain ⟨v,_,rfl⟩ := List.mem_map.1 hx
  exact (absA_rel w v).1
 refine ((hC f _ _ _ _ h).2 hf (g0 w) w vs (heap0 w) hv).mono ?_
 rintro e w' ⟨g',u,rfl,_,h1,_,h2,_,_⟩
 simp only [VR] at h1
 subst h1
 exact ⟨rfl,h2.os,h2.tape,h2.output,h2.size,fun k hk => h2.old k hk⟩
end Go.A
