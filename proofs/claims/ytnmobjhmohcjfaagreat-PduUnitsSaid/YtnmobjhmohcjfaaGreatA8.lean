/- THE ABSTRACT MACHINE: aggregates made, memory made, read and written. -/
import Derived.Test.YtnmobjhmohcjfaaGreatA7
set_option linter.unusedSimpArgs false
set_option linter.unusedVariables false
set_option linter.unnecessarySimpa false
namespace Go.A
open Go
variable {P:Program}
section
variable {L0:Nat→Prop} {g:G} {H:ae} {w:World} {σ:List AV} {a:Act} {o:Oper}
theorem eo {t:TypeId} {zs:List AV} (h:d9 P t=some zs):∃ z:Value,(∀ w,(zeroValue t).run P w=.ok z w)∧dh P t=some z.cells.size∧zs.length=z.cells.size∧(∀ (g:G) (H:ae) (w:World),VRs g H w zs z.cells.toList)∧AV.freeAll zs=true∧zs.all be=true∧(∀ v∈z.cells.toList,oh v=true):=by
 unfold d9 at h
 obtain ⟨i,hi,h⟩:=zq3 h
 obtain ⟨z,hz,h⟩:=zq3 h
 split at h
 ·rename_i hc
  obtain rfl:=zq1 h
  have hall:∀ v∈z.cells.toList,kn v=true:=fun v hv=>List.all_eq_true.1 hc.1 v hv
  refine ⟨z,fun w=>by simp [zeroValue,eL hi,hz,Result.andThen],by simp [dh,hi,hc.2],by simp,fun g H w=>?_,freeAll_iff.2 fun x hx=>?_,List.all_eq_true.2 fun x hx=>?_,fun v hv=>?_⟩
  ·refine iA (by simp) fun i x v hx hv=>?_
   rw [List.getElem?_map,hv] at hx
   simp at hx
   subst hx
   simp [VR]
  ·obtain ⟨v,hv,rfl⟩:=List.mem_map.1 hx
   rfl
  ·obtain ⟨v,hv,rfl⟩:=List.mem_map.1 hx
   have:=hall v hv
   cases v<;>first | rfl | (simp [kn] at this)
  ·have:=hall v hv
   cases v<;>first | rfl | (simp [kn] at this)
 ·simp at h
theorem qx (w:World):∀ (fs:List Field),(fs.all fun f=>(dh P f.type).isSome)=true →
  (fs.mapM fun f=>Prod.mk f.offset <$> sizeOf f.type).run P w=.ok (fs.map fun f=>(f.offset,(dh P f.type).getD 0)) w
 | [],_=>by simp
 | f :: fs,h=>by
  simp only [List.all_cons,Bool.and_eq_true] at h
  obtain ⟨k,hk⟩:=Option.isSome_iff_exists.1 h.1
  simp [List.mapM_cons,bk hk,hk,qx w fs h.2,Result.andThen]
theorem EW (hs:StR L0 g H w σ a.tmps none) (hh:aU g H w) {t:TypeId} {ps:Array (Nat × Operand)} (ho:o.op=.build t ps) {fs:Array Field} (hsu:P.underlying t=some (.struct fs)) (hall:(fs.toList.all fun f=>(dh P f.type).isSome)=true) {zs vs:List AV} (hz:d9 P t=some zs) {sps:List (Nat × Nat × SX)}
  (hp:jI (fun i=>(fs[i]?).bind fun f=>(dh P f.type).map fun k=>(f.offset,k)) ps.toList=some sps) (hv:cv zs (sps.map fun (o,k,x)=>(o,k,ak σ x))=some vs) :
  bE P o a w (fun u w'=>∃ g',OpPost L0 g H w a.tmps o.dst (.agg vs) σ H u w' g'):=by
 obtain ⟨z,hzr,hz1,hz2,hz3,hz4,_,_⟩:=eo hz
 obtain ⟨us,h1,h2,h3,_⟩:=ot ps.toList sps zs z.cells vs hp hs (hz3 g H w) hz4 hv
 refine bD hs hh (u:=.agg us) ?_ (by simp only [VR];exact ⟨_,rfl,h2⟩) (.inl (by simpa [AV.free] using h3))
 have hpl:(fun (i:Nat)=>((fs.toList.map fun f=>(f.offset,(dh P f.type).getD 0)).toArray)[i]?)=(fun (i:Nat)=>(fs[i]?).bind fun (f:Field)=>(dh P f.type).map fun k=>(f.offset,k)):=by
  funext i
  simp only [List.getElem?_toArray,List.getElem?_map,Array.getElem?_toList]
  cases hf:fs[i]? with
  | none=>rfl
  | some f =>
   have hm:f∈fs.toList:=by
    rw [← Array.getElem?_toList] at hf
    exact List.mem_of_getElem? hf
   obtain ⟨k,hk⟩:=Option.isSome_iff_exists.1 (List.all_eq_true.1 hall f hm)
   simp [hk]
 have hfill:Instr.fill (fun i=>((fs.toList.map fun f=>(f.offset,(dh P f.type).getD 0)).toArray)[i]?) z.cells (ps.map fun (i,x)=>(i,a.eval x)).toList=some us:=by
  rw [hpl,Array.toList_map];exact h1
 simp only [execOp,ho,Instr.build,Sem.run_bind,hzr,Result.andThen,ah hsu,Array.mapM_eq_mapM_toList]
 simp [qx w fs.toList hall,Result.andThen]
 simp at hfill
 simp [hfill]
theorem EX (hs:StR L0 g H w σ a.tmps none) (hh:aU g H w) {t e:TypeId} {n k:Nat} {ps:Array (Nat × Operand)} (ho:o.op=.build t ps) (hsu:P.underlying t=some (.array n e)) (hk:dh P e=some k) {zs vs:List AV} (hz:d9 P t=some zs) {sps:List (Nat × Nat × SX)}
  (hp:jI (fun i=>some (i * k,k)) ps.toList=some sps) (hv:cv zs (sps.map fun (o,k,x)=>(o,k,ak σ x))=some vs) :
  bE P o a w (fun u w'=>∃ g',OpPost L0 g H w a.tmps o.dst (.agg vs) σ H u w' g'):=by
 obtain ⟨z,hzr,hz1,hz2,hz3,hz4,_,_⟩:=eo hz
 obtain ⟨us,h1,h2,h3,_⟩:=ot ps.toList sps zs z.cells vs hp hs (hz3 g H w) hz4 hv
 refine bD hs hh (u:=.agg us) ?_ (by simp only [VR];exact ⟨_,rfl,h2⟩) (.inl (by simpa [AV.free] using h3))
 have hfill:Instr.fill (fun i=>some (i * k,k)) z.cells (ps.map fun (i,x)=>(i,a.eval x)).toList=some us:=by
  rw [Array.toList_map];exact h1
 simp only [execOp,ho,Instr.build,Sem.run_bind,hzr,Result.andThen,ah hsu,bk hk]
 simp at hfill
 simp [hfill]
end
end Go.A
