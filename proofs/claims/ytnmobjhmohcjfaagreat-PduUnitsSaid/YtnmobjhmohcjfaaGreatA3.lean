/- THE ABSTRACT MACHINE: what loads and stores of loaded code do. -/
import Derived.Test.YtnmobjhmohcjfaaGreatA2
import Derived.Laws.Sem
import Derived.Laws.Cells
set_option linter.unusedSimpArgs false
set_option linter.unusedVariables false
set_option linter.unnecessarySimpa false
namespace Go.A
open Go
variable {P:Program}
theorem jJ (b o i:Nat):(⟨b,o,none⟩:Addr).add i=⟨b,o+i,none⟩:=by
 unfold Addr.add
 split
 ·next h=>subst h;rfl
 ·rfl
theorem lC {w:World} {b i:Nat} {v:Value} (h:dl w b i=some v):(load ⟨b,i,none⟩).run P w=.ok v w:=by
 unfold dl at h
 simp [load,Sem.run,h]
theorem hY {w:World} {b o:Nat}:∀ (cs:List Value) (i:Nat) (acc:Array Value),(∀ (j:Nat) (v:Value),cs[j]?=some v→dl w b (o+i+j)=some v) →
  (loadCellsFrom ⟨b,o,none⟩ i cs.length acc).run P w=.ok (acc++cs.toArray) w
 | [],i,acc,_=>by simp [loadCellsFrom]
 | c :: cs,i,acc,h=>by
  have h0:dl w b (o+i)=some c:=by simpa using h 0 c (by simp)
  have ih:=hY (w:=w) (b:=b) (o:=o) cs (i+1) (acc.push c) (fun j v hj=>by
   have:=h (j+1) v (by simpa using hj)
   rw [show o+(i+1)+j=o+i+(j+1) by omega];exact this)
  simp only [List.length_cons,loadCellsFrom,Sem.run_bind,jJ,lC h0,Result.andThen,ih]
  simp
theorem du {w:World} {b o:Nat} (cs:List Value) (h:∀ (j:Nat) (v:Value),cs[j]?=some v→dl w b (o+j)=some v) :
  (loadCells ⟨b,o,none⟩ cs.length).run P w=.ok cs.toArray w:=by
 unfold loadCells
 rw [hY cs 0 #[] (by simpa using h)]
 simp
def over (c:Array Value) (i:Nat):List Value→Array Value
 | []=>c
 | v :: r=>over (c.setIfInBounds i v) (i+1) r
theorem fq (vs:List Value):∀ (c:Array Value) (i:Nat),(over c i vs).size=c.size:=by
 induction vs with
 | nil=>intro c i;rfl
 | cons v r ih=>intro c i;rw [over,ih];simp
theorem oe (vs:List Value):∀ (c:Array Value) (i j:Nat),i+vs.length≤c.size→(over c i vs)[j]?=if i≤j∧j<i+vs.length then vs[j - i]? else c[j]?:=by
 induction vs with
 | nil=>intro c i j h;rw [over,if_neg (by simp only [List.length_nil];omega)]
 | cons v r ih =>
  intro c i j h
  simp only [List.length_cons] at h ⊢
  rw [over,ih _ _ _ (by simp;omega)]
  by_cases h1:j=i
  ·subst h1
   rw [if_neg (by omega),if_pos (by omega)]
   simp [show j<c.size by omega]
  ·rw [Array.getElem?_setIfInBounds_ne (by omega)]
   by_cases h2:i+1≤j∧j<i+1+r.length
   ·rw [if_pos h2,if_pos (by omega)]
    rw [show j - i=(j - (i+1))+1 by omega];simp
   ·rw [if_neg h2,if_neg (by omega)]
theorem yn {w:World} {b i:Nat} {c:Array Value} {e:TypeId} {fr:Nat × Nat} (h:w.heap[b]?=some (.cells c e fr)) (v:Value) :
  w.setCell ⟨b,i,none⟩ v=put w b (.cells (c.setIfInBounds i v) e fr):=by
 have hb:b<w.heap.size:=(Array.getElem?_eq_some_iff.1 h).1
 have hh:w.heap[b]=.cells c e fr:=(Array.getElem?_eq_some_iff.1 h).2
 unfold World.setCell put
 congr 1
 apply Array.ext_getElem?
 intro j
 simp only [Array.getElem?_modify,Array.getElem?_setIfInBounds]
 by_cases e1:b=j
 ·subst e1
  simp [hb,hh]
 ·simp [e1]
theorem Ho {w:World} {b:Nat} {o:Obj} (h:w.heap[b]?=some o):put w b o=w:=by
 have hb:b<w.heap.size:=(Array.getElem?_eq_some_iff.1 h).1
 have hh:w.heap[b]=o:=(Array.getElem?_eq_some_iff.1 h).2
 unfold put
 have:w.heap.setIfInBounds b o=w.heap:=by
  apply Array.ext_getElem?
  intro j
  simp only [Array.getElem?_setIfInBounds]
  by_cases e1:b=j
  ·subst e1;simp [hb,hh]
  ·simp [e1]
 rw [this]
theorem LH (w:World) (b:Nat) (o o':Obj):put (put w b o) b o'=put w b o':=by
 unfold put
 simp
theorem EM {w:World} {b i:Nat} {c:Array Value} {e:TypeId} {fr:Nat × Nat} (h:w.heap[b]?=some (.cells c e fr)) (hf:¬ (fr.1≤i∧i<fr.2)):w.frozen? ⟨b,i,none⟩=false:=by
 obtain ⟨lo,hi⟩:=fr
 simp only [World.frozen?,h]
 simp only at hf
 simp
 omega
def oh:Value→Bool
 | .agg _=>false
 | .tuple _=>false
 | _=>true
theorem wW {w:World} {b i:Nat} {c:Array Value} {e:TypeId} {fr:Nat × Nat} (h:w.heap[b]?=some (.cells c e fr)) (hi:i<c.size) (hf:¬ (fr.1≤i∧i<fr.2)) (v:Value) (hv:oh v=true) :
  (store ⟨b,i,none⟩ v).run P w=.ok () (put w b (.cells (c.setIfInBounds i v) e fr)):=by
 have h1:w.cell? ⟨b,i,none⟩=some c[i]:=by simp [World.cell?,h,hi]
 have h2:=EM h hf
 rw [← yn h]
 cases v<;>simp [oh] at hv<;>simp [store,Sem.run,h1,h2]
theorem ia {b o:Nat} {e:TypeId} {fr:Nat × Nat}:∀ (vs:List Value) (i:Nat) (w:World) (c:Array Value),w.heap[b]?=some (.cells c e fr)→o+i+vs.length≤c.size →
  (∀ j,j<c.size→¬ (fr.1≤j∧j<fr.2))→(∀ v∈vs,oh v=true) →
  (storeCells ⟨b,o,none⟩ vs i).run P w=.ok () (put w b (.cells (over c (o+i) vs) e fr))
 | [],i,w,c,h,_,_,_=>by simp [storeCells,over,Ho h]
 | v :: r,i,w,c,h,hl,hf,hv=>by
  simp only [List.length_cons] at hl
  have hb:b<w.heap.size:=(Array.getElem?_eq_some_iff.1 h).1
  have h1:=wW (P:=P) h (i:=o+i) (by omega) (hf _ (by omega)) v (hv v (by simp))
  have ih:=ia (b:=b) (o:=o) (e:=e) (fr:=fr) r (i+1) (put w b (.cells (c.setIfInBounds (o+i) v) e fr)) (c.setIfInBounds (o+i) v) (pS w b _ hb) (by simp;omega) (by simpa using hf) (fun x hx=>hv x (by simp [hx]))
  simp only [storeCells,Sem.run_bind,jJ,h1,Result.andThen,ih,LH,over]
  rw [show o+(i+1)=o+i+1 by omega]
theorem fT {w:World} {b o:Nat} {e:TypeId} {fr:Nat × Nat} {c:Array Value} (vs:List Value) (h:w.heap[b]?=some (.cells c e fr)) (hl:o+vs.length≤c.size)
  (hf:∀ j,j<c.size→¬ (fr.1≤j∧j<fr.2)) (hv:∀ v∈vs,oh v=true) :
  (storeCells ⟨b,o,none⟩ vs).run P w=.ok () (put w b (.cells (over c o vs) e fr)):=by
 have:=ia (P:=P) (b:=b) (o:=o) vs 0 w c h (by omega) hf hv
 simpa using this
theorem ah {t:TypeId} {d:TypeDesc} (h:P.underlying t=some d) (w:World):(underlying t).run P w=.ok d w:=by
 simp [underlying,program,Sem.run,h]
theorem eL {t:TypeId} {i:TypeInfo} (h:P.info? t=some i) (w:World):(typeInfo t).run P w=.ok i w:=by
 simp [typeInfo,program,Sem.run,h]
theorem bk {t:TypeId} {k:Nat} (h:dh P t=some k) (w:World):(sizeOf t).run P w=.ok k w:=by
 unfold dh at h
 obtain ⟨i,hi,rfl⟩:=zq2 h
 simp [sizeOf,eL hi,Result.andThen]
theorem oi {t:TypeId} {k:Nat} (h:kOf P t=some (some k)):dh P t=some k∧∀ w,(isAgg t).run P w=.ok true w:=by
 unfold kOf at h
 split at h
 ·rename_i i fs hi hu
  simp at h
  exact ⟨by simp [dh,hi,h],fun w=>by simp [isAgg,ah hu,Result.andThen]⟩
 ·rename_i i n e hi hu
  simp at h
  exact ⟨by simp [dh,hi,h],fun w=>by simp [isAgg,ah hu,Result.andThen]⟩
 ·rename_i i d hi hu hn1 hn2
  split at h<;>simp at h
 ·simp at h
theorem oj {t:TypeId} (h:kOf P t=some none):dh P t=some 1∧∀ w,(isAgg t).run P w=.ok false w:=by
 unfold kOf at h
 split at h
 ·simp at h
 ·simp at h
 ·rename_i i d hn1 hn2 hi hu
  split at h
  ·rename_i h1
   refine ⟨by simp [dh,hi,h1],fun w=>?_⟩
   cases d<;>first | (simp [isAgg,ah hu,Result.andThen];done) | skip
   ·exact (hn2 _ _ rfl).elim
   ·exact (hn1 _ rfl).elim
  ·simp at h
 ·simp at h
end Go.A
