/- THE ABSTRACT MACHINE: what loads and stores of loaded code do. -/
import Derived.Test.YtnmobjhmohcjfaaA2
import Derived.Laws.Sem
import Derived.Laws.Cells
set_option linter.unusedSimpArgs false
set_option linter.unusedVariables false
set_option linter.unnecessarySimpa false
namespace Go.A
open Go
variable {P : Program}
theorem add_at (b o i : Nat) : (⟨b,o,none⟩ : Addr).add i = ⟨b,o + i,none⟩ := by
 unfold Addr.add
 split
 ·next h => subst h; rfl
 ·rfl
theorem run_load_at {w : World} {b i : Nat} {v : Value} (h : cellAt w b i = some v) : (load ⟨b,i,none⟩).run P w = .ok v w := by
 unfold cellAt at h
 simp [load,Sem.run,h]
theorem run_loadCellsFrom_at {w : World} {b o : Nat} : ∀ (cs : List Value) (i : Nat) (acc : Array Value),(∀ (j : Nat) (v : Value),cs[j]? = some v → cellAt w b (o + i + j) = some v) →
  (loadCellsFrom ⟨b,o,none⟩ i cs.length acc).run P w = .ok (acc ++ cs.toArray) w
 | [],i,acc,_ => by simp [loadCellsFrom]
 | c :: cs,i,acc,h => by
  have h0 : cellAt w b (o + i) = some c := by simpa using h 0 c (by simp)
  have ih := run_loadCellsFrom_at (w := w) (b := b) (o := o) cs (i + 1) (acc.push c) (fun j v hj => by
   have := h (j + 1) v (by simpa using hj)
   rw [show o + (i + 1) + j = o + i + (j + 1) by omega]; exact this)
  simp only [List.length_cons,loadCellsFrom,Sem.run_bind,add_at,run_load_at h0,Result.andThen,ih]
  simp
theorem run_loadCells_at {w : World} {b o : Nat} (cs : List Value) (h : ∀ (j : Nat) (v : Value),cs[j]? = some v → cellAt w b (o + j) = some v) :
  (loadCells ⟨b,o,none⟩ cs.length).run P w = .ok cs.toArray w := by
 unfold loadCells
 rw [run_loadCellsFrom_at cs 0 #[] (by simpa using h)]
 simp
def over (c : Array Value) (i : Nat) : List Value → Array Value
 | [] => c
 | v :: r => over (c.setIfInBounds i v) (i + 1) r
theorem over_size (vs : List Value) : ∀ (c : Array Value) (i : Nat),(over c i vs).size = c.size := by
 induction vs with
 | nil => intro c i; rfl
 | cons v r ih => intro c i; rw [over,ih]; simp
theorem over_get (vs : List Value) : ∀ (c : Array Value) (i j : Nat),i + vs.length ≤ c.size → (over c i vs)[j]? = if i ≤ j ∧ j < i + vs.length then vs[j - i]? else c[j]? := by
 induction vs with
 | nil => intro c i j h; rw [over,if_neg (by simp only [List.length_nil]; omega)]
 | cons v r ih =>
  intro c i j h
  simp only [List.length_cons] at h ⊢
  rw [over,ih _ _ _ (by simp; omega)]
  by_cases h1 : j = i
  ·subst h1
   rw [if_neg (by omega),if_pos (by omega)]
   simp [show j < c.size by omega]
  ·rw [Array.getElem?_setIfInBounds_ne (by omega)]
   by_cases h2 : i + 1 ≤ j ∧ j < i + 1 + r.length
   ·rw [if_pos h2,if_pos (by omega)]
    rw [show j - i = (j - (i + 1)) + 1 by omega]; simp
   ·rw [if_neg h2,if_neg (by omega)]
theorem setCell_put {w : World} {b i : Nat} {c : Array Value} {e : TypeId} {fr : Nat × Nat} (h : w.heap[b]? = some (.cells c e fr)) (v : Value) :
  w.setCell ⟨b,i,none⟩ v = put w b (.cells (c.setIfInBounds i v) e fr) := by
 have hb : b < w.heap.size := (Array.getElem?_eq_some_iff.1 h).1
 have hh : w.heap[b] = .cells c e fr := (Array.getElem?_eq_some_iff.1 h).2
 unfold World.setCell put
 congr 1
 apply Array.ext_getElem?
 intro j
 simp only [Array.getElem?_modify,Array.getElem?_setIfInBounds]
 by_cases e1 : b = j
 ·subst e1
  simp [hb,hh]
 ·simp [e1]
theorem put_self {w : World} {b : Nat} {o : Obj} (h : w.heap[b]? = some o) : put w b o = w := by
 have hb : b < w.heap.size := (Array.getElem?_eq_some_iff.1 h).1
 have hh : w.heap[b] = o := (Array.getElem?_eq_some_iff.1 h).2
 unfold put
 have : w.heap.setIfInBounds b o = w.heap := by
  apply Array.ext_getElem?
  intro j
  simp only [Array.getElem?_setIfInBounds]
  by_cases e1 : b = j
  ·subst e1; simp [hb,hh]
  ·simp [e1]
 rw [this]
theorem put_put (w : World) (b : Nat) (o o' : Obj) : put (put w b o) b o' = put w b o' := by
 unfold put
 simp
theorem frozen_at {w : World} {b i : Nat} {c : Array Value} {e : TypeId} {fr : Nat × Nat} (h : w.heap[b]? = some (.cells c e fr)) (hf : ¬ (fr.1 ≤ i ∧ i < fr.2)) : w.frozen? ⟨b,i,none⟩ = false := by
 obtain ⟨lo,hi⟩ := fr
 simp only [World.frozen?,h]
 simp only at hf
 simp
 omega
def oneV : Value → Bool
 | .agg _ => false
 | .tuple _ => false
 | _ => true
theorem run_store_at {w : World} {b i : Nat} {c : Array Value} {e : TypeId} {fr : Nat × Nat} (h : w.heap[b]? = some (.cells c e fr)) (hi : i < c.size) (hf : ¬ (fr.1 ≤ i ∧ i < fr.2)) (v : Value) (hv : oneV v = true) :
  (store ⟨b,i,none⟩ v).run P w = .ok () (put w b (.cells (c.setIfInBounds i v) e fr)) := by
 have h1 : w.cell? ⟨b,i,none⟩ = some c[i] := by simp [World.cell?,h,hi]
 have h2 := frozen_at h hf
 rw [← setCell_put h]
 cases v <;> simp [oneV] at hv <;> simp [store,Sem.run,h1,h2]
theorem run_storeCells_from' {b o : Nat} {e : TypeId} {fr : Nat × Nat} : ∀ (vs : List Value) (i : Nat) (w : World) (c : Array Value),w.heap[b]? = some (.cells c e fr) → o + i + vs.length ≤ c.size →
  (∀ j,j < c.size → ¬ (fr.1 ≤ j ∧ j < fr.2)) → (∀ v ∈ vs,oneV v = true) →
  (storeCells ⟨b,o,none⟩ vs i).run P w = .ok () (put w b (.cells (over c (o + i) vs) e fr))
 | [],i,w,c,h,_,_,_ => by simp [storeCells,over,put_self h]
 | v :: r,i,w,c,h,hl,hf,hv => by
  simp only [List.length_cons] at hl
  have hb : b < w.heap.size := (Array.getElem?_eq_some_iff.1 h).1
  have h1 := run_store_at (P := P) h (i := o + i) (by omega) (hf _ (by omega)) v (hv v (by simp))
  have ih := run_storeCells_from' (b := b) (o := o) (e := e) (fr := fr) r (i + 1) (put w b (.cells (c.setIfInBounds (o + i) v) e fr)) (c.setIfInBounds (o + i) v) (put_at w b _ hb) (by simp; omega) (by simpa using hf) (fun x hx => hv x (by simp [hx]))
  simp only [storeCells,Sem.run_bind,add_at,h1,Result.andThen,ih,put_put,over]
  rw [show o + (i + 1) = o + i + 1 by omega]
theorem run_storeCells_at' {w : World} {b o : Nat} {e : TypeId} {fr : Nat × Nat} {c : Array Value} (vs : List Value) (h : w.heap[b]? = some (.cells c e fr)) (hl : o + vs.length ≤ c.size)
  (hf : ∀ j,j < c.size → ¬ (fr.1 ≤ j ∧ j < fr.2)) (hv : ∀ v ∈ vs,oneV v = true) :
  (storeCells ⟨b,o,none⟩ vs).run P w = .ok () (put w b (.cells (over c o vs) e fr)) := by
 have := run_storeCells_from' (P := P) (b := b) (o := o) vs 0 w c h (by omega) hf hv
 simpa using this
theorem run_underlying' {t : TypeId} {d : TypeDesc} (h : P.underlying t = some d) (w : World) : (underlying t).run P w = .ok d w := by
 simp [underlying,program,Sem.run,h]
theorem run_typeInfo' {t : TypeId} {i : TypeInfo} (h : P.info? t = some i) (w : World) : (typeInfo t).run P w = .ok i w := by
 simp [typeInfo,program,Sem.run,h]
theorem run_sizeOf' {t : TypeId} {k : Nat} (h : szOf P t = some k) (w : World) : (sizeOf t).run P w = .ok k w := by
 unfold szOf at h
 obtain ⟨i,hi,rfl⟩ := Option.map_eq_some_iff.1 h
 simp [sizeOf,run_typeInfo' hi,Result.andThen]
theorem kOf_some {t : TypeId} {k : Nat} (h : kOf P t = some (some k)) : szOf P t = some k ∧ ∀ w,(isAgg t).run P w = .ok true w := by
 unfold kOf at h
 split at h
 ·rename_i i fs hi hu
  simp at h
  exact ⟨by simp [szOf,hi,h],fun w => by simp [isAgg,run_underlying' hu,Result.andThen]⟩
 ·rename_i i n e hi hu
  simp at h
  exact ⟨by simp [szOf,hi,h],fun w => by simp [isAgg,run_underlying' hu,Result.andThen]⟩
 ·rename_i i d hi hu hn1 hn2
  split at h <;> simp at h
 ·simp at h
theorem kOf_none {t : TypeId} (h : kOf P t = some none) : szOf P t = some 1 ∧ ∀ w,(isAgg t).run P w = .ok false w := by
 unfold kOf at h
 split at h
 ·simp at h
 ·simp at h
 ·rename_i i d hn1 hn2 hi hu
  split at h
  ·rename_i h1
   refine ⟨by simp [szOf,hi,h1],fun w => ?_⟩
   cases d <;> first | (simp [isAgg,run_underlying' hu,Result.andThen]; done) | skip
   ·exact (hn2 _ _ rfl).elim
   ·exact (hn1 _ rfl).elim
  ·simp at h
 ·simp at h
end Go.A
