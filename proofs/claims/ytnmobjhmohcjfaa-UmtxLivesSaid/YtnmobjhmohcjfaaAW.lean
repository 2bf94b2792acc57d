/- THE ABSTRACT MACHINE: a call that is told of no memory, and tells of none, may be run in an empty heap. -/
import Derived.Test.YtnmobjhmohcjfaaA19
set_option linter.unusedSimpArgs false
set_option linter.unusedVariables false
set_option linter.unnecessarySimpa false
namespace Go.A
open Go
variable {P : Program}
mutual
def AV.const : AV → Bool
 | .c _ => true
 | .agg xs => AV.constAll xs
 | .tup xs => AV.constAll xs
 | _ => false
def AV.constAll : List AV → Bool
 | [] => true
 | x :: r => AV.const x && AV.constAll r
end
mutual
theorem vr_const {g g' : G} {H H' : Heap} {w w' : World} : ∀ (a : AV) (v : Value),a.const = true → VR g H w a v → VR g' H' w' a v
 | .c _,_,_,hv => by simpa only [VR] using hv
 | .agg xs,v,hc,hv => by
  simp only [VR] at hv ⊢
  obtain ⟨vs,e,hs⟩ := hv
  exact ⟨vs,e,vrs_const xs _ (by simpa [AV.const] using hc) hs⟩
 | .tup xs,v,hc,hv => by
  simp only [VR] at hv ⊢
  obtain ⟨vs,e,hs⟩ := hv
  exact ⟨vs,e,vrs_const xs _ (by simpa [AV.const] using hc) hs⟩
 | .undef,_,hc,_ => by simp [AV.const] at hc
 | .ptr ..,_,hc,_ => by simp [AV.const] at hc
 | .sl ..,_,hc,_ => by simp [AV.const] at hc
 | .lbox _,_,hc,_ => by simp [AV.const] at hc
 | .lptr ..,_,hc,_ => by simp [AV.const] at hc
 | .fn ..,_,hc,_ => by simp [AV.const] at hc
 | .iface ..,_,hc,_ => by simp [AV.const] at hc
 | .map _,_,hc,_ => by simp [AV.const] at hc
 | .vs ..,_,hc,_ => by simp [AV.const] at hc
 | .vp ..,_,hc,_ => by simp [AV.const] at hc
 | .imm _,_,hc,_ => by simp [AV.const] at hc
theorem vrs_const {g g' : G} {H H' : Heap} {w w' : World} : ∀ (xs : List AV) (vs : List Value),AV.constAll xs = true → VRs g H w xs vs → VRs g' H' w' xs vs
 | [],_,_,hv => by simpa only [VRs] using hv
 | x :: xs,vs,hc,hv => by
  simp only [VRs] at hv ⊢
  simp only [AV.constAll,Bool.and_eq_true] at hc
  obtain ⟨v,r,e,h1,h2⟩ := hv
  exact ⟨v,r,e,vr_const x v hc.1 h1,vrs_const xs r hc.2 h2⟩
end
theorem keeps_below {g : G} {H : Heap} {w w' : World} (hr : HeapR g H w) (hs : w.heap.size ≤ w'.heap.size) (hb : ∀ b,b < w.heap.size → w'.heap[b]? = w.heap[b]?) : Keeps g H w g H w' where
 addr := fun r k b o ha => by
  have hrl : r < H.length := (List.getElem?_eq_some_iff.1 ha.at_).1
  have hα := hr.lt r hrl
  have hbl : b < w.heap.size := by
   by_cases e : b = g.α r
   ·rw [e]; exact hα
   ·exact (ha.far e).1
  refine ⟨o,⟨ha.at_,ha.isRow,ha.le,ha.fixed,ha.top,fun e => ⟨Nat.lt_of_lt_of_le (ha.far e).1 hs,(ha.far e).2⟩,fun h1 j hj => ?_⟩,fun e => ⟨e,?_⟩⟩
  ·rw [cellAt_blk (hb b hbl),cellAt_blk (hb _ hα)]; exact ha.same h1 j hj
  ·rw [bsz_blk (hb _ hα)]; exact Nat.le_refl _
 lone := fun b h => ⟨⟨Nat.lt_of_lt_of_le h.1 hs,h.2⟩,hb b h.1⟩
theorem heap_below {g : G} {H : Heap} {w w' : World} (hr : HeapR g H w) (hs : w.heap.size ≤ w'.heap.size) (hb : ∀ b,b < w.heap.size → w'.heap[b]? = w.heap[b]?) : HeapR g H w' where
 inj := hr.inj
 lt := fun r h => Nat.lt_of_lt_of_le (hr.lt r h) hs
 nloc := hr.nloc
 bsz0 := Nat.le_trans hr.bsz0 hs
 n0 := hr.n0
 new := hr.new
 locb := fun b h => ⟨(hr.locb b h).1,Nat.lt_of_lt_of_le (hr.locb b h).2 hs⟩
 row := fun r o h1 h2 => by
  obtain ⟨q1,q2,c,e,fr,q3⟩ := hr.row r o h1 h2
  exact ⟨q1,q2,c,e,fr,q3.keeps (keeps_below hr hs hb) (hb _ (hr.lt r (List.getElem?_eq_some_iff.1 h1).1))⟩
theorem const_call {f : FuncId} {args : List AV} {v : AV} {H1 : Heap} (hc : AV.constAll args = true) (hv : v.const = true) (h : SoundCall P f args [] v H1) (H : Heap) : SoundCall P f args H v H := by
 intro haf g w vs hh hvs
 have h0 : HeapR ⟨fun r => r,g.γ,fun _ => False,0,w.heap.size⟩ [] w :=
  ⟨fun r _ hr => by simp at hr,fun r hr => by simp at hr,fun r hr => by simp at hr,Nat.le_refl _,Nat.le_refl _,fun r _ hr => by simp at hr,fun b hb => hb.elim,fun r o hr => by simp at hr⟩
 refine (h haf _ w vs h0 (vrs_const _ _ hc hvs)).mono ?_
 rintro e w' ⟨g',u,rfl,q1,q2,_,q4,_,_⟩
 have hb : ∀ b,b < w.heap.size → w'.heap[b]? = w.heap[b]? := q4.old
 refine ⟨g,u,rfl,q1,vr_const _ _ hv q2,heap_below hh q4.size hb,⟨rfl,q4.size,q4.os,q4.tape,q4.output,Nat.le_refl _,fun b hb' => hb b (Nat.lt_of_lt_of_le hb' hh.bsz0),fun _ h => h,fun _ h => .inl h,fun a v hf hv => vr_keeps (keeps_below hh q4.size hb) a v hf hv⟩,rfl,fun b hb' => hb b (hh.locb b hb').2⟩
end Go.A

namespace Go.A
open Go
inductive Tr where
 | e
 | n (l : Tr) (v : AV) (r : Tr)
def Tr.get : Tr → List Bool → AV
 | .e,_ => .undef
 | .n _ v _,[] => v
 | .n l _ _,false :: p => l.get p
 | .n _ _ r,true :: p => r.get p
def Tr.put : Tr → List Bool → AV → Tr
 | .e,[],v => .n .e v .e
 | .e,false :: p,v => .n (Tr.put .e p v) .undef .e
 | .e,true :: p,v => .n .e .undef (Tr.put .e p v)
 | .n l _ r,[],v => .n l v r
 | .n l x r,false :: p,v => .n (l.put p v) x r
 | .n l x r,true :: p,v => .n l x (r.put p v)
def Tr.map (f : AV → AV) : Tr → Tr
 | .e => .e
 | .n l v r => .n (l.map f) (f v) (r.map f)
def Tr.full : Nat → Tr
 | 0 => .e
 | k + 1 => .n (Tr.full k) .undef (Tr.full k)
def pathF : Nat → Nat → List Bool
 | 0,_ => []
 | k + 1,m => if m ≤ 1 then [] else (m % 2 == 1) :: pathF k (m / 2)
def path (i : Nat) : List Bool := pathF (i + 2) (i + 1)
theorem get_put : ∀ (t : Tr) (p q : List Bool) (v : AV),(t.put p v).get q = if p = q then v else t.get q
 | .e,[],[],v => by simp [Tr.put,Tr.get]
 | .e,[],b :: q,v => by cases b <;> simp [Tr.put,Tr.get]
 | .e,false :: p,[],v => by simp [Tr.put,Tr.get]
 | .e,true :: p,[],v => by simp [Tr.put,Tr.get]
 | .e,false :: p,false :: q,v => by simp [Tr.put,Tr.get,get_put .e p q v]
 | .e,false :: p,true :: q,v => by simp [Tr.put,Tr.get]
 | .e,true :: p,false :: q,v => by simp [Tr.put,Tr.get]
 | .e,true :: p,true :: q,v => by simp [Tr.put,Tr.get,get_put .e p q v]
 | .n l x r,[],[],v => by simp [Tr.put,Tr.get]
 | .n l x r,[],b :: q,v => by cases b <;> simp [Tr.put,Tr.get]
 | .n l x r,false :: p,[],v => by simp [Tr.put,Tr.get]
 | .n l x r,true :: p,[],v => by simp [Tr.put,Tr.get]
 | .n l x r,false :: p,false :: q,v => by simp [Tr.put,Tr.get,get_put l p q v]
 | .n l x r,false :: p,true :: q,v => by simp [Tr.put,Tr.get]
 | .n l x r,true :: p,false :: q,v => by simp [Tr.put,Tr.get]
 | .n l x r,true :: p,true :: q,v => by simp [Tr.put,Tr.get,get_put r p q v]
theorem get_map (f : AV → AV) (h : f .undef = .undef) : ∀ (t : Tr) (p : List Bool),(t.map f).get p = f (t.get p)
 | .e,p => by cases p <;> simp [Tr.map,Tr.get,h]
 | .n l v r,[] => by simp [Tr.map,Tr.get]
 | .n l v r,false :: p => by simp [Tr.map,Tr.get,get_map f h l p]
 | .n l v r,true :: p => by simp [Tr.map,Tr.get,get_map f h r p]
theorem pathF_inj : ∀ (k k' m m' : Nat),m < k → m' < k' → 0 < m → 0 < m' → pathF k m = pathF k' m' → m = m'
 | 0,_,_,_,h,_,_,_,_ => by omega
 | _ + 1,0,_,_,_,h,_,_,_ => by omega
 | k + 1,k' + 1,m,m',h,h',hp,hp',he => by
  simp only [pathF] at he
  split at he <;> split at he
  ·omega
  ·simp at he
  ·simp at he
  ·simp only [List.cons.injEq] at he
   have := pathF_inj k k' (m / 2) (m' / 2) (by omega) (by omega) (by omega) (by omega) he.2
   have h2 := he.1
   have e1 : (m % 2 == 1) = (m' % 2 == 1) := h2
   have : m % 2 = m' % 2 := by
    rcases Nat.mod_two_eq_zero_or_one m with a | a <;> rcases Nat.mod_two_eq_zero_or_one m' with b | b <;> simp [a,b] at e1 ⊢
   omega
theorem path_inj {i j : Nat} (h : path i = path j) : i = j := by
 have := pathF_inj (i + 2) (j + 2) (i + 1) (j + 1) (by omega) (by omega) (by omega) (by omega) h
 omega
def L (n : Nat) (t : Tr) : List AV := (List.range n).map fun i => t.get (path i)
theorem L_length (n : Nat) (t : Tr) : (L n t).length = n := by simp [L]
theorem L_get (n : Nat) (t : Tr) (i : Nat) : (L n t)[i]? = if i < n then some (t.get (path i)) else none := by
 simp only [L,List.getElem?_map,List.getElem?_range]
 split <;> simp_all
theorem L_getD (n : Nat) (t : Tr) (i : Nat) : (L n t).getD i .undef = if i < n then t.get (path i) else .undef := by
 rw [List.getD_eq_getElem?_getD,L_get]
 split <;> simp
theorem L_set (n : Nat) (t : Tr) (i : Nat) (v : AV) : (L n t).set i v = L n (t.put (path i) v) := by
 apply List.ext_getElem?
 intro j
 rw [L_get,List.getElem?_set,L_length,L_get,get_put]
 by_cases e : i = j
 ·subst e; simp
 ·have : path i ≠ path j := fun h => e (path_inj h)
  simp [e,this]
theorem L_map (n : Nat) (t : Tr) (d : Nat) : (L n t).map (forget d) = L n (t.map (forget d)) := by
 apply List.ext_getElem?
 intro j
 rw [List.getElem?_map,L_get,L_get,get_map _ rfl]
 split <;> simp
def ev1 (i : Nat) : AV → AV
 | .lbox _ => .lptr i 0
 | v => v
theorem evalX_L (n : Nat) (t : Tr) (i : Nat) : evalX (L n t) (.t i) = if i < n then ev1 i (t.get (path i)) else .undef := by
 simp only [evalX,L_getD]
 by_cases h : i < n
 ·simp only [h,if_true]
  cases t.get (path i) <;> rfl
 ·simp only [h,if_false]
theorem evalX_k (σ : List AV) (v : AV) : evalX σ (.k v) = v := rfl
theorem setD_L (n : Nat) (t : Tr) (i : Nat) (v : AV) : setD (L n t) (some i) v = L n (t.put (path i) v) := L_set n t i v
theorem setD_none (σ : List AV) (v : AV) : setD σ none v = σ := rfl
theorem get_full : ∀ (k : Nat) (p : List Bool),(Tr.full k).get p = .undef
 | 0,p => by cases p <;> rfl
 | k + 1,[] => rfl
 | k + 1,false :: p => by simp [Tr.full,Tr.get,get_full k p]
 | k + 1,true :: p => by simp [Tr.full,Tr.get,get_full k p]
theorem put_full0 (k : Nat) (v : AV) : (Tr.full (k + 1)).put [] v = .n (Tr.full k) v (Tr.full k) := rfl
theorem put_full1 (k : Nat) (p : List Bool) (v : AV) : (Tr.full (k + 1)).put (false :: p) v = .n ((Tr.full k).put p v) .undef (Tr.full k) := rfl
theorem put_full2 (k : Nat) (p : List Bool) (v : AV) : (Tr.full (k + 1)).put (true :: p) v = .n (Tr.full k) .undef ((Tr.full k).put p v) := rfl
theorem fold_full (k : Nat) : Tr.n (Tr.full k) .undef (Tr.full k) = Tr.full (k + 1) := rfl
theorem put_n0 (l r : Tr) (x v : AV) : (Tr.n l x r).put [] v = .n l v r := rfl
theorem put_n1 (l r : Tr) (x v : AV) (p : List Bool) : (Tr.n l x r).put (false :: p) v = .n (l.put p v) x r := rfl
theorem put_n2 (l r : Tr) (x v : AV) (p : List Bool) : (Tr.n l x r).put (true :: p) v = .n l x (r.put p v) := rfl
theorem get_n0 (l r : Tr) (x : AV) : (Tr.n l x r).get [] = x := rfl
theorem get_n1 (l r : Tr) (x : AV) (p : List Bool) : (Tr.n l x r).get (false :: p) = l.get p := rfl
theorem get_n2 (l r : Tr) (x : AV) (p : List Bool) : (Tr.n l x r).get (true :: p) = r.get p := rfl
theorem map_full (d : Nat) : ∀ k,(Tr.full k).map (forget d) = Tr.full k
 | 0 => rfl
 | k + 1 => by simp [Tr.full,Tr.map,map_full d k,forget]
theorem map_n (f : AV → AV) (l r : Tr) (v : AV) : (Tr.n l v r).map f = .n (l.map f) (f v) (r.map f) := rfl
def putAll : Nat → List AV → Tr → Tr
 | _,[],t => t
 | i,v :: r,t => putAll (i + 1) r (t.put (path i) v)
theorem get_putAll : ∀ (vs : List AV) (i : Nat) (t : Tr) (j : Nat),(putAll i vs t).get (path j) = if i ≤ j ∧ j < i + vs.length then vs.getD (j - i) .undef else t.get (path j)
 | [],i,t,j => by
  simp only [putAll,List.length_nil]
  rw [if_neg (by omega)]
 | v :: r,i,t,j => by
  simp only [putAll,List.length_cons]
  rw [get_putAll r (i + 1),get_put]
  by_cases e : j = i
  ·subst e
   rw [if_neg (by omega),if_pos rfl,if_pos (by omega)]
   simp
  ·have : path i ≠ path j := fun h => e (path_inj h).symm
   rw [if_neg this]
   by_cases h : i + 1 ≤ j ∧ j < i + 1 + r.length
   ·rw [if_pos h,if_pos (by omega)]
    rw [show j - i = (j - (i + 1)) + 1 by omega]
    simp
   ·rw [if_neg h,if_neg (by omega)]
theorem slots0_L (k n : Nat) (args : List AV) (h : args.length ≤ n) : slots0 n args = L n (putAll 0 args (Tr.full k)) := by
 apply List.ext_getElem?
 intro j
 rw [L_get,get_putAll,get_full]
 unfold slots0
 by_cases e : j < args.length
 ·rw [List.getElem?_append_left e,if_pos (by omega),if_pos (by omega)]
  simp [e]
 ·rw [List.getElem?_append_right (by omega),List.getElem?_replicate,if_neg (by omega : ¬ (0 ≤ j ∧ j < 0 + args.length))]
  by_cases h2 : j < n
  ·rw [if_pos (by omega),if_pos h2]
  ·rw [if_neg (by omega),if_neg h2]
theorem loadA_L (n : Nat) (t : Tr) (H : Heap) (k : Option Nat) (d i : Nat) : loadA (L n t) H k (.lptr d i) = if d < n then (match t.get (path d) with
  | .lbox xs => fromCells k xs i
  | _ => none) else none := by
 simp only [loadA,L_getD]
 by_cases h : d < n
 ·simp only [h,if_true]
  split <;> simp_all
 ·simp only [h,if_false]
theorem loadA_ptr (σ : List AV) (H : Heap) (r i g : Nat) : loadA σ H none (.ptr r i g) = (rdRow H r i 1 g).bind fun l => l[0]? := rfl
theorem loadA_ptrk (σ : List AV) (H : Heap) (r i g k : Nat) : loadA σ H (some k) (.ptr r i g) = (rdRow H r i k g).map .agg := rfl
theorem wanted_none (σ : List AV) : wanted σ none = some true := rfl
theorem wanted_L (n : Nat) (t : Tr) (i : Nat) (b : Bool) : wanted (L n t) (some (i,b)) = if i < n then (match t.get (path i) with
  | .c (.bool x) => some (x == b)
  | .tup [] => some false
  | _ => none) else none := by
 simp only [wanted,L_getD]
 by_cases h : i < n
 ·simp only [h,if_true]
  split <;> simp_all
 ·simp only [h,if_false]
theorem runOps_nil (C : Oracle) (σ : List AV) (H : Heap) : runOps C [] σ H = some (σ,H) := rfl
theorem runOps_on {C : Oracle} {d : Option Nat} {op : SOp} {gd : Option (Nat × Bool)} {r : List SOpG} {σ : List AV} {H : Heap} (h : wanted σ gd = some true) : runOps C (⟨d,op,gd⟩ :: r) σ H = (opA C d op σ H).bind fun x => runOps C r (setD x.2.1 d x.1) x.2.2 := by
 simp only [runOps,h]
theorem runOps_0 {C : Oracle} {d : Option Nat} {op : SOp} {r : List SOpG} {σ : List AV} {H : Heap} : runOps C (⟨d,op,none⟩ :: r) σ H = (opA C d op σ H).bind fun x => runOps C r (setD x.2.1 d x.1) x.2.2 := runOps_on rfl
theorem kill_nil (σ : List AV) : kill [] σ = σ := rfl
theorem kill_L (n : Nat) (t : Tr) (d : Nat) (r : List Nat) : kill (d :: r) (L n t) = kill r (L n (t.put (path d) .undef)) := by
 simp only [kill,L_set]
end Go.A

namespace Go.A
theorem path0 : path 0 = [] := rfl
theorem path1 : path 1 = [false] := rfl
theorem path2 : path 2 = [true] := rfl
theorem path3 : path 3 = [false,false] := rfl
theorem path4 : path 4 = [true,false] := rfl
theorem path5 : path 5 = [false,true] := rfl
theorem path6 : path 6 = [true,true] := rfl
theorem path7 : path 7 = [false,false,false] := rfl
theorem path8 : path 8 = [true,false,false] := rfl
theorem path9 : path 9 = [false,true,false] := rfl
theorem path10 : path 10 = [true,true,false] := rfl
theorem path11 : path 11 = [false,false,true] := rfl
theorem path12 : path 12 = [true,false,true] := rfl
theorem path13 : path 13 = [false,true,true] := rfl
theorem path14 : path 14 = [true,true,true] := rfl
theorem path15 : path 15 = [false,false,false,false] := rfl
theorem path16 : path 16 = [true,false,false,false] := rfl
theorem path17 : path 17 = [false,true,false,false] := rfl
theorem path18 : path 18 = [true,true,false,false] := rfl
theorem path19 : path 19 = [false,false,true,false] := rfl
theorem path20 : path 20 = [true,false,true,false] := rfl
theorem path21 : path 21 = [false,true,true,false] := rfl
theorem path22 : path 22 = [true,true,true,false] := rfl
theorem path23 : path 23 = [false,false,false,true] := rfl
theorem path24 : path 24 = [true,false,false,true] := rfl
theorem path25 : path 25 = [false,true,false,true] := rfl
theorem path26 : path 26 = [true,true,false,true] := rfl
theorem path27 : path 27 = [false,false,true,true] := rfl
theorem path28 : path 28 = [true,false,true,true] := rfl
theorem path29 : path 29 = [false,true,true,true] := rfl
theorem path30 : path 30 = [true,true,true,true] := rfl
theorem path31 : path 31 = [false,false,false,false,false] := rfl
theorem path32 : path 32 = [true,false,false,false,false] := rfl
theorem path33 : path 33 = [false,true,false,false,false] := rfl
theorem path34 : path 34 = [true,true,false,false,false] := rfl
theorem path35 : path 35 = [false,false,true,false,false] := rfl
theorem path36 : path 36 = [true,false,true,false,false] := rfl
theorem path37 : path 37 = [false,true,true,false,false] := rfl
theorem path38 : path 38 = [true,true,true,false,false] := rfl
theorem path39 : path 39 = [false,false,false,true,false] := rfl
theorem path40 : path 40 = [true,false,false,true,false] := rfl
theorem path41 : path 41 = [false,true,false,true,false] := rfl
theorem path42 : path 42 = [true,true,false,true,false] := rfl
theorem path43 : path 43 = [false,false,true,true,false] := rfl
theorem path44 : path 44 = [true,false,true,true,false] := rfl
theorem path45 : path 45 = [false,true,true,true,false] := rfl
theorem path46 : path 46 = [true,true,true,true,false] := rfl
theorem path47 : path 47 = [false,false,false,false,true] := rfl
theorem path48 : path 48 = [true,false,false,false,true] := rfl
theorem path49 : path 49 = [false,true,false,false,true] := rfl
theorem path50 : path 50 = [true,true,false,false,true] := rfl
theorem path51 : path 51 = [false,false,true,false,true] := rfl
theorem path52 : path 52 = [true,false,true,false,true] := rfl
theorem path53 : path 53 = [false,true,true,false,true] := rfl
theorem path54 : path 54 = [true,true,true,false,true] := rfl
theorem path55 : path 55 = [false,false,false,true,true] := rfl
theorem path56 : path 56 = [true,false,false,true,true] := rfl
theorem path57 : path 57 = [false,true,false,true,true] := rfl
theorem path58 : path 58 = [true,true,false,true,true] := rfl
theorem path59 : path 59 = [false,false,true,true,true] := rfl
theorem path60 : path 60 = [true,false,true,true,true] := rfl
theorem path61 : path 61 = [false,true,true,true,true] := rfl
theorem path62 : path 62 = [true,true,true,true,true] := rfl
theorem path63 : path 63 = [false,false,false,false,false,false] := rfl
theorem path64 : path 64 = [true,false,false,false,false,false] := rfl
theorem path65 : path 65 = [false,true,false,false,false,false] := rfl
theorem path66 : path 66 = [true,true,false,false,false,false] := rfl
theorem path67 : path 67 = [false,false,true,false,false,false] := rfl
theorem path68 : path 68 = [true,false,true,false,false,false] := rfl
theorem path69 : path 69 = [false,true,true,false,false,false] := rfl
theorem path70 : path 70 = [true,true,true,false,false,false] := rfl
theorem path71 : path 71 = [false,false,false,true,false,false] := rfl
theorem path72 : path 72 = [true,false,false,true,false,false] := rfl
theorem path73 : path 73 = [false,true,false,true,false,false] := rfl
theorem path74 : path 74 = [true,true,false,true,false,false] := rfl
theorem path75 : path 75 = [false,false,true,true,false,false] := rfl
theorem path76 : path 76 = [true,false,true,true,false,false] := rfl
theorem path77 : path 77 = [false,true,true,true,false,false] := rfl
theorem path78 : path 78 = [true,true,true,true,false,false] := rfl
theorem path79 : path 79 = [false,false,false,false,true,false] := rfl
theorem path80 : path 80 = [true,false,false,false,true,false] := rfl
theorem path81 : path 81 = [false,true,false,false,true,false] := rfl
theorem path82 : path 82 = [true,true,false,false,true,false] := rfl
theorem path83 : path 83 = [false,false,true,false,true,false] := rfl
theorem path84 : path 84 = [true,false,true,false,true,false] := rfl
theorem path85 : path 85 = [false,true,true,false,true,false] := rfl
theorem path86 : path 86 = [true,true,true,false,true,false] := rfl
theorem path87 : path 87 = [false,false,false,true,true,false] := rfl
theorem path88 : path 88 = [true,false,false,true,true,false] := rfl
theorem path89 : path 89 = [false,true,false,true,true,false] := rfl
theorem path90 : path 90 = [true,true,false,true,true,false] := rfl
theorem path91 : path 91 = [false,false,true,true,true,false] := rfl
theorem path92 : path 92 = [true,false,true,true,true,false] := rfl
theorem path93 : path 93 = [false,true,true,true,true,false] := rfl
theorem path94 : path 94 = [true,true,true,true,true,false] := rfl
theorem path95 : path 95 = [false,false,false,false,false,true] := rfl
theorem path96 : path 96 = [true,false,false,false,false,true] := rfl
theorem path97 : path 97 = [false,true,false,false,false,true] := rfl
theorem path98 : path 98 = [true,true,false,false,false,true] := rfl
theorem path99 : path 99 = [false,false,true,false,false,true] := rfl
theorem path100 : path 100 = [true,false,true,false,false,true] := rfl
theorem path101 : path 101 = [false,true,true,false,false,true] := rfl
theorem path102 : path 102 = [true,true,true,false,false,true] := rfl
theorem path103 : path 103 = [false,false,false,true,false,true] := rfl
theorem path104 : path 104 = [true,false,false,true,false,true] := rfl
theorem path105 : path 105 = [false,true,false,true,false,true] := rfl
theorem path106 : path 106 = [true,true,false,true,false,true] := rfl
theorem path107 : path 107 = [false,false,true,true,false,true] := rfl
theorem path108 : path 108 = [true,false,true,true,false,true] := rfl
theorem path109 : path 109 = [false,true,true,true,false,true] := rfl
theorem path110 : path 110 = [true,true,true,true,false,true] := rfl
theorem path111 : path 111 = [false,false,false,false,true,true] := rfl
theorem path112 : path 112 = [true,false,false,false,true,true] := rfl
theorem path113 : path 113 = [false,true,false,false,true,true] := rfl
theorem path114 : path 114 = [true,true,false,false,true,true] := rfl
theorem path115 : path 115 = [false,false,true,false,true,true] := rfl
theorem path116 : path 116 = [true,false,true,false,true,true] := rfl
theorem path117 : path 117 = [false,true,true,false,true,true] := rfl
theorem path118 : path 118 = [true,true,true,false,true,true] := rfl
theorem path119 : path 119 = [false,false,false,true,true,true] := rfl
theorem path120 : path 120 = [true,false,false,true,true,true] := rfl
theorem path121 : path 121 = [false,true,false,true,true,true] := rfl
theorem path122 : path 122 = [true,true,false,true,true,true] := rfl
theorem path123 : path 123 = [false,false,true,true,true,true] := rfl
theorem path124 : path 124 = [true,false,true,true,true,true] := rfl
theorem path125 : path 125 = [false,true,true,true,true,true] := rfl
theorem path126 : path 126 = [true,true,true,true,true,true] := rfl
theorem path127 : path 127 = [false,false,false,false,false,false,false] := rfl
theorem path128 : path 128 = [true,false,false,false,false,false,false] := rfl
theorem path129 : path 129 = [false,true,false,false,false,false,false] := rfl
theorem path130 : path 130 = [true,true,false,false,false,false,false] := rfl
theorem path131 : path 131 = [false,false,true,false,false,false,false] := rfl
theorem path132 : path 132 = [true,false,true,false,false,false,false] := rfl
theorem path133 : path 133 = [false,true,true,false,false,false,false] := rfl
theorem path134 : path 134 = [true,true,true,false,false,false,false] := rfl
theorem path135 : path 135 = [false,false,false,true,false,false,false] := rfl
theorem path136 : path 136 = [true,false,false,true,false,false,false] := rfl
theorem path137 : path 137 = [false,true,false,true,false,false,false] := rfl
theorem path138 : path 138 = [true,true,false,true,false,false,false] := rfl
theorem path139 : path 139 = [false,false,true,true,false,false,false] := rfl
theorem path140 : path 140 = [true,false,true,true,false,false,false] := rfl
theorem path141 : path 141 = [false,true,true,true,false,false,false] := rfl
theorem path142 : path 142 = [true,true,true,true,false,false,false] := rfl
theorem path143 : path 143 = [false,false,false,false,true,false,false] := rfl
theorem path144 : path 144 = [true,false,false,false,true,false,false] := rfl
theorem path145 : path 145 = [false,true,false,false,true,false,false] := rfl
theorem path146 : path 146 = [true,true,false,false,true,false,false] := rfl
theorem path147 : path 147 = [false,false,true,false,true,false,false] := rfl
theorem path148 : path 148 = [true,false,true,false,true,false,false] := rfl
theorem path149 : path 149 = [false,true,true,false,true,false,false] := rfl
theorem path150 : path 150 = [true,true,true,false,true,false,false] := rfl
theorem path151 : path 151 = [false,false,false,true,true,false,false] := rfl
theorem path152 : path 152 = [true,false,false,true,true,false,false] := rfl
theorem path153 : path 153 = [false,true,false,true,true,false,false] := rfl
theorem path154 : path 154 = [true,true,false,true,true,false,false] := rfl
theorem path155 : path 155 = [false,false,true,true,true,false,false] := rfl
theorem path156 : path 156 = [true,false,true,true,true,false,false] := rfl
theorem path157 : path 157 = [false,true,true,true,true,false,false] := rfl
theorem path158 : path 158 = [true,true,true,true,true,false,false] := rfl
theorem path159 : path 159 = [false,false,false,false,false,true,false] := rfl
theorem path160 : path 160 = [true,false,false,false,false,true,false] := rfl
theorem path161 : path 161 = [false,true,false,false,false,true,false] := rfl
theorem path162 : path 162 = [true,true,false,false,false,true,false] := rfl
theorem path163 : path 163 = [false,false,true,false,false,true,false] := rfl
theorem path164 : path 164 = [true,false,true,false,false,true,false] := rfl
theorem path165 : path 165 = [false,true,true,false,false,true,false] := rfl
theorem path166 : path 166 = [true,true,true,false,false,true,false] := rfl
theorem path167 : path 167 = [false,false,false,true,false,true,false] := rfl
theorem path168 : path 168 = [true,false,false,true,false,true,false] := rfl
theorem path169 : path 169 = [false,true,false,true,false,true,false] := rfl
theorem path170 : path 170 = [true,true,false,true,false,true,false] := rfl
theorem path171 : path 171 = [false,false,true,true,false,true,false] := rfl
theorem path172 : path 172 = [true,false,true,true,false,true,false] := rfl
theorem path173 : path 173 = [false,true,true,true,false,true,false] := rfl
theorem path174 : path 174 = [true,true,true,true,false,true,false] := rfl
theorem path175 : path 175 = [false,false,false,false,true,true,false] := rfl
theorem path176 : path 176 = [true,false,false,false,true,true,false] := rfl
theorem path177 : path 177 = [false,true,false,false,true,true,false] := rfl
theorem path178 : path 178 = [true,true,false,false,true,true,false] := rfl
theorem path179 : path 179 = [false,false,true,false,true,true,false] := rfl
theorem path180 : path 180 = [true,false,true,false,true,true,false] := rfl
theorem path181 : path 181 = [false,true,true,false,true,true,false] := rfl
theorem path182 : path 182 = [true,true,true,false,true,true,false] := rfl
theorem path183 : path 183 = [false,false,false,true,true,true,false] := rfl
theorem path184 : path 184 = [true,false,false,true,true,true,false] := rfl
theorem path185 : path 185 = [false,true,false,true,true,true,false] := rfl
theorem path186 : path 186 = [true,true,false,true,true,true,false] := rfl
theorem path187 : path 187 = [false,false,true,true,true,true,false] := rfl
theorem path188 : path 188 = [true,false,true,true,true,true,false] := rfl
theorem path189 : path 189 = [false,true,true,true,true,true,false] := rfl
theorem path190 : path 190 = [true,true,true,true,true,true,false] := rfl
theorem path191 : path 191 = [false,false,false,false,false,false,true] := rfl
theorem path192 : path 192 = [true,false,false,false,false,false,true] := rfl
theorem path193 : path 193 = [false,true,false,false,false,false,true] := rfl
theorem path194 : path 194 = [true,true,false,false,false,false,true] := rfl
theorem path195 : path 195 = [false,false,true,false,false,false,true] := rfl
theorem path196 : path 196 = [true,false,true,false,false,false,true] := rfl
theorem path197 : path 197 = [false,true,true,false,false,false,true] := rfl
theorem path198 : path 198 = [true,true,true,false,false,false,true] := rfl
theorem path199 : path 199 = [false,false,false,true,false,false,true] := rfl
theorem path200 : path 200 = [true,false,false,true,false,false,true] := rfl
theorem path201 : path 201 = [false,true,false,true,false,false,true] := rfl
theorem path202 : path 202 = [true,true,false,true,false,false,true] := rfl
theorem path203 : path 203 = [false,false,true,true,false,false,true] := rfl
theorem path204 : path 204 = [true,false,true,true,false,false,true] := rfl
theorem path205 : path 205 = [false,true,true,true,false,false,true] := rfl
theorem path206 : path 206 = [true,true,true,true,false,false,true] := rfl
theorem path207 : path 207 = [false,false,false,false,true,false,true] := rfl
theorem path208 : path 208 = [true,false,false,false,true,false,true] := rfl
theorem path209 : path 209 = [false,true,false,false,true,false,true] := rfl
theorem path210 : path 210 = [true,true,false,false,true,false,true] := rfl
theorem path211 : path 211 = [false,false,true,false,true,false,true] := rfl
theorem path212 : path 212 = [true,false,true,false,true,false,true] := rfl
theorem path213 : path 213 = [false,true,true,false,true,false,true] := rfl
theorem path214 : path 214 = [true,true,true,false,true,false,true] := rfl
theorem path215 : path 215 = [false,false,false,true,true,false,true] := rfl
theorem path216 : path 216 = [true,false,false,true,true,false,true] := rfl
theorem path217 : path 217 = [false,true,false,true,true,false,true] := rfl
theorem path218 : path 218 = [true,true,false,true,true,false,true] := rfl
theorem path219 : path 219 = [false,false,true,true,true,false,true] := rfl
theorem path220 : path 220 = [true,false,true,true,true,false,true] := rfl
theorem path221 : path 221 = [false,true,true,true,true,false,true] := rfl
theorem path222 : path 222 = [true,true,true,true,true,false,true] := rfl
theorem path223 : path 223 = [false,false,false,false,false,true,true] := rfl
theorem path224 : path 224 = [true,false,false,false,false,true,true] := rfl
theorem path225 : path 225 = [false,true,false,false,false,true,true] := rfl
theorem path226 : path 226 = [true,true,false,false,false,true,true] := rfl
theorem path227 : path 227 = [false,false,true,false,false,true,true] := rfl
theorem path228 : path 228 = [true,false,true,false,false,true,true] := rfl
theorem path229 : path 229 = [false,true,true,false,false,true,true] := rfl
theorem path230 : path 230 = [true,true,true,false,false,true,true] := rfl
theorem path231 : path 231 = [false,false,false,true,false,true,true] := rfl
theorem path232 : path 232 = [true,false,false,true,false,true,true] := rfl
theorem path233 : path 233 = [false,true,false,true,false,true,true] := rfl
theorem path234 : path 234 = [true,true,false,true,false,true,true] := rfl
theorem path235 : path 235 = [false,false,true,true,false,true,true] := rfl
theorem path236 : path 236 = [true,false,true,true,false,true,true] := rfl
theorem path237 : path 237 = [false,true,true,true,false,true,true] := rfl
theorem path238 : path 238 = [true,true,true,true,false,true,true] := rfl
theorem path239 : path 239 = [false,false,false,false,true,true,true] := rfl
theorem path240 : path 240 = [true,false,false,false,true,true,true] := rfl
theorem path241 : path 241 = [false,true,false,false,true,true,true] := rfl
theorem path242 : path 242 = [true,true,false,false,true,true,true] := rfl
theorem path243 : path 243 = [false,false,true,false,true,true,true] := rfl
theorem path244 : path 244 = [true,false,true,false,true,true,true] := rfl
theorem path245 : path 245 = [false,true,true,false,true,true,true] := rfl
theorem path246 : path 246 = [true,true,true,false,true,true,true] := rfl
theorem path247 : path 247 = [false,false,false,true,true,true,true] := rfl
theorem path248 : path 248 = [true,false,false,true,true,true,true] := rfl
theorem path249 : path 249 = [false,true,false,true,true,true,true] := rfl
theorem path250 : path 250 = [true,true,false,true,true,true,true] := rfl
theorem path251 : path 251 = [false,false,true,true,true,true,true] := rfl
theorem path252 : path 252 = [true,false,true,true,true,true,true] := rfl
theorem path253 : path 253 = [false,true,true,true,true,true,true] := rfl
theorem path254 : path 254 = [true,true,true,true,true,true,true] := rfl
theorem path255 : path 255 = [false,false,false,false,false,false,false,false] := rfl
theorem path256 : path 256 = [true,false,false,false,false,false,false,false] := rfl
theorem path257 : path 257 = [false,true,false,false,false,false,false,false] := rfl
theorem path258 : path 258 = [true,true,false,false,false,false,false,false] := rfl
theorem path259 : path 259 = [false,false,true,false,false,false,false,false] := rfl
theorem path260 : path 260 = [true,false,true,false,false,false,false,false] := rfl
theorem path261 : path 261 = [false,true,true,false,false,false,false,false] := rfl
theorem path262 : path 262 = [true,true,true,false,false,false,false,false] := rfl
theorem path263 : path 263 = [false,false,false,true,false,false,false,false] := rfl
theorem path264 : path 264 = [true,false,false,true,false,false,false,false] := rfl
theorem path265 : path 265 = [false,true,false,true,false,false,false,false] := rfl
theorem path266 : path 266 = [true,true,false,true,false,false,false,false] := rfl
theorem path267 : path 267 = [false,false,true,true,false,false,false,false] := rfl
theorem path268 : path 268 = [true,false,true,true,false,false,false,false] := rfl
theorem path269 : path 269 = [false,true,true,true,false,false,false,false] := rfl
theorem path270 : path 270 = [true,true,true,true,false,false,false,false] := rfl
theorem path271 : path 271 = [false,false,false,false,true,false,false,false] := rfl
theorem path272 : path 272 = [true,false,false,false,true,false,false,false] := rfl
theorem path273 : path 273 = [false,true,false,false,true,false,false,false] := rfl
theorem path274 : path 274 = [true,true,false,false,true,false,false,false] := rfl
theorem path275 : path 275 = [false,false,true,false,true,false,false,false] := rfl
theorem path276 : path 276 = [true,false,true,false,true,false,false,false] := rfl
theorem path277 : path 277 = [false,true,true,false,true,false,false,false] := rfl
theorem path278 : path 278 = [true,true,true,false,true,false,false,false] := rfl
theorem path279 : path 279 = [false,false,false,true,true,false,false,false] := rfl
theorem path280 : path 280 = [true,false,false,true,true,false,false,false] := rfl
theorem path281 : path 281 = [false,true,false,true,true,false,false,false] := rfl
theorem path282 : path 282 = [true,true,false,true,true,false,false,false] := rfl
theorem path283 : path 283 = [false,false,true,true,true,false,false,false] := rfl
theorem path284 : path 284 = [true,false,true,true,true,false,false,false] := rfl
theorem path285 : path 285 = [false,true,true,true,true,false,false,false] := rfl
theorem path286 : path 286 = [true,true,true,true,true,false,false,false] := rfl
theorem path287 : path 287 = [false,false,false,false,false,true,false,false] := rfl
theorem path288 : path 288 = [true,false,false,false,false,true,false,false] := rfl
theorem path289 : path 289 = [false,true,false,false,false,true,false,false] := rfl
theorem path290 : path 290 = [true,true,false,false,false,true,false,false] := rfl
theorem path291 : path 291 = [false,false,true,false,false,true,false,false] := rfl
theorem path292 : path 292 = [true,false,true,false,false,true,false,false] := rfl
theorem path293 : path 293 = [false,true,true,false,false,true,false,false] := rfl
theorem path294 : path 294 = [true,true,true,false,false,true,false,false] := rfl
theorem path295 : path 295 = [false,false,false,true,false,true,false,false] := rfl
theorem path296 : path 296 = [true,false,false,true,false,true,false,false] := rfl
theorem path297 : path 297 = [false,true,false,true,false,true,false,false] := rfl
theorem path298 : path 298 = [true,true,false,true,false,true,false,false] := rfl
theorem path299 : path 299 = [false,false,true,true,false,true,false,false] := rfl
theorem path300 : path 300 = [true,false,true,true,false,true,false,false] := rfl
theorem path301 : path 301 = [false,true,true,true,false,true,false,false] := rfl
theorem path302 : path 302 = [true,true,true,true,false,true,false,false] := rfl
theorem path303 : path 303 = [false,false,false,false,true,true,false,false] := rfl
theorem path304 : path 304 = [true,false,false,false,true,true,false,false] := rfl
theorem path305 : path 305 = [false,true,false,false,true,true,false,false] := rfl
theorem path306 : path 306 = [true,true,false,false,true,true,false,false] := rfl
theorem path307 : path 307 = [false,false,true,false,true,true,false,false] := rfl
theorem path308 : path 308 = [true,false,true,false,true,true,false,false] := rfl
theorem path309 : path 309 = [false,true,true,false,true,true,false,false] := rfl
theorem path310 : path 310 = [true,true,true,false,true,true,false,false] := rfl
theorem path311 : path 311 = [false,false,false,true,true,true,false,false] := rfl
theorem path312 : path 312 = [true,false,false,true,true,true,false,false] := rfl
theorem path313 : path 313 = [false,true,false,true,true,true,false,false] := rfl
theorem path314 : path 314 = [true,true,false,true,true,true,false,false] := rfl
theorem path315 : path 315 = [false,false,true,true,true,true,false,false] := rfl
theorem path316 : path 316 = [true,false,true,true,true,true,false,false] := rfl
theorem path317 : path 317 = [false,true,true,true,true,true,false,false] := rfl
theorem path318 : path 318 = [true,true,true,true,true,true,false,false] := rfl
theorem path319 : path 319 = [false,false,false,false,false,false,true,false] := rfl
attribute [simp] path0 path1 path2 path3 path4 path5 path6 path7 path8 path9 path10 path11 path12 path13 path14 path15 path16 path17 path18 path19 path20 path21 path22 path23 path24 path25 path26 path27 path28 path29 path30 path31 path32 path33 path34 path35 path36 path37 path38 path39 path40 path41 path42 path43 path44 path45 path46 path47 path48 path49 path50 path51 path52 path53 path54 path55 path56 path57 path58 path59 path60 path61 path62 path63 path64 path65 path66 path67 path68 path69 path70 path71 path72 path73 path74 path75 path76 path77 path78 path79 path80 path81 path82 path83 path84 path85 path86 path87 path88 path89 path90 path91 path92 path93 path94 path95 path96 path97 path98 path99 path100 path101 path102 path103 path104 path105 path106 path107 path108 path109 path110 path111 path112 path113 path114 path115 path116 path117 path118 path119 path120 path121 path122 path123 path124 path125 path126 path127 path128 path129 path130 path131 path132 path133 path134 path135 path136 path137 path138 path139 path140 path141 path142 path143 path144 path145 path146 path147 path148 path149 path150 path151 path152 path153 path154 path155 path156 path157 path158 path159 path160 path161 path162 path163 path164 path165 path166 path167 path168 path169 path170 path171 path172 path173 path174 path175 path176 path177 path178 path179 path180 path181 path182 path183 path184 path185 path186 path187 path188 path189 path190 path191 path192 path193 path194 path195 path196 path197 path198 path199 path200 path201 path202 path203 path204 path205 path206 path207 path208 path209 path210 path211 path212 path213 path214 path215 path216 path217 path218 path219 path220 path221 path222 path223 path224 path225 path226 path227 path228 path229 path230 path231 path232 path233 path234 path235 path236 path237 path238 path239 path240 path241 path242 path243 path244 path245 path246 path247 path248 path249 path250 path251 path252 path253 path254 path255 path256 path257 path258 path259 path260 path261 path262 path263 path264 path265 path266 path267 path268 path269 path270 path271 path272 path273 path274 path275 path276 path277 path278 path279 path280 path281 path282 path283 path284 path285 path286 path287 path288 path289 path290 path291 path292 path293 path294 path295 path296 path297 path298 path299 path300 path301 path302 path303 path304 path305 path306 path307 path308 path309 path310 path311 path312 path313 path314 path315 path316 path317 path318 path319
end Go.A

namespace Go.A
open Go
def Ends {α : Type} (o : Option α) (Q : α → Prop) : Prop := ∃ y,o = some y ∧ Q y
theorem Ends.some {α : Type} {y : α} {Q : α → Prop} : Ends (some y) Q ↔ Q y := ⟨fun ⟨_,h,q⟩ => by obtain rfl := Option.some.inj h; exact q,fun q => ⟨y,rfl,q⟩⟩
theorem Ends.bind {α β : Type} {f : Option α} {K : α → Option β} {Q : α → Prop} {R : β → Prop} (h : Ends f Q) (k : ∀ y,Q y → Ends (K y) R) : Ends (f.bind K) R := by
 obtain ⟨y,rfl,q⟩ := h
 exact k y q
theorem Ends.map {α β : Type} {f : Option α} {K : α → β} {Q : α → Prop} {R : β → Prop} (h : Ends f Q) (k : ∀ y,Q y → R (K y)) : Ends (f.map K) R := by
 obtain ⟨y,rfl,q⟩ := h
 exact ⟨_,rfl,k y q⟩
theorem Ends.mono {α : Type} {f : Option α} {Q R : α → Prop} (h : Ends f Q) (k : ∀ y,Q y → R y) : Ends f R := by
 obtain ⟨y,e,q⟩ := h
 exact ⟨y,e,k y q⟩
def headK : SCode → List Nat
 | .region ks _ => ks
 | .drawn ks _ => ks
 | .seq a _ => headK a
 | .block _ b => headK b
 | .loop b => headK b
 | .scope b _ _ => headK b
 | _ => []
theorem kill_length : ∀ (ks : List Nat) (σ : List AV),(kill ks σ).length = σ.length
 | [],_ => rfl
 | k :: ks,σ => by rw [kill,kill_length ks]; simp
theorem kill_get : ∀ (ks : List Nat) (σ : List AV) (i : Nat),(kill ks σ)[i]? = if i ∈ ks ∧ i < σ.length then some .undef else σ[i]?
 | [],σ,i => by simp [kill]
 | k :: ks,σ,i => by
  rw [kill,kill_get ks]
  simp only [List.length_set,List.mem_cons,List.getElem?_set]
  by_cases h1 : i ∈ ks <;> by_cases h2 : i < σ.length <;> by_cases h3 : k = i <;> simp_all
  all_goals first
   | done
   | (intro h; exact absurd h.symm h3)
   | (simp [Ne.symm h3])
   | skip
theorem kill_kill (ks : List Nat) (σ : List AV) : kill ks (kill ks σ) = kill ks σ := by
 apply List.ext_getElem?
 intro i
 rw [kill_get,kill_length,kill_get]
 split <;> rfl
section
variable {T : FuncId → Option SFun} {X : Oracle}
end
end Go.A

namespace Go.A
open Go
abbrev ai (n : Int) : AV := .c (.int .i64 n)
abbrev ab (b : Bool) : AV := .c (.bool b)
abbrev nilS : AV := .c (.slice none 0 0)
section
variable (C : Oracle) (d : Option Nat) (σ : List AV) (H : Heap)
def pickV (c a b : AV) : Option AV := match c with
 | .c (.bool true) => some a
 | .c (.bool false) => some b
 | _ => none
theorem pickV_b (c : Bool) (a b : AV) : pickV (ab c) a b = some (if c = true then a else b) := by cases c <;> rfl
end
theorem wrap_i64 {n : Int} (h1 : -9223372036854775808 ≤ n) (h2 : n ≤ 9223372036854775807) : IntKind.i64.wrap n = n := by
 simp [IntKind.wrap,IntKind.bits,IntKind.signed]
 split <;> omega
theorem isBox_c (v : Value) : AV.isBox (.c v) = false := rfl
theorem isBox_undef  : AV.isBox .undef = false := rfl
theorem isBox_sl (r o l c z g : Nat) (e : Bool) : AV.isBox (.sl r o l c z g e) = false := rfl
theorem isBox_ptr (r o g : Nat) : AV.isBox (.ptr r o g) = false := rfl
theorem isBox_lptr (d o : Nat) : AV.isBox (.lptr d o) = false := rfl
theorem isBox_agg (xs : List AV) : AV.isBox (.agg xs) = false := rfl
theorem isBox_tup (xs : List AV) : AV.isBox (.tup xs) = false := rfl
theorem isBox_lbox (xs : List AV) : AV.isBox (.lbox xs) = true := rfl
attribute [simp] isBox_lbox isBox_c isBox_undef isBox_sl isBox_ptr isBox_lptr isBox_agg isBox_tup
theorem ev1_c (i : Nat) (v : Value) : ev1 i (.c v) = .c v := rfl
theorem ev1_sl (i r o l c z g : Nat) (e : Bool) : ev1 i (.sl r o l c z g e) = .sl r o l c z g e := rfl
theorem ev1_ptr (i r o g : Nat) : ev1 i (.ptr r o g) = .ptr r o g := rfl
theorem ev1_lptr (i d o : Nat) : ev1 i (.lptr d o) = .lptr d o := rfl
theorem ev1_lbox (i : Nat) (xs : List AV) : ev1 i (.lbox xs) = .lptr i 0 := rfl
theorem ev1_agg (i : Nat) (xs : List AV) : ev1 i (.agg xs) = .agg xs := rfl
theorem ev1_tup (i : Nat) (xs : List AV) : ev1 i (.tup xs) = .tup xs := rfl
theorem ev1_fn (i : Nat) (f : FuncId) (xs : List AV) : ev1 i (.fn f xs) = .fn f xs := rfl
attribute [simp] ev1_c ev1_sl ev1_ptr ev1_lptr ev1_lbox ev1_agg ev1_tup ev1_fn
section
variable (ek : EqK) (k : IntKind) (a b : Int)
theorem binA_add : binA .add ek (.c (.int k a)) (.c (.int k b)) = some (.c (.int k (k.wrap (a + b)))) := by simp [binA,intBin]
theorem binA_sub : binA .sub ek (.c (.int k a)) (.c (.int k b)) = some (.c (.int k (k.wrap (a - b)))) := by simp [binA,intBin]
theorem binA_mul : binA .mul ek (.c (.int k a)) (.c (.int k b)) = some (.c (.int k (k.wrap (a * b)))) := by simp [binA,intBin]
theorem binA_quo : binA .quo ek (.c (.int k a)) (.c (.int k b)) = if b = 0 then none else some (.c (.int k (k.wrap (a.tdiv b)))) := by simp [binA,intBin]
theorem binA_rem : binA .rem ek (.c (.int k a)) (.c (.int k b)) = if b = 0 then none else some (.c (.int k (a.tmod b))) := by simp [binA,intBin]
theorem binA_eql : binA .eql ek (.c (.int k a)) (.c (.int k b)) = some (ab (decide (a = b))) := by simp [binA,intBin]; rfl
theorem binA_neq : binA .neq ek (.c (.int k a)) (.c (.int k b)) = some (ab (decide (a ≠ b))) := by
 simp only [binA,intBin,if_true]
 by_cases h : a = b <;> simp [h]
theorem binA_lss : binA .lss ek (.c (.int k a)) (.c (.int k b)) = some (ab (decide (a < b))) := by simp [binA,intBin]
theorem binA_leq : binA .leq ek (.c (.int k a)) (.c (.int k b)) = some (ab (decide (a ≤ b))) := by simp [binA,intBin]
theorem binA_gtr : binA .gtr ek (.c (.int k a)) (.c (.int k b)) = some (ab (decide (a > b))) := by simp [binA,intBin]
theorem binA_geq : binA .geq ek (.c (.int k a)) (.c (.int k b)) = some (ab (decide (a ≥ b))) := by simp [binA,intBin]
theorem binA_shl (k' : IntKind) : binA .shl ek (.c (.int k a)) (.c (.int k' b)) = if b < 0 then none else some (.c (.int k (k.wrap (a * 2 ^ (Min.min b.toNat k.bits))))) := by simp [binA]
theorem binA_shr (k' : IntKind) : binA .shr ek (.c (.int k a)) (.c (.int k' b)) = if b < 0 then none else some (.c (.int k (a.fdiv (2 ^ (Min.min b.toNat k.bits))))) := by simp [binA]
theorem binA_neb (x y : Bool) : binA .neq .bool (ab x) (ab y) = some (ab (!(x == y))) := by simp [binA,eqv]
theorem unA_not (x : Bool) : unA .not (ab x) = some (ab (!x)) := rfl
end
attribute [simp] binA_add binA_sub binA_mul binA_quo binA_rem binA_eql binA_neq binA_lss binA_leq binA_gtr binA_geq binA_shl binA_shr binA_neb unA_not
attribute [simp] execW_seq execW_region execW_ret execW_skip execW_label execW_exit execW_goto execW_block execW_cond execW_scope
attribute [simp] runOps_nil runOps_0 kill_nil kill_L wanted_none wanted_L evalX_L evalX_k setD_L setD_none loadA_L loadA_ptr loadA_ptrk andThen AExit.ends resultsA resA unblock
attribute [simp] get_full get_n0 get_n1 get_n2 put_n0 put_n1 put_n2 put_full0 put_full1 put_full2 map_full map_n putAll L_getD L_map fold_full forget
attribute [simp] pickV_b intBin toCells AV.one AV.free AV.freeAll fromCells
attribute [simp low] get_put
attribute [simp] runD SOp.cls dstBox headK L_get L_set Ends.some
def dkeep (op : SOp) (d : Option Nat) (x : AV × List AV × Heap) : Option (List AV × Heap) := if x.1.isBox = true ∧ op.cls ≠ .eff then none else some (setD x.2.1 d x.1,x.2.2)
theorem dkeep_ok (op : SOp) (d : Option Nat) (v : AV) (σ : List AV) (H : Heap) : dkeep op d (v,σ,H) = if v.isBox = true then (if op.cls ≠ .eff then none else some (setD σ d v,H)) else some (setD σ d v,H) := by
 unfold dkeep
 cases h : v.isBox
 ·rw [if_neg (by simp),if_neg (by simp)]
 ·by_cases hc : op.cls ≠ .eff
  ·rw [if_pos ⟨rfl,hc⟩,if_pos rfl,if_pos hc]
  ·rw [if_neg (fun q => hc q.2),if_pos rfl,if_neg hc]
attribute [simp] dkeep_ok
theorem bind_left {α β : Type} {x y : Option α} (K : α → Option β) (h : x = y) : x.bind K = y.bind K := by rw [h]
theorem map_left {α β : Type} {x y : Option α} (K : α → β) (h : x = y) : x.map K = y.map K := by rw [h]
theorem ends_left {α : Type} {x y : Option α} (Q : α → Prop) (h : x = y) : Ends x Q = Ends y Q := by rw [h]
attribute [congr] bind_left map_left ends_left
end Go.A

namespace Go.A
open Go
end Go.A

namespace Go.A
open Go
end Go.A

namespace Go.A
open Go
theorem placeAll_nil (cs : List AV) : placeAll cs [] = some cs := rfl
theorem placeAll_cons (cs : List AV) (off k : Nat) (v : AV) (r : List (Nat × Nat × AV)) : placeAll cs ((off,k,v) :: r) = if (toCells v).length = k ∧ off + k ≤ cs.length ∧ (toCells v).all okCell = true then placeAll (cs.take off ++ toCells v ++ cs.drop (off + k)) r else none := rfl
theorem storeA_L (n : Nat) (t : Tr) (H : Heap) (k d i : Nat) (vs : List AV) : storeA (L n t) H (some k) (.lptr d i) (.agg vs) = if d < n then (match t.get (path d) with
  | .lbox xs => if AV.freeAll vs = true then (if vs.all okCell = true then (if vs.length = k ∧ i + k ≤ xs.length then some (L n (t.put (path d) (.lbox (xs.take i ++ vs ++ xs.drop (i + k)))),H) else none) else none) else none
  | _ => none) else none := by
 simp only [storeA,L_getD]
 by_cases h : d < n
 ·simp only [h,if_true,AV.free]
  cases t.get (path d) <;> simp only []
  rename_i xs
  by_cases h1 : AV.freeAll vs = true
  ·simp only [h1,if_true]
   by_cases h2 : vs.all okCell = true
   ·simp only [h2,if_true,putCells]
    by_cases h3 : vs.length = k ∧ i + k ≤ xs.length
    ·simp only [h3,and_self,if_true,Option.map_some,L_set]
    ·simp only [h3,if_false,Option.map_none]
   ·simp only [h2,if_false]; rfl
  ·simp only [h1,if_false]; rfl
 ·simp only [h,if_false]
theorem storeA_L1 (n : Nat) (t : Tr) (H : Heap) (d i : Nat) (v : AV) : storeA (L n t) H none (.lptr d i) v = if d < n then (match t.get (path d) with
  | .lbox xs => if v.free = true then (if v.one = true then (if i < xs.length then some (L n (t.put (path d) (.lbox (xs.set i v))),H) else none) else none) else none
  | _ => none) else none := by
 simp only [storeA,L_getD]
 by_cases h : d < n
 ·simp only [h,if_true]
  cases t.get (path d) <;> simp only []
  rename_i xs
  by_cases h1 : v.free = true
  ·simp only [h1,if_true]
   by_cases h2 : v.one = true
   ·simp only [h2,if_true]
    have : putCells none xs i v = if i < xs.length then some (xs.set i v) else none := by
     cases v <;> first | rfl | simp [AV.one] at h2
    rw [this]
    split <;> simp [L_set]
   ·simp only [h2,if_false]; rfl
  ·simp only [h1,if_false]; rfl
 ·simp only [h,if_false]
theorem ev1_nb {v : AV} (h : v.isBox = false) (n : Nat) : ev1 n v = v := by cases v <;> first | rfl | simp [AV.isBox] at h
attribute [simp] placeAll_nil placeAll_cons storeA_L storeA_L1
def elemV : Option Nat → List AV → AV
 | none,c :: _ => c
 | none,[] => .undef
 | some _,cs => .agg cs
end Go.A
namespace Go.A
open Go
section
variable (ks : List BK) (xs ys : List AV)
theorem binA_eqa : binA .eql (.agg ks) (.agg xs) (.agg ys) = if xs.length = ks.length ∧ ys.length = ks.length then (eqAll ks xs ys).map ab else none := by
 simp only [binA,eqv]
 split <;> rfl
theorem binA_nea : binA .neq (.agg ks) (.agg xs) (.agg ys) = if xs.length = ks.length ∧ ys.length = ks.length then (eqAll ks xs ys).map fun b => ab (!b) else none := by
 simp only [binA,eqv]
 split <;> rfl
theorem eqAll_i (a b : Int) : eqAll (.i :: ks) (ai a :: xs) (ai b :: ys) = if a = b then eqAll ks xs ys else some false := by
 simp only [eqAll,eqScalar,if_true]
 by_cases h : a = b
 ·simp [h]
 ·rw [if_neg h,show (a == b) = false by simp [h]]
end
theorem eqAll_ints : ∀ (xs ys : List Int),xs.length = ys.length → eqAll (List.replicate xs.length .i) (xs.map ai) (ys.map ai) = some (decide (xs = ys))
 | [],[],_ => rfl
 | x :: xs,y :: ys,h => by
  simp only [List.length_cons,List.replicate_succ,List.map_cons]
  rw [eqAll_i,eqAll_ints xs ys (by simpa using h)]
  by_cases hx : x = y <;> simp [hx]
theorem bits_i64 : IntKind.i64.bits = 64 := rfl
theorem bits_u64 : IntKind.u64.bits = 64 := rfl
theorem bits_u8 : IntKind.u8.bits = 8 := rfl
attribute [simp] bits_i64 bits_u64 bits_u8
attribute [simp] binA_eqa binA_nea eqAll_i
end Go.A
namespace Go.A
def SCode.sl : SCode → SCode
 | .seq a _ => a
 | s => s
end Go.A
namespace Go.A
open Go
end Go.A
namespace Go.A
end Go.A

namespace Go.A
open Go
theorem wrap_u64 {n : Int} (h1 : 0 ≤ n) (h2 : n ≤ 18446744073709551615) : IntKind.u64.wrap n = n := by
 simp [IntKind.wrap,IntKind.bits,IntKind.signed]
 omega
theorem wrap_u8 {n : Int} (h1 : 0 ≤ n) (h2 : n ≤ 255) : IntKind.u8.wrap n = n := by
 simp [IntKind.wrap,IntKind.bits,IntKind.signed]
 omega
end Go.A

namespace Go.A
open Go
end Go.A

namespace Go.A
open Go
theorem forget_c (d : Nat) (v : Value) : forget d (.c v) = .c v := rfl
theorem forget_undef (d : Nat) : forget d .undef = .undef := rfl
theorem forget_ptr (d r o g : Nat) : forget d (.ptr r o g) = .ptr r o g := rfl
theorem forget_lptr (d d' o : Nat) : forget d (.lptr d' o) = if d' = d then .undef else .lptr d' o := rfl
theorem forget_lbox (d : Nat) (xs : List AV) : forget d (.lbox xs) = .lbox xs := rfl
theorem forget_agg (d : Nat) (xs : List AV) : forget d (.agg xs) = .agg xs := rfl
theorem forget_tup (d : Nat) (xs : List AV) : forget d (.tup xs) = .tup xs := rfl
attribute [simp] forget_c forget_undef forget_ptr forget_lptr forget_lbox forget_agg forget_tup
end Go.A
