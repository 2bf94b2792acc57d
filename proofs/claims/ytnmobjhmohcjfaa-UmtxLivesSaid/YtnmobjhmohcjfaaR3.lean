/- What a row's arguments are, as values of the value machine: whole numbers, truths, strings, slices, structs, one within the other. -/
import Derived.Test.YtnmobjhmohcjfaaV12
import Derived.Test.YtnmobjhmohcjfaaME
set_option linter.unusedSimpArgs false
set_option linter.unusedVariables false
set_option linter.unnecessarySimpa false
namespace Go.A.V
open Go Go.A Go.RowKit
inductive CT where
 | i (k : IntKind)
 | b
 | s
 | sl (ts : List CT)
mutual
def CT.is : CT → AV → Prop
 | .i k,v => ∃ z,v = .c (.int k z) ∧ (Lit.int k z).wf = true
 | .b,v => ∃ x,v = .c (.bool x)
 | .s,v => ∃ x : ByteArray,v = .c (.string x)
 | .sl ts,v => ∃ z l,v = lst z ts.length none l ∧ ∀ cs ∈ l,CT.iss ts cs
def CT.iss : List CT → List AV → Prop
 | [],cs => cs = []
 | t :: ts,cs => ∃ c r,cs = c :: r ∧ t.is c ∧ CT.iss ts r
end
theorem iss_len : ∀ {ts : List CT} {cs : List AV},CT.iss ts cs → cs.length = ts.length
 | [],cs,h => by simp only [CT.iss] at h; subst h; rfl
 | t :: ts,cs,h => by
  simp only [CT.iss] at h
  obtain ⟨c,r,rfl,_,h2⟩ := h
  simp [iss_len h2]
theorem is_ok {t : CT} {v : AV} (h : t.is v) : okCell v = true := by
 cases t with
 | i k => simp only [CT.is] at h; obtain ⟨z,rfl,_⟩ := h; rfl
 | b => simp only [CT.is] at h; obtain ⟨z,rfl⟩ := h; rfl
 | s => simp only [CT.is] at h; obtain ⟨z,rfl⟩ := h; rfl
 | sl ts =>
  simp only [CT.is] at h
  obtain ⟨z,l,rfl,_⟩ := h
  rcases lst_cases z ts.length none l with ⟨_,_,e⟩ | ⟨e,_⟩ <;> rw [e] <;> rfl
theorem iss_ok : ∀ {ts : List CT} {cs : List AV},CT.iss ts cs → cs.all okCell = true
 | [],cs,h => by simp only [CT.iss] at h; subst h; rfl
 | t :: ts,cs,h => by
  simp only [CT.iss] at h
  obtain ⟨c,r,rfl,h1,h2⟩ := h
  simp [is_ok h1,iss_ok h2]
theorem iss_app : ∀ {ts us : List CT} {a b : List AV},CT.iss ts a → CT.iss us b → CT.iss (ts ++ us) (a ++ b)
 | [],us,a,b,h,k => by simp only [CT.iss] at h; subst h; exact k
 | t :: ts,us,a,b,h,k => by
  simp only [CT.iss] at h
  obtain ⟨c,r,rfl,h1,h2⟩ := h
  simp only [List.cons_append,CT.iss]
  exact ⟨c,_,rfl,h1,iss_app h2 k⟩
def flats (P : Program) (g : TypeId → Option (List CT)) : List Field → Nat → Option (List CT)
 | [],_ => some []
 | f :: r,o => if f.offset = o then (g f.type).bind fun ts => if P.cellsOf f.type = ts.length then (flats P g r (o + ts.length)).map (ts ++ ·) else none else none
def flat (P : Program) : Nat → TypeId → Option (List CT)
 | 0,_ => none
 | n + 1,t => match P.underlying t with
  | some (.int k) => some [.i k]
  | some .bool => some [.b]
  | some .string => some [.s]
  | some (.slice e) => (flat P n e).bind fun ts => if P.cellsOf e = ts.length ∧ ts.isEmpty = false then some [.sl ts] else none
  | some (.struct fs) => (flats P (flat P n) fs.toList 0).bind fun ts => if P.cellsOf t = ts.length then some ts else none
  | _ => none
def gv (M : Heap) : Gh := ⟨fun _ => none,0,M⟩
theorem gv_far (M : Heap) (r : Nat) : Far (gv M) r := fun q h => by simp [gv] at h
theorem gv_hr (M : Heap) : HR (gv M) [] := ⟨rfl,fun r r' h => by simp [gv] at h,fun r q r' h => by simp [gv] at h,fun r o h => by simp at h⟩
section
variable {H : Type} {enc : TypeId × Value → H} {P : Program} {w : World}
theorem rvs_one {g : Gh} {κ : Nat → Option Nat} {v a : AV} (h : RV g κ v a) : RVs g κ [v] [a] := by simp only [RVs]; exact ⟨a,[],rfl,h,rfl⟩
theorem absV_slice0 (w : World) (a : Addr) : ∃ r off sz g,absV w (.slice (some a) 0 0) = .sl r off 0 0 sz g true := by
 obtain ⟨b,i,sp⟩ := a
 cases sp with
 | some s => exact ⟨0,0,0,0,by simp [absV]⟩
 | none =>
  cases h : w.heap[b]? with
  | none => exact ⟨0,0,0,0,by simp [absV,h]⟩
  | some o => cases o <;> first | exact ⟨_,_,_,_,absV_slice h⟩ | exact ⟨0,0,0,0,by simp [absV,h]⟩
theorem take_add' {α : Type} (l : List α) (a b : Nat) : l.take (a + b) = l.take a ++ (l.drop a).take b := List.take_add
theorem cells_at {b off : Nat} {n : Nat} {cs : List Value} {c : Array Value} {ty : TypeId} {fr : Nat × Nat} (hb : w.heap[b]? = some (.cells c ty fr)) (h : w.cells? 0 ⟨b,off,none⟩ n = some cs) : (c.toList.drop off).take n = cs ∧ (0 < n → off + n ≤ c.size) := by
 obtain ⟨_,hl,hcell⟩ := World.cells?_some h
 have hcl : ∀ j,j < n → c[off + j]? = cs[j]? := fun j hj => by
  have := hcell j hj
  have hadd : ((⟨b,off,none⟩ : Addr).add j) = ⟨b,off + j,none⟩ := by
   unfold Addr.add
   by_cases h1 : j = 0 <;> simp [h1]
  rw [hadd] at this
  simpa [World.cell?,hb] using this
 refine ⟨?_,fun h0 => ?_⟩
 ·apply List.ext_getElem?
  intro j
  by_cases hj : j < n
  ·rw [List.getElem?_take,if_pos hj,List.getElem?_drop,← hcl j hj]
   simp
  ·rw [List.getElem?_eq_none (by simp; omega),List.getElem?_eq_none (by omega)]
 ·have := hcl (n - 1) (by omega)
  rw [List.getElem?_eq_getElem (by omega)] at this
  have := (Array.getElem?_eq_some_iff.1 this).1
  omega
theorem flats_open {g : TypeId → Option (List CT)} {fuel : Nat} {cs : List Value}
  (hg : ∀ t ts cs x,g t = some ts → DataW.trod enc P w 0 (fun _ => true) true fuel t cs = some x → ∃ vs,CT.iss ts vs ∧ RVs (gv (absW w)) no vs (cs.map (absV w))) :
  ∀ (l : List Field) (o : Nat) (ts : List CT),flats P g l o = some ts → (∀ f ∈ l,∃ x,DataW.trod enc P w 0 (fun _ => true) true fuel f.type ((cs.drop f.offset).take (P.cellsOf f.type)) = some x) →
   ∃ vs,CT.iss ts vs ∧ RVs (gv (absW w)) no vs (((cs.drop o).take ts.length).map (absV w))
 | [],o,ts,h,_ => by
  simp only [flats,Option.some.injEq] at h
  subst h
  exact ⟨[],by simp only [CT.iss],by simp [RVs]⟩
 | f :: r,o,ts,h,hx => by
  rw [flats] at h
  split at h
  ·rename_i ho
   obtain ⟨us,h1,h⟩ := Option.bind_eq_some_iff.1 h
   split at h
   ·rename_i hc
    obtain ⟨rs,h2,rfl⟩ := Option.map_eq_some_iff.1 h
    obtain ⟨x,hx1⟩ := hx f (by simp)
    rw [ho,hc] at hx1
    obtain ⟨a,a1,a2⟩ := hg _ _ _ _ h1 hx1
    obtain ⟨b,b1,b2⟩ := flats_open hg r (o + us.length) rs h2 (fun f hf => hx f (by simp [hf]))
    refine ⟨a ++ b,iss_app a1 b1,?_⟩
    rw [List.length_append,take_add',List.map_append,List.drop_drop]
    exact rvs_append a2 b2
   ·simp at h
  ·simp at h
theorem open_cells : ∀ (n : Nat) (t : TypeId) (ts : List CT) (fuel : Nat) (cs : List Value) (x : DataW H × List MemPlace),flat P n t = some ts → DataW.trod enc P w 0 (fun _ => true) true fuel t cs = some x →
  ∃ vs,CT.iss ts vs ∧ RVs (gv (absW w)) no vs (cs.map (absV w))
 | 0,_,_,_,_,_,h,_ => by simp [flat] at h
 | n + 1,t,ts,fuel,cs,x,h,hx => by
  rw [flat] at h
  split at h
  ·rename_i k ht
   obtain rfl := Option.some.inj h
   obtain ⟨z,rfl,_,hw⟩ := DataW.trod_int ht hx
   exact ⟨[.c (.int k z)],by simp only [CT.iss,CT.is]; exact ⟨_,_,rfl,⟨z,rfl,hw⟩,rfl⟩,rvs_one (by simp only [RV]; rfl)⟩
  ·rename_i ht
   obtain rfl := Option.some.inj h
   obtain ⟨z,rfl,_⟩ := DataW.trod_bool ht hx
   exact ⟨[.c (.bool z)],by simp only [CT.iss,CT.is]; exact ⟨_,_,rfl,⟨z,rfl⟩,rfl⟩,rvs_one (by simp only [RV]; rfl)⟩
  ·rename_i ht
   obtain rfl := Option.some.inj h
   obtain ⟨z,rfl,_⟩ := DataW.trod_string ht hx
   exact ⟨[.c (.string z)],by simp only [CT.iss,CT.is]; exact ⟨_,_,rfl,⟨z,rfl⟩,rfl⟩,rvs_one (by simp only [RV]; rfl)⟩
  ·rename_i e ht
   obtain ⟨us,h1,h⟩ := Option.bind_eq_some_iff.1 h
   split at h
   case isFalse => simp at h
   rename_i hce
   obtain ⟨hc,hne⟩ := hce
   obtain rfl := Option.some.inj h
   have hk : 0 < us.length := by cases us <;> simp_all
   rcases Go.Deep.open_slice ht hx with ⟨rfl,_⟩ | ⟨a,len,cap,m,n',D,Pl,rfl,_,hlc,_,hm,_,hel⟩
   ·exact ⟨[nilS],by simp only [CT.iss,CT.is]; exact ⟨_,_,rfl,⟨true,[],rfl,by simp⟩,rfl⟩,rvs_one (by simp only [RV]; rfl)⟩
   ·simp only [if_true] at hm
    subst hm
    rw [hc] at hel
    by_cases h0 : m = 0
    ·subst h0
     obtain rfl : len = 0 := by omega
     obtain ⟨r,off,sz,g,e1⟩ := absV_slice0 w a
     refine ⟨[.vs us.length none []],by simp only [CT.iss,CT.is]; exact ⟨_,_,rfl,⟨false,[],rfl,by simp⟩,rfl⟩,rvs_one ?_⟩
     rw [e1]
     simp only [RV]
     exact ⟨r,off,0,sz,g,true,rfl,by simp,by simp,by simp,fun h => (h rfl).elim,fun c hc => by simp at hc⟩
    ·obtain ⟨b,off,sp⟩ := a
     have hblk : ∃ c ty fr,w.heap[b]? = some (.cells c ty fr) ∧ sp = none := by
      obtain ⟨cs',c1,_⟩ := hel 0 (by omega)
      obtain ⟨_,hl,hcell⟩ := World.cells?_some c1
      have := hcell 0 hk
      rw [List.getElem?_eq_getElem (by omega)] at this
      simp only [Nat.zero_mul,World.cell?] at this
      have hadd : (((⟨b,off,sp⟩ : Addr).add 0).add 0) = ⟨b,off,sp⟩ := by simp [Addr.add]
      rw [hadd] at this
      split at this
      ·rename_i c ty fr hb
       split at this
       ·simp at this
       ·rename_i hs
        refine ⟨c,ty,fr,hb,?_⟩
        cases sp with
        | none => rfl
        | some s => simp at hs
      ·simp at this
     obtain ⟨c,ty,fr,hb,rfl⟩ := hblk
     obtain ⟨f,hf⟩ := Go.Deep.choose_lt (p := fun i (vs : List AV) => CT.iss us vs ∧ RVs (gv (absW w)) no vs (((c.toList.drop (off + i * us.length)).take us.length).map (absV w)) ∧ off + i * us.length + us.length ≤ c.size) (n := len) (fun i hi => by
      obtain ⟨cs',c1,c2⟩ := hel i (by omega)
      have hadd : ((⟨b,off,none⟩ : Addr).add (i * us.length)) = ⟨b,off + i * us.length,none⟩ := by
       unfold Addr.add
       by_cases h0 : i * us.length = 0 <;> simp [h0]
      rw [hadd] at c1
      obtain ⟨q1,q2⟩ := cells_at hb c1
      obtain ⟨vs,v1,v2⟩ := open_cells n e us n' cs' _ h1 c2
      rw [q1]
      exact ⟨vs,v1,v2,q2 hk⟩)
     have hfl : ∀ j,j ≤ len → RVs (gv (absW w)) no ((List.range j).map f).flatten (((c.toList.drop off).take (j * us.length)).map (absV w)) := by
      intro j
      induction j with
      | zero => intro _; simp [RVs]
      | succ j ih =>
       intro hj
       rw [List.range_succ,List.map_append,List.flatten_append,Nat.add_mul,Nat.one_mul,take_add',List.map_append,List.drop_drop]
       refine rvs_append (ih (by omega)) ?_
       simpa using (hf j (by omega)).2.1
     refine ⟨[.vs us.length none ((List.range len).map f)],?_,rvs_one ?_⟩
     ·simp only [CT.iss,CT.is]
      refine ⟨_,_,rfl,⟨false,_,rfl,fun cs' hcs => ?_⟩,rfl⟩
      obtain ⟨i,hi,rfl⟩ := List.mem_map.1 hcs
      exact (hf i (by simpa using hi)).1
     ·rw [absV_slice hb]
      simp only [RV]
      refine ⟨b,off,m,0,c.size,true,by simp,by simpa using hlc,rfl,fun cs' hcs => ?_,fun hl => ⟨gv_far _ _,_,?_,rvss_rvs.2 (hfl len (Nat.le_refl _))⟩,fun c hc => by simp at hc⟩
      ·obtain ⟨i,hi,rfl⟩ := List.mem_map.1 hcs
       have := (hf i (by simpa using hi)).1
       exact ⟨iss_len this,iss_ok this⟩
      ·have hlen : 0 < len := by
        cases len with
        | zero => simp at hl
        | succ n => omega
       have hin := (hf (len - 1) (by omega)).2.2
       have hmul : (len - 1) * us.length + us.length = len * us.length := by
        rw [← Nat.succ_mul]; congr 1; omega
       simp only [gv,rdRow,absW_get hb,AObj.isRow,AObj.lo,AObj.cells,List.length_map,Array.length_toList,List.length_range]
       rw [if_pos ⟨trivial,Nat.zero_le _,by omega,Nat.le_refl _⟩,List.map_take,List.map_drop]
  ·rename_i fs ht
   obtain ⟨us,h1,h⟩ := Option.bind_eq_some_iff.1 h
   split at h
   case isFalse => simp at h
   rename_i hc
   obtain rfl := Option.some.inj h
   obtain ⟨xs,n',_,_,hl,hxl,hall⟩ := DataW.trod_struct ht hx
   obtain ⟨vs,v1,v2⟩ := flats_open (enc := enc) (w := w) (fuel := n') (cs := cs) (fun t ts cs x e1 e2 => open_cells n t ts n' cs x e1 e2) fs.toList 0 us h1 (fun f hf => by
    obtain ⟨i,hi⟩ := List.getElem?_of_mem hf
    have hi' : fs[i]? = some f := by simpa using hi
    have := hall i f hi'
    have hil : i < fs.size := by
     have := (List.getElem?_eq_some_iff.1 hi).1; simpa using this
    rw [List.getElem?_eq_getElem (by omega)] at this
    exact ⟨_,this⟩)
   refine ⟨vs,v1,?_⟩
   rw [List.drop_zero,List.take_of_length_le (by omega)] at v2
   exact v2
  ·simp at h
theorem open_agg {t : TypeId} {n : Nat} {ts : List CT} {cs : Array Value} {d : DataW H} {ps : List MemPlace} (hf : flat P n t = some ts) (hT : DataW.Trod enc P w 0 (fun _ => true) true t (.agg cs) d ps) :
  ∃ vs,CT.iss ts vs ∧ RV (gv (absW w)) no (.agg vs) (absA w (.agg cs)) := by
 obtain ⟨m,hm⟩ := hT
 have hc : (Value.agg cs).cells.toList = cs.toList := rfl
 rw [hc] at hm
 obtain ⟨vs,h1,h2⟩ := open_cells n t ts _ _ _ hf hm
 exact ⟨vs,h1,by simp only [RV]; exact ⟨_,rfl,h2⟩⟩
theorem open_cell {t : TypeId} {n : Nat} {tc : CT} {r : Go.Reach} {b0 : Nat} {v : Value} {d : DataW H} {ps : List MemPlace} (hf : flat P n t = some [tc]) (hs : (match P.underlying t with | some (.struct _) => false | some (.array _ _) => false | _ => true) = true) (hok : Value.okWide P w r b0 t v) (hT : DataW.Trod enc P w 0 (fun _ => true) true t v d ps) :
  ∃ c,tc.is c ∧ RV (gv (absW w)) no c (absA w v) := by
 obtain ⟨m,hm⟩ := hT
 have hna : ∀ cs,v ≠ .agg cs := fun cs e => by
  subst e
  cases n with
  | zero => simp [flat] at hf
  | succ n =>
  rw [flat] at hf
  unfold Value.okWide at hok
  split at hf
  all_goals first | (rename_i ht; rw [ht] at hok hs; simp [Cell.okWide,Cell.ok,ht] at hok hs; done) | skip
  ·simp at hf
 have hc : v.cells.toList = [v] := by cases v <;> first | rfl | exact (hna _ rfl).elim
 rw [hc] at hm
 obtain ⟨vs,h1,h2⟩ := open_cells n t _ _ _ _ hf hm
 simp only [CT.iss] at h1
 obtain ⟨c,r,rfl,h3,rfl⟩ := h1
 simp only [List.map_cons,List.map_nil,RVs,List.cons.injEq] at h2
 obtain ⟨a,r,⟨rfl,rfl⟩,h4,_⟩ := h2
 refine ⟨c,h3,?_⟩
 have : absA w v = absV w v := by cases v <;> first | rfl | exact (hna _ rfl).elim
 rw [this]
 exact h4
theorem vlaw_calls {p : VP} {T : FuncId → Option SFun} {X : Oracle} (hp : Fits p T X) (hC : SoundO P (A.callW T X)) {f : FuncId} {vs : List Value} {as : List AV} {H' : Heap} {b : Bool}
  (ha : RVs (gv (absW w)) no as (vs.map (absA w))) (h : callW p f as [] = some (.c (.bool b),H')) :
  Calls P f vs.toArray w fun e w' => e = .returned (.bool b) ∧ Below w.heap.size w w' := by
 obtain ⟨a,g',κ',h1,_,_,h2,_⟩   := callW_sim p hp _ _ _ _ _ h (gv (absW w)) _ (gv_hr _) ha
 have := rv_c h2
 subst this
 exact law_calls hC h1
end
end Go.A.V
