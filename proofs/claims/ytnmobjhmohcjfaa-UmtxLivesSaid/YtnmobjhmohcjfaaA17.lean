/- THE ABSTRACT MACHINE: whole calls are sound. -/
import Derived.Test.YtnmobjhmohcjfaaA16
set_option linter.unusedSimpArgs false
set_option linter.unusedVariables false
set_option linter.unnecessarySimpa false
namespace Go.A
open Go
variable {P : Program}
theorem mapM_some {α β : Type} {f : α → Option β} : ∀ {l : List α} {r : List β},l.mapM f = some r → r.length = l.length ∧ ∀ (i : Nat) (x : α),l[i]? = some x → ∃ y,r[i]? = some y ∧ f x = some y
 | [],r,h => by simp at h; subst h; simp
 | x :: l,r,h => by
  rw [List.mapM_cons] at h
  simp only [Option.bind_eq_bind,Option.pure_def] at h
  obtain ⟨y,hy,h⟩ := Option.bind_eq_some_iff.1 h
  obtain ⟨ys,hys,h⟩ := Option.bind_eq_some_iff.1 h
  obtain rfl := Option.some.inj h
  obtain ⟨h1,h2⟩ := mapM_some hys
  refine ⟨by simp [h1],fun i x' hx => ?_⟩
  cases i with
  | zero => simp at hx; subst hx; exact ⟨y,by simp,hy⟩
  | succ i => simpa using h2 i x' (by simpa using hx)
def resF (tmps : Array Value) : ResultVar → Sem Value
 | .tmp t => pure (tmps.getD t undef)
 | .cell a t => do loadVar t (← asAddr (tmps.getD a undef))
theorem results_eq (fn : Func) (tmps : Array Value) : results fn tmps = (do
  let vs ← fn.results.toList.mapM (resF tmps)
  pure (if h : vs.toArray.size = 1 then vs.toArray[0] else .tuple vs.toArray)) := by
 have : results fn tmps = (do
  let vs ← fn.results.mapM (resF tmps)
  pure (if h : vs.size = 1 then vs[0] else .tuple vs)) := rfl
 rw [this,Array.mapM_eq_mapM_toList]
 simp
theorem run_mapM {α : Type} {F : α → Sem Value} {w : World} : ∀ {l : List α} {us : List Value},us.length = l.length → (∀ (i : Nat) (x : α) (u : Value),l[i]? = some x → us[i]? = some u → (F x).run P w = .ok u w) → (l.mapM F).run P w = .ok us w
 | [],[],_,_ => by simp
 | x :: l,u :: us,h,k => by
  have h0 := k 0 x u (by simp) (by simp)
  have ih := run_mapM (F := F) (w := w) (l := l) (us := us) (by simpa using h) (fun i x' u' hx hu => k (i + 1) x' u' (by simpa using hx) (by simpa using hu))
  rw [List.mapM_cons]
  simp [Sem.run_bind,h0,Result.andThen,ih]
 | [],_ :: _,h,_ => by simp at h
 | _ :: _,[],h,_ => by simp at h
section
variable {L0 : Nat → Prop} {g : G} {H : Heap} {w : World} {σ : List AV} {a : Act}
theorem resA_rel (hs : StR L0 g H w σ a.tmps none) (hh : HeapR g H w) {r : ResultVar} {s : SRes} (hr : rRes P r = some s) {v : AV} (h : resA σ s = some v) (hf : v.free = true) :
  ∃ u,(resF a.tmps r).run P w = .ok u w ∧ VR g H w v u := by
 cases r with
 | tmp t =>
  simp only [rRes] at hr
  obtain rfl := Option.some.inj hr
  simp only [resA] at h
  obtain rfl := Option.some.inj h
  obtain ⟨h1,h2⟩ := evalX_rel hs (x := .tmp t) (sx := .t t) rfl
  exact ⟨a.eval (.tmp t),by simp [resF,Act.eval],h1⟩
 | cell d t =>
  simp only [rRes] at hr
  obtain ⟨k,hk,rfl⟩ := Option.map_eq_some_iff.1 hr
  simp only [resA] at h
  split at h
  ·rename_i xs hd
   have hd' : σ[d]? = some (.lbox xs) := by
    rw [List.getD_eq_getElem?_getD] at hd
    cases hx : σ[d]? with
    | none => rw [hx] at hd; simp at hd
    | some y => rw [hx] at hd; simp at hd; rw [hd]
   obtain ⟨u,hu,hsv⟩ := hs.slot d _ (by simp) hd'
   obtain ⟨rfl,hb⟩ := hsv
   obtain ⟨r,h1,h2,h3⟩ := loadA_rel (P := P) hs hh hk (X := .lptr d 0) (u := .pointer (some ⟨g.γ d,0,none⟩)) (v := v) (by simp [VR]) (by simp only [loadA,hd]; exact h)
   refine ⟨r,?_,h2⟩
   have e : a.tmps.getD d undef = .pointer (some ⟨g.γ d,0,none⟩) := by simp [Array.getD_eq_getD_getElem?,hu]
   simpa [resF,e,asAddr,Instr.loadAt,Instr.sureAddr] using h1
  ·simp at h
theorem results_rel (hs : StR L0 g H w σ a.tmps none) (hh : HeapR g H w) {fn : Func} {rs : List SRes} (hr : fn.results.toList.mapM (rRes P) = some rs) {v : AV} (h : resultsA rs σ = some v) (hf : v.free = true) :
  ∃ u,(results fn a.tmps).run P w = .ok u w ∧ VR g H w v u := by
 obtain ⟨hl,hget⟩ := mapM_some hr
 rw [results_eq]
 have one : ∀ s,rs = [s] → ∃ u,((do
  let vs ← fn.results.toList.mapM (resF a.tmps)
  pure (if h : vs.toArray.size = 1 then vs.toArray[0] else .tuple vs.toArray) : Sem Value)).run P w = .ok u w ∧ VR g H w v u := by
  rintro s rfl
  simp only [resultsA] at h
  simp at hl
  obtain ⟨r,hr1⟩ : ∃ r,fn.results.toList = [r] := List.length_eq_one_iff.1 (by simpa using hl.symm)
  obtain ⟨y,hy,hy2⟩ := hget 0 r (by rw [hr1]; rfl)
  obtain rfl : s = y := by simpa using hy
  obtain ⟨u,hu,hv⟩ := resA_rel hs hh hy2 h hf
  refine ⟨u,?_,hv⟩
  rw [hr1]
  simp [Sem.run_bind,hu,Result.andThen]
 by_cases h1 : ∃ s,rs = [s]
 ·obtain ⟨s,hs'⟩ := h1; exact one s hs'
 ·have h' : (rs.mapM (resA σ)).map .tup = some v := by
   unfold resultsA at h
   split at h
   ·exact (h1 ⟨_,rfl⟩).elim
   ·exact h
  obtain ⟨vs,hvs,rfl⟩ := Option.map_eq_some_iff.1 h'
  obtain ⟨hl2,hget2⟩ := mapM_some hvs
  have hall : ∀ (i : Nat),i < fn.results.toList.length → ∃ u,(∀ r,fn.results.toList[i]? = some r → (resF a.tmps r).run P w = .ok u w) ∧ ∀ y,vs[i]? = some y → VR g H w y u := by
   intro i hi
   obtain ⟨r,hr1⟩ : ∃ r,fn.results.toList[i]? = some r := ⟨_,List.getElem?_eq_getElem hi⟩
   obtain ⟨s,hs1,hs2⟩ := hget i r hr1
   obtain ⟨y,hy1,hy2⟩ := hget2 i s hs1
   obtain ⟨u,hu,hv⟩ := resA_rel hs hh hs2 hy2 (free_get (by simpa [AV.free] using hf) hy1)
   exact ⟨u,fun r' hr' => by rw [hr1] at hr'; obtain rfl := Option.some.inj hr'; exact hu,fun y' hy' => by rw [hy1] at hy'; obtain rfl := Option.some.inj hy'; exact hv⟩
  have hex : ∃ us : List Value,us.length = fn.results.toList.length ∧ ∀ (i : Nat) (u : Value),us[i]? = some u → (∀ r,fn.results.toList[i]? = some r → (resF a.tmps r).run P w = .ok u w) ∧ ∀ y,vs[i]? = some y → VR g H w y u := by
   refine ⟨List.ofFn (n := fn.results.toList.length) fun i => (hall i.1 i.2).choose,by simp,fun i u hu => ?_⟩
   rw [List.getElem?_ofFn] at hu
   split at hu
   ·rename_i hi
    obtain rfl := Option.some.inj hu
    exact (hall i hi).choose_spec
   ·simp at hu
  obtain ⟨us,hus,hu⟩ := hex
  have hrun := run_mapM (P := P) (w := w) (F := resF a.tmps) hus (fun i x u hx hu' => (hu i u hu').1 x hx)
  refine ⟨.tuple us.toArray,?_,?_⟩
  ·have hne : ¬ us.length = 1 := by
    intro e
    apply h1
    exact List.length_eq_one_iff.1 (by rw [hl,← hus,e])
   simp [Sem.run_bind,hrun,Result.andThen,hne]
  ·simp only [VR]
   refine ⟨_,rfl,?_⟩
   exact vrs_of (by rw [hl2,hl,← hus]) (fun i x v hx hv => (hu i v (by simpa using hv)).2 x hx)
theorem keeps_gamma (g : G) (H : Heap) (w : World) (γ : Nat → Nat) : Keeps g H w { g with γ := γ } H w where
 addr := fun r k b o ha => ⟨o,⟨ha.at_,ha.isRow,ha.le,ha.fixed,ha.top,ha.far,ha.same⟩,fun e => ⟨e,Nat.le_refl _⟩⟩
 lone := fun b h => ⟨h,rfl⟩
theorem heap_gamma (hr : HeapR g H w) (γ : Nat → Nat) : HeapR { g with γ := γ } H w where
 inj := hr.inj
 lt := hr.lt
 nloc := hr.nloc
 bsz0 := hr.bsz0
 n0 := hr.n0
 new := hr.new
 locb := hr.locb
 row := fun r o h1 h2 => by
  obtain ⟨q1,q2,c,e,fr,q3⟩ := hr.row r o h1 h2
  exact ⟨q1,q2,c,e,fr,q3.keeps (keeps_gamma g H w γ) rfl⟩
theorem ext_gamma {g' : G} {H' : Heap} {w' : World} (h : Ext g H w g' H' w') (γ : Nat → Nat) : Ext g H w { g' with γ := γ } H' w' where
 n0 := h.n0
 size := h.size
 os := h.os
 tape := h.tape
 output := h.output
 len := h.len
 old := h.old
 loc := h.loc
 loc' := h.loc'
 vr := fun a v hf hv => vr_keeps (keeps_gamma g' H' w' γ) a v hf (h.vr a v hf hv)
theorem StR.enter {args : List AV} {vs : List Value} (hf : AV.freeAll args = true) (hv : VRs g H w args vs) (n : Nat) : StR g.loc g H w (slots0 n args) (vs.toArray ++ Array.replicate (n - vs.toArray.size) undef) none where
 len := by
  have := vrs_length hv
  simp [slots0,this]
 slot := fun d a _ hd => by
  have hl := vrs_length hv
  unfold slots0 at hd
  by_cases e : d < args.length
  ·rw [List.getElem?_append_left e] at hd
   obtain ⟨v,h1,h2⟩ := vrs_get hv hd
   refine ⟨v,?_,SV.of_vr h2 (.inl (free_get hf hd))⟩
   rw [Array.getElem?_append_left (by simp; omega)]
   simpa using h1
  ·rw [List.getElem?_append_right (by omega),List.getElem?_replicate] at hd
   split at hd
   ·rename_i h1
    obtain rfl := Option.some.inj hd
    refine ⟨undef,?_,by simp [SV,VR,AV.free]⟩
    rw [Array.getElem?_append_right (by simp; omega),Array.getElem?_replicate,if_pos (by simp; omega)]
   ·simp at hd
 sep := fun d d' xs ys _ _ _ hd => by
  exfalso
  unfold slots0 at hd
  by_cases e : d < args.length
  ·rw [List.getElem?_append_left e] at hd
   have := free_get hf hd
   simp [AV.free] at this
  ·rw [List.getElem?_append_right (by omega),List.getElem?_replicate] at hd
   split at hd <;> simp at hd
 own := fun d xs _ hd => by
  exfalso
  unfold slots0 at hd
  by_cases e : d < args.length
  ·rw [List.getElem?_append_left e] at hd
   have := free_get hf hd
   simp [AV.free] at this
  ·rw [List.getElem?_append_right (by omega),List.getElem?_replicate] at hd
   split at hd <;> simp at hd
 outer := fun b hb => hb
end
theorem resolveF_isFn {ann : Ann} {f : FuncId} {s : SFun} (h : resolveF P ann f = some s) : isFn P f = true ∧ ∃ fn c,P.funcs[f]? = some fn ∧ fn.body = some c ∧ resolve P ann c = some s.body ∧ fn.ntmps = s.nslots ∧ fn.results.toList.mapM (rRes P) = some s.res := by
 unfold resolveF at h
 split at h
 ·simp at h
 ·rename_i hn
  obtain ⟨fn,hfn,h⟩ := Option.bind_eq_some_iff.1 h
  obtain ⟨c,hc,h⟩ := Option.bind_eq_some_iff.1 h
  obtain ⟨b,hb,h⟩ := Option.bind_eq_some_iff.1 h
  obtain ⟨rs,hrs,h⟩ := Option.map_eq_some_iff.1 h
  subst h
  exact ⟨by simpa using hn,fn,c,hfn,hc,hb,rfl,hrs⟩
theorem body_sound {C : Oracle} (hC : SoundO P C) (hmix : P.follows .mixedOrders = true) {ann : Ann} {f : FuncId} {s : SFun} (hr : resolveF P ann f = some s) {k : Nat} {args : List AV} {H : Heap} {st : St} (h : exec C k s.body (slots0 s.nslots args) H = some st) (he : st.e.ends = true) {v : AV} (hv : resultsA s.res st.σ = some v) (hf : v.free = true) : SoundCall P f args H v st.H := by
 intro haf g w vs hh hvs
 obtain ⟨_,fn,c,hfn,hc,hb,hn,hres⟩ := resolveF_isFn hr
 refine calls_of_wp hfn hc ?_
 rw [hn]
 have h0 := StR.enter (w := w) haf hvs s.nslots
 refine Code.wp_mono ?_ (exec_sound hC hmix k s.body c hb g.loc g H w (slots0 s.nslots args) { tmps := vs.toArray ++ Array.replicate (s.nslots - vs.toArray.size) undef,defers := [] } st h h0 hh)
 rintro e a' w' ⟨rfl,g',q1,q2,q3,q4,q5⟩
 obtain ⟨u,hu,hvr⟩ := results_rel (P := P) q1 q2 hres hv hf
 have fin : a'.defers = [] ∧ ∃ x,(results fn a'.tmps).run P w' = .ok x w' ∧ ∃ g' u,Ending.returned x = .returned u ∧ v.free = true ∧ VR g' st.H w' v u ∧ HeapR g' st.H w' ∧ Ext g H w g' st.H w' ∧ g'.γ = g.γ ∧ ∀ b,g.loc b → w'.heap[b]? = w.heap[b]? :=
  ⟨q5,u,hu,{ g' with γ := g.γ },u,rfl,hf,vr_keeps (keeps_gamma g' st.H w' g.γ) v u hf hvr,heap_gamma q2 g.γ,ext_gamma q3 g.γ,rfl,q4⟩
 cases hst : st.e with
 | normal => exact fin
 | ret => exact fin
 | exit _ => rw [hst] at he; simp [AExit.ends] at he
 | goto _ => rw [hst] at he; simp [AExit.ends] at he
theorem callN_sound {T : FuncId → Option SFun} {X : Oracle} (hT : ∀ f s,T f = some s → ∃ ann,resolveF P ann f = some s) (hX : SoundO P X) (hmix : P.follows .mixedOrders = true) : ∀ n,SoundO P (callN T X n)
 | 0 => fun f args H v H' h => by simp [callN] at h
 | n + 1 => fun f args H v H' h => by
  simp only [callN] at h
  split at h
  ·rename_i y hy
   obtain rfl := Option.some.inj h
   exact hX f args H v H' hy
  ·obtain ⟨s,hs,h⟩ := Option.bind_eq_some_iff.1 h
   obtain ⟨st,hst,h⟩ := Option.bind_eq_some_iff.1 h
   split at h
   ·rename_i he
    obtain ⟨v',hv,h⟩ := Option.bind_eq_some_iff.1 h
    split at h
    ·rename_i hf
     simp only [Option.some.injEq,Prod.mk.injEq] at h
     obtain ⟨rfl,rfl⟩ := h
     obtain ⟨ann,hr⟩ := hT f s hs
     exact ⟨(resolveF_isFn hr).1,body_sound (callN_sound hT hX hmix n) hmix hr hst he hv hf⟩
    ·simp at h
   ·simp at h
end Go.A
