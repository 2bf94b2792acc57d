/- THE ABSTRACT MACHINE: what its slots say of a frame, and operations without memory. -/
import Derived.Test.YtnmobjhmohcjfaaA3
set_option linter.unusedSimpArgs false
set_option linter.unusedVariables false
set_option linter.unnecessarySimpa false
namespace Go.A
open Go
variable {P : Program}
def AV.isL : AV → Bool
  | .lptr _ _ => true
  | _ => false
def BoxR (g : G) (H : Heap) (w : World) (b : Nat) (xs : List AV) : Prop := ∃ c e fr,CellsR g H w b xs True c e fr
def SV (g : G) (H : Heap) (w : World) (d : Nat) : AV → Value → Prop
  | .lbox xs,v => v = .pointer (some ⟨g.γ d,0,none⟩) ∧ BoxR g H w (g.γ d) xs
  | a,v => VR g H w a v ∧ (a.free = true ∨ a.isL = true)
structure StR (L0 : Nat → Prop) (g : G) (H : Heap) (w : World) (σ : List AV) (tmps : Array Value) (x : Option Nat) : Prop where
  len : σ.length = tmps.size
  slot : ∀ (d : Nat) (a : AV),x ≠ some d → σ[d]? = some a → ∃ v : Value,tmps[d]? = some v ∧ SV g H w d a v
  sep : ∀ (d d' : Nat) (xs ys : List AV),x ≠ some d → x ≠ some d' → d ≠ d' → σ[d]? = some (.lbox xs) → σ[d']? = some (.lbox ys) → g.γ d ≠ g.γ d'
  own : ∀ (d : Nat) (xs : List AV),x ≠ some d → σ[d]? = some (.lbox xs) → g.loc (g.γ d) ∧ ¬ L0 (g.γ d)
  outer : ∀ b,L0 b → g.loc b
theorem StR.weak {L0 : Nat → Prop} {g : G} {H : Heap} {w : World} {σ : List AV} {tmps : Array Value} (h : StR L0 g H w σ tmps none) (x : Option Nat) : StR L0 g H w σ tmps x :=
  ⟨h.len,fun d a _ => h.slot d a (by simp),fun d d' xs ys _ _ => h.sep d d' xs ys (by simp) (by simp),fun d xs _ => h.own d xs (by simp),h.outer⟩
def ValR (L0 : Nat → Prop) (g : G) (H : Heap) (w : World) (σ : List AV) (x : Option Nat) : AV → Value → Prop
  | .lbox xs,v => ∃ d,x = some d ∧ v = .pointer (some ⟨g.γ d,0,none⟩) ∧ BoxR g H w (g.γ d) xs ∧ g.loc (g.γ d) ∧ ¬ L0 (g.γ d) ∧ ∀ (d' : Nat) (ys : List AV),d' ≠ d → σ[d']? = some (.lbox ys) → g.γ d' ≠ g.γ d
  | a,v => VR g H w a v ∧ (a.free = true ∨ a.isL = true)
theorem ValR.of_vr {L0 : Nat → Prop} {g : G} {H : Heap} {w : World} {σ : List AV} {x : Option Nat} {a : AV} {v : Value} (h : VR g H w a v) (hf : a.free = true ∨ a.isL = true) : ValR L0 g H w σ x a v := by
  cases a <;> first | exact ⟨h,hf⟩ | (simp only [VR] at h)
theorem SV.of_vr {g : G} {H : Heap} {w : World} {d : Nat} {a : AV} {v : Value} (h : VR g H w a v) (hf : a.free = true ∨ a.isL = true) : SV g H w d a v := by
  cases a <;> first | exact ⟨h,hf⟩ | (simp only [VR] at h)
theorem SV.out {g : G} {H : Heap} {w : World} {d : Nat} {a : AV} {v : Value} (h : SV g H w d a v) (hn : ∀ xs,a ≠ .lbox xs) : VR g H w a v ∧ (a.free = true ∨ a.isL = true) := by
  cases a <;> first | exact h | exact (hn _ rfl).elim
theorem ValR.sv {L0 : Nat → Prop} {g : G} {H : Heap} {w : World} {σ : List AV} {d : Nat} {a : AV} {v : Value} (h : ValR L0 g H w σ (some d) a v) : SV g H w d a v := by
  cases a
  case lbox xs =>
    obtain ⟨d',e,h1,h2,_⟩ := h
    obtain rfl := Option.some.inj e
    exact ⟨h1,h2⟩
  all_goals exact h
theorem StR.put {L0 : Nat → Prop} {g : G} {H : Heap} {w : World} {σ : List AV} {tmps : Array Value} {x : Option Nat} {a : AV} {v : Value} (h : StR L0 g H w σ tmps x) (hv : ValR L0 g H w σ x a v) (df : List Deferred) :
    StR L0 g H w (setD σ x a) (({ tmps,defers := df } : Act).put x v).tmps none := by
  cases x with
  | none =>
    exact ⟨h.len,fun d a _ => h.slot d a (by simp),fun d d' xs ys _ _ => h.sep d d' xs ys (by simp) (by simp),fun d xs _ => h.own d xs (by simp),h.outer⟩
  | some d0 =>
    simp only [setD,Act.put]
    refine ⟨by simpa using h.len,fun d a' _ hd => ?_,fun d d' xs ys _ _ hne hd hd' => ?_,fun d xs _ hd => ?_,h.outer⟩
    · by_cases e : d0 = d
      · subst e
        have hl : d0 < σ.length := by
          have := (List.getElem?_eq_some_iff.1 hd).1
          simpa using this
        rw [List.getElem?_set_self hl] at hd
        obtain rfl := Option.some.inj hd
        exact ⟨v,by simp [show d0 < tmps.size by rw [← h.len]; exact hl],hv.sv⟩
      · rw [List.getElem?_set_ne e] at hd
        obtain ⟨u,hu,hs⟩ := h.slot d a' (by simpa using e) hd
        exact ⟨u,by rw [Array.getElem?_setIfInBounds_ne e]; exact hu,hs⟩
    · by_cases e : d0 = d
      · subst e
        have hl : d0 < σ.length := by
          have := (List.getElem?_eq_some_iff.1 hd).1
          simpa using this
        rw [List.getElem?_set_self hl] at hd
        obtain rfl := Option.some.inj hd
        rw [List.getElem?_set_ne hne] at hd'
        obtain ⟨d1,e1,_,_,_,_,h6⟩ := hv
        obtain rfl := Option.some.inj e1
        exact fun x => h6 d' ys (Ne.symm hne) hd' x.symm
      · rw [List.getElem?_set_ne e] at hd
        by_cases e' : d0 = d'
        · subst e'
          have hl : d0 < σ.length := by
            have := (List.getElem?_eq_some_iff.1 hd').1
            simpa using this
          rw [List.getElem?_set_self hl] at hd'
          obtain rfl := Option.some.inj hd'
          obtain ⟨d1,e1,_,_,_,_,h6⟩ := hv
          obtain rfl := Option.some.inj e1
          exact h6 d xs hne hd
        · rw [List.getElem?_set_ne e'] at hd'
          exact h.sep d d' xs ys (by simpa using e) (by simpa using e') hne hd hd'
    · by_cases e : d0 = d
      · subst e
        have hl : d0 < σ.length := by
          have := (List.getElem?_eq_some_iff.1 hd).1
          simpa using this
        rw [List.getElem?_set_self hl] at hd
        obtain rfl := Option.some.inj hd
        obtain ⟨d1,e1,_,_,h4,h5,_⟩ := hv
        obtain rfl := Option.some.inj e1
        exact ⟨h4,h5⟩
      · rw [List.getElem?_set_ne e] at hd
        exact h.own d xs (by simpa using e) hd
theorem StR.kill1 {L0 : Nat → Prop} {g : G} {H : Heap} {w : World} {σ : List AV} {tmps : Array Value} (h : StR L0 g H w σ tmps none) (d0 : Nat) : StR L0 g H w (σ.set d0 .undef) tmps none := by
  refine ⟨by simpa using h.len,fun d a' _ hd => ?_,fun d d' xs ys _ _ hne hd hd' => ?_,fun d xs _ hd => ?_,h.outer⟩
  · by_cases e : d0 = d
    · subst e
      have hl : d0 < σ.length := by
        have := (List.getElem?_eq_some_iff.1 hd).1
        simpa using this
      rw [List.getElem?_set_self hl] at hd
      obtain rfl := Option.some.inj hd
      have hl' : d0 < tmps.size := by rw [← h.len]; exact hl
      exact ⟨tmps[d0],by simp [hl'],by simp [SV,VR,AV.free]⟩
    · rw [List.getElem?_set_ne e] at hd
      exact h.slot d a' (by simp) hd
  · have key : ∀ (d : Nat) (xs : List AV),(σ.set d0 .undef)[d]? = some (.lbox xs) → σ[d]? = some (.lbox xs) := fun d xs hd => by
      by_cases e : d0 = d
      · subst e
        have hl : d0 < σ.length := by
          have := (List.getElem?_eq_some_iff.1 hd).1
          simpa using this
        rw [List.getElem?_set_self hl] at hd
        simp at hd
      · rwa [List.getElem?_set_ne e] at hd
    exact h.sep d d' xs ys (by simp) (by simp) hne (key d xs hd) (key d' ys hd')
  · by_cases e : d0 = d
    · subst e
      have hl : d0 < σ.length := by
        have := (List.getElem?_eq_some_iff.1 hd).1
        simpa using this
      rw [List.getElem?_set_self hl] at hd
      simp at hd
    · rw [List.getElem?_set_ne e] at hd
      exact h.own d xs (by simp) hd
theorem StR.kill {L0 : Nat → Prop} {g : G} {H : Heap} {w : World} {tmps : Array Value} : ∀ (l : List Nat) {σ : List AV},StR L0 g H w σ tmps none → StR L0 g H w (A.kill l σ) tmps none
  | [],_,h => h
  | d :: r,_,h => StR.kill r (h.kill1 d)
theorem ofV_const {g : G} {H : Heap} {w : World} {v : Value} {a : AV} (h : constA v = some a) : VR g H w a v ∧ a.free = true := by
  unfold constA at h
  split at h
  · rename_i cs
    split at h
    · rename_i hall
      obtain rfl := Option.some.inj h
      have key : ∀ l : List Value,VRs g H w (l.map AV.c) l ∧ AV.freeAll (l.map AV.c) = true := by
        intro l
        induction l with
        | nil => simp [VRs,AV.freeAll]
        | cons v r ih =>
          simp only [List.map_cons,VRs,AV.freeAll,AV.free,Bool.true_and]
          exact ⟨⟨v,r,rfl,by simp [VR],ih.1⟩,ih.2⟩
      refine ⟨?_,?_⟩
      · simp only [VR]
        exact ⟨cs,rfl,(key cs.toList).1⟩
      · simp only [AV.free]; exact (key cs.toList).2
    · simp at h
  · split at h
    · obtain rfl := Option.some.inj h
      exact ⟨by simp [VR],rfl⟩
    · simp at h
theorem evalX_rel {L0 : Nat → Prop} {g : G} {H : Heap} {w : World} {σ : List AV} {a : Act} (hs : StR L0 g H w σ a.tmps none) {x : Operand} {sx : SX} (h : rX x = some sx) :
    VR g H w (evalX σ sx) (a.eval x) ∧ ((evalX σ sx).free = true ∨ (evalX σ sx).isL = true) := by
  cases x with
  | tmp t =>
    simp only [rX,Option.some.injEq] at h
    subst h
    simp only [evalX,Act.eval,List.getD_eq_getElem?_getD]
    cases hσ : σ[t]? with
    | none =>
      simp [VR,AV.free]
    | some s =>
      obtain ⟨v,hv,hsv⟩ := hs.slot t s (by simp) hσ
      have hev : a.tmps.getD t undef = v := by simp [Array.getD_eq_getD_getElem?,hv]
      rw [hev]
      cases s <;> first
        | exact hsv
        | (obtain ⟨h1,_⟩ := hsv
           simp only [Option.getD_some,VR,AV.isL]
           exact ⟨h1,.inr trivial⟩)
  | const v =>
    simp only [rX,Option.map_eq_some_iff] at h
    obtain ⟨c,hc,rfl⟩ := h
    have := ofV_const (g := g) (H := H) (w := w) hc
    exact ⟨this.1,.inl this.2⟩
  | global g => simp [rX] at h
  | func f =>
    simp only [rX,Option.some.injEq] at h
    subst h
    refine ⟨?_,.inl (by simp [evalX,AV.free,AV.freeAll])⟩
    simp only [evalX,VR,Act.eval]
    exact ⟨#[],rfl,by simp [VRs]⟩
def OpRuns (P : Program) (o : Oper) (a : Act) (w : World) (R : Value → World → Prop) : Prop :=
  ∀ (K : Act → World → Prop) (Q : Exit → Act → World → Prop),(∀ u w',R u w' → K (a.put o.dst u) w') → o.wp P a w K Q
theorem opRuns_value {o : Oper} {a : Act} {w w' : World} {u : Value} {R : Value → World → Prop} (h : (execOp a.eval o).run P w = .ok (.value u) w') (hR : R u w') : OpRuns P o a w R := fun K Q hK => by
  unfold Oper.wp
  rw [h]
  exact hK u w' hR
theorem opRuns_skip {o : Oper} {a : Act} {w w' : World} {R : Value → World → Prop} (h : (execOp a.eval o).run P w = .ok .skip w') (hR : R undef w') : OpRuns P o a w R := fun K Q hK => by
  unfold Oper.wp
  rw [h]
  exact hK undef w' hR
structure OpPost (L0 : Nat → Prop) (g : G) (H : Heap) (w : World) (tmps : Array Value) (d : Option Nat) (v : AV) (σ' : List AV) (H' : Heap) (u : Value) (w' : World) (g' : G) : Prop where
  st : StR L0 g' H' w' σ' tmps d
  val : ValR L0 g' H' w' σ' d v u
  heap : HeapR g' H' w'
  ext : Ext g H w g' H' w'
  frame : ∀ b,L0 b → w'.heap[b]? = w.heap[b]?
theorem post_pure {L0 : Nat → Prop} {g : G} {H : Heap} {w : World} {σ : List AV} {tmps : Array Value} (hs : StR L0 g H w σ tmps none) (hh : HeapR g H w) {v : AV} {u : Value} (hv : VR g H w v u) (hf : v.free = true ∨ v.isL = true) (d : Option Nat) :
    OpPost L0 g H w tmps d v σ H u w g :=
  ⟨hs.weak d,ValR.of_vr hv hf,hh,Ext.refl _ _ _,fun _ _ => rfl⟩
section
variable {L0 : Nat → Prop} {g : G} {H : Heap} {w : World} {σ : List AV} {a : Act} {o : Oper}
theorem pure_op (hs : StR L0 g H w σ a.tmps none) (hh : HeapR g H w) {v : AV} {u : Value} (hrun : (execOp a.eval o).run P w = .ok (.value u) w) (hv : VR g H w v u) (hf : v.free = true ∨ v.isL = true) :
    OpRuns P o a w (fun u w' => ∃ g',OpPost L0 g H w a.tmps o.dst v σ H u w' g') :=
  opRuns_value hrun ⟨g,post_pure hs hh hv hf o.dst⟩
theorem vr_c {x v : Value} (h : VR g H w (.c x) v) : v = x := by simpa [VR] using h
theorem vrs_get : ∀ {xs : List AV} {vs : List Value},VRs g H w xs vs → ∀ {i : Nat} {x : AV},xs[i]? = some x → ∃ v : Value,vs[i]? = some v ∧ VR g H w x v
  | [],_,_,i,x,hx => by simp at hx
  | y :: ys,vs,h,i,x,hx => by
    simp only [VRs] at h
    obtain ⟨v,r,rfl,h1,h2⟩ := h
    cases i with
    | zero => simp at hx; subst hx; exact ⟨v,by simp,h1⟩
    | succ i => simpa using vrs_get h2 (by simpa using hx)
theorem vrs_length : ∀ {xs : List AV} {vs : List Value},VRs g H w xs vs → xs.length = vs.length
  | [],_,h => by simp only [VRs] at h; subst h; rfl
  | y :: ys,vs,h => by
    simp only [VRs] at h
    obtain ⟨v,r,rfl,h1,h2⟩ := h
    simp [vrs_length h2]
theorem vrs_of : ∀ {xs : List AV} {vs : List Value},xs.length = vs.length → (∀ (i : Nat) (x : AV) (v : Value),xs[i]? = some x → vs[i]? = some v → VR g H w x v) → VRs g H w xs vs
  | [],[],_,_ => by simp [VRs]
  | [],_ :: _,h,_ => by simp at h
  | _ :: _,[],h,_ => by simp at h
  | y :: ys,v :: vs,h,hv => by
    simp only [VRs]
    exact ⟨v,vs,rfl,hv 0 y v (by simp) (by simp),vrs_of (by simpa using h) (fun i x u hx hu => hv (i + 1) x u (by simpa using hx) (by simpa using hu))⟩
theorem vrs_append {xs ys : List AV} {vs us : List Value} (h : VRs g H w xs vs) (k : VRs g H w ys us) : VRs g H w (xs ++ ys) (vs ++ us) := by
  induction xs generalizing vs with
  | nil => simp only [VRs] at h; subst h; simpa using k
  | cons x r ih =>
    simp only [VRs] at h
    obtain ⟨v,s,rfl,h1,h2⟩ := h
    simp only [List.cons_append,VRs]
    exact ⟨v,s ++ us,rfl,h1,ih h2⟩
theorem vrs_take {xs : List AV} {vs : List Value} (h : VRs g H w xs vs) (n : Nat) : VRs g H w (xs.take n) (vs.take n) := by
  refine vrs_of (by simp [vrs_length h]) fun i x v hx hv => ?_
  by_cases hi : i < n
  · rw [List.getElem?_take_of_lt hi] at hx hv
    obtain ⟨v',hv',h1⟩ := vrs_get h hx
    rw [hv] at hv'
    obtain rfl := Option.some.inj hv'
    exact h1
  · rw [List.getElem?_take_eq_none (by omega)] at hx
    simp at hx
theorem vrs_drop {xs : List AV} {vs : List Value} (h : VRs g H w xs vs) (n : Nat) : VRs g H w (xs.drop n) (vs.drop n) := by
  refine vrs_of (by simp [vrs_length h]) fun i x v hx hv => ?_
  rw [List.getElem?_drop] at hx hv
  obtain ⟨v',hv',h1⟩ := vrs_get h hx
  rw [hv] at hv'
  obtain rfl := Option.some.inj hv'
  exact h1
theorem freeAll_iff {xs : List AV} : AV.freeAll xs = true ↔ ∀ x ∈ xs,x.free = true := by
  induction xs with
  | nil => simp [AV.freeAll]
  | cons x r ih => simp [AV.freeAll,ih]
theorem freeAll_append {xs ys : List AV} : AV.freeAll (xs ++ ys) = (AV.freeAll xs && AV.freeAll ys) := by
  induction xs with
  | nil => simp [AV.freeAll]
  | cons x r ih => simp [AV.freeAll,ih,Bool.and_assoc]
theorem freeAll_take {xs : List AV} (h : AV.freeAll xs = true) (n : Nat) : AV.freeAll (xs.take n) = true :=
  freeAll_iff.2 fun x hx => freeAll_iff.1 h x (List.mem_of_mem_take hx)
theorem freeAll_drop {xs : List AV} (h : AV.freeAll xs = true) (n : Nat) : AV.freeAll (xs.drop n) = true :=
  freeAll_iff.2 fun x hx => freeAll_iff.1 h x (List.mem_of_mem_drop hx)
theorem free_get {xs : List AV} (h : AV.freeAll xs = true) {i : Nat} {x : AV} (hx : xs[i]? = some x) : x.free = true :=
  freeAll_iff.1 h x (List.mem_of_getElem? hx)
theorem op_mov (hs : StR L0 g H w σ a.tmps none) (hh : HeapR g H w) {x : Operand} {sx : SX} (ho : o.op = .move x ∨ o.op = .assign x) (hx : rX x = some sx) :
    OpRuns P o a w (fun u w' => ∃ g',OpPost L0 g H w a.tmps o.dst (evalX σ sx) σ H u w' g') := by
  obtain ⟨h1,h2⟩ := evalX_rel hs hx
  refine pure_op hs hh (u := a.eval x) ?_ h1 h2
  rcases ho with ho | ho <;> simp [execOp,ho]
theorem op_pick (hs : StR L0 g H w σ a.tmps none) (hh : HeapR g H w) {c x y : Operand} {sc sx sy : SX} (ho : o.op = .pick c x y) (hc : rX c = some sc) (hx : rX x = some sx) (hy : rX y = some sy) {b : Bool} (hb : evalX σ sc = .c (.bool b)) :
    OpRuns P o a w (fun u w' => ∃ g',OpPost L0 g H w a.tmps o.dst (if b = true then evalX σ sx else evalX σ sy) σ H u w' g') := by
  have h0 := (evalX_rel hs hc).1
  rw [hb] at h0
  have h0 := vr_c h0
  obtain ⟨h1,h2⟩ := evalX_rel hs hx
  obtain ⟨h3,h4⟩ := evalX_rel hs hy
  cases b
  · exact pure_op hs hh (u := a.eval y) (by simp [execOp,ho,h0,asBool]) (by simpa using h3) (by simpa using h4)
  · exact pure_op hs hh (u := a.eval x) (by simp [execOp,ho,h0,asBool]) (by simpa using h1) (by simpa using h2)
end
end Go.A
