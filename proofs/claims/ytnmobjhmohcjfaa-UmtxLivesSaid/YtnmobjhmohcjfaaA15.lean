/- THE ABSTRACT MACHINE: regions, code, calls. -/
import Derived.Test.YtnmobjhmohcjfaaA14
import Derived.ScopeJumps
set_option linter.unusedSimpArgs false
set_option linter.unusedVariables false
set_option linter.unnecessarySimpa false
namespace Go.A
open Go
variable {P : Program}
def Reach (L0 : Nat → Prop) (g : G) (H : Heap) (w : World) (df : List Deferred) (σ' : List AV) (H' : Heap) (a' : Act) (w' : World) : Prop :=
 ∃ g',StR L0 g' H' w' σ' a'.tmps none ∧ HeapR g' H' w' ∧ Ext g H w g' H' w' ∧ (∀ b,L0 b → w'.heap[b]? = w.heap[b]?) ∧ a'.defers = df
section
variable {L0 : Nat → Prop} {g : G} {H : Heap} {w : World} {σ : List AV} {a : Act}
theorem Reach.refl (hs : StR L0 g H w σ a.tmps none) (hh : HeapR g H w) : Reach L0 g H w a.defers σ H a w := ⟨g,hs,hh,Ext.refl _ _ _,fun _ _ => rfl,rfl⟩
theorem Reach.trans {df : List Deferred} {σ1 σ2 : List AV} {H1 H2 : Heap} {a1 a2 : Act} {w1 w2 : World} {g1 : G} (h1 : Ext g H w g1 H1 w1) (f1 : ∀ b,L0 b → w1.heap[b]? = w.heap[b]?) (h2 : Reach L0 g1 H1 w1 df σ2 H2 a2 w2) : Reach L0 g H w df σ2 H2 a2 w2 := by
 obtain ⟨g2,q1,q2,q3,q4,q5⟩ := h2
 exact ⟨g2,q1,q2,h1.trans q3,fun b hb => (q4 b hb).trans (f1 b hb),q5⟩
theorem wanted_rel (hs : StR L0 g H w σ a.tmps none) {ann : Ann} {ops : Array Oper} {o : Oper} {so : SOpG} (hr : rOper P ann ops o = some so) {b : Bool} (h : wanted σ so.guard = some b) : Region.wanted o (yielded ops a.tmps) = b := by
 unfold rOper at hr
 obtain ⟨s,hs1,hr⟩ := Option.bind_eq_some_iff.1 hr
 unfold Region.wanted
 split at hr
 ·rename_i hg
  obtain rfl := Option.some.inj hr
  simp only [wanted,Option.some.injEq] at h
  subst h
  rw [hg]
 ·rename_i j wt hg
  obtain ⟨og,hog,hr⟩ := Option.bind_eq_some_iff.1 hr
  obtain ⟨t,ht,rfl⟩ := Option.map_eq_some_iff.1 hr
  rw [hg]
  simp only [wanted] at h
  simp only [yielded,hog,Option.bind_some,ht]
  rw [List.getD_eq_getElem?_getD] at h
  cases hσ : σ[t]? with
  | none => rw [hσ] at h; simp at h
  | some x =>
   rw [hσ] at h
   simp only [Option.getD_some] at h
   obtain ⟨v,hv,hsv⟩ := hs.slot t x (by simp) hσ
   rw [hv]
   split at h
   ·obtain rfl := Option.some.inj h
    obtain ⟨h1,_⟩ := hsv
    have := vr_c h1
    subst this
    simp
   ·obtain rfl := Option.some.inj h
    obtain ⟨h1,_⟩ := hsv
    simp only [VR] at h1
    obtain ⟨vs,rfl,hvs⟩ := h1
    simp
   ·simp at h
theorem rOper_op {ann : Ann} {ops : Array Oper} {o : Oper} {so : SOpG} (hr : rOper P ann ops o = some so) : rOp P ann o = some so.op ∧ so.dst = o.dst := by
 unfold rOper at hr
 obtain ⟨s,hs1,hr⟩ := Option.bind_eq_some_iff.1 hr
 split at hr
 ·obtain rfl := Option.some.inj hr; exact ⟨hs1,rfl⟩
 ·obtain ⟨og,hog,hr⟩ := Option.bind_eq_some_iff.1 hr
  obtain ⟨t,ht,rfl⟩ := Option.map_eq_some_iff.1 hr
  exact ⟨hs1,rfl⟩
theorem put_defers' (a : Act) (d : Option Nat) (u : Value) : (a.put d u).defers = a.defers := by cases d <;> rfl
theorem runOps_sound {C : Oracle} (hC : SoundO P C) {ann : Ann} {ops : Array Oper} {Q : Exit → Act → World → Prop} : ∀ (l : List Oper) (sl : List SOpG) (σ : List AV) (H : Heap) (g : G) (w : World) (a : Act) (σ' : List AV) (H' : Heap),
  l.mapM (rOper P ann ops) = some sl → runOps C sl σ H = some (σ',H') → StR L0 g H w σ a.tmps none → HeapR g H w →
  (∀ a' w',Reach L0 g H w a.defers σ' H' a' w' → Q .normal a' w') → wpList P ops Q l a w
 | [],sl,σ,H,g,w,a,σ',H',hm,h,hs,hh,hQ => by
  simp at hm
  subst hm
  simp only [runOps,Option.some.injEq,Prod.mk.injEq] at h
  obtain ⟨rfl,rfl⟩ := h
  exact hQ a w (Reach.refl hs hh)
 | o :: l,sl,σ,H,g,w,a,σ',H',hm,h,hs,hh,hQ => by
  simp only [List.mapM_cons,Option.bind_eq_bind,Option.bind_eq_some_iff] at hm
  obtain ⟨so,hso,sl',hsl,he⟩ := hm
  simp at he
  subst he
  obtain ⟨hop,hdst⟩ := rOper_op hso
  simp only [runOps] at h
  unfold wpList
  split at h
  ·rename_i hw
   rw [wanted_rel hs hso hw,if_pos rfl]
   obtain ⟨⟨v,σ1,H1⟩,hv,h⟩ := Option.bind_eq_some_iff.1 h
   rw [hdst] at hv h
   refine .inl ((op_all hs hh hC hop hv) _ _ ?_)
   rintro u w1 ⟨g1,hp⟩
   have hs1 := hp.st.put hp.val a.defers
   refine runOps_sound hC l sl' _ _ g1 w1 _ σ' H' hsl h hs1 hp.heap fun a' w' hr => hQ a' w' ?_
   have := Reach.trans (σ1 := σ1) (a1 := a) hp.ext hp.frame hr
   rwa [put_defers'] at this
  ·rename_i hw
   rw [wanted_rel hs hso hw,if_neg (by simp)]
   rw [hdst] at h
   have hs1 := (hs.weak o.dst).put (a := .tup []) (v := undef) (ValR.of_vr (by simp only [VR]; exact ⟨#[],rfl,by simp [VRs]⟩) (.inl (by simp [AV.free,AV.freeAll]))) a.defers
   refine runOps_sound hC l sl' _ _ g w _ σ' H' hsl h hs1 hh fun a' w' hr => hQ a' w' ?_
   rwa [put_defers'] at hr
  ·simp at h
def toExit : AExit → Exit
 | .normal => .normal
 | .exit id => .exit id
 | .goto l => .goto l
 | .ret => .ret
def LoopN (P : Program) (c : Code) (Q : Exit → Act → World → Prop) : Nat → Act → World → Prop
 | 0 => fun _ _ => False
 | n + 1 => fun a w => c.wp P (Exit.then (LoopN P c Q n) Q) a w
theorem wp_loopN {c : Code} {Q : Exit → Act → World → Prop} {n : Nat} {a : Act} {w : World} (h : LoopN P c Q n a w) : (Code.loop c).wp P Q a w := by
 intro b k cs
 have key : ∀ n a w,LoopN P c Q n a w → ∃ e a' w',Q e a' w' ∧ Arrives P (lone (b.at a (.code c :: .inLoop c :: k)) cs w) b k cs e a' w' := by
  intro n
  induction n with
  | zero => intro a w h; exact h.elim
  | succ n ih =>
   intro a w h
   obtain ⟨e,a₁,w₁,hq,harr⟩ := h b (.inLoop c :: k) cs
   cases e with
   | normal =>
    obtain ⟨e₂,a₂,w₂,hq₂,harr₂⟩ := ih a₁ w₁ hq
    exact ⟨e₂,a₂,w₂,hq₂,.of_steps (Steps.trans harr (.one step_inLoop)) harr₂⟩
   | exit id => exact ⟨_,a₁,w₁,hq,.pass (x := .inLoop c) rfl (fun _ _ => .inl (by simp)) harr⟩
   | goto l => exact ⟨_,a₁,w₁,hq,.pass (x := .inLoop c) rfl (fun _ _ => .inl (by simp)) harr⟩
   | ret => exact ⟨_,a₁,w₁,hq,.pass (x := .inLoop c) rfl (fun _ _ => .inl (by simp)) harr⟩
   | panic ch => exact ⟨_,a₁,w₁,hq,.pass (x := .inLoop c) rfl (fun _ _ => .inl (by simp)) harr⟩
   | outgrown => exact ⟨_,a₁,w₁,hq,.pass (x := .inLoop c) rfl (fun _ _ => .inl (by simp)) harr⟩
 obtain ⟨e,a',w',hq,harr⟩ := key n a w h
 exact ⟨e,a',w',hq,.of_steps (.one step_loop) harr⟩
def onGoto (l : Nat) (J : Act → World → Prop) (Q : Exit → Act → World → Prop) : Exit → Act → World → Prop
 | .goto l',a,w => if l' = l then J a w else Q (.goto l') a w
 | e,a,w => Q e a w
def JumpN (P : Program) (rest : Code) (l : Nat) (Q : Exit → Act → World → Prop) : Nat → Act → World → Prop
 | 0 => fun _ _ => False
 | n + 1 => fun a w => rest.wp P (onGoto l (JumpN P rest l Q n) Q) a w
theorem wp_scopeN {c rest : Code} {l : Nat} {Q : Exit → Act → World → Prop} (hf : findLabel c l = some rest) (ho : ∀ l',l' ≠ l → findLabel c l' = none) {n : Nat} {a : Act} {w : World} (first : c.wp P (onGoto l (JumpN P rest l Q n) Q) a w) : (Code.scope c).wp P Q a w := by
 intro b k cs
 have hg : gotoIn l (.inScope c :: k) = some (.code rest :: .inScope c :: k) := by simp [gotoIn,hf]
 have ho' : ∀ l',l' ≠ l → gotoIn l' (.inScope c :: k) = gotoIn l' k := fun l' h => by simp [gotoIn,ho l' h]
 have key : ∀ n a w,JumpN P rest l Q n a w → ∃ e a' w',Q e a' w' ∧ Arrives P (lone (b.at a (.code rest :: .inScope c :: k)) cs w) b k cs e a' w' := by
  intro n
  induction n with
  | zero => intro a w h; exact h.elim
  | succ n ih =>
   intro a w h
   obtain ⟨e,a₁,w₁,hq,harr⟩ := h b (.inScope c :: k) cs
   cases e with
   | normal => exact ⟨.normal,a₁,w₁,hq,Steps.trans harr (.one step_inScope)⟩
   | exit id => exact ⟨.exit id,a₁,w₁,hq,fun k' hk => harr k' (by simp [exitTo,hk])⟩
   | goto l' =>
    by_cases e1 : l' = l
    ·subst e1
     simp only [onGoto,if_true] at hq
     obtain ⟨e₂,a₂,w₂,hq₂,harr₂⟩ := ih a₁ w₁ hq
     exact ⟨e₂,a₂,w₂,hq₂,.of_steps (harr _ hg) harr₂⟩
    ·simp only [onGoto,if_neg e1] at hq
     exact ⟨.goto l',a₁,w₁,hq,fun k' hk => harr k' (by rw [ho' l' e1]; exact hk)⟩
   | ret => exact ⟨_,a₁,w₁,hq,harr⟩
   | panic ch => exact ⟨_,a₁,w₁,hq,harr⟩
   | outgrown => exact ⟨_,a₁,w₁,hq,harr⟩
 obtain ⟨e,a₁,w₁,hq,harr⟩ := first b (.inScope c :: k) cs
 cases e with
 | normal => exact ⟨.normal,a₁,w₁,hq,.head step_scope (Steps.trans harr (.one step_inScope))⟩
 | exit id => exact ⟨.exit id,a₁,w₁,hq,fun k' hk => .head step_scope (harr k' (by simp [exitTo,hk]))⟩
 | goto l' =>
  by_cases e1 : l' = l
  ·subst e1
   simp only [onGoto,if_true] at hq
   obtain ⟨e₂,a₂,w₂,hq₂,harr₂⟩ := key n a₁ w₁ hq
   exact ⟨e₂,a₂,w₂,hq₂,.of_steps (.head step_scope (harr _ hg)) harr₂⟩
  ·simp only [onGoto,if_neg e1] at hq
   exact ⟨.goto l',a₁,w₁,hq,fun k' hk => .head step_scope (harr k' (by rw [ho' l' e1]; exact hk))⟩
 | ret => exact ⟨_,a₁,w₁,hq,.of_steps (.one step_scope) harr⟩
 | panic ch => exact ⟨_,a₁,w₁,hq,.of_steps (.one step_scope) harr⟩
 | outgrown => exact ⟨_,a₁,w₁,hq,.of_steps (.one step_scope) harr⟩
theorem wp_scopeN2 {c rest rest' : Code} {l l' : Nat} {Q : Exit → Act → World → Prop} (hf : findLabel c l = some rest) (hf' : findLabel c l' = some rest') (hne : l ≠ l') (ho : ∀ m,m ≠ l → m ≠ l' → findLabel c m = none) (hQ : ∀ a w,¬ Q (.goto l) a w) {n n' : Nat} {a : Act} {w : World}
  (first : c.wp P (onGoto l (JumpN P rest l (onGoto l' (JumpN P rest' l' Q n') Q) n) (onGoto l' (JumpN P rest' l' Q n') Q)) a w) : (Code.scope c).wp P Q a w := by
 intro b k cs
 have hg : gotoIn l (.inScope c :: k) = some (.code rest :: .inScope c :: k) := by simp [gotoIn,hf]
 have hg' : gotoIn l' (.inScope c :: k) = some (.code rest' :: .inScope c :: k) := by simp [gotoIn,hf']
 have ho' : ∀ m,m ≠ l → m ≠ l' → gotoIn m (.inScope c :: k) = gotoIn m k := fun m h1 h2 => by simp [gotoIn,ho m h1 h2]
 have key' : ∀ n a w,JumpN P rest' l' Q n a w → ∃ e a' w',Q e a' w' ∧ Arrives P (lone (b.at a (.code rest' :: .inScope c :: k)) cs w) b k cs e a' w' := by
  intro n
  induction n with
  | zero => intro a w h; exact h.elim
  | succ n ih =>
   intro a w h
   obtain ⟨e,a₁,w₁,hq,harr⟩ := h b (.inScope c :: k) cs
   cases e with
   | normal => exact ⟨.normal,a₁,w₁,hq,Steps.trans harr (.one step_inScope)⟩
   | exit id => exact ⟨.exit id,a₁,w₁,hq,fun k' hk => harr k' (by simp [exitTo,hk])⟩
   | goto m =>
    by_cases e1 : m = l'
    ·subst e1
     simp only [onGoto,if_true] at hq
     obtain ⟨e₂,a₂,w₂,hq₂,harr₂⟩ := ih a₁ w₁ hq
     exact ⟨e₂,a₂,w₂,hq₂,.of_steps (harr _ hg') harr₂⟩
    ·simp only [onGoto,if_neg e1] at hq
     by_cases e2 : m = l
     ·subst e2; exact (hQ _ _ hq).elim
     ·exact ⟨.goto m,a₁,w₁,hq,fun k' hk => harr k' (by rw [ho' m e2 e1]; exact hk)⟩
   | ret => exact ⟨_,a₁,w₁,hq,harr⟩
   | panic ch => exact ⟨_,a₁,w₁,hq,harr⟩
   | outgrown => exact ⟨_,a₁,w₁,hq,harr⟩
 have key : ∀ n a w,JumpN P rest l (onGoto l' (JumpN P rest' l' Q n') Q) n a w → ∃ e a' w',Q e a' w' ∧ Arrives P (lone (b.at a (.code rest :: .inScope c :: k)) cs w) b k cs e a' w' := by
  intro n
  induction n with
  | zero => intro a w h; exact h.elim
  | succ n ih =>
   intro a w h
   obtain ⟨e,a₁,w₁,hq,harr⟩ := h b (.inScope c :: k) cs
   cases e with
   | normal => exact ⟨.normal,a₁,w₁,hq,Steps.trans harr (.one step_inScope)⟩
   | exit id => exact ⟨.exit id,a₁,w₁,hq,fun k' hk => harr k' (by simp [exitTo,hk])⟩
   | goto m =>
    by_cases e1 : m = l
    ·subst e1
     simp only [onGoto,if_true] at hq
     obtain ⟨e₂,a₂,w₂,hq₂,harr₂⟩ := ih a₁ w₁ hq
     exact ⟨e₂,a₂,w₂,hq₂,.of_steps (harr _ hg) harr₂⟩
    ·simp only [onGoto,if_neg e1] at hq
     by_cases e2 : m = l'
     ·subst e2
      simp only [if_true] at hq
      obtain ⟨e₂,a₂,w₂,hq₂,harr₂⟩ := key' n' a₁ w₁ hq
      exact ⟨e₂,a₂,w₂,hq₂,.of_steps (harr _ hg') harr₂⟩
     ·simp only [if_neg e2] at hq
      exact ⟨.goto m,a₁,w₁,hq,fun k' hk => harr k' (by rw [ho' m e1 e2]; exact hk)⟩
   | ret => exact ⟨_,a₁,w₁,hq,harr⟩
   | panic ch => exact ⟨_,a₁,w₁,hq,harr⟩
   | outgrown => exact ⟨_,a₁,w₁,hq,harr⟩
 obtain ⟨e,a₁,w₁,hq,harr⟩ := first b (.inScope c :: k) cs
 cases e with
 | normal => exact ⟨.normal,a₁,w₁,hq,.head step_scope (Steps.trans harr (.one step_inScope))⟩
 | exit id => exact ⟨.exit id,a₁,w₁,hq,fun k' hk => .head step_scope (harr k' (by simp [exitTo,hk]))⟩
 | goto m =>
  by_cases e1 : m = l
  ·subst e1
   simp only [onGoto,if_true] at hq
   obtain ⟨e₂,a₂,w₂,hq₂,harr₂⟩ := key n a₁ w₁ hq
   exact ⟨e₂,a₂,w₂,hq₂,.of_steps (.head step_scope (harr _ hg)) harr₂⟩
  ·simp only [onGoto,if_neg e1] at hq
   by_cases e2 : m = l'
   ·subst e2
    simp only [if_true] at hq
    obtain ⟨e₂,a₂,w₂,hq₂,harr₂⟩ := key' n' a₁ w₁ hq
    exact ⟨e₂,a₂,w₂,hq₂,.of_steps (.head step_scope (harr _ hg')) harr₂⟩
   ·simp only [if_neg e2] at hq
    exact ⟨.goto m,a₁,w₁,hq,fun k' hk => .head step_scope (harr k' (by rw [ho' m e1 e2]; exact hk))⟩
 | ret => exact ⟨_,a₁,w₁,hq,.of_steps (.one step_scope) harr⟩
 | panic ch => exact ⟨_,a₁,w₁,hq,.of_steps (.one step_scope) harr⟩
 | outgrown => exact ⟨_,a₁,w₁,hq,.of_steps (.one step_scope) harr⟩
theorem findLabel_labels {c rest : Code} {l : Nat} (h : findLabel c l = some rest) : l ∈ labelsOf c := by
 induction c generalizing rest with
 | seq x y ihx ihy =>
  simp only [findLabel] at h
  simp only [labelsOf,List.mem_append]
  split at h
  ·rename_i r hx; exact .inl (ihx hx)
  ·exact .inr (ihy h)
 | label l' =>
  simp only [findLabel] at h
  split at h
  ·rename_i e; simp only [beq_iff_eq] at e; simp [labelsOf,e]
  ·simp at h
 | _ => simp [findLabel] at h
theorem findL_rel {ann : Ann} : ∀ {c : Code} {s r : SCode} {l : Nat},resolve P ann c = some s → findL s l = some r → ∃ rest,findLabel c l = some rest ∧ resolve P ann rest = some r := by
 intro c
 induction c with
 | seq x y ihx ihy =>
  intro s r l h1 h2
  simp only [resolve,Option.bind_eq_some_iff,Option.map_eq_some_iff] at h1
  obtain ⟨sx,hx,sy,hy,rfl⟩ := h1
  simp only [findL] at h2
  simp only [findLabel]
  split at h2
  ·rename_i r' hr'
   obtain rfl := Option.some.inj h2
   obtain ⟨rest,q1,q2⟩ := ihx hx hr'
   exact ⟨.seq rest y,by rw [q1],by simp [resolve,q2,hy]⟩
  ·rename_i hn
   have : findLabel x l = none := by
    cases hfx : findLabel x l with
    | none => rfl
    | some rest =>
     exfalso
     have key : ∀ (c : Code) (s : SCode) (rest : Code),resolve P ann c = some s → findLabel c l = some rest → (findL s l).isSome = true := by
      intro c
      induction c with
      | seq x y ihx ihy =>
       intro s rest h1 h2
       simp only [resolve,Option.bind_eq_some_iff,Option.map_eq_some_iff] at h1
       obtain ⟨sx,hx,sy,hy,rfl⟩ := h1
       simp only [findLabel] at h2
       simp only [findL]
       split at h2
       ·rename_i r1 hr1
        have := ihx sx r1 hx hr1
        obtain ⟨q,hq⟩ := Option.isSome_iff_exists.1 this
        rw [hq]; rfl
       ·have := ihy sy rest hy h2
        obtain ⟨q,hq⟩ := Option.isSome_iff_exists.1 this
        cases findL sx l <;> simp [hq]
      | label l' =>
       intro s rest h1 h2
       simp only [resolve,Option.some.injEq] at h1
       subst h1
       simp only [findLabel] at h2
       simp only [findL]
       split at h2
       ·rename_i e; simp [e]
       ·simp at h2
      | _ => intro s rest h1 h2; simp [findLabel] at h2
     have := key x sx rest hx hfx
     rw [hn] at this
     simp at this
   rw [this]
   exact ihy hy h2
 | label l' =>
  intro s r l h1 h2
  simp only [resolve,Option.some.injEq] at h1
  subst h1
  simp only [findL] at h2
  simp only [findLabel]
  split at h2
  ·rename_i e
   obtain rfl := Option.some.inj h2
   exact ⟨.skip,by simp [e],by simp [resolve]⟩
  ·simp at h2
 | region id ops d =>
  intro s r l h1 h2
  simp only [resolve] at h1
  split at h1
  ·obtain ⟨_,_,rfl⟩ := Option.map_eq_some_iff.1 h1; simp [findL] at h2
  ·unfold resolveD at h1
   obtain ⟨_,_,h1⟩ := Option.bind_eq_some_iff.1 h1
   simp only at h1
   split at h1
   ·obtain rfl := Option.some.inj h1; simp [findL] at h2
   ·simp at h1
 | cond c x y => intro s r l h1 h2; simp only [resolve,Option.bind_eq_some_iff,Option.map_eq_some_iff] at h1; obtain ⟨_,_,_,_,_,_,rfl⟩ := h1; simp [findL] at h2
 | block id b => intro s r l h1 h2; simp only [resolve,Option.map_eq_some_iff] at h1; obtain ⟨_,_,rfl⟩ := h1; simp [findL] at h2
 | loop b => intro s r l h1 h2; simp only [resolve,Option.map_eq_some_iff] at h1; obtain ⟨_,_,rfl⟩ := h1; simp [findL] at h2
 | scope b =>
  intro s r l h1 h2
  simp only [resolve] at h1
  split at h1
  ·simp only [Option.bind_eq_some_iff,Option.map_eq_some_iff] at h1
   obtain ⟨_,_,_,_,rfl⟩ := h1; simp [findL] at h2
  ·simp only [Option.bind_eq_some_iff] at h1
   obtain ⟨_,_,_,_,_,_,h1⟩ := h1
   split at h1
   ·obtain rfl := Option.some.inj h1; simp [findL] at h2
   ·simp at h1
  ·simp at h1
 | skip => intro s r l h1 h2; simp only [resolve,Option.some.injEq] at h1; subst h1; simp [findL] at h2
 | exit id => intro s r l h1 h2; simp only [resolve,Option.some.injEq] at h1; subst h1; simp [findL] at h2
 | goto id => intro s r l h1 h2; simp only [resolve,Option.some.injEq] at h1; subst h1; simp [findL] at h2
 | ret => intro s r l h1 h2; simp only [resolve,Option.some.injEq] at h1; subst h1; simp [findL] at h2
 | rangeFunc f ps x y => intro s r l h1 h2; simp [resolve] at h1
 | refuse y => intro s r l h1 h2; simp [resolve] at h1
end
end Go.A
