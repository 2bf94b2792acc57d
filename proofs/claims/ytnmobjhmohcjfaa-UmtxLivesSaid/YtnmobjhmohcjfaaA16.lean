/- THE ABSTRACT MACHINE: code and calls are sound. -/
import Derived.Test.YtnmobjhmohcjfaaD3
set_option linter.unusedSimpArgs false
set_option linter.unusedVariables false
set_option linter.unnecessarySimpa false
namespace Go.A
open Go
variable {P : Program}
theorem Reach.mono_df {L0 : Nat → Prop} {g : G} {H : Heap} {w : World} {df df' : List Deferred} {σ' : List AV} {H' : Heap} {a' : Act} {w' : World} (h : Reach L0 g H w df σ' H' a' w') (e : df = df') : Reach L0 g H w df' σ' H' a' w' := e ▸ h
theorem resolveD_inv {ann : Ann} {ks : List Nat} {os : Array Oper} {s : SCode} (h : resolveD P ann ks os = some s) : ∃ sos anc l,s = .drawn ks (drawList os sos anc [] l) ∧ os.toList.mapM (rOper P ann os) = some sos ∧ drawOk os anc (drawList os sos anc [] l) = true := by
 unfold resolveD at h
 obtain ⟨sos,h1,h2⟩ := Option.bind_eq_some_iff.1 h
 simp only at h2
 split at h2
 ·rename_i hd
  exact ⟨sos,_,_,(Option.some.inj h2).symm,h1,hd⟩
 ·simp at h2
def Goes (P : Program) (L0 : Nat → Prop) (g : G) (H : Heap) (w : World) (a : Act) (c : Code) (st : St) : Prop :=
 c.wp P (fun e a' w' => e = toExit st.e ∧ Reach L0 g H w a.defers st.σ st.H a' w') a w
section inv
variable {ann : Ann} {c : Code}
theorem inv_skip (h : resolve P ann c = some .skip) : c = .skip := by
 cases c <;> simp only [resolve] at h
 case skip => rfl
 all_goals first | (simp [Option.bind_eq_some_iff] at h; done) | (split at h <;> first | (simp [Option.bind_eq_some_iff] at h; done) | (obtain ⟨_,_,_,e,_⟩ := resolveD_inv h; simp at e; done) | contradiction)
theorem inv_label {l : Nat} (h : resolve P ann c = some (.label l)) : c = .label l := by
 cases c <;> simp only [resolve] at h
 case label => simp at h; subst h; rfl
 all_goals first | (simp [Option.bind_eq_some_iff] at h; done) | (split at h <;> first | (simp [Option.bind_eq_some_iff] at h; done) | (obtain ⟨_,_,_,e,_⟩ := resolveD_inv h; simp at e; done) | contradiction)
theorem inv_exit {l : Nat} (h : resolve P ann c = some (.exit l)) : c = .exit l := by
 cases c <;> simp only [resolve] at h
 case exit => simp at h; subst h; rfl
 all_goals first | (simp [Option.bind_eq_some_iff] at h; done) | (split at h <;> first | (simp [Option.bind_eq_some_iff] at h; done) | (obtain ⟨_,_,_,e,_⟩ := resolveD_inv h; simp at e; done) | contradiction)
theorem inv_goto {l : Nat} (h : resolve P ann c = some (.goto l)) : c = .goto l := by
 cases c <;> simp only [resolve] at h
 case goto => simp at h; subst h; rfl
 all_goals first | (simp [Option.bind_eq_some_iff] at h; done) | (split at h <;> first | (simp [Option.bind_eq_some_iff] at h; done) | (obtain ⟨_,_,_,e,_⟩ := resolveD_inv h; simp at e; done) | contradiction)
theorem inv_ret (h : resolve P ann c = some .ret) : c = .ret := by
 cases c <;> simp only [resolve] at h
 case ret => rfl
 all_goals first | (simp [Option.bind_eq_some_iff] at h; done) | (split at h <;> first | (simp [Option.bind_eq_some_iff] at h; done) | (obtain ⟨_,_,_,e,_⟩ := resolveD_inv h; simp at e; done) | contradiction)
theorem inv_region {ks : List Nat} {ops : List SOpG} (h : resolve P ann c = some (.region ks ops)) : ∃ id os,c = .region id os false ∧ os.toList.mapM (rOper P ann os) = some ops := by
 cases c <;> simp only [resolve] at h
 case region id os d =>
  split at h
  ·rename_i hd
   obtain ⟨l,hl,he⟩ := Option.map_eq_some_iff.1 h
   simp only [SCode.region.injEq] at he
   obtain ⟨_,rfl⟩ := he
   subst hd
   exact ⟨id,os,rfl,hl⟩
  ·obtain ⟨_,_,_,e,_⟩ := resolveD_inv h; simp at e
 all_goals first | (simp [Option.bind_eq_some_iff] at h; done) | (split at h <;> first | (simp [Option.bind_eq_some_iff] at h; done) | (obtain ⟨_,_,_,e,_⟩ := resolveD_inv h; simp at e; done) | contradiction)
theorem inv_drawn {ks : List Nat} {L : List DOp} (h : resolve P ann c = some (.drawn ks L)) : ∃ id os sos anc l,c = .region id os true ∧ os.toList.mapM (rOper P ann os) = some sos ∧ L = drawList os sos anc [] l ∧ drawOk os anc L = true := by
 cases c <;> simp only [resolve] at h
 case region id os d =>
  split at h
  ·simp at h
  ·rename_i hd
   obtain ⟨sos,anc,l,e,h1,h2⟩ := resolveD_inv h
   simp only [SCode.drawn.injEq] at e
   obtain ⟨_,rfl⟩ := e
   have : d = true := by simpa using hd
   subst this
   exact ⟨id,os,sos,anc,l,rfl,h1,rfl,h2⟩
 all_goals first | (simp [Option.bind_eq_some_iff] at h; done) | (split at h <;> first | (simp [Option.bind_eq_some_iff] at h; done) | (obtain ⟨_,_,_,e,_⟩ := resolveD_inv h; simp at e; done) | contradiction)
theorem inv_seq {x y : SCode} (h : resolve P ann c = some (.seq x y)) : ∃ cx cy,c = .seq cx cy ∧ resolve P ann cx = some x ∧ resolve P ann cy = some y := by
 cases c <;> simp only [resolve] at h
 case seq cx cy =>
  simp only [Option.bind_eq_some_iff,Option.map_eq_some_iff] at h
  obtain ⟨sx,hx,sy,hy,he⟩ := h
  simp only [SCode.seq.injEq] at he
  obtain ⟨rfl,rfl⟩ := he
  exact ⟨cx,cy,rfl,hx,hy⟩
 all_goals first | (simp [Option.bind_eq_some_iff] at h; done) | (split at h <;> first | (simp [Option.bind_eq_some_iff] at h; done) | (obtain ⟨_,_,_,e,_⟩ := resolveD_inv h; simp at e; done) | contradiction)
theorem inv_cond {x : SX} {t f : SCode} (h : resolve P ann c = some (.cond x t f)) : ∃ cx ct cf,c = .cond cx ct cf ∧ rX cx = some x ∧ resolve P ann ct = some t ∧ resolve P ann cf = some f := by
 cases c <;> simp only [resolve] at h
 case cond cx ct cf =>
  simp only [Option.bind_eq_some_iff,Option.map_eq_some_iff] at h
  obtain ⟨sx,hx,s1,h1,s2,h2,he⟩ := h
  simp only [SCode.cond.injEq] at he
  obtain ⟨rfl,rfl,rfl⟩ := he
  exact ⟨cx,ct,cf,rfl,hx,h1,h2⟩
 all_goals first | (simp [Option.bind_eq_some_iff] at h; done) | (split at h <;> first | (simp [Option.bind_eq_some_iff] at h; done) | (obtain ⟨_,_,_,e,_⟩ := resolveD_inv h; simp at e; done) | contradiction)
theorem inv_block {id : Nat} {b : SCode} (h : resolve P ann c = some (.block id b)) : ∃ cb,c = .block id cb ∧ resolve P ann cb = some b := by
 cases c <;> simp only [resolve] at h
 case block id' cb =>
  simp only [Option.map_eq_some_iff] at h
  obtain ⟨sb,hb,he⟩ := h
  simp only [SCode.block.injEq] at he
  obtain ⟨rfl,rfl⟩ := he
  exact ⟨cb,rfl,hb⟩
 all_goals first | (simp [Option.bind_eq_some_iff] at h; done) | (split at h <;> first | (simp [Option.bind_eq_some_iff] at h; done) | (obtain ⟨_,_,_,e,_⟩ := resolveD_inv h; simp at e; done) | contradiction)
theorem inv_loop {b : SCode} (h : resolve P ann c = some (.loop b)) : ∃ cb,c = .loop cb ∧ resolve P ann cb = some b := by
 cases c <;> simp only [resolve] at h
 case loop cb =>
  simp only [Option.map_eq_some_iff] at h
  obtain ⟨sb,hb,he⟩ := h
  simp only [SCode.loop.injEq] at he
  subst he
  exact ⟨cb,rfl,hb⟩
 all_goals first | (simp [Option.bind_eq_some_iff] at h; done) | (split at h <;> first | (simp [Option.bind_eq_some_iff] at h; done) | (obtain ⟨_,_,_,e,_⟩ := resolveD_inv h; simp at e; done) | contradiction)
theorem inv_scope {b r : SCode} {l : Nat} (h : resolve P ann c = some (.scope b l r)) : (∃ cb,c = .scope cb ∧ labelsOf cb = [l] ∧ resolve P ann cb = some b ∧ findL b l = some r) ∨
  ∃ cb s0 l0 r0,c = .scope cb ∧ b = .scope s0 l0 r0 ∧ labelsOf cb = [l0,l] ∧ l0 ≠ l ∧ resolve P ann cb = some s0 ∧ findL s0 l0 = some r0 ∧ findL s0 l = some r ∧ noGoto l0 r = true := by
 cases c <;> simp only [resolve] at h
 case scope cb =>
  split at h
  ·rename_i l0 hl
   obtain ⟨sb,hb,h⟩ := Option.bind_eq_some_iff.1 h
   obtain ⟨sr,hsr,he⟩ := Option.map_eq_some_iff.1 h
   simp only [SCode.scope.injEq] at he
   obtain ⟨rfl,rfl,rfl⟩ := he
   exact .inl ⟨cb,rfl,hl,hb,hsr⟩
  ·rename_i l0 l1 hl
   obtain ⟨sb,hb,h⟩ := Option.bind_eq_some_iff.1 h
   obtain ⟨sr,hsr,h⟩ := Option.bind_eq_some_iff.1 h
   obtain ⟨sr',hsr',h⟩ := Option.bind_eq_some_iff.1 h
   split at h
   ·rename_i hc
    simp only [Option.some.injEq,SCode.scope.injEq] at h
    obtain ⟨rfl,rfl,rfl⟩ := h
    exact .inr ⟨cb,_,_,_,rfl,rfl,hl,hc.1,hb,hsr,hsr',hc.2⟩
   ·simp at h
  ·simp at h
 all_goals first | (simp [Option.bind_eq_some_iff] at h; done) | (split at h <;> first | (simp [Option.bind_eq_some_iff] at h; done) | (obtain ⟨_,_,_,e,_⟩ := resolveD_inv h; simp at e; done) | contradiction)
end inv
def Snd (P : Program) (C : Oracle) (ann : Ann) (k : Nat) (s : SCode) : Prop := ∀ (c : Code),resolve P ann c = some s → ∀ (L0 : Nat → Prop) (g : G) (H : Heap) (w : World) (σ : List AV) (a : Act) (st : St),
  exec C k s σ H = some st → StR L0 g H w σ a.tmps none → HeapR g H w → Goes P L0 g H w a c st
def SndIn (P : Program) (C : Oracle) (ann : Ann) (k : Nat) : SCode → Prop
 | .scope b _ r => Snd P C ann k b ∧ Snd P C ann k r
 | _ => True
theorem jumps_e {f : List AV → Heap → Option St} {l m : Nat} (hf : ∀ σ H st,f σ H = some st → st.e ≠ .goto m) : ∀ (n : Nat) (s st : St),s.e ≠ .goto m → jumps f l n s = some st → st.e ≠ .goto m
 | 0,s,st,_,h => by simp [jumps] at h
 | n + 1,s,st,hs,h => by
  simp only [jumps] at h
  split at h
  ·obtain ⟨s2,h2,h3⟩ := Option.bind_eq_some_iff.1 h
   exact jumps_e hf n s2 st (hf _ _ _ h2) h3
  ·obtain rfl := Option.some.inj h; exact hs
theorem jumps_out {f : List AV → Heap → Option St} {l : Nat} : ∀ (n : Nat) (s st : St),jumps f l n s = some st → st.e ≠ .goto l
 | 0,s,st,h => by simp [jumps] at h
 | n + 1,s,st,h => by
  simp only [jumps] at h
  split at h
  ·obtain ⟨s2,h2,h3⟩ := Option.bind_eq_some_iff.1 h
   exact jumps_out n s2 st h3
  ·obtain rfl := Option.some.inj h; assumption
theorem exec_noGoto {C : Oracle} {k l : Nat} : ∀ (s : SCode),noGoto l s = true → ∀ (σ : List AV) (H : Heap) (st : St),exec C k s σ H = some st → st.e ≠ .goto l
 | .skip,_,σ,H,st,h => by simp only [exec,Option.some.injEq] at h; subst h; simp
 | .label _,_,σ,H,st,h => by simp only [exec,Option.some.injEq] at h; subst h; simp
 | .exit _,_,σ,H,st,h => by simp only [exec,Option.some.injEq] at h; subst h; simp
 | .ret,_,σ,H,st,h => by simp only [exec,Option.some.injEq] at h; subst h; simp
 | .goto l',hg,σ,H,st,h => by
  simp only [exec,Option.some.injEq] at h; subst h
  simp only [noGoto,bne_iff_ne,ne_eq] at hg
  simp [hg]
 | .region ks ops,_,σ,H,st,h => by
  simp only [exec] at h
  obtain ⟨_,_,rfl⟩ := Option.map_eq_some_iff.1 h; simp
 | .drawn ks ops,_,σ,H,st,h => by
  simp only [exec] at h
  obtain ⟨_,_,rfl⟩ := Option.map_eq_some_iff.1 h; simp
 | .seq a b,hg,σ,H,st,h => by
  simp only [noGoto,Bool.and_eq_true] at hg
  simp only [exec] at h
  obtain ⟨s1,h1,h2⟩ := Option.bind_eq_some_iff.1 h
  split at h2
  ·exact exec_noGoto b hg.2 _ _ _ h2
  ·obtain rfl := Option.some.inj h2; exact exec_noGoto a hg.1 _ _ _ h1
 | .cond x a b,hg,σ,H,st,h => by
  simp only [noGoto,Bool.and_eq_true] at hg
  simp only [exec] at h
  split at h
  ·split at h
   ·exact exec_noGoto a hg.1 _ _ _ h
   ·exact exec_noGoto b hg.2 _ _ _ h
  ·simp at h
 | .block id b,hg,σ,H,st,h => by
  simp only [noGoto] at hg
  simp only [exec] at h
  obtain ⟨s1,h1,rfl⟩ := Option.map_eq_some_iff.1 h
  have := exec_noGoto b hg _ _ _ h1
  split
  ·simp
  ·exact this
 | .loop b,hg,σ,H,st,h => by
  simp only [noGoto] at hg
  simp only [exec] at h
  have key : ∀ (n : Nat) (σ : List AV) (H : Heap),iter (exec C k b) n σ H = some st → st.e ≠ .goto l := by
   intro n
   induction n with
   | zero => intro σ H h; simp [iter] at h
   | succ n ih =>
    intro σ H h
    simp only [iter] at h
    obtain ⟨s1,h1,h2⟩ := Option.bind_eq_some_iff.1 h
    split at h2
    ·exact ih _ _ h2
    ·obtain rfl := Option.some.inj h2; exact exec_noGoto b hg _ _ _ h1
  exact key k σ H h
 | .scope b _ r,hg,σ,H,st,h => by
  simp only [noGoto,Bool.and_eq_true] at hg
  simp only [exec] at h
  obtain ⟨s1,h1,h2⟩ := Option.bind_eq_some_iff.1 h
  exact jumps_e (fun σ H st h => exec_noGoto r hg.2 σ H st h) k s1 st (exec_noGoto b hg.1 _ _ _ h1) h2
theorem jumps_wp {C : Oracle} {k l : Nat} {r : SCode} {rest : Code} {L0 : Nat → Prop} {g : G} {H : Heap} {w : World} {a : Act} (ihr : ∀ (L0 : Nat → Prop) (g : G) (H : Heap) (w : World) (σ : List AV) (a : Act) (st : St),
  exec C k r σ H = some st → StR L0 g H w σ a.tmps none → HeapR g H w → Goes P L0 g H w a rest st) {Q1 : Exit → Act → World → Prop} {s2 : St}
  (hfin : ∀ g1 w1 a1,StR L0 g1 s2.H w1 s2.σ a1.tmps none → HeapR g1 s2.H w1 → Ext g H w g1 s2.H w1 → (∀ b,L0 b → w1.heap[b]? = w.heap[b]?) → a1.defers = a.defers → Q1 (toExit s2.e) a1 w1) :
  ∀ (n : Nat) (s1 : St) (g1 : G) (w1 : World) (a1 : Act),jumps (exec C k r) l n s1 = some s2 → StR L0 g1 s1.H w1 s1.σ a1.tmps none → HeapR g1 s1.H w1 → Ext g H w g1 s1.H w1 → (∀ b,L0 b → w1.heap[b]? = w.heap[b]?) → a1.defers = a.defers →
   onGoto l (JumpN P rest l Q1 n) Q1 (toExit s1.e) a1 w1 := by
 intro n
 induction n with
 | zero => intro s1 g1 w1 a1 h; simp [jumps] at h
 | succ n ihn =>
  intro s1 g1 w1 a1 h hs1 hh1 hx1 hf1 hd1
  simp only [jumps] at h
  split at h
  ·rename_i he
   obtain ⟨s3,h2,h3⟩ := Option.bind_eq_some_iff.1 h
   rw [he]
   simp only [toExit,onGoto,if_true]
   refine Code.wp_mono ?_ (ihr L0 g1 s1.H w1 s1.σ a1 s3 h2 hs1 hh1)
   rintro e a2 w2 ⟨rfl,g2,q1,q2,q3,q4,q5⟩
   exact ihn s3 g2 w2 a2 h3 q1 q2 (hx1.trans q3) (fun b hb => (q4 b hb).trans (hf1 b hb)) (q5.trans hd1)
  ·rename_i hne
   obtain rfl := Option.some.inj h
   have hf := hfin g1 w1 a1 hs1 hh1 hx1 hf1 hd1
   cases he : s1.e with
   | goto l' =>
    have : l' ≠ l := fun e => hne (by rw [he,e])
    rw [he] at hf
    simp only [toExit,onGoto,if_neg this] at hf ⊢
    exact hf
   | _ => rw [he] at hf; exact hf
theorem exec_sound' {C : Oracle} (hC : SoundO P C) (hmix : P.follows .mixedOrders = true) {ann : Ann} (k : Nat) : ∀ (s : SCode),Snd P C ann k s ∧ SndIn P C ann k s := by
 intro s
 induction s with
 | skip =>
  refine ⟨?_,trivial⟩
  intro c hr L0 g H w σ a st h hs hh
  simp only [exec,Option.some.injEq] at h
  subst h
  obtain rfl := inv_skip hr
  exact wp_skip ⟨rfl,Reach.refl hs hh⟩
 | label l =>
  refine ⟨?_,trivial⟩
  intro c hr L0 g H w σ a st h hs hh
  simp only [exec,Option.some.injEq] at h
  subst h
  obtain rfl := inv_label hr
  exact wp_label ⟨rfl,Reach.refl hs hh⟩
 | exit id =>
  refine ⟨?_,trivial⟩
  intro c hr L0 g H w σ a st h hs hh
  simp only [exec,Option.some.injEq] at h
  subst h
  obtain rfl := inv_exit hr
  exact wp_exit ⟨rfl,Reach.refl hs hh⟩
 | goto id =>
  refine ⟨?_,trivial⟩
  intro c hr L0 g H w σ a st h hs hh
  simp only [exec,Option.some.injEq] at h
  subst h
  obtain rfl := inv_goto hr
  exact wp_goto ⟨rfl,Reach.refl hs hh⟩
 | ret =>
  refine ⟨?_,trivial⟩
  intro c hr L0 g H w σ a st h hs hh
  simp only [exec,Option.some.injEq] at h
  subst h
  obtain rfl := inv_ret hr
  exact wp_ret ⟨rfl,Reach.refl hs hh⟩
 | region ks ops =>
  refine ⟨?_,trivial⟩
  intro c hr L0 g H w σ a st h hs hh
  obtain ⟨id,os,rfl,hl⟩ := inv_region hr
  simp only [exec] at h
  obtain ⟨⟨σ',H'⟩,hv,rfl⟩ := Option.map_eq_some_iff.1 h
  refine wp_region_list ?_
  exact runOps_sound hC os.toList ops _ H g w a σ' H' hl hv (StR.kill _ hs) hh (fun a' w' hr => ⟨rfl,hr⟩)
 | drawn ks L =>
  refine ⟨?_,trivial⟩
  intro c hr L0 g H w σ a st h hs hh
  obtain ⟨id,os,sos,anc,l,rfl,hl,rfl,hok⟩ := inv_drawn hr
  simp only [exec] at h
  obtain ⟨⟨σ',H'⟩,hv,rfl⟩ := Option.map_eq_some_iff.1 h
  exact drawn_sound hC hmix hl hok hv (StR.kill _ hs) hh (fun a' w' hr => ⟨rfl,hr⟩)
 | seq x y ihx ihy =>
  refine ⟨?_,trivial⟩
  replace ihx := ihx.1
  replace ihy := ihy.1
  intro c hr L0 g H w σ a st h hs hh
  obtain ⟨cx,cy,rfl,hx,hy⟩ := inv_seq hr
  ·skip
   simp only [exec] at h
   obtain ⟨s1,h1,h2⟩ := Option.bind_eq_some_iff.1 h
   refine wp_seq (Code.wp_mono ?_ (ihx cx hx L0 g H w σ a s1 h1 hs hh))
   rintro e a1 w1 ⟨rfl,hr1⟩
   split at h2
   ·rename_i he
    rw [he]
    obtain ⟨g1,q1,q2,q3,q4,q5⟩ := hr1
    show cy.wp P _ a1 w1
    refine Code.wp_mono ?_ (ihy cy hy L0 g1 s1.H w1 s1.σ a1 st h2 q1 q2)
    rintro e a2 w2 ⟨rfl,hr2⟩
    exact ⟨rfl,(Reach.trans (σ1 := σ) (a1 := a) q3 q4 hr2).mono_df q5⟩
   ·rename_i hne
    obtain rfl := Option.some.inj h2
    cases he : s1.e <;> first
     | exact (hne he).elim
     | exact ⟨rfl,hr1⟩
     | exact ⟨congrArg toExit he.symm,hr1⟩
 | cond x t f iht ihf =>
  refine ⟨?_,trivial⟩
  replace iht := iht.1
  replace ihf := ihf.1
  intro c hr L0 g H w σ a st h hs hh
  obtain ⟨cx,ct,cf,rfl,hx,h1,h2⟩ := inv_cond hr
  ·skip
   simp only [exec] at h
   split at h
   ·rename_i b hb
    have hv := (evalX_rel hs hx).1
    rw [hb] at hv
    have hv := vr_c hv
    refine wp_cond hv ?_
    cases b
    ·simp only [Bool.false_eq_true,if_false] at h ⊢
     exact ihf cf h2 L0 g H w σ a st h hs hh
    ·simp only [if_true] at h ⊢
     exact iht ct h1 L0 g H w σ a st h hs hh
   ·simp at h
 | block id b ih =>
  refine ⟨?_,trivial⟩
  replace ih := ih.1
  intro c hr L0 g H w σ a st h hs hh
  obtain ⟨cb,rfl,hb⟩ := inv_block hr
  ·skip
   simp only [exec] at h
   obtain ⟨s1,h1,rfl⟩ := Option.map_eq_some_iff.1 h
   refine wp_block (Code.wp_mono ?_ (ih cb hb L0 g H w σ a s1 h1 hs hh))
   rintro e a1 w1 ⟨rfl,hr1⟩
   cases he : s1.e with
   | exit id2 =>
    by_cases e1 : id2 = id
    ·subst e1
     simp only [toExit,Exit.inBlock,if_true]
     first | exact ⟨rfl,hr1⟩ | exact ⟨trivial,hr1⟩
    ·have e2 : ¬ (AExit.exit id2 = AExit.exit id) := by simp [e1]
     simp only [toExit,Exit.inBlock,if_neg e1,if_neg e2]
     first | exact ⟨rfl,hr1⟩ | exact ⟨trivial,hr1⟩ | exact ⟨congrArg toExit he.symm,hr1⟩
   | _ =>
    simp only [toExit,Exit.inBlock,reduceCtorEq,if_false]
    first | exact ⟨rfl,hr1⟩ | exact ⟨trivial,hr1⟩ | exact ⟨congrArg toExit he.symm,hr1⟩
 | loop b ih =>
  refine ⟨?_,trivial⟩
  replace ih := ih.1
  intro c hr L0 g H w σ a st h hs hh
  obtain ⟨cb,rfl,hb⟩ := inv_loop hr
  ·skip
   simp only [exec] at h
   have key : ∀ (n : Nat) (g1 : G) (H1 : Heap) (w1 : World) (σ1 : List AV) (a1 : Act),iter (exec C k b) n σ1 H1 = some st → StR L0 g1 H1 w1 σ1 a1.tmps none → HeapR g1 H1 w1 → Ext g H w g1 H1 w1 → (∀ b,L0 b → w1.heap[b]? = w.heap[b]?) → a1.defers = a.defers →
     LoopN P cb (fun e a' w' => e = toExit st.e ∧ Reach L0 g H w a.defers st.σ st.H a' w') n a1 w1 := by
    intro n
    induction n with
    | zero => intro g1 H1 w1 σ1 a1 h; simp [iter] at h
    | succ n ihn =>
     intro g1 H1 w1 σ1 a1 h hs1 hh1 hx1 hf1 hd1
     simp only [iter] at h
     obtain ⟨s1,h1,h2⟩ := Option.bind_eq_some_iff.1 h
     refine Code.wp_mono ?_ (ih cb hb L0 g1 H1 w1 σ1 a1 s1 h1 hs1 hh1)
     rintro e a2 w2 ⟨rfl,hr1⟩
     obtain ⟨g2,q1,q2,q3,q4,q5⟩ := hr1
     split at h2
     ·rename_i he
      rw [he]
      exact ihn g2 s1.H w2 s1.σ a2 h2 q1 q2 (hx1.trans q3) (fun b hb => (q4 b hb).trans (hf1 b hb)) (q5.trans hd1)
     ·rename_i hne
      obtain rfl := Option.some.inj h2
      have hfin : Reach L0 g H w a.defers s1.σ s1.H a2 w2 := ⟨g2,q1,q2,hx1.trans q3,fun b hb => (q4 b hb).trans (hf1 b hb),q5.trans hd1⟩
      cases he : s1.e <;> first
       | exact (hne he).elim
       | exact ⟨rfl,hfin⟩
   exact wp_loopN (key k g H w σ a h hs hh (Ext.refl _ _ _) (fun _ _ => rfl) rfl)
 | scope b l r ihb ihr =>
  obtain ⟨ihb,ihbs⟩ := ihb
  replace ihr := ihr.1
  refine ⟨?_,ihb,ihr⟩
  intro c hr L0 g H w σ a st h hs hh
  rcases inv_scope hr with ⟨cb,rfl,hl,hb,hsr⟩ | ⟨cb,s0,l0,r0,rfl,rfl,hl,hne,hb,hsr0,hsr,hng⟩
  ·obtain ⟨rest,hf,hrest⟩ := findL_rel hb hsr
   have ho : ∀ l',l' ≠ l → findLabel cb l' = none := fun l' hne => by
    cases hfl : findLabel cb l' with
    | none => rfl
    | some x =>
     have := findLabel_labels hfl
     rw [hl] at this
     simp at this
     exact (hne this).elim
   simp only [exec] at h
   obtain ⟨s0,h0,hj⟩ := Option.bind_eq_some_iff.1 h
   refine wp_scopeN (n := k) hf ho (Code.wp_mono ?_ (ihb cb hb L0 g H w σ a s0 h0 hs hh))
   rintro e a1 w1 ⟨rfl,g1,q1,q2,q3,q4,q5⟩
   exact jumps_wp (ihr rest hrest) (s2 := st) (fun g1 w1 a1 c1 c2 c3 c4 c5 => ⟨rfl,g1,c1,c2,c3,c4,c5⟩) k s0 g1 w1 a1 hj q1 q2 q3 q4 q5
  ·obtain ⟨ihs0,ihr0⟩ := ihbs
   obtain ⟨rest0,hf0,hrest0⟩ := findL_rel hb hsr0
   obtain ⟨rest,hf,hrest⟩ := findL_rel hb hsr
   have ho : ∀ m,m ≠ l0 → m ≠ l → findLabel cb m = none := fun m h1 h2 => by
    cases hfl : findLabel cb m with
    | none => rfl
    | some x =>
     have := findLabel_labels hfl
     rw [hl] at this
     simp at this
     rcases this with h | h
     ·exact (h1 h).elim
     ·exact (h2 h).elim
   simp only [exec] at h
   obtain ⟨s2,h2,hj⟩ := Option.bind_eq_some_iff.1 h
   obtain ⟨s1,h1,hj0⟩ := Option.bind_eq_some_iff.1 h2
   have hst : st.e ≠ .goto l0 := jumps_e (fun σ H st h => exec_noGoto r hng σ H st h) k s2 st (jumps_out k s1 s2 hj0) hj
   refine wp_scopeN2 (n := k) (n' := k) hf0 hf hne ho (fun a' w' hq => ?_) (Code.wp_mono ?_ (ihs0 cb hb L0 g H w σ a s1 h1 hs hh))
   ·obtain ⟨e,_⟩ := hq
    cases he : st.e with
    | goto m => rw [he] at e; simp only [toExit,Exit.goto.injEq] at e; exact hst (by rw [he,e])
    | _ => rw [he] at e; simp [toExit] at e
   ·rintro e a1 w1 ⟨rfl,g1,q1,q2,q3,q4,q5⟩
    exact jumps_wp (ihr0 rest0 hrest0) (s2 := s2) (fun g1 w1 a1 c1 c2 c3 c4 c5 => jumps_wp (ihr rest hrest) (s2 := st) (fun g1 w1 a1 c1 c2 c3 c4 c5 => ⟨rfl,g1,c1,c2,c3,c4,c5⟩) k s2 g1 w1 a1 hj c1 c2 c3 c4 c5) k s1 g1 w1 a1 hj0 q1 q2 q3 q4 q5
theorem exec_sound {C : Oracle} (hC : SoundO P C) (hmix : P.follows .mixedOrders = true) {ann : Ann} (k : Nat) : ∀ (s : SCode) (c : Code),resolve P ann c = some s → ∀ (L0 : Nat → Prop) (g : G) (H : Heap) (w : World) (σ : List AV) (a : Act) (st : St),
  exec C k s σ H = some st → StR L0 g H w σ a.tmps none → HeapR g H w → Goes P L0 g H w a c st := fun s => (exec_sound' hC hmix k s).1
end Go.A
