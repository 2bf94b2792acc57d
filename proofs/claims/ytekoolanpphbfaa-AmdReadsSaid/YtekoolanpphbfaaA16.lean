/- THE ABSTRACT MACHINE: code and calls are sound. -/
import Derived.Test.YtekoolanpphbfaaD3
set_option linter.unusedSimpArgs false
set_option linter.unusedVariables false
set_option linter.unnecessarySimpa false
namespace Go.A
open Go
variable {P : Program}

theorem Reach.mono_df {L0 : Nat → Prop} {g : G} {H : Heap} {w : World} {df df' : List Deferred} {σ' : List AV} {H' : Heap} {a' : Act} {w' : World} (h : Reach L0 g H w df σ' H' a' w') (e : df = df') : Reach L0 g H w df' σ' H' a' w' := e ▸ h

theorem resolveD_inv {ann : Ann} {ks : List Nat} {os : Array Oper} {s : SCode} (h : resolveD P ann ks os = some s) : ∃ sos anc l, s = .drawn ks (drawList os sos anc [] l) ∧ os.toList.mapM (rOper P ann os) = some sos ∧ drawOk os anc (drawList os sos anc [] l) = true := by
  unfold resolveD at h
  obtain ⟨sos, h1, h2⟩ := Option.bind_eq_some_iff.1 h
  simp only at h2
  split at h2
  · rename_i hd
    exact ⟨sos, _, _, (Option.some.inj h2).symm, h1, hd⟩
  · simp at h2

/-- What a run of code has to show. -/
def Goes (P : Program) (L0 : Nat → Prop) (g : G) (H : Heap) (w : World) (a : Act) (c : Code) (st : St) : Prop :=
  c.wp P (fun e a' w' => e = toExit st.e ∧ Reach L0 g H w a.defers st.σ st.H a' w') a w

section inv
variable {ann : Ann} {c : Code}
theorem inv_skip (h : resolve P ann c = some .skip) : c = .skip := by
  cases c <;> simp only [resolve] at h
  case skip => rfl
  all_goals first | (simp [Option.bind_eq_some_iff] at h; done) | (split at h <;> first | (simp [Option.bind_eq_some_iff] at h; done) | (obtain ⟨_, _, _, e, _⟩ := resolveD_inv h; simp at e; done) | contradiction)
theorem inv_label {l : Nat} (h : resolve P ann c = some (.label l)) : c = .label l := by
  cases c <;> simp only [resolve] at h
  case label => simp at h; subst h; rfl
  all_goals first | (simp [Option.bind_eq_some_iff] at h; done) | (split at h <;> first | (simp [Option.bind_eq_some_iff] at h; done) | (obtain ⟨_, _, _, e, _⟩ := resolveD_inv h; simp at e; done) | contradiction)
theorem inv_exit {l : Nat} (h : resolve P ann c = some (.exit l)) : c = .exit l := by
  cases c <;> simp only [resolve] at h
  case exit => simp at h; subst h; rfl
  all_goals first | (simp [Option.bind_eq_some_iff] at h; done) | (split at h <;> first | (simp [Option.bind_eq_some_iff] at h; done) | (obtain ⟨_, _, _, e, _⟩ := resolveD_inv h; simp at e; done) | contradiction)
theorem inv_goto {l : Nat} (h : resolve P ann c = some (.goto l)) : c = .goto l := by
  cases c <;> simp only [resolve] at h
  case goto => simp at h; subst h; rfl
  all_goals first | (simp [Option.bind_eq_some_iff] at h; done) | (split at h <;> first | (simp [Option.bind_eq_some_iff] at h; done) | (obtain ⟨_, _, _, e, _⟩ := resolveD_inv h; simp at e; done) | contradiction)
theorem inv_ret (h : resolve P ann c = some .ret) : c = .ret := by
  cases c <;> simp only [resolve] at h
  case ret => rfl
  all_goals first | (simp [Option.bind_eq_some_iff] at h; done) | (split at h <;> first | (simp [Option.bind_eq_some_iff] at h; done) | (obtain ⟨_, _, _, e, _⟩ := resolveD_inv h; simp at e; done) | contradiction)
theorem inv_region {ks : List Nat} {ops : List SOpG} (h : resolve P ann c = some (.region ks ops)) : ∃ id os, c = .region id os false ∧ os.toList.mapM (rOper P ann os) = some ops := by
  cases c <;> simp only [resolve] at h
  case region id os d =>
    split at h
    · rename_i hd
      obtain ⟨l, hl, he⟩ := Option.map_eq_some_iff.1 h
      simp only [SCode.region.injEq] at he
      obtain ⟨_, rfl⟩ := he
      subst hd
      exact ⟨id, os, rfl, hl⟩
    · obtain ⟨_, _, _, e, _⟩ := resolveD_inv h; simp at e
  all_goals first | (simp [Option.bind_eq_some_iff] at h; done) | (split at h <;> first | (simp [Option.bind_eq_some_iff] at h; done) | (obtain ⟨_, _, _, e, _⟩ := resolveD_inv h; simp at e; done) | contradiction)
theorem inv_drawn {ks : List Nat} {L : List DOp} (h : resolve P ann c = some (.drawn ks L)) : ∃ id os sos anc l, c = .region id os true ∧ os.toList.mapM (rOper P ann os) = some sos ∧ L = drawList os sos anc [] l ∧ drawOk os anc L = true := by
  cases c <;> simp only [resolve] at h
  case region id os d =>
    split at h
    · simp at h
    · rename_i hd
      obtain ⟨sos, anc, l, e, h1, h2⟩ := resolveD_inv h
      simp only [SCode.drawn.injEq] at e
      obtain ⟨_, rfl⟩ := e
      have : d = true := by simpa using hd
      subst this
      exact ⟨id, os, sos, anc, l, rfl, h1, rfl, h2⟩
  all_goals first | (simp [Option.bind_eq_some_iff] at h; done) | (split at h <;> first | (simp [Option.bind_eq_some_iff] at h; done) | (obtain ⟨_, _, _, e, _⟩ := resolveD_inv h; simp at e; done) | contradiction)
theorem inv_seq {x y : SCode} (h : resolve P ann c = some (.seq x y)) : ∃ cx cy, c = .seq cx cy ∧ resolve P ann cx = some x ∧ resolve P ann cy = some y := by
  cases c <;> simp only [resolve] at h
  case seq cx cy =>
    simp only [Option.bind_eq_some_iff, Option.map_eq_some_iff] at h
    obtain ⟨sx, hx, sy, hy, he⟩ := h
    simp only [SCode.seq.injEq] at he
    obtain ⟨rfl, rfl⟩ := he
    exact ⟨cx, cy, rfl, hx, hy⟩
  all_goals first | (simp [Option.bind_eq_some_iff] at h; done) | (split at h <;> first | (simp [Option.bind_eq_some_iff] at h; done) | (obtain ⟨_, _, _, e, _⟩ := resolveD_inv h; simp at e; done) | contradiction)
theorem inv_cond {x : SX} {t f : SCode} (h : resolve P ann c = some (.cond x t f)) : ∃ cx ct cf, c = .cond cx ct cf ∧ rX cx = some x ∧ resolve P ann ct = some t ∧ resolve P ann cf = some f := by
  cases c <;> simp only [resolve] at h
  case cond cx ct cf =>
    simp only [Option.bind_eq_some_iff, Option.map_eq_some_iff] at h
    obtain ⟨sx, hx, s1, h1, s2, h2, he⟩ := h
    simp only [SCode.cond.injEq] at he
    obtain ⟨rfl, rfl, rfl⟩ := he
    exact ⟨cx, ct, cf, rfl, hx, h1, h2⟩
  all_goals first | (simp [Option.bind_eq_some_iff] at h; done) | (split at h <;> first | (simp [Option.bind_eq_some_iff] at h; done) | (obtain ⟨_, _, _, e, _⟩ := resolveD_inv h; simp at e; done) | contradiction)
theorem inv_block {id : Nat} {b : SCode} (h : resolve P ann c = some (.block id b)) : ∃ cb, c = .block id cb ∧ resolve P ann cb = some b := by
  cases c <;> simp only [resolve] at h
  case block id' cb =>
    simp only [Option.map_eq_some_iff] at h
    obtain ⟨sb, hb, he⟩ := h
    simp only [SCode.block.injEq] at he
    obtain ⟨rfl, rfl⟩ := he
    exact ⟨cb, rfl, hb⟩
  all_goals first | (simp [Option.bind_eq_some_iff] at h; done) | (split at h <;> first | (simp [Option.bind_eq_some_iff] at h; done) | (obtain ⟨_, _, _, e, _⟩ := resolveD_inv h; simp at e; done) | contradiction)
theorem inv_loop {b : SCode} (h : resolve P ann c = some (.loop b)) : ∃ cb, c = .loop cb ∧ resolve P ann cb = some b := by
  cases c <;> simp only [resolve] at h
  case loop cb =>
    simp only [Option.map_eq_some_iff] at h
    obtain ⟨sb, hb, he⟩ := h
    simp only [SCode.loop.injEq] at he
    subst he
    exact ⟨cb, rfl, hb⟩
  all_goals first | (simp [Option.bind_eq_some_iff] at h; done) | (split at h <;> first | (simp [Option.bind_eq_some_iff] at h; done) | (obtain ⟨_, _, _, e, _⟩ := resolveD_inv h; simp at e; done) | contradiction)
theorem inv_scope {b r : SCode} {l : Nat} (h : resolve P ann c = some (.scope b l r)) : ∃ cb, c = .scope cb ∧ labelsOf cb = [l] ∧ resolve P ann cb = some b ∧ findL b l = some r := by
  cases c <;> simp only [resolve] at h
  case scope cb =>
    split at h
    · rename_i l0 hl
      obtain ⟨sb, hb, h⟩ := Option.bind_eq_some_iff.1 h
      obtain ⟨sr, hsr, he⟩ := Option.map_eq_some_iff.1 h
      simp only [SCode.scope.injEq] at he
      obtain ⟨rfl, rfl, rfl⟩ := he
      exact ⟨cb, rfl, hl, hb, hsr⟩
    · simp at h
  all_goals first | (simp [Option.bind_eq_some_iff] at h; done) | (split at h <;> first | (simp [Option.bind_eq_some_iff] at h; done) | (obtain ⟨_, _, _, e, _⟩ := resolveD_inv h; simp at e; done) | contradiction)
end inv

theorem exec_sound {C : Oracle} (hC : SoundO P C) (hmix : P.follows .mixedOrders = true) {ann : Ann} (k : Nat) : ∀ (s : SCode) (c : Code), resolve P ann c = some s → ∀ (L0 : Nat → Prop) (g : G) (H : Heap) (w : World) (σ : List AV) (a : Act) (st : St),
    exec C k s σ H = some st → StR L0 g H w σ a.tmps none → HeapR g H w → Goes P L0 g H w a c st := by
  intro s
  induction s with
  | skip =>
    intro c hr L0 g H w σ a st h hs hh
    simp only [exec, Option.some.injEq] at h
    subst h
    obtain rfl := inv_skip hr
    exact wp_skip ⟨rfl, Reach.refl hs hh⟩
  | label l =>
    intro c hr L0 g H w σ a st h hs hh
    simp only [exec, Option.some.injEq] at h
    subst h
    obtain rfl := inv_label hr
    exact wp_label ⟨rfl, Reach.refl hs hh⟩
  | exit id =>
    intro c hr L0 g H w σ a st h hs hh
    simp only [exec, Option.some.injEq] at h
    subst h
    obtain rfl := inv_exit hr
    exact wp_exit ⟨rfl, Reach.refl hs hh⟩
  | goto id =>
    intro c hr L0 g H w σ a st h hs hh
    simp only [exec, Option.some.injEq] at h
    subst h
    obtain rfl := inv_goto hr
    exact wp_goto ⟨rfl, Reach.refl hs hh⟩
  | ret =>
    intro c hr L0 g H w σ a st h hs hh
    simp only [exec, Option.some.injEq] at h
    subst h
    obtain rfl := inv_ret hr
    exact wp_ret ⟨rfl, Reach.refl hs hh⟩
  | region ks ops =>
    intro c hr L0 g H w σ a st h hs hh
    obtain ⟨id, os, rfl, hl⟩ := inv_region hr
    simp only [exec] at h
    obtain ⟨⟨σ', H'⟩, hv, rfl⟩ := Option.map_eq_some_iff.1 h
    refine wp_region_list ?_
    exact runOps_sound hC os.toList ops _ H g w a σ' H' hl hv (StR.kill _ hs) hh (fun a' w' hr => ⟨rfl, hr⟩)
  | drawn ks L =>
    intro c hr L0 g H w σ a st h hs hh
    obtain ⟨id, os, sos, anc, l, rfl, hl, rfl, hok⟩ := inv_drawn hr
    simp only [exec] at h
    obtain ⟨⟨σ', H'⟩, hv, rfl⟩ := Option.map_eq_some_iff.1 h
    exact drawn_sound hC hmix hl hok hv (StR.kill _ hs) hh (fun a' w' hr => ⟨rfl, hr⟩)
  | seq x y ihx ihy =>
    intro c hr L0 g H w σ a st h hs hh
    obtain ⟨cx, cy, rfl, hx, hy⟩ := inv_seq hr
    · skip
      simp only [exec] at h
      obtain ⟨s1, h1, h2⟩ := Option.bind_eq_some_iff.1 h
      refine wp_seq (Code.wp_mono ?_ (ihx cx hx L0 g H w σ a s1 h1 hs hh))
      rintro e a1 w1 ⟨rfl, hr1⟩
      split at h2
      · rename_i he
        rw [he]
        obtain ⟨g1, q1, q2, q3, q4, q5⟩ := hr1
        show cy.wp P _ a1 w1
        refine Code.wp_mono ?_ (ihy cy hy L0 g1 s1.H w1 s1.σ a1 st h2 q1 q2)
        rintro e a2 w2 ⟨rfl, hr2⟩
        exact ⟨rfl, (Reach.trans (σ1 := σ) (a1 := a) q3 q4 hr2).mono_df q5⟩
      · rename_i hne
        obtain rfl := Option.some.inj h2
        cases he : s1.e <;> first
          | exact (hne he).elim
          | exact ⟨rfl, hr1⟩
          | exact ⟨congrArg toExit he.symm, hr1⟩
  | cond x t f iht ihf =>
    intro c hr L0 g H w σ a st h hs hh
    obtain ⟨cx, ct, cf, rfl, hx, h1, h2⟩ := inv_cond hr
    · skip
      simp only [exec] at h
      split at h
      · rename_i b hb
        have hv := (evalX_rel hs hx).1
        rw [hb] at hv
        have hv := vr_c hv
        refine wp_cond hv ?_
        cases b
        · simp only [Bool.false_eq_true, if_false] at h ⊢
          exact ihf cf h2 L0 g H w σ a st h hs hh
        · simp only [if_true] at h ⊢
          exact iht ct h1 L0 g H w σ a st h hs hh
      · simp at h
  | block id b ih =>
    intro c hr L0 g H w σ a st h hs hh
    obtain ⟨cb, rfl, hb⟩ := inv_block hr
    · skip
      simp only [exec] at h
      obtain ⟨s1, h1, rfl⟩ := Option.map_eq_some_iff.1 h
      refine wp_block (Code.wp_mono ?_ (ih cb hb L0 g H w σ a s1 h1 hs hh))
      rintro e a1 w1 ⟨rfl, hr1⟩
      cases he : s1.e with
      | exit id2 =>
        by_cases e1 : id2 = id
        · subst e1
          simp only [toExit, Exit.inBlock, if_true]
          first | exact ⟨rfl, hr1⟩ | exact ⟨trivial, hr1⟩
        · have e2 : ¬ (AExit.exit id2 = AExit.exit id) := by simp [e1]
          simp only [toExit, Exit.inBlock, if_neg e1, if_neg e2]
          first | exact ⟨rfl, hr1⟩ | exact ⟨trivial, hr1⟩ | exact ⟨congrArg toExit he.symm, hr1⟩
      | _ =>
        simp only [toExit, Exit.inBlock, reduceCtorEq, if_false]
        first | exact ⟨rfl, hr1⟩ | exact ⟨trivial, hr1⟩ | exact ⟨congrArg toExit he.symm, hr1⟩
  | loop b ih =>
    intro c hr L0 g H w σ a st h hs hh
    obtain ⟨cb, rfl, hb⟩ := inv_loop hr
    · skip
      simp only [exec] at h
      have key : ∀ (n : Nat) (g1 : G) (H1 : Heap) (w1 : World) (σ1 : List AV) (a1 : Act), iter (exec C k b) n σ1 H1 = some st → StR L0 g1 H1 w1 σ1 a1.tmps none → HeapR g1 H1 w1 → Ext g H w g1 H1 w1 → (∀ b, L0 b → w1.heap[b]? = w.heap[b]?) → a1.defers = a.defers →
          LoopN P cb (fun e a' w' => e = toExit st.e ∧ Reach L0 g H w a.defers st.σ st.H a' w') n a1 w1 := by
        intro n
        induction n with
        | zero => intro g1 H1 w1 σ1 a1 h; simp [iter] at h
        | succ n ihn =>
          intro g1 H1 w1 σ1 a1 h hs1 hh1 hx1 hf1 hd1
          simp only [iter] at h
          obtain ⟨s1, h1, h2⟩ := Option.bind_eq_some_iff.1 h
          refine Code.wp_mono ?_ (ih cb hb L0 g1 H1 w1 σ1 a1 s1 h1 hs1 hh1)
          rintro e a2 w2 ⟨rfl, hr1⟩
          obtain ⟨g2, q1, q2, q3, q4, q5⟩ := hr1
          split at h2
          · rename_i he
            rw [he]
            exact ihn g2 s1.H w2 s1.σ a2 h2 q1 q2 (hx1.trans q3) (fun b hb => (q4 b hb).trans (hf1 b hb)) (q5.trans hd1)
          · rename_i hne
            obtain rfl := Option.some.inj h2
            have hfin : Reach L0 g H w a.defers s1.σ s1.H a2 w2 := ⟨g2, q1, q2, hx1.trans q3, fun b hb => (q4 b hb).trans (hf1 b hb), q5.trans hd1⟩
            cases he : s1.e <;> first
              | exact (hne he).elim
              | exact ⟨rfl, hfin⟩
      exact wp_loopN (key k g H w σ a h hs hh (Ext.refl _ _ _) (fun _ _ => rfl) rfl)
  | scope b l r ihb ihr =>
    intro c hr L0 g H w σ a st h hs hh
    obtain ⟨cb, rfl, hl, hb, hsr⟩ := inv_scope hr
    · · skip
        obtain ⟨rest, hf, hrest⟩ := findL_rel hb hsr
        have ho : ∀ l', l' ≠ l → findLabel cb l' = none := fun l' hne => by
          cases hfl : findLabel cb l' with
          | none => rfl
          | some x =>
            have := findLabel_labels hfl
            rw [hl] at this
            simp at this
            exact (hne this).elim
        simp only [exec] at h
        obtain ⟨s0, h0, hj⟩ := Option.bind_eq_some_iff.1 h
        have key : ∀ (n : Nat) (s1 : St) (g1 : G) (w1 : World) (a1 : Act), jumps (exec C k r) l n s1 = some st → StR L0 g1 s1.H w1 s1.σ a1.tmps none → HeapR g1 s1.H w1 → Ext g H w g1 s1.H w1 → (∀ b, L0 b → w1.heap[b]? = w.heap[b]?) → a1.defers = a.defers →
            onGoto l (JumpN P rest l (fun e a' w' => e = toExit st.e ∧ Reach L0 g H w a.defers st.σ st.H a' w') n) (fun e a' w' => e = toExit st.e ∧ Reach L0 g H w a.defers st.σ st.H a' w') (toExit s1.e) a1 w1 := by
          intro n
          induction n with
          | zero => intro s1 g1 w1 a1 h; simp [jumps] at h
          | succ n ihn =>
            intro s1 g1 w1 a1 h hs1 hh1 hx1 hf1 hd1
            simp only [jumps] at h
            split at h
            · rename_i he
              obtain ⟨s2, h2, h3⟩ := Option.bind_eq_some_iff.1 h
              rw [he]
              simp only [toExit, onGoto, if_true]
              refine Code.wp_mono ?_ (ihr rest hrest L0 g1 s1.H w1 s1.σ a1 s2 h2 hs1 hh1)
              rintro e a2 w2 ⟨rfl, g2, q1, q2, q3, q4, q5⟩
              exact ihn s2 g2 w2 a2 h3 q1 q2 (hx1.trans q3) (fun b hb => (q4 b hb).trans (hf1 b hb)) (q5.trans hd1)
            · rename_i hne
              obtain rfl := Option.some.inj h
              have hfin : Reach L0 g H w a.defers s1.σ s1.H a1 w1 := ⟨g1, hs1, hh1, hx1, hf1, hd1⟩
              cases he : s1.e with
              | goto l' =>
                have : l' ≠ l := fun e => hne (by rw [he, e])
                simp only [toExit, onGoto, if_neg this]
                first | exact ⟨rfl, hfin⟩ | exact ⟨trivial, hfin⟩ | exact ⟨congrArg toExit he.symm, hfin⟩
              | _ => first | exact ⟨rfl, hfin⟩ | exact ⟨trivial, hfin⟩ | exact ⟨congrArg toExit he.symm, hfin⟩
        refine wp_scopeN (n := k) hf ho (Code.wp_mono ?_ (ihb cb hb L0 g H w σ a s0 h0 hs hh))
        rintro e a1 w1 ⟨rfl, g1, q1, q2, q3, q4, q5⟩
        exact key k s0 g1 w1 a1 hj q1 q2 q3 q4 q5

end Go.A
