/- THE VALUE MACHINE: regions that draw their order. -/
import Derived.Test.YtnmobjhmohcjfaaV7
import Derived.Test.YtnmobjhmohcjfaaD3
set_option linter.unusedSimpArgs false
set_option linter.unusedVariables false
set_option linter.unnecessarySimpa false
namespace Go.A.V
open Go Go.A
mutual
theorem selfE_rel {g : Gh} : ∀ {κ : Nat → Option Nat} (v a : AV),RV g κ v a → selfE v = true → eqAV a a = true
  | _,.undef,_,h,_ => by simp only [RV] at h; subst h; simp [eqAV]
  | _,.c v,_,h,e => by simp only [RV] at h; subst h; simpa [eqAV,selfE] using e
  | _,.ptr _ _ _,_,h,_ => by simp only [RV] at h; obtain ⟨_,_,rfl,_⟩ := h; simp [eqAV]
  | _,.sl ..,_,h,_ => by simp only [RV] at h; obtain ⟨_,_,rfl,_⟩ := h; simp [eqAV]
  | _,.vs ..,_,h,_ => by simp only [RV] at h; obtain ⟨_,_,_,_,_,_,rfl,_⟩ := h; simp [eqAV]
  | _,.vp ..,_,h,_ => by simp only [RV] at h; obtain ⟨_,_,_,_,rfl,_⟩ := h; simp [eqAV]
  | _,.lbox _,_,_,e => by simp [selfE] at e
  | _,.lptr _ _,_,h,_ => by simp only [RV] at h; subst h; simp [eqAV]
  | _,.agg xs,_,h,e => by
    simp only [RV] at h; obtain ⟨ys,rfl,h⟩ := h
    simp only [eqAV]
    exact selfEs_rel xs ys h (by simpa [selfE] using e)
  | _,.tup _,_,_,e => by simp [selfE] at e
  | _,.fn _ _,_,_,e => by simp [selfE] at e
  | _,.iface _ _,_,_,e => by simp [selfE] at e
  | _,.map _,_,_,e => by simp [selfE] at e
  | _,.imm _,_,_,e => by simp [selfE] at e
theorem selfEs_rel {g : Gh} : ∀ {κ : Nat → Option Nat} (v a : List AV),RVs g κ v a → selfEs v = true → eqAVs a a = true
  | _,[],_,h,_ => by simp only [RVs] at h; subst h; simp [eqAVs]
  | _,x :: xs,_,h,e => by
    simp only [RVs] at h
    obtain ⟨a,r,rfl,h1,h2⟩ := h
    simp only [selfEs,Bool.and_eq_true] at e
    simp only [eqAVs,Bool.and_eq_true]
    exact ⟨selfE_rel x a h1 e.1,selfEs_rel xs r h2 e.2⟩
end
section
variable {m0 : Nat} {wr : Bool} {g : Gh} {κ : Nat → Option Nat} {σ σA : List AV} {H : Heap}
theorem rdV_rel (hs : RVs g κ σ σA) (hh : HR g H) {so : SOp} (ho : okOp so = true) {v : AV} (h : rdV so σ H = some v) : ∃ a,rdv so σA g.M = some a ∧ RV g κ v a := by
  unfold rdV at h
  split at h
  · rename_i k x
    have hx := evalX_rel hs (by simpa [okOp] using ho)
    split at h
    · rename_i cs i e
      rw [e] at hx
      exact loadP_rel (σA := σA) hx h
    · exact loadA_rel hs hh hx h
  · rename_i x
    have hx := evalX_rel hs (show okX x = true by simpa [okOp] using ho)
    split at h
    · rename_i e
      obtain rfl := Option.some.inj h
      rw [e] at hx
      exact ⟨_,by simp only [rdv,rv_c hx],rv_of_c _ _ _⟩
    · rename_i k f l e
      split at h
      · rename_i hk1
        subst hk1
        obtain ⟨bs,e1,rfl⟩ := Option.map_eq_some_iff.1 h
        rw [e] at hx
        obtain ⟨r,off,cap,sz,gg,ex,ea,h1,h2,h3,h4,h5⟩ := rv_vsx hx
        refine ⟨.c (.string ⟨bs.toArray⟩),?_,rv_of_c _ _ _⟩
        have hrd : (rdRow0 g.M r off l.length gg).bind bytesOf = some bs := by
          by_cases hl : l = []
          · subst hl
            simpa [rdRow0] using e1
          · obtain ⟨_,as,q1,q2⟩ := h4 hl
            rw [Nat.mul_one] at q1
            rw [rdRow0_of (fun _ => q1) (fun e => (hl (List.length_eq_zero_iff.1 e)).elim),Option.bind_some]
            exact bytesOf_rel (rvss_rvs.1 q2) e1
        simp only [rdv,ea,hrd,Option.map_some]
      · simp at h
    · rename_i r off len cap sz gg ex e
      obtain ⟨bs,e1,rfl⟩ := Option.map_eq_some_iff.1 h
      rw [e] at hx
      simp only [RV] at hx
      obtain ⟨_,r',ea,hr⟩ := hx
      refine ⟨.c (.string ⟨bs.toArray⟩),?_,rv_of_c _ _ _⟩
      obtain ⟨cs,p1,p2⟩ := Option.bind_eq_some_iff.1 e1
      have hrd : (rdRow0 g.M r' off len gg).bind bytesOf = some bs := by
        unfold rdRow0 at p1 ⊢
        split at p1
        · rename_i e0
          rw [if_pos e0]
          obtain rfl := Option.some.inj p1
          exact p2
        · rename_i e0
          rw [if_neg e0]
          obtain ⟨as,q1,q2⟩ := rdRow_rel hh p1 hr
          rw [q1,Option.bind_some]
          exact bytesOf_rel q2 p2
      simp only [rdv,ea,hrd,Option.map_some]
    · simp at h
  · simp at h
theorem opA_slots {D : Oracle} {d : Option Nat} {so : SOp} (hn : so.noL = true) {σ : List AV} {M : Heap} {a : AV} {s1 : List AV} {M1 : Heap} (h : opA D d so σ M = some (a,s1,M1)) :
    s1 = σ ∨ ∃ k x v s i xs ys,so = .store k x v ∧ evalX σ x = .lptr s i ∧ σ.getD s .undef = .lbox xs ∧ s1 = σ.set s (.lbox ys) := by
  cases so <;> simp only [SOp.noL,Bool.false_eq_true] at hn <;> simp only [opA] at h
  case store k x v =>
    obtain ⟨⟨s2,M2⟩,e1,e2⟩ := Option.map_eq_some_iff.1 h
    simp only [Prod.mk.injEq] at e2
    obtain ⟨_,rfl,_⟩ := e2
    unfold storeA at e1
    split at e1
    · rename_i dd i ee
      split at e1
      · rename_i xs hd
        right
        split at e1
        · split at e1
          · split at e1
            · obtain ⟨ys,_,e3⟩ := Option.map_eq_some_iff.1 e1
              simp only [Prod.mk.injEq] at e3
              exact ⟨_,x,v,dd,i,xs,ys,rfl,ee,hd,e3.1.symm⟩
            · simp at e1
          · split at e1
            · obtain ⟨ys,_,e3⟩ := Option.map_eq_some_iff.1 e1
              simp only [Prod.mk.injEq] at e3
              exact ⟨_,x,v,dd,i,xs,ys,rfl,ee,hd,e3.1.symm⟩
            · simp at e1
          · simp at e1
        · simp at e1
      · simp at e1
    · left
      split at e1
      · obtain ⟨_,_,e3⟩ := Option.map_eq_some_iff.1 e1
        simp only [Prod.mk.injEq] at e3
        exact e3.1.symm
      · split at e1
        · obtain ⟨_,_,e3⟩ := Option.map_eq_some_iff.1 e1
          simp only [Prod.mk.injEq] at e3
          exact e3.1.symm
        · simp at e1
      · simp at e1
    · simp at e1
  case copy sz dd ss =>
    left
    obtain ⟨nd,e1,h⟩ := Option.bind_eq_some_iff.1 h
    obtain ⟨ns,e2,h⟩ := Option.bind_eq_some_iff.1 h
    obtain ⟨cs,e3,h⟩ := Option.bind_eq_some_iff.1 h
    split at h
    · simp only [Option.some.injEq,Prod.mk.injEq] at h; exact h.2.1.symm
    · split at h
      · simp only [Option.some.injEq,Prod.mk.injEq] at h; exact h.2.1.symm
      · obtain ⟨_,_,e⟩ := Option.map_eq_some_iff.1 h
        simp only [Prod.mk.injEq] at e; exact e.2.1.symm
    · simp at h
  case cut k x lo hi mx =>
    left
    cases k <;> simp only at h
    · obtain ⟨_,_,e⟩ := Option.map_eq_some_iff.1 h; simp only [Prod.mk.injEq] at e; exact e.2.1.symm
    · obtain ⟨_,_,e⟩ := Option.map_eq_some_iff.1 h; simp only [Prod.mk.injEq] at e; exact e.2.1.symm
    · split at h
      · obtain ⟨_,_,e⟩ := Option.map_eq_some_iff.1 h; simp only [Prod.mk.injEq] at e; exact e.2.1.symm
      · simp at h
  case len k x =>
    left
    cases k <;> simp only at h
    · split at h <;> first | (simp at h; done) | (simp only [Option.some.injEq,Prod.mk.injEq] at h; exact h.2.1.symm)
    · split at h <;> first | (simp at h; done) | (simp only [Option.some.injEq,Prod.mk.injEq] at h; exact h.2.1.symm)
    · simp only [Option.some.injEq,Prod.mk.injEq] at h; exact h.2.1.symm
    · split at h <;> first | (simp at h; done) | (simp only [Option.some.injEq,Prod.mk.injEq] at h; exact h.2.1.symm)
  case bslice len sz zs ps =>
    left
    obtain ⟨cs,_,h⟩ := Option.bind_eq_some_iff.1 h
    split at h <;> first | (simp at h; done) | (simp only [Option.some.injEq,Prod.mk.injEq] at h; exact h.2.1.symm)
  all_goals left
  all_goals first
    | (simp at h; done)
    | (simp only [Option.some.injEq,Prod.mk.injEq] at h; exact h.2.1.symm)
    | (obtain ⟨_,_,e⟩ := Option.map_eq_some_iff.1 h; simp only [Prod.mk.injEq] at e; exact e.2.1.symm)
    | (split at h <;> first
        | (simp at h; done)
        | (simp only [Option.some.injEq,Prod.mk.injEq] at h; exact h.2.1.symm)
        | (obtain ⟨_,_,e⟩ := Option.map_eq_some_iff.1 h; simp only [Prod.mk.injEq] at e; exact e.2.1.symm)
        | (split at h <;> first
            | (simp at h; done)
            | (simp only [Option.some.injEq,Prod.mk.injEq] at h; exact h.2.1.symm)
            | (obtain ⟨_,_,e⟩ := Option.map_eq_some_iff.1 h; simp only [Prod.mk.injEq] at e; exact e.2.1.symm)
            | (obtain ⟨_,_,h⟩ := Option.bind_eq_some_iff.1 h; split at h <;> first | (simp at h; done) | (simp only [Option.some.injEq,Prod.mk.injEq] at h; exact h.2.1.symm))))
def quietOp (W : FuncId → Bool) (σ : List AV) : SOp → Bool
  | .store _ b _ => (match evalX σ b with
    | .lptr _ _ => true
    | _ => false)
  | .call f _ => !W f
  | .callv _ _ => false
  | .append _ _ _ _ => false
  | .copy _ _ _ => false
  | _ => true
theorem opA_heap {D : Oracle} {d : Option Nat} {so : SOp} {σ : List AV} {M : Heap} {a : AV} {s1 : List AV} {M1 : Heap} (h : opA D d so σ M = some (a,s1,M1)) (W : FuncId → Bool) (hq : quietOp W σ so = true) :
    (∃ f xs,so = .call f xs) ∨ (∃ x y,so = .copy 0 x y ∨ ∃ k,so = .copy k x y) ∨ ∃ N,M1 = M ++ N := by
  have h0 : ∀ {M1 : Heap},M = M1 → ∃ N,M1 = M ++ N := fun e => ⟨[],by simp [e]⟩
  cases so <;> simp only [opA] at h
  case call f xs => exact .inl ⟨f,xs,rfl⟩
  case callv f xs => simp [quietOp] at hq
  case append => simp [quietOp] at hq
  case copy k x y => exact .inr (.inl ⟨x,y,.inr ⟨k,rfl⟩⟩)
  case store k x v =>
    right; right
    simp only [quietOp] at hq
    split at hq
    · rename_i s i e
      rw [e] at h
      obtain ⟨⟨s2,M2⟩,e1,e2⟩ := Option.map_eq_some_iff.1 h
      simp only [Prod.mk.injEq] at e2
      obtain ⟨_,_,rfl⟩ := e2
      simp only [storeA] at e1
      split at e1
      · split at e1
        · split at e1
          · split at e1
            · obtain ⟨_,_,e3⟩ := Option.map_eq_some_iff.1 e1; simp only [Prod.mk.injEq] at e3; exact h0 e3.2
            · simp at e1
          · split at e1
            · obtain ⟨_,_,e3⟩ := Option.map_eq_some_iff.1 e1; simp only [Prod.mk.injEq] at e3; exact h0 e3.2
            · simp at e1
          · simp at e1
        · simp at e1
      · simp at e1
    · simp at hq
  case cut k x lo hi mx =>
    right; right
    cases k <;> simp only at h
    · obtain ⟨_,_,e⟩ := Option.map_eq_some_iff.1 h; simp only [Prod.mk.injEq] at e; exact h0 e.2.2
    · obtain ⟨_,_,e⟩ := Option.map_eq_some_iff.1 h; simp only [Prod.mk.injEq] at e; exact h0 e.2.2
    · split at h
      · obtain ⟨_,_,e⟩ := Option.map_eq_some_iff.1 h; simp only [Prod.mk.injEq] at e; exact h0 e.2.2
      · simp at h
  case len k x =>
    right; right
    cases k <;> simp only at h
    · split at h <;> first | (simp at h; done) | (simp only [Option.some.injEq,Prod.mk.injEq] at h; exact h0 h.2.2)
    · split at h <;> first | (simp at h; done) | (simp only [Option.some.injEq,Prod.mk.injEq] at h; exact h0 h.2.2)
    · simp only [Option.some.injEq,Prod.mk.injEq] at h; exact h0 h.2.2
    · split at h <;> first | (simp at h; done) | (simp only [Option.some.injEq,Prod.mk.injEq] at h; exact h0 h.2.2)
  case bslice len sz zs ps =>
    right; right
    obtain ⟨cs,_,h⟩ := Option.bind_eq_some_iff.1 h
    split at h <;> first | (simp at h; done) | (simp only [Option.some.injEq,Prod.mk.injEq] at h; exact ⟨_,h.2.2.symm⟩)
  all_goals right
  all_goals right
  all_goals first
    | (simp at h; done)
    | (simp only [Option.some.injEq,Prod.mk.injEq] at h; first | exact h0 h.2.2 | exact ⟨_,h.2.2.symm⟩)
    | (obtain ⟨_,_,e⟩ := Option.map_eq_some_iff.1 h; simp only [Prod.mk.injEq] at e; exact h0 e.2.2)
    | (split at h <;> first
        | (simp at h; done)
        | (simp only [Option.some.injEq,Prod.mk.injEq] at h; first | exact h0 h.2.2 | exact ⟨_,h.2.2.symm⟩)
        | (obtain ⟨_,_,e⟩ := Option.map_eq_some_iff.1 h; simp only [Prod.mk.injEq] at e; exact h0 e.2.2)
        | (split at h <;> first
            | (simp at h; done)
            | (simp only [Option.some.injEq,Prod.mk.injEq] at h; first | exact h0 h.2.2 | exact ⟨_,h.2.2.symm⟩)
            | (obtain ⟨_,_,e⟩ := Option.map_eq_some_iff.1 h; simp only [Prod.mk.injEq] at e; exact h0 e.2.2)
            | (obtain ⟨_,_,h⟩ := Option.bind_eq_some_iff.1 h; split at h <;> first | (simp at h; done) | (simp only [Option.some.injEq,Prod.mk.injEq] at h; exact h0 h.2.2))))
theorem quiet_sim {W : FuncId → Bool} {C D : Oracle} {m : Md} (hs : RVs g κ σ σA) (hh : HR g H) (hC : SimO W C D)
    {d : Option Nat} {so : SOp} (ho : okOp so = true) {v : AV} {σ' : List AV} {H' : Heap} (hq : quietOp W σ so = true) (h : opV m C d so σ H = some (v,σ',H'))
    {a : AV} {s1 : List AV} {M1 : Heap} (ha : opA D d so σA g.M = some (a,s1,M1)) : ∀ q,q < g.M.length → M1[q]? = g.M[q]? := by
  have hqA : quietOp W σA so = true := by
    cases so <;> simp only [quietOp] at hq ⊢ <;> first | exact hq | skip
    rename_i k b c
    simp only [okOp,Bool.and_eq_true] at ho
    have hb := evalX_rel hs ho.1
    split at hq
    · rename_i s i e
      rw [e] at hb
      simp only [RV] at hb
      rw [hb]
    · simp at hq
  rcases opA_heap ha W hqA with ⟨f,xs,rfl⟩ | ⟨x,y,hc⟩ | ⟨N,rfl⟩
  · simp only [okOp] at ho
    have hx := evalXs_rel hs ho
    simp only [opV] at h
    split at h
    · obtain ⟨⟨v1,H1⟩,e1,e2⟩ := Option.map_eq_some_iff.1 h
      obtain ⟨b,g',κr,q1,_,_,_,_,_,q5,q6⟩ := hC f _ H v1 H1 e1 g _ hh (rvs_pln (κ' := no) _ _ hx)
      simp only [opA] at ha
      split at ha
      · rw [q1] at ha
        simp only [Option.map_some,Option.some.injEq,Prod.mk.injEq] at ha
        obtain ⟨_,_,rfl⟩ := ha
        intro q hql
        by_cases hf : Far g q
        · exact q5 q hql hf
        · obtain ⟨r,hr⟩ := Classical.not_forall.1 hf
          exact q6 (by simpa [quietOp] using hq) r q (Classical.not_not.1 hr)
      · simp at ha
    · simp at h
  · rcases hc with rfl | ⟨k,rfl⟩ <;> simp [quietOp] at hq
  · intro q hql
    exact List.getElem?_append_left hql
theorem keepB_quiet {W : FuncId → Bool} {d x : SOpG} {k : Option Nat} {b : SX} {r i n : Nat} (hx : x.op = .load k b) (he : evalX σ b = .ptr r i n) (h : keepB W σ d x = true) : quietOp W σ d.op = true := by
  unfold keepB at h
  rw [hx] at h
  simp only [he,Bool.and_eq_true] at h
  cases hd : d.op <;> rw [hd] at h <;> simp only [quietOp] <;> first | rfl | exact h.2 | (simp at h; done)
theorem rv_lptr_inv {v : AV} {s i : Nat} (h : RV g κ v (.lptr s i)) : v = .lptr s i := by
  cases v <;> simp only [RV] at h
  case undef => simp at h
  case c => simp at h
  case ptr => obtain ⟨_,_,e,_⟩ := h; simp at e
  case sl => obtain ⟨_,_,e,_⟩ := h; simp at e
  case vs => obtain ⟨_,_,_,_,_,_,e,_⟩ := h; simp at e
  case vp => obtain ⟨_,_,_,_,e,_⟩ := h; simp at e
  case lbox => obtain ⟨_,e,_⟩ := h; simp at e
  case lptr => simp only [AV.lptr.injEq] at h; rw [h.1,h.2]
  case agg => obtain ⟨_,e,_⟩ := h; simp at e
  case tup => obtain ⟨_,e,_⟩ := h; simp at e
  case fn => obtain ⟨_,e,_⟩ := h; simp at e
  case iface => obtain ⟨_,e,_⟩ := h; simp at e
  case imm => simp at h
theorem getD_setD (σ : List AV) (d : Option Nat) (v : AV) (n : Nat) (h : d ≠ some n) : (setD σ d v).getD n .undef = σ.getD n .undef := by
  cases d with
  | none => rfl
  | some t =>
    simp only [setD,List.getD_eq_getElem?_getD]
    rw [List.getElem?_set_ne (fun e => h (by rw [e]))]
theorem len_setD (σ : List AV) (d : Option Nat) (v : AV) : (setD σ d v).length = σ.length := by cases d <;> simp [setD]
def SlotsOf (d : SOpG) (σ σ' : List AV) : Prop := σ'.length = σ.length ∧ ∀ n,d.dst ≠ some n → σ'.getD n .undef = σ.getD n .undef ∨ ∃ xs ys k b v i,σ.getD n .undef = .lbox xs ∧ σ'.getD n .undef = .lbox ys ∧ d.op = .store k b v ∧ evalX σ b = .lptr n i
theorem step_slots {D : Oracle} {d : SOpG} (hn : d.op.noL = true) {σ σ' : List AV} {M M' : Heap} (h : stepA D d σ M = some (σ',M')) : SlotsOf d σ σ' := by
  unfold stepA at h
  split at h
  · simp at h
  · split at h
    · obtain ⟨⟨a,s1,M1⟩,e1,e2⟩ := Option.bind_eq_some_iff.1 h
      simp only at e2
      split at e2
      · simp at e2
      · simp only [Option.some.injEq,Prod.mk.injEq] at e2
        obtain ⟨rfl,rfl⟩ := e2
        rcases opA_slots hn e1 with rfl | ⟨k,x,v,s,i,xs,ys,q1,q2,q3,rfl⟩
        · exact ⟨len_setD _ _ _,fun n hd => .inl (getD_setD _ _ _ n hd)⟩
        · refine ⟨by rw [len_setD]; simp,fun n hd => ?_⟩
          rw [getD_setD _ _ _ n hd]
          by_cases e : s = n
          · subst e
            right
            have hl : s < σ.length := by
              rw [List.getD_eq_getElem?_getD] at q3
              cases hx : σ[s]? with
              | none => rw [hx] at q3; simp at q3
              | some _ => exact (List.getElem?_eq_some_iff.1 hx).1
            exact ⟨xs,ys,k,x,v,i,q3,by rw [List.getD_eq_getElem?_getD,List.getElem?_set_self hl]; rfl,q1,q2⟩
          · left
            rw [List.getD_eq_getElem?_getD,List.getD_eq_getElem?_getD,List.getElem?_set_ne e]
    · simp only [Option.some.injEq,Prod.mk.injEq] at h
      obtain ⟨rfl,rfl⟩ := h
      exact ⟨len_setD _ _ _,fun n hd => .inl (getD_setD _ _ _ n hd)⟩
    · simp at h
theorem slots_wanted {d : SOpG} {σ σ' : List AV} (h : SlotsOf d σ σ') {gd : Option (Nat × Bool)} (hg : ∀ t w,gd = some (t,w) → d.dst ≠ some t) : wanted σ' gd = wanted σ gd := by
  cases gd with
  | none => rfl
  | some p =>
    obtain ⟨t,w⟩ := p
    rcases h.2 t (hg t w rfl) with e | ⟨xs,ys,_,_,_,_,e1,e2,_⟩
    · simp only [wanted,e]
    · simp only [wanted,e1,e2]
theorem slots_eval {d : SOpG} {σ σ' : List AV} (h : SlotsOf d σ σ') {x : SX} (hx : ∀ n ∈ x.slots,d.dst ≠ some n) : evalX σ' x = evalX σ x := by
  cases x with
  | k v => rfl
  | t n =>
    rcases h.2 n (hx n (by simp [SX.slots])) with e | ⟨xs,ys,_,_,_,_,e1,e2,_⟩
    · simp only [evalX,e]
    · simp only [evalX,e1,e2]
theorem dstNot_ne {d : Option Nat} {l : List Nat} (h : dstNot d l = true) {n : Nat} (hn : n ∈ l) : d ≠ some n := by
  rintro rfl
  simp [dstNot,hn] at h
theorem far_load {g' : Gh} (hu : Up g g') {r o gg : Nat} (hf : Far g r) {k : Option Nat} {σ1 σ2 : List AV} {v : AV} (h : loadA σ1 g.M k (.ptr r o gg) = some v) : loadA σ2 g'.M k (.ptr r o gg) = some v := by
  cases k with
  | none =>
    simp only [loadA] at h ⊢
    obtain ⟨l,e1,e2⟩ := Option.bind_eq_some_iff.1 h
    rw [hu.rd r hf _ _ _ _ e1]
    exact e2
  | some n =>
    simp only [loadA] at h ⊢
    obtain ⟨l,e1,e2⟩ := Option.map_eq_some_iff.1 h
    rw [hu.rd r hf _ _ _ _ e1,← e2]
    rfl
theorem row_load {M M' : Heap} (hM : ∀ q,q < M.length → M'[q]? = M[q]?) {r o gg : Nat} {k : Option Nat} {σ1 σ2 : List AV} {v : AV} (h : loadA σ1 M k (.ptr r o gg) = some v) : loadA σ2 M' k (.ptr r o gg) = some v := by
  have hr : ∀ i n as,rdRow M r i n gg = some as → rdRow M' r i n gg = some as := fun i n as e => by
    have hl := rdRow_lt e
    unfold rdRow at e ⊢
    rw [hM r hl]; exact e
  cases k with
  | none =>
    simp only [loadA] at h ⊢
    obtain ⟨l,e1,e2⟩ := Option.bind_eq_some_iff.1 h
    rw [hr _ _ _ e1]
    exact e2
  | some n =>
    simp only [loadA] at h ⊢
    obtain ⟨l,e1,e2⟩ := Option.map_eq_some_iff.1 h
    rw [hr _ _ _ e1,← e2]
    rfl
theorem same_keep {W : FuncId → Bool} {C D : Oracle} {m : Md} (hs : RVs g κ σ σA) (hh : HR g H) (hC : SimO W C D) {d x : SOpG} (hd : okOp d.op = true) (hx : okOp x.op = true) {σ' : List AV} {H' : Heap}
    (hV : stepV m C d σ H = some (σ',H')) {σA' : List AV} {g' : Gh} (hA : stepA D d σA g.M = some (σA',g'.M)) (hu : Up g g') (hk : keepB W σ d x = true) (h : Same σA g.M x) : Same σA' g'.M x := by
  have hk0 := hk
  unfold keepB at hk
  simp only [Bool.and_eq_true,Bool.not_eq_true'] at hk
  obtain ⟨⟨⟨⟨k1,k2⟩,k3⟩,k4⟩,k5⟩ := hk
  have hsl := step_slots k3 hA
  intro hr t ht hw
  rw [slots_wanted hsl (fun t' w' e => dstNot_ne k1 (by simp [SOpG.reads,e]))] at hw
  obtain ⟨v,e1,e2,e3⟩ := h hr t ht hw
  have hop : ∀ n ∈ x.op.slots,d.dst ≠ some n := fun n hn => dstNot_ne k1 (by simp [SOpG.reads,hn])
  refine ⟨v,?_,?_,e3⟩
  · cases hxo : x.op with
    | load k b =>
      rw [hxo] at e1 hop
      simp only [rdv] at e1 ⊢
      rw [slots_eval hsl (x := b) (fun n hn => hop n (by simpa [SOp.slots] using hn))]
      have hb := evalX_rel hs (show okX b = true by rw [hxo] at hx; simpa [okOp] using hx)
      rw [hxo] at k5
      simp only at k5
      split at k5
      · rename_i cs i e
        rw [e] at hb
        simp only [RV] at hb
        obtain ⟨r,o,gg,as,ea,hf,_⟩ := hb
        rw [ea] at e1 ⊢
        exact far_load hu hf e1
      · rename_i s i e
        rw [e] at hb
        simp only [RV] at hb
        rw [hb] at e1 ⊢
        simp only [loadA] at e1 ⊢
        have hbx : ∃ xs,σA.getD s .undef = .lbox xs := by
          split at e1
          · rename_i xs hd'; exact ⟨xs,hd'⟩
          · simp at e1
        obtain ⟨xs,hxs⟩ := hbx
        have hne : d.dst ≠ some s := by
          intro e4
          rw [← dstBox_rel hs,e4] at k4
          simp only [dstBox] at k4
          rw [hxs] at k4
          simp [AV.isBox] at k4
        rcases hsl.2 s hne with q | ⟨_,_,k',b',v',i',_,_,q3,q4⟩
        · rw [q]; exact e1
        · exfalso
          rw [q3] at k5 hd
          simp only [okOp,Bool.and_eq_true] at hd
          have hb' := evalX_rel hs hd.1
          rw [q4] at hb'
          have k6 := rv_lptr_inv hb'
          simp [k6] at k5
      · rename_i r i n e
        have hq := keepB_quiet hxo e hk0
        rw [e] at hb
        simp only [RV] at hb
        obtain ⟨_,r',ea,_⟩ := hb
        rw [ea] at e1 ⊢
        have hM : ∀ q,q < g.M.length → g'.M[q]? = g.M[q]? := by
          unfold stepA at hA
          unfold stepV at hV
          split at hA
          · simp at hA
          · split at hV
            · simp at hV
            · split at hA
              · rename_i hwA
                obtain ⟨⟨a,s1,M1⟩,f1,f2⟩ := Option.bind_eq_some_iff.1 hA
                simp only at f2
                split at f2
                · simp at f2
                · simp only [Option.some.injEq,Prod.mk.injEq] at f2
                  split at hV
                  · obtain ⟨⟨v1,s2,H1⟩,f3,f4⟩ := Option.bind_eq_some_iff.1 hV
                    rw [← f2.2]
                    exact quiet_sim hs hh hC hd hq f3 f1
                  · rename_i hwV
                    have := wanted_rel hs hwV
                    rw [hwA] at this
                    simp at this
                  · simp at hV
              · simp only [Option.some.injEq,Prod.mk.injEq] at hA
                intro q _
                rw [← hA.2]
              · simp at hA
        exact row_load hM e1
      · simp at k5
    | conv k y =>
      rw [hxo] at e1 hop
      cases k with
      | int _ => simp [rdv] at e1
      | same => simp [rdv] at e1
      | toBytes => simp [rdv] at e1
      | mark => simp [rdv] at e1
      | toStr =>
        simp only [rdv] at e1 ⊢
        rw [slots_eval hsl (x := y) (fun n hn => hop n (by simpa [SOp.slots] using hn))]
        have hb := evalX_rel hs (show okX y = true by rw [hxo] at hx; simpa [okOp] using hx)
        rw [hxo] at k5
        simp only [Bool.or_eq_true] at k5
        rcases k5 with k5 | k5
        · cases hy : evalX σ y <;> rw [hy] at k5 hb <;> simp [isVs] at k5
          obtain ⟨r,off,cap,sz,gg,ex,ea,h1,h2,h3,h4,h5⟩ := rv_vsx hb
          rw [ea] at e1 ⊢
          rename_i kk ff l
          simp only at e1 ⊢
          obtain ⟨bs,f1,f2⟩ := Option.map_eq_some_iff.1 e1
          obtain ⟨cs,f3,f4⟩ := Option.bind_eq_some_iff.1 f1
          have : rdRow0 g'.M r off l.length gg = some cs := by
            unfold rdRow0 at f3 ⊢
            split at f3
            · rename_i e0; rw [if_pos e0]; exact f3
            · rename_i e0
              rw [if_neg e0]
              exact hu.rd r (h4 (fun e => e0 (by rw [e]; rfl))).1 _ _ _ _ f3
          rw [this,Option.bind_some,f4,← f2]
          rfl
        · unfold isNilC at k5
          split at k5
          · rename_i hy
            rw [hy] at hb
            rw [rv_c hb] at e1 ⊢
            exact e1
          · simp at k5
    | _ => rw [hxo] at e1; simp [rdv] at e1
  · have hne : d.dst ≠ some t := by
      intro e4
      rw [e4,ht] at k2
      simp [dstNe] at k2
    have hl := (List.getElem?_eq_some_iff.1 e2).1
    have hg : σA.getD t .undef = v := by rw [List.getD_eq_getElem?_getD,e2]; rfl
    rcases hsl.2 t hne with q | ⟨xs,_,_,_,_,_,q1,_⟩
    · rw [hg,List.getD_eq_getElem?_getD] at q
      rw [List.getElem?_eq_getElem (by rw [hsl.1]; exact hl)] at q ⊢
      exact congrArg some q
    · rw [hg] at q1
      subst q1
      simp [eqAV] at e3
theorem good_sim {C : Oracle} {D : Oracle} (hs : RVs g κ σ σA) (hh : HR g H) {d : SOpG} (hd : okOp d.op = true) (hr : d.op.cls = .read) {σA' : List AV} {M' : Heap}
    (hA : stepA D d σA g.M = some (σA',M')) (hg : goodB σ H d = true) : Same σA' M' d := by
  unfold goodB at hg
  simp only [Bool.and_eq_true] at hg
  obtain ⟨⟨g1,g2⟩,g3⟩ := hg
  split at g3
  case h_2 => simp at g3
  rename_i v hv
  obtain ⟨a,q1,q2⟩ := rdV_rel hs hh hd hv
  have hself := selfE_rel v a q2 g3
  intro _ t ht hw
  rw [ht] at g2
  simp only [decide_eq_true_eq] at g2
  have hop : ∀ n ∈ d.op.slots,d.dst ≠ some n := fun n hn => dstNot_ne g1 (by simp [SOpG.reads,hn])
  have hgd : ∀ t' w',d.guard = some (t',w') → d.dst ≠ some t' := fun t' w' e => dstNot_ne g1 (by simp [SOpG.reads,e])
  have hnoL : d.op.noL = true := by
    cases hdo : d.op <;> rw [hdo] at hr <;> simp [SOp.cls] at hr <;> rfl
  have hsl := step_slots hnoL hA
  rw [slots_wanted hsl hgd] at hw
  unfold stepA at hA
  split at hA
  · simp at hA
  · rename_i hbx
    have hbox : dstBox σA d.dst = false := by
      cases hq : dstBox σA d.dst
      · rfl
      · exact (hbx ⟨by rw [hr]; simp,hq⟩).elim
    rw [hw] at hA
    simp only at hA
    have hopA : opA D d.dst d.op σA g.M = some (a,σA,g.M) := by
      cases hdo : d.op <;> rw [hdo] at q1 <;> first | (simp [rdv] at q1; done) | skip
      · rename_i k x
        simp only [rdv] at q1
        simp only [opA,q1,Option.map_some]
      · rename_i k x
        cases k <;> first | (simp [rdv] at q1; done) | skip
        simp only [rdv] at q1
        simp only [opA]
        split at q1 <;> first | (simp at q1; done) | skip
        · rename_i e; rw [e]; obtain rfl := Option.some.inj q1; rfl
        · rename_i e
          rw [e]
          obtain ⟨l,p1,p2⟩ := Option.map_eq_some_iff.1 q1
          simp only [p1,Option.map_some,p2]
    rw [hopA] at hA
    simp only [Option.bind_some] at hA
    split at hA
    · simp at hA
    · simp only [Option.some.injEq,Prod.mk.injEq] at hA
      obtain ⟨rfl,rfl⟩ := hA
      refine ⟨a,?_,?_,hself⟩
      · cases hdo : d.op <;> rw [hdo] at q1 hop <;> first | (simp [rdv] at q1; done) | skip
        · rename_i k x
          simp only [rdv] at q1 ⊢
          rw [slots_eval hsl (x := x) (fun n hn => hop n (by simpa [SOp.slots] using hn))]
          unfold loadA at q1 ⊢
          split at q1
          · rename_i s i _
            have hne : d.dst ≠ some s := by
              intro e4
              split at q1
              · rename_i xs hxs
                rw [e4] at hbox
                simp only [dstBox] at hbox
                rw [hxs] at hbox
                simp [AV.isBox] at hbox
              · simp at q1
            rw [getD_setD _ _ _ s hne]
            exact q1
          · exact q1
          · simp at q1
        · rename_i k x
          cases k <;> first | (simp [rdv] at q1; done) | skip
          simp only [rdv] at q1 ⊢
          rw [slots_eval hsl (x := x) (fun n hn => hop n (by simpa [SOp.slots] using hn))]
          exact q1
      · rw [ht]
        simp only [setD]
        rw [List.getElem?_set_self (by rw [rvs_len hs]; exact g2)]
theorem sameV_sim (hs : RVs g κ σ σA) (hh : HR g H) {x : SOpG} (hx : okOp x.op = true) (h : sameV σ H x = true) : Same σA g.M x := by
  intro hr t ht hw
  unfold sameV at h
  rw [hr,ht] at h
  simp only [ne_eq,not_true,decide_false,Bool.false_or] at h
  split at h
  · split at h
    · rename_i v0 u0 e1 e2
      obtain ⟨a,q1,q2⟩ := rdV_rel hs hh hx e1
      obtain ⟨b,q3,q4⟩ := rvs_get hs e2
      unfold sameA at h
      split at h
      · rename_i v u
        rw [rv_c q2] at q1
        rw [rv_c q4] at q3
        have huv : AV.c v = AV.c u := eqAV_eq (by simpa [eqAV] using h)
        rw [huv] at q1
        refine ⟨_,q1,q3,?_⟩
        simp only [AV.c.injEq] at huv
        subst huv
        simpa [eqAV] using h
      · rename_i r o l c s gg ex r' o' l' c' s' gg' ex'
        rw [Bool.and_eq_true] at h
        obtain ⟨h1,h2⟩ := h
        have huv := eqAV_eq h1
        rw [← huv] at q4
        split at h2
        · rename_i ob hob
          obtain ⟨r0,_,z1,_⟩ := hh.row _ _ hob h2
          simp only [RV] at q2 q4
          obtain ⟨_,r1,rfl,z2⟩ := q2
          obtain ⟨_,r2,rfl,z3⟩ := q4
          have e1 := z2 _ z1
          have e2 := z3 _ z1
          subst e1
          subst e2
          exact ⟨_,q1,q3,by simp [eqAV]⟩
        · simp at h2
      · rename_i r i gg r' i' gg'
        rw [Bool.and_eq_true] at h
        obtain ⟨h1,h2⟩ := h
        have huv := eqAV_eq h1
        rw [← huv] at q4
        split at h2
        · rename_i ob hob
          obtain ⟨r0,_,z1,_⟩ := hh.row _ _ hob h2
          simp only [RV] at q2 q4
          obtain ⟨_,r1,rfl,z2⟩ := q2
          obtain ⟨_,r2,rfl,z3⟩ := q4
          have e1 := z2 _ z1
          have e2 := z3 _ z1
          subst e1
          subst e2
          exact ⟨_,q1,q3,by simp [eqAV]⟩
        · simp at h2
      · simp at h
    · simp at h
  · rename_i hw'
    have := wanted_rel hs hw'
    rw [hw] at this
    simp at this
  · simp at h
end
end Go.A.V
