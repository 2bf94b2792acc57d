/- THE VALUE MACHINE: regions. -/
import Derived.Test.YtnmobjhmohcjfaaV6
set_option linter.unusedSimpArgs false
set_option linter.unusedVariables false
set_option linter.unnecessarySimpa false
namespace Go.A.V
open Go Go.A
section
variable {m0 : Nat} {wr : Bool} {g : Gh} {κ : Nat → Option Nat} {σ σA : List AV} {H : Heap}
theorem wanted_rel (hs : RVs g κ σ σA) {gd : Option (Nat × Bool)} {b : Bool} (h : wanted σ gd = some b) : wanted σA gd = some b := by
 cases gd with
 | none => exact h
 | some p =>
  obtain ⟨t,w⟩ := p
  have hr := getD_rel hs t
  simp only [wanted] at h ⊢
  split at h
  ·rename_i x e
   rw [e] at hr
   rw [rv_c hr]
   exact h
  ·rename_i e
   rw [e] at hr
   simp only [RV] at hr
   obtain ⟨ys,e2,hys⟩ := hr
   simp only [RVs] at hys
   subst hys
   rw [e2]
   exact h
  ·simp at h
theorem setD_rel (hs : RVs g κ σ σA) (d : Option Nat) {v a : AV} (h : RV g κ v a) : RVs g κ (setD σ d v) (setD σA d a) := by
 cases d with
 | none => exact hs
 | some d => exact rvs_set hs d h
theorem rv_tup0 (g : Gh) (κ : Nat → Option Nat) : RV g κ (.tup []) (.tup []) := by simp only [RV]; exact ⟨[],rfl,by simp only [RVs]⟩
theorem rvs_undef : ∀ (ks : List Nat) {σ σA : List AV},RVs g κ σ σA → RVs g κ (kill ks σ) (kill ks σA)
 | [],_,_,hs => hs
 | k :: ks,_,_,hs => by
  simp only [kill]
  exact rvs_undef ks (rvs_set hs k (by simp only [RV]))
def StSim (m0 : Nat) (wr : Bool) (g : Gh) (res : Option (List AV × Heap)) (σ' : List AV) (H' : Heap) : Prop :=
 ∃ σA' g' κ',res = some (σA',g'.M) ∧ RVs g' κ' σ' σA' ∧ HR g' H' ∧ Step m0 wr g g' κ'
theorem runOps_sim {W : FuncId → Bool} {C D : Oracle} {m : Md} (hC : SimO W C D) (hW : m.wr = false → ∀ f args H,C f args H ≠ none → W f = false) : ∀ {l : List SOpG} {g : Gh} {κ : Nat → Option Nat} {σ σA : List AV} {H : Heap} {σ' : List AV} {H' : Heap},
  RVs g κ σ σA → HR g H → KO m0 g κ → m0 ≤ g.M.length → (l.all fun o => okOp o.op) = true → runOps m C l σ H = some (σ',H') → StSim m0 m.wr g (A.runOps D l σA g.M) σ' H'
 | [],g,κ,σ,σA,H,σ',H',hs,hh,hk,hm,ho,h => by
  simp only [runOps,Option.some.injEq,Prod.mk.injEq] at h
  obtain ⟨rfl,rfl⟩ := h
  exact ⟨σA,g,κ,rfl,hs,hh,Step.refl hk⟩
 | o :: l,g,κ,σ,σA,H,σ',H',hs,hh,hk,hm,ho,h => by
  simp only [List.all_cons,Bool.and_eq_true] at ho
  simp only [runOps] at h
  split at h
  ·rename_i hw
   obtain ⟨⟨v,s1,H1⟩,e1,e2⟩ := Option.bind_eq_some_iff.1 h
   obtain ⟨a,sA1,g1,κ1,q1,q2,q3,q4,q5⟩ := op_sim hs hh hk hm hC hW ho.1 e1
   have hm1 : m0 ≤ g1.M.length := Nat.le_trans hm q5.up.len
   obtain ⟨sA2,g2,κ2,p1,p2,p3,p4⟩ := runOps_sim hC hW (setD_rel q3 o.dst q2) q4 q5.ko hm1 ho.2 e2
   refine ⟨sA2,g2,κ2,?_,p2,p3,q5.trans hm p4⟩
   simp only [A.runOps,wanted_rel hs hw,q1,Option.bind_some]
   exact p1
  ·rename_i hw
   obtain ⟨sA2,g2,κ2,p1,p2,p3,p4⟩ := runOps_sim hC hW (setD_rel hs o.dst (rv_tup0 g κ)) hh hk hm ho.2 h
   refine ⟨sA2,g2,κ2,?_,p2,p3,p4⟩
   simp only [A.runOps,wanted_rel hs hw]
   exact p1
  ·simp at h
theorem rv_isLp {v a : AV} (h : RV g κ v a) : a.isLp = v.isLp ∧ ∀ d,a.isLd d = v.isLd d := by
 cases v <;> simp only [RV] at h <;> try (first | (subst h; exact ⟨rfl,fun _ => rfl⟩) | exact h.elim)
 all_goals first
  | (obtain ⟨_,_,rfl,_⟩ := h; exact ⟨rfl,fun _ => rfl⟩)
  | (obtain ⟨_,rfl,_⟩ := h; exact ⟨rfl,fun _ => rfl⟩)
  | (obtain ⟨_,_,_,_,rfl,_⟩ := h; exact ⟨rfl,fun _ => rfl⟩)
  | (obtain ⟨_,_,_,_,_,_,rfl,_⟩ := h; exact ⟨rfl,fun _ => rfl⟩)
theorem any_rel (d : Nat) : ∀ {σ σA : List AV},RVs g κ σ σA → σA.any (AV.isLd d) = σ.any (AV.isLd d)
 | [],_,h => by simp only [RVs] at h; subst h; rfl
 | x :: r,_,h => by
  simp only [RVs] at h
  obtain ⟨a,q,rfl,h1,h2⟩ := h
  simp only [List.any_cons,(rv_isLp h1).2,any_rel d h2]
theorem okN_rel (hs : RVs g κ σ σA) (d : DOp) : okN d σA = okN d σ := by
 have h1 : dstL σA d.o.dst = dstL σ d.o.dst := by
  cases d.o.dst with
  | none => rfl
  | some n => exact (rv_isLp (getD_rel hs n)).1
 have h2 : d.o.badNew σA = d.o.badNew σ := by
  unfold SOpG.badNew
  split
  ·rename_i n _ _; rw [rv_box (getD_rel hs n),any_rel n hs]
  ·rfl
 simp only [okN,h1,h2]
theorem dstBox_rel (hs : RVs g κ σ σA) (d : Option Nat) : dstBox σA d = dstBox σ d := by
 cases d with
 | none => rfl
 | some d => exact rv_box (getD_rel hs d)
theorem stepV_sim {W : FuncId → Bool} {C D : Oracle} {m : Md} (hs : RVs g κ σ σA) (hh : HR g H) (hk : KO m0 g κ) (hm : m0 ≤ g.M.length) (hC : SimO W C D) (hW : m.wr = false → ∀ f args H,C f args H ≠ none → W f = false)
  {o : SOpG} (ho : okOp o.op = true) {σ' : List AV} {H' : Heap} (h : stepV m C o σ H = some (σ',H')) : StSim m0 m.wr g (stepA D o σA g.M) σ' H' := by
 unfold stepV at h
 unfold stepA
 rw [dstBox_rel hs]
 split at h
 ·simp at h
 ·rename_i hb
  rw [if_neg hb]
  split at h
  ·rename_i hw
   obtain ⟨⟨v,s1,H1⟩,e1,e2⟩ := Option.bind_eq_some_iff.1 h
   obtain ⟨a,sA1,g1,κ1,q1,q2,q3,q4,q5⟩ := op_sim hs hh hk hm hC hW ho e1
   simp only at e2
   split at e2
   ·simp at e2
   ·rename_i hn
    simp only [Option.some.injEq,Prod.mk.injEq] at e2
    obtain ⟨rfl,rfl⟩ := e2
    refine ⟨setD sA1 o.dst a,g1,κ1,?_,setD_rel q3 o.dst q2,q4,q5⟩
    simp only [wanted_rel hs hw,q1,Option.bind_some]
    rw [if_neg (by rw [rv_box q2]; exact hn)]
  ·rename_i hw
   simp only [Option.some.injEq,Prod.mk.injEq] at h
   obtain ⟨rfl,rfl⟩ := h
   refine ⟨setD σA o.dst (.tup []),g,κ,?_,setD_rel hs o.dst (rv_tup0 g κ),hh,Step.refl hk⟩
   simp only [wanted_rel hs hw]
  ·simp at h
end
end Go.A.V
