/- THE VALUE MACHINE: whole calls are such of the abstract machine. -/
import Derived.Test.YtnmobjhmohcjfaaV8
set_option linter.unusedSimpArgs false
set_option linter.unusedVariables false
set_option linter.unnecessarySimpa false
namespace Go.A.V
open Go Go.A
theorem runD_sim {W : FuncId → Bool} {C D : Oracle} {m : Md} {m0 : Nat} (hC : SimO W C D) (hW : m.wr = false → ∀ f args H,C f args H ≠ none → W f = false) : ∀ {l : List DOp} {accV : List (DOp × Bool)} {accA : List DOp} {g : Gh} {κ : Nat → Option Nat} {σ σA : List AV} {H : Heap} {σ' : List AV} {H' : Heap},
  RVs g κ σ σA → HR g H → KO m0 g κ → m0 ≤ g.M.length → (l.all fun o => okOp o.o.op) = true →
  (∀ x ∈ accA,x.o.op.cls ≠ .read ∨ (∀ e ∈ l,e.un.contains x.i = false) ∨ ∃ b,(x,b) ∈ accV ∧ okOp x.o.op = true ∧ (b = true → Same σA g.M x.o)) →
  runD W m C accV l σ H = some (σ',H') → StSim m0 m.wr g (A.runD D accA l σA g.M) σ' H'
 | [],accV,accA,g,κ,σ,σA,H,σ',H',hs,hh,hk,hm,ho,ha,h => by
  simp only [runD,Option.some.injEq,Prod.mk.injEq] at h
  obtain ⟨rfl,rfl⟩ := h
  exact ⟨σA,g,κ,rfl,hs,hh,Step.refl hk⟩
 | d :: l,accV,accA,g,κ,σ,σA,H,σ',H',hs,hh,hk,hm,ho,ha,h => by
  simp only [List.all_cons,Bool.and_eq_true] at ho
  simp only [runD] at h
  obtain ⟨⟨s1,H1⟩,e1,e2⟩ := Option.bind_eq_some_iff.1 h
  obtain ⟨sA1,g1,κ1,q1,q2,q3,q4⟩ := stepV_sim hs hh hk hm hC hW ho.1 e1
  simp only at e2
  split at e2
  ·rename_i hall0
   obtain ⟨hall,hokn⟩ := hall0
   have hm1 : m0 ≤ g1.M.length := Nat.le_trans hm q4.up.len
   have keep : ∀ (x : DOp) (b : Bool),okOp x.o.op = true → (b = true → Same σA g.M x.o) → (b && keepB W σ d.o x.o) = true → Same sA1 g1.M x.o := fun x b hx hb hbk => by
    simp only [Bool.and_eq_true] at hbk
    exact same_keep hs hh hC ho.1 hx e1 q1 q4.up hbk.2 (hb hbk.1)
   have hchk : (accA.all fun x => !d.un.contains x.i || sameB sA1 g1.M x.o) = true := by
    rw [List.all_eq_true]
    intro x hx
    rcases ha x hx with h1 | h1 | ⟨b,h1,h2,h3⟩
    ·rw [Bool.or_eq_true]
     right
     exact sameB_iff.2 fun hr => (h1 hr).elim
    ·rw [h1 d (by simp)]; rfl
    ·have := List.all_eq_true.1 hall _ h1
     simp only [Bool.or_eq_true] at this ⊢
     rcases this with (h4 | h4) | h4
     ·exact .inl h4
     ·exact .inr (sameB_iff.2 (keep x b h2 h3 h4))
     ·exact .inr (sameB_iff.2 (sameV_sim q2 q3 h2 h4))
   have hacc : ∀ accV',(if d.o.op.cls = .read ∧ (l.any fun e => e.un.contains d.i) = true then (d,goodB σ H d.o) :: accV.map fun x => (x.1,x.2 && keepB W σ d.o x.1.o) else accV.map fun x => (x.1,x.2 && keepB W σ d.o x.1.o)) = accV' →
     ∀ x ∈ d :: accA,x.o.op.cls ≠ .read ∨ (∀ e ∈ l,e.un.contains x.i = false) ∨ ∃ b,(x,b) ∈ accV' ∧ okOp x.o.op = true ∧ (b = true → Same sA1 g1.M x.o) := by
    rintro accV' rfl x hx
    rcases List.mem_cons.1 hx with rfl | hx
    ·by_cases hr : x.o.op.cls = .read
     ·by_cases hu : (l.any fun e => e.un.contains x.i) = true
      ·right; right
       rw [if_pos ⟨hr,hu⟩]
       exact ⟨_,by simp,ho.1,fun hg => good_sim (C := C) hs hh ho.1 hr q1 hg⟩
      ·right; left
       intro e he
       cases hq : e.un.contains x.i with
       | false => rfl
       | true => exact (hu (List.any_eq_true.2 ⟨e,he,hq⟩)).elim
     ·exact .inl hr
    ·rcases ha x hx with h1 | h1 | ⟨b,h1,h2,h3⟩
     ·exact .inl h1
     ·exact .inr (.inl fun e he => h1 e (by simp [he]))
     ·right; right
      refine ⟨b && keepB W σ d.o x.o,?_,h2,fun hb => keep x b h2 h3 hb⟩
      split
      ·exact List.mem_cons_of_mem _ (List.mem_map.2 ⟨(x,b),h1,rfl⟩)
      ·exact List.mem_map.2 ⟨(x,b),h1,rfl⟩
   obtain ⟨sA2,g2,κ2,p1,p2,p3,p4⟩ := runD_sim hC hW (accA := d :: accA) q2 q3 q4.ko hm1 ho.2 (hacc _ rfl) e2
   refine ⟨sA2,g2,κ2,?_,p2,p3,q4.trans hm p4⟩
   simp only [A.runD,q1,Option.bind_some,hchk,okN_rel hs,hokn,and_self,if_true]
   exact p1
  ·simp at e2
def ExSim (m0 : Nat) (wr : Bool) (g : Gh) (res : Option St) (s : St) : Prop :=
 ∃ σA' g' κ',res = some ⟨s.e,σA',g'.M⟩ ∧ RVs g' κ' s.σ σA' ∧ HR g' s.H ∧ Step m0 wr g g' κ'
section
variable {W : FuncId → Bool} {C : Oracle} {T : FuncId → Option SFun} {X : Oracle} {m : Md} {m0 : Nat}
theorem iter_sim {b : SCode} {f : List AV → Heap → Option St}
  (hf : ∀ {g : Gh} {κ : Nat → Option Nat} {σ σA : List AV} {H : Heap} {s : St},RVs g κ σ σA → HR g H → KO m0 g κ → m0 ≤ g.M.length → f σ H = some s → ExSim m0 m.wr g (execW T X b σA g.M) s) :
  ∀ (n : Nat) {g : Gh} {κ : Nat → Option Nat} {σ σA : List AV} {H : Heap} {s : St},RVs g κ σ σA → HR g H → KO m0 g κ → m0 ≤ g.M.length → iter f n σ H = some s → ExSim m0 m.wr g (execW T X (.loop b) σA g.M) s
 | 0,_,_,_,_,_,_,_,_,_,_,h => by simp [iter] at h
 | n + 1,g,κ,σ,σA,H,s,hs,hh,hk,hm,h => by
  simp only [iter] at h
  obtain ⟨s1,e1,e2⟩ := Option.bind_eq_some_iff.1 h
  obtain ⟨sA1,g1,κ1,q1,q2,q3,q4⟩ := hf hs hh hk hm e1
  have hm1 : m0 ≤ g1.M.length := Nat.le_trans hm q4.up.len
  rw [execW_loop,q1]
  simp only [Option.bind_some,andThen]
  cases he : s1.e with
  | normal =>
   rw [he] at e2
   obtain ⟨sA2,g2,κ2,p1,p2,p3,p4⟩ := iter_sim hf n q2 q3 q4.ko hm1 e2
   exact ⟨sA2,g2,κ2,p1,p2,p3,q4.trans hm p4⟩
  | exit id => rw [he] at e2; obtain rfl := Option.some.inj e2; exact ⟨sA1,g1,κ1,by rw [he],q2,q3,q4⟩
  | goto l => rw [he] at e2; obtain rfl := Option.some.inj e2; exact ⟨sA1,g1,κ1,by rw [he],q2,q3,q4⟩
  | ret => rw [he] at e2; obtain rfl := Option.some.inj e2; exact ⟨sA1,g1,κ1,by rw [he],q2,q3,q4⟩
theorem jumps_sim {r : SCode} {l : Nat} {f : List AV → Heap → Option St}
  (hf : ∀ {g : Gh} {κ : Nat → Option Nat} {σ σA : List AV} {H : Heap} {s : St},RVs g κ σ σA → HR g H → KO m0 g κ → m0 ≤ g.M.length → f σ H = some s → ExSim m0 m.wr g (execW T X r σA g.M) s) :
  ∀ (n : Nat) {g : Gh} {κ : Nat → Option Nat} {e : AExit} {σ σA : List AV} {H : Heap} {s : St},RVs g κ σ σA → HR g H → KO m0 g κ → m0 ≤ g.M.length → jumps f l n ⟨e,σ,H⟩ = some s → ExSim m0 m.wr g (jumpW T X r l ⟨e,σA,g.M⟩) s
 | 0,_,_,_,_,_,_,_,_,_,_,_,h => by simp [jumps] at h
 | n + 1,g,κ,e,σ,σA,H,s,hs,hh,hk,hm,h => by
  simp only [jumps] at h
  rw [jumpW_eq]
  split at h
  ·rename_i he
   obtain ⟨s1,e1,e2⟩ := Option.bind_eq_some_iff.1 h
   obtain ⟨sA1,g1,κ1,q1,q2,q3,q4⟩ := hf hs hh hk hm e1
   have hm1 : m0 ≤ g1.M.length := Nat.le_trans hm q4.up.len
   rw [if_pos he]
   simp only
   rw [q1,Option.bind_some]
   obtain ⟨sA2,g2,κ2,p1,p2,p3,p4⟩ := jumps_sim hf n q2 q3 q4.ko hm1 e2
   exact ⟨sA2,g2,κ2,p1,p2,p3,q4.trans hm p4⟩
  ·rename_i he
   rw [if_neg he]
   obtain rfl := Option.some.inj h
   exact ⟨σA,g,κ,rfl,hs,hh,Step.refl hk⟩
theorem exec_sim (hC : SimO W C (callW T X)) (hW : m.wr = false → ∀ f args H,C f args H ≠ none → W f = false) (k : Nat) : ∀ (c : SCode) {g : Gh} {κ : Nat → Option Nat} {σ σA : List AV} {H : Heap} {s : St},
  okCode c = true → RVs g κ σ σA → HR g H → KO m0 g κ → m0 ≤ g.M.length → exec W m C k c σ H = some s → ExSim m0 m.wr g (execW T X c σA g.M) s
 | .skip,g,κ,σ,σA,H,s,ho,hs,hh,hk,hm,h => by
  simp only [exec,Option.some.injEq] at h; subst h
  exact ⟨σA,g,κ,execW_skip T X σA g.M,hs,hh,Step.refl hk⟩
 | .label l,g,κ,σ,σA,H,s,ho,hs,hh,hk,hm,h => by
  simp only [exec,Option.some.injEq] at h; subst h
  exact ⟨σA,g,κ,execW_label T X σA g.M l,hs,hh,Step.refl hk⟩
 | .exit l,g,κ,σ,σA,H,s,ho,hs,hh,hk,hm,h => by
  simp only [exec,Option.some.injEq] at h; subst h
  exact ⟨σA,g,κ,execW_exit T X σA g.M l,hs,hh,Step.refl hk⟩
 | .goto l,g,κ,σ,σA,H,s,ho,hs,hh,hk,hm,h => by
  simp only [exec,Option.some.injEq] at h; subst h
  exact ⟨σA,g,κ,execW_goto T X σA g.M l,hs,hh,Step.refl hk⟩
 | .ret,g,κ,σ,σA,H,s,ho,hs,hh,hk,hm,h => by
  simp only [exec,Option.some.injEq] at h; subst h
  exact ⟨σA,g,κ,execW_ret T X σA g.M,hs,hh,Step.refl hk⟩
 | .region ks ops,g,κ,σ,σA,H,s,ho,hs,hh,hk,hm,h => by
  simp only [exec] at h
  obtain ⟨⟨s1,H1⟩,e1,e2⟩ := Option.map_eq_some_iff.1 h
  subst e2
  obtain ⟨sA,g1,κ1,q1,q2,q3,q4⟩ := runOps_sim hC hW (rvs_undef ks hs) hh hk hm (by simpa [okCode] using ho) e1
  exact ⟨sA,g1,κ1,by rw [execW_region,q1]; rfl,q2,q3,q4⟩
 | .drawn ks ops,g,κ,σ,σA,H,s,ho,hs,hh,hk,hm,h => by
  simp only [exec] at h
  obtain ⟨⟨s1,H1⟩,e1,e2⟩ := Option.map_eq_some_iff.1 h
  subst e2
  obtain ⟨sA,g1,κ1,q1,q2,q3,q4⟩ := runD_sim hC hW (accA := []) (rvs_undef ks hs) hh hk hm (by simpa [okCode] using ho) (by simp) e1
  exact ⟨sA,g1,κ1,by rw [execW_drawn,q1]; rfl,q2,q3,q4⟩
 | .seq a b,g,κ,σ,σA,H,s,ho,hs,hh,hk,hm,h => by
  simp only [okCode,Bool.and_eq_true] at ho
  simp only [exec] at h
  obtain ⟨s1,e1,e2⟩ := Option.bind_eq_some_iff.1 h
  obtain ⟨sA1,g1,κ1,q1,q2,q3,q4⟩ := exec_sim hC hW k a ho.1 hs hh hk hm e1
  have hm1 : m0 ≤ g1.M.length := Nat.le_trans hm q4.up.len
  rw [execW_seq,q1]
  simp only [Option.bind_some,andThen]
  cases he : s1.e with
  | normal =>
   rw [he] at e2
   obtain ⟨sA2,g2,κ2,p1,p2,p3,p4⟩ := exec_sim hC hW k b ho.2 q2 q3 q4.ko hm1 e2
   exact ⟨sA2,g2,κ2,p1,p2,p3,q4.trans hm p4⟩
  | exit id => rw [he] at e2; obtain rfl := Option.some.inj e2; exact ⟨sA1,g1,κ1,by rw [he],q2,q3,q4⟩
  | goto l => rw [he] at e2; obtain rfl := Option.some.inj e2; exact ⟨sA1,g1,κ1,by rw [he],q2,q3,q4⟩
  | ret => rw [he] at e2; obtain rfl := Option.some.inj e2; exact ⟨sA1,g1,κ1,by rw [he],q2,q3,q4⟩
 | .cond x a b,g,κ,σ,σA,H,s,ho,hs,hh,hk,hm,h => by
  simp only [okCode,Bool.and_eq_true] at ho
  have hx := evalX_rel hs ho.1.1
  simp only [exec] at h
  split at h
  ·rename_i t e
   rw [e] at hx
   rw [execW_cond,rv_c hx]
   simp only
   split at h
   ·rename_i ht
    rw [if_pos ht]
    exact exec_sim hC hW k a ho.1.2 hs hh hk hm h
   ·rename_i ht
    rw [if_neg ht]
    exact exec_sim hC hW k b ho.2 hs hh hk hm h
  ·simp at h
 | .block id b,g,κ,σ,σA,H,s,ho,hs,hh,hk,hm,h => by
  simp only [okCode] at ho
  simp only [exec] at h
  obtain ⟨s1,e1,e2⟩ := Option.map_eq_some_iff.1 h
  obtain ⟨sA1,g1,κ1,q1,q2,q3,q4⟩ := exec_sim hC hW k b ho hs hh hk hm e1
  rw [execW_block,q1]
  refine ⟨sA1,g1,κ1,?_,?_,?_,q4⟩
  ·subst e2
   simp only [Option.map_some,unblock]
   split <;> rfl
  ·subst e2; split <;> exact q2
  ·subst e2; split <;> exact q3
 | .loop b,g,κ,σ,σA,H,s,ho,hs,hh,hk,hm,h => by
  simp only [okCode] at ho
  simp only [exec] at h
  exact iter_sim (m := m) (fun hs hh hk hm h => exec_sim hC hW k b ho hs hh hk hm h) k hs hh hk hm h
 | .scope b l r,g,κ,σ,σA,H,s,ho,hs,hh,hk,hm,h => by
  simp only [okCode,Bool.and_eq_true] at ho
  simp only [exec] at h
  obtain ⟨s1,e1,e2⟩ := Option.bind_eq_some_iff.1 h
  obtain ⟨sA1,g1,κ1,q1,q2,q3,q4⟩ := exec_sim hC hW k b ho.1 hs hh hk hm e1
  have hm1 : m0 ≤ g1.M.length := Nat.le_trans hm q4.up.len
  rw [execW_scope,q1,Option.bind_some]
  obtain ⟨sA2,g2,κ2,p1,p2,p3,p4⟩ := jumps_sim (m := m) (fun hs hh hk hm h => exec_sim hC hW k r ho.2 hs hh hk hm h) k q2 q3 q4.ko hm1 (show jumps _ l k ⟨s1.e,s1.σ,s1.H⟩ = some s from e2)
  exact ⟨sA2,g2,κ2,p1,p2,p3,q4.trans hm p4⟩
end
end Go.A.V
