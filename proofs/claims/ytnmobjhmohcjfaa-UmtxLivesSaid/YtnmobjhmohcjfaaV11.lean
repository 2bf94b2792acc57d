/- THE VALUE MACHINE: runs without a count of steps. -/
import Derived.Test.YtnmobjhmohcjfaaV10
set_option linter.unusedSimpArgs false
set_option linter.unusedVariables false
set_option linter.unnecessarySimpa false
namespace Go.A.V
open Go Go.A
section
variable {C D : Oracle}
theorem opV_mono (m : Md) (h : OLe C D) (d : Option Nat) (so : SOp) (σ : List AV) (H : Heap) : Le (opV m C d so σ H) (opV m D d so σ H) := by
 intro y hy
 cases so
 case call f xs =>
  simp only [opV] at hy ⊢
  split at hy
  ·rename_i hf
   rw [if_pos hf]
   obtain ⟨z,h1,h2⟩ := Option.map_eq_some_iff.1 hy
   exact Option.map_eq_some_iff.2 ⟨z,h _ _ _ z h1,h2⟩
  ·simp at hy
 case callv x xs =>
  simp only [opV] at hy ⊢
  split at hy
  ·split at hy
   ·rename_i hf
    rw [if_pos hf]
    obtain ⟨z,h1,h2⟩ := Option.map_eq_some_iff.1 hy
    exact Option.map_eq_some_iff.2 ⟨z,h _ _ _ z h1,h2⟩
   ·simp at hy
  ·simp at hy
 case cut k x lo hi mx => cases k <;> exact hy
 case len k x => cases k <;> exact hy
 all_goals exact hy
theorem runOps_mono (m : Md) (h : OLe C D) : ∀ (l : List SOpG) (σ : List AV) (H : Heap),Le (runOps m C l σ H) (runOps m D l σ H)
 | [],_,_ => fun _ hy => hy
 | o :: r,σ,H => fun y hy => by
  simp only [runOps] at hy ⊢
  split at hy
  ·obtain ⟨⟨v,s,G⟩,h1,h2⟩ := Option.bind_eq_some_iff.1 hy
   exact Option.bind_eq_some_iff.2 ⟨⟨v,s,G⟩,opV_mono m h _ _ _ _ _ h1,runOps_mono m h r _ _ y h2⟩
  ·exact runOps_mono m h r _ _ y hy
  ·simp at hy
theorem stepV_mono (m : Md) (h : OLe C D) (o : SOpG) (σ : List AV) (H : Heap) : Le (stepV m C o σ H) (stepV m D o σ H) := fun y hy => by
 unfold stepV at hy ⊢
 split at hy
 ·simp at hy
 ·rename_i hb
  rw [if_neg hb]
  split at hy
  ·obtain ⟨⟨v,s,G⟩,h1,h2⟩ := Option.bind_eq_some_iff.1 hy
   exact Option.bind_eq_some_iff.2 ⟨⟨v,s,G⟩,opV_mono m h _ _ _ _ _ h1,h2⟩
  ·exact hy
  ·simp at hy
theorem runD_mono (W : FuncId → Bool) (m : Md) (h : OLe C D) : ∀ (l : List DOp) (acc : List (DOp × Bool)) (σ : List AV) (H : Heap),Le (runD W m C acc l σ H) (runD W m D acc l σ H)
 | [],_,_,_ => fun _ hy => hy
 | d :: r,acc,σ,H => fun y hy => by
  simp only [runD] at hy ⊢
  obtain ⟨⟨s,G⟩,h1,h2⟩ := Option.bind_eq_some_iff.1 hy
  refine Option.bind_eq_some_iff.2 ⟨⟨s,G⟩,stepV_mono m h _ _ _ _ h1,?_⟩
  simp only at h2 ⊢
  split at h2
  ·rename_i hc
   rw [if_pos hc]; exact runD_mono W m h r _ _ _ y h2
  ·simp at h2
theorem exec_mono (W : FuncId → Bool) (md : Md) (h : OLe C D) {n m : Nat} (hnm : n ≤ m) : ∀ (s : SCode) (σ : List AV) (H : Heap),Le (exec W md C n s σ H) (exec W md D m s σ H)
 | .skip,_,_ => fun _ hy => hy
 | .label _,_,_ => fun _ hy => hy
 | .exit _,_,_ => fun _ hy => hy
 | .goto _,_,_ => fun _ hy => hy
 | .ret,_,_ => fun _ hy => hy
 | .region ks ops,σ,H => fun y hy => by
  simp only [exec] at hy ⊢
  obtain ⟨z,h1,h2⟩ := Option.map_eq_some_iff.1 hy
  exact Option.map_eq_some_iff.2 ⟨z,runOps_mono md h _ _ _ _ h1,h2⟩
 | .drawn ks ops,σ,H => fun y hy => by
  simp only [exec] at hy ⊢
  obtain ⟨z,h1,h2⟩ := Option.map_eq_some_iff.1 hy
  exact Option.map_eq_some_iff.2 ⟨z,runD_mono W md h _ _ _ _ _ h1,h2⟩
 | .seq a b,σ,H => fun y hy => by
  simp only [exec] at hy ⊢
  obtain ⟨s,h1,h2⟩ := Option.bind_eq_some_iff.1 hy
  refine Option.bind_eq_some_iff.2 ⟨s,exec_mono W md h hnm a _ _ _ h1,?_⟩
  cases he : s.e <;> rw [he] at h2 <;> first | exact exec_mono W md h hnm b _ _ _ h2 | exact h2
 | .cond x a b,σ,H => fun y hy => by
  simp only [exec] at hy ⊢
  split at hy
  ·split at hy
   ·rename_i ht
    rw [if_pos ht]; exact exec_mono W md h hnm a _ _ _ hy
   ·rename_i ht
    rw [if_neg ht]; exact exec_mono W md h hnm b _ _ _ hy
  ·simp at hy
 | .block id b,σ,H => fun y hy => by
  simp only [exec] at hy ⊢
  obtain ⟨z,h1,h2⟩ := Option.map_eq_some_iff.1 hy
  exact Option.map_eq_some_iff.2 ⟨z,exec_mono W md h hnm b _ _ _ h1,h2⟩
 | .loop b,σ,H => fun y hy => by
  simp only [exec] at hy ⊢
  exact iter_mono (fun σ H => exec_mono W md h hnm b σ H) hnm σ H y hy
 | .scope b l r,σ,H => fun y hy => by
  simp only [exec] at hy ⊢
  obtain ⟨s,h1,h2⟩ := Option.bind_eq_some_iff.1 hy
  exact Option.bind_eq_some_iff.2 ⟨s,exec_mono W md h hnm b _ _ _ h1,jumps_mono (fun σ H => exec_mono W md h hnm r σ H) l hnm _ _ h2⟩
end
section
variable (p : VP)
theorem orc_le (f : FuncId) {C D : Oracle} (h : OLe C D) : OLe (p.orc f C) (p.orc f D) := fun g a H y hy => by
 simp only [VP.orc] at hy ⊢
 split at hy
 ·rename_i e; rw [if_pos e]; exact h g a H y hy
 ·simp at hy
theorem callN_step : ∀ n,OLe (callN p n) (callN p (n + 1))
 | 0 => fun f a H y hy => by simp [callN] at hy
 | n + 1 => fun f a H y hy => by
  rw [callN] at hy ⊢
  split at hy
  ·exact hy
  ·obtain ⟨s,hs,h⟩ := Option.bind_eq_some_iff.1 hy
   obtain ⟨st,hst,h⟩ := Option.bind_eq_some_iff.1 h
   exact Option.bind_eq_some_iff.2 ⟨s,hs,Option.bind_eq_some_iff.2 ⟨st,exec_mono p.W (p.md f) (orc_le p f (callN_step n)) (Nat.le_succ n) _ _ _ _ hst,h⟩⟩
theorem callN_le {n m : Nat} (h : n ≤ m) : OLe (callN p n) (callN p m) := by
 induction h with
 | refl => exact fun _ _ _ _ h => h
 | step _ ih => exact fun f a H y hy => callN_step p _ f a H y (ih f a H y hy)
noncomputable def callW : Oracle := fun f a H => lim fun n => callN p n f a H
noncomputable def orcW (f : FuncId) : Oracle := p.orc f (callW p)
noncomputable def execW (f : FuncId) (s : SCode) (σ : List AV) (H : Heap) : Option St := lim fun n => exec p.W (p.md f) (p.orc f (callN p n)) n s σ H
noncomputable def jumpW (f : FuncId) (r : SCode) (l : Nat) (s : St) : Option St := lim fun n => jumps (exec p.W (p.md f) (p.orc f (callN p n)) n r) l n s
theorem mono_call (f : FuncId) (a : List AV) (H : Heap) : Mono fun n => callN p n f a H := fun n m h => callN_le p h f a H
theorem mono_orc (f g : FuncId) (a : List AV) (H : Heap) : Mono fun n => p.orc f (callN p n) g a H := fun n m h => orc_le p f (callN_le p h) g a H
theorem lim_orc (f g : FuncId) (a : List AV) (H : Heap) : lim (fun n => p.orc f (callN p n) g a H) = orcW p f g a H := by
 simp only [VP.orc,orcW]
 exact (lim_if).trans (by rw [lim_const]; rfl)
variable (f : FuncId)
theorem mono_exec (s : SCode) (σ : List AV) (H : Heap) : Mono fun n => exec p.W (p.md f) (p.orc f (callN p n)) n s σ H := fun n m h => exec_mono _ _ (orc_le p f (callN_le p h)) h s σ H
theorem mono_ops (l : List SOpG) (σ : List AV) (H : Heap) : Mono fun n => runOps (p.md f) (p.orc f (callN p n)) l σ H := fun n m h => runOps_mono _ (orc_le p f (callN_le p h)) l σ H
theorem mono_op (d : Option Nat) (so : SOp) (σ : List AV) (H : Heap) : Mono fun n => opV (p.md f) (p.orc f (callN p n)) d so σ H := fun n m h => opV_mono _ (orc_le p f (callN_le p h)) d so σ H
theorem mono_jumps (r : SCode) (l : Nat) (s : St) : Mono fun n => jumps (exec p.W (p.md f) (p.orc f (callN p n)) n r) l n s := fun n m h => jumps_mono (fun σ H => exec_mono _ _ (orc_le p f (callN_le p h)) h r σ H) l h s
theorem callW_iff {f : FuncId} {a : List AV} {H : Heap} {y : AV × Heap} : callW p f a H = some y ↔ ∃ n,callN p n f a H = some y := lim_iff (mono_call p f a H)
theorem lim_op (d : Option Nat) (so : SOp) (σ : List AV) (H : Heap) : lim (fun n => opV (p.md f) (p.orc f (callN p n)) d so σ H) = opV (p.md f) (orcW p f) d so σ H := by
 cases so
 case call g xs =>
  simp only [opV]
  rw [lim_if,lim_map (mono_orc p f _ _ _),lim_const,lim_orc]
 case callv x xs =>
  simp only [opV]
  split
  ·rw [lim_if,lim_map (mono_orc p f _ _ _),lim_const,lim_orc]
  ·exact lim_const _
 case cut k x lo hi mx => cases k <;> exact lim_const _
 case len k x => cases k <;> exact lim_const _
 all_goals exact lim_const _
theorem lim_ops : ∀ (l : List SOpG) (σ : List AV) (H : Heap),lim (fun n => runOps (p.md f) (p.orc f (callN p n)) l σ H) = runOps (p.md f) (orcW p f) l σ H
 | [],σ,H => lim_const _
 | o :: r,σ,H => by
  simp only [runOps]
  split
  ·rw [lim_bind (f := fun n => opV (p.md f) (p.orc f (callN p n)) o.dst o.op σ H) (g := fun n (x : AV × List AV × Heap) => runOps (p.md f) (p.orc f (callN p n)) r (setD x.2.1 o.dst x.1) x.2.2) (mono_op p f _ _ _ _) (fun x => mono_ops p f _ _ _),lim_op]
   congr 1
   funext x
   exact lim_ops r _ _
  ·exact lim_ops r _ _
  ·exact lim_const _
theorem mono_step (o : SOpG) (σ : List AV) (H : Heap) : Mono fun n => stepV (p.md f) (p.orc f (callN p n)) o σ H := fun n m h => stepV_mono _ (orc_le p f (callN_le p h)) o σ H
theorem mono_runD (acc : List (DOp × Bool)) (l : List DOp) (σ : List AV) (H : Heap) : Mono fun n => runD p.W (p.md f) (p.orc f (callN p n)) acc l σ H := fun n m h => runD_mono _ _ (orc_le p f (callN_le p h)) l acc σ H
theorem lim_step (o : SOpG) (σ : List AV) (H : Heap) : lim (fun n => stepV (p.md f) (p.orc f (callN p n)) o σ H) = stepV (p.md f) (orcW p f) o σ H := by
 unfold stepV
 split
 ·exact lim_const _
 ·split
  ·rw [lim_bind (f := fun n => opV (p.md f) (p.orc f (callN p n)) o.dst o.op σ H) (g := fun _ (x : AV × List AV × Heap) => if x.1.isBox = true ∧ o.op.cls ≠ .eff then none else some (setD x.2.1 o.dst x.1,x.2.2)) (mono_op p f _ _ _ _) (fun x => mono_const _),lim_op]
   congr 1
   funext x
   exact lim_const _
  ·exact lim_const _
  ·exact lim_const _
theorem lim_runD : ∀ (l : List DOp) (acc : List (DOp × Bool)) (σ : List AV) (H : Heap),lim (fun n => runD p.W (p.md f) (p.orc f (callN p n)) acc l σ H) = runD p.W (p.md f) (orcW p f) acc l σ H
 | [],_,σ,H => lim_const _
 | d :: r,acc,σ,H => by
  simp only [runD]
  have hg : ∀ x : List AV × Heap,Mono fun n => (if (acc.all fun z => !d.un.contains z.1.i || (z.2 && keepB p.W σ d.o z.1.o) || sameV x.1 x.2 z.1.o) = true ∧ okN d σ = true then
    runD p.W (p.md f) (p.orc f (callN p n)) (if d.o.op.cls = .read ∧ (r.any fun e => e.un.contains d.i) = true then (d,goodB σ H d.o) :: acc.map fun x => (x.1,x.2 && keepB p.W σ d.o x.1.o)
     else acc.map fun x => (x.1,x.2 && keepB p.W σ d.o x.1.o)) r x.1 x.2 else none : Option (List AV × Heap)) := fun x => mono_if (mono_runD p f _ _ _ _) (mono_const _)
  rw [lim_bind (f := fun n => stepV (p.md f) (p.orc f (callN p n)) d.o σ H) (mono_step p f _ _ _) hg,lim_step]
  congr 1
  funext x
  rw [lim_if,lim_runD r,lim_const]
theorem callW_eq (a : List AV) (H : Heap) : callW p f a H = match p.X f a H with
  | some y => some y
  | none => (p.T f).bind fun s => (execW p f s.body (slots0 s.nslots a) H).bind fun st =>
    if st.e.ends = true then (resultsA s.res st.σ).bind fun v => if v.free = true then finish (p.K f) (p.C f) H.length v st.H else none else none := by
 unfold callW
 rw [← lim_succ (mono_call p f a H)]
 simp only [callN]
 cases hx : p.X f a H with
 | some y => exact lim_const _
 | none =>
  cases hs : p.T f with
  | none => exact lim_const _
  | some s =>
   simp only [Option.bind_some]
   rw [lim_bind (f := fun n => exec p.W (p.md f) (p.orc f (callN p n)) n s.body (slots0 s.nslots a) H) (g := fun _ (st : St) => if st.e.ends = true then (resultsA s.res st.σ).bind fun v => if v.free = true then finish (p.K f) (p.C f) H.length v st.H else none else none) (mono_exec p f _ _ _) (fun x => mono_const _)]
   simp only [lim_const]
   rfl
section
variable (σ : List AV) (H : Heap)
theorem execW_skip : execW p f .skip σ H = some ⟨.normal,σ,H⟩ := lim_const _
theorem execW_label (l : Nat) : execW p f (.label l) σ H = some ⟨.normal,σ,H⟩ := lim_const _
theorem execW_exit (l : Nat) : execW p f (.exit l) σ H = some ⟨.exit l,σ,H⟩ := lim_const _
theorem execW_goto (l : Nat) : execW p f (.goto l) σ H = some ⟨.goto l,σ,H⟩ := lim_const _
theorem execW_ret : execW p f .ret σ H = some ⟨.ret,σ,H⟩ := lim_const _
theorem execW_region (ks : List Nat) (ops : List SOpG) : execW p f (.region ks ops) σ H = (runOps (p.md f) (orcW p f) ops (kill ks σ) H).map fun x => ⟨.normal,x.1,x.2⟩ := by
 unfold execW
 simp only [exec]
 rw [lim_map (f := fun n => runOps (p.md f) (p.orc f (callN p n)) ops (kill ks σ) H) (g := fun x => (⟨.normal,x.1,x.2⟩ : St)) (mono_ops p f _ _ _),lim_ops]
theorem execW_drawn (ks : List Nat) (ops : List DOp) : execW p f (.drawn ks ops) σ H = (runD p.W (p.md f) (orcW p f) [] ops (kill ks σ) H).map fun x => ⟨.normal,x.1,x.2⟩ := by
 unfold execW
 simp only [exec]
 rw [lim_map (f := fun n => runD p.W (p.md f) (p.orc f (callN p n)) [] ops (kill ks σ) H) (g := fun x => (⟨.normal,x.1,x.2⟩ : St)) (mono_runD p f _ _ _ _),lim_runD]
theorem execW_seq (a b : SCode) : execW p f (.seq a b) σ H = (execW p f a σ H).bind (andThen (execW p f b)) := by
 unfold execW
 simp only [exec]
 have hg : ∀ x : St,Mono fun n => (match x.e with
   | .normal => exec p.W (p.md f) (p.orc f (callN p n)) n b x.σ x.H
   | _ => some x : Option St) := fun x => by
  cases x.e <;> first | exact mono_exec p f _ _ _ | exact mono_const _
 refine (lim_bind (f := fun n => exec p.W (p.md f) (p.orc f (callN p n)) n a σ H) (mono_exec p f _ _ _) hg).trans ?_
 congr 1
 funext x
 obtain ⟨e,s,G⟩ := x
 cases e <;> first | rfl | exact lim_const _
theorem execW_cond (x : SX) (a b : SCode) : execW p f (.cond x a b) σ H = match evalX σ x with
  | .c (.bool t) => if t = true then execW p f a σ H else execW p f b σ H
  | _ => none := by
 by_cases h : ∃ t,evalX σ x = .c (.bool t)
 ·obtain ⟨t,ht⟩ := h
  unfold execW
  simp only [exec,ht]
  exact lim_if (p := t = true)
 ·have e : (match evalX σ x with
   | .c (.bool t) => if t = true then execW p f a σ H else execW p f b σ H
   | _ => none) = none := by
   split
   ·rename_i t ht; exact (h ⟨t,ht⟩).elim
   ·rfl
  rw [e]
  unfold execW
  refine (congrArg lim (funext fun n => ?_)).trans (lim_const none)
  simp only [exec]
  split
  ·rename_i t ht; exact (h ⟨t,ht⟩).elim
  ·rfl
theorem execW_block (id : Nat) (b : SCode) : execW p f (.block id b) σ H = (execW p f b σ H).map (unblock id) := by
 unfold execW
 simp only [exec]
 exact lim_map (mono_exec p f _ _ _)
theorem execW_loop (b : SCode) : execW p f (.loop b) σ H = (execW p f b σ H).bind (andThen (execW p f (.loop b))) := by
 have hx : ∀ n m,n ≤ m → ∀ σ H,Le (exec p.W (p.md f) (p.orc f (callN p n)) n b σ H) (exec p.W (p.md f) (p.orc f (callN p m)) m b σ H) := fun n m h σ H => exec_mono _ _ (orc_le p f (callN_le p h)) h b σ H
 have e1 : ∀ σ H,execW p f (.loop b) σ H = lim fun n => iter (exec p.W (p.md f) (p.orc f (callN p n)) n b) n σ H := fun σ H => rfl
 have hmi : ∀ σ H,Mono fun n => iter (exec p.W (p.md f) (p.orc f (callN p n)) n b) n σ H := fun σ H n m h => iter_mono (hx n m h) h σ H
 have e2 : ∀ σ H,execW p f (.loop b) σ H = lim fun n => iter (exec p.W (p.md f) (p.orc f (callN p n)) n b) (n + 1) σ H := fun σ H => by
  rw [e1]
  refine lim_eq (hmi σ H) fun x => ⟨fun h => ?_,fun ⟨n,h⟩ => ?_⟩
  ·rw [lim_iff (fun n m h => iter_mono (hx n m h) (by omega) σ H)] at h
   obtain ⟨n,h⟩ := h
   exact ⟨n + 1,iter_mono (hx n (n + 1) (Nat.le_succ n)) (Nat.le_refl _) σ H x h⟩
  ·rw [lim_iff (fun n m h => iter_mono (hx n m h) (by omega) σ H)]
   exact ⟨n,iter_mono (fun σ H _ h => h) (Nat.le_succ n) σ H x h⟩
 rw [e2]
 simp only [iter]
 have hg : ∀ x : St,Mono fun n => (match x.e with
   | .normal => iter (exec p.W (p.md f) (p.orc f (callN p n)) n b) n x.σ x.H
   | _ => some x : Option St) := fun x => by
  cases x.e <;> first | exact hmi _ _ | exact mono_const _
 refine (lim_bind (f := fun n => exec p.W (p.md f) (p.orc f (callN p n)) n b σ H) (mono_exec p f _ _ _) hg).trans ?_
 unfold execW
 congr 1
 funext x
 obtain ⟨e,s,G⟩ := x
 cases e <;> first | rfl | exact lim_const _
theorem jumpW_eq (r : SCode) (l : Nat) (s : St) : jumpW p f r l s = if s.e = .goto l then (execW p f r s.σ s.H).bind (jumpW p f r l) else some s := by
 have hx : ∀ n m,n ≤ m → ∀ σ H,Le (exec p.W (p.md f) (p.orc f (callN p n)) n r σ H) (exec p.W (p.md f) (p.orc f (callN p m)) m r σ H) := fun n m h σ H => exec_mono _ _ (orc_le p f (callN_le p h)) h r σ H
 have hmi : ∀ s,Mono fun n => jumps (exec p.W (p.md f) (p.orc f (callN p n)) n r) l n s := fun s => mono_jumps p f r l s
 have e2 : jumpW p f r l s = lim fun n => jumps (exec p.W (p.md f) (p.orc f (callN p n)) n r) l (n + 1) s := by
  unfold jumpW
  refine lim_eq (hmi s) fun x => ⟨fun h => ?_,fun ⟨n,h⟩ => ?_⟩
  ·rw [lim_iff (fun n m h => jumps_mono (hx n m h) l (by omega) s)] at h
   obtain ⟨n,h⟩ := h
   exact ⟨n + 1,jumps_mono (hx n (n + 1) (Nat.le_succ n)) l (Nat.le_refl _) s x h⟩
  ·rw [lim_iff (fun n m h => jumps_mono (hx n m h) l (by omega) s)]
   exact ⟨n,jumps_mono (fun σ H _ h => h) l (Nat.le_succ n) s x h⟩
 rw [e2]
 simp only [jumps]
 rw [lim_if,lim_const]
 split
 ·exact (lim_bind (f := fun n => exec p.W (p.md f) (p.orc f (callN p n)) n r s.σ s.H) (mono_exec p f _ _ _) (fun x => hmi x)).trans rfl
 ·rfl
theorem execW_scope (b : SCode) (l : Nat) (r : SCode) : execW p f (.scope b l r) σ H = (execW p f b σ H).bind (jumpW p f r l) := by
 unfold execW
 simp only [exec]
 exact lim_bind (f := fun n => exec p.W (p.md f) (p.orc f (callN p n)) n b σ H) (mono_exec p f _ _ _) (fun x => mono_jumps p f r l x)
end
theorem callW_sim {T : FuncId → Option SFun} {X : Oracle} (hp : Fits p T X) : SimO p.W (callW p) (A.callW T X) := fun f args H v H' h => by
 obtain ⟨n,hn⟩ := (callW_iff p).1 h
 exact callN_sim hp n f args H v H' hn
end
end Go.A.V
