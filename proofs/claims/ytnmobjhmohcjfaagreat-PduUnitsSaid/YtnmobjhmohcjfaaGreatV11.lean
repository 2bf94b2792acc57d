/- THE VALUE MACHINE: runs without a count of steps. -/
import Derived.Test.YtnmobjhmohcjfaaGreatV10
set_option linter.unusedSimpArgs false
set_option linter.unusedVariables false
set_option linter.unnecessarySimpa false
namespace Go.A.V
open Go Go.A
section
variable {C D:aL}
theorem sL (m:Md) (h:OLe C D) (d:Option Nat) (so:SOp) (σ:List AV) (H:ae):Le (opV m C d so σ H) (opV m D d so σ H):=by
 intro y hy
 cases so
 case call f xs =>
  simp only [opV] at hy ⊢
  split at hy
  ·rename_i hf
   rw [if_pos hf]
   obtain ⟨z,h1,h2⟩:=zq2 hy
   exact Option.map_eq_some_iff.2 ⟨z,h _ _ _ z h1,h2⟩
  ·simp at hy
 case callv x xs =>
  simp only [opV] at hy ⊢
  split at hy
  ·split at hy
   ·rename_i hf
    rw [if_pos hf]
    obtain ⟨z,h1,h2⟩:=zq2 hy
    exact Option.map_eq_some_iff.2 ⟨z,h _ _ _ z h1,h2⟩
   ·simp at hy
  ·simp at hy
 case cut k x lo hi mx=>cases k<;>exact hy
 case len k x=>cases k<;>exact hy
 all_goals exact hy
theorem runOps_mono (m:Md) (h:OLe C D):∀ (l:List SOpG) (σ:List AV) (H:ae),Le (runOps m C l σ H) (runOps m D l σ H)
 | [],_,_=>fun _ hy=>hy
 | o :: r,σ,H=>fun y hy=>by
  simp only [runOps] at hy ⊢
  split at hy
  ·obtain ⟨⟨v,s,G⟩,h1,h2⟩:=zq3 hy
   exact Option.bind_eq_some_iff.2 ⟨⟨v,s,G⟩,sL m h _ _ _ _ _ h1,runOps_mono m h r _ _ y h2⟩
  ·exact runOps_mono m h r _ _ y hy
  ·simp at hy
theorem sM (m:Md) (h:OLe C D) (o:SOpG) (σ:List AV) (H:ae):Le (eH m C o σ H) (eH m D o σ H):=fun y hy=>by
 unfold eH at hy ⊢
 split at hy
 ·simp at hy
 ·rename_i hb
  rw [if_neg hb]
  split at hy
  ·obtain ⟨⟨v,s,G⟩,h1,h2⟩:=zq3 hy
   exact Option.bind_eq_some_iff.2 ⟨⟨v,s,G⟩,sL m h _ _ _ _ _ h1,h2⟩
  ·exact hy
  ·simp at hy
theorem runD_mono (W:FuncId→Bool) (m:Md) (h:OLe C D):∀ (l:List DOp) (acc:List (DOp × Bool)) (σ:List AV) (H:ae),Le (runD W m C acc l σ H) (runD W m D acc l σ H)
 | [],_,_,_=>fun _ hy=>hy
 | d :: r,acc,σ,H=>fun y hy=>by
  simp only [runD] at hy ⊢
  obtain ⟨⟨s,G⟩,h1,h2⟩:=zq3 hy
  refine Option.bind_eq_some_iff.2 ⟨⟨s,G⟩,sM m h _ _ _ _ h1,?_⟩
  simp only at h2 ⊢
  split at h2
  ·rename_i hc
   rw [if_pos hc];exact runD_mono W m h r _ _ _ y h2
  ·simp at h2
theorem exec_mono (W:FuncId→Bool) (md:Md) (h:OLe C D) {n m:Nat} (hnm:n≤m):∀ (s:SCode) (σ:List AV) (H:ae),Le (exec W md C n s σ H) (exec W md D m s σ H)
 | .skip,_,_=>fun _ hy=>hy
 | .label _,_,_=>fun _ hy=>hy
 | .exit _,_,_=>fun _ hy=>hy
 | .goto _,_,_=>fun _ hy=>hy
 | .ret,_,_=>fun _ hy=>hy
 | .region ks ops,σ,H=>fun y hy=>by
  simp only [exec] at hy ⊢
  obtain ⟨z,h1,h2⟩:=zq2 hy
  exact Option.map_eq_some_iff.2 ⟨z,runOps_mono md h _ _ _ _ h1,h2⟩
 | .drawn ks ops,σ,H=>fun y hy=>by
  simp only [exec] at hy ⊢
  obtain ⟨z,h1,h2⟩:=zq2 hy
  exact Option.map_eq_some_iff.2 ⟨z,runD_mono W md h _ _ _ _ _ h1,h2⟩
 | .seq a b,σ,H=>fun y hy=>by
  simp only [exec] at hy ⊢
  obtain ⟨s,h1,h2⟩:=zq3 hy
  refine Option.bind_eq_some_iff.2 ⟨s,exec_mono W md h hnm a _ _ _ h1,?_⟩
  cases he:s.e<;>rw [he] at h2<;>first | exact exec_mono W md h hnm b _ _ _ h2 | exact h2
 | .cond x a b,σ,H=>fun y hy=>by
  simp only [exec] at hy ⊢
  split at hy
  ·split at hy
   ·rename_i ht
    rw [if_pos ht];exact exec_mono W md h hnm a _ _ _ hy
   ·rename_i ht
    rw [if_neg ht];exact exec_mono W md h hnm b _ _ _ hy
  ·simp at hy
 | .block id b,σ,H=>fun y hy=>by
  simp only [exec] at hy ⊢
  obtain ⟨z,h1,h2⟩:=zq2 hy
  exact Option.map_eq_some_iff.2 ⟨z,exec_mono W md h hnm b _ _ _ h1,h2⟩
 | .loop b,σ,H=>fun y hy=>by
  simp only [exec] at hy ⊢
  exact dv (fun σ H=>exec_mono W md h hnm b σ H) hnm σ H y hy
 | .scope b l r,σ,H=>fun y hy=>by
  simp only [exec] at hy ⊢
  obtain ⟨s,h1,h2⟩:=zq3 hy
  exact Option.bind_eq_some_iff.2 ⟨s,exec_mono W md h hnm b _ _ _ h1,cL (fun σ H=>exec_mono W md h hnm r σ H) l hnm _ _ h2⟩
end
section
variable (p:VP)
theorem jL (f:FuncId) {C D:aL} (h:OLe C D):OLe (p.orc f C) (p.orc f D):=fun g a H y hy=>by
 simp only [VP.orc] at hy ⊢
 split at hy
 ·rename_i e;rw [if_pos e];exact h g a H y hy
 ·simp at hy
theorem callN_step:∀ n,OLe (callN p n) (callN p (n+1))
 | 0=>fun f a H y hy=>by simp [callN] at hy
 | n+1=>fun f a H y hy=>by
  rw [callN] at hy ⊢
  split at hy
  ·exact hy
  ·obtain ⟨s,hs,h⟩:=zq3 hy
   obtain ⟨st,hst,h⟩:=zq3 h
   exact Option.bind_eq_some_iff.2 ⟨s,hs,Option.bind_eq_some_iff.2 ⟨st,exec_mono p.W (p.md f) (jL p f (callN_step n)) (Nat.le_succ n) _ _ _ _ hst,h⟩⟩
theorem callN_le {n m:Nat} (h:n≤m):OLe (callN p n) (callN p m):=by
 induction h with
 | refl=>exact fun _ _ _ _ h=>h
 | step _ ih=>exact fun f a H y hy=>callN_step p _ f a H y (ih f a H y hy)
noncomputable def callW:aL:=fun f a H=>lim fun n=>callN p n f a H
noncomputable def rB (f:FuncId):aL:=p.orc f (callW p)
noncomputable def execW (f:FuncId) (s:SCode) (σ:List AV) (H:ae):Option St:=lim fun n=>exec p.W (p.md f) (p.orc f (callN p n)) n s σ H
noncomputable def jumpW (f:FuncId) (r:SCode) (l:Nat) (s:St):Option St:=lim fun n=>eQ (exec p.W (p.md f) (p.orc f (callN p n)) n r) l n s
theorem mono_call (f:FuncId) (a:List AV) (H:ae):el fun n=>callN p n f a H:=fun n m h=>callN_le p h f a H
theorem y6 (f g:FuncId) (a:List AV) (H:ae):el fun n=>p.orc f (callN p n) g a H:=fun n m h=>jL p f (callN_le p h) g a H
theorem DH (f g:FuncId) (a:List AV) (H:ae):lim (fun n=>p.orc f (callN p n) g a H)=rB p f g a H:=by
 simp only [VP.orc,rB]
 exact (iR).trans (by rw [aG];rfl)
variable (f:FuncId)
theorem mono_exec (s:SCode) (σ:List AV) (H:ae):el fun n=>exec p.W (p.md f) (p.orc f (callN p n)) n s σ H:=fun n m h=>exec_mono _ _ (jL p f (callN_le p h)) h s σ H
theorem mono_ops (l:List SOpG) (σ:List AV) (H:ae):el fun n=>runOps (p.md f) (p.orc f (callN p n)) l σ H:=fun n m h=>runOps_mono _ (jL p f (callN_le p h)) l σ H
theorem mono_op (d:Option Nat) (so:SOp) (σ:List AV) (H:ae):el fun n=>opV (p.md f) (p.orc f (callN p n)) d so σ H:=fun n m h=>sL _ (jL p f (callN_le p h)) d so σ H
theorem mono_jumps (r:SCode) (l:Nat) (s:St):el fun n=>eQ (exec p.W (p.md f) (p.orc f (callN p n)) n r) l n s:=fun n m h=>cL (fun σ H=>exec_mono _ _ (jL p f (callN_le p h)) h r σ H) l h s
theorem callW_iff {f:FuncId} {a:List AV} {H:ae} {y:AV × ae}:callW p f a H=some y ↔ ∃ n,callN p n f a H=some y:=cT (mono_call p f a H)
theorem lim_op (d:Option Nat) (so:SOp) (σ:List AV) (H:ae):lim (fun n=>opV (p.md f) (p.orc f (callN p n)) d so σ H)=opV (p.md f) (rB p f) d so σ H:=by
 cases so
 case call g xs =>
  simp only [opV]
  rw [iR,gP (y6 p f _ _ _),aG,DH]
 case callv x xs =>
  simp only [opV]
  split
  ·rw [iR,gP (y6 p f _ _ _),aG,DH]
  ·exact aG _
 case cut k x lo hi mx=>cases k<;>exact aG _
 case len k x=>cases k<;>exact aG _
 all_goals exact aG _
theorem lim_ops:∀ (l:List SOpG) (σ:List AV) (H:ae),lim (fun n=>runOps (p.md f) (p.orc f (callN p n)) l σ H)=runOps (p.md f) (rB p f) l σ H
 | [],σ,H=>aG _
 | o :: r,σ,H=>by
  simp only [runOps]
  split
  ·rw [di (f:=fun n=>opV (p.md f) (p.orc f (callN p n)) o.dst o.op σ H) (g:=fun n (x:AV × List AV × ae)=>runOps (p.md f) (p.orc f (callN p n)) r (cJ x.2.1 o.dst x.1) x.2.2) (mono_op p f _ _ _ _) (fun x=>mono_ops p f _ _ _),lim_op]
   congr 1
   funext x
   exact lim_ops r _ _
  ·exact lim_ops r _ _
  ·exact aG _
theorem mono_step (o:SOpG) (σ:List AV) (H:ae):el fun n=>eH (p.md f) (p.orc f (callN p n)) o σ H:=fun n m h=>sM _ (jL p f (callN_le p h)) o σ H
theorem mono_runD (acc:List (DOp × Bool)) (l:List DOp) (σ:List AV) (H:ae):el fun n=>runD p.W (p.md f) (p.orc f (callN p n)) acc l σ H:=fun n m h=>runD_mono _ _ (jL p f (callN_le p h)) l acc σ H
theorem lim_step (o:SOpG) (σ:List AV) (H:ae):lim (fun n=>eH (p.md f) (p.orc f (callN p n)) o σ H)=eH (p.md f) (rB p f) o σ H:=by
 unfold eH
 split
 ·exact aG _
 ·split
  ·rw [di (f:=fun n=>opV (p.md f) (p.orc f (callN p n)) o.dst o.op σ H) (g:=fun _ (x:AV × List AV × ae)=>if x.1.isBox=true∧o.op.cls≠.eff then none else some (cJ x.2.1 o.dst x.1,x.2.2)) (mono_op p f _ _ _ _) (fun x=>dz _),lim_op]
   congr 1
   funext x
   exact aG _
  ·exact aG _
  ·exact aG _
theorem lim_runD:∀ (l:List DOp) (acc:List (DOp × Bool)) (σ:List AV) (H:ae),lim (fun n=>runD p.W (p.md f) (p.orc f (callN p n)) acc l σ H)=runD p.W (p.md f) (rB p f) acc l σ H
 | [],_,σ,H=>aG _
 | d :: r,acc,σ,H=>by
  simp only [runD]
  have hg:∀ x:List AV × ae,el fun n=>(if (acc.all fun z=>!d.un.contains z.1.i || (z.2 && aK p.W σ d.o z.1.o) || aP x.1 x.2 z.1.o)=true then
    runD p.W (p.md f) (p.orc f (callN p n)) (if d.o.op.cls=.read∧(r.any fun e=>e.un.contains d.i)=true then (d,cw σ H d.o) :: acc.map fun x=>(x.1,x.2 && aK p.W σ d.o x.1.o)
     else acc.map fun x=>(x.1,x.2 && aK p.W σ d.o x.1.o)) r x.1 x.2 else none:Option (List AV × ae)):=fun x=>Dy (mono_runD p f _ _ _ _) (dz _)
  rw [di (f:=fun n=>eH (p.md f) (p.orc f (callN p n)) d.o σ H) (mono_step p f _ _ _) hg,lim_step]
  congr 1
  funext x
  rw [iR,lim_runD r,aG]
theorem callW_eq (a:List AV) (H:ae):callW p f a H=match p.X f a H with
  | some y=>some y
  | none=>(p.T f).bind fun s=>(execW p f s.body (ew s.nslots a) H).bind fun st =>
    if st.e.ends=true then (aA s.res st.σ).bind fun v=>if v.free=true then ky (p.K f) (p.C f) H.length v st.H else none else none:=by
 unfold callW
 rw [← yL (mono_call p f a H)]
 simp only [callN]
 cases hx:p.X f a H with
 | some y=>exact aG _
 | none =>
  cases hs:p.T f with
  | none=>exact aG _
  | some s =>
   simp only [Option.bind_some]
   rw [di (f:=fun n=>exec p.W (p.md f) (p.orc f (callN p n)) n s.body (ew s.nslots a) H) (g:=fun _ (st:St)=>if st.e.ends=true then (aA s.res st.σ).bind fun v=>if v.free=true then ky (p.K f) (p.C f) H.length v st.H else none else none) (mono_exec p f _ _ _) (fun x=>dz _)]
   simp only [aG]
   rfl
section
variable (σ:List AV) (H:ae)
theorem execW_skip:execW p f .skip σ H=some ⟨.normal,σ,H⟩:=aG _
theorem execW_label (l:Nat):execW p f (.label l) σ H=some ⟨.normal,σ,H⟩:=aG _
theorem execW_exit (l:Nat):execW p f (.exit l) σ H=some ⟨.exit l,σ,H⟩:=aG _
theorem execW_goto (l:Nat):execW p f (.goto l) σ H=some ⟨.goto l,σ,H⟩:=aG _
theorem execW_ret:execW p f .ret σ H=some ⟨.ret,σ,H⟩:=aG _
theorem execW_region (ks:List Nat) (ops:List SOpG):execW p f (.region ks ops) σ H=(runOps (p.md f) (rB p f) ops (kill ks σ) H).map fun x=>⟨.normal,x.1,x.2⟩:=by
 unfold execW
 simp only [exec]
 rw [gP (f:=fun n=>runOps (p.md f) (p.orc f (callN p n)) ops (kill ks σ) H) (g:=fun x=>(⟨.normal,x.1,x.2⟩:St)) (mono_ops p f _ _ _),lim_ops]
theorem execW_drawn (ks:List Nat) (ops:List DOp):execW p f (.drawn ks ops) σ H=(runD p.W (p.md f) (rB p f) [] ops (kill ks σ) H).map fun x=>⟨.normal,x.1,x.2⟩:=by
 unfold execW
 simp only [exec]
 rw [gP (f:=fun n=>runD p.W (p.md f) (p.orc f (callN p n)) [] ops (kill ks σ) H) (g:=fun x=>(⟨.normal,x.1,x.2⟩:St)) (mono_runD p f _ _ _ _),lim_runD]
theorem execW_seq (a b:SCode):execW p f (.seq a b) σ H=(execW p f a σ H).bind (andThen (execW p f b)):=by
 unfold execW
 simp only [exec]
 have hg:∀ x:St,el fun n=>(match x.e with
   | .normal=>exec p.W (p.md f) (p.orc f (callN p n)) n b x.σ x.H
   | _=>some x:Option St):=fun x=>by
  cases x.e<;>first | exact mono_exec p f _ _ _ | exact dz _
 refine (di (f:=fun n=>exec p.W (p.md f) (p.orc f (callN p n)) n a σ H) (mono_exec p f _ _ _) hg).trans ?_
 congr 1
 funext x
 obtain ⟨e,s,G⟩:=x
 cases e<;>first | rfl | exact aG _
theorem execW_cond (x:SX) (a b:SCode):execW p f (.cond x a b) σ H=match ak σ x with
  | .c (.bool t)=>if t=true then execW p f a σ H else execW p f b σ H
  | _=>none:=by
 by_cases h:∃ t,ak σ x=.c (.bool t)
 ·obtain ⟨t,ht⟩:=h
  unfold execW
  simp only [exec,ht]
  exact iR (p:=t=true)
 ·have e:(match ak σ x with
   | .c (.bool t)=>if t=true then execW p f a σ H else execW p f b σ H
   | _=>none)=none:=by
   split
   ·rename_i t ht;exact (h ⟨t,ht⟩).elim
   ·rfl
  rw [e]
  unfold execW
  refine (congrArg lim (funext fun n=>?_)).trans (aG none)
  simp only [exec]
  split
  ·rename_i t ht;exact (h ⟨t,ht⟩).elim
  ·rfl
theorem execW_block (id:Nat) (b:SCode):execW p f (.block id b) σ H=(execW p f b σ H).map (rH id):=by
 unfold execW
 simp only [exec]
 exact gP (mono_exec p f _ _ _)
theorem execW_loop (b:SCode):execW p f (.loop b) σ H=(execW p f b σ H).bind (andThen (execW p f (.loop b))):=by
 have hx:∀ n m,n≤m→∀ σ H,Le (exec p.W (p.md f) (p.orc f (callN p n)) n b σ H) (exec p.W (p.md f) (p.orc f (callN p m)) m b σ H):=fun n m h σ H=>exec_mono _ _ (jL p f (callN_le p h)) h b σ H
 have e1:∀ σ H,execW p f (.loop b) σ H=lim fun n=>iO (exec p.W (p.md f) (p.orc f (callN p n)) n b) n σ H:=fun σ H=>rfl
 have hmi:∀ σ H,el fun n=>iO (exec p.W (p.md f) (p.orc f (callN p n)) n b) n σ H:=fun σ H n m h=>dv (hx n m h) h σ H
 have e2:∀ σ H,execW p f (.loop b) σ H=lim fun n=>iO (exec p.W (p.md f) (p.orc f (callN p n)) n b) (n+1) σ H:=fun σ H=>by
  rw [e1]
  refine lH (hmi σ H) fun x=>⟨fun h=>?_,fun ⟨n,h⟩=>?_⟩
  ·rw [cT (fun n m h=>dv (hx n m h) (by omega) σ H)] at h
   obtain ⟨n,h⟩:=h
   exact ⟨n+1,dv (hx n (n+1) (Nat.le_succ n)) (Nat.le_refl _) σ H x h⟩
  ·rw [cT (fun n m h=>dv (hx n m h) (by omega) σ H)]
   exact ⟨n,dv (fun σ H _ h=>h) (Nat.le_succ n) σ H x h⟩
 rw [e2]
 simp only [iO]
 have hg:∀ x:St,el fun n=>(match x.e with
   | .normal=>iO (exec p.W (p.md f) (p.orc f (callN p n)) n b) n x.σ x.H
   | _=>some x:Option St):=fun x=>by
  cases x.e<;>first | exact hmi _ _ | exact dz _
 refine (di (f:=fun n=>exec p.W (p.md f) (p.orc f (callN p n)) n b σ H) (mono_exec p f _ _ _) hg).trans ?_
 unfold execW
 congr 1
 funext x
 obtain ⟨e,s,G⟩:=x
 cases e<;>first | rfl | exact aG _
theorem jumpW_eq (r:SCode) (l:Nat) (s:St):jumpW p f r l s=if s.e=.goto l then (execW p f r s.σ s.H).bind (jumpW p f r l) else some s:=by
 have hx:∀ n m,n≤m→∀ σ H,Le (exec p.W (p.md f) (p.orc f (callN p n)) n r σ H) (exec p.W (p.md f) (p.orc f (callN p m)) m r σ H):=fun n m h σ H=>exec_mono _ _ (jL p f (callN_le p h)) h r σ H
 have hmi:∀ s,el fun n=>eQ (exec p.W (p.md f) (p.orc f (callN p n)) n r) l n s:=fun s=>mono_jumps p f r l s
 have e2:jumpW p f r l s=lim fun n=>eQ (exec p.W (p.md f) (p.orc f (callN p n)) n r) l (n+1) s:=by
  unfold jumpW
  refine lH (hmi s) fun x=>⟨fun h=>?_,fun ⟨n,h⟩=>?_⟩
  ·rw [cT (fun n m h=>cL (hx n m h) l (by omega) s)] at h
   obtain ⟨n,h⟩:=h
   exact ⟨n+1,cL (hx n (n+1) (Nat.le_succ n)) l (Nat.le_refl _) s x h⟩
  ·rw [cT (fun n m h=>cL (hx n m h) l (by omega) s)]
   exact ⟨n,cL (fun σ H _ h=>h) l (Nat.le_succ n) s x h⟩
 rw [e2]
 simp only [eQ]
 rw [iR,aG]
 split
 ·exact (di (f:=fun n=>exec p.W (p.md f) (p.orc f (callN p n)) n r s.σ s.H) (mono_exec p f _ _ _) (fun x=>hmi x)).trans rfl
 ·rfl
theorem execW_scope (b:SCode) (l:Nat) (r:SCode):execW p f (.scope b l r) σ H=(execW p f b σ H).bind (jumpW p f r l):=by
 unfold execW
 simp only [exec]
 exact di (f:=fun n=>exec p.W (p.md f) (p.orc f (callN p n)) n b σ H) (mono_exec p f _ _ _) (fun x=>mono_jumps p f r l x)
end
theorem Fq {T:FuncId→Option aW} {X:aL} (hp:L7 p T X):sD p.W (callW p) (A.callW T X):=fun f args H v H' h=>by
 obtain ⟨n,hn⟩:=(callW_iff p).1 h
 exact vq hp n f args H v H' hn
end
end Go.A.V
