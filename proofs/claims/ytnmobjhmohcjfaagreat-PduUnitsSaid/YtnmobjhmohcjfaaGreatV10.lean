/- THE VALUE MACHINE: calls. -/
import Derived.Test.YtnmobjhmohcjfaaGreatV9
set_option linter.unusedSimpArgs false
set_option linter.unusedVariables false
set_option linter.unnecessarySimpa false
namespace Go.A.V
open Go Go.A
section
variable {g:Gh} {κ:Nat→Option Nat} {σ σA:List AV} {H:ae}
theorem resA_rel (hs:RVs g κ σ σA) {r:wU} {v:AV} (h:pQ σ r=some v):∃ a,pQ σA r=some a∧RV g κ v a:=by
 cases r with
 | tmp t =>
  simp only [pQ,zqs] at h
  subst h
  exact ⟨_,rfl,evalX_rel hs rfl⟩
 | cell d k =>
  simp only [pQ] at h ⊢
  have hr:=jU hs d
  split at h
  ·rename_i xs e
   rw [e] at hr
   simp only [RV] at hr
   obtain ⟨ys,e2,hys⟩:=hr
   rw [e2]
   exact gT hys h
  ·simp at h
theorem yY (hs:RVs g κ σ σA):∀ {rs:List wU} {vs:List AV},rs.mapM (pQ σ)=some vs→∃ as,rs.mapM (pQ σA)=some as∧RVs g κ vs as
 | [],vs,h=>by simp at h;subst h;exact ⟨[],by simp,by simp only [RVs]⟩
 | r :: rs,vs,h=>by
  rw [List.mapM_cons] at h
  simp only [Option.bind_eq_bind,Option.pure_def] at h
  obtain ⟨v,e1,h⟩:=zq3 h
  obtain ⟨ws,e2,h⟩:=zq3 h
  obtain rfl:=zq1 h
  obtain ⟨a,q1,q2⟩:=resA_rel hs e1
  obtain ⟨as,q3,q4⟩:=yY hs e2
  refine ⟨a :: as,?_,by simp only [RVs];exact ⟨a,as,rfl,q2,q4⟩⟩
  rw [List.mapM_cons,q1,q3]
  rfl
theorem xk (hs:RVs g κ σ σA) {rs:List wU} {v:AV} (h:aA rs σ=some v):∃ a,aA rs σA=some a∧RV g κ v a:=by
 unfold aA at h ⊢
 split at h
 ·exact resA_rel hs h
 ·obtain ⟨vs,e1,rfl⟩:=zq2 h
  obtain ⟨as,q1,q2⟩:=yY hs e1
  exact ⟨.tup as,by rw [q1];rfl,by simp only [RV];exact ⟨as,rfl,q2⟩⟩
def lM (n0:Nat) (g:Gh):Gh:=⟨fun r=>if r<n0 then g.α r else none,g.n,g.M⟩
theorem yZ {n0 r:Nat} (h:Far g r):Far (lM n0 g) r:=fun q hq=>by
 simp only [lM] at hq
 split at hq
 ·exact h q hq
 ·simp at hq
theorem jr (n0:Nat):Lk g (lM n0 g):=⟨Nat.le_refl _,fun r r' _ h q hq=>by
  simp only [lM] at hq
  split at hq
  ·exact h q hq
  ·simp at hq,fun r h _=>yZ h,fun _ _ _ _ _ _ h=>h⟩
theorem oI (n0:Nat) (κ:Nat→Option Nat):Own g (lM n0 g) κ κ:=fun _ _ h=>⟨h,rfl⟩
mutual
theorem DG (hh:HR g H) (n0:Nat):∀ {κ:Nat→Option Nat} (v a v':AV),RV g κ v a→frz n0 H v=some v'→RV (lM n0 g) κ v' a
 | _,.ptr r i k,a,v',h,e=>by
  simp only [frz] at e
  split at e
  ·obtain rfl:=zq1 e;exact sq (jr n0) (oI n0 _) _ _ h
  ·simp at e
 | κ,.sl r off len cap sz k ex,a,v',h,e=>by
  simp only [frz] at e
  split at e
  ·obtain rfl:=zq1 e;exact sq (jr n0) (oI n0 _) _ _ h
  ·rename_i hr0
   split at e
   ·simp at e
   ·rename_i hsz
    obtain ⟨cs,e1,e2⟩:=zq3 e
    split at e2
    ·rename_i hok
     obtain rfl:=zq1 e2
     simp only [RV] at h
     obtain ⟨hn,r',rfl,hα⟩:=h
     simp only [RV,mI]
     have hlen:cs.length=len * sz:=by
      unfold bT at e1
      split at e1
      ·rename_i e0;obtain rfl:=zq1 e1;rw [e0];rfl
      ·exact pZ e1
     refine ⟨r',off,cap,sz,k,ex,rfl,by omega,by simp,mJ sz len cs hlen hok,fun hne=>?_,fun c hc=>by simp at hc⟩
     have hl0:len * sz≠0:=fun e0=>by
      have:len=0:=by
       rcases Nat.mul_eq_zero.1 e0 with h | h
       ·exact h
       ·omega
      subst this
      exact hne rfl
     have e3:ba H r off (len * sz) k=some cs:=by
      unfold bT at e1
      rw [if_neg hl0] at e1
      exact e1
     obtain ⟨as,q1,q2⟩:=rdRow_rel hh e3 hα
     have hαr:g.α r=some r':=by
      unfold ba at e3
      split at e3
      ·rename_i o ho
       split at e3
       ·rename_i hc
        obtain ⟨q,o',w1,_,_⟩:=hh.row r o ho hc.1
        rw [hα q w1] at w1
        exact w1
       ·simp at e3
      ·simp at e3
     refine ⟨fun q hq=>?_,as,q1,rvss_rvs.2 ?_⟩
     ·simp only [lM] at hq
      split at hq
      ·rename_i hq0
       have:=hh.inj q r r' hq hαr
       omega
      ·simp at hq
     ·rw [kC sz len cs hlen]
      exact iB (jr n0) (Own.no _ _ _) _ _ q2
    ·simp at e2
 | _,.agg xs,a,v',h,e=>by
  simp only [frz] at e
  obtain ⟨ys,e1,rfl⟩:=zq2 e
  simp only [RV] at h ⊢
  obtain ⟨as,rfl,h⟩:=h
  exact ⟨as,rfl,sJ hh n0 xs as ys h e1⟩
 | _,.tup xs,a,v',h,e=>by
  simp only [frz] at e
  obtain ⟨ys,e1,rfl⟩:=zq2 e
  simp only [RV] at h ⊢
  obtain ⟨as,rfl,h⟩:=h
  exact ⟨as,rfl,sJ hh n0 xs as ys h e1⟩
 | _,.c v,a,v',h,e=>by
  simp only [frz,zqs] at e
  subst e
  exact sq (jr n0) (oI n0 _) _ _ h
 | _,.vs k f l,a,v',h,e=>by
  simp only [frz,zqs] at e
  subst e
  exact sq (jr n0) (oI n0 _) _ _ h
 | _,.undef,_,_,_,e=>by simp [frz] at e
 | _,.vp ..,_,_,_,e=>by simp [frz] at e
 | _,.lbox _,_,_,_,e=>by simp [frz] at e
 | _,.lptr ..,_,_,_,e=>by simp [frz] at e
 | _,.fn ..,_,_,_,e=>by simp [frz] at e
 | _,.iface ..,_,_,_,e=>by simp [frz] at e
 | _,.map _,_,_,_,e=>by simp [frz] at e
theorem sJ (hh:HR g H) (n0:Nat):∀ {κ:Nat→Option Nat} (v a v':List AV),RVs g κ v a→nb n0 H v=some v'→RVs (lM n0 g) κ v' a
 | _,[],a,v',h,e=>by
  simp only [nb,zqs] at e
  subst e
  simpa only [RVs] using h
 | _,x :: xs,a,v',h,e=>by
  simp only [nb] at e
  obtain ⟨y,e1,e⟩:=zq3 e
  obtain ⟨ys,e2,rfl⟩:=zq2 e
  simp only [RVs] at h ⊢
  obtain ⟨b,as,rfl,h1,h2⟩:=h
  exact ⟨b,as,rfl,DG hh n0 x b y h1 e1,sJ hh n0 xs as ys h2 e2⟩
end
theorem L6 (hh:HR g H) {n0:Nat} (h0:n0≤H.length):HR (lM n0 g) (H.take n0++List.replicate (H.length - n0) .other) where
 n:=by simp [lM,hh.n];omega
 dom:=fun r r' h=>by
  simp only [lM] at h
  split at h
  ·exact hh.dom r r' h
  ·simp at h
 inj:=fun r q r' h k=>by
  simp only [lM] at h k
  split at h<;>split at k<;>first | exact hh.inj r q r' h k | simp at h | simp at k
 row:=fun r o h1 h2=>by
  by_cases e:r<n0
  ·rw [List.getElem?_append_left (by simp;omega),List.getElem?_take,if_pos e] at h1
   obtain ⟨r',o',p1,p2,p3⟩:=hh.row r o h1 h2
   refine ⟨r',o',by simp only [lM,if_pos e];exact p1,p2,?_⟩
   cases p3 with
   | old h=>exact .old (iB (jr n0) (Own.no _ _ _) _ _ h)
   | row h=>exact .row (iB (jr n0) (Own.no _ _ _) _ _ h)
   | grow lo h=>exact .grow lo (iB (jr n0) (Own.no _ _ _) _ _ h)
  ·exfalso
   rw [List.getElem?_append_right (by simp;omega),List.getElem?_replicate] at h1
   split at h1
   ·obtain rfl:=zq1 h1;simp [AObj.isRow] at h2
   ·simp at h1
end
mutual
theorem sK:∀ v:AV,(pln v).free=v.free
 | .vs ..=>rfl
 | .agg xs=>by simp only [pln,AV.free];exact mO xs
 | .tup xs=>by simp only [pln,AV.free];exact mO xs
 | .lbox _=>rfl
 | .undef=>rfl
 | .c _=>rfl
 | .ptr ..=>rfl
 | .sl ..=>rfl
 | .vp ..=>rfl
 | .lptr ..=>rfl
 | .fn ..=>rfl
 | .iface ..=>rfl
 | .map _=>rfl
theorem mO:∀ l:List AV,AV.freeAll (dQ l)=AV.freeAll l
 | []=>rfl
 | x :: r=>by simp only [dQ,AV.freeAll,sK x,mO r]
end
theorem vm (c:Bool) (v:AV):(lJ c v).free=v.free:=by
 unfold lJ
 split
 ·unfold nk
  split
  ·rfl
  ·simp only [AV.free,AV.freeAll,mO]
  ·exact sK _
 ·unfold ly
  split
  ·rfl
  ·exact sK _
def xm (κ:Nat→Option Nat):AV→Nat→Option Nat
 | .vs _ (some c) _=>fun x=>if x=0 then κ c else none
 | .tup (.vs _ (some c) _ :: _)=>fun x=>if x=0 then κ c else none
 | _=>no
theorem vn {g:Gh} {κ:Nat→Option Nat} {v a:AV} (h:RV g κ v a):RV g (xm κ v) (nk v) a:=by
 unfold nk
 split
 ·rename_i k c l
  simp only [RV,xm] at h ⊢
  obtain ⟨r,off,cap,sz,gg,ex,e,h1,h2,h3,h4,h5⟩:=h
  refine ⟨r,off,cap,sz,gg,ex,e,h1,h2,h3,h4,fun c' hc'=>?_⟩
  obtain rfl:=zq1 hc'
  obtain ⟨q1,q2⟩:=h5 c rfl
  refine ⟨q1,?_⟩
  rcases q2 with q2 | ⟨q2,q3⟩
  ·exact .inl q2
  ·exact .inr ⟨by simpa using q2,q3⟩
 ·rename_i k c l rest
  simp only [RV,RVs,xm] at h ⊢
  obtain ⟨ys,e0,a0,rs,e1,h,h7⟩:=h
  refine ⟨ys,e0,a0,rs,e1,?_,ge _ _ h7⟩
  obtain ⟨r,off,cap,sz,gg,ex,e,h1,h2,h3,h4,h5⟩:=h
  refine ⟨r,off,cap,sz,gg,ex,e,h1,h2,h3,h4,fun c' hc'=>?_⟩
  obtain rfl:=zq1 hc'
  obtain ⟨q1,q2⟩:=h5 c rfl
  refine ⟨q1,?_⟩
  rcases q2 with q2 | ⟨q2,q3⟩
  ·exact .inl q2
  ·exact .inr ⟨by simpa using q2,q3⟩
 ·exact kz v a h
theorem y0 {g:Gh} {κ:Nat→Option Nat} {v a:AV} (c:Bool) (h:RV g κ v a):RV g (xm κ v) (lJ c v) a:=by
 unfold lJ
 split
 ·exact vn h
 ·have h':=vn h
  unfold ly
  split
  ·rename_i k c l
   exact h'
  ·exact kz v a h
theorem Fo {κ:Nat→Option Nat} {v:AV} {c r:Nat} (h:xm κ v c=some r):c=0∧∃ c',κ c'=some r:=by
 unfold xm at h
 split at h
 ·rename_i k c0 l
  split at h
  ·rename_i e;exact ⟨e,_,h⟩
  ·simp at h
 ·rename_i k c0 l r
  split at h
  ·rename_i e;exact ⟨e,_,h⟩
  ·simp at h
 ·simp [no] at h
mutual
theorem y5 {n0:Nat} {H:ae}:∀ {v v':AV},frz n0 H v=some v'→v.free=true→v'.free=true
 | .ptr ..,v',e,_=>by
  simp only [frz] at e
  split at e
  ·obtain rfl:=zq1 e;rfl
  ·simp at e
 | .sl ..,v',e,_=>by
  simp only [frz] at e
  split at e
  ·obtain rfl:=zq1 e;rfl
  ·split at e
   ·simp at e
   ·obtain ⟨cs,_,e2⟩:=zq3 e
    split at e2
    ·obtain rfl:=zq1 e2;rfl
    ·simp at e2
 | .agg xs,v',e,h=>by
  simp only [frz] at e
  obtain ⟨ys,e1,rfl⟩:=zq2 e
  simp only [AV.free] at h ⊢
  exact qc e1 h
 | .tup xs,v',e,h=>by
  simp only [frz] at e
  obtain ⟨ys,e1,rfl⟩:=zq2 e
  simp only [AV.free] at h ⊢
  exact qc e1 h
 | .c v,v',e,_=>by simp only [frz,zqs] at e;subst e;rfl
 | .vs ..,v',e,_=>by simp only [frz,zqs] at e;subst e;rfl
 | .undef,_,e,_=>by simp [frz] at e
 | .vp ..,_,e,_=>by simp [frz] at e
 | .lbox _,_,e,_=>by simp [frz] at e
 | .lptr ..,_,e,_=>by simp [frz] at e
 | .fn ..,_,e,_=>by simp [frz] at e
 | .iface ..,_,e,_=>by simp [frz] at e
 | .map _,_,e,_=>by simp [frz] at e
theorem qc {n0:Nat} {H:ae}:∀ {v v':List AV},nb n0 H v=some v'→AV.freeAll v=true→AV.freeAll v'=true
 | [],v',e,_=>by simp only [nb,zqs] at e;subst e;rfl
 | x :: xs,v',e,h=>by
  simp only [nb] at e
  obtain ⟨y,e1,e⟩:=zq3 e
  obtain ⟨ys,e2,rfl⟩:=zq2 e
  simp only [AV.freeAll,Bool.and_eq_true] at h ⊢
  exact ⟨y5 e1 h.1,qc e2 h.2⟩
end
theorem Fp {g:Gh} {args as:List AV} (h:RVs g no args as) (n:Nat):RVs g no (ew n args) (ew n as):=by
 unfold ew
 rw [cq h]
 refine cg h ?_
 generalize n - args.length=k
 induction k with
 | zero=>simp only [List.replicate_zero,RVs]
 | succ k ih =>
  simp only [List.replicate_succ,RVs]
  exact ⟨.undef,_,rfl,by simp only [RV],ih⟩
structure L7 (p:VP) (T:FuncId→Option aW) (X:aL):Prop where
 ft:∀ f s,p.T f=some s→T f=some s∧(∀ args H,X f args H=none)∧az s.body=true
 fx:∀ f args H v H',p.X f args H=some (v,H')→U6 p.W (callW T X) f args H v H'
theorem vq {p:VP} {T:FuncId→Option aW} {X:aL} (hp:L7 p T X):∀ n,sD p.W (callN p n) (callW T X)
 | 0=>fun f args H v H' h=>by simp [callN] at h
 | n+1=>fun f args H v H' h=>by
  simp only [callN] at h
  split at h
  ·rename_i y hy
   obtain rfl:=zq1 h
   exact hp.fx f args H v H' hy
  ·obtain ⟨s,hs,h⟩:=zq3 h
   obtain ⟨st,hst,h⟩:=zq3 h
   split at h
   ·rename_i he
    obtain ⟨v0,hv,h⟩:=zq3 h
    split at h
    ·rename_i hf
     obtain ⟨t1,t2,t3⟩:=hp.ft f s hs
     intro g as hh ha
     have ih:=vq hp n
     have hC:sD p.W (p.orc f (callN p n)) (callW T X):=fun f' args' H1 v1 H2 h1=>by
      simp only [VP.orc] at h1
      split at h1
      ·exact ih f' args' H1 v1 H2 h1
      ·simp at h1
     have hW:(p.md f).wr=false→∀ f' args' H1,p.orc f (callN p n) f' args' H1≠none→p.W f'=false:=fun hw f' args' H1 h1=>by
      simp only [VP.md] at hw
      simp only [VP.orc,hw,Bool.false_or] at h1
      split at h1
      ·rename_i h2;simpa using h2
      ·exact (h1 rfl).elim
     obtain ⟨sA,g1,κ1,q1,q2,q3,q4⟩:=gh (m:=p.md f) (m0:=g.M.length) hC hW n s.body t3 (Fp ha s.nslots) hh ⟨fun _ _ _ h=>by simp [no] at h,fun _ _ h=>by simp [no] at h⟩ (Nat.le_refl _) hst
     obtain ⟨a,p1,p2⟩:=xk q2 hv
     have hfa:a.free=true:=by rw [mG v0 a p2];exact hf
     have hcall:callW T X f as g.M=some (a,g1.M):=by
      rw [callW_eq,t2 as g.M]
      simp only [t1,Option.bind_some]
      rw [q1,Option.bind_some]
      simp only
      rw [if_pos he,p1,Option.bind_some,if_pos hfa]
     have hcol:∀ {v1:AV} (g2:Gh),g2.M=g1.M→(∀ r,Far g1 r→Far g2 r)→∀ c r,xm κ1 v1 c=some r→c=0∧g.M.length≤r∧r<g2.M.length∧Far g2 r:=fun g2 hM hF c r hc=>by
      obtain ⟨rfl,c',hc'⟩:=Fo hc
      obtain ⟨w1,w2,w3⟩:=q4.ko.far c' r hc'
      exact ⟨rfl,w2,by rw [hM];exact w3,hF r w1⟩
     simp only [ky] at h
     split at h
     ·simp only [zqs,zqp] at h
      obtain ⟨rfl,rfl⟩:=h
      exact ⟨a,g1,xm κ1 v0,hcall,by rw [vm];exact hf,q3,y0 _ p2,hcol g1 rfl (fun _ h=>h),q4.up,q4.far,q4.nw⟩
     ·obtain ⟨v1,w1,w2⟩:=zq2 h
      simp only [zqp] at w2
      obtain ⟨rfl,rfl⟩:=w2
      have hle:H.length≤st.H.length:=by rw [← hh.n,← q3.n];exact q4.up.n
      have hfr:=DG q3 H.length v0 a v1 p2 w1
      refine ⟨a,lM H.length g1,xm κ1 v1,hcall,by rw [vm];exact y5 w1 hf,L6 q3 hle,y0 _ hfr,hcol _ rfl (fun _ h=>yZ h),?_,q4.far,q4.nw⟩
      have hn:=hh.n
      exact ⟨q4.up.n,fun r r' e=>by
       have:=(hh.dom r r' e).1
       simp only [lM]
       rw [if_pos (by omega)]
       exact q4.up.keep r r' e,fun r hr e=>by
       simp only [lM]
       rw [if_pos (by omega)]
       exact q4.up.dead r hr e,fun r r' e=>by
       simp only [lM] at e
       split at e
       ·exact q4.up.new r r' e
       ·simp at e,q4.up.len,q4.up.rd⟩
    ·simp at h
   ·simp at h
end Go.A.V
