/- THE VALUE MACHINE: single operations, first part. -/
import Derived.Test.YtnmobjhmohcjfaaGreatV3
set_option linter.unusedSimpArgs false
set_option linter.unusedVariables false
set_option linter.unnecessarySimpa false
namespace Go.A.V
open Go Go.A
section
variable {m0:Nat} {wr:Bool} {g:Gh} {κ:Nat→Option Nat} {σ σA:List AV} {H:ae}
theorem xh {k:BK} {x y a b:AV} {r:Bool} (hx:RV g κ x a) (hy:RV g κ y b) (h:eF k x y=some r):eF k a b=some r:=by
 unfold eF at h
 split at h<;>first | (rw [cK hx,cK hy];exact h) | simp at h
theorem vg:∀ {ks:List BK} {xs ys as bs:List AV} {r:Bool},RVs g κ xs as→RVs g κ ys bs→en ks xs ys=some r→en ks as bs=some r
 | [],[],[],as,bs,r,hx,hy,h=>by
  simp only [RVs] at hx hy
  subst hx;subst hy;exact h
 | k :: ks,x :: xs,y :: ys,as,bs,r,hx,hy,h=>by
  simp only [RVs] at hx hy
  obtain ⟨a,as',rfl,h1,h2⟩:=hx
  obtain ⟨b,bs',rfl,h3,h4⟩:=hy
  simp only [en] at h ⊢
  cases e:eF k x y with
  | none=>rw [e] at h;simp at h
  | some t =>
   rw [xh h1 h3 e]
   rw [e] at h
   cases t with
   | true=>exact vg h2 h4 h
   | false=>exact h
 | [],_ :: _,_,_,_,_,_,_,h=>by simp [en] at h
 | [],[],_ :: _,_,_,_,_,_,h=>by simp [en] at h
 | _ :: _,[],_,_,_,_,_,_,h=>by simp [en] at h
 | _ :: _,_ :: _,[],_,_,_,_,_,h=>by simp [en] at h
theorem DB {ek:EqK} {x y a b:AV} {r:Bool} (hx:RV g κ x a) (hy:RV g κ y b) (h:eqv ek x y=some r):eqv ek a b=some r:=by
 unfold eqv at h
 split at h
 ·rw [cK hx,cK hy];exact h
 ·rw [cK hx,cK hy];exact h
 ·simp only [RV] at hx;obtain ⟨_,_,rfl,_⟩:=hx;rw [cK hy];exact h
 ·simp only [RV] at hy;obtain ⟨_,_,rfl,_⟩:=hy;rw [cK hx];exact h
 ·rw [cK hx,cK hy];exact h
 ·simp only [RV] at hx;obtain ⟨_,_,rfl,_⟩:=hx;rw [cK hy];exact h
 ·simp only [RV] at hy;obtain ⟨_,_,rfl,_⟩:=hy;rw [cK hx];exact h
 ·rename_i ks xs ys
  simp only [RV] at hx hy
  obtain ⟨as,rfl,h1⟩:=hx
  obtain ⟨bs,rfl,h2⟩:=hy
  simp only [eqv]
  split at h
  ·rename_i hc
   rw [if_pos (by rw [cq h1,cq h2];exact hc)]
   exact vg h1 h2 h
  ·simp at h
 ·simp at h
theorem HO {op:BinOp} {ek:EqK} {x y a b v:AV} (hx:RV g κ x a) (hy:RV g κ y b) (h:bU op ek x y=some v):bU op ek a b=some v:=by
 have gen:(∀ u,x=.c u→a=.c u):=fun u e=>by subst e;exact cK hx
 have gen':(∀ u,y=.c u→b=.c u):=fun u e=>by subst e;exact cK hy
 by_cases hc:(∃ u,x=.c u)∧∃ u,y=.c u
 ·obtain ⟨⟨u,rfl⟩,u',rfl⟩:=hc
  rw [gen u rfl,gen' u' rfl];exact h
 ·have hn:∀ (u u':Value),x=.c u→y=.c u'→False:=fun u u' e e'=>hc ⟨⟨u,e⟩,u',e'⟩
  have hna:∀ (u u':Value),a=.c u→b=.c u'→False:=by
   intro u u' e e'
   subst e;subst e'
   cases x<;>simp only [RV] at hx
   case c =>
    cases y<;>simp only [RV] at hy
    case c=>exact hn _ _ rfl rfl
    case undef=>simp at hy
    case ptr=>obtain ⟨_,_,e,_⟩:=hy;simp at e
    case sl=>obtain ⟨_,_,e,_⟩:=hy;simp at e
    case vs=>obtain ⟨_,_,_,_,_,_,e,_⟩:=hy;simp at e
    case vp=>obtain ⟨_,_,_,_,e,_⟩:=hy;simp at e
    case lbox=>obtain ⟨_,e,_⟩:=hy;simp at e
    case lptr=>simp at hy
    case agg=>obtain ⟨_,e,_⟩:=hy;simp at e
    case tup=>obtain ⟨_,e,_⟩:=hy;simp at e
    case fn=>obtain ⟨_,e,_⟩:=hy;simp at e
    case iface=>obtain ⟨_,e,_⟩:=hy;simp at e
   case undef=>simp at hx
   case ptr=>obtain ⟨_,_,e,_⟩:=hx;simp at e
   case sl=>obtain ⟨_,_,e,_⟩:=hx;simp at e
   case vs=>obtain ⟨_,_,_,_,_,_,e,_⟩:=hx;simp at e
   case vp=>obtain ⟨_,_,_,_,e,_⟩:=hx;simp at e
   case lbox=>obtain ⟨_,e,_⟩:=hx;simp at e
   case lptr=>simp at hx
   case agg=>obtain ⟨_,e,_⟩:=hx;simp at e
   case tup=>obtain ⟨_,e,_⟩:=hx;simp at e
   case fn=>obtain ⟨_,e,_⟩:=hx;simp at e
   case iface=>obtain ⟨_,e,_⟩:=hx;simp at e
  unfold bU at h ⊢
  split at h
  ·exact (hn _ _ rfl rfl).elim
  ·exact (hn _ _ rfl rfl).elim
  ·exact (hn _ _ rfl rfl).elim
  ·exact (hn _ _ rfl rfl).elim
  ·obtain ⟨t,e1,e2⟩:=zq2 h
   have e3:=DB hx hy e1
   split<;>first | exact (hna _ _ rfl rfl).elim | (rw [e3];simpa using e2) | skip
   all_goals simp_all
  ·obtain ⟨t,e1,e2⟩:=zq2 h
   have e3:=DB hx hy e1
   split<;>first | exact (hna _ _ rfl rfl).elim | (rw [e3];simpa using e2) | skip
   all_goals simp_all
  ·simp at h
theorem HP {op:BinOp} {ek:EqK} {x y v:AV} (h:bU op ek x y=some v):isC v=true:=by
 unfold bU at h
 split at h
 ·split at h<;>first | (simp at h;done) | (obtain rfl:=zq1 h;rfl)
 ·split at h<;>first | (simp at h;done) | (obtain rfl:=zq1 h;rfl)
 ·split at h
  ·unfold dy at h
   split at h<;>first | (obtain rfl:=zq1 h;rfl) | (split at h<;>first | (simp at h;done) | (obtain rfl:=zq1 h;rfl)) | (simp at h;done)
  ·simp at h
 ·unfold pP at h
  split at h<;>first | (obtain rfl:=zq1 h;rfl) | (split at h<;>first | (simp at h;done) | (obtain rfl:=zq1 h;rfl)) | (simp at h;done)
 ·obtain ⟨t,_,rfl⟩:=zq2 h;rfl
 ·obtain ⟨t,_,rfl⟩:=zq2 h;rfl
 ·simp at h
theorem LZ {op:UnOp} {x a v:AV} (hx:RV g κ x a) (h:unA op x=some v):unA op a=some v∧isC v=true:=by
 unfold unA at h
 split at h
 ·rw [cK hx];refine ⟨h,?_⟩;obtain rfl:=zq1 h;rfl
 ·rw [cK hx]
  refine ⟨h,?_⟩
  unfold dy at h
  simp only at h
  obtain rfl:=zq1 h;rfl
 ·rw [cK hx];refine ⟨h,?_⟩;obtain rfl:=zq1 h;rfl
 ·simp at h
theorem ie:∀ {cs as:List AV} {l:List UInt8},RVs g κ cs as→cF cs=some l→cF as=some l
 | [],_,l,hs,h=>by simp only [RVs] at hs;subst hs;exact h
 | x :: cs,_,l,hs,h=>by
  simp only [RVs] at hs
  obtain ⟨a,as,rfl,h1,h2⟩:=hs
  unfold cF at h
  split at h
  ·rename_i e;simp at e
  ·rename_i n r e
   simp only [List.cons.injEq] at e
   obtain ⟨rfl,rfl⟩:=e
   rw [cK h1]
   obtain ⟨l',q1,rfl⟩:=zq2 h
   simp only [cF,ie h2 q1,Option.map_some]
  ·simp at h
theorem kB {x a:AV} {y n:Nat} (hx:RV g κ x a) (h:cI x y=some n):cI a y=some n:=by
 unfold cI at h
 split at h
 ·rw [cK hx];exact h
 ·simp at h
theorem A9 (hs:RVs g κ σ σA) {x:Option SX} (ho:A8 x=true):∀ v,x.map (ak σ)=some v→∃ a,x.map (ak σA)=some a∧RV g κ v a:=by
 intro v h
 cases x with
 | none=>simp at h
 | some s =>
  simp only [Option.map_some,zqs] at h
  subst h
  exact ⟨_,rfl,evalX_rel hs ho⟩
theorem fN (hs:RVs g κ σ σA) {lo hi mx:Option SX} (h1:A8 lo=true) (h2:A8 hi=true) (h3:A8 mx=true) {len cap cap' l h m:Nat}
  (hc:cap=cap'∨(cap=len∧len≤cap' )) (hb:bB len cap (lo.map (ak σ)) (hi.map (ak σ)) (mx.map (ak σ))=some (l,h,m)) :
  ∃ m',bB len cap' (lo.map (ak σA)) (hi.map (ak σA)) (mx.map (ak σA))=some (l,h,m')∧(mx.isSome=true∨cap=cap'→m'=m)∧l≤h∧h≤m∧m≤m'∧m≤cap:=by
 have bnd:∀ {x:AV} {y n:Nat},cI x y=some n→n≤y:=by
  intro x y n h
  unfold cI at h
  split at h
  ·split at h
   ·obtain rfl:=zq1 h;omega
   ·simp at h
  ·simp at h
 have bup:∀ {x:AV} {y y' n:Nat},cI x y=some n→y≤y'→cI x y'=some n:=by
  intro x y y' n h hy
  unfold cI at h ⊢
  split at h
  ·split at h
   ·rw [if_pos (by omega)];exact h
   ·simp at h
  ·simp at h
 unfold bB at hb ⊢
 split at hb
 ·rename_i hlc
  have hcc:cap≤cap':=by rcases hc with h | ⟨h,h'⟩<;>omega
  rw [if_pos (by omega)]
  obtain ⟨m1,e1,hb⟩:=zq3 hb
  obtain ⟨h1',e2,hb⟩:=zq3 hb
  obtain ⟨l1,e3,hb⟩:=zq2 hb
  simp only [zqp] at hb
  obtain ⟨rfl,rfl,rfl⟩:=hb
  have hcap:∃ m',lh cap' (mx.map (ak σA))=some m'∧(mx.isSome=true∨cap=cap'→m'=m1)∧m1≤m'∧m1≤cap:=by
   cases hm:mx.map (ak σ) with
   | none =>
    have:mx=none:=by cases mx<;>simp at hm ⊢
    subst this
    rw [hm] at e1
    simp only [lh,zqs] at e1
    subst e1
    exact ⟨cap',rfl,fun h=>by rcases h with h | h<;>simp_all,hcc,Nat.le_refl _⟩
   | some v =>
    obtain ⟨a,q1,q2⟩:=A9 hs h3 v hm
    rw [hm] at e1
    simp only [lh] at e1
    rw [q1]
    exact ⟨m1,bup (kB q2 e1) hcc,fun _=>rfl,Nat.le_refl _,bnd e1⟩
  obtain ⟨m',q1,q2,q3,q4⟩:=hcap
  have hhigh:jG len m' (hi.map (ak σA)) (mx.map (ak σA))=some h1'∧h1'≤m1:=by
   cases hm:hi.map (ak σ) with
   | none =>
    have:hi=none:=by cases hi<;>simp at hm ⊢
    subst this
    rw [hm] at e2
    cases hx:mx.map (ak σ) with
    | none =>
     have:mx=none:=by cases mx<;>simp at hx ⊢
     subst this
     rw [hx] at e2 e1
     simp only [jG,zqs] at e2
     simp only [lh,zqs] at e1
     subst e2
     exact ⟨rfl,by omega⟩
    | some v=>rw [hx] at e2;simp [jG] at e2
   | some v =>
    obtain ⟨a,p1,p2⟩:=A9 hs h2 v hm
    rw [hm] at e2
    simp only [jG] at e2
    rw [p1]
    exact ⟨bup (kB p2 e2) q3,bnd e2⟩
  have hlow:nZ h1' (lo.map (ak σA))=some l1∧l1≤h1':=by
   cases hm:lo.map (ak σ) with
   | none =>
    have:lo=none:=by cases lo<;>simp at hm ⊢
    subst this
    rw [hm] at e3
    simp only [nZ,zqs] at e3
    subst e3
    exact ⟨rfl,by omega⟩
   | some v =>
    obtain ⟨a,p1,p2⟩:=A9 hs h1 v hm
    rw [hm] at e3
    simp only [nZ] at e3
    rw [p1]
    exact ⟨kB p2 e3,bnd e3⟩
  refine ⟨m',?_,q2,hlow.2,hhigh.2,q3,q4⟩
  rw [q1,Option.bind_some,hhigh.1,Option.bind_some,hlow.1,Option.map_some]
 ·simp at hb
theorem sC (f:AV→AV→Option AV) (hf:∀ x y v,f x y=some v→isC x=true∧isC y=true∧isC v=true):∀ {xs as:List AV} {z v:AV},RVs g κ xs as→isC z=true→xs.foldlM f z=some v→as.foldlM f z=some v∧isC v=true
 | [],_,z,v,hs,hz,h=>by
  simp only [RVs] at hs;subst hs
  simp only [List.foldlM_nil,Option.pure_def,zqs] at h
  subst h
  exact ⟨rfl,hz⟩
 | x :: xs,_,z,v,hs,hz,h=>by
  simp only [RVs] at hs
  obtain ⟨a,as,rfl,h1,h2⟩:=hs
  simp only [List.foldlM_cons,Option.bind_eq_bind] at h ⊢
  obtain ⟨w,e1,e2⟩:=zq3 h
  obtain ⟨_,q2,q3⟩:=hf z x w e1
  have:a=x:=by
   cases x<;>simp [isC] at q2
   exact cK h1
  subst this
  rw [e1]
  exact sC f hf h2 q3 e2
theorem HQ (x y v:AV) (h:uE x y=some v):isC x=true∧isC y=true∧isC v=true:=by
 unfold uE at h
 split at h
 ·obtain rfl:=zq1 h;exact ⟨rfl,rfl,rfl⟩
 ·simp at h
theorem HS (x y v:AV) (h:wV x y=some v):isC x=true∧isC y=true∧isC v=true:=by
 unfold wV at h
 split at h
 ·obtain rfl:=zq1 h;exact ⟨rfl,rfl,rfl⟩
 ·simp at h
theorem loadA_rel (hs:RVs g κ σ σA) (hh:HR g H) {k:Option Nat} {x a v:AV} (hx:RV g κ x a) (h:cB σ H k x=some v):∃ b,cB σA g.M k a=some b∧RV g κ v b:=by
 unfold cB at h
 split at h
 ·rename_i d i
  simp only [RV] at hx
  subst hx
  split at h
  ·rename_i xs hd
   have hr:=jU hs d
   rw [hd] at hr
   simp only [RV] at hr
   obtain ⟨ys,e,hys⟩:=hr
   obtain ⟨b,q1,q2⟩:=gT hys h
   exact ⟨b,by simp only [cB,e];exact q1,q2⟩
  ·simp at h
 ·rename_i r i n
  simp only [RV] at hx
  obtain ⟨_,r',rfl,hr⟩:=hx
  cases k with
  | none =>
   simp only at h
   obtain ⟨l,e1,e2⟩:=zq3 h
   obtain ⟨as,q1,q2⟩:=rdRow_rel hh e1 hr
   obtain ⟨b,p1,p2⟩:=gQ q2 e2
   exact ⟨b,by simp only [cB,q1,Option.bind_some];exact p1,weak p2⟩
  | some m =>
   simp only at h
   obtain ⟨l,e1,rfl⟩:=zq2 h
   obtain ⟨as,q1,q2⟩:=rdRow_rel hh e1 hr
   refine ⟨.agg as,by simp only [cB,q1,Option.map_some],?_⟩
   simp only [RV]
   exact ⟨as,rfl,O5 q2⟩
 ·simp at h
theorem vh {k:Option Nat} {cs:List AV} {i:Nat} {a v:AV} (hx:RV g κ (.vp cs i) a) (h:bd k cs i=some v):∃ b,cB σA g.M k a=some b∧RV g κ v b:=by
 simp only [RV] at hx
 obtain ⟨r,o,gg,as,rfl,hf,hr,hs,hk⟩:=hx
 cases k with
 | none =>
  simp only [bd] at h
  have hi:=(List.getElem?_eq_some_iff.1 h).1
  have q:=mH hr (i:=i) (m:=1) (by omega)
  obtain ⟨b,p1,p2⟩:=gQ hs h
  refine ⟨b,?_,weak p2⟩
  simp only [cB,q,Option.bind_some]
  rw [List.getElem?_take,if_pos (by omega),List.getElem?_drop]
  exact p1
 | some m =>
  simp only [bd] at h
  split at h
  ·rename_i hm
   obtain rfl:=zq1 h
   have q:=mH hr (i:=i) (m:=m) hm
   refine ⟨.agg ((as.drop i).take m),by simp only [cB,q,Option.map_some],?_⟩
   simp only [RV]
   exact ⟨_,rfl,O5 (fL (fM hs i) m)⟩
  ·simp at h
theorem xi (hh:HR g H) (hk:KO m0 g κ) {r r':Nat} {o o1 o1':AObj} (ho:H[r]?=some o) (hw:o.isRow=true) (hr:∀ q,g.α r=some q→q=r') (h1:∀ g',Up g g'→OR g' o1 o1') :
  HR ⟨g.α,g.n,g.M.set r' o1'⟩ (H.set r o1)∧Up g ⟨g.α,g.n,g.M.set r' o1'⟩∧Own g ⟨g.α,g.n,g.M.set r' o1'⟩ κ κ∧KO m0 ⟨g.α,g.n,g.M.set r' o1'⟩ κ∧g.α r=some r'∧∀ q,Far g q→(g.M.set r' o1')[q]?=g.M[q]?:=by
 obtain ⟨q',o',e1,e2,e3⟩:=hh.row r o ho hw
 obtain rfl:=hr q' e1
 have hne:∀ q,Far g q→q'≠q:=fun q hq e=>hq r (by rw [← e];exact e1)
 have hu:Up g ⟨g.α,g.n,g.M.set q' o1'⟩:=⟨Nat.le_refl _,fun _ _ h=>h,fun _ _ h=>h,fun _ _ h=>.inl h,by simp,fun q hq i n k as h=>by
  simp only [ba] at h ⊢
  rw [List.getElem?_set_ne (hne q hq)]
  exact h⟩
 refine ⟨⟨by simp [hh.n],fun a b h=>by simpa using hh.dom a b h,hh.inj,fun a ob h1' h2=>?_⟩,hu,fun c a h=>⟨h,List.getElem?_set_ne (hne a (hk.far c a h).1)⟩,⟨hk.inj,fun c a h=>by
  obtain ⟨p1,p2,p3⟩:=hk.far c a h
  exact ⟨p1,p2,by simpa using p3⟩⟩,e1,fun q hq=>List.getElem?_set_ne (hne q hq)⟩
 by_cases e:a=r
 ·subst e
  have hl:=(List.getElem?_eq_some_iff.1 ho).1
  rw [List.getElem?_set_self hl] at h1'
  obtain rfl:=zq1 h1'
  exact ⟨q',o1',e1,by simp [(hh.dom a q' e1).2],h1 _ hu⟩
 ·rw [List.getElem?_set_ne (fun h=>e h.symm)] at h1'
  obtain ⟨b,ob',p1,p2,p3⟩:=hh.row a ob h1' h2
  exact ⟨b,ob',p1,by show (g.M.set q' o1')[b]?=_;rw [List.getElem?_set_ne (fun h=>e (hh.inj a r b p1 (by rw [← h];exact e1)))];exact p2,p3.up hu⟩
theorem wrRow_rel (hh:HR g H) (hk:KO m0 g κ) {r r' i k:Nat} {xs as:List AV} {H':ae} (hr:∀ q,g.α r=some q→q=r') (hx:RVs g no xs as) (h:dH H r i k xs=some H') :
  ∃ M',dH g.M r' i k as=some M'∧HR ⟨g.α,g.n,M'⟩ H'∧Up g ⟨g.α,g.n,M'⟩∧Own g ⟨g.α,g.n,M'⟩ κ κ∧KO m0 ⟨g.α,g.n,M'⟩ κ∧∀ q,Far g q→M'[q]?=g.M[q]?:=by
 unfold dH at h
 have hxl:=cq hx
 split at h
 ·rename_i cs ho
  split at h
  ·rename_i hc
   obtain rfl:=zq1 h
   obtain ⟨q',o',e1,e2,e3⟩:=hh.row r _ ho rfl
   obtain rfl:=hr q' e1
   cases e3 with
   | row hcs =>
    rename_i as'
    have hl:=cq hcs
    obtain ⟨p1,p2,p3,p4,_,p5⟩:=xi hh hk ho rfl hr (o1:=.row (cs.take i++xs++cs.drop (i+xs.length))) (o1':=.row (as'.take i++as++as'.drop (i+as.length))) (fun g' hu=>by
     rw [hxl]
     have h1:=cX hu (Own.no _ _ no) _ _ hcs
     exact .row (cg (cg (fL h1 i) (cX hu (Own.no _ _ no) _ _ hx)) (fM h1 _)))
    refine ⟨_,?_,p1,p2,p3,p4,p5⟩
    simp only [dH,e2]
    rw [if_pos ⟨by rw [hl];exact hc.1,by rw [hxl];exact hc.2.1,cY hx hc.2.2⟩]
  ·simp at h
 ·rename_i cs lo ho
  split at h
  ·rename_i hc
   obtain rfl:=zq1 h
   obtain ⟨q',o',e1,e2,e3⟩:=hh.row r _ ho rfl
   obtain rfl:=hr q' e1
   cases e3 with
   | grow lo hcs =>
    rename_i as'
    have hl:=cq hcs
    obtain ⟨p1,p2,p3,p4,_,p5⟩:=xi hh hk ho rfl hr (o1:=.grow (cs.take i++xs++cs.drop (i+xs.length)) cs.length) (o1':=.grow (as'.take i++as++as'.drop (i+as.length)) as'.length) (fun g' hu=>by
     rw [hxl,hl]
     have h1:=cX hu (Own.no _ _ no) _ _ hcs
     exact .grow _ (cg (cg (fL h1 i) (cX hu (Own.no _ _ no) _ _ hx)) (fM h1 _)))
    refine ⟨_,?_,p1,p2,p3,p4,p5⟩
    simp only [dH,e2]
    rw [if_pos ⟨by rw [hl];exact hc.1,by rw [hxl];exact hc.2.1,cY hx hc.2.2⟩]
  ·simp at h
 ·simp at h
end
end Go.A.V
