/- THE VALUE MACHINE: stores, appends, calls. -/
import Derived.Test.YtnmobjhmohcjfaaGreatV4
set_option linter.unusedSimpArgs false
set_option linter.unusedVariables false
set_option linter.unnecessarySimpa false
namespace Go.A.V
open Go Go.A
theorem mI (k:Nat):∀ (n:Nat) (cs:List AV),(fK k n cs).length=n
 | 0,_=>rfl
 | n+1,cs=>by simp [fK,mI k n]
theorem kC (k:Nat):∀ (n:Nat) (cs:List AV),cs.length=n * k→(fK k n cs).flatten=cs
 | 0,cs,h=>by
  have:cs=[]:=List.eq_nil_of_length_eq_zero (by simpa using h)
  subst this;rfl
 | n+1,cs,h=>by
  rw [Nat.add_mul,Nat.one_mul] at h
  simp only [fK,List.flatten_cons,kC k n (cs.drop k) (by simp;omega),List.take_append_drop]
theorem mJ (k:Nat):∀ (n:Nat) (cs:List AV),cs.length=n * k→cs.all be=true→∀ c∈fK k n cs,c.length=k∧c.all be=true
 | 0,_,_,_=>by simp [fK]
 | n+1,cs,h,ho=>by
  rw [Nat.add_mul,Nat.one_mul] at h
  intro c hc
  simp only [fK,List.mem_cons] at hc
  rcases hc with rfl | hc
  ·refine ⟨by simp;omega,List.all_eq_true.2 fun x hx=>List.all_eq_true.1 ho x (List.mem_of_mem_take hx)⟩
  ·exact mJ k n (cs.drop k) (by simp;omega) (List.all_eq_true.2 fun x hx=>List.all_eq_true.1 ho x (List.mem_of_mem_drop hx)) c hc
def U6 (W:FuncId→Bool) (D:aL) (f:FuncId) (args:List AV) (H:ae) (v:AV) (H':ae):Prop:=
 ∀ g as,HR g H→RVs g no args as→∃ a g' κ',D f as g.M=some (a,g'.M)∧v.free=true∧HR g' H'∧RV g' κ' v a ∧
  (∀ c r,κ' c=some r→c=0∧g.M.length≤r∧r<g'.M.length∧Far g' r)∧Up g g'∧(∀ r,r<g.M.length→Far g r→g'.M[r]?=g.M[r]?)∧(W f=false→∀ r r',g.α r=some r'→g'.M[r']?=g.M[r']?)
def sD (W:FuncId→Bool) (C D:aL):Prop:=∀ f args H v H',C f args H=some (v,H')→U6 W D f args H v H'
section
variable {m0:Nat} {wr:Bool} {g:Gh} {κ:Nat→Option Nat} {σ σA:List AV} {H:ae}
theorem iU (cs:List Nat) (l:List AV):l.map (bV cs)=fJ cs l:=(ve cs l).symm
theorem Ba (hs:RVs g κ σ σA) (hh:HR g H) (hk:KO m0 g κ) {k:Option Nat} {r i n:Nat} {x a v:AV} {σ':List AV} {H':ae} (hw:wr=true) (ha:RV g κ (.ptr r i n) a) (hx:RV g κ x v)
  (h:bz σ H k (.ptr r i n) (pln x)=some (σ',H')):jT m0 wr g ((bz σA g.M k a v).map fun p=>(.tup [],p.1,p.2)) (.tup []) σ' H':=by
 simp only [RV] at ha
 obtain ⟨_,r',rfl,hr⟩:=ha
 have hp:RV g no (pln x) v:=kz x v hx
 generalize pln x=y at h hp
 have fin:∀ (xs as:List AV) (H2:ae),RVs g no xs as→dH H r i n xs=some H2→σ'=σ→H'=H2→∀ z,(z=(dH g.M r' i n as).map fun H'=>(σA,H'))→jT m0 wr g (z.map fun p=>(.tup [],p.1,p.2)) (.tup []) σ' H':=by
  rintro xs as H2 h1 h2 rfl rfl z rfl
  obtain ⟨M',q1,q2,q3,q4,q5,q6⟩:=wrRow_rel hh hk hr h1 h2
  refine ⟨.tup [],σA,⟨g.α,g.n,M'⟩,κ,by rw [q1];rfl,by simp only [RV];exact ⟨[],rfl,by simp only [RVs]⟩,cX q3 q4 _ _ hs,q2,⟨q5,q3,fun q _ hf=>q6 q hf,fun e=>by rw [hw] at e;simp at e⟩⟩
 cases k with
 | none =>
  simp only [bz] at h
  obtain ⟨H2,e1,e2⟩:=zq2 h
  simp only [zqp] at e2
  exact fin [y] [v] H2 (by simp only [RVs];exact ⟨v,[],rfl,hp,rfl⟩) e1 e2.1.symm e2.2.symm _ rfl
 | some m =>
  simp only [bz] at h
  split at h
  ·rename_i e;simp at e
  ·rename_i n' vs e
   simp only [zqs] at e
   subst e
   simp only [RV] at hp
   obtain ⟨as,rfl,hp⟩:=hp
   split at h
   ·rename_i hl
    obtain ⟨H2,e1,e2⟩:=zq2 h
    simp only [zqp] at e2
    refine fin vs as H2 hp e1 e2.1.symm e2.2.symm _ ?_
    simp only [bz]
    rw [if_pos (by rw [cq hp];exact hl)]
   ·simp at h
  ·simp at h
theorem HT {v a:AV} {vs:List AV} (h:RV g κ v a) (e:v=.agg vs):∃ as,a=.agg as∧RVs g κ vs as:=by subst e;simpa only [RV] using h
theorem oE {k:Option Nat} {xs ys zs:List AV} {i:Nat} {x v:AV} (hs:RVs g κ xs ys) (hx:RV g κ x v) (h:fe k xs i x=some zs):∃ ws,fe k ys i v=some ws∧RVs g κ zs ws:=by
 have hl:=cq hs
 unfold fe at h
 split at h
 ·simp at h
 ·rename_i hna
  split at h
  ·rename_i hi
   obtain rfl:=zq1 h
   have hva:∀ as,v≠.agg as:=fun as e=>by
    subst e
    cases x<;>simp only [RV] at hx
    case undef=>simp at hx
    case c=>simp at hx
    case ptr=>obtain ⟨_,_,e,_⟩:=hx;simp at e
    case sl=>obtain ⟨_,_,e,_⟩:=hx;simp at e
    case vs=>obtain ⟨_,_,_,_,_,_,e,_⟩:=hx;simp at e
    case vp=>obtain ⟨_,_,_,_,e,_⟩:=hx;simp at e
    case lbox=>obtain ⟨_,e,_⟩:=hx;simp at e
    case lptr=>simp at hx
    case agg l=>exact hna l rfl
    case tup=>obtain ⟨_,e,_⟩:=hx;simp at e
    case fn=>obtain ⟨_,e,_⟩:=hx;simp at e
    case iface=>obtain ⟨_,e,_⟩:=hx;simp at e
   have hv:fe none ys i v=if i<ys.length then some (ys.set i v) else none:=by
    cases v<;>first | rfl | exact absurd rfl (hva _)
   rw [hv,if_pos (by rw [hl];exact hi)]
   exact ⟨_,rfl,oD hs i hx⟩
  ·simp at h
 ·rename_i n vs
  split at h
  ·rename_i hc
   obtain rfl:=zq1 h
   obtain ⟨as,rfl,ha⟩:=HT hx rfl
   have hal:=cq ha
   refine ⟨ys.take i++as++ys.drop (i+n),?_,cg (cg (fL hs i) ha) (fM hs _)⟩
   simp only [fe]
   rw [if_pos ⟨by rw [hal];exact hc.1,by rw [hl];exact hc.2⟩]
  ·simp at h
 ·simp at h
theorem Bb (hs:RVs g κ σ σA) (hh:HR g H) (hk:KO m0 g κ) {k:Option Nat} {d i:Nat} {x v:AV} {σ':List AV} {H':ae} (hx:RV g κ x v)
  (h:bz σ H k (.lptr d i) x=some (σ',H')):jT m0 wr g ((bz σA g.M k (.lptr d i) v).map fun p=>(.tup [],p.1,p.2)) (.tup []) σ' H':=by
 have hr:=jU hs d
 have hf:=mG x v hx
 have ho:=HM hx
 unfold bz at h
 simp only at h
 split at h
 ·rename_i xs hd
  rw [hd] at hr
  simp only [RV] at hr
  obtain ⟨ys,e,hys⟩:=hr
  split at h
  ·rename_i hfx
   split at h
   ·rename_i hone
    split at h
    ·rename_i h1
     obtain ⟨zs,q1,q2⟩:=zq2 h
     simp only [zqp] at q2
     obtain ⟨rfl,rfl⟩:=q2
     obtain ⟨ws,p1,p2⟩:=oE hys hx q1
     refine ⟨.tup [],σA.set d (.lbox ws),g,κ,?_,by simp only [RV];exact ⟨[],rfl,by simp only [RVs]⟩,oD hs d (by simp only [RV];exact ⟨ws,rfl,p2⟩),hh,Step.refl hk⟩
     simp only [bz,e]
     rw [if_pos (by rw [hf];exact hfx),if_pos (by rw [ho];exact h1),p1]
     rfl
    ·simp at h
   ·rename_i n vs
    split at h
    ·rename_i hok
     obtain ⟨zs,q1,q2⟩:=zq2 h
     simp only [zqp] at q2
     obtain ⟨rfl,rfl⟩:=q2
     obtain ⟨ws,p1,p2⟩:=oE hys hx q1
     obtain ⟨as,rfl,ha⟩:=HT hx rfl
     refine ⟨.tup [],σA.set d (.lbox ws),g,κ,?_,by simp only [RV];exact ⟨[],rfl,by simp only [RVs]⟩,oD hs d (by simp only [RV];exact ⟨ws,rfl,p2⟩),hh,Step.refl hk⟩
     simp only [bz,e]
     rw [if_pos (by rw [hf];exact hfx),if_pos (cY ha hok),p1]
     rfl
    ·simp at h
   ·simp at h
  ·simp at h
 ·simp at h
theorem sE {k:Nat}:∀ {l:List (List AV)},(∀ cs∈l,cs.length=k∧cs.all be=true)→l.flatten.length=l.length * k
 | [],_=>by simp
 | c :: r,h=>by
  have h1:=(h c (by simp)).1
  have h2:=sE (l:=r) fun cs hc=>h cs (by simp [hc])
  simp only [List.flatten_cons,List.length_append,h1,h2,List.length_cons,Nat.add_mul]
  omega
theorem oF {k:Nat}:∀ {l:List (List AV)},(∀ cs∈l,cs.length=k∧cs.all be=true)→l.flatten.all be=true
 | [],_=>rfl
 | c :: r,h=>by
  simp only [List.flatten_cons,List.all_append,Bool.and_eq_true]
  exact ⟨(h c (by simp)).2,oF fun cs hc=>h cs (by simp [hc])⟩
theorem mK (hh:HR g H) {sz:Nat} {x a:AV} {l':List (List AV)} (hx:RV g κ x a) (h:dY H sz x=some l') :
  nH a=some l'.length∧(∀ cs∈l',cs.length=sz∧cs.all be=true)∧(l'≠[]→∃ as,jH g.M sz l'.length a=some as∧RVs g no l'.flatten as):=by
 unfold dY at h
 split at h
 ·rename_i r off len cap sz' gg ex
  split at h
  ·simp at h
  ·rename_i hsz
   obtain ⟨cs,e1,e2⟩:=zq3 h
   split at e2
   ·rename_i hok
    obtain rfl:=zq1 e2
    simp only [RV] at hx
    obtain ⟨_,r',rfl,hr⟩:=hx
    have hlen:cs.length=len * sz:=by
     unfold bT at e1
     split at e1
     ·rename_i e0;obtain rfl:=zq1 e1;rw [e0];rfl
     ·exact pZ e1
    rw [mI]
    refine ⟨rfl,mJ sz len cs hlen hok,fun hne=>?_⟩
    have hl0:len * sz≠0:=fun e0=>by
     have:len=0:=by
      rcases Nat.mul_eq_zero.1 e0 with h | h
      ·exact h
      ·omega
     subst this
     exact hne rfl
    unfold bT at e1
    rw [if_neg hl0] at e1
    obtain ⟨as,q1,q2⟩:=rdRow_rel hh e1 hr
    refine ⟨as,?_,?_⟩
    ·simp only [jH,Nat.le_refl,if_true]
     exact q1
    ·rw [kC sz len cs hlen];exact q2
   ·simp at e2
 ·obtain rfl:=zq1 h
  rw [cK hx]
  exact ⟨rfl,by simp,fun e=>(e rfl).elim⟩
 ·rename_i k f l
  split at h
  ·rename_i hkk
   obtain rfl:=zq1 h
   subst hkk
   simp only [RV] at hx
   obtain ⟨r,off,cap,sz',gg,ex,rfl,h1,h2,h3,h4,h5⟩:=hx
   refine ⟨rfl,h3,fun hl=>?_⟩
   obtain ⟨_,as,q1,q2⟩:=h4 hl
   refine ⟨as,?_,rvss_rvs.1 q2⟩
   simp only [jH,Nat.le_refl,if_true]
   exact q1
  ·simp at h
 ·rename_i s
  split at h
  ·rename_i hsz
   obtain rfl:=zq1 h
   subst hsz
   rw [cK hx]
   have hlen:(s.data.toList.map fun b=>[AV.c (.int .u8 b.toNat)]).length=s.size:=by simp
   refine ⟨by rw [hlen];rfl,?_,fun _=>?_⟩
   ·intro cs hcs
    obtain ⟨b,_,rfl⟩:=List.mem_map.1 hcs
    exact ⟨rfl,rfl⟩
   ·have hflat:∀ l:List UInt8,(l.map fun b=>[AV.c (.int .u8 b.toNat)]).flatten=l.map fun b=>AV.c (.int .u8 b.toNat):=fun l=>by
     induction l with
     | nil=>rfl
     | cons b r ih=>simp only [List.map_cons,List.flatten_cons,ih];rfl
    refine ⟨s.data.toList.map fun b=>.c (.int .u8 b.toNat),?_,?_⟩
    ·simp only [jH]
     rw [if_pos ⟨trivial,by rw [hlen];exact Nat.le_refl _⟩,List.take_of_length_le (by rw [hlen];simp)]
    ·rw [hflat]
     refine fu _ _ _ (List.all_eq_true.2 fun x hx=>?_)
     obtain ⟨b,_,rfl⟩:=List.mem_map.1 hx
     rfl
  ·simp at h
 ·simp at h
def col (κ:Nat→Option Nat) (cs:List Nat) (d:Nat) (o:Option Nat):Nat→Option Nat:=fun x=>if x=d then o else if cs.contains x then none else κ x
theorem jq {cs:List Nat} {d:Nat} {o:Option Nat} (hd:cs.contains d=true):∀ c r,cs.contains c=false→κ c=some r→col κ cs d o c=some r:=fun c r h1 h2=>by
 simp only [col]
 rw [if_neg (fun e=>by rw [e,hd] at h1;simp at h1),h1]
 exact h2
theorem DC {cs:List Nat} {d:Nat} (hk:KO m0 g κ):KO m0 g (col κ cs d none) where
 inj:=fun c c' r h h'=>by
  simp only [col] at h h'
  split at h
  ·simp at h
  ·split at h'
   ·simp at h'
   ·split at h
    ·simp at h
    ·split at h'
     ·simp at h'
     ·exact hk.inj c c' r h h'
 far:=fun c r h=>by
  simp only [col] at h
  split at h
  ·simp at h
  ·split at h
   ·simp at h
   ·exact hk.far c r h
theorem DD (hs:RVs g κ σ σA) (hh:HR g H) (hk:KO m0 g κ) (hm:m0≤g.M.length) (o:AObj) (cs:List Nat) (d:Nat) (hd:cs.contains d=true) {res:Option (AV × List AV × ae)} {v a:AV}
  (hr:res=some (a,σA,g.M++[o])) (hv:RV (ey g o) (col κ cs d (some g.M.length)) v a):jT m0 wr g res v (σ.map (bV cs)) H:=by
 have hu:=fY (g:=g) o
 have hs1:=cX hu (xg hk [o] (g':=ey g o) rfl) _ _ hs
 rw [iU]
 refine ⟨a,σA,ey g o,_,hr,hv,eI cs (jq hd) _ _ hs1,vd hh o,?_⟩
 have st:=sw (wr:=wr) hh hk hm hu [o] (g':=ey g o) rfl
 refine ⟨⟨fun c c' r h h'=>?_,fun c r h=>?_⟩,st.up,st.far,st.nw⟩
 ·simp only [col] at h h'
  split at h<;>split at h'
  ·omega
  ·obtain rfl:=zq1 h
   split at h'
   ·simp at h'
   ·have:=(hk.far c' _ h').2.2;omega
  ·obtain rfl:=zq1 h'
   split at h
   ·simp at h
   ·have:=(hk.far c _ h).2.2;omega
  ·split at h
   ·simp at h
   ·split at h'
    ·simp at h'
    ·exact hk.inj c c' r h h'
 ·simp only [col] at h
  split at h
  ·obtain rfl:=zq1 h
   exact ⟨fun q hq=>by have:=(hh.dom q _ hq).2;omega,hm,by simp [ey]⟩
  ·split at h
   ·simp at h
   ·exact st.ko.far c r h
theorem p9 {M:ae} {r i n k:Nat} {as:List AV} (h:n≠0→ba M r i n k=some as) (h0:n=0→as=[]):bT M r i n k=some as:=by
 unfold bT
 split
 ·rename_i e;rw [h0 e]
 ·rename_i e;exact h e
theorem yQ (hs:RVs g κ σ σA) (hh:HR g H) (hk:KO m0 g κ) (hm:m0≤g.M.length) {d sz bytes:Nat} {s x a b v:AV} {σ':List AV} {H':ae} (ha:RV g κ s a) (hb:RV g κ x b)
  (h:oB d sz bytes s x σ H=some (v,σ',H')):jT m0 wr g ((d7 g.M sz bytes a b).map fun p=>(p.1,σA,p.2)) v σ' H':=by
 unfold oB at h
 obtain ⟨l',he,h⟩:=zq3 h
 obtain ⟨e1,e2,e3⟩:=mK hh hb he
 have hnew:l'≠[]→∃ as,jH g.M sz l'.length b=some as∧RVs g no l'.flatten as∧as.all be=true∧as.length=l'.length * sz:=fun hl=>by
  obtain ⟨as,q1,q2⟩:=e3 hl
  exact ⟨as,q1,q2,cY q2 (oF e2),by rw [cq q2,sE e2]⟩
 split at h
 ·rw [cK ha]
  split at h
  ·rename_i hl
   simp only [zqs,zqp] at h
   obtain ⟨rfl,rfl,rfl⟩:=h
   have hl':l'=[]:=by simpa using hl
   subst hl'
   rw [iU]
   exact ⟨.c (.slice none 0 0),σA,g,col κ [d] d none,by simp [d7,e1],cG _ _ _,eI _ (jq (by simp)) _ _ hs,hh,DC hk,Up.refl g,fun _ _ _=>rfl,fun _ _ _ _=>rfl⟩
  ·rename_i hl
   have hl':l'≠[]:=fun e=>hl (by rw [e];rfl)
   have hpos:l'.length≠0:=fun e=>hl' (zq8 e)
   split at h
   ·rename_i hc
    simp only [zqs,zqp] at h
    obtain ⟨rfl,rfl,rfl⟩:=h
    obtain ⟨as,q1,q2,q3,q4⟩:=hnew hl'
    refine DD hs hh hk hm (.grow as 0) [d] d (by simp) (a:=.sl g.M.length 0 l'.length l'.length sz (l'.length * sz) false) ?_ ?_
    ·simp only [d7,e1,Option.bind_some,hpos,if_false,q1]
     rw [if_pos ⟨hc.1,hc.2,q3⟩]
     rfl
    ·simp only [RV]
     refine ⟨_,_,_,_,_,_,rfl,Nat.le_refl _,by simp,e2,fun _=>⟨fun q hq=>by have:=(hh.dom q _ hq).2;omega,as,?_,rvss_rvs.2 (cX (fY _) (Own.no _ _ _) _ _ q2)⟩,fun c hc=>?_⟩
     ·simp only [ey,ba,List.getElem?_append_right (Nat.le_refl _),Nat.sub_self,List.getElem?_cons_zero,AObj.isRow,AObj.lo,AObj.cells]
      rw [if_pos ⟨trivial,Nat.zero_le _,by omega,by omega⟩,List.drop_zero,List.take_of_length_le (by omega)]
     ·obtain rfl:=zq1 hc
      exact ⟨rfl,.inr ⟨by simp [col],rfl,hpos,rfl,rfl,.grow as 0,by simp [ey],rfl,q4⟩⟩
   ·simp at h
 ·rename_i k c l _
  split at h
  ·rename_i hc
   obtain ⟨rfl,hc1,hc2⟩:=hc
   simp only [zqs,zqp] at h
   obtain ⟨rfl,rfl,rfl⟩:=h
   simp only [RV] at ha
   obtain ⟨r,off,cap,sz',gg,ex,rfl,h1,h2,h3,h4,h5⟩:=ha
   obtain ⟨rfl,h6⟩:=h5 c rfl
   have hall:∀ cs∈l++l',cs.length=k∧cs.all be=true:=fun cs hcs=>by
    rcases List.mem_append.1 hcs with q | q
    ·exact h3 cs q
    ·exact e2 cs q
   have hsC:[c,d].contains d=true:=by simp
   by_cases hl':l'=[]
   ·subst hl'
    simp only [List.append_nil]
    rw [iU]
    have hres:(d7 g.M k bytes (.sl r off l.length l.length sz' gg ex) b).map (fun p=>(p.1,σA,p.2))=some (.sl r off l.length l.length sz' gg ex,σA,g.M):=by
     simp [d7,e1]
    rcases h6 with h6 | ⟨p1,p2⟩
    ·refine ⟨_,σA,g,col κ [c,d] d none,hres,?_,eI _ (jq hsC) _ _ hs,hh,⟨⟨fun x y r h h'=>?_,fun x r h=>?_⟩,Up.refl g,fun _ _ _=>rfl,fun _ _ _ _=>rfl⟩⟩
     ·simp only [RV]
      exact ⟨r,off,l.length,sz',gg,ex,rfl,Nat.le_refl _,h2,h3,h4,fun c' _=>⟨rfl,.inl h6⟩⟩
     ·simp only [col] at h h'
      split at h
      ·simp at h
      ·split at h'
       ·simp at h'
       ·split at h
        ·simp at h
        ·split at h'
         ·simp at h'
         ·exact hk.inj x y r h h'
     ·simp only [col] at h
      split at h
      ·simp at h
      ·split at h
       ·simp at h
       ·exact hk.far x r h
    ·refine ⟨_,σA,g,col κ [c,d] d (some r),hres,?_,eI _ (jq hsC) _ _ hs,hh,⟨⟨fun x y r' h h'=>?_,fun x r' h=>?_⟩,Up.refl g,fun _ _ _=>rfl,fun _ _ _ _=>rfl⟩⟩
     ·simp only [RV]
      exact ⟨r,off,l.length,sz',gg,ex,rfl,Nat.le_refl _,h2,h3,h4,fun c' hc'=>⟨rfl,.inr ⟨by obtain rfl:=zq1 hc';simp [col],p2⟩⟩⟩
     ·have key:∀ z,(if z=d then some r else if [c,d].contains z then none else κ z)=some r→z=d:=fun z hz=>by
       split at hz
       ·assumption
       ·split at hz
        ·simp at hz
        ·rename_i hz2
         have:=hk.inj z c r hz p1
         subst this
         simp at hz2
      simp only [col] at h h'
      by_cases er:r'=r
      ·subst er
       rw [key x h,key y h']
      ·split at h
       ·exact (er (zq1 h).symm).elim
       ·split at h'
        ·exact (er (zq1 h').symm).elim
        ·split at h
         ·simp at h
         ·split at h'
          ·simp at h'
          ·exact hk.inj x y r' h h'
     ·simp only [col] at h
      split at h
      ·obtain rfl:=zq1 h;exact hk.far c r p1
      ·split at h
       ·simp at h
       ·exact hk.far x r' h
   ·have hpos:l'.length≠0:=fun e=>hl' (zq8 e)
    obtain ⟨as,q1,q2,q3,q4⟩:=hnew hl'
    by_cases h7:ex=true
    ·
     subst h7
     have hold:∃ old,bT g.M r off (l.length * k) gg=some old∧RVs g no l.flatten old:=by
      by_cases hl:l=[]
      ·subst hl
       exact ⟨[],by simp [bT],by simp only [List.flatten_nil,RVs]⟩
      ·obtain ⟨_,old,w1,w2⟩:=h4 hl
       have w3:=rvss_rvs.1 w2
       refine ⟨old,p9 (fun _=>w1) (fun e=>?_),w3⟩
       have:=pZ w1
       rw [e] at this
       exact zq8 this
     obtain ⟨old,w1,w2⟩:=hold
     have w3:old.length=l.length * k:=by rw [cq w2,sE h3]
     have w4:=cY w2 (oF h3)
     refine DD hs hh hk hm (.grow (old++as) 0) [c,d] d hsC (a:=.sl g.M.length 0 (l.length+l'.length) (l.length+l'.length) k ((l.length+l'.length) * k) false) ?_ ?_
     ·simp only [d7,e1,Option.bind_some,hpos,if_false,q1]
      rw [if_neg (by omega),if_pos ⟨hc1,hc2,q3⟩,if_neg (by simp),if_pos trivial,w1]
      simp only [Option.bind_some]
      rw [if_pos w4]
      rfl
     ·simp only [RV,List.length_append]
      have hlen:(old++as).length=(l.length+l'.length) * k:=by simp [w3,q4,Nat.add_mul]
      refine ⟨g.M.length,0,l.length+l'.length,k,(l.length+l'.length) * k,false,rfl,Nat.le_refl _,by simp,hall,fun _=>⟨fun q hq=>by have:=(hh.dom q _ hq).2;omega,old++as,?_,rvss_rvs.2 ?_⟩,fun c' hc'=>?_⟩
      ·simp only [ey,ba,List.getElem?_append_right (Nat.le_refl _),Nat.sub_self,List.getElem?_cons_zero,AObj.isRow,AObj.lo,AObj.cells]
       rw [if_pos ⟨trivial,Nat.zero_le _,by omega,by omega⟩,List.drop_zero,List.take_of_length_le (by omega)]
      ·rw [List.flatten_append]
       exact cg (cX (fY _) (Own.no _ _ _) _ _ w2) (cX (fY _) (Own.no _ _ _) _ _ q2)
      ·obtain rfl:=zq1 hc'
       exact ⟨rfl,.inr ⟨by simp [col],rfl,by omega,rfl,rfl,.grow (old++as) 0,by simp [ey],rfl,hlen⟩⟩
    ·
     obtain ⟨p1,rfl,p3,rfl,rfl,o,p6,p7,p8⟩:=h6.resolve_left h7
     have hex:ex=false:=by simpa using h7
     subst hex
     obtain ⟨f1,f2,f3⟩:=hk.far c r p1
     have hln:l≠[]:=fun e=>p3 (by rw [e];rfl)
     obtain ⟨_,old,w1,w2⟩:=h4 hln
     have w3:=rvss_rvs.1 w2
     have hcells:old=o.cells:=by
      unfold ba at w1
      rw [p6] at w1
      simp only at w1
      split at w1
      ·obtain rfl:=zq1 w1
       rw [List.drop_zero,List.take_of_length_le (by omega)]
      ·simp at w1
     subst hcells
     have hlo:o.lo≤l.length * sz':=by
      unfold ba at w1
      rw [p6] at w1
      simp only at w1
      split at w1
      ·rename_i hcc;exact hcc.2.1
      ·simp at w1
     have hres:(d7 g.M sz' bytes (.sl r 0 l.length l.length sz' (l.length * sz') false) b)=some (.sl r 0 (l.length+l'.length) (l.length+l'.length) sz' (l.length * sz'+l'.length * sz') false,g.M.set r (.grow (o.cells++as) o.lo)):=by
      simp only [d7,e1,Option.bind_some,hpos,if_false,q1]
      rw [if_neg (by omega),if_pos ⟨hc1,hc2,q3⟩,if_pos ⟨trivial,trivial,⟨p3,trivial⟩,trivial,trivial,by rw [p6];simp [p7,p8]⟩,p6]
     ·let g':Gh:=⟨g.α,g.n,g.M.set r (.grow (o.cells++as) o.lo)⟩
      have hget:g'.M[r]?=some (.grow (o.cells++as) o.lo):=by show (g.M.set r _)[r]?=_;simp [f3]
      have hne:∀ q,q≠r→g'.M[q]?=g.M[q]?:=fun q hq=>List.getElem?_set_ne (fun e=>hq e.symm)
      have hu:Up g g':=⟨Nat.le_refl _,fun _ _ h=>h,fun _ _ h=>h,fun _ _ h=>.inl h,by show _≤(g.M.set r _).length;simp,fun q hq i n k2 as2 h=>by
       by_cases e:q=r
       ·subst e
        unfold ba at h ⊢
        rw [p6] at h
        rw [hget]
        simp only at h ⊢
        split at h
        ·rename_i hcc
         obtain rfl:=zq1 h
         rw [if_pos ⟨rfl,hcc.2.1,hcc.2.2.1,by show k2≤(o.cells++as).length;rw [List.length_append];have:=hcc.2.2.2;omega⟩]
         congr 1
         show ((o.cells++as).drop i).take n=_
         have:=hcc.2.2
         rw [List.drop_append_of_le_length (by omega),List.take_append_of_le_length (by simp;omega)]
        ·simp at h
       ·unfold ba at h ⊢
        rw [hne q e];exact h⟩
      have hown:Own g g' (col κ [c,d] d none) (col κ [c,d] d (some r)):=fun x r' h=>by
       simp only [col] at h ⊢
       split at h
       ·simp at h
       ·rename_i hxd
        split at h
        ·simp at h
        ·rename_i hx2
         rw [if_neg hxd,if_neg hx2]
         refine ⟨h,hne r' fun e=>?_⟩
         subst e
         have:=hk.inj x c r' h p1
         subst this
         simp at hx2
      have hs1:=eI [c,d] (κ':=col κ [c,d] d none) (jq hsC) _ _ hs
      refine ⟨_,σA,g',col κ [c,d] d (some r),by rw [hres];rfl,?_,by rw [iU];exact cX hu hown _ _ hs1,⟨hh.n,fun a b h=>by have:=hh.dom a b h;exact ⟨this.1,by show b<(g.M.set r _).length;simpa using this.2⟩,hh.inj,fun a ob h1 h2=>pY hu hh (fun a b h=>hne b fun e=>f1 a (e ▸ h)) h1 h2⟩,⟨⟨fun x y r' h h'=>?_,fun x r' h=>?_⟩,hu,fun q hq _=>hne q (by omega),fun _ a b h=>hne b fun e=>f1 a (e ▸ h)⟩⟩
      ·simp only [RV,List.length_append]
       have hlen:(o.cells++as).length=(l.length+l'.length) * sz':=by simp [p8,q4,Nat.add_mul]
       have hmul:(l.length+l'.length) * sz'=l.length * sz'+l'.length * sz':=Nat.add_mul _ _ _
       refine ⟨r,0,l.length+l'.length,sz',l.length * sz'+l'.length * sz',false,rfl,Nat.le_refl _,by simp,hall,fun _=>⟨f1,o.cells++as,?_,rvss_rvs.2 ?_⟩,fun c' hc'=>?_⟩
       ·unfold ba
        rw [hget]
        simp only []
        rw [if_pos ⟨rfl,by show o.lo≤_;omega,by omega,by show _≤(o.cells++as).length;omega⟩]
        show some (((o.cells++as).drop 0).take _)=_
        rw [List.drop_zero,List.take_of_length_le (by omega)]
       ·rw [List.flatten_append]
        exact cg (cX hu (Own.no _ _ _) _ _ w3) (cX hu (Own.no _ _ _) _ _ q2)
       ·obtain rfl:=zq1 hc'
        exact ⟨rfl,.inr ⟨by simp [col],rfl,by omega,rfl,hmul.symm,_,hget,rfl,by show (o.cells++as).length=_;omega⟩⟩
      ·have key:∀ z,(if z=d then some r else if [c,d].contains z then none else κ z)=some r→z=d:=fun z hz=>by
        split at hz
        ·assumption
        ·split at hz
         ·simp at hz
         ·rename_i hz2
          have:=hk.inj z c r hz p1
          subst this
          simp at hz2
       simp only [col] at h h'
       by_cases er:r'=r
       ·subst er
        rw [key x h,key y h']
       ·split at h
        ·exact (er (zq1 h).symm).elim
        ·split at h'
         ·exact (er (zq1 h').symm).elim
         ·split at h
          ·simp at h
          ·split at h'
           ·simp at h'
           ·exact hk.inj x y r' h h'
      ·have hlen:g'.M.length=g.M.length:=by show (g.M.set r _).length=_;simp
       simp only [col] at h
       split at h
       ·obtain rfl:=zq1 h;exact ⟨f1,f2,by omega⟩
       ·split at h
        ·simp at h
        ·have:=hk.far x r' h;exact ⟨this.1,this.2.1,by omega⟩
  ·simp at h
 ·simp at h
end
end Go.A.V
