/- Equal statuses, equal packets that are not acknowledged. -/
import Derived.Test.YtnmobjhmohcjfaaGreatXF
import Derived.Test.YtnmobjhmohcjfaaGreatXD
import Derived.Test.YtnmobjhmohcjfaaGreatXB
import Derived.Test.YtnmobjhmohcjfaaGreatXA
import Derived.Test.YtnmobjhmohcjfaaGreatV14
import Derived.Test.YtnmobjhmohcjfaaGreatXL
import Derived.Test.YtnmobjhmohcjfaaGreatXC
set_option linter.unusedSimpArgs false
set_option linter.unusedVariables false
set_option linter.unnecessarySimpa false
namespace Go.A.V.S
open Go Go.A
def Um.eq (p q:Um):Bool:=decide (p.fi=q.fi) && decide (p.sn=q.sn) && decide (bb p.ff=bb q.ff)
def St.eq (s t:St):Bool:=decide (s.ack=t.ack) && decide (s.ms=t.ms)
theorem adc (m n:Ms):bU .neq (.agg [.i,.b,.i,.i]) (.agg m.v) (.agg n.v)=some (ab (decide (m≠n))):=by
 obtain ⟨a,b,c,d⟩:=m
 obtain ⟨a2,b2,c2,d2⟩:=n
 rw [lP,if_pos ⟨rfl,rfl⟩]
 simp only [Ms.v,fw]
 by_cases h1:a=a2
 ·subst h1
  by_cases h2:b=b2
  ·subst h2
   simp only [kZ,fw,fZ]
   by_cases h3:c=c2
   ·by_cases h4:d=d2
    ·simp [h3,h4]
    ·simp [h3,h4]
   ·simp [h3]
  ·have e:en [.b,.i,.i] [ab b,ai c,ai d] [ab b2,ai c2,ai d2]=some false:=by
    have h2':(b == b2)=false:=by simp [h2]
    simp only [en,eF,h2']
   rw [if_pos rfl,e]
   simp [h2]
 ·rw [if_neg h1];simp [h1]
theorem Uz (p q:Um) (hs:p.ff.length≤100000) (hs2:q.ff.length≤100000) (hba:dg p.ff) (hbb:dg q.ff) (H:ae) :
  callW P vD [.agg p.v,.agg q.v] H=some (ab (p.eq q),H):=by
 have hf:=fun H=>rn (za:=p.z) (zb:=q.z) hs hs2 hba hbb H
 obtain ⟨fi,sn,z0,ff⟩:=p
 obtain ⟨fi2,sn2,z02,ff2⟩:=q
 simp only at hf
 simp only [Um.eq]
 by_cases h2:fi=fi2
 ·by_cases h3:sn=sn2
  ·rw [nV rfl];simp -implicitDefEqProofs [-ac,-AV.one,-ad,zv,Um.v,Um.f,h2,h3,hf]
  ·rw [nV rfl];simp -implicitDefEqProofs [-ac,-AV.one,-ad,zv,Um.v,Um.f,h2,h3]
 ·rw [nV rfl];simp -implicitDefEqProofs [-ac,-AV.one,-ad,zv,Um.v,Um.f,h2]
section
variable {H:ae}
def Py (H:ae) (s t:St) (z:Nat) (σ:List AV) (G:ae):Prop:=
 ∃ i:Nat,i+z=s.ms.length∧s.ms.take i=t.ms.take i∧G=H∧σ=L 38 ((((Tr.full 6).put (ag 2) (.lbox [ai s.ack,lst s.z 4 none (mvs s.ms)])).put (ag 3) (.lbox [ai t.ack,lst t.z 4 none (mvs t.ms)])).put (ag 5) (ai i))
def Dc (H:ae) (s t:St) (e:AExit) (σ:List AV) (G:ae):Prop:=
 G=H∧((e=.exit 0∧s.ms=t.ms∧kill [2,3,5,20,21,22,23,24] σ=L 38 (Tr.full 6))∨(e=.ret∧s.ms≠t.ms∧aA F_q34.res σ=some (ab false)))
theorem OD {s t:St} (hl:s.ms.length=t.ms.length) (hs:s.ms.length≤100000) (z:Nat) (σ:List AV) (G:ae) (hI:Py H s t z (kill (bu kI) σ) G) :
  Ends (execW P qG (.loop kI) σ G) fun x=>Dc H s t x.e x.σ x.H:=by
 refine aX (fun z σ G=>Py H s t z σ G) (Dc H s t) ?_ z σ G hI
 clear hI z σ G
 rintro z σ G ⟨i,hz,heq,rfl,rfl⟩
 obtain ⟨sa,sz,sm⟩:=s
 obtain ⟨ta,tz,tm⟩:=t
 simp only at hl hs hz heq
 have hla:(mvs sm).length=sm.length:=dO sm
 by_cases hi:i<sm.length
 ·have hi':(i:Int)<sm.length:=by omega
  obtain ⟨x,hx⟩:∃ x,sm[i]?=some x:=⟨_,zq6 hi⟩
  obtain ⟨y,hy⟩:∃ y,tm[i]?=some y:=⟨_,zq6 (by omega)⟩
  have q1:=qu hx sz none .i64
  have q2:=qu hy tz none .i64
  have hne:=adc x y
  have hx4:x.v.length=4:=rfl
  have hy4:y.v.length=4:=rfl
  have hxt:x.v.take 4=x.v:=rfl
  have hyt:y.v.take 4=y.v:=rfl
  have w1:IntKind.i64.wrap ((i:Int)+1)=((i+1:Nat):Int):=by rw [aq (by omega) (by omega)];omega
  obtain ⟨i1,hi1⟩:=nm (i+1)
  rw [hi1] at w1
  have htk:x=y→sm.take i1=tm.take i1:=fun h=>by rw [← hi1,ej hx,ej hy,heq,h]
  by_cases hxy:x=y
  ·rw [decide_eq_false (not_not_intro hxy)] at hne
   replace htk:=htk hxy
   generalize y.v=yv at *
   generalize x.v=xv at *
   simp -implicitDefEqProofs [-ac,-AV.one,-ad,nC,kI,aK,-cw,aB,aP,aC,aM,SOpG.reads,SOp.slots,SX.slots,SOp.noL,bq,av,aJ,aE,eqV,hla,hi,hi',q1,q2,hx4,hy4,hxt,hyt,hne,w1]
   exact ⟨z - 1,by omega,i1,by simp only;omega,htk,rfl,by simp⟩
  ·rw [decide_eq_true hxy] at hne
   have hnn:sm≠tm:=by
    intro h
    rw [h,hy] at hx
    exact hxy (zq1 hx).symm
   generalize y.v=yv at *
   generalize x.v=xv at *
   simp -implicitDefEqProofs [-ac,-AV.one,-ad,nC,kI,aK,-cw,aB,aP,aC,aM,SOpG.reads,SOp.slots,SX.slots,SOp.noL,bq,av,aJ,aE,eqV,hla,hi,hi',q1,q2,hx4,hy4,hxt,hyt,hne,w1]
   exact ⟨rfl,.inr ⟨rfl,hnn,by simp [F_q34]⟩⟩
 ·have hi':¬ (i:Int)<sm.length:=by omega
  rw [List.take_of_length_le (by omega),List.take_of_length_le (by omega)] at heq
  simp -implicitDefEqProofs [-ac,-AV.one,-ad,nC,kI,hla,hi,hi']
  exact ⟨rfl,.inl ⟨rfl,heq,by simp⟩⟩
theorem UA (s t:St) (hs:s.ms.length≤100000) (hs2:t.ms.length≤100000) (H:ae) :
  callW P qG [.agg s.v,.agg t.v] H=some (ab (s.eq t),H):=by
 have hla:(mvs s.ms).length=s.ms.length:=dO _
 have hlb:(mvs t.ms).length=t.ms.length:=dO _
 by_cases ha:s.ack=t.ack
 ·by_cases hl:s.ms.length=t.ms.length
  ·have hl':(s.ms.length:Int)=t.ms.length:=by omega
   rw [cH,St.eq,decide_eq_true ha,Bool.true_and]
   refine call_post 6 38 rfl (rfl:P.T qG=some F_q34) rfl (aF rfl) (fun e σ G=>e=.ret∧G=H∧aA F_q34.res σ=some (ab (decide (s.ms=t.ms)))) ?_ ?_
   ·rintro e σ G ⟨rfl,rfl,h⟩
    exact ⟨rfl,_,h,rfl,by simp⟩
   rw [F_q34];simp -implicitDefEqProofs [-ac,-AV.one,-ad,nC,St.v,hla,hlb,ha,hl,hl']
   repeat rw [Option.bind_assoc]
   refine Ends.block (P:=Dc H s t) (OD hl hs s.ms.length _ _ ⟨0,by omega,by simp,rfl,by simp [kI,ha]⟩) ?_
   rintro e σ1 G1 ⟨rfl,⟨rfl,c1,c2⟩ | ⟨rfl,c1,c2⟩⟩
   ·simp -implicitDefEqProofs [-ac,-AV.one,-ad,nC,c2,c1]
   ·simp [F_q34] at c2
    simp -implicitDefEqProofs [-ac,-AV.one,-ad,nC,c2,c1]
  ·have hl':¬ (s.ms.length:Int)=t.ms.length:=by omega
   have hne:s.ms≠t.ms:=fun h=>hl (by rw [h])
   rw [St.eq,decide_eq_false hne,Bool.and_false]
   rw [tT rfl];simp -implicitDefEqProofs [-ac,-AV.one,-ad,nC,St.v,hla,hlb,ha,hl,hl']
 ·rw [St.eq,decide_eq_false ha,Bool.false_and]
  rw [tT rfl];simp -implicitDefEqProofs [-ac,-AV.one,-ad,nC,St.v,ha]
end
section
variable {H:ae}
def PA (H:ae) (s:St) (z:Nat) (σ:List AV) (G:ae):Prop:=
 ∃ i:Nat,i+z=s.ms.length∧G=H∧σ=L 36 (((((Tr.full 6).put (ag 1) (.lbox [ai s.ack,lst s.z 4 none (mvs s.ms)])).put (ag 2) (.lbox [ai 0,bc])).put (ag 3) (.lbox [ai s.ack,lst true 4 (some 33) (mvs (s.ms.take i))])).put (ag 4) (ai i))
def Df (H:ae) (s:St) (e:AExit) (σ:List AV) (G:ae):Prop:=
 G=H∧e=.exit 0∧kill [1,4,9,10,11,12,13] σ=L 36 (((Tr.full 6).put (ag 2) (.lbox [ai 0,bc])).put (ag 3) (.lbox [ai s.ack,lst true 4 (some 33) (mvs s.ms)]))
theorem OE {s:St} (hs:s.ms.length≤1000) (z:Nat) (σ:List AV) (G:ae) (hI:PA H s z (kill (bu mQ) σ) G) :
  Ends (execW P td (.loop mQ) σ G) fun x=>Df H s x.e x.σ x.H:=by
 refine aX (fun z σ G=>PA H s z σ G) (Df H s) ?_ z σ G hI
 clear hI z σ G
 rintro z σ G ⟨i,hz,rfl,rfl⟩
 obtain ⟨sa,sz,sm⟩:=s
 simp only at hs hz
 have hla:(mvs sm).length=sm.length:=dO sm
 by_cases hi:i<sm.length
 ·have hi':(i:Int)<sm.length:=by omega
  obtain ⟨x,hx⟩:∃ x,sm[i]?=some x:=⟨_,zq6 hi⟩
  have q1:=qu hx sz none .i64
  have w1:IntKind.i64.wrap ((i:Int)+1)=((i+1:Nat):Int):=by rw [aq (by omega) (by omega)];omega
  have hap:=fun σ H=>jV (m:=P.md td) (d:=33) (sz:=4) (bytes:=32) (l:=mvs (sm.take i)) (l':=[x.v]) (x:=.vs 4 (some 32) [x.v]) (Pa 33) (fun H=>cR H 4 (some 32) [x.v]) (by rw [dO,List.length_take];simp [aw];omega) (by rw [dO,List.length_take];simp [aw];omega) σ H
  rw [← uv,← ej hx] at hap
  obtain ⟨i1,hi1⟩:=nm (i+1)
  rw [hi1] at w1 hap
  obtain ⟨a,b,c,d⟩:=x
  simp only [Ms.v] at q1 hap
  generalize hl1:mvs (sm.take i1)=l1 at *
  generalize mvs (sm.take i)=l0 at *
  simp -implicitDefEqProofs [-ac,-AV.one,-ad,zu,mQ,hla,hi,hi',q1,w1,hap]
  exact ⟨z - 1,by omega,i1,by simp only;omega,rfl,by simp [hl1]⟩
 ·have hi':¬ (i:Int)<sm.length:=by omega
  rw [List.take_of_length_le (by simp only;omega)]
  simp -implicitDefEqProofs [-ac,-AV.one,-ad,zu,mQ,hla,hi,hi']
  exact ⟨rfl,rfl,by simp⟩
theorem aeq (s:St) (hs:s.ms.length≤1000) (H:ae):callW P td [.agg s.v] H=some (.agg [ai s.ack,lst true 4 none (mvs s.ms)],H):=by
 rw [cH]
 refine call_post 6 36 rfl (rfl:P.T td=some F_q31) rfl (aF rfl) (fun e σ G=>e=.ret∧G=H∧aA F_q31.res σ=some (.agg [ai s.ack,lst true 4 (some 33) (mvs s.ms)])) ?_ ?_
 ·rintro e σ G ⟨rfl,rfl,h⟩
  exact ⟨rfl,_,h,by simp,by simp⟩
 rw [F_q31];simp -implicitDefEqProofs [-ac,-AV.one,-ad,zu,St.v]
 repeat rw [Option.bind_assoc]
 refine Ends.block (P:=Df H s) (OE hs s.ms.length _ _ ⟨0,by omega,rfl,by simp [mQ,mvs]⟩) ?_
 rintro e σ1 G1 ⟨rfl,rfl,c2⟩
 simp -implicitDefEqProofs [-ac,-AV.one,-ad,zu,c2]
end
structure Un where
 kind:Int
 raw:Bs
 um:Um
 am:Pk
 st:St
def Un.v (u:Un):List AV:=[ai u.kind,bv u.raw,ai u.um.fi,ai u.um.sn,lst u.um.z 1 none (bvs u.um.ff),ab u.am.poll,ai u.am.fi,ai u.am.sn,ab u.am.part,ab u.am.last,ai u.am.off,lst u.am.z 1 none (bvs u.am.ff),ai u.st.ack,lst u.st.z 4 none (mvs u.st.ms)]
def Un.n (u:Un):Un:={ u with st:={ u.st with z:=true } }
def Un.great (u:Un):Bool:=decide (1100<u.raw.2.length) || jk u.um.ff || jk u.am.ff || decide (60<u.st.ms.length)
def Un.eq (u v:Un):Bool:=decide (u.kind=v.kind) && decide (u.raw.2=v.raw.2) && u.um.eq v.um && u.am.eq v.am && u.st.eq v.st
theorem ade (u:Un) (hs:u.st.ms.length≤1000) (H:ae):callW P BN [.agg u.v] H=some (.agg u.n.v,H):=by
 obtain ⟨k,r,um,am,st⟩:=u
 have h1:=fun H=>lAs am H
 have h2:=fun H=>aeq st hs H
 obtain ⟨ufi,usn,uz,uf⟩:=um
 obtain ⟨po,fi,sn,pa,la,off,z0,ff⟩:=am
 obtain ⟨sa,sz,sm⟩:=st
 simp only [Pk.v,Pk.f,aZ,St.v] at h1 h2
 simp only [Un.n,Un.v]
 have hsr:aJ (bv r)=true:=av _ _ _ _
 rw [JY rfl];simp -implicitDefEqProofs [-ac,-AV.one,-ad,SN,aK,-cw,aB,aP,aC,aM,SOpG.reads,SOp.slots,SX.slots,SOp.noL,bq,av,aJ,aE,eqV,hsr,h1,h2]
theorem OF (u:Un) (H:ae):callW P Ge [.agg u.v] H=some (ab u.great,H):=by
 obtain ⟨k,r,um,am,st⟩:=u
 obtain ⟨ufi,usn,uz,uf⟩:=um
 obtain ⟨po,fi,sn,pa,la,off,z0,ff⟩:=am
 obtain ⟨sa,sz,sm⟩:=st
 have g1:=fun H=>Ld (z0:=uz) (ff:=uf) H
 have g2:=fun H=>Ld (z0:=z0) (ff:=ff) H
 have hr:=cz r
 have hm:=dO sm
 have hlm:xq (lst sz 4 none (mvs sm))=some sm.length:=by simp [hm]
 simp only [Un.great,Un.v]
 by_cases c1:1100<r.2.length
 ·have c1':(1100:Int)<r.2.length:=by omega
  have c1'':(r.2.length:Int) > 1100:=by omega
  rw [decide_eq_true c1]
  rw [iu rfl];simp -implicitDefEqProofs [-ac,-AV.one,-ad,BO,hr,c1,c1',c1'']
 have c1':¬ (1100:Int)<r.2.length:=by omega
 have c1'':¬ (r.2.length:Int) > 1100:=by omega
 rw [decide_eq_false c1]
 cases d1:jk uf with
 | true =>
  rw [d1] at g1
  rw [iu rfl];simp -implicitDefEqProofs [-ac,-AV.one,-ad,BO,hr,c1,c1',c1'',g1]
 | false =>
  rw [d1] at g1
  cases d2:jk ff with
  | true =>
   rw [d2] at g2
   rw [iu rfl];simp -implicitDefEqProofs [-ac,-AV.one,-ad,BO,hr,c1,c1',c1'',g1,g2]
  | false =>
   rw [d2] at g2
   by_cases c2:60<sm.length
   ·have c2':(60:Int)<sm.length:=by omega
    have c2'':(sm.length:Int) > 60:=by omega
    rw [decide_eq_true c2]
    rw [iu rfl];simp -implicitDefEqProofs [-ac,-AV.one,-ad,BO,hr,c1,c1',c1'',g1,g2,hm,c2,c2',c2'']
   ·have c2':¬ (60:Int)<sm.length:=by omega
    have c2'':¬ (sm.length:Int) > 60:=by omega
    rw [decide_eq_false c2]
    rw [iu rfl];simp -implicitDefEqProofs [-ac,-AV.one,-ad,BO,hr,c1,c1',c1'',g1,g2,hm,c2,c2',c2'']
structure Un.ok (u:Un):Prop where
 r:bm u.raw.2
 uf:u.um.ff.length≤100000
 af:u.am.ff.length≤100000
 ms:u.st.ms.length≤1000
 ub:dg u.um.ff
 ab:dg u.am.ff
set_option maxHeartbeats 1000000 in
theorem OG (u v:Un) (hu:u.ok) (hv:v.ok) (H:ae):callW P Gg [.agg u.v,.agg v.v] H=some (ab (u.eq v),H):=by
 have e1:=fun H=>Uz u.um v.um hu.uf hv.uf hu.ub hv.ub H
 have e2:=fun H=>acY u.am v.am hu.af hv.af hu.ab hv.ab H
 have e3:=fun H=>UA u.st v.st (by have:=hu.ms;omega) (by have:=hv.ms;omega) H
 have hst:=tV .no hu.r hv.r
 have s1:=fun H=>xV H u.raw
 have s2:=fun H=>xV H v.raw
 obtain ⟨k,r,um,am,st⟩:=u
 obtain ⟨k2,r2,um2,am2,st2⟩:=v
 simp only [Un.eq]
 simp only at e1 e2 e3 hst s1 s2
 generalize um.eq um2=b1 at *
 generalize am.eq am2=b2 at *
 generalize st.eq st2=b3 at *
 obtain ⟨ufi,usn,uz,uf⟩:=um
 obtain ⟨po,fi,sn,pa,la,off,z0,ff⟩:=am
 obtain ⟨sa,sz,sm⟩:=st
 obtain ⟨ufi2,usn2,uz2,uf2⟩:=um2
 obtain ⟨po2,fi2,sn2,pa2,la2,off2,z02,ff2⟩:=am2
 obtain ⟨sa2,sz2,sm2⟩:=st2
 simp only [Um.v,Um.f,Pk.v,Pk.f,aZ,St.v] at e1 e2 e3
 simp only [Un.v]
 clear hu hv
 by_cases h1:k=k2
 ·by_cases h2:r.2=r2.2
  ·rw [decide_eq_true h2] at hst ⊢
   cases b1 with
   | true =>
    cases b2 with
    | true=>rw [ja rfl];simp -implicitDefEqProofs [-ac,-AV.one,-ad,BP,h1,hst,s1,s2,e1,e2,e3]
    | false=>rw [ja rfl];simp -implicitDefEqProofs [-ac,-AV.one,-ad,BP,h1,hst,s1,s2,e1,e2]
   | false=>rw [ja rfl];simp -implicitDefEqProofs [-ac,-AV.one,-ad,BP,h1,hst,s1,s2,e1]
  ·rw [decide_eq_false h2] at hst ⊢
   rw [ja rfl];simp -implicitDefEqProofs [-ac,-AV.one,-ad,BP,h1,hst,s1,s2]
 ·rw [ja rfl];simp -implicitDefEqProofs [-ac,-AV.one,-ad,BP,h1]
structure Cfg where
 mode:Int
 bits:Int
 window:Int
 reorder:Int
 pollRetx:Int
 prohibit:Int
 pollPDU:Int
 pollByte:Int
 maxRetx:Int
 queue:Int
def Cfg.v (c:Cfg):List AV:=[ai c.mode,ai c.bits,ai c.window,ai c.reorder,ai c.pollRetx,ai c.prohibit,ai c.pollPDU,ai c.pollByte,ai c.maxRetx,ai c.queue]
def inn (x:Int × Int × Int):Bool:=!decide (x.1<x.2.1∨x.1 > x.2.2)
def tri (x:Int × Int × Int):List AV:=[ai x.1,ai x.2.1,ai x.2.2]
def Cfg.tm (c:Cfg):Bool:=decide ([c.mode,c.bits,c.window,c.reorder,c.pollRetx,c.prohibit,c.pollPDU,c.pollByte,c.maxRetx,c.queue]=[0,0,0,0,0,0,0,0,0,c.queue])
def Cfg.plainUM (c:Cfg):Bool:=decide ([c.mode,c.bits,c.window,c.reorder,c.pollRetx,c.prohibit,c.pollPDU,c.pollByte,c.maxRetx,c.queue]=[1,c.bits,c.window,c.reorder,0,0,0,0,0,c.queue])
def Cfg.um (c:Cfg):Bool:=decide (c.bits=5∨c.bits=10) && (c.plainUM && [(c.window,(1,if c.bits=5 then 16 else 512)),(c.reorder,(1,1000))].all inn)
def Cfg.am (c:Cfg):Bool:=decide (c.bits=10∨c.bits=16) && [(c.window,(1,if c.bits=10 then 512 else 32768)),(c.reorder,(1,1000)),(c.pollRetx,(1,1000)),(c.prohibit,(0,1000)),(c.pollPDU,(1,1000)),(c.pollByte,(1,20000)),(c.maxRetx,(1,32))].all inn
def Cfg.chk (c:Cfg):Nat:=
 if c.mode=0∨c.mode=1∨c.mode=2 then (if (if c.mode=0 then c.tm else if c.mode=1 then c.um else c.am) && [(c.queue,((1:Int),(20000:Int)))].all inn then 0 else 1) else 9
theorem Lf (a b c:Int) (H:ae):callW P tq [.agg [ai a,ai b,ai c]] H=some (ab (!inn (a,b,c)),H):=by
 by_cases h1:a<b
 ·rw [jb rfl];simp -implicitDefEqProofs (disch:=first | omega | (simp;done) | fail) [-ac,-AV.one,-ad,zE,CM,inn,h1]
 ·by_cases h2:a > c
  ·have h2':c<a:=h2
   rw [jb rfl];simp -implicitDefEqProofs (disch:=first | omega | (simp;done) | fail) [-ac,-AV.one,-ad,zE,CM,inn,h1,h2,h2']
  ·have h2':¬ c<a:=h2
   rw [jb rfl];simp -implicitDefEqProofs (disch:=first | omega | (simp;done) | fail) [-ac,-AV.one,-ad,zE,CM,inn,h1,h2,h2']
theorem mC (x:Int × Int × Int) (r:List (Int × Int × Int)) (hr:r.length≤100) (H:ae):callW P jY [.vs 3 none ((x :: r).map tri)] H=some (ab ((x :: r).all inn),H):=by
 have h:=fun H=>ud (f1:=DP) (f0:=Jh) (k:=3) (ld:=some 3) (z:=true) (l:=(x :: r).map tri) (f:=tq) (cs:=[]) (p:=fun c=>match c with
  | [.c (.int _ a),.c (.int _ b),.c (.int _ c)]=>!inn (a,b,c)
  | _=>false) (H:=H) rfl (fun _ _=>rfl) rfl rfl rfl (fun _ _=>rfl) rfl (.inl rfl) (fun c hc=>by obtain ⟨n,_,rfl⟩:=List.mem_map.1 hc;rfl) (by rw [List.length_map,List.length_cons];omega) rfl rfl (fun c hc=>by obtain ⟨n,_,rfl⟩:=List.mem_map.1 hc;exact ⟨rfl,rfl,rfl⟩)
  (fun c hc=>by
   obtain ⟨n,_,rfl⟩:=List.mem_map.1 hc
   exact Lf _ _ _ H)
 have e:(((x :: r).map tri).any fun c=>match c with
  | [.c (.int _ a),.c (.int _ b),.c (.int _ c)]=>!inn (a,b,c)
  | _=>false)=!((x :: r).all inn):=by
  rw [List.any_map,List.all_eq_not_any_not,Bool.not_not]
  rfl
 replace h:∀ H,callW P DP [.vs 3 none ((x :: r).map tri),.fn tq []] H=some (ab (!((x :: r).all inn)),H):=fun H=>by rw [← e];exact h H
 generalize (x :: r).all inn=bb at *
 have hf:((x :: r).map tri).length=r.length+1:=by simp
 generalize (x :: r).map tri=l at *
 rw [xP rfl];simp -implicitDefEqProofs [-ac,-AV.one,-ad,Jv,h]
theorem Dg (a0 a1 a2 a3 a4 a5 a6 a7 a8 a9 b0 b1 b2 b3 b4 b5 b6 b7 b8 b9:Int):bU .eql (.agg [.i,.i,.i,.i,.i,.i,.i,.i,.i,.i]) (.agg [ai a0,ai a1,ai a2,ai a3,ai a4,ai a5,ai a6,ai a7,ai a8,ai a9]) (.agg [ai b0,ai b1,ai b2,ai b3,ai b4,ai b5,ai b6,ai b7,ai b8,ai b9])=some (ab (decide ([a0,a1,a2,a3,a4,a5,a6,a7,a8,a9]=[b0,b1,b2,b3,b4,b5,b6,b7,b8,b9]))):=by
 rw [ig,if_pos ⟨rfl,rfl⟩]
 exact congrArg (Option.map ab) (sR [a0,a1,a2,a3,a4,a5,a6,a7,a8,a9] [b0,b1,b2,b3,b4,b5,b6,b7,b8,b9] rfl)
theorem Lg (c:Cfg) (H:ae):callW P vG [.agg c.v] H=some (ab c.tm,H):=by
 obtain ⟨mo,bi,wi,re,pr,ph,pp,pb,mr,q⟩:=c
 have hE:=Dg mo bi wi re pr ph pp pb mr q 0 0 0 0 0 0 0 0 0 q
 replace hE:_=some (ab (Cfg.tm ⟨mo,bi,wi,re,pr,ph,pp,pb,mr,q⟩)):=hE
 generalize Cfg.tm ⟨mo,bi,wi,re,pr,ph,pp,pb,mr,q⟩=t at *
 rw [Cs rfl];simp -implicitDefEqProofs [-ac,-AV.one,-ad,Ju,Cfg.v,hE]
theorem Lh (c:Cfg) (H:ae):callW P tf [.agg c.v] H=some (ab c.um,H):=by
 obtain ⟨mo,bi,wi,re,pr,ph,pp,pb,mr,q⟩:=c
 by_cases h5:bi=5
 ·subst h5
  have hE:=Dg mo 5 wi re pr ph pp pb mr q 1 5 wi re 0 0 0 0 0 q
  replace hE:_=some (ab (Cfg.plainUM ⟨mo,5,wi,re,pr,ph,pp,pb,mr,q⟩)):=hE
  have hW:=fun H=>mC (wi,(1,16)) [(re,(1,1000))] (by simp) H
  replace hW:∀ H,callW P jY [.vs 3 none [[ai wi,ai 1,ai 16],[ai re,ai 1,ai 1000]]] H=_:=hW
  rw [Cfg.um]
  simp only [decide_true,Bool.true_and,true_or,if_true]
  generalize Cfg.plainUM ⟨mo,5,wi,re,pr,ph,pp,pb,mr,q⟩=t at *
  generalize List.all [(wi,((1:Int),(16:Int))),(re,(1,1000))] inn=t2 at *
  cases t with
  | true=>rw [jc rfl];simp -implicitDefEqProofs (disch:=first | omega | (simp;done) | fail) [-ac,-AV.one,-ad,tw,CM,aK,-cw,aB,aP,aC,aM,SOpG.reads,SOp.slots,SX.slots,SOp.noL,bq,av,aJ,aE,eqV,Cfg.v,hE,hW]
  | false=>rw [jc rfl];simp -implicitDefEqProofs (disch:=first | omega | (simp;done) | fail) [-ac,-AV.one,-ad,tw,CM,aK,-cw,aB,aP,aC,aM,SOpG.reads,SOp.slots,SX.slots,SOp.noL,bq,av,aJ,aE,eqV,Cfg.v,hE]
 by_cases h10:bi=10
 ·subst h10
  have hE:=Dg mo 10 wi re pr ph pp pb mr q 1 10 wi re 0 0 0 0 0 q
  replace hE:_=some (ab (Cfg.plainUM ⟨mo,10,wi,re,pr,ph,pp,pb,mr,q⟩)):=hE
  have hW:=fun H=>mC (wi,(1,512)) [(re,(1,1000))] (by simp) H
  replace hW:∀ H,callW P jY [.vs 3 none [[ai wi,ai 1,ai 512],[ai re,ai 1,ai 1000]]] H=_:=hW
  rw [Cfg.um]
  simp only [show ¬ (10:Int)=5 by decide,decide_true,Bool.true_and,or_true,if_false]
  generalize Cfg.plainUM ⟨mo,10,wi,re,pr,ph,pp,pb,mr,q⟩=t at *
  generalize List.all [(wi,((1:Int),(512:Int))),(re,(1,1000))] inn=t2 at *
  cases t with
  | true=>rw [jc rfl];simp -implicitDefEqProofs (disch:=first | omega | (simp;done) | fail) [-ac,-AV.one,-ad,tw,CM,aK,-cw,aB,aP,aC,aM,SOpG.reads,SOp.slots,SX.slots,SOp.noL,bq,av,aJ,aE,eqV,Cfg.v,hE,hW]
  | false=>rw [jc rfl];simp -implicitDefEqProofs (disch:=first | omega | (simp;done) | fail) [-ac,-AV.one,-ad,tw,CM,aK,-cw,aB,aP,aC,aM,SOpG.reads,SOp.slots,SX.slots,SOp.noL,bq,av,aJ,aE,eqV,Cfg.v,hE]
 rw [Cfg.um,decide_eq_false (by simp only;omega),Bool.false_and]
 rw [jc rfl];simp -implicitDefEqProofs [-ac,-AV.one,-ad,tw,Cfg.v,h5,h10]
set_option maxHeartbeats 1000000 in
theorem Li (c:Cfg) (H:ae):callW P tg [.agg c.v] H=some (ab c.am,H):=by
 obtain ⟨mo,bi,wi,re,pr,ph,pp,pb,mr,q⟩:=c
 by_cases h5:bi=10
 ·subst h5
  have hW:=fun H=>mC (wi,(1,512)) [(re,(1,1000)),(pr,(1,1000)),(ph,(0,1000)),(pp,(1,1000)),(pb,(1,20000)),(mr,(1,32))] (by simp) H
  replace hW:∀ H,callW P jY [.vs 3 none [[ai wi,ai 1,ai 512],[ai re,ai 1,ai 1000],[ai pr,ai 1,ai 1000],[ai ph,ai 0,ai 1000],[ai pp,ai 1,ai 1000],[ai pb,ai 1,ai 20000],[ai mr,ai 1,ai 32]]] H=_:=hW
  rw [Cfg.am]
  simp only [decide_true,Bool.true_and,true_or,if_true]
  generalize List.all [(wi,((1:Int),(512:Int))),(re,(1,1000)),(pr,(1,1000)),(ph,(0,1000)),(pp,(1,1000)),(pb,(1,20000)),(mr,(1,32))] inn=t2 at *
  have w9:IntKind.i64.wrap 9=9:=rfl
  have w2:IntKind.i64.wrap 512=512:=rfl
  rw [nW rfl];simp -implicitDefEqProofs [-ac,-AV.one,-ad,zw,aK,-cw,aB,aP,aC,aM,SOpG.reads,SOp.slots,SX.slots,SOp.noL,bq,av,aJ,aE,eqV,Cfg.v,hW,w9,w2]
 by_cases h10:bi=16
 ·subst h10
  have hW:=fun H=>mC (wi,(1,32768)) [(re,(1,1000)),(pr,(1,1000)),(ph,(0,1000)),(pp,(1,1000)),(pb,(1,20000)),(mr,(1,32))] (by simp) H
  replace hW:∀ H,callW P jY [.vs 3 none [[ai wi,ai 1,ai 32768],[ai re,ai 1,ai 1000],[ai pr,ai 1,ai 1000],[ai ph,ai 0,ai 1000],[ai pp,ai 1,ai 1000],[ai pb,ai 1,ai 20000],[ai mr,ai 1,ai 32]]] H=_:=hW
  rw [Cfg.am]
  simp only [show ¬ (16:Int)=10 by decide,decide_true,Bool.true_and,or_true,if_false]
  generalize List.all [(wi,((1:Int),(32768:Int))),(re,(1,1000)),(pr,(1,1000)),(ph,(0,1000)),(pp,(1,1000)),(pb,(1,20000)),(mr,(1,32))] inn=t2 at *
  have w9:IntKind.i64.wrap 15=15:=rfl
  have w2:IntKind.i64.wrap 32768=32768:=rfl
  rw [nW rfl];simp -implicitDefEqProofs [-ac,-AV.one,-ad,zw,aK,-cw,aB,aP,aC,aM,SOpG.reads,SOp.slots,SX.slots,SOp.noL,bq,av,aJ,aE,eqV,Cfg.v,hW,w9,w2]
 rw [Cfg.am,decide_eq_false (by simp only;omega),Bool.false_and]
 rw [nW rfl];simp -implicitDefEqProofs [-ac,-AV.one,-ad,zw,Cfg.v,h5,h10]
theorem cW (c:Cfg) (H:ae):callW P f6 [.agg c.v] H=some (ai c.chk,H):=by
 have h1:=fun H=>Lg c H
 have h2:=fun H=>Lh c H
 have h3:=fun H=>Li c H
 have hW:=fun H=>mC (c.queue,(1,20000)) [] (by simp) H
 replace hW:∀ H,callW P jY [.vs 3 none [[ai c.queue,ai 1,ai 20000]]] H=_:=hW
 rw [Cfg.chk]
 generalize List.all [(c.queue,((1:Int),(20000:Int)))] inn=b at *
 generalize c.tm=t1 at *
 generalize c.um=t2 at *
 generalize c.am=t3 at *
 obtain ⟨mo,bi,wi,re,pr,ph,pp,pb,mr,q⟩:=c
 simp only [Cfg.v] at h1 h2 h3 hW ⊢
 by_cases m0:mo=0
 ·subst m0
  rw [if_pos (show (0:Int)=0∨(0:Int)=1∨(0:Int)=2 by decide),if_pos (show (0:Int)=0 from rfl)]
  cases t1 with
  | true =>
   cases b with
   | true=>rw [dq rfl];simp -implicitDefEqProofs [-ac,-AV.one,-ad,lq,h1,hW]
   | false=>rw [dq rfl];simp -implicitDefEqProofs [-ac,-AV.one,-ad,lq,h1,hW]
  | false=>rw [dq rfl];simp -implicitDefEqProofs [-ac,-AV.one,-ad,lq,h1]
 by_cases m1:mo=1
 ·subst m1
  rw [if_pos (show (1:Int)=0∨(1:Int)=1∨(1:Int)=2 by decide),if_neg (show ¬ (1:Int)=0 by decide),if_pos (show (1:Int)=1 from rfl)]
  cases t2 with
  | true =>
   cases b with
   | true=>rw [dq rfl];simp -implicitDefEqProofs [-ac,-AV.one,-ad,lq,h2,hW]
   | false=>rw [dq rfl];simp -implicitDefEqProofs [-ac,-AV.one,-ad,lq,h2,hW]
  | false=>rw [dq rfl];simp -implicitDefEqProofs [-ac,-AV.one,-ad,lq,h2]
 by_cases m2:mo=2
 ·subst m2
  rw [if_pos (show (2:Int)=0∨(2:Int)=1∨(2:Int)=2 by decide),if_neg (show ¬ (2:Int)=0 by decide),if_neg (show ¬ (2:Int)=1 by decide)]
  cases t3 with
  | true =>
   cases b with
   | true=>rw [dq rfl];simp -implicitDefEqProofs [-ac,-AV.one,-ad,lq,h3,hW]
   | false=>rw [dq rfl];simp -implicitDefEqProofs [-ac,-AV.one,-ad,lq,h3,hW]
  | false=>rw [dq rfl];simp -implicitDefEqProofs [-ac,-AV.one,-ad,lq,h3]
 rw [if_neg (show ¬ (mo=0∨mo=1∨mo=2) by omega)]
 rw [dq rfl];simp -implicitDefEqProofs [-ac,-AV.one,-ad,lq,m0,m1,m2]
theorem pN {c:Cfg} (h:c.chk=0):c.mode=0∨c.mode=1∨c.mode=2:=by
 unfold Cfg.chk at h
 split at h
 ·assumption
 ·simp at h
def um0:Um:=⟨0,0,true,[]⟩
def am0:Pk:=⟨false,0,0,false,false,0,true,[]⟩
def st0:St:=⟨0,true,[]⟩
def un0:Un:=⟨0,(true,[]),um0,am0,st0⟩
def G6 (bs:List Nat) (w:Nat) (out:List Bs):Um:=⟨(uFI bs w:Nat),(uSN bs w:Nat),true,out⟩
def G7 (bs:List Nat) (w:Nat) (out:List Bs):Pk:=⟨dr bs,(hFI bs:Nat),(hSN bs w:Nat),aY bs,cN bs w,(eO bs w:Nat),true,out⟩
inductive ga (c:Cfg) (b:Bs):Nat→Un→Prop where
 | bad (h:c.chk≠0):ga c b c.chk un0
 | none (h:c.chk=0) (m:c.mode=0) (l:b.2.length=0):ga c b 8 un0
 | long (h:c.chk=0) (m:c.mode=0) (l:1000<b.2.length):ga c b 2 un0
 | raw (h:c.chk=0) (m:c.mode=0) (l:b.2.length≠0) (l2:b.2.length≤1000):ga c b 0 ⟨0,b,um0,am0,st0⟩
 | umE (h:c.chk=0) (m:c.mode=1) (e:(bR b.2 c.bits).1≠0):ga c b (bR b.2 c.bits).1 un0
 | um (h:c.chk=0) (m:c.mode=1) (out:List Bs) (e:bR b.2 c.bits=(0,bb out)):ga c b 0 ⟨1,(true,[]),G6 b.2 c.bits.toNat out,am0,st0⟩
 | stE (h:c.chk=0) (m:c.mode=2) (l:b.2.length≠0) (n:aj b.2 0 1=0) (e:(bI b.2 c.bits).1≠0):ga c b (bI b.2 c.bits).1 un0
 | st (h:c.chk=0) (m:c.mode=2) (l:b.2.length≠0) (n:aj b.2 0 1=0) (ack:Nat) (ms:List Ms) (e:bI b.2 c.bits=(0,ack,ms)):ga c b 0 ⟨3,(true,[]),um0,am0,⟨ack,true,ms⟩⟩
 | amE (h:c.chk=0) (m:c.mode=2) (n:b.2.length=0∨aj b.2 0 1≠0) (e:(bQ b.2 c.bits).1≠0):ga c b (bQ b.2 c.bits).1 un0
 | am (h:c.chk=0) (m:c.mode=2) (n:b.2.length=0∨aj b.2 0 1≠0) (out:List Bs) (e:bQ b.2 c.bits=(0,bb out)):ga c b 0 ⟨2,(true,[]),um0,G7 b.2 c.bits.toNat out,st0⟩
theorem yd (b:Bs) (hb:b.2.length≤8192) (hby:bm b.2) (w:Int) (H:ae) :
  ∃ (out:List Bs) (k:Nat),out.map (·.2)=(bR b.2 w).2∧callW P nl [bv b,ai w] H=some (bZ b.2 w (lst true 1 none (bvs out)),H++List.replicate k .other):=by
 by_cases h5:w=5
 ·subst h5;exact GT b hb hby H
 by_cases h10:w=10
 ·subst h10;exact C1 b hb hby H
 have hW:∀ H,callW P oP [ai w] H=some (ab false,H):=fun H=>by rw [f7,decide_eq_false (by omega)]
 have hR:bR b.2 w=(9,[]):=by rw [bR,if_neg (by omega)]
 refine ⟨[],0,by rw [hR];rfl,?_⟩
 rw [bZ,hR]
 clear hR hby
 rw [cj rfl];simp -implicitDefEqProofs [-ac,-AV.one,-ad,gm,hW]
theorem jF:un0.v=[ai 0,bc,ai 0,ai 0,bc,ab false,ai 0,ai 0,ab false,ab false,ai 0,bc,ai 0,bc]:=rfl
theorem PB (b:Bs):(⟨0,b,um0,am0,st0⟩:Un).v=[ai 0,bv b,ai 0,ai 0,bc,ab false,ai 0,ai 0,ab false,ab false,ai 0,bc,ai 0,bc]:=rfl
theorem AE (b:Bs) (hb:b.2.length≤8192) (H:ae) :
  callW P s9 [bv b] H=some (.tup [.agg (if b.2.length=0∨1000<b.2.length then un0 else ⟨0,b,um0,am0,st0⟩:Un).v,ai (if b.2.length=0 then 8 else if 1000<b.2.length then 2 else 0)],H):=by
 have hlen:=cz b
 have hc:=fun H=>jf b (by omega) H
 by_cases h0:b.2.length=0
 ·have h0':(b.2.length:Int)=0:=by omega
  rw [if_pos (.inl h0),if_pos h0,jF]
  rw [h0] at hlen
  rw [jM rfl];simp -implicitDefEqProofs [-ac,-AV.one,-ad,zr,hlen]
 have h0':¬ (b.2.length:Int)=0:=by omega
 by_cases h1:1000<b.2.length
 ·have h1':(1000:Int)<b.2.length:=by omega
  have h1'':(b.2.length:Int) > 1000:=by omega
  rw [if_pos (.inr h1),if_neg h0,if_pos h1,jF]
  obtain ⟨n,hn⟩:=nm (b.2.length)
  rw [hn] at hlen h0 h0' h1 h1' h1''
  rw [jM rfl];simp -implicitDefEqProofs [-ac,-AV.one,-ad,zr,hlen,h0,h0',h1,h1',h1'']
 ·have h1':¬ (1000:Int)<b.2.length:=by omega
  have h1'':¬ (b.2.length:Int) > 1000:=by omega
  rw [if_neg (by omega),if_neg h0,if_neg h1,PB]
  have hf:bv b=lst b.1 1 none (ax b.2):=rfl
  obtain ⟨n,hn⟩:=nm (b.2.length)
  rw [hn] at hlen h0 h0' h1 h1' h1''
  rw [hf] at hlen hc ⊢
  rw [jM rfl];simp -implicitDefEqProofs [-ac,-AV.one,-ad,zr,hlen,h0,h0',h1,h1',h1'',hc]
def inD (x a b:Int):Bool:=decide (a≤x) && decide (x≤b)
theorem eu (x a b:Int) (H:ae):callW P qJ [ai x,ai a,ai b] H=some (ab (inD x a b),H):=by
 by_cases h1:a≤x
 ·by_cases h2:x≤b
  ·rw [inD,decide_eq_true h1,decide_eq_true h2]
   rw [tU rfl];simp -implicitDefEqProofs (disch:=first | omega | (simp;done) | fail) [-ac,-AV.one,-ad,zA,CM,h1,h2]
  ·rw [inD,decide_eq_true h1,decide_eq_false h2]
   rw [tU rfl];simp -implicitDefEqProofs (disch:=first | omega | (simp;done) | fail) [-ac,-AV.one,-ad,zA,CM,h1,h2]
 ·rw [inD,decide_eq_false h1]
  rw [tU rfl];simp -implicitDefEqProofs (disch:=first | omega | (simp;done) | fail) [-ac,-AV.one,-ad,zA,CM,h1]
theorem yh (x a b:Int):inD x a b=inn (x,(a,b)):=by
 simp only [inD,inn]
 by_cases h1:a≤x<;>by_cases h2:x≤b<;>simp [h1,h2]<;>omega
def Cfg.oth (c:Cfg):Bool:=decide (c.pollRetx=0) && (decide (c.prohibit=0) && (decide (c.pollPDU=0) && (decide (c.pollByte=0) && decide (c.maxRetx=0))))
def Cfg.d0 (c:Cfg):Bool:=inD c.queue 1 20000 && (decide (c.bits=0) && (decide (c.window=0) && (decide (c.reorder=0) && c.oth)))
def Cfg.d1 (c:Cfg) (h:Int):Bool:=inD c.queue 1 20000 && (inD c.window 1 h && (inD c.reorder 1 1000 && c.oth))
def Cfg.d2 (c:Cfg) (h:Int):Bool:=inD c.queue 1 20000 && (inD c.window 1 h && (inD c.reorder 1 1000 && (inD c.pollRetx 1 1000 && (inD c.prohibit 0 1000 && (inD c.pollPDU 1 1000 && (inD c.pollByte 1 20000 && inD c.maxRetx 1 32))))))
section
variable {bi wi re pr ph pp pb mr q:Int} {H:ae}
theorem UH:callW P fj [.agg (Cfg.v ⟨0,bi,wi,re,pr,ph,pp,pb,mr,q⟩)] H=some (ai (cond (Cfg.d0 ⟨0,bi,wi,re,pr,ph,pp,pb,mr,q⟩) 0 1),H):=by
 have h1:=fun H=>eu q 1 20000 H
 have h2:=fun H=>fc bi H
 obtain ⟨s,hs⟩:=nm (sz2 bi)
 rw [hs] at h2
 obtain ⟨s2,hs2⟩:∃ t:Int,IntKind.i64.wrap ((s:Int).tdiv 2)=t:=⟨_,rfl⟩
 clear hs
 simp only [Cfg.d0]
 generalize inD q 1 20000=iq at *
 have k2:iq=false∨iq=true∧(bi≠0∨bi=0∧(wi≠0∨wi=0∧(re≠0∨re=0))):=by cases iq<;>simp<;>omega
 have k1:pr≠0∨pr=0∧(ph≠0∨ph=0∧(pp≠0∨pp=0∧(pb≠0∨pb=0∧(mr≠0∨mr=0)))):=by omega
 rcases k1 with h | ⟨rfl,h | ⟨rfl,h | ⟨rfl,h | ⟨rfl,h | rfl⟩⟩⟩⟩<;>rcases k2 with rfl | ⟨rfl,g | ⟨rfl,g | ⟨rfl,g | rfl⟩⟩⟩<;>(rw [et rfl];simp -implicitDefEqProofs [-ac,-AV.one,-ad,nA,Cfg.v,Cfg.d0,Cfg.d1,Cfg.d2,Cfg.oth, *])
theorem Lo:callW P fj [.agg (Cfg.v ⟨1,5,wi,re,pr,ph,pp,pb,mr,q⟩)] H=some (ai (cond (Cfg.d1 ⟨1,5,wi,re,pr,ph,pp,pb,mr,q⟩ 16) 0 1),H):=by
 have h1:=fun H=>eu q 1 20000 H
 have h2:=fun H=>eu wi 1 16 H
 have h3:=fun H=>eu re 1 1000 H
 have h4:∀ H,callW P iF [ai 5] H=some (ai 32,H):=fun H=>fc 5 H
 have wh:IntKind.i64.wrap 16=16:=rfl
 simp only [Cfg.d1]
 generalize inD q 1 20000=iq at *
 generalize inD wi 1 16=iw at *
 generalize inD re 1 1000=ir at *
 have k2:iq=false∨iq=true∧(iw=false∨iw=true∧(ir=false∨ir=true)):=by cases iq<;>cases iw<;>cases ir<;>simp
 have k1:pr≠0∨pr=0∧(ph≠0∨ph=0∧(pp≠0∨pp=0∧(pb≠0∨pb=0∧(mr≠0∨mr=0)))):=by omega
 rcases k1 with h | ⟨rfl,h | ⟨rfl,h | ⟨rfl,h | ⟨rfl,h | rfl⟩⟩⟩⟩<;>rcases k2 with rfl | ⟨rfl,rfl | ⟨rfl,rfl | rfl⟩⟩<;>(rw [et rfl];simp -implicitDefEqProofs [-ac,-AV.one,-ad,nA,Cfg.v,Cfg.d0,Cfg.d1,Cfg.d2,Cfg.oth, *])
theorem Hc:callW P fj [.agg (Cfg.v ⟨1,10,wi,re,pr,ph,pp,pb,mr,q⟩)] H=some (ai (cond (Cfg.d1 ⟨1,10,wi,re,pr,ph,pp,pb,mr,q⟩ 512) 0 1),H):=by
 have h1:=fun H=>eu q 1 20000 H
 have h2:=fun H=>eu wi 1 512 H
 have h3:=fun H=>eu re 1 1000 H
 have h4:∀ H,callW P iF [ai 10] H=some (ai 1024,H):=fun H=>fc 10 H
 have wh:IntKind.i64.wrap 512=512:=rfl
 simp only [Cfg.d1]
 generalize inD q 1 20000=iq at *
 generalize inD wi 1 512=iw at *
 generalize inD re 1 1000=ir at *
 have k2:iq=false∨iq=true∧(iw=false∨iw=true∧(ir=false∨ir=true)):=by cases iq<;>cases iw<;>cases ir<;>simp
 have k1:pr≠0∨pr=0∧(ph≠0∨ph=0∧(pp≠0∨pp=0∧(pb≠0∨pb=0∧(mr≠0∨mr=0)))):=by omega
 rcases k1 with h | ⟨rfl,h | ⟨rfl,h | ⟨rfl,h | ⟨rfl,h | rfl⟩⟩⟩⟩<;>rcases k2 with rfl | ⟨rfl,rfl | ⟨rfl,rfl | rfl⟩⟩<;>(rw [et rfl];simp -implicitDefEqProofs [-ac,-AV.one,-ad,nA,Cfg.v,Cfg.d0,Cfg.d1,Cfg.d2,Cfg.oth, *])
theorem Hd:callW P fj [.agg (Cfg.v ⟨2,10,wi,re,pr,ph,pp,pb,mr,q⟩)] H=some (ai (cond (Cfg.d2 ⟨2,10,wi,re,pr,ph,pp,pb,mr,q⟩ 512) 0 1),H):=by
 have h1:=fun H=>eu q 1 20000 H
 have h2:=fun H=>eu wi 1 512 H
 have h3:=fun H=>eu re 1 1000 H
 have h4:∀ H,callW P iF [ai 10] H=some (ai 1024,H):=fun H=>fc 10 H
 have wh:IntKind.i64.wrap 512=512:=rfl
 have g_pr:=fun H=>eu pr 1 1000 H
 have g_ph:=fun H=>eu ph 0 1000 H
 have g_pp:=fun H=>eu pp 1 1000 H
 have g_pb:=fun H=>eu pb 1 20000 H
 have g_mr:=fun H=>eu mr 1 32 H
 simp only [Cfg.d2]
 generalize inD q 1 20000=iq at *
 generalize inD wi 1 512=iw at *
 generalize inD re 1 1000=ir at *
 generalize inD pr 1 1000=i_pr at *
 generalize inD ph 0 1000=i_ph at *
 generalize inD pp 1 1000=i_pp at *
 generalize inD pb 1 20000=i_pb at *
 generalize inD mr 1 32=i_mr at *
 have k2:iq=false∨iq=true∧(iw=false∨iw=true∧(ir=false∨ir=true∧(i_pr=false∨i_pr=true∧(i_ph=false∨i_ph=true∧(i_pp=false∨i_pp=true∧(i_pb=false∨i_pb=true∧(i_mr=false∨i_mr=true))))))):=by cases iq<;>cases iw<;>cases ir<;>cases i_pr<;>cases i_ph<;>cases i_pp<;>cases i_pb<;>cases i_mr<;>simp
 rcases k2 with rfl | ⟨rfl,rfl | ⟨rfl,rfl | ⟨rfl,rfl | ⟨rfl,rfl | ⟨rfl,rfl | ⟨rfl,rfl | ⟨rfl,rfl | rfl⟩⟩⟩⟩⟩⟩⟩<;>(rw [et rfl];simp -implicitDefEqProofs [-ac,-AV.one,-ad,nA,Cfg.v,Cfg.d0,Cfg.d1,Cfg.d2,Cfg.oth, *])
theorem He:callW P fj [.agg (Cfg.v ⟨2,16,wi,re,pr,ph,pp,pb,mr,q⟩)] H=some (ai (cond (Cfg.d2 ⟨2,16,wi,re,pr,ph,pp,pb,mr,q⟩ 32768) 0 1),H):=by
 have h1:=fun H=>eu q 1 20000 H
 have h2:=fun H=>eu wi 1 32768 H
 have h3:=fun H=>eu re 1 1000 H
 have h4:∀ H,callW P iF [ai 16] H=some (ai 65536,H):=fun H=>fc 16 H
 have wh:IntKind.i64.wrap 32768=32768:=rfl
 have g_pr:=fun H=>eu pr 1 1000 H
 have g_ph:=fun H=>eu ph 0 1000 H
 have g_pp:=fun H=>eu pp 1 1000 H
 have g_pb:=fun H=>eu pb 1 20000 H
 have g_mr:=fun H=>eu mr 1 32 H
 simp only [Cfg.d2]
 generalize inD q 1 20000=iq at *
 generalize inD wi 1 32768=iw at *
 generalize inD re 1 1000=ir at *
 generalize inD pr 1 1000=i_pr at *
 generalize inD ph 0 1000=i_ph at *
 generalize inD pp 1 1000=i_pp at *
 generalize inD pb 1 20000=i_pb at *
 generalize inD mr 1 32=i_mr at *
 have k2:iq=false∨iq=true∧(iw=false∨iw=true∧(ir=false∨ir=true∧(i_pr=false∨i_pr=true∧(i_ph=false∨i_ph=true∧(i_pp=false∨i_pp=true∧(i_pb=false∨i_pb=true∧(i_mr=false∨i_mr=true))))))):=by cases iq<;>cases iw<;>cases ir<;>cases i_pr<;>cases i_ph<;>cases i_pp<;>cases i_pb<;>cases i_mr<;>simp
 rcases k2 with rfl | ⟨rfl,rfl | ⟨rfl,rfl | ⟨rfl,rfl | ⟨rfl,rfl | ⟨rfl,rfl | ⟨rfl,rfl | ⟨rfl,rfl | rfl⟩⟩⟩⟩⟩⟩⟩<;>(rw [et rfl];simp -implicitDefEqProofs [-ac,-AV.one,-ad,nA,Cfg.v,Cfg.d0,Cfg.d1,Cfg.d2,Cfg.oth, *])
theorem Lp (n1:¬ bi=5) (n2:¬ bi=10):callW P fj [.agg (Cfg.v ⟨1,bi,wi,re,pr,ph,pp,pb,mr,q⟩)] H=some (ai 1,H):=by
 have h1:=fun H=>eu q 1 20000 H
 have h2:=fun H=>fc bi H
 obtain ⟨s,hs⟩:=nm (sz2 bi)
 rw [hs] at h2
 obtain ⟨s2,hs2⟩:∃ t:Int,IntKind.i64.wrap ((s:Int).tdiv 2)=t:=⟨_,rfl⟩
 clear hs
 generalize inD q 1 20000=iq at *
 have k2:iq=false∨iq=true:=by cases iq<;>simp
 have k1:pr≠0∨pr=0∧(ph≠0∨ph=0∧(pp≠0∨pp=0∧(pb≠0∨pb=0∧(mr≠0∨mr=0)))):=by omega
 rcases k1 with h | ⟨rfl,h | ⟨rfl,h | ⟨rfl,h | ⟨rfl,h | rfl⟩⟩⟩⟩<;>rcases k2 with rfl | rfl<;>(rw [et rfl];simp -implicitDefEqProofs [-ac,-AV.one,-ad,nA,Cfg.v,Cfg.d0,Cfg.d1,Cfg.d2,Cfg.oth, *])
theorem Lq (n1:¬ bi=10) (n2:¬ bi=16):callW P fj [.agg (Cfg.v ⟨2,bi,wi,re,pr,ph,pp,pb,mr,q⟩)] H=some (ai 1,H):=by
 have h1:=fun H=>eu q 1 20000 H
 have h2:=fun H=>fc bi H
 obtain ⟨s,hs⟩:=nm (sz2 bi)
 rw [hs] at h2
 obtain ⟨s2,hs2⟩:∃ t:Int,IntKind.i64.wrap ((s:Int).tdiv 2)=t:=⟨_,rfl⟩
 clear hs
 generalize inD q 1 20000=iq at *
 have k2:iq=false∨iq=true:=by cases iq<;>simp
 rcases k2 with rfl | rfl<;>(rw [et rfl];simp -implicitDefEqProofs [-ac,-AV.one,-ad,nA,Cfg.v,Cfg.d0,Cfg.d1,Cfg.d2,Cfg.oth, *])
end
theorem UI {α:Type} (f:α→Bool) (a:α):[a].all f=f a:=by simp
theorem UJ {bi wi re pr ph pp pb mr q:Int}:Cfg.chk ⟨0,bi,wi,re,pr,ph,pp,pb,mr,q⟩=cond (Cfg.d0 ⟨0,bi,wi,re,pr,ph,pp,pb,mr,q⟩) 0 1:=by
 have h:(Cfg.tm ⟨0,bi,wi,re,pr,ph,pp,pb,mr,q⟩ && [(q,((1:Int),(20000:Int)))].all inn)=Cfg.d0 ⟨0,bi,wi,re,pr,ph,pp,pb,mr,q⟩:=by
  rw [UI,← yh,Bool.eq_iff_iff]
  simp only [Cfg.tm,Cfg.d0,Cfg.oth,Bool.and_eq_true,decide_eq_true_eq,List.cons.injEq,and_true,true_and]
  constructor
  ·rintro ⟨⟨h1,h2,h3,h4,h5,h6,h7,h8⟩,h9⟩;exact ⟨h9,h1,h2,h3,h4,h5,h6,h7,h8⟩
  ·rintro ⟨h9,h1,h2,h3,h4,h5,h6,h7,h8⟩;exact ⟨⟨h1,h2,h3,h4,h5,h6,h7,h8⟩,h9⟩
 rw [Cfg.chk,if_pos (.inl rfl)]
 simp only [if_true,h]
 cases Cfg.d0 ⟨0,bi,wi,re,pr,ph,pp,pb,mr,q⟩<;>rfl
theorem Lr {bi wi re pr ph pp pb mr q:Int}:Cfg.plainUM ⟨1,bi,wi,re,pr,ph,pp,pb,mr,q⟩=Cfg.oth ⟨1,bi,wi,re,pr,ph,pp,pb,mr,q⟩:=by
 rw [Bool.eq_iff_iff]
 simp only [Cfg.plainUM,Cfg.oth,Bool.and_eq_true,decide_eq_true_eq,List.cons.injEq,and_true,true_and]
theorem Ls {bi wi re pr ph pp pb mr q:Int} (hb:bi=5∨bi=10):Cfg.chk ⟨1,bi,wi,re,pr,ph,pp,pb,mr,q⟩=cond (Cfg.d1 ⟨1,bi,wi,re,pr,ph,pp,pb,mr,q⟩ (if bi=5 then 16 else 512)) 0 1:=by
 have h:(Cfg.um ⟨1,bi,wi,re,pr,ph,pp,pb,mr,q⟩ && [(q,((1:Int),(20000:Int)))].all inn)=Cfg.d1 ⟨1,bi,wi,re,pr,ph,pp,pb,mr,q⟩ (if bi=5 then 16 else 512):=by
  rw [Cfg.um,Lr,decide_eq_true hb,Bool.true_and,UI,Cfg.d1]
  simp only [List.all_cons,List.all_nil,Bool.and_true,yh]
  cases inn (q,((1:Int),(20000:Int)))<;>cases inn (wi,((1:Int),if bi=5 then (16:Int) else 512))<;>cases inn (re,((1:Int),(1000:Int)))<;>cases Cfg.oth ⟨1,bi,wi,re,pr,ph,pp,pb,mr,q⟩<;>rfl
 rw [Cfg.chk,if_pos (.inr (.inl rfl))]
 simp only [show ¬ (1:Int)=0 by decide,if_false,if_true,h]
 cases Cfg.d1 ⟨1,bi,wi,re,pr,ph,pp,pb,mr,q⟩ (if bi=5 then 16 else 512)<;>rfl
theorem Lt {bi wi re pr ph pp pb mr q:Int} (hb:bi=10∨bi=16):Cfg.chk ⟨2,bi,wi,re,pr,ph,pp,pb,mr,q⟩=cond (Cfg.d2 ⟨2,bi,wi,re,pr,ph,pp,pb,mr,q⟩ (if bi=10 then 512 else 32768)) 0 1:=by
 have h:(Cfg.am ⟨2,bi,wi,re,pr,ph,pp,pb,mr,q⟩ && [(q,((1:Int),(20000:Int)))].all inn)=Cfg.d2 ⟨2,bi,wi,re,pr,ph,pp,pb,mr,q⟩ (if bi=10 then 512 else 32768):=by
  rw [Cfg.am,decide_eq_true hb,Bool.true_and,UI,Cfg.d2]
  simp only [List.all_cons,List.all_nil,Bool.and_true,yh]
  rw [Bool.and_comm]
 rw [Cfg.chk,if_pos (.inr (.inr rfl))]
 simp only [show ¬ (2:Int)=0 by decide,show ¬ (2:Int)=1 by decide,if_false,h]
 cases Cfg.d2 ⟨2,bi,wi,re,pr,ph,pp,pb,mr,q⟩ (if bi=10 then 512 else 32768)<;>rfl
theorem Lu {mo bi wi re pr ph pp pb mr q:Int} (h:(mo=1∧¬ (bi=5∨bi=10))∨(mo=2∧¬ (bi=10∨bi=16))):Cfg.chk ⟨mo,bi,wi,re,pr,ph,pp,pb,mr,q⟩=1:=by
 rcases h with ⟨rfl,h⟩ | ⟨rfl,h⟩
 ·rw [Cfg.chk,if_pos (.inr (.inl rfl))]
  simp only [show ¬ (1:Int)=0 by decide,if_false,if_true]
  rw [Cfg.um,decide_eq_false h];rfl
 ·rw [Cfg.chk,if_pos (.inr (.inr rfl))]
  simp only [show ¬ (2:Int)=0 by decide,show ¬ (2:Int)=1 by decide,if_false]
  rw [Cfg.am,decide_eq_false h];rfl
theorem uC (b:Bool):((cond b 0 1:Nat):Int)=cond b 0 1:=by cases b<;>rfl
theorem iD (c:Cfg) (H:ae):callW P fj [.agg c.v] H=some (ai c.chk,H):=by
 obtain ⟨mo,bi,wi,re,pr,ph,pp,pb,mr,q⟩:=c
 by_cases m0:mo=0
 ·subst m0
  rw [UJ,uC];exact UH
 by_cases m1:mo=1
 ·subst m1
  by_cases h5:bi=5
  ·subst h5
   rw [Ls (.inl rfl),uC];exact Lo
  by_cases h10:bi=10
  ·subst h10
   rw [Ls (.inr rfl),uC];exact Hc
  rw [Lu (.inl ⟨rfl,fun h=>h.elim h5 h10⟩)]
  exact Lp h5 h10
 by_cases m2:mo=2
 ·subst m2
  by_cases h5:bi=10
  ·subst h5
   rw [Lt (.inl rfl),uC];exact Hd
  by_cases h10:bi=16
  ·subst h10
   rw [Lt (.inr rfl),uC];exact He
  rw [Lu (.inr ⟨rfl,fun h=>h.elim h5 h10⟩)]
  exact Lq h5 h10
 rw [show Cfg.chk ⟨mo,bi,wi,re,pr,ph,pp,pb,mr,q⟩=9 by rw [Cfg.chk,if_neg (by simp only;omega)]]
 have h1:=fun H=>eu q 1 20000 H
 have h2:=fun H=>fc bi H
 obtain ⟨s,hs⟩:=nm (sz2 bi)
 rw [hs] at h2
 generalize inD q 1 20000=iq at *
 clear hs
 rw [et rfl];simp -implicitDefEqProofs [-ac,-AV.one,-ad,nA,Cfg.v,h1,h2,m0,m1,m2]
theorem adi (bs:List Nat) (w:Nat) (out:List Bs):(⟨1,(true,[]),G6 bs w out,am0,st0⟩:Un).v=[ai 1,bc,ai (uFI bs w:Nat),ai (uSN bs w:Nat),lst true 1 none (bvs out),ab false,ai 0,ai 0,ab false,ab false,ai 0,bc,ai 0,bc]:=rfl
theorem OP (bs:List Nat) (w:Nat) (out:List Bs):(⟨2,(true,[]),um0,G7 bs w out,st0⟩:Un).v=[ai 2,bc,ai 0,ai 0,bc,ab (dr bs),ai (hFI bs:Nat),ai (hSN bs w:Nat),ab (aY bs),ab (cN bs w),ai (eO bs w:Nat),lst true 1 none (bvs out),ai 0,bc]:=rfl
theorem adj (ack:Nat) (ms:List Ms):(⟨3,(true,[]),um0,am0,⟨ack,true,ms⟩⟩:Un).v=[ai 3,bc,ai 0,ai 0,bc,ab false,ai 0,ai 0,ab false,ab false,ai 0,bc,ai ack,lst true 4 none (mvs ms)]:=rfl
theorem wQ {bs:List Nat} {w:Nat}:∀ (z a e:Nat) (more:Bool) (out:List Ms),(dF bs w z a e more out).1=0∨(dF bs w z a e more out).2=[]
 | 0,_,_,_,_=>.inr rfl
 | z+1,a,e,more,out=>by
  rw [dF]
  split
  ·exact .inr rfl
  ·split
   ·split
    ·exact .inr rfl
    ·split
     ·exact .inr rfl
     ·exact wQ z _ _ _ _
   ·split
    ·exact .inl rfl
    ·exact .inr rfl
theorem wR {bs:List Nat} {w:Int}:(bI bs w).1=0∨(bI bs w).2=(0,[]):=by
 unfold bI
 split
 ·split
  ·exact .inr rfl
  ·split
   ·exact .inr rfl
   ·split
    ·exact .inr rfl
    ·simp only
     refine Classical.byCases (fun h0=>.inl h0) (fun h0=>.inr ?_)
     rw [if_neg h0]
     exact congrArg (Prod.mk 0) ((wQ _ _ _ _ _).resolve_left h0)
 ·exact .inr rfl
section
variable {b:Bs}
def PRd (c:Cfg) (b:Bs) (H:ae):Prop:=∃ (e:Nat) (x:Un) (k:Nat),ga c b e x∧callW P jl [.agg c.v,bv b] H=some (.tup [.agg x.v,ai e],H++List.replicate k .other)
theorem OQ (c:Cfg) (h:c.chk≠0) (H:ae):PRd c b H:=by
 have hC:=fun H=>cW c H
 refine ⟨_,_,0,.bad h,?_⟩
 rw [jF]
 obtain ⟨n,hn⟩:=nm (c.chk)
 rw [hn] at hC h ⊢
 have h':¬ (n:Int)=0:=by omega
 obtain ⟨mo,bi,wi,re,pr,ph,pp,pb,mr,q⟩:=c
 simp only [Cfg.v] at hC ⊢
 clear hn
 rw [dT rfl];simp -implicitDefEqProofs [-ac,-AV.one,-ad,rC,hC,h,h']
theorem OS (c:Cfg) (hb:b.2.length≤8192) (h:c.chk=0) (m:c.mode=0) (H:ae):PRd c b H:=by
 have hC:=fun H=>cW c H
 have hR:=fun H=>AE b hb H
 rw [h] at hC
 replace hC:∀ H,callW P f6 [.agg c.v] H=some (ai 0,H):=hC
 have key:∀ (x:Un) (e:Nat),(∀ H,callW P s9 [bv b] H=some (.tup [.agg x.v,ai e],H))→callW P jl [.agg c.v,bv b] H=some (.tup [.agg x.v,ai e],H):=by
  intro x e hx
  obtain ⟨k,r,um,am,st⟩:=x
  simp only [Un.v] at hx ⊢
  obtain ⟨mo,bi,wi,re,pr,ph,pp,pb,mr,q⟩:=c
  simp only at m
  subst m
  simp only [Cfg.v] at hC ⊢
  clear hR h
  rw [dT rfl];simp -implicitDefEqProofs [-ac,-AV.one,-ad,rC,hC,hx]
 by_cases h0:b.2.length=0
 ·refine ⟨8,un0,0,.none h m h0,?_⟩
  rw [if_pos (.inl h0),if_pos h0] at hR
  simpa using key un0 8 hR
 by_cases h1:1000<b.2.length
 ·refine ⟨2,un0,0,.long h m h1,?_⟩
  rw [if_pos (.inr h1),if_neg h0,if_pos h1] at hR
  simpa using key un0 2 hR
 ·refine ⟨0,_,0,.raw h m h0 (by omega),?_⟩
  rw [if_neg (by omega),if_neg h0,if_neg h1] at hR
  simpa using key _ 0 hR
theorem UM (c:Cfg) (hb:b.2.length≤8192) (hby:bm b.2) (h:c.chk=0) (m:c.mode=1) (H:ae):PRd c b H:=by
 have hC:=fun H=>cW c H
 rw [h] at hC
 replace hC:∀ H,callW P f6 [.agg c.v] H=some (ai 0,H):=hC
 obtain ⟨out,k,ho,hR⟩:=yd b hb hby c.bits H
 obtain ⟨sc,hsc⟩:=nm (dR)
 have hJ:∀ σ H,jumpW P jl dR 0 ⟨.goto 0,σ,H⟩=(execW P jl dR σ H).bind (jumpW P jl sc 0):=fun σ H=>by rw [jumpW_eq,hsc];rfl
 unfold dR gV at hJ
 by_cases he:(bR b.2 c.bits).1=0
 ·have e2:bR b.2 c.bits=(0,bb out):=Prod.ext he ho.symm
  refine ⟨0,_,k,.um h m out e2,?_⟩
  rw [adi]
  rw [bZ,if_pos he,he] at hR
  replace hR:callW P nl [bv b,ai c.bits] H=some (.tup [.agg [ai (uFI b.2 c.bits.toNat:Nat),ai (uSN b.2 c.bits.toNat:Nat),lst true 1 none (bvs out)],ai 0],H++List.replicate k .other):=hR
  generalize uFI b.2 c.bits.toNat=f1 at *
  generalize uSN b.2 c.bits.toNat=f2 at *
  obtain ⟨N,hN⟩:=nm (List.replicate k AObj.other)
  have hNl:List.replicate N.length AObj.other=N:=by rw [← hN];simp
  rw [hN] at hR ⊢
  obtain ⟨mo,bi,wi,re,pr,ph,pp,pb,mr,q⟩:=c
  simp only at m hR
  subst m
  simp only [Cfg.v] at hC ⊢
  clear h he e2 ho hby
  rw [dT rfl];simp -implicitDefEqProofs [-ac,-AV.one,-ad,rC,hC,hR,hNl]
 ·refine ⟨_,_,k,.umE h m he,?_⟩
  rw [jF]
  rw [bZ,if_neg he] at hR
  replace hR:callW P nl [bv b,ai c.bits] H=some (.tup [.agg [ai 0,ai 0,bc],ai (bR b.2 c.bits).1],H++List.replicate k .other):=hR
  obtain ⟨N,hN⟩:=nm (List.replicate k AObj.other)
  have hNl:List.replicate N.length AObj.other=N:=by rw [← hN];simp
  obtain ⟨n,hn⟩:=nm ((bR b.2 c.bits).1)
  rw [hN,hn] at hR
  rw [hN,hn]
  rw [hn] at he
  have he':¬ (n:Int)=0:=by omega
  obtain ⟨mo,bi,wi,re,pr,ph,pp,pb,mr,q⟩:=c
  simp only at m hR
  subst m
  simp only [Cfg.v] at hC ⊢
  clear h ho hby hn
  rw [dT rfl];simp -implicitDefEqProofs [-ac,-AV.one,-ad,rC,hC,hR,hJ,dR,gV,hNl,he,he']
theorem UN (c:Cfg) (hb:b.2.length≤8192) (hby:bm b.2) (h:c.chk=0) (m:c.mode=2) (hl:b.2.length≠0) (hn0:aj b.2 0 1=0) (H:ae):PRd c b H:=by
 have hC:=fun H=>cW c H
 rw [h] at hC
 replace hC:∀ H,callW P f6 [.agg c.v] H=some (ai 0,H):=hC
 obtain ⟨sc,hsc⟩:=nm (dR)
 have hJ:∀ σ H,jumpW P jl dR 0 ⟨.goto 0,σ,H⟩=(execW P jl dR σ H).bind (jumpW P jl sc 0):=fun σ H=>by rw [jumpW_eq,hsc];rfl
 unfold dR gV at hJ
 have hlen:=cz b
 have hl':0<b.2.length:=by omega
 have hl'':0<(b.2.length:Int):=by omega
 have hl3:(b.2.length:Int) > 0:=by omega
 obtain ⟨b0,hb0⟩:∃ x,b.2[0]?=some x:=⟨_,zq6 (by omega)⟩
 have hb256:=hby b0 (List.mem_of_getElem? hb0)
 have q1:bW 1 none (bv b) (.c (.int .i64 0))=some (.vp [au b0] 0):=pB hb0 .i64
 have a128:=xQ ⟨b0,hb256⟩
 simp only at a128
 have n0:aj b.2 0 1=b0 / 128 % 2:=fA (a:=0) hb0
 rw [if_neg (by omega)] at a128
 obtain ⟨ll,hll⟩:=nm (b.2.length)
 obtain ⟨k,hR⟩:=AC b hb hby c.bits H
 by_cases he:(bI b.2 c.bits).1=0
 ·have e2:bI b.2 c.bits=(0,(bI b.2 c.bits).2.1,(bI b.2 c.bits).2.2):=Prod.ext he rfl
  refine ⟨0,_,k,.st h m hl hn0 _ _ e2,?_⟩
  rw [adj]
  rw [fG,he] at hR
  replace hR:callW P iX [bv b,ai c.bits] H=some (.tup [.agg [ai (bI b.2 c.bits).2.1,lst true 4 none (mvs (bI b.2 c.bits).2.2)],ai 0],H++List.replicate k .other):=hR
  clear e2
  generalize (bI b.2 c.bits).2.1=f1 at *
  generalize (bI b.2 c.bits).2.2=f2 at *
  rw [hll] at hlen hl' hl'' hl3
  obtain ⟨N,hN⟩:=nm (List.replicate k AObj.other)
  have hNl:List.replicate N.length AObj.other=N:=by rw [← hN];simp
  rw [hN] at hR ⊢
  obtain ⟨mo,bi,wi,re,pr,ph,pp,pb,mr,q⟩:=c
  simp only at m hR
  subst m
  simp only [Cfg.v] at hC ⊢
  clear h he hby n0 hn0 hl hll
  rw [dT rfl];simp -implicitDefEqProofs [-ac,-AV.one,-ad,rC,-ci,bS,hlen,hl',hl'',hl3,q1,a128,hC,hR,hNl]
 ·refine ⟨_,_,k,.stE h m hl hn0 he,?_⟩
  rw [jF]
  have h2:(bI b.2 c.bits).2=(0,[]):=by
   rcases wR (bs:=b.2) (w:=c.bits) with e | e
   ·exact (he e).elim
   ·exact e
  rw [fG,h2] at hR
  replace hR:callW P iX [bv b,ai c.bits] H=some (.tup [.agg [ai 0,bc],ai (bI b.2 c.bits).1],H++List.replicate k .other):=hR
  clear h2
  rw [hll] at hlen hl' hl'' hl3
  obtain ⟨N,hN⟩:=nm (List.replicate k AObj.other)
  have hNl:List.replicate N.length AObj.other=N:=by rw [← hN];simp
  obtain ⟨n,hn⟩:=nm ((bI b.2 c.bits).1)
  rw [hN,hn] at hR
  rw [hN,hn]
  rw [hn] at he
  have he':¬ (n:Int)=0:=by omega
  obtain ⟨mo,bi,wi,re,pr,ph,pp,pb,mr,q⟩:=c
  simp only at m hR
  subst m
  simp only [Cfg.v] at hC ⊢
  clear h hby n0 hn0 hl hll hn
  rw [dT rfl];simp -implicitDefEqProofs [-ac,-AV.one,-ad,rC,-ci,bS,hlen,hl',hl'',hl3,q1,a128,hC,hR,hJ,dR,gV,hNl,he,he']
theorem OT (c:Cfg) (hb:b.2.length≤8192) (hby:bm b.2) (h:c.chk=0) (m:c.mode=2) (hn0:b.2.length=0) (H:ae):PRd c b H:=by
 have hC:=fun H=>cW c H
 rw [h] at hC
 replace hC:∀ H,callW P f6 [.agg c.v] H=some (ai 0,H):=hC
 obtain ⟨sc,hsc⟩:=nm (dR)
 have hJ:∀ σ H,jumpW P jl dR 0 ⟨.goto 0,σ,H⟩=(execW P jl dR σ H).bind (jumpW P jl sc 0):=fun σ H=>by rw [jumpW_eq,hsc];rfl
 unfold dR gV at hJ
 have hlen:=cz b
 rw [hn0] at hlen
 obtain ⟨out,k,ho,hR⟩:=Af b (by omega) hby c.bits H
 by_cases he:(bQ b.2 c.bits).1=0
 ·have e2:bQ b.2 c.bits=(0,bb out):=Prod.ext he ho.symm
  refine ⟨0,_,k,.am h m (.inl hn0) out e2,?_⟩
  rw [OP]
  rw [cE,if_pos he,he,dJ] at hR
  replace hR:callW P np [bv b,ai c.bits] H=some (.tup [.agg [ab (dr b.2),ai (hFI b.2:Nat),ai (hSN b.2 c.bits.toNat:Nat),ab (aY b.2),ab (cN b.2 c.bits.toNat),ai (eO b.2 c.bits.toNat:Nat),lst true 1 none (bvs out)],ai 0],H++List.replicate k .other):=hR
  clear e2
  generalize dr b.2=x1 at *
  generalize hFI b.2=x2 at *
  generalize hSN b.2 c.bits.toNat=x3 at *
  generalize aY b.2=x4 at *
  generalize cN b.2 c.bits.toNat=x5 at *
  generalize eO b.2 c.bits.toNat=x6 at *
  obtain ⟨N,hN⟩:=nm (List.replicate k AObj.other)
  have hNl:List.replicate N.length AObj.other=N:=by rw [← hN];simp
  rw [hN] at hR ⊢
  obtain ⟨mo,bi,wi,re,pr,ph,pp,pb,mr,q⟩:=c
  simp only at m hR
  subst m
  simp only [Cfg.v] at hC ⊢
  clear h he ho hby hn0
  rw [dT rfl];simp -implicitDefEqProofs [-ac,-AV.one,-ad,rC,-ci,bS,hlen,hC,hR,hNl]
 ·refine ⟨_,_,k,.amE h m (.inl hn0) he,?_⟩
  rw [jF]
  rw [cE,if_neg he,cA] at hR
  replace hR:callW P np [bv b,ai c.bits] H=some (.tup [.agg [ab false,ai 0,ai 0,ab false,ab false,ai 0,bc],ai (bQ b.2 c.bits).1],H++List.replicate k .other):=hR
  obtain ⟨N,hN⟩:=nm (List.replicate k AObj.other)
  have hNl:List.replicate N.length AObj.other=N:=by rw [← hN];simp
  obtain ⟨n,hn⟩:=nm ((bQ b.2 c.bits).1)
  rw [hN,hn] at hR
  rw [hN,hn]
  rw [hn] at he
  have he':¬ (n:Int)=0:=by omega
  obtain ⟨mo,bi,wi,re,pr,ph,pp,pb,mr,q⟩:=c
  simp only at m hR
  subst m
  simp only [Cfg.v] at hC ⊢
  clear h hby hn ho hn0
  rw [dT rfl];simp -implicitDefEqProofs [-ac,-AV.one,-ad,rC,-ci,bS,hlen,hC,hR,hJ,dR,gV,hNl,he,he']
theorem OU (c:Cfg) (hb:b.2.length≤8192) (hby:bm b.2) (h:c.chk=0) (m:c.mode=2) (hn0:b.2.length≠0∧aj b.2 0 1≠0) (H:ae):PRd c b H:=by
 have hC:=fun H=>cW c H
 rw [h] at hC
 replace hC:∀ H,callW P f6 [.agg c.v] H=some (ai 0,H):=hC
 obtain ⟨sc,hsc⟩:=nm (dR)
 have hJ:∀ σ H,jumpW P jl dR 0 ⟨.goto 0,σ,H⟩=(execW P jl dR σ H).bind (jumpW P jl sc 0):=fun σ H=>by rw [jumpW_eq,hsc];rfl
 unfold dR gV at hJ
 have hlen:=cz b
 have hl:b.2.length≠0:=hn0.1
 have hl':0<b.2.length:=by omega
 have hl'':0<(b.2.length:Int):=by omega
 have hl3:(b.2.length:Int) > 0:=by omega
 obtain ⟨b0,hb0⟩:∃ x,b.2[0]?=some x:=⟨_,zq6 (by omega)⟩
 have hb256:=hby b0 (List.mem_of_getElem? hb0)
 have q1:bW 1 none (bv b) (.c (.int .i64 0))=some (.vp [au b0] 0):=pB hb0 .i64
 have a128:=xQ ⟨b0,hb256⟩
 simp only at a128
 have n0:aj b.2 0 1=b0 / 128 % 2:=fA (a:=0) hb0
 rw [if_pos (by omega)] at a128
 obtain ⟨ll,hll⟩:=nm (b.2.length)
 obtain ⟨out,k,ho,hR⟩:=Af b (by omega) hby c.bits H
 by_cases he:(bQ b.2 c.bits).1=0
 ·have e2:bQ b.2 c.bits=(0,bb out):=Prod.ext he ho.symm
  refine ⟨0,_,k,.am h m (.inr hn0.2) out e2,?_⟩
  rw [OP]
  rw [cE,if_pos he,he,dJ] at hR
  replace hR:callW P np [bv b,ai c.bits] H=some (.tup [.agg [ab (dr b.2),ai (hFI b.2:Nat),ai (hSN b.2 c.bits.toNat:Nat),ab (aY b.2),ab (cN b.2 c.bits.toNat),ai (eO b.2 c.bits.toNat:Nat),lst true 1 none (bvs out)],ai 0],H++List.replicate k .other):=hR
  clear e2
  generalize dr b.2=x1 at *
  generalize hFI b.2=x2 at *
  generalize hSN b.2 c.bits.toNat=x3 at *
  generalize aY b.2=x4 at *
  generalize cN b.2 c.bits.toNat=x5 at *
  generalize eO b.2 c.bits.toNat=x6 at *
  rw [hll] at hlen hl' hl'' hl3
  obtain ⟨N,hN⟩:=nm (List.replicate k AObj.other)
  have hNl:List.replicate N.length AObj.other=N:=by rw [← hN];simp
  rw [hN] at hR ⊢
  obtain ⟨mo,bi,wi,re,pr,ph,pp,pb,mr,q⟩:=c
  simp only at m hR
  subst m
  simp only [Cfg.v] at hC ⊢
  clear h he ho hby n0 hl hll hn0
  rw [dT rfl];simp -implicitDefEqProofs [-ac,-AV.one,-ad,rC,-ci,bS,hlen,hl',hl'',hl3,q1,a128,hC,hR,hNl]
 ·refine ⟨_,_,k,.amE h m (.inr hn0.2) he,?_⟩
  rw [jF]
  rw [cE,if_neg he,cA] at hR
  replace hR:callW P np [bv b,ai c.bits] H=some (.tup [.agg [ab false,ai 0,ai 0,ab false,ab false,ai 0,bc],ai (bQ b.2 c.bits).1],H++List.replicate k .other):=hR
  rw [hll] at hlen hl' hl'' hl3
  obtain ⟨N,hN⟩:=nm (List.replicate k AObj.other)
  have hNl:List.replicate N.length AObj.other=N:=by rw [← hN];simp
  obtain ⟨n,hn⟩:=nm ((bQ b.2 c.bits).1)
  rw [hN,hn] at hR
  rw [hN,hn]
  rw [hn] at he
  have he':¬ (n:Int)=0:=by omega
  obtain ⟨mo,bi,wi,re,pr,ph,pp,pb,mr,q⟩:=c
  simp only at m hR
  subst m
  simp only [Cfg.v] at hC ⊢
  clear h hby hn ho n0 hl hll hn0
  rw [dT rfl];simp -implicitDefEqProofs [-ac,-AV.one,-ad,rC,-ci,bS,hlen,hl',hl'',hl3,q1,a128,hC,hR,hJ,dR,gV,hNl,he,he']
end
theorem uD (c:Cfg) (b:Bs) (hb:b.2.length≤8192) (hby:bm b.2) (H:ae):∃ (e:Nat) (x:Un) (k:Nat),ga c b e x∧callW P jl [.agg c.v,bv b] H=some (.tup [.agg x.v,ai e],H++List.replicate k .other):=by
 by_cases h:c.chk=0
 case neg=>exact OQ c h H
 rcases pN h with m | m | m
 ·exact OS c hb h m H
 ·exact UM c hb hby h m H
 ·by_cases hl:b.2.length=0
  ·exact OT c hb hby h m hl H
  by_cases hn:aj b.2 0 1=0
  ·exact UN c hb hby h m hl hn H
  ·exact OU c hb hby h m ⟨hl,hn⟩ H
theorem UQ {c:Cfg} (h:c.chk=0) (m:c.mode=1):c.bits=5∨c.bits=10:=by
 unfold Cfg.chk at h
 rw [if_pos (.inr (.inl m)),if_neg (show ¬ c.mode=0 by omega),if_pos m] at h
 by_cases hw:c.bits=5∨c.bits=10
 ·exact hw
 ·rw [Cfg.um,decide_eq_false hw] at h;simp at h
theorem yi {c:Cfg} (h:c.chk=0) (m:c.mode=2):c.bits=10∨c.bits=16:=by
 unfold Cfg.chk at h
 rw [if_pos (.inr (.inr m)),if_neg (show ¬ c.mode=0 by omega),if_neg (show ¬ c.mode=1 by omega)] at h
 by_cases hw:c.bits=10∨c.bits=16
 ·exact hw
 ·rw [Cfg.am,decide_eq_false hw] at h;simp at h
inductive WriteP (c:Cfg) (u:Un):Nat→List Nat→Prop where
 | bad (h:c.chk≠0):WriteP c u c.chk []
 | rawE (h:c.chk=0) (m:c.mode=0) (k:u.kind=0) (l:u.raw.2.length=0∨1000<u.raw.2.length):WriteP c u 3 []
 | raw (h:c.chk=0) (m:c.mode=0) (k:u.kind=0) (l:u.raw.2.length≠0) (l2:u.raw.2.length≤1000):WriteP c u 0 u.raw.2
 | umE (h:c.chk=0) (m:c.mode=1) (k:u.kind=1) (e:dZ u.um c.bits=0):WriteP c u 3 []
 | um (h:c.chk=0) (m:c.mode=1) (k:u.kind=1) (e:dZ u.um c.bits≠0) (out:List Nat) (w:WrU u.um c.bits.toNat out):WriteP c u 0 out
 | amE (h:c.chk=0) (m:c.mode=2) (k:u.kind=2) (e:cO u.am c.bits=0):WriteP c u 3 []
 | am (h:c.chk=0) (m:c.mode=2) (k:u.kind=2) (e:cO u.am c.bits≠0) (out:List Nat) (w:WrB u.am c.bits.toNat out):WriteP c u 0 out
 | stE (h:c.chk=0) (m:c.mode=2) (k:u.kind=3) (e:jn u.st c.bits.toNat=false):WriteP c u 3 []
 | st (h:c.chk=0) (m:c.mode=2) (k:u.kind=3) (e:jn u.st c.bits.toNat=true) (out:List Nat) (w:PackR (cP u.st c.bits.toNat) out):WriteP c u 0 out
 | state (h:c.chk=0) (n:¬ (c.mode=0∧u.kind=0)) (n1:¬ (c.mode=1∧u.kind=1)) (n2:¬ (c.mode=2∧(u.kind=2∨u.kind=3))):WriteP c u 7 []
structure Un.sm (u:Un):Prop where
 r:u.raw.2.length≤8192
 uf:u.um.ff.length≤1000
 us:∀ f∈u.um.ff,f.2.length≤8192
 af:u.am.ff.length≤1000
 as:∀ f∈u.am.ff,f.2.length≤8192
 ms:u.st.ms.length≤1000
def PWr (c:Cfg) (u:Un) (H:ae):Prop:=∃ (e:Nat) (z:Bool) (out:List Nat) (k:Nat),WriteP c u e out∧callW P BM [.agg c.v,.agg u.v] H=some (.tup [bv (z,out),ai e],H++List.replicate k .other)
theorem gE:bv (true,[])=bc:=rfl
theorem wS (l:List Nat):bv (false,l)=.vs 1 none (ax l):=by
 rcases bH false 1 none (ax l) with ⟨h,_,_⟩ | ⟨e,_⟩
 ·simp at h
 ·exact e
section
variable {c:Cfg} {u:Un}
theorem O0 (h:c.chk≠0) (H:ae):PWr c u H:=by
 have hC:=fun H=>cW c H
 refine ⟨_,true,_,0,.bad h,?_⟩
 rw [gE]
 obtain ⟨n,hn⟩:=nm (c.chk)
 rw [hn] at hC h ⊢
 have h':¬ (n:Int)=0:=by omega
 obtain ⟨mo,bi,wi,re,pr,ph,pp,pb,mr,q⟩:=c
 obtain ⟨k,r,um,am,st⟩:=u
 simp only [Cfg.v,Un.v] at hC ⊢
 clear hn
 rw [cC rfl];simp -implicitDefEqProofs [-ac,-AV.one,-ad,nQ,hC,h,h']
theorem O1 (h:c.chk=0) (m:c.mode=0) (hk:u.kind=0) (hs:u.sm) (H:ae):PWr c u H:=by
 have hC:=fun H=>cW c H
 rw [h] at hC
 replace hC:∀ H,callW P f6 [.agg c.v] H=some (ai 0,H):=hC
 have hlen:=cz u.raw
 have hc:=fun H=>jf u.raw (by have:=hs.r;omega) H
 by_cases h0:u.raw.2.length=0
 ·refine ⟨_,true,_,0,.rawE h m hk (.inl h0),?_⟩
  rw [gE]
  rw [h0] at hlen
  obtain ⟨mo,bi,wi,re,pr,ph,pp,pb,mr,q⟩:=c
  obtain ⟨k,r,um,am,st⟩:=u
  simp only at m hk
  subst m hk
  simp only [Cfg.v,Un.v] at hC hlen ⊢
  clear hc hs h
  rw [cC rfl];simp -implicitDefEqProofs [-ac,-AV.one,-ad,nQ,hC,hlen]
 have h0':¬ (u.raw.2.length:Int)=0:=by omega
 by_cases h1:1000<u.raw.2.length
 ·have h1':(1000:Int)<u.raw.2.length:=by omega
  have h1'':(u.raw.2.length:Int) > 1000:=by omega
  refine ⟨_,true,_,0,.rawE h m hk (.inr h1),?_⟩
  rw [gE]
  obtain ⟨n,hn⟩:=nm (u.raw.2.length)
  rw [hn] at hlen h0 h0' h1 h1' h1''
  obtain ⟨mo,bi,wi,re,pr,ph,pp,pb,mr,q⟩:=c
  obtain ⟨k,r,um,am,st⟩:=u
  simp only at m hk
  subst m hk
  simp only [Cfg.v,Un.v] at hC hlen ⊢
  clear hc hs h hn
  rw [cC rfl];simp -implicitDefEqProofs [-ac,-AV.one,-ad,nQ,hC,hlen,h0,h0',h1,h1',h1'']
 ·have h1':¬ (1000:Int)<u.raw.2.length:=by omega
  have h1'':¬ (u.raw.2.length:Int) > 1000:=by omega
  refine ⟨0,u.raw.1,_,0,.raw h m hk h0 (by omega),?_⟩
  obtain ⟨n,hn⟩:=nm (u.raw.2.length)
  rw [hn] at hlen h0 h0' h1 h1' h1''
  obtain ⟨mo,bi,wi,re,pr,ph,pp,pb,mr,q⟩:=c
  obtain ⟨k,r,um,am,st⟩:=u
  simp only at m hk
  subst m hk
  have hf:bv r=lst r.1 1 none (ax r.2):=rfl
  simp only [Cfg.v,Un.v] at hC hlen hc ⊢
  rw [show bv (r.1,r.2)=bv r from rfl,hf]
  rw [hf] at hlen hc
  clear hs h hn
  rw [cC rfl];simp -implicitDefEqProofs [-ac,-AV.one,-ad,nQ,hC,hlen,h0,h0',h1,h1',h1'',hc]
theorem Hf (h:c.chk=0) (n:¬ (c.mode=0∧u.kind=0)) (n1:¬ (c.mode=1∧u.kind=1)) (n2:¬ (c.mode=2∧(u.kind=2∨u.kind=3))) (H:ae):PWr c u H:=by
 have hC:=fun H=>cW c H
 rw [h] at hC
 replace hC:∀ H,callW P f6 [.agg c.v] H=some (ai 0,H):=hC
 refine ⟨_,true,_,0,.state h n n1 n2,?_⟩
 rw [gE]
 have m:=pN h
 obtain ⟨mo,bi,wi,re,pr,ph,pp,pb,mr,q⟩:=c
 obtain ⟨k,r,um,am,st⟩:=u
 simp only at n n1 n2 m
 simp only [Cfg.v,Un.v] at hC ⊢
 clear h
 rcases m with rfl | rfl | rfl
 ·have k0:¬ k=0:=fun e=>n ⟨rfl,e⟩
  clear n n1 n2
  rw [cC rfl];simp -implicitDefEqProofs [-ac,-AV.one,-ad,nQ,hC,k0]
 ·have k0:¬ k=1:=fun e=>n1 ⟨rfl,e⟩
  clear n n1 n2
  rw [cC rfl];simp -implicitDefEqProofs [-ac,-AV.one,-ad,nQ,hC,k0]
 ·have k0:¬ k=2:=fun e=>n2 ⟨rfl,.inl e⟩
  have k1:¬ k=3:=fun e=>n2 ⟨rfl,.inr e⟩
  clear n n1 n2
  rw [cC rfl];simp -implicitDefEqProofs [-ac,-AV.one,-ad,nQ,hC,k0,k1]
theorem UR (h:c.chk=0) (m:c.mode=1) (hk:u.kind=1) (hs:u.sm) (H:ae):PWr c u H:=by
 have hC:=fun H=>cW c H
 rw [h] at hC
 replace hC:∀ H,callW P f6 [.agg c.v] H=some (ai 0,H):=hC
 have hw:=UQ h m
 obtain ⟨w1,w2,w3⟩:=GU u.um (fun f hf=>by have:=hs.us f hf;omega) (by have:=hs.uf;omega) c.bits H
 by_cases h0:dZ u.um c.bits=0
 ·replace w2:=w2 hw h0
  refine ⟨_,true,_,0,.umE h m hk h0,?_⟩
  rw [gE]
  clear w1 w3 h0 hw hs
  obtain ⟨mo,bi,wi,re,pr,ph,pp,pb,mr,q⟩:=c
  obtain ⟨k,r,⟨ufi,usn,uz,uff⟩,am,st⟩:=u
  simp only at m hk
  subst m hk
  simp only [Cfg.v,Un.v,Um.v,Um.f] at hC w2 ⊢
  clear h
  rw [cC rfl];simp -implicitDefEqProofs [-ac,-AV.one,-ad,nQ,hC,w2]
 ·obtain ⟨out,k,hW,w3⟩:=w3 h0
  refine ⟨_,false,_,k,.um h m hk h0 out hW,?_⟩
  rw [wS]
  obtain ⟨N,hN⟩:=nm (List.replicate k AObj.other)
  have hNl:List.replicate N.length AObj.other=N:=by rw [← hN];simp
  rw [hN] at w3 ⊢
  generalize ax out=bo at *
  clear w1 w2 h0 hw hs hW hN
  obtain ⟨mo,bi,wi,re,pr,ph,pp,pb,mr,q⟩:=c
  obtain ⟨k,r,⟨ufi,usn,uz,uff⟩,am,st⟩:=u
  simp only at m hk
  subst m hk
  simp only [Cfg.v,Un.v,Um.v,Um.f] at hC w3 ⊢
  clear h
  rw [cC rfl];simp -implicitDefEqProofs [-ac,-AV.one,-ad,nQ,hC,w3,hNl]
theorem US (h:c.chk=0) (m:c.mode=2) (hk:u.kind=2) (hs:u.sm) (H:ae):PWr c u H:=by
 have hC:=fun H=>cW c H
 rw [h] at hC
 replace hC:∀ H,callW P f6 [.agg c.v] H=some (ai 0,H):=hC
 have hw:=yi h m
 obtain ⟨w1,w2,w3⟩:=GC u.am (fun f hf=>by have:=hs.as f hf;omega) (by have:=hs.af;omega) c.bits H
 by_cases h0:cO u.am c.bits=0
 ·replace w2:=w2 hw h0
  refine ⟨_,true,_,0,.amE h m hk h0,?_⟩
  rw [gE]
  clear w1 w3 h0 hw hs
  obtain ⟨mo,bi,wi,re,pr,ph,pp,pb,mr,q⟩:=c
  obtain ⟨k,r,um,⟨po,fi,sn,pa,la,off,z0,ff⟩,st⟩:=u
  simp only at m hk
  subst m hk
  simp only [Cfg.v,Un.v,Pk.v,Pk.f,aZ] at hC w2 ⊢
  clear h
  rw [cC rfl];simp -implicitDefEqProofs [-ac,-AV.one,-ad,nQ,hC,w2]
 ·obtain ⟨out,k,hW,w3⟩:=w3 h0
  refine ⟨_,false,_,k,.am h m hk h0 out hW,?_⟩
  rw [wS]
  obtain ⟨N,hN⟩:=nm (List.replicate k AObj.other)
  have hNl:List.replicate N.length AObj.other=N:=by rw [← hN];simp
  rw [hN] at w3 ⊢
  generalize ax out=bo at *
  clear w1 w2 h0 hw hs hW hN
  obtain ⟨mo,bi,wi,re,pr,ph,pp,pb,mr,q⟩:=c
  obtain ⟨k,r,um,⟨po,fi,sn,pa,la,off,z0,ff⟩,st⟩:=u
  simp only at m hk
  subst m hk
  simp only [Cfg.v,Un.v,Pk.v,Pk.f,aZ] at hC w3 ⊢
  clear h
  rw [cC rfl];simp -implicitDefEqProofs [-ac,-AV.one,-ad,nQ,hC,w3,hNl]
theorem UT (h:c.chk=0) (m:c.mode=2) (hk:u.kind=3) (hs:u.sm) (H:ae):PWr c u H:=by
 have hC:=fun H=>cW c H
 rw [h] at hC
 replace hC:∀ H,callW P f6 [.agg c.v] H=some (ai 0,H):=hC
 have hw:=yi h m
 obtain ⟨w1,w2,w3⟩:=La u.st (by have:=hs.ms;omega) c.bits H
 by_cases h0:jn u.st c.bits.toNat=false
 ·obtain ⟨k,w2⟩:=w2 hw h0
  refine ⟨_,true,_,k,.stE h m hk h0,?_⟩
  rw [gE]
  obtain ⟨N,hN⟩:=nm (List.replicate k AObj.other)
  have hNl:List.replicate N.length AObj.other=N:=by rw [← hN];simp
  rw [hN] at w2 ⊢
  clear w1 w3 h0 hw hs hN
  obtain ⟨mo,bi,wi,re,pr,ph,pp,pb,mr,q⟩:=c
  obtain ⟨k,r,um,am,⟨sa,sz,sm⟩⟩:=u
  simp only at m hk
  subst m hk
  simp only [Cfg.v,Un.v,St.v] at hC w2 ⊢
  clear h
  rw [cC rfl];simp -implicitDefEqProofs [-ac,-AV.one,-ad,nQ,hC,w2,hNl]
 ·have h0t:jn u.st c.bits.toNat=true:=by cases h:jn u.st c.bits.toNat with | true=>rfl | false=>exact (h0 h).elim
  obtain ⟨out,k,hW,w3⟩:=w3 hw h0t
  refine ⟨_,false,_,k,.st h m hk h0t out hW,?_⟩
  rw [wS]
  obtain ⟨N,hN⟩:=nm (List.replicate k AObj.other)
  have hNl:List.replicate N.length AObj.other=N:=by rw [← hN];simp
  rw [hN] at w3 ⊢
  generalize ax out=bo at *
  clear w1 w2 h0 h0t hw hs hW hN
  obtain ⟨mo,bi,wi,re,pr,ph,pp,pb,mr,q⟩:=c
  obtain ⟨k,r,um,am,⟨sa,sz,sm⟩⟩:=u
  simp only at m hk
  subst m hk
  simp only [Cfg.v,Un.v,St.v] at hC w3 ⊢
  clear h
  rw [cC rfl];simp -implicitDefEqProofs [-ac,-AV.one,-ad,nQ,hC,w3,hNl]
end
theorem wT (c:Cfg) (u:Un) (hs:u.sm) (H:ae):PWr c u H:=by
 by_cases h:c.chk=0
 case neg=>exact O0 h H
 by_cases n:c.mode=0∧u.kind=0
 ·exact O1 h n.1 n.2 hs H
 by_cases n1:c.mode=1∧u.kind=1
 ·exact UR h n1.1 n1.2 hs H
 by_cases n2:c.mode=2∧u.kind=2
 ·exact US h n2.1 n2.2 hs H
 by_cases n3:c.mode=2∧u.kind=3
 ·exact UT h n3.1 n3.2 hs H
 exact Hf h n n1 (fun h=>h.2.elim (fun e=>n2 ⟨h.1,e⟩) (fun e=>n3 ⟨h.1,e⟩)) H
def cU:Cfg:=⟨2,10,512,4,8,3,4,500,4,5000⟩
theorem Dm (H:ae):callW P s8 [ai 2] H=some (.agg cU.v,H):=by
 rw [z9 rfl];simp -implicitDefEqProofs [-ac,-AV.one,-ad,Js,cU,Cfg.v]
theorem Dn:cU.chk=0:=by decide
set_option maxRecDepth 100000 in
theorem al_s:bI [0,20] 10=(0,5,[]):=by decide
set_option maxRecDepth 100000 in
theorem aes:bQ [128,5,65] 10=(0,[[65]]):=by decide
set_option maxRecDepth 100000 in
theorem adl:hSN [128,5,65] 10=5:=by decide
theorem aet {z:Bool} {e:Nat} {x:Un} (h:ga cU (z,[0,20]) e x):e=0∧x=⟨3,(true,[]),um0,am0,⟨5,true,[]⟩⟩:=by
 have n0:aj [0,20] 0 1=0:=by decide
 cases h with
 | bad h=>exact (h Dn).elim
 | none _ m=>exact absurd m (by decide)
 | long _ m=>exact absurd m (by decide)
 | raw _ m=>exact absurd m (by decide)
 | umE _ m=>exact absurd m (by decide)
 | um _ m=>exact absurd m (by decide)
 | stE _ _ _ _ e =>
  exact absurd (congrArg Prod.fst al_s) e
 | st _ _ _ _ ack ms e =>
  have:=al_s.symm.trans e
  simp only [zqp] at this
  obtain ⟨_,rfl,rfl⟩:=this
  exact ⟨rfl,rfl⟩
 | amE _ _ n=>exact (n.elim (by simp) (fun h=>h n0)).elim
 | am _ _ n=>exact (n.elim (by simp) (fun h=>h n0)).elim
theorem aeu {z:Bool} {e:Nat} {x:Un} (h:ga cU (z,[128,5,65]) e x):e=0∧x.kind=2∧x.am.sn=5:=by
 have n0:aj [128,5,65] 0 1=1:=by decide
 cases h with
 | bad h=>exact (h Dn).elim
 | none _ m=>exact absurd m (by decide)
 | long _ m=>exact absurd m (by decide)
 | raw _ m=>exact absurd m (by decide)
 | umE _ m=>exact absurd m (by decide)
 | um _ m=>exact absurd m (by decide)
 | stE _ _ _ n=>exact absurd (n0.symm.trans n) (by decide)
 | st _ _ _ n=>exact absurd (n0.symm.trans n) (by decide)
 | amE _ _ _ e=>exact absurd (congrArg Prod.fst aes) e
 | am _ _ _ out e=>exact ⟨rfl,rfl,congrArg (fun n:Nat=>(n:Int)) adl⟩
def uK1:Un:=⟨1,(true,[]),um0,am0,st0⟩
theorem aev {e:Nat} {out:List Nat} (h:WriteP cU uK1 e out):e=7∧out=[]:=by
 cases h with
 | bad h=>exact (h Dn).elim
 | rawE _ m=>exact absurd m (by decide)
 | raw _ m=>exact absurd m (by decide)
 | umE _ m=>exact absurd m (by decide)
 | um _ m=>exact absurd m (by decide)
 | amE _ _ k=>exact absurd k (by decide)
 | am _ _ k=>exact absurd k (by decide)
 | stE _ _ k=>exact absurd k (by decide)
 | st _ _ k=>exact absurd k (by decide)
 | state=>exact ⟨rfl,rfl⟩
set_option maxHeartbeats 1000000 in
theorem Do (H:ae):∃ k,callW P BJ [] H=some (ab true,H++List.replicate k .other):=by
 have u1:=fun H=>Dm H
 obtain ⟨e1,x1,k1,p1,c1⟩:=uD cU (false,[0,20]) (by decide) (show ∀ b∈[0,20],b<256 from by decide) H
 obtain ⟨rfl,rfl⟩:=aet p1
 obtain ⟨G1,hG1⟩:=nm (H++List.replicate k1 AObj.other)
 rw [hG1] at c1
 obtain ⟨e2,x2,k2,p2,c2⟩:=uD cU (false,[128,5,65]) (by decide) (show ∀ b∈[128,5,65],b<256 from by decide) G1
 obtain ⟨rfl,q1,q2⟩:=aeu p2
 rw [← hG1,iM,hG1] at c2
 obtain ⟨G2,hG2⟩:=nm (H++List.replicate (k1+k2) AObj.other)
 rw [hG2] at c2
 obtain ⟨e3,z3,out,k3,p3,c3⟩:=wT cU uK1 ⟨by decide,by decide,by decide,by decide,by decide,by decide⟩ G2
 obtain ⟨rfl,rfl⟩:=aev p3
 rw [← hG2,iM,hG2] at c3
 obtain ⟨G3,hG3⟩:=nm (H++List.replicate (k1+k2+k3) AObj.other)
 rw [hG3] at c3
 have d1:=fun H=>cW ⟨0,0,0,0,0,0,0,0,0,0⟩ H
 have d2:=fun H=>cW ⟨3,0,0,0,0,0,0,0,0,0⟩ H
 have v1:(Cfg.chk ⟨0,0,0,0,0,0,0,0,0,0⟩)=1:=by decide
 have v2:(Cfg.chk ⟨3,0,0,0,0,0,0,0,0,0⟩)=9:=by decide
 rw [v1] at d1
 rw [v2] at d2
 obtain ⟨kk,r,um,⟨po,fi,sn,pa,la,off,z0,ff⟩,st⟩:=x2
 simp only at q1 q2
 subst q1 q2
 replace u1:∀ H,callW P s8 [ai 2] H=some (.agg [ai 2,ai 10,ai 512,ai 4,ai 8,ai 3,ai 4,ai 500,ai 4,ai 5000],H):=u1
 replace c1:callW P jl [.agg [ai 2,ai 10,ai 512,ai 4,ai 8,ai 3,ai 4,ai 500,ai 4,ai 5000],.vs 1 none [[.c (.int .u8 0)],[.c (.int .u8 20)]]] H=some (.tup [.agg [ai 3,bc,ai 0,ai 0,bc,ab false,ai 0,ai 0,ab false,ab false,ai 0,bc,ai 5,bc],ai 0],G1):=c1
 simp only [Un.v] at c2
 replace c2:callW P jl [.agg [ai 2,ai 10,ai 512,ai 4,ai 8,ai 3,ai 4,ai 500,ai 4,ai 5000],.vs 1 none [[.c (.int .u8 128)],[.c (.int .u8 5)],[.c (.int .u8 65)]]] G1=some (.tup [.agg [ai 2,bv r,ai um.fi,ai um.sn,lst um.z 1 none (bvs um.ff),ab po,ai fi,ai 5,ab pa,ab la,ai off,lst z0 1 none (bvs ff),ai st.ack,lst st.z 4 none (mvs st.ms)],ai 0],G2):=c2
 replace c3:callW P BM [.agg [ai 2,ai 10,ai 512,ai 4,ai 8,ai 3,ai 4,ai 500,ai 4,ai 5000],.agg [ai 1,bc,ai 0,ai 0,bc,ab false,ai 0,ai 0,ab false,ab false,ai 0,bc,ai 0,bc]] G2=some (.tup [bv (z3,[]),ai 7],G3):=c3
 replace d1:∀ H,callW P f6 [.agg [ai 0,ai 0,ai 0,ai 0,ai 0,ai 0,ai 0,ai 0,ai 0,ai 0]] H=some (ai 1,H):=d1
 replace d2:∀ H,callW P f6 [.agg [ai 3,ai 0,ai 0,ai 0,ai 0,ai 0,ai 0,ai 0,ai 0,ai 0]] H=some (ai 9,H):=d2
 refine ⟨k1+k2+k3,?_⟩
 clear p1 p2 p3 v1 v2
 rw [Aa rfl];simp -implicitDefEqProofs [-ac,-AV.one,-ad,SM,u1,c1,c2,c3,d1,d2]
 rw [← hG3]
 simp
theorem AI {p:Um} {w:Nat} {a b:List Nat} (ha:WrU p w a) (hb:WrU p w b):a=b:=by
 obtain ⟨a1,a2,x1,x2,rfl⟩:=ha
 obtain ⟨b1,b2,y1,y2,rfl⟩:=hb
 rw [x1.uniq y1,x2.uniq y2]
theorem Hh {p:Um} {w:Nat} {a:List Nat} (ha:WrU p w a) (hf:dg p.ff):bm a:=by
 obtain ⟨a1,a2,x1,x2,rfl⟩:=ha
 intro b hb
 rcases List.mem_append.1 hb with hb | hb
 ·rcases List.mem_append.1 hb with hb | hb
  ·exact x1.byte b hb
  ·exact x2.byte b hb
 ·obtain ⟨f,hf1,hf2⟩:=List.mem_flatten.1 hb
  obtain ⟨c,hc,rfl⟩:=List.mem_map.1 hf1
  exact hf c hc b hf2
theorem PJ {ff:List Bs} (h:1≤ff.length):bb ff≠[]:=fun e=>by
 have:=congrArg List.length e
 rw [br] at this
 simp at this
 rw [this] at h
 simp at h
theorem PK {ff:List Bs} {f:Bs} (hf:f∈ff):f.2.length≤(bb ff).flatten.length:=by
 rw [List.length_flatten]
 exact nX (List.mem_map_of_mem hf)
theorem AJ {p:Um} {w:Int} (h:dZ p w≠0):p.ff.length≤24∧(∀ f∈p.ff,f.2.length≤4000)∧dZ p w≤4000:=by
 obtain ⟨hw,hfi,hsn,hf1,hf24,hsz⟩:=kj h
 obtain ⟨s1,s2,s3,s4⟩:=fQ (bb p.ff) (iz p w.toNat) (by rw [← hsz];exact h)
 have h3:=s3 (PJ hf1)
 exact ⟨hf24,fun f hf=>by have:=PK hf;omega,by omega⟩
theorem AK {p:Pk} {w:Int} (h:cO p w≠0):p.ff.length≤24∧(∀ f∈p.ff,f.2.length≤4000)∧cO p w≤4000:=by
 obtain ⟨hok,hw,hf1,hf24,hsz,hpz⟩:=m4 h
 obtain ⟨s1,s2,s3,s4⟩:=fQ (bb p.ff) (gD p w.toNat) (by rw [← hsz];exact h)
 have h3:=s3 (PJ hf1)
 exact ⟨hf24,fun f hf=>by have:=PK hf;omega,by omega⟩
theorem Lx {ff:List Bs} {pre out:List Nat} (h:out=pre++(bb ff).flatten) (hby:bm out):dg ff:=fun f hf b hb=>hby b (by
 rw [h]
 exact List.mem_append_right _ (List.mem_flatten.2 ⟨f.2,List.mem_map_of_mem hf,hb⟩))
theorem UX:un0.ok:=⟨by simp [un0,bm],by simp [un0,um0],by simp [un0,am0],by simp [un0,st0],by simp [un0,um0,dg],by simp [un0,am0,dg]⟩
theorem Ly:dg um0.ff:=by simp [um0,dg]
theorem Lz:dg am0.ff:=by simp [am0,dg]
theorem LA {c:Cfg} {b:Bs} {e:Nat} {x:Un} (hb:b.2.length≤8192) (hby:bm b.2) (h:ga c b e x) (he:e=0):x.sm∧x.ok∧∀ e2 out,WriteP c x e2 out→e2=0∧out=b.2:=by
 cases h with
 | bad h=>exact (h he).elim
 | none=>simp at he
 | long=>simp at he
 | umE _ _ h=>exact (h he).elim
 | stE _ _ _ _ h=>exact (h he).elim
 | amE _ _ _ h=>exact (h he).elim
 | raw h m l l2 =>
  refine ⟨⟨hb,by simp [um0],by simp [um0],by simp [am0],by simp [am0],by simp [st0]⟩,⟨hby,by simp [um0],by simp [am0],by simp [st0],Ly,Lz⟩,fun e2 out hw=>?_⟩
  cases hw with
  | bad h2=>exact (h2 h).elim
  | rawE _ _ _ l3=>simp only at l3;omega
  | raw=>exact ⟨rfl,rfl⟩
  | umE _ m2=>omega
  | um _ m2=>omega
  | amE _ m2=>omega
  | am _ m2=>omega
  | stE _ m2=>omega
  | st _ m2=>omega
  | state _ n=>exact (n ⟨m,rfl⟩).elim
 | um h m out e =>
  obtain ⟨a1,a2,a3⟩:=C7 (q:=G6 b.2 c.bits.toNat out) hby e ⟨rfl,rfl⟩
  have hne:dZ (G6 b.2 c.bits.toNat out) c.bits≠0:=by omega
  obtain ⟨t1,t2,t3⟩:=AJ hne
  have hbf:dg (G6 b.2 c.bits.toNat out).ff:=by
   obtain ⟨hb1,lb,x1,x2,x3⟩:=a3
   exact Lx x3 hby
  refine ⟨⟨by simp,by simp only;omega,fun f hf=>by have:=t2 f hf;omega,by simp [am0],by simp [am0],by simp [st0]⟩,⟨by simp [bm],by simp only;omega,by simp [am0],by simp [st0],hbf,Lz⟩,fun e2 out2 hw=>?_⟩
  cases hw with
  | bad h2=>exact (h2 h).elim
  | rawE _ m2=>omega
  | raw _ m2=>omega
  | umE _ _ _ z=>exact (hne z).elim
  | um _ _ _ _ o hw=>exact ⟨rfl,AI hw a3⟩
  | amE _ m2=>omega
  | am _ m2=>omega
  | stE _ m2=>omega
  | st _ m2=>omega
  | state _ _ n=>exact (n ⟨m,rfl⟩).elim
 | am h m n out e =>
  obtain ⟨a1,a2,a3⟩:=GH (q:=G7 b.2 c.bits.toNat out) hby e ⟨rfl,rfl,rfl,rfl,rfl,rfl⟩
  have hne:cO (G7 b.2 c.bits.toNat out) c.bits≠0:=by omega
  obtain ⟨t1,t2,t3⟩:=AK hne
  have hbf:dg (G7 b.2 c.bits.toNat out).ff:=by
   obtain ⟨hb1,lb,x1,x2,x3⟩:=a3
   exact Lx x3 hby
  refine ⟨⟨by simp,by simp [um0],by simp [um0],by simp only;omega,fun f hf=>by have:=t2 f hf;omega,by simp [st0]⟩,⟨by simp [bm],by simp [um0],by simp only;omega,by simp [st0],Ly,hbf⟩,fun e2 out2 hw=>?_⟩
  cases hw with
  | bad h2=>exact (h2 h).elim
  | rawE _ m2=>omega
  | raw _ m2=>omega
  | umE _ m2=>omega
  | um _ m2=>omega
  | amE _ _ _ z=>exact (hne z).elim
  | am _ _ _ _ o hw=>exact ⟨rfl,An hw a3⟩
  | stE _ _ k=>simp at k
  | st _ _ k=>simp at k
  | state _ _ _ n=>exact (n ⟨m,.inl rfl⟩).elim
 | st h m l n ack ms e =>
  obtain ⟨a1,a2,a3,a4,a5⟩:=Di hby true e
  have hms:=(pM a4).2.1
  simp only at hms
  refine ⟨⟨by simp,by simp [um0],by simp [um0],by simp [am0],by simp [am0],by simp only;omega⟩,⟨by simp [bm],by simp [um0],by simp [am0],by simp only;omega,Ly,Lz⟩,fun e2 out2 hw=>?_⟩
  cases hw with
  | bad h2=>exact (h2 h).elim
  | rawE _ m2=>omega
  | raw _ m2=>omega
  | umE _ m2=>omega
  | um _ m2=>omega
  | amE _ _ k=>simp at k
  | am _ _ k=>simp at k
  | stE _ _ _ z =>
   simp only at z
   rw [a4] at z;simp at z
  | st _ _ _ _ o hw=>exact ⟨rfl,hw.uniq a5⟩
  | state _ _ _ n=>exact (n ⟨m,.inr rfl⟩).elim
theorem LB {s:St} {w:Nat} (hw:w=10∨w=16) (h:jn s w=true):(cP s w).length≤1700:=by
 have h2:=(pM h).2.1
 have h3:=lc hw s.ms
 simp only [cP,List.length_append,aT,List.length_cons,List.length_nil]
 omega
theorem adm {w:Int} (hw:w=10∨w=16):w.toNat=10∨w.toNat=16:=by omega
theorem LC {c:Cfg} {u:Un} {e:Nat} {out:List Nat} (hok:u.ok) (h:WriteP c u e out):bm out∧out.length≤4000∧(e≠0→out=[]):=by
 cases h with
 | bad | rawE | umE | amE | stE | state=>exact ⟨by simp [bm],by simp,fun _=>rfl⟩
 | raw _ _ _ l l2=>exact ⟨hok.r,by omega,fun h=>(h rfl).elim⟩
 | um _ _ _ e _ w=>exact ⟨Hh w hok.ub,by rw [(C5 e w).2.1];exact (AJ e).2.2,fun h=>(h rfl).elim⟩
 | am _ _ _ e _ w=>exact ⟨GJ w hok.ab,by rw [(GF e w).2.1];exact (AK e).2.2,fun h=>(h rfl).elim⟩
 | st h m _ e _ w =>
  have h1:=LB (adm (yi h m)) e
  have h2:=w.len
  exact ⟨w.byte,by omega,fun h=>(h rfl).elim⟩
end Go.A.V.S
