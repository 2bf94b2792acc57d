/- umd: sizes. -/
import Derived.Test.YtnmobjhmohcjfaaGreatXB
import Derived.Test.YtnmobjhmohcjfaaGreatV14
import Derived.Test.YtnmobjhmohcjfaaGreatXA
import Derived.Test.YtnmobjhmohcjfaaGreatXC
set_option linter.unusedSimpArgs false
set_option linter.unusedVariables false
set_option linter.unnecessarySimpa false
namespace Go.A.V.S
open Go Go.A
structure Um where
 fi:Int
 sn:Int
 z:Bool
 ff:List Bs
def Um.f (p:Um):AV:=lst p.z 1 none (bvs p.ff)
def Um.v (p:Um):List AV:=[ai p.fi,ai p.sn,p.f]
def iK (p:Um) (w:Nat):Nat:=w / 5+bj (p.ff.length - 1) 11
def en (p:Um) (w:Int):Nat:=
 if ¬ (w=5∨w=10) then 0 else if p.fi<0 then 0 else if 3<p.fi then 0 else if ¬ (0≤p.sn∧p.sn<(2 ^ w.toNat:Nat)) then 0
 else if p.ff.length<1 then 0 else if 24<p.ff.length then 0 else dg (iK p w.toNat) (bb p.ff)
theorem gm (w:Int) (H:ae):callW P pf [ai w] H=some (ab (decide (w=5∨w=10)),H):=by
 rw [u6 rfl];simp -implicitDefEqProofs [-ac,-AV.one,-ad,JJ]
 split<;>simp_all
theorem pV (w:Nat) (h:w≤100) (H:ae):callW P qS [ai w] H=some (ai (w / 5:Nat),H):=by
 have e:IntKind.i64.wrap ((w:Int).tdiv 5)=((w / 5:Nat):Int):=by
  rw [Int.tdiv_eq_ediv_of_nonneg (by omega),ag (by omega) (by omega)];omega
 have e2:IntKind.i64.wrap ((w:Int) / 5)=((w / 5:Nat):Int):=by
  rw [ag (by omega) (by omega)];omega
 obtain ⟨d,hd⟩:=nm (w / 5)
 rw [hd] at e e2 ⊢
 rw [CC rfl];simp -implicitDefEqProofs [-ac,-AV.one,-ad,JK,e,e2]
section
variable {H:ae}
def Ps (H:ae) (Q:List AV) (z0:Bool) (ff:List Bs) (n0:Nat) (z:Nat) (σ:List AV) (G:ae):Prop:=
 ∃ (i n:Nat),i+z=ff.length∧n≤4000∧dg n0 (bb ff)=dg n ((bb ff).drop i)∧G=H∧σ=L 63 ((((((Tr.full 7).put (ah 2) (.lbox Q)).put (ah 5) (ai n)).put (ah 27) (lst z0 1 none (bvs ff))).put (ah 28) (ai ff.length)).put (ah 29) (ai i))
def Da (H:ae) (ff:List Bs) (n0:Nat) (e:AExit) (σ:List AV) (G:ae):Prop:=
 G=H∧((e=.exit 0∧kill [2,27,28,29,30] σ=L 63 ((Tr.full 7).put (ah 5) (ai (dg n0 (bb ff):Nat))))∨(e=.ret∧dg n0 (bb ff)=0∧aN F_q109.res σ=some (ai 0)))
theorem Ul {ff:List Bs} {i:Nat} {x:Bs} (hx:ff[i]?=some x):(bb ff).drop i=x.2 :: (bb ff).drop (i+1):=by
 have h2:=gU hx
 have hi2:i<(bb ff).length:=(List.getElem?_eq_some_iff.1 h2).1
 rw [List.drop_eq_getElem_cons hi2]
 rw [zq6 hi2] at h2
 rw [zq1 h2]
set_option maxHeartbeats 1000000 in
theorem Uo {z0:Bool} {ff:List Bs} (fi sn:Int) (hl:ff.length≤24) (hs:∀ f∈ff,f.2.length≤100000) (n0:Nat) (z:Nat) (σ:List AV) (G:ae) (hI:Ps H [ai fi,ai sn,lst z0 1 none (bvs ff)] z0 ff n0 z (kill (bK fD) σ) G) :
  Ends (execW P mu (.loop fD) σ G) fun s=>Da H ff n0 s.e s.σ s.H:=by
 refine bq (fun z σ G=>Ps H [ai fi,ai sn,lst z0 1 none (bvs ff)] z0 ff n0 z σ G) (Da H ff n0) ?_ z σ G hI
 clear hI z σ G
 rintro z σ G ⟨i,n,hz,hn4,hsum,rfl,rfl⟩
 have hla:(bvs ff).length=ff.length:=bN ff
 by_cases hi:i<ff.length
 ·obtain ⟨x,hx⟩:∃ x,ff[i]?=some x:=⟨_,zq6 hi⟩
  have hxs:=hs x (List.mem_of_getElem? hx)
  have q1:=hU hx z0 none .i64
  rw [Ul hx,dg,List.length_drop,bJ] at hsum
  have hxl:=cL x
  obtain ⟨xl,hxl'⟩:=nm (x.2.length)
  rw [hxl'] at hxl hsum hxs
  by_cases c1:xl=0
  ·rw [if_pos c1] at hsum
   simp -implicitDefEqProofs (disch:=first | omega | (simp;done) | fail) [-ac,-AV.one,-ad,gK,aw,ax,ay,az,aA,aB,aC,aD,aE,aF,aG,ag,aj,ar,fD,hla,q1,hxl]
   exact ⟨rfl,.inr ⟨rfl,hsum,by simp [F_q109]⟩⟩
  rw [if_neg c1] at hsum
  by_cases c2:2047<xl∧i+1<ff.length
  ·rw [if_pos ⟨c2.1,by omega⟩] at hsum
   simp -implicitDefEqProofs (disch:=first | omega | (simp;done) | fail) [-ac,-AV.one,-ad,gK,aw,ax,ay,az,aA,aB,aC,aD,aE,aF,aG,ag,aj,ar,fD,hla,q1,hxl]
   exact ⟨rfl,.inr ⟨rfl,hsum,by simp [F_q109]⟩⟩
  rw [if_neg (by omega)] at hsum
  by_cases c5:2047<xl
  ·by_cases c4:4000<n+xl
   ·rw [if_pos (by omega)] at hsum
    simp -implicitDefEqProofs (disch:=first | omega | (simp;done) | fail) [-ac,-AV.one,-ad,gK,aw,ax,ay,az,aA,aB,aC,aD,aE,aF,aG,ag,aj,ar,fD,hla,q1,hxl]
    exact ⟨rfl,.inr ⟨rfl,hsum,by simp [F_q109]⟩⟩
   ·rw [if_neg (by omega)] at hsum
    simp -implicitDefEqProofs (disch:=first | omega | (simp;done) | fail) [-ac,-AV.one,-ad,gK,aw,ax,ay,az,aA,aB,aC,aD,aE,aF,aG,ag,aj,ar,fD,hla,q1,hxl]
    exact ⟨z - 1,by omega,i+1,n+xl,by omega,by omega,hsum,rfl,by simp⟩
  ·by_cases c4:4000<n+xl
   ·rw [if_pos (by omega)] at hsum
    simp -implicitDefEqProofs (disch:=first | omega | (simp;done) | fail) [-ac,-AV.one,-ad,gK,aw,ax,ay,az,aA,aB,aC,aD,aE,aF,aG,ag,aj,ar,fD,hla,q1,hxl]
    exact ⟨rfl,.inr ⟨rfl,hsum,by simp [F_q109]⟩⟩
   ·rw [if_neg (by omega)] at hsum
    simp -implicitDefEqProofs (disch:=first | omega | (simp;done) | fail) [-ac,-AV.one,-ad,gK,aw,ax,ay,az,aA,aB,aC,aD,aE,aF,aG,ag,aj,ar,fD,hla,q1,hxl]
    exact ⟨z - 1,by omega,i+1,n+xl,by omega,by omega,hsum,rfl,by simp⟩
 ·have hnil:(bb ff).drop i=[]:=List.drop_eq_nil_of_le (by rw [bJ];omega)
  rw [hnil,dg] at hsum
  rw [← hsum]
  simp -implicitDefEqProofs (disch:=first | omega | (simp;done) | fail) [-ac,-AV.one,-ad,gK,aw,ax,ay,az,aA,aB,aC,aD,aE,aF,aG,ag,aj,ar,fD,hla]
  exact ⟨rfl,.inl ⟨rfl,by simp⟩⟩
end
theorem La (p:Um) (hs:∀ f∈p.ff,f.2.length≤100000) (hfl:p.ff.length≤100000) {w:Nat} (hw:w≤100) (H:ae) :
  callW P mu [.agg p.v,ai w] H=some (ai (if p.ff.length<1∨24<p.ff.length then 0 else dg (iK p w) (bb p.ff):Nat),H):=by
 obtain ⟨fi,sn,z0,ff⟩:=p
 simp only at hs hfl
 have hla:(bvs ff).length=ff.length:=bN ff
 have hh:=fun H=>pV w hw H
 by_cases h1:ff.length<1∨24<ff.length
 ·rw [if_pos h1]
  rcases h1 with h1 | h1
  ·rw [t8 rfl];simp -implicitDefEqProofs (disch:=first | omega | (simp;done) | fail) [-ac,-AV.one,-ad,gK,aw,ax,ay,az,aA,aB,aC,aD,aE,aF,aG,ag,aj,ar,Um.v,Um.f,hla]
  ·rw [t8 rfl];simp -implicitDefEqProofs (disch:=first | omega | (simp;done) | fail) [-ac,-AV.one,-ad,gK,aw,ax,ay,az,aA,aB,aC,aD,aE,aF,aG,ag,aj,ar,Um.v,Um.f,hla]
 rw [if_neg h1,iK]
 have hL:=fun H=>nh (ff.length - 1) 11 (.inl rfl) (by omega) H
 have hll:=ur (n:=ff.length - 1) (w:=11) (.inl rfl) (by omega)
 obtain ⟨k,hk⟩:=nm (ff.length - 1)
 have wk:IntKind.i64.wrap ((ff.length:Int) - 1)=(k:Int):=by rw [ag (by omega) (by omega)];omega
 simp only
 rw [hk] at hL hll ⊢
 replace hL:∀ H,callW P nJ [ai k,ai 11] H=some (ai (bj k 11:Nat),H):=hL
 obtain ⟨hd,hhd⟩:=nm (w / 5)
 rw [hhd] at hh ⊢
 obtain ⟨ls,hls⟩:=nm (bj k 11)
 rw [hls] at hL hll ⊢
 have wn:IntKind.i64.wrap ((hd:Int)+ls)=((hd+ls:Nat):Int):=by rw [ag (by omega) (by omega)];omega
 obtain ⟨n0,hn0⟩:=nm (hd+ls)
 rw [hn0] at wn ⊢
 rw [cT]
 have hF:=Uo (H:=H) (z0:=z0) (ff:=ff) fi sn (by omega) hs n0 ff.length
 refine call_post 7 63 rfl (rfl:P.T mu=some F_q109) rfl (aS rfl) (fun e σ G=>e=.ret∧G=H∧aN F_q109.res σ=some (ai (dg n0 (bb ff):Nat))) ?_ ?_
 ·rintro e σ G ⟨rfl,rfl,h⟩
  exact ⟨rfl,_,h,rfl,by simp⟩
 have g1:¬ (ff.length:Int)<1:=by omega
 have g1':¬ ff.length<1:=by omega
 have g2:¬ (ff.length:Int) > 24:=by omega
 have g2':¬ (24:Int)<ff.length:=by omega
 have g2'':¬ 24<ff.length:=by omega
 have g3:¬ ff=[]:=fun e=>by subst e;simp at g1'
 rw [F_q109];simp -implicitDefEqProofs [-ac,-AV.one,-ad,gK,Um.v,Um.f,hla,g1,g1',g2,g2',g2'',g3,hh,wk,hL,wn,aX,-cK,aO,bd,aP,aZ,SOpG.reads,SOp.slots,SX.slots,SOp.noL,bI,aI,aW,aR,eqV]
 repeat rw [Option.bind_assoc]
 refine Ends.block (P:=Da H ff n0) (hF _ _ ⟨0,n0,by omega,by omega,by simp,rfl,by simp [fD]⟩) ?_
 rintro e σ1 G1 ⟨rfl,⟨rfl,c⟩ | ⟨rfl,c1,c2⟩⟩
 ·generalize dg n0 (bb ff)=s at *
  simp -implicitDefEqProofs (disch:=first | omega | (simp;done) | fail) [-ac,-AV.one,-ad,gK,aw,ax,ay,az,aA,aB,aC,aD,aE,aF,aG,ag,aj,ar,c]
 ·simp [F_q109] at c2
  rw [c1]
  simp -implicitDefEqProofs (disch:=first | omega | (simp;done) | fail) [-ac,-AV.one,-ad,gK,aw,ax,ay,az,aA,aB,aC,aD,aE,aF,aG,ag,aj,ar,c2]
theorem G9 (H:ae):callW P jf [.agg [ai 5]] H=some (ab true,H):=by
 rw [jj rfl];simp -implicitDefEqProofs [-ac,-AV.one,-ad,tP,me,fJ]
theorem Lb (H:ae):callW P kQ [.agg [ai 5]] H=some (ai 32,H):=by
 have h:=fun H=>G9 H
 rw [fP rfl];simp -implicitDefEqProofs [-ac,-AV.one,-ad,tN,h]
 try rfl
theorem Uq {w:Nat} (hw:w=5∨w=10) (n:Int) (H:ae):callW P lE [.agg [ai w],ai n] H=some (ab (decide (0≤n∧n<(2 ^ w:Nat))),H):=by
 rcases hw with rfl | rfl
 ·have h79:=fun H=>Lb H
  show callW P lE [.agg [ai 5],ai n] H=some (ab (decide (0≤n∧n<32)),H)
  by_cases h0:n ≥ 0
  ·have h0':0≤n:=h0
   rw [fq rfl];simp -implicitDefEqProofs [-ac,-AV.one,-ad,wG,h79,h0,h0']
  ·have h0':¬ 0≤n:=h0
   rw [fq rfl];simp -implicitDefEqProofs [-ac,-AV.one,-ad,wG,h79,h0,h0']
 ·exact At (.inl rfl) n H
theorem Lc (p:Um) (hs:∀ f∈p.ff,f.2.length≤100000) (hfl:p.ff.length≤100000) (w:Int) (H:ae) :
  callW P ww [.agg p.v,ai w] H=some (ai (en p w:Nat),H):=by
 have hW:=fun H=>gm w H
 by_cases hw:w=5∨w=10
 ·obtain ⟨wn,rfl,hwn⟩:∃ wn:Nat,w=wn∧(wn=5∨wn=10):=by
   rcases hw with rfl | rfl
   ·exact ⟨5,rfl,.inl rfl⟩
   ·exact ⟨10,rfl,.inr rfl⟩
  rw [decide_eq_true hw] at hW
  have htn:((wn:Nat):Int).toNat=wn:=by simp
  have hI:=fun H=>Uq hwn p.sn H
  have hS:=fun H=>La p hs hfl (w:=wn) (by omega) H
  rw [en,if_neg (not_not_intro hw),htn]
  have e:(if p.ff.length<1 then 0 else if 24<p.ff.length then 0 else dg (iK p wn) (bb p.ff))=(if p.ff.length<1∨24<p.ff.length then 0 else dg (iK p wn) (bb p.ff)):=by
   by_cases a1:p.ff.length<1
   ·rw [if_pos a1,if_pos (.inl a1)]
   ·by_cases a2:24<p.ff.length
    ·rw [if_neg a1,if_pos a2,if_pos (.inr a2)]
    ·rw [if_neg a1,if_neg a2,if_neg (by omega)]
  rw [e]
  obtain ⟨n,hn⟩:=nm ((if p.ff.length<1∨24<p.ff.length then 0 else dg (iK p wn) (bb p.ff)))
  rw [hn] at hS ⊢
  obtain ⟨fi,sn,z0,ff⟩:=p
  simp only at hI
  simp only [Um.v,Um.f] at hS
  clear hn e hs hfl
  by_cases c1:fi<0
  ·rw [if_pos c1]
   rw [jk rfl];simp -implicitDefEqProofs (disch:=first | omega | (simp;done) | fail) [-ac,-AV.one,-ad,tL,aw,ax,ay,az,aA,aB,aC,aD,aE,aF,aG,ag,aj,ar,Um.v,Um.f,hW]
  rw [if_neg c1]
  by_cases c2:3<fi
  ·rw [if_pos c2]
   rw [jk rfl];simp -implicitDefEqProofs (disch:=first | omega | (simp;done) | fail) [-ac,-AV.one,-ad,tL,aw,ax,ay,az,aA,aB,aC,aD,aE,aF,aG,ag,aj,ar,Um.v,Um.f,hW]
  rw [if_neg c2]
  simp only
  by_cases c3:0≤sn∧sn<(2 ^ wn:Nat)
  ·rw [decide_eq_true c3] at hI
   rw [if_neg (not_not_intro c3)]
   clear c3
   rw [jk rfl];simp -implicitDefEqProofs (disch:=first | omega | (simp;done) | fail) [-ac,-AV.one,-ad,tL,aw,ax,ay,az,aA,aB,aC,aD,aE,aF,aG,ag,aj,ar,Um.v,Um.f,hW,hI,hS]
  ·rw [decide_eq_false c3] at hI
   rw [if_pos c3]
   clear c3
   rw [jk rfl];simp -implicitDefEqProofs (disch:=first | omega | (simp;done) | fail) [-ac,-AV.one,-ad,tL,aw,ax,ay,az,aA,aB,aC,aD,aE,aF,aG,ag,aj,ar,Um.v,Um.f,hW,hI]
 ·rw [decide_eq_false hw] at hW
  rw [en,if_pos hw]
  obtain ⟨fi,sn,z0,ff⟩:=p
  clear hs hfl
  rw [jk rfl];simp -implicitDefEqProofs (disch:=first | omega | (simp;done) | fail) [-ac,-AV.one,-ad,tL,aw,ax,ay,az,aA,aB,aC,aD,aE,aF,aG,ag,aj,ar,Um.v,Um.f,hW]
theorem wV (p:Um) (hs:∀ f∈p.ff,f.2.length≤100000) (hfl:p.ff.length≤100000) (w:Int) (H:ae) :
  callW P tD [.agg p.v,ai w] H=some (ab (decide (0<en p w)),H):=by
 have h:=fun H=>Lc p hs hfl w H
 obtain ⟨n,hn⟩:=nm (en p w)
 rw [hn] at h ⊢
 obtain ⟨fi,sn,z0,ff⟩:=p
 simp only [Um.v,Um.f] at h
 clear hs hfl hn
 by_cases h0:0<n
 ·rw [ru rfl];simp -implicitDefEqProofs (disch:=first | omega | (simp;done) | fail) [-ac,-AV.one,-ad,Ea,aw,ax,ay,az,aA,aB,aC,aD,aE,aF,aG,ag,aj,ar,Um.v,Um.f,h]
 ·rw [ru rfl];simp -implicitDefEqProofs (disch:=first | omega | (simp;done) | fail) [-ac,-AV.one,-ad,Ea,aw,ax,ay,az,aA,aB,aC,aD,aE,aF,aG,ag,aj,ar,Um.v,Um.f,h]
def Pt (H:ae) (zl:Bool) (l:List Nat) (bs:List Nat) (z:Nat) (σ:List AV) (G:ae):Prop:=
 ∃ (i:Nat) (b:Bs) (out:List Bs),i+z=l.length∧out.length=i∧b.2.length≤10000∧fh bs l=(fh b.2 (l.drop i)).map (fun r=>out.map (·.2)++r)∧G=H ∧
  σ=L 49 (((((Tr.full 6).put (ah 0) (bv b)).put (ah 1) (lst zl 1 none (nvs l))).put (ah 6) (lst true 1 (some 32) (bvs out))).put (ah 7) (ai i))
def Db (H:ae) (l:List Nat) (bs:List Nat) (e:AExit) (σ:List AV) (G:ae):Prop:=
 e=.ret∧G=H∧∃ out:List Bs,out.map (·.2)=(bn bs l).2∧aN F_q44.res σ=some (.tup [lst true 1 (some 48) (bvs out),ai ((bn bs l).1:Nat)])
theorem ym {H:ae} {zl:Bool} {l bs:List Nat} (hll:l.length≤23) (hsm:∀ n∈l,n≤2047) (hnov:(l.any fun n=>decide (2047<n))=false) (z:Nat) (σ:List AV) (G:ae) (hI:Pt H zl l bs z (kill (bK gF) σ) G) :
  Ends ((execW P nG gF σ G).bind (jumpW P nG D6 0)) fun s=>Db H l bs s.e s.σ s.H:=by
 refine g9 (Pt H zl l bs) (Db H l bs) rfl ?_ z σ G hI
 clear hI z σ G
 rintro z σ G ⟨i,b,out,hz,ho,hb,hcut,rfl,hσ⟩
 rw [← dp,hσ]
 have hlen:(nvs l).length=l.length:=dC l
 have hR:bn bs l=match fh bs l with
  | none=>(8,[])
  | some ff=>(0,ff):=by rw [bn,hnov];rfl
 by_cases hi:i<l.length
 ·have hi':(i:Int)<l.length:=by omega
  obtain ⟨n,hn⟩:∃ n,l[i]?=some n:=⟨_,zq6 hi⟩
  have hn2:=hsm n (List.mem_of_getElem? hn)
  have q1:=qC hn zl none .i64
  have hdr:l.drop i=n :: l.drop (i+1):=by
   rw [List.drop_eq_getElem_cons hi]
   rw [zq6 hi] at hn
   rw [zq1 hn]
  rw [hdr,fh] at hcut
  by_cases hc:b.2.length<n
  ·have hc':(n:Int) > b.2.length:=by omega
   have hc'':(b.2.length:Int)<n:=by omega
   rw [if_pos hc,Option.map_none] at hcut
   rw [hcut] at hR
   simp -implicitDefEqProofs [-ac,-AV.one,-ad,wB,gF,hlen,hi,hi',q1,hc,hc',hc'']
   exact ⟨rfl,rfl,[],by rw [hR];rfl,by rw [hR];simp [F_q44,bvs]⟩
  ·have hc':¬ (n:Int) > b.2.length:=by omega
   have hc'':¬ (b.2.length:Int)<n:=by omega
   rw [if_neg hc] at hcut
   have c1:=fun d=>CP (b:=b) (j:=n) (by omega) .i64 .i64 d
   have c3:=fun d=>fu (b:=b) (i:=n) (by omega) .i64 d
   have e1:=jO b n
   have e2:=cZ b n
   obtain ⟨x,hx⟩:=nm (dP b 0 n)
   obtain ⟨y,hy⟩:=nm (dP b n b.2.length)
   rw [hx] at c1 e1
   rw [hy] at c3 e2
   have c2:=fun H=>jq x (by rw [e1];simp;omega) H
   have hap:=fun σ H=>u9 (m:=P.md nG) (d:=32) (bytes:=24) (v:=bv x) (J5 32) (by omega) (by rw [bN];omega) (l:=bvs out) (some 31) σ H
   rw [← jr] at hap
   have w6:IntKind.i64.wrap ((i:Int)+1)=((i+1:Nat):Int):=by rw [ag (by omega) (by omega)];omega
   obtain ⟨i1,hi1⟩:=nm (i+1)
   rw [hi1] at w6 hcut
   simp -implicitDefEqProofs [-ac,-AV.one,-ad,wB,gF,hlen,hi,hi',q1,hc,hc',hc'',c1,bvf,c2,hap,c3,w6]
   refine ⟨z - 1,by omega,i1,y,out++[x],by omega,by simp;omega,by rw [e2];simp;omega,?_,rfl,by simp⟩
   rw [hcut,e2]
   cases fh (b.2.drop n) (l.drop i1) with
   | none=>rfl
   | some r=>simp [e1]
 ·have hi':¬ (i:Int)<l.length:=by omega
  have hd:l.drop i=[]:=List.drop_eq_nil_of_le (by omega)
  rw [hd,fh] at hcut
  by_cases h0:b.2.length=0
  ·have h0':(b.2.length:Int)=0:=by omega
   have h0'':b.2=[]:=zq8 h0
   rw [if_pos h0,Option.map_none] at hcut
   rw [hcut] at hR
   simp -implicitDefEqProofs [-ac,-AV.one,-ad,wB,gF,hlen,hi,hi',h0,h0',h0'']
   exact ⟨rfl,rfl,[],by rw [hR];rfl,by rw [hR];simp [F_q44,bvs]⟩
  ·have h0':¬ (b.2.length:Int)=0:=by omega
   have h0'':¬ b.2=[]:=fun h=>h0 (by rw [h];rfl)
   rw [if_neg h0] at hcut
   rw [hcut] at hR
   have c2:=fun H=>jq b (by omega) H
   have hg:((out.length+1) * 24:Nat)≤100000:=by omega
   obtain ⟨cs,hap⟩:=xJ (m:=P.md nG) (d:=48) (sz:=1) (bytes:=24) (c:=32) (l:=bvs out) (l':=[[bv b]]) (x:=.vs 1 (some 47) [[bv b]]) (J5 48) (fun H=>dh H 1 (some 47) [[bv b]]) (.inr (by simp)) (by simp [bN,aJ];omega) (by simp [bN,aJ];omega)
   rw [← jr] at hap
   simp -implicitDefEqProofs [-ac,-AV.one,-ad,wB,gF,hlen,hi,hi',h0,h0',h0'',c2,bvf,hap]
   refine ⟨rfl,rfl,out++[b],by rw [hR];simp,?_⟩
   have hne:bvs (out++[b])≠[]:=by simp [bvs]
   rw [hR]
   simp [F_q44,jb hne]
theorem lu {zl:Bool} {l:List Nat} (b:Bs) (hb:b.2.length≤10000) (hll:l.length≤23) (hsm:∀ n∈l,n≤2047) (H:ae):∃ out:List Bs,out.map (·.2)=(bn b.2 l).2∧callW P nG [bv b,lst zl 1 none (nvs l)] H=some (.tup [lst true 1 none (bvs out),ai ((bn b.2 l).1:Nat)],H):=by
 have hany:(l.any fun n=>decide (2047<n))=false:=by
  refine List.any_eq_false.2 fun n hn=>?_
  have:=hsm n hn
  simp;omega
 have key:Ends (callW P nG [bv b,lst zl 1 none (nvs l)] H) fun y=>∃ out:List Bs,out.map (·.2)=(bn b.2 l).2∧y=(.tup [lst true 1 none (bvs out),ai ((bn b.2 l).1:Nat)],H):=by
  refine call_post 6 49 rfl (rfl:P.T nG=some F_q44) rfl (aS rfl) (Db H l b.2) ?_ ?_
  ·rintro e σ G ⟨rfl,rfl,out,h1,h2⟩
   exact ⟨rfl,_,h2,by simp,by simp;exact ⟨out,h1,rfl⟩⟩
  rw [F_q44];simp -implicitDefEqProofs [-ac,-AV.one,-ad,wB]
  refine ym (zl:=zl) hll hsm hany l.length _ _ ?_
  refine ⟨0,b,[],by omega,rfl,hb,?_,rfl,by simp [gF,bvs]⟩
  simp
 obtain ⟨y,h1,out,h2,rfl⟩:=key
 exact ⟨out,h2,h1⟩
def uN0 (w:Nat):Nat:=8 * (w / 5) - 3 - w
def uFI (bs:List Nat) (w:Nat):Nat:=aq bs (uN0 w) 2
def iT (bs:List Nat) (w:Nat):Bool:=decide (aq bs (uN0 w+2) 1=1)
def uSN (bs:List Nat) (w:Nat):Nat:=aq bs (uN0 w+3) w
def fO (d:List Nat) (more:Bool):Nat × List (List Nat):=
 if more=true then (if (bc d 11).2=0 then bn (d.drop (bj (bc d 11).1 11)) (bX d 11 (bc d 11).1) else ((bc d 11).2,[])) else bn d []
def cj (bs:List Nat) (w:Int):Nat × List (List Nat):=
 if w=5∨w=10 then (if 4000<bs.length then (2,[]) else if bs.length<w.toNat / 5 then (8,[]) else if aq bs 0 (uN0 w.toNat)=0 then fO (bs.drop (w.toNat / 5)) (iT bs w.toNat) else (3,[])) else (9,[])
def cz (bs:List Nat) (w:Int) (f:AV):AV:=.tup [.agg (if (cj bs w).1=0 then [ai (uFI bs w.toNat:Nat),ai (uSN bs w.toNat:Nat),f] else [ai 0,ai 0,bz]),ai ((cj bs w).1:Nat)]
theorem mM {bs:List Nat} {c:Nat} (hc:c * 12≤8 * bs.length):∀ n∈bX bs 11 c,n≤2047:=by
 intro n hn
 obtain ⟨k,hk,rfl⟩:=List.mem_map.1 hn
 have hk':k<c:=by simpa using hk
 have:k * 12+12≤c * 12:=by
  have:=Nat.mul_le_mul_right 12 (show k+1≤c from hk')
  omega
 have h:=bW (bs:=bs) (a:=k * (11+1)+1) (n:=11) (by omega)
 have:(2:Nat) ^ 11=2048:=by decide
 simp only [lg]
 omega
set_option maxHeartbeats 2000000 in
theorem Ha (b:Bs) (hb:b.2.length≤8192) (hby:bF b.2) (H:ae) :
  ∃ (out:List Bs) (k:Nat),out.map (·.2)=(cj b.2 5).2∧callW P nC [bv b,ai 5] H=some (cz b.2 5 (lst true 1 none (bvs out)),H++List.replicate k .other):=by
 have hW:∀ H,callW P pf [ai 5] H=some (ab true,H):=fun H=>by rw [gm,decide_eq_true (by omega)]
 have hh:∀ H,callW P qS [ai 5] H=some (ai 1,H):=fun H=>pV 5 (by omega) H
 have hlen:=cL b
 have hw:(5:Int)=5∨(5:Int)=10:=by omega
 by_cases c1:4000<b.2.length
 ·have hR:cj b.2 5=(2,[]):=by rw [cj,if_pos hw,if_pos c1]
  refine ⟨[],0,by rw [hR];rfl,?_⟩
  rw [cz,hR]
  clear hby hR
  rw [cD rfl];simp -implicitDefEqProofs (disch:=first | omega | (simp;done) | fail) [-ac,-AV.one,-ad,gD,aw,ax,ay,az,aA,aB,aC,aD,aE,aF,aG,ag,aj,ar,hW,hlen]
 by_cases c2:b.2.length<1
 ·have hR:cj b.2 5=(8,[]):=by rw [cj,if_pos hw,if_neg c1,if_pos (show b.2.length<Int.toNat 5 / 5 from c2)]
  refine ⟨[],0,by rw [hR];rfl,?_⟩
  rw [cz,hR]
  clear hby hR
  rw [cD rfl];simp -implicitDefEqProofs (disch:=first | omega | (simp;done) | fail) [-ac,-AV.one,-ad,gD,aw,ax,ay,az,aA,aB,aC,aD,aE,aF,aG,ag,aj,ar,hW,hlen,hh]
 have hR:cj b.2 5=if aq b.2 0 0=0 then fO (b.2.drop 1) (iT b.2 5) else (3,[]):=by rw [cj,if_pos hw,if_neg c1,if_neg (show ¬ b.2.length<Int.toNat 5 / 5 from c2)];rfl
 obtain ⟨z,r1⟩:=kv b hb H
 have g1:=Get (H:=H++[.row [bv (z,b.2),ai 0]]) (rr:=H.length) (b:=(z,b.2)) (by simp) hb hby (a:=0) (by omega) 0 (by omega)
 have g2:=Get (H:=H++[.row [bv (z,b.2),ai 0]]) (rr:=H.length) (b:=(z,b.2)) (by simp) hb hby (a:=0) (by simp only;omega) 2 (by omega)
 have g3:=Get (H:=H++[.row [bv (z,b.2),ai 0]]) (rr:=H.length) (b:=(z,b.2)) (by simp) hb hby (a:=0+2) (by simp only;omega) 1 (by omega)
 have g4:=Get (H:=H++[.row [bv (z,b.2),ai 0]]) (rr:=H.length) (b:=(z,b.2)) (by simp) hb hby (a:=0+3) (by simp only;omega) 5 (by omega)
 rw [if_pos (by simp only;omega)] at g1 g2 g3 g4
 have hfin:∀ a,RD (H++[.row [bv (z,b.2),ai 0]]) H.length (z,b.2) a=H++[.row [bv (z,b.2),ai a]]:=fun a=>qA _ _ _ _
 simp only [hfin] at g1 g2 g3 g4
 obtain ⟨v0,hv0⟩:=nm (aq b.2 0 0)
 obtain ⟨v1,hv1⟩:=nm (aq b.2 0 2)
 obtain ⟨v2,hv2⟩:=nm (aq b.2 (0+2) 1)
 obtain ⟨v3,hv3⟩:=nm (aq b.2 (0+3) 5)
 have b1:v1<2 ^ 2:=by rw [← hv1];exact bW (by omega)
 have b3:v3<2 ^ 5:=by rw [← hv3];exact bW (by omega)
 have e1:uFI b.2 5=v1:=hv1
 have e2:iT b.2 5=decide (v2=1):=by rw [← hv2];rfl
 have e3:uSN b.2 5=v3:=hv3
 rw [hv0] at g1 hR
 rw [hv1] at g2
 rw [hv2] at g3
 rw [hv3] at g4
 rw [e2] at hR
 have i1:IntKind.i64.wrap (v1:Int)=v1:=ag (by omega) (by omega)
 have i3:IntKind.i64.wrap (v3:Int)=v3:=ag (by omega) (by simp at b3;omega)
 replace g1:callW P fC [.ptr H.length 0 2,ai 0] (H++[.row [bv (z,b.2),ai 0]])=some (.tup [.c (.int .u64 v0),ai 0],H++[.row [bv (z,b.2),ai 0]]):=g1
 replace g2:callW P fC [.ptr H.length 0 2,ai 2] (H++[.row [bv (z,b.2),ai 0]])=some (.tup [.c (.int .u64 v1),ai 0],H++[.row [bv (z,b.2),ai 2]]):=g2
 replace g3:callW P fC [.ptr H.length 0 2,ai 1] (H++[.row [bv (z,b.2),ai 2]])=some (.tup [.c (.int .u64 v2),ai 0],H++[.row [bv (z,b.2),ai 3]]):=g3
 replace g4:callW P fC [.ptr H.length 0 2,ai 5] (H++[.row [bv (z,b.2),ai 3]])=some (.tup [.c (.int .u64 v3),ai 0],H++[.row [bv (z,b.2),ai 8]]):=g4
 have n1:¬ (4000:Int)<b.2.length:=by omega
 have n1':¬ (b.2.length:Int) > 4000:=by omega
 have n2:¬ (b.2.length:Int)<1:=by omega
 have w8:IntKind.i64.wrap 8=8:=rfl
 have w5:IntKind.i64.wrap 5=5:=rfl
 have w0:IntKind.i64.wrap 0=0:=rfl
 by_cases hz:v0=0
 ·rw [if_pos hz] at hR
  subst hz
  replace g1:callW P fC [.ptr H.length 0 2,ai 0] (H++[.row [bv (z,b.2),ai 0]])=some (.tup [.c (.int .u64 0),ai 0],H++[.row [bv (z,b.2),ai 0]]):=g1
  have d1:=fun d=>fu (b:=b) (i:=1) (by omega) .i64 d
  replace d1:∀ d,iN 1 d (bv b) (some (ai 1)) none none=some (bv (dP b 1 b.2.length)):=d1
  obtain ⟨b',hb'⟩:=nm (dP b 1 b.2.length)
  have hb3:b'.2=b.2.drop 1:=by rw [← hb',cZ]
  rw [hb'] at d1
  rw [← hb3] at hR
  by_cases hm:v2=1
  ·subst hm
   replace g3:callW P fC [.ptr H.length 0 2,ai 1] (H++[.row [bv (z,b.2),ai 2]])=some (.tup [.c (.int .u64 1),ai 0],H++[.row [bv (z,b.2),ai 3]]):=g3
   rw [fO,if_pos (by decide)] at hR
   have l1:=fun H=>qB b' (by rw [hb3];simp;omega) (fun x hx=>hby x (by rw [hb3] at hx;exact List.mem_of_mem_drop hx)) (w:=11) (.inl rfl) H
   by_cases he:(bc b'.2 11).2=0
   ·rw [if_pos he] at hR
    have hok2:=f7 he
    obtain ⟨cn,hcn⟩:=nm ((bc b'.2 11).1)
    have hres:dQ b'.2 11 none=.tup [lst true 1 none (nvs (bX b'.2 11 cn)),ai (bj cn 11:Nat),ai 0]:=by rw [dQ,if_pos he,hcn]
    rw [hcn] at hok2 hR
    rw [hres] at l1
    have hsm:=mM (bs:=b'.2) (c:=cn) (by omega)
    have hsz:bj cn 11≤b'.2.length:=by
     have:bj cn 11=(cn * (11+1)+7) / 8:=by rw [bj,if_neg (by omega)]
     omega
    obtain ⟨k,hk⟩:=nm (bj cn 11)
    rw [hk] at hsz l1 hR
    replace l1:∀ H,callW P kl [bv b',ai 11] H=some (.tup [lst true 1 none (nvs (bX b'.2 11 cn)),ai k,ai 0],H++[.other]):=l1
    have f1:=fun d=>fu (b:=b') (i:=k) hsz .i64 d
    obtain ⟨b2,hb2'⟩:=nm (dP b' k b'.2.length)
    have hb4:b2.2=b'.2.drop k:=by rw [← hb2',cZ]
    rw [hb2'] at f1
    rw [← hb4] at hR
    have hll:(bX b'.2 11 cn).length≤23:=by rw [cI];omega
    obtain ⟨ls,hls⟩:=nm (bX b'.2 11 cn)
    rw [hls] at l1 hR hll hsm
    obtain ⟨out,q0,q1⟩:=lu (zl:=true) (l:=ls) b2 (by rw [hb4,hb3];simp;omega) hll hsm (H++[.row [bv (z,b.2),ai 8],.other])
    obtain ⟨ee,he4⟩:=nm ((bn b2.2 ls).1)
    rw [he4] at q1
    refine ⟨out,2,by rw [hR];exact q0,?_⟩
    rw [cz,hR,he4,show uFI b.2 (Int.toNat 5)=v1 from e1,show uSN b.2 (Int.toNat 5)=v3 from e3]
    by_cases hee:ee=0
    ·have hee':(ee:Int)=0:=by omega
     rw [cD rfl];simp -implicitDefEqProofs [-ac,-AV.one,-ad,gD,w8,w5,w0,hW,hh,hlen,c1,c2,n1,n1',n2,r1,g1,g2,g3,g4,d1,l1,f1,q1,hee,hee',i1,i3,aX,-cK,aO,bd,aP,aZ,SOpG.reads,SOp.slots,SX.slots,SOp.noL,bI,aI,aW,aR,eqV]
    ·have hee':¬ (ee:Int)=0:=by omega
     rw [cD rfl];simp -implicitDefEqProofs [-ac,-AV.one,-ad,gD,w8,w5,w0,hW,hh,hlen,c1,c2,n1,n1',n2,r1,g1,g2,g3,g4,d1,l1,f1,q1,hee,hee',i1,i3,aX,-cK,aO,bd,aP,aZ,SOpG.reads,SOp.slots,SX.slots,SOp.noL,bI,aI,aW,aR,eqV]
   ·rw [if_neg he] at hR
    obtain ⟨ee,hee⟩:=nm ((bc b'.2 11).2)
    have hres:dQ b'.2 11 none=.tup [bz,ai 0,ai (ee:Nat)]:=by rw [dQ,if_neg he,hee]
    rw [hee] at he hR
    rw [hres] at l1
    replace l1:∀ H,callW P kl [bv b',ai 11] H=some (.tup [bz,ai 0,ai (ee:Nat)],H++[.other]):=l1
    have he':¬ (ee:Int)=0:=by omega
    refine ⟨[],2,by rw [hR];rfl,?_⟩
    rw [cz,hR]
    rw [cD rfl];simp -implicitDefEqProofs [-ac,-AV.one,-ad,gD,w8,w5,w0,hW,hh,hlen,c1,c2,n1,n1',n2,r1,g1,g2,g3,g4,d1,l1,he,he',aX,-cK,aO,bd,aP,aZ,SOpG.reads,SOp.slots,SX.slots,SOp.noL,bI,aI,aW,aR,eqV]
  ·have hm':¬ (v2:Int)=1:=by omega
   rw [decide_eq_false hm,fO,if_neg (by decide)] at hR
   obtain ⟨out,q0,q1⟩:=lu (zl:=true) (l:=[]) b' (by rw [hb3];simp;omega) (by simp) (by simp) (H++[.row [bv (z,b.2),ai 8]])
   rw [nvs,List.map_nil,lst_nil] at q1
   obtain ⟨ee,he4⟩:=nm ((bn b'.2 []).1)
   rw [he4] at q1
   refine ⟨out,1,by rw [hR];exact q0,?_⟩
   rw [cz,hR,he4,show uFI b.2 (Int.toNat 5)=v1 from e1,show uSN b.2 (Int.toNat 5)=v3 from e3]
   by_cases hee:ee=0
   ·have hee':(ee:Int)=0:=by omega
    rw [cD rfl];simp -implicitDefEqProofs [-ac,-AV.one,-ad,gD,w8,w5,w0,hW,hh,hlen,c1,c2,n1,n1',n2,r1,g1,g2,g3,g4,hm,hm',d1,q1,hee,hee',i1,i3,aX,-cK,aO,bd,aP,aZ,SOpG.reads,SOp.slots,SX.slots,SOp.noL,bI,aI,aW,aR,eqV]
   ·have hee':¬ (ee:Int)=0:=by omega
    rw [cD rfl];simp -implicitDefEqProofs [-ac,-AV.one,-ad,gD,w8,w5,w0,hW,hh,hlen,c1,c2,n1,n1',n2,r1,g1,g2,g3,g4,hm,hm',d1,q1,hee,hee',i1,i3,aX,-cK,aO,bd,aP,aZ,SOpG.reads,SOp.slots,SX.slots,SOp.noL,bI,aI,aW,aR,eqV]
 ·rw [if_neg hz] at hR
  have hz':¬ (v0:Int)=0:=by omega
  refine ⟨[],1,by rw [hR];rfl,?_⟩
  rw [cz,hR]
  rw [cD rfl];simp -implicitDefEqProofs [-ac,-AV.one,-ad,gD,w8,w5,w0,hW,hh,hlen,c1,c2,n1,n1',n2,r1,g1,g2,g3,g4,hz,hz',aX,-cK,aO,bd,aP,aZ,SOpG.reads,SOp.slots,SX.slots,SOp.noL,bI,aI,aW,aR,eqV]
set_option maxHeartbeats 2000000 in
theorem Dc (b:Bs) (hb:b.2.length≤8192) (hby:bF b.2) (H:ae) :
  ∃ (out:List Bs) (k:Nat),out.map (·.2)=(cj b.2 10).2∧callW P nC [bv b,ai 10] H=some (cz b.2 10 (lst true 1 none (bvs out)),H++List.replicate k .other):=by
 have hW:∀ H,callW P pf [ai 10] H=some (ab true,H):=fun H=>by rw [gm,decide_eq_true (by omega)]
 have hh:∀ H,callW P qS [ai 10] H=some (ai 2,H):=fun H=>pV 10 (by omega) H
 have hlen:=cL b
 have hw:(10:Int)=5∨(10:Int)=10:=by omega
 by_cases c1:4000<b.2.length
 ·have hR:cj b.2 10=(2,[]):=by rw [cj,if_pos hw,if_pos c1]
  refine ⟨[],0,by rw [hR];rfl,?_⟩
  rw [cz,hR]
  clear hby hR
  rw [cD rfl];simp -implicitDefEqProofs (disch:=first | omega | (simp;done) | fail) [-ac,-AV.one,-ad,gD,aw,ax,ay,az,aA,aB,aC,aD,aE,aF,aG,ag,aj,ar,hW,hlen]
 by_cases c2:b.2.length<2
 ·have hR:cj b.2 10=(8,[]):=by rw [cj,if_pos hw,if_neg c1,if_pos (show b.2.length<Int.toNat 10 / 5 from c2)]
  refine ⟨[],0,by rw [hR];rfl,?_⟩
  rw [cz,hR]
  clear hby hR
  rw [cD rfl];simp -implicitDefEqProofs (disch:=first | omega | (simp;done) | fail) [-ac,-AV.one,-ad,gD,aw,ax,ay,az,aA,aB,aC,aD,aE,aF,aG,ag,aj,ar,hW,hlen,hh]
 have hR:cj b.2 10=if aq b.2 0 3=0 then fO (b.2.drop 2) (iT b.2 10) else (3,[]):=by rw [cj,if_pos hw,if_neg c1,if_neg (show ¬ b.2.length<Int.toNat 10 / 5 from c2)];rfl
 obtain ⟨z,r1⟩:=kv b hb H
 have g1:=Get (H:=H++[.row [bv (z,b.2),ai 0]]) (rr:=H.length) (b:=(z,b.2)) (by simp) hb hby (a:=0) (by omega) 3 (by omega)
 have g2:=Get (H:=H++[.row [bv (z,b.2),ai 0]]) (rr:=H.length) (b:=(z,b.2)) (by simp) hb hby (a:=3) (by simp only;omega) 2 (by omega)
 have g3:=Get (H:=H++[.row [bv (z,b.2),ai 0]]) (rr:=H.length) (b:=(z,b.2)) (by simp) hb hby (a:=3+2) (by simp only;omega) 1 (by omega)
 have g4:=Get (H:=H++[.row [bv (z,b.2),ai 0]]) (rr:=H.length) (b:=(z,b.2)) (by simp) hb hby (a:=3+3) (by simp only;omega) 10 (by omega)
 rw [if_pos (by simp only;omega)] at g1 g2 g3 g4
 have hfin:∀ a,RD (H++[.row [bv (z,b.2),ai 0]]) H.length (z,b.2) a=H++[.row [bv (z,b.2),ai a]]:=fun a=>qA _ _ _ _
 simp only [hfin] at g1 g2 g3 g4
 obtain ⟨v0,hv0⟩:=nm (aq b.2 0 3)
 obtain ⟨v1,hv1⟩:=nm (aq b.2 3 2)
 obtain ⟨v2,hv2⟩:=nm (aq b.2 (3+2) 1)
 obtain ⟨v3,hv3⟩:=nm (aq b.2 (3+3) 10)
 have b1:v1<2 ^ 2:=by rw [← hv1];exact bW (by omega)
 have b3:v3<2 ^ 10:=by rw [← hv3];exact bW (by omega)
 have e1:uFI b.2 10=v1:=hv1
 have e2:iT b.2 10=decide (v2=1):=by rw [← hv2];rfl
 have e3:uSN b.2 10=v3:=hv3
 rw [hv0] at g1 hR
 rw [hv1] at g2
 rw [hv2] at g3
 rw [hv3] at g4
 rw [e2] at hR
 have i1:IntKind.i64.wrap (v1:Int)=v1:=ag (by omega) (by omega)
 have i3:IntKind.i64.wrap (v3:Int)=v3:=ag (by omega) (by simp at b3;omega)
 replace g1:callW P fC [.ptr H.length 0 2,ai 3] (H++[.row [bv (z,b.2),ai 0]])=some (.tup [.c (.int .u64 v0),ai 0],H++[.row [bv (z,b.2),ai 3]]):=g1
 replace g2:callW P fC [.ptr H.length 0 2,ai 2] (H++[.row [bv (z,b.2),ai 3]])=some (.tup [.c (.int .u64 v1),ai 0],H++[.row [bv (z,b.2),ai 5]]):=g2
 replace g3:callW P fC [.ptr H.length 0 2,ai 1] (H++[.row [bv (z,b.2),ai 5]])=some (.tup [.c (.int .u64 v2),ai 0],H++[.row [bv (z,b.2),ai 6]]):=g3
 replace g4:callW P fC [.ptr H.length 0 2,ai 10] (H++[.row [bv (z,b.2),ai 6]])=some (.tup [.c (.int .u64 v3),ai 0],H++[.row [bv (z,b.2),ai 16]]):=g4
 have n1:¬ (4000:Int)<b.2.length:=by omega
 have n1':¬ (b.2.length:Int) > 4000:=by omega
 have n2:¬ (b.2.length:Int)<2:=by omega
 have w8:IntKind.i64.wrap 16=16:=rfl
 have w5:IntKind.i64.wrap 13=13:=rfl
 have w0:IntKind.i64.wrap 3=3:=rfl
 by_cases hz:v0=0
 ·rw [if_pos hz] at hR
  subst hz
  replace g1:callW P fC [.ptr H.length 0 2,ai 3] (H++[.row [bv (z,b.2),ai 0]])=some (.tup [.c (.int .u64 0),ai 0],H++[.row [bv (z,b.2),ai 3]]):=g1
  have d1:=fun d=>fu (b:=b) (i:=2) (by omega) .i64 d
  replace d1:∀ d,iN 1 d (bv b) (some (ai 2)) none none=some (bv (dP b 2 b.2.length)):=d1
  obtain ⟨b',hb'⟩:=nm (dP b 2 b.2.length)
  have hb3:b'.2=b.2.drop 2:=by rw [← hb',cZ]
  rw [hb'] at d1
  rw [← hb3] at hR
  by_cases hm:v2=1
  ·subst hm
   replace g3:callW P fC [.ptr H.length 0 2,ai 1] (H++[.row [bv (z,b.2),ai 5]])=some (.tup [.c (.int .u64 1),ai 0],H++[.row [bv (z,b.2),ai 6]]):=g3
   rw [fO,if_pos (by decide)] at hR
   have l1:=fun H=>qB b' (by rw [hb3];simp;omega) (fun x hx=>hby x (by rw [hb3] at hx;exact List.mem_of_mem_drop hx)) (w:=11) (.inl rfl) H
   by_cases he:(bc b'.2 11).2=0
   ·rw [if_pos he] at hR
    have hok2:=f7 he
    obtain ⟨cn,hcn⟩:=nm ((bc b'.2 11).1)
    have hres:dQ b'.2 11 none=.tup [lst true 1 none (nvs (bX b'.2 11 cn)),ai (bj cn 11:Nat),ai 0]:=by rw [dQ,if_pos he,hcn]
    rw [hcn] at hok2 hR
    rw [hres] at l1
    have hsm:=mM (bs:=b'.2) (c:=cn) (by omega)
    have hsz:bj cn 11≤b'.2.length:=by
     have:bj cn 11=(cn * (11+1)+7) / 8:=by rw [bj,if_neg (by omega)]
     omega
    obtain ⟨k,hk⟩:=nm (bj cn 11)
    rw [hk] at hsz l1 hR
    replace l1:∀ H,callW P kl [bv b',ai 11] H=some (.tup [lst true 1 none (nvs (bX b'.2 11 cn)),ai k,ai 0],H++[.other]):=l1
    have f1:=fun d=>fu (b:=b') (i:=k) hsz .i64 d
    obtain ⟨b2,hb2'⟩:=nm (dP b' k b'.2.length)
    have hb4:b2.2=b'.2.drop k:=by rw [← hb2',cZ]
    rw [hb2'] at f1
    rw [← hb4] at hR
    have hll:(bX b'.2 11 cn).length≤23:=by rw [cI];omega
    obtain ⟨ls,hls⟩:=nm (bX b'.2 11 cn)
    rw [hls] at l1 hR hll hsm
    obtain ⟨out,q0,q1⟩:=lu (zl:=true) (l:=ls) b2 (by rw [hb4,hb3];simp;omega) hll hsm (H++[.row [bv (z,b.2),ai 16],.other])
    obtain ⟨ee,he4⟩:=nm ((bn b2.2 ls).1)
    rw [he4] at q1
    refine ⟨out,2,by rw [hR];exact q0,?_⟩
    rw [cz,hR,he4,show uFI b.2 (Int.toNat 10)=v1 from e1,show uSN b.2 (Int.toNat 10)=v3 from e3]
    by_cases hee:ee=0
    ·have hee':(ee:Int)=0:=by omega
     rw [cD rfl];simp -implicitDefEqProofs [-ac,-AV.one,-ad,gD,w8,w5,w0,hW,hh,hlen,c1,c2,n1,n1',n2,r1,g1,g2,g3,g4,d1,l1,f1,q1,hee,hee',i1,i3,aX,-cK,aO,bd,aP,aZ,SOpG.reads,SOp.slots,SX.slots,SOp.noL,bI,aI,aW,aR,eqV]
    ·have hee':¬ (ee:Int)=0:=by omega
     rw [cD rfl];simp -implicitDefEqProofs [-ac,-AV.one,-ad,gD,w8,w5,w0,hW,hh,hlen,c1,c2,n1,n1',n2,r1,g1,g2,g3,g4,d1,l1,f1,q1,hee,hee',i1,i3,aX,-cK,aO,bd,aP,aZ,SOpG.reads,SOp.slots,SX.slots,SOp.noL,bI,aI,aW,aR,eqV]
   ·rw [if_neg he] at hR
    obtain ⟨ee,hee⟩:=nm ((bc b'.2 11).2)
    have hres:dQ b'.2 11 none=.tup [bz,ai 0,ai (ee:Nat)]:=by rw [dQ,if_neg he,hee]
    rw [hee] at he hR
    rw [hres] at l1
    replace l1:∀ H,callW P kl [bv b',ai 11] H=some (.tup [bz,ai 0,ai (ee:Nat)],H++[.other]):=l1
    have he':¬ (ee:Int)=0:=by omega
    refine ⟨[],2,by rw [hR];rfl,?_⟩
    rw [cz,hR]
    rw [cD rfl];simp -implicitDefEqProofs [-ac,-AV.one,-ad,gD,w8,w5,w0,hW,hh,hlen,c1,c2,n1,n1',n2,r1,g1,g2,g3,g4,d1,l1,he,he',aX,-cK,aO,bd,aP,aZ,SOpG.reads,SOp.slots,SX.slots,SOp.noL,bI,aI,aW,aR,eqV]
  ·have hm':¬ (v2:Int)=1:=by omega
   rw [decide_eq_false hm,fO,if_neg (by decide)] at hR
   obtain ⟨out,q0,q1⟩:=lu (zl:=true) (l:=[]) b' (by rw [hb3];simp;omega) (by simp) (by simp) (H++[.row [bv (z,b.2),ai 16]])
   rw [nvs,List.map_nil,lst_nil] at q1
   obtain ⟨ee,he4⟩:=nm ((bn b'.2 []).1)
   rw [he4] at q1
   refine ⟨out,1,by rw [hR];exact q0,?_⟩
   rw [cz,hR,he4,show uFI b.2 (Int.toNat 10)=v1 from e1,show uSN b.2 (Int.toNat 10)=v3 from e3]
   by_cases hee:ee=0
   ·have hee':(ee:Int)=0:=by omega
    rw [cD rfl];simp -implicitDefEqProofs [-ac,-AV.one,-ad,gD,w8,w5,w0,hW,hh,hlen,c1,c2,n1,n1',n2,r1,g1,g2,g3,g4,hm,hm',d1,q1,hee,hee',i1,i3,aX,-cK,aO,bd,aP,aZ,SOpG.reads,SOp.slots,SX.slots,SOp.noL,bI,aI,aW,aR,eqV]
   ·have hee':¬ (ee:Int)=0:=by omega
    rw [cD rfl];simp -implicitDefEqProofs [-ac,-AV.one,-ad,gD,w8,w5,w0,hW,hh,hlen,c1,c2,n1,n1',n2,r1,g1,g2,g3,g4,hm,hm',d1,q1,hee,hee',i1,i3,aX,-cK,aO,bd,aP,aZ,SOpG.reads,SOp.slots,SX.slots,SOp.noL,bI,aI,aW,aR,eqV]
 ·rw [if_neg hz] at hR
  have hz':¬ (v0:Int)=0:=by omega
  refine ⟨[],1,by rw [hR];rfl,?_⟩
  rw [cz,hR]
  rw [cD rfl];simp -implicitDefEqProofs [-ac,-AV.one,-ad,gD,w8,w5,w0,hW,hh,hlen,c1,c2,n1,n1',n2,r1,g1,g2,g3,g4,hz,hz',aX,-cK,aO,bd,aP,aZ,SOpG.reads,SOp.slots,SX.slots,SOp.noL,bI,aI,aW,aR,eqV]
section
variable {H:ae}
def Ld (H:ae) (z1:Bool) (r:List Bs) (z:Nat) (σ:List AV) (G:ae):Prop:=
 ∃ i:Nat,i+z=r.length∧G=H∧σ=L 23 (((((Tr.full 5).put (ah 3) (lst true 1 (some 20) (nvs (((bb r).take i).map (·.length))))).put (ah 10) (lst z1 1 none (bvs r))).put (ah 11) (ai r.length)).put (ah 12) (ai i))
def Dd (H:ae) (r:List Bs) (e:AExit) (σ:List AV) (G:ae):Prop:=
 G=H∧e=.exit 0∧kill [10,11,12,13] σ=L 23 ((Tr.full 5).put (ah 3) (lst true 1 (some 20) (nvs ((bb r).map (·.length)))))
theorem Ur {z1:Bool} {r:List Bs} (hl:r.length≤100) (z:Nat) (σ:List AV) (G:ae)
  (hI:Ld H z1 r z (kill (bK m7) σ) G) :
  Ends (execW P rb (.loop m7) σ G) fun s=>Dd H r s.e s.σ s.H:=by
 refine bq (fun z σ G=>Ld H z1 r z σ G) (Dd H r) ?_ z σ G hI
 clear hI z σ G
 rintro z σ G ⟨i,hz,rfl,rfl⟩
 have hla:(bvs r).length=r.length:=bN r
 by_cases hi:i<r.length
 ·have hi':(i:Int)<r.length:=by omega
  obtain ⟨x,hx⟩:∃ x,r[i]?=some x:=⟨_,zq6 hi⟩
  have q1:=hU hx z1 none .i64
  have hxl:=cL x
  have hsn:((bb r).take (i+1)).map (·.length)=((bb r).take i).map (·.length)++[x.2.length]:=by rw [eC (gU hx)];simp
  have hap:=fun σ H=>u9 (m:=P.md rb) (d:=20) (bytes:=8) (v:=ai x.2.length) (Pe 20) (by omega) (by rw [dC];simp [bJ];omega) (l:=nvs (((bb r).take i).map (·.length))) (some 19) σ H
  rw [← mH,← hsn] at hap
  have w6:IntKind.i64.wrap ((i:Int)+1)=((i+1:Nat):Int):=by rw [ag (by omega) (by omega)];omega
  obtain ⟨i1,hi1⟩:=nm (i+1)
  rw [hi1] at w6 hap
  generalize nvs (((bb r).take i).map (·.length))=L0 at *
  have hres:∀ σ,σ=L 23 (((((Tr.full 5).put (ah 3) (lst true 1 (some 20) (nvs (((bb r).take i1).map (·.length))))).put (ah 10) (lst z1 1 none (bvs r))).put (ah 11) (ai r.length)).put (ah 12) (ai i1))→∃ m,m<z∧Ld G z1 r m σ G:=fun σ e=>⟨z - 1,by omega,i1,by omega,rfl,e⟩
  generalize nvs (((bb r).take i1).map (·.length))=L1 at *
  simp -implicitDefEqProofs [-ac,-AV.one,-ad,zN,m7,hla,hi,hi',q1,hxl,hap,w6]
  exact hres _ (by simp)
 ·have hi':¬ (i:Int)<r.length:=by omega
  have hall:(bb r).take i=bb r:=List.take_of_length_le (by rw [bJ];omega)
  rw [hall]
  obtain ⟨L0,hL0⟩:=nm (nvs ((bb r).map (·.length)))
  rw [hL0]
  simp -implicitDefEqProofs [-ac,-AV.one,-ad,zN,m7,hla,hi,hi']
  exact ⟨rfl,rfl,by rw [hL0];simp⟩
theorem AH {z0:Bool} {ff:List Bs} (h1:1≤ff.length) (hl:ff.length≤24) (H:ae) :
  callW P rb [lst z0 1 none (bvs ff)] H=some (lst true 1 (some 0) (nvs ((bb (ff.take (ff.length - 1))).map (·.length))),H):=by
 obtain ⟨l1,hl1⟩:=nm (ff.length - 1)
 obtain ⟨r,hr⟩:=nm (ff.take l1)
 have hrl:r.length=l1:=by rw [← hr,List.length_take];omega
 rw [hl1,hr]
 have wl:IntKind.i64.wrap ((ff.length:Int) - 1)=(l1:Int):=by rw [ag (by omega) (by omega)];omega
 have hla:(bvs ff).length=ff.length:=bN ff
 have hcut:∀ d,iN 1 d (lst z0 1 none (bvs ff)) none (some (ai l1)) none=some (lst (z0 && (bvs ff).isEmpty) 1 none (bvs r)):=fun d=>by
  have h:=pc (lo:=none) (hi:=some (ai l1)) (i:=0) (j:=l1) z0 1 none d (bvs ff) (.inl ⟨rfl,rfl⟩) (.inr ⟨.i64,rfl⟩) (by omega) (by rw [hla];omega)
  rw [h,tg,List.drop_zero,← hr,bvs,bvs,List.map_take]
 have hrb:(bvs r).length=l1:=by rw [bN,hrl]
 suffices hend:Ends (callW P rb [lst z0 1 none (bvs ff)] H) fun y=>y=(lst true 1 (some 0) (nvs ((bb r).map (·.length))),H) by
  obtain ⟨y,h2,rfl⟩:=hend
  exact h2
 refine call_post 5 23 rfl (rfl:P.T rb=some F_q71) rfl (aS rfl) (fun e σ G=>e=.ret∧G=H∧aN F_q71.res σ=some (lst true 1 (some 20) (nvs ((bb r).map (·.length))))) ?_ ?_
 ·rintro e σ G ⟨rfl,rfl,h2⟩
  refine ⟨rfl,_,h2,by simp,?_⟩
  simp
 obtain ⟨L0,hL0⟩:=nm (nvs ((bb r).map (·.length)))
 rw [F_q71];simp -implicitDefEqProofs [-ac,-AV.one,-ad,zN,hla,wl,hcut,hrb]
 repeat rw [Option.bind_assoc]
 refine Ends.block (P:=Dd H r) (Ur (z1:=z0 && (bvs ff).isEmpty) (by omega) r.length _ _ ⟨0,by omega,rfl,by simp [m7,nvs,bb,hrl]⟩) ?_
 rintro e σ1 G2 ⟨rfl,rfl,k2⟩
 rw [hL0] at k2 ⊢
 simp -implicitDefEqProofs [-ac,-AV.one,-ad,zN,k2]
end
def gp (p:Um) (w:Nat):List Bool:=
 ((if w=10 then [false,false,false] else [])++aQ p.fi.toNat 2++[decide (1<p.ff.length)])++aQ p.sn.toNat w
def kx (p:Um):List Nat:=(bb (p.ff.take (p.ff.length - 1))).map (·.length)
def WrU (p:Um) (w:Nat) (out:List Nat):Prop:=∃ hb lb,PackR (gp p w) hb∧PackR (ca 11 (kx p)) lb∧out=hb++lb++(bb p.ff).flatten
theorem wW (p:Um) {w:Nat} (hw:w=5∨w=10):(gp p w).length=8 * (w / 5):=by
 unfold gp
 rcases hw with rfl | rfl<;>simp [bk]
theorem ky {p:Um} {w:Int} (h:en p w≠0):(w=5∨w=10)∧(0≤p.fi∧p.fi≤3)∧(0≤p.sn∧p.sn<(2 ^ w.toNat:Nat))∧1≤p.ff.length∧p.ff.length≤24∧en p w=dg (iK p w.toNat) (bb p.ff):=by
 rw [en] at h ⊢
 by_cases c1:w=5∨w=10
 ·rw [if_neg (not_not_intro c1)] at h ⊢
  by_cases c2:p.fi<0
  ·rw [if_pos c2] at h;exact (h rfl).elim
  rw [if_neg c2] at h ⊢
  by_cases c3:3<p.fi
  ·rw [if_pos c3] at h;exact (h rfl).elim
  rw [if_neg c3] at h ⊢
  by_cases c4:0≤p.sn∧p.sn<(2 ^ w.toNat:Nat)
  ·rw [if_neg (not_not_intro c4)] at h ⊢
   by_cases c5:p.ff.length<1
   ·rw [if_pos c5] at h;exact (h rfl).elim
   rw [if_neg c5] at h ⊢
   by_cases c6:24<p.ff.length
   ·rw [if_pos c6] at h;exact (h rfl).elim
   rw [if_neg c6]
   exact ⟨c1,⟨by omega,by omega⟩,c4,by omega,by omega,rfl⟩
  ·rw [if_pos c4] at h;exact (h rfl).elim
 ·rw [if_pos c1] at h;exact (h rfl).elim
theorem Lf {w n0:Nat} (hw:w=5∧n0=0∨w=10∧n0=3):aQ 0 n0=(if w=10 then [false,false,false] else []):=by
 rcases hw with ⟨rfl,rfl⟩ | ⟨rfl,rfl⟩<;>decide
theorem Ov {p:Um} {n:Nat} (h:dg n (bb p.ff)≠0):∀ n∈kx p,1≤n∧n<2 ^ 11:=fun n hn=>by
 obtain ⟨s1,s2,s3,s4⟩:=f8 (bb p.ff) _ h
 rw [kx] at hn
 obtain ⟨b,hb1,rfl⟩:=List.mem_map.1 hn
 have hdr:bb (p.ff.take (p.ff.length - 1))=(bb p.ff).dropLast:=by rw [List.dropLast_eq_take,bJ,bb,bb,List.map_take]
 rw [hdr] at hb1
 have h2:=s2 b hb1
 have h3:=s1 b (List.mem_of_mem_take (by rw [List.dropLast_eq_take] at hb1;exact hb1))
 have:(2:Nat) ^ 11=2048:=by decide
 omega
section
variable {H:ae}
set_option maxHeartbeats 2000000 in
theorem pW (p:Um) (hs:∀ f∈p.ff,f.2.length≤100000) (hfl:p.ff.length≤100000) {w n0:Nat} (hw:w=5∧n0=0∨w=10∧n0=3) (H:ae) (h0:en p w≠0) :
  ∃ out k,WrU p w out∧callW P lB [.agg p.v,ai w] H=some (.tup [.vs 1 none (aK out),ai 0],H++List.replicate k .other):=by
 obtain ⟨c1,⟨hf0,hf3⟩,⟨hs0,hs1⟩,hl1,hl24,hsz⟩:=ky h0
 have h37:=fun H=>gm w H
 rw [decide_eq_true c1] at h37
 have hR:=fun H=>wV p hs hfl w H
 rw [decide_eq_true (by omega)] at hR
 have htn:((w:Nat):Int).toNat=w:=by simp
 rw [htn] at hs1 hsz
 rw [hsz] at h0
 have hlens:=Ov h0
 obtain ⟨s1,s2,s3,s4⟩:=f8 (bb p.ff) _ h0
 have hbne:bb p.ff≠[]:=fun e=>by have:=congrArg List.length e;rw [bJ] at this;simp at this;rw [this] at hl1;simp at hl1
 have hdl:=s3 hbne
 clear s1 s2 s3 s4 hbne h0 hsz
 have hul:=wW p (w:=w) (by omega)
 have huB:gp p w=aQ 0 n0++aQ p.fi.toNat 2++[decide (1<p.ff.length)]++aQ p.sn.toNat w:=by rw [gp,Lf hw]
 have hW:∀ hb lb,PackR (gp p w) hb→PackR (ca 11 (kx p)) lb→WrU p w (hb++lb++(bb p.ff).flatten):=fun hb lb a b=>⟨hb,lb,a,b,rfl⟩
 have hlu:kx p=(bb (p.ff.take (p.ff.length - 1))).map (·.length):=rfl
 have hll:(kx p).length=p.ff.length - 1:=by rw [hlu];simp [bJ]
 generalize WrU p w=WW at *
 generalize kx p=ls at *
 generalize gp p w=ub at *
 obtain ⟨fi,sn,z0,ff⟩:=p
 simp only [Um.v,Um.f] at *
 have hld:=fun H=>AH (z0:=z0) hl1 hl24 H
 rw [← hlu] at hld
 have hJ:=fun H=>ux (z0:=z0) hfl (by omega:(bb ff).flatten.length≤1000000) H
 generalize (bb ff).flatten=data at *
 clear hs hfl hlu
 obtain ⟨fn,rfl⟩:∃ n:Nat,fi=n:=⟨fi.toNat,by omega⟩
 obtain ⟨sn',rfl⟩:∃ n:Nat,sn=n:=⟨sn.toNat,by omega⟩
 have hw16:2 ^ w≤2 ^ 10:=Nat.pow_le_pow_right (by omega) (by omega)
 have e16:(2:Nat) ^ 10=1024:=by decide
 have hsn2:sn'<2 ^ w:=by omega
 have wfi:IntKind.u64.wrap (fn:Int)=fn:=aj (by omega) (by omega)
 have wsn:IntKind.u64.wrap (sn':Int)=sn':=aj (by omega) (by omega)
 have hh:=fun H=>pV w (by omega) H
 have w8:IntKind.i64.wrap (8 * ((w / 5:Nat):Int))=(n0+3+w:Nat):=by rcases hw with ⟨rfl,rfl⟩ | ⟨rfl,rfl⟩<;>rfl
 have w5:IntKind.i64.wrap (((n0+3+w:Nat):Int) - 3)=(n0+w:Nat):=by rcases hw with ⟨rfl,rfl⟩ | ⟨rfl,rfl⟩<;>rfl
 have w0:IntKind.i64.wrap (((n0+w:Nat):Int) - w)=n0:=by rcases hw with ⟨rfl,rfl⟩ | ⟨rfl,rfl⟩<;>rfl
 generalize ((w / 5:Nat):Int)=hd at *
 generalize ((n0+3+w:Nat):Int)=q8 at *
 generalize ((n0+w:Nat):Int)=q5 at *
 have hla:(bvs ff).length=ff.length:=bN ff
 obtain ⟨l1,hl1e⟩:=nm (ff.length - 1)
 have wl:IntKind.i64.wrap ((ff.length:Int) - 1)=(l1:Int):=by rw [ag (by omega) (by omega)];omega
 have c0:=pO H
 have hcs:∀ a b:List Nat,aK a++aK b=aK (a++b):=fun a b=>by simp [aK]
 obtain ⟨x1,y1,e1,n1,p1,k1⟩:=dW (H:=H) (l:=[]) (bits:=[]) (m:=0) rfl PackR.nil (by omega) 0 n0 (by omega) (Nat.two_pow_pos _) 0 n0 rfl rfl
 obtain ⟨x2,y2,e2,n2,p2,k2⟩:=dW (H:=H) n1 p1 (by omega) fn 2 (by omega) (by simp;omega) fn 2 rfl rfl
 by_cases hl0:l1=0
 ·have hls0:ls=[]:=zq8 (by omega)
  obtain ⟨x3,y3,e3,n3,p3,k3⟩:=dW (H:=H) n2 p2 (by omega) 0 1 (by omega) (by decide) 0 1 rfl rfl
  obtain ⟨x4,y4,e4,n4,p4,k4⟩:=dW (H:=H) n3 p3 (by omega) sn' w (by omega) hsn2 sn' w rfl rfl
  have hb:ub=x4:=by rw [huB,e4,e3,e2,e1,pL,decide_eq_false (by omega),Int.toNat_natCast,Int.toNat_natCast,List.nil_append]
  have hx0:x4≠[]:=fun e=>by rw [e,List.length_nil] at n4;omega
  have c9:=fF (H:=H) p4 hx0 (by omega)
  obtain ⟨t1,t2⟩:=mJ (H:=H) y4 hx0
  generalize WN H x4 y4=G0 at *
  obtain ⟨zd,fd,kd,hD⟩:=hJ G0
  have hyl:y4.length≤100:=by have:=p4.len;omega
  have wz:IntKind.u64.wrap 0=0:=rfl
  have hmn:mn (l1:Int) 1=0:=by rw [mn,if_neg (by omega)];omega
  have hap:=fun (f:Option Nat) σ H=>ic (m:=P.md lB) (d:=70) (bytes:=1) (c:=50) (l:=aK y4) (l':=aK data) (x:=lst zd 1 f (aK data)) (fun H=>elems_lst zd f 1 _ H) (by simp [bC,aJ];omega) (by simp [bC,aJ];omega) σ H
  have hres:=hW y4 [] (by rw [hb];exact p4) (by rw [hls0];exact PackR.nil)
  rw [List.append_nil] at hres
  rw [hcs] at hap
  generalize y4++data=out at *
  have t1':(G0++List.replicate kd AObj.other).take H.length=H:=by rw [List.take_append_of_le_length (by omega),t1]
  have t2':(G0++List.replicate kd AObj.other).length=H.length+(2+kd):=by simp [t2];omega
  generalize G0++List.replicate kd AObj.other=G1 at *
  refine ⟨out,2+kd,hres,?_⟩
  clear hres hW huB hlens hls0 hb
  rw [jL rfl];simp -implicitDefEqProofs [-ac,-AV.one,-ad,wx,aX,aO,bd,aP,aZ,SOpG.reads,SOp.slots,SX.slots,SOp.noL,rdV,aI,aW,aR,eqV,h37,hR,c0,hla,wl,hmn,wz,hh,w8,w5,w0,k1,wfi,k2,k3,wsn,k4,c9,hD,hap,t1',t2']
 ·have hl0p:0<l1:=by omega
  obtain ⟨x3,y3,e3,n3,p3,k3⟩:=dW (H:=H) n2 p2 (by omega) 1 1 (by omega) (by decide) 1 1 rfl rfl
  obtain ⟨x4,y4,e4,n4,p4,k4⟩:=dW (H:=H) n3 p3 (by omega) sn' w (by omega) hsn2 sn' w rfl rfl
  have hb:ub=x4:=by rw [huB,e4,e3,e2,e1,pK,decide_eq_true (by omega),Int.toNat_natCast,Int.toNat_natCast,List.nil_append]
  have hx0:x4≠[]:=fun e=>by rw [e,List.length_nil] at n4;omega
  have c9:=fF (H:=H) p4 hx0 (by omega)
  obtain ⟨t1,t2⟩:=mJ (H:=H) y4 hx0
  generalize WN H x4 y4=G0 at *
  obtain ⟨lb,hpb,hL⟩:=uA (z0:=true) (l:=ls) (w:=11) (by omega) (by omega) (.inl rfl) hlens G0
  replace hL:callW P q9 [lst true 1 none (nvs ls),ai 11] G0=some (.tup [.vs 1 none (aK lb),ai 0],G0++List.replicate 2 .other):=hL
  have hlbl:=hpb.len
  have hlb2:=pQ (w:=11) (.inl rfl) (l:=ls) (by omega)
  obtain ⟨zd,fd,kd,hD⟩:=hJ (G0++List.replicate 2 .other)
  rw [iX] at hD
  generalize G0++List.replicate 2 AObj.other=GL at *
  have hyl:y4.length≤100:=by have:=p4.len;omega
  have wz:IntKind.u64.wrap 1=1:=rfl
  have hmn:mn (l1:Int) 1=1:=by
   by_cases h:l1=1
   ·rw [h];rfl
   ·rw [mn,if_pos (by omega)]
  have hap1:=fun σ H=>ic (m:=P.md lB) (d:=65) (bytes:=1) (c:=50) (l:=aK y4) (l':=aK lb) (x:=.vs 1 none (aK lb)) (fun H=>dh H 1 none (aK lb)) (by simp [bC,aJ];omega) (by simp [bC,aJ];omega) σ H
  have hap:=fun (f:Option Nat) σ H=>ic (m:=P.md lB) (d:=70) (bytes:=1) (c:=65) (l:=aK (y4++lb)) (l':=aK data) (x:=lst zd 1 f (aK data)) (fun H=>elems_lst zd f 1 _ H) (by simp [bC,aJ];omega) (by simp [bC,aJ];omega) σ H
  have hres:=hW y4 lb (by rw [hb];exact p4) hpb
  rw [hcs] at hap1
  rw [hcs] at hap
  generalize y4++lb=yl at *
  generalize yl++data=out at *
  have t1':(G0++List.replicate (2+kd) AObj.other).take H.length=H:=by rw [List.take_append_of_le_length (by omega),t1]
  have t2':(G0++List.replicate (2+kd) AObj.other).length=H.length+(2+(2+kd)):=by simp [t2];omega
  generalize G0++List.replicate (2+kd) AObj.other=G1 at *
  refine ⟨out,2+(2+kd),hres,?_⟩
  clear hres hW huB hlens hb
  rw [jL rfl];simp -implicitDefEqProofs [-ac,-AV.one,-ad,wx,aX,aO,bd,aP,aZ,SOpG.reads,SOp.slots,SX.slots,SOp.noL,rdV,aI,aW,aR,eqV,h37,hR,c0,hla,wl,hmn,wz,hh,w8,w5,w0,k1,wfi,k2,k3,wsn,k4,c9,hld,hL,hap1,hD,hap,t1',t2']
end
theorem Hb (p:Um) (hs:∀ f∈p.ff,f.2.length≤100000) (hfl:p.ff.length≤100000) (w:Int) (H:ae) :
  (¬ (w=5∨w=10)→callW P lB [.agg p.v,ai w] H=some (.tup [bz,ai 9],H)) ∧
  ((w=5∨w=10)→en p w=0→callW P lB [.agg p.v,ai w] H=some (.tup [bz,ai 3],H)) ∧
  (en p w≠0→∃ out k,WrU p w.toNat out∧callW P lB [.agg p.v,ai w] H=some (.tup [.vs 1 none (aK out),ai 0],H++List.replicate k .other)):=by
 have h37:=fun H=>gm w H
 have hR:=fun H=>wV p hs hfl w H
 refine ⟨fun hw=>?_,fun hw h0=>?_,fun h0=>?_⟩
 ·rw [decide_eq_false hw] at h37
  obtain ⟨fi,sn,z0,ff⟩:=p
  rw [jL rfl];simp -implicitDefEqProofs [-ac,-AV.one,-ad,wx,Um.v,Um.f,h37]
 ·rw [decide_eq_true hw] at h37
  rw [h0] at hR
  replace hR:∀ H,callW P tD [.agg p.v,ai w] H=some (ab false,H):=hR
  obtain ⟨fi,sn,z0,ff⟩:=p
  simp only [Um.v,Um.f] at hR
  rw [jL rfl];simp -implicitDefEqProofs [-ac,-AV.one,-ad,wx,Um.v,Um.f,h37,hR]
 ·obtain ⟨c1,-⟩:=ky h0
  rcases c1 with rfl | rfl
  ·exact pW p hs hfl (w:=5) (n0:=0) (.inl ⟨rfl,rfl⟩) H h0
  ·exact pW p hs hfl (w:=10) (n0:=3) (.inr ⟨rfl,rfl⟩) H h0
theorem sd (p:Um):kx p=(bb p.ff).dropLast.map (·.length):=by
 rw [kx,List.dropLast_eq_take,bJ,bb,bb,List.map_take]
def uZ (w:Nat):List Bool:=if w=10 then [false,false,false] else []
theorem Df {p:Um} {w:Nat} {hb:List Nat} (hw:w=5∨w=10) (hfi:0≤p.fi∧p.fi≤3) (hsn:0≤p.sn∧p.sn<(2 ^ w:Nat)) (hp:PackR (gp p w) hb) (rest:List Nat) :
  hb.length=w / 5∧aq (hb++rest) 0 (uN0 w)=0∧iT (hb++rest) w=decide (1<p.ff.length)∧(uFI (hb++rest) w:Int)=p.fi∧(uSN (hb++rest) w:Int)=p.sn:=by
 have hul:=wW p hw
 obtain ⟨fi,sn,z,ff⟩:=p
 simp only at hfi hsn
 obtain ⟨fn,rfl⟩:∃ n:Nat,fi=n:=⟨fi.toNat,by omega⟩
 obtain ⟨sn',rfl⟩:∃ n:Nat,sn=n:=⟨sn.toNat,by omega⟩
 have hsn2:sn'<2 ^ w:=by omega
 have lF:(aQ fn 2).length=2:=bk _ _
 have vF:num (aQ fn 2)=fn:=eP 2 fn (by simp;omega)
 obtain ⟨F,hF⟩:=nm (aQ fn 2)
 rw [hF] at lF vF
 obtain ⟨mo,hmo⟩:=nm (decide (1<ff.length))
 obtain ⟨R,hR⟩:=nm (aL rest)
 have lS:(aQ sn' w).length=w:=bk _ _
 have vS:=eP w sn' hsn2
 obtain ⟨S,hS⟩:=nm (aQ sn' w)
 rw [hS] at lS vS
 have hx:gp ⟨fn,sn',z,ff⟩ w=uZ w++F++[mo]++S:=by simp only [gp,uZ,Int.toNat_natCast,hF,hmo,hS]
 have lZ:(uZ w).length=uN0 w:=by rcases hw with rfl | rfl<;>rfl
 have vZ:num (uZ w)=0:=by rcases hw with rfl | rfl<;>rfl
 generalize uZ w=Z at *
 obtain ⟨e1,e2⟩:=iJ hp (by rw [hul];omega)
 rw [hx] at e1
 have hB:aL (hb++rest)=Z++F++[mo]++S++R:=by rw [fL,e1,hR]
 generalize hb++rest=bs at *
 have n0:aq bs 0 (uN0 w)=num Z:=ba (pre:=[]) (post:=F++[mo]++S++R) (by rw [hB]<;>simp) rfl lZ
 have n1:aq bs (uN0 w) 2=num F:=ba (pre:=Z) (post:=[mo]++S++R) (by rw [hB]<;>simp) lZ lF
 have n2:aq bs (uN0 w+2) 1=num [mo]:=ba (pre:=Z++F) (post:=S++R) (by rw [hB]<;>simp) (by simp [lZ,lF]) rfl
 have n3:aq bs (uN0 w+3) w=num S:=ba (pre:=Z++F++[mo]) (post:=R) (by rw [hB]<;>simp) (by simp [lZ,lF]) lS
 rw [lj] at n2
 refine ⟨by omega,by rw [n0,vZ],?_,by rw [uFI,n1,vF],by rw [uSN,n3,vS]⟩
 rw [iT,n2]
 cases mo<;>simp [hmo]
theorem Dg {p:Um} {w:Int} {out:List Nat} (h0:en p w≠0) (h:WrU p w.toNat out) :
  cj out w=(0,bb p.ff)∧out.length=en p w∧(uFI out w.toNat:Int)=p.fi∧(uSN out w.toNat:Int)=p.sn:=by
 obtain ⟨hw,hfi,hsn,hf1,hf24,hsz⟩:=ky h0
 obtain ⟨wn,rfl,hwn⟩:∃ wn:Nat,w=wn∧(wn=5∨wn=10):=by
  rcases hw with rfl | rfl
  ·exact ⟨5,rfl,.inl rfl⟩
  ·exact ⟨10,rfl,.inr rfl⟩
 have htn:((wn:Nat):Int).toNat=wn:=by simp
 rw [htn] at hsn hsz h ⊢
 obtain ⟨s1,s2,s3,s4⟩:=f8 (bb p.ff) (iK p wn) (by rw [← hsz];exact h0)
 have hbne:bb p.ff≠[]:=fun e=>by have:=congrArg List.length e;rw [bJ] at this;simp at this;rw [this] at hf1;simp at hf1
 have hdl:=s3 hbne
 obtain ⟨hb,lb,hpk,hpl,rfl⟩:=h
 rw [List.append_assoc]
 obtain ⟨b1,b2,b3,b4,b5⟩:=Df hwn hfi hsn hpk (lb++(bb p.ff).flatten)
 have hll:(kx p).length=p.ff.length - 1:=by rw [sd,List.length_map,List.length_dropLast,bJ]
 have hlens:∀ n∈kx p,1≤n∧n≤2047:=fun n hn=>by
  rw [sd] at hn
  obtain ⟨b,hb1,rfl⟩:=List.mem_map.1 hn
  have h2:=s2 b hb1
  have h3:=s1 b (List.mem_of_mem_take (by rw [List.dropLast_eq_take] at hb1;exact hb1))
  omega
 have hlens2:∀ n∈kx p,1≤n∧n<2 ^ 11:=fun n hn=>by
  have h2:=hlens n hn
  have:(2:Nat) ^ 11=2048:=by decide
  omega
 have hcut:=qD (bb p.ff) hbne s1
 rw [← sd] at hcut
 have hany:((kx p).any fun n=>decide (2047<n))=false:=by
  refine List.any_eq_false.2 fun n hn=>?_
  have:=(hlens n hn).2
  simp;omega
 have hfields:bn (bb p.ff).flatten (kx p)=(0,bb p.ff):=by rw [bn,if_neg (by rw [hany];simp),hcut]
 have hlb:lb.length=bj (p.ff.length - 1) 11:=by
  by_cases h1:1≤(kx p).length
  ·rw [← hll];exact ((Ev hpl hlens2 h1 (by omega) []).2.2).symm
  ·have h2:=hpl.len
   rw [dJ,show (kx p).length=0 by omega] at h2
   rw [bj,if_pos (by omega)]
   simp at h2;simp [h2]
 have hbase:iK p wn=hb.length+lb.length:=by rw [iK,b1,hlb]
 rw [hbase] at hdl s4
 refine ⟨?_,?_,b4,b5⟩
 ·rw [cj,if_pos hw,if_neg (by simp only [List.length_append];omega),htn,if_neg (by simp only [List.length_append];omega),if_pos b2]
  have hd:(hb++(lb++(bb p.ff).flatten)).drop (wn / 5)=lb++(bb p.ff).flatten:=by rw [← b1,List.drop_left]
  rw [fO,hd,b3]
  by_cases h1:1<p.ff.length
  ·rw [decide_eq_true h1,if_pos rfl]
   obtain ⟨c1,c2,c3⟩:=Ev hpl hlens2 (by omega) (by omega) (bb p.ff).flatten
   rw [c1]
   simp only [if_true]
   rw [c2,c3,List.drop_left]
   exact hfields
  ·rw [decide_eq_false h1,if_neg (by simp)]
   have hl0:lb=[]:=zq8 (by rw [hlb,bj,if_pos (by omega)])
   have hL0:kx p=[]:=zq8 (by omega)
   rw [hl0,List.nil_append]
   rw [hL0] at hfields
   exact hfields
 ·rw [hsz,hbase,s4];simp only [List.length_append];omega
theorem Dh {bs:List Nat} {w:Nat} {q:Um} (hw:w=5∨w=10) (hl:w / 5≤bs.length) (h0:aq bs 0 (uN0 w)=0)
  (hq:q.fi=(uFI bs w:Nat)∧q.sn=(uSN bs w:Nat)) (hm:iT bs w=decide (1<q.ff.length)) :
  gp q w=aL (bs.take (w / 5)):=by
 obtain ⟨q2,q3⟩:=hq
 rw [rZ,gp,q2,q3,← hm,iT,uFI,uSN,Int.toNat_natCast,Int.toNat_natCast]
 have hz:uN0 w+3+w=8 * (w / 5):=by rcases hw with rfl | rfl<;>rfl
 have oz:=ej (bs:=bs) (a:=0) (n:=uN0 w) (by omega)
 rw [h0] at oz
 have oz2:aQ 0 (uN0 w)=(if w=10 then [false,false,false] else []):=by rcases hw with rfl | rfl<;>rfl
 rw [← oz2,oz,ej (by omega),fR (by omega),ej (by omega),← hz]
 have j1:=bT bs 0 (uN0 w) 2
 have j2:=bT bs 0 (uN0 w+2) 1
 have j3:=bT bs 0 (uN0 w+3) w
 rw [Nat.zero_add] at j1 j2 j3
 rw [j1,j2,show uN0 w+2+1=uN0 w+3 from rfl,j3]
theorem Lg {bs:List Nat} {w:Int} {ff:List (List Nat)} (h:cj bs w=(0,ff)) :
  (w=5∨w=10)∧bs.length≤4000∧w.toNat / 5≤bs.length∧aq bs 0 (uN0 w.toNat)=0∧fO (bs.drop (w.toNat / 5)) (iT bs w.toNat)=(0,ff):=by
 unfold cj at h
 by_cases hw:w=5∨w=10
 ·rw [if_pos hw] at h
  by_cases c1:4000<bs.length
  ·rw [if_pos c1] at h;simp at h
  rw [if_neg c1] at h
  by_cases c2:bs.length<w.toNat / 5
  ·rw [if_pos c2] at h;simp at h
  rw [if_neg c2] at h
  by_cases c3:aq bs 0 (uN0 w.toNat)=0
  ·rw [if_pos c3] at h
   exact ⟨hw,by omega,by omega,c3,h⟩
  ·rw [if_neg c3] at h;simp at h
 ·rw [if_neg hw] at h;simp at h
theorem Di {bs:List Nat} (hby:bF bs) {w:Int} {q:Um} (h:cj bs w=(0,bb q.ff))
  (hq:q.fi=(uFI bs w.toNat:Nat)∧q.sn=(uSN bs w.toNat:Nat)) :
  en q w=bs.length∧bs.length≠0∧WrU q w.toNat bs:=by
 obtain ⟨hw,hlen,hhd,hn0,hrest⟩:=Lg h
 obtain ⟨wn,rfl,hwn⟩:∃ wn:Nat,w=wn∧(wn=5∨wn=10):=by
  rcases hw with rfl | rfl
  ·exact ⟨5,rfl,.inl rfl⟩
  ·exact ⟨10,rfl,.inr rfl⟩
 have htn:((wn:Nat):Int).toNat=wn:=by simp
 rw [htn] at hhd hn0 hrest hq ⊢
 obtain ⟨n,hn⟩:=nm (wn / 5)
 have key:∃ lb:List Nat,PackR (ca 11 (kx q)) lb∧bs.drop n=lb++(bb q.ff).flatten∧(∀ f∈bb q.ff,f.length≠0)∧(∀ f∈(bb q.ff).dropLast,f.length≤2047)∧bb q.ff≠[]∧(bb q.ff).length≤24∧lb.length=bj (q.ff.length - 1) 11∧iT bs wn=decide (1<q.ff.length):=by
  rw [fO,hn] at hrest
  have hby2:bF (bs.drop n):=fun x hx=>hby x (List.mem_of_mem_drop hx)
  rw [sd]
  obtain ⟨ds,hds⟩:=nm (bs.drop n)
  rw [hds] at hrest hby2 ⊢
  cases hm:iT bs wn with
  | true =>
   rw [if_pos hm] at hrest
   by_cases he:(bc ds 11).2=0
   ·rw [if_pos he] at hrest
    obtain ⟨f1,f2⟩:=lm hrest
    obtain ⟨p1,p2⟩:=wS hby2 he
    obtain ⟨c1,c2,c3,c4⟩:=pR _ _ _ f1
    obtain ⟨o1,o2,o3⟩:=f7 he
    have hl:(bb q.ff).dropLast.length=(bc ds 11).1:=by
     have:=congrArg List.length c2
     rwa [List.length_map,cI] at this
    rw [List.length_dropLast,bJ] at hl
    refine ⟨ds.take (bj (bc ds 11).1 11),by rw [c2];exact p1,by rw [c1,List.take_append_drop],c4 p2,fun f hf=>f2 _ (by rw [← c2];exact List.mem_map_of_mem hf),c3,by rw [bJ];omega,?_,by rw [decide_eq_true (by omega)]⟩
    rw [List.length_take,hl]
    have:bj (bc ds 11).1 11=((bc ds 11).1 * (11+1)+7) / 8:=by rw [bj,if_neg (by omega)]
    omega
   ·rw [if_neg he] at hrest
    simp only [zqp] at hrest
    exact (he hrest.1).elim
  | false =>
   rw [if_neg (by rw [hm];simp)] at hrest
   obtain ⟨f1,f2⟩:=lm hrest
   obtain ⟨c1,c2,c3,c4⟩:=pR _ _ _ f1
   have hl:(bb q.ff).dropLast.length=0:=by
    have:=congrArg List.length c2
    rwa [List.length_map] at this
   have hd0:(bb q.ff).dropLast=[]:=zq8 hl
   rw [List.length_dropLast,bJ] at hl
   refine ⟨[],by rw [c2];exact PackR.nil,by rw [c1];rfl,c4 (by simp),by rw [hd0];simp,c3,by rw [bJ];omega,by rw [hl,bj,if_pos (by omega)];rfl,by rw [decide_eq_false (by omega)]⟩
 obtain ⟨lb,k1,k2,k3,k4,k5,k6,k7,k8⟩:=key
 have hhb:=Dh (q:=q) hwn hhd hn0 hq k8
 rw [hn] at hhb hhd
 have hnl:(bs.take n).length=n:=by rw [List.length_take];omega
 have hbs:bs=bs.take n++lb++(bb q.ff).flatten:=by rw [List.append_assoc,← k2,List.take_append_drop]
 have hlen2:=congrArg List.length hbs
 simp only [List.length_append,hnl] at hlen2
 have hpk:PackR (gp q wn) (bs.take n):=by
  have hx:(gp q wn).length=8 * n:=by rw [hhb,bP,hnl]
  refine ⟨by rw [hx,hnl];omega,fun b hb=>hby b (List.mem_of_mem_take hb),by rw [hhb,hnl,bP,hnl,Nat.sub_self];simp⟩
 have hbase:iK q wn=n+lb.length:=by rw [iK,hn,k7]
 have hsum:dg (iK q wn) (bb q.ff)=bs.length:=by
  rw [yf _ _ k3 k4 (by rw [hbase];omega),hbase];omega
 have hn1:1≤n:=by omega
 refine ⟨?_,by omega,⟨bs.take n,lb,hpk,k1,hbs⟩⟩
 obtain ⟨q2,q3⟩:=hq
 have hz:uN0 wn+3+wn=8 * (wn / 5):=by rcases hwn with rfl | rfl<;>rfl
 have b3:uFI bs wn<2 ^ 2:=bW (by omega)
 have b4:uSN bs wn<2 ^ wn:=bW (by omega)
 have hL:q.ff.length=(bb q.ff).length:=(bJ _).symm
 have hne:(bb q.ff).length≠0:=fun e=>k5 (zq8 e)
 rw [en,if_neg (not_not_intro hw),if_neg (by omega),if_neg (by omega),if_neg (by rw [htn,q3];omega),if_neg (by omega),if_neg (by omega),htn,hsum]
end Go.A.V.S
