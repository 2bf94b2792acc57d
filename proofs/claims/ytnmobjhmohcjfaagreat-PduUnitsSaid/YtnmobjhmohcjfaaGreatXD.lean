/- umd: sizes. -/
import Derived.Test.YtnmobjhmohcjfaaGreatXB
import Derived.Test.YtnmobjhmohcjfaaGreatV14
import Derived.Test.YtnmobjhmohcjfaaGreatXA
import Derived.Test.YtnmobjhmohcjfaaGreatXC
set_option linter.unusedSimpArgs false
set_option linter.unusedVariables false
set_option linter.unnecessarySimpa false
namespace Go.A.V.S
open Go Go.A
structure Um where
 fi:Int
 sn:Int
 z:Bool
 ff:List Bs
def Um.f (p:Um):AV:=lst p.z 1 none (bvs p.ff)
def Um.v (p:Um):List AV:=[ai p.fi,ai p.sn,p.f]
def iz (p:Um) (w:Nat):Nat:=w / 5+aS (p.ff.length - 1) 11
def dZ (p:Um) (w:Int):Nat:=
 if ¬ (w=5∨w=10) then 0 else if p.fi<0 then 0 else if 3<p.fi then 0 else if ¬ (0≤p.sn∧p.sn<(2 ^ w.toNat:Nat)) then 0
 else if p.ff.length<1 then 0 else if 24<p.ff.length then 0 else cQ (iz p w.toNat) (bb p.ff)
theorem f7 (w:Int) (H:ae):callW P oP [ai w] H=some (ab (decide (w=5∨w=10)),H):=by
 rw [uP rfl];simp -implicitDefEqProofs [-ac,-AV.one,-ad,Jw]
 split<;>simp_all
theorem pK (w:Nat) (h:w≤100) (H:ae):callW P qH [ai w] H=some (ai (w / 5:Nat),H):=by
 have e:IntKind.i64.wrap ((w:Int).tdiv 5)=((w / 5:Nat):Int):=by
  rw [Int.tdiv_eq_ediv_of_nonneg (by omega),aq (by omega) (by omega)];omega
 have e2:IntKind.i64.wrap ((w:Int) / 5)=((w / 5:Nat):Int):=by
  rw [aq (by omega) (by omega)];omega
 obtain ⟨d,hd⟩:=nm (w / 5)
 rw [hd] at e e2 ⊢
 rw [Cr rfl];simp -implicitDefEqProofs [-ac,-AV.one,-ad,Jx,e,e2]
section
variable {H:ae}
def Ps (H:ae) (Q:List AV) (z0:Bool) (ff:List Bs) (n0:Nat) (z:Nat) (σ:List AV) (G:ae):Prop:=
 ∃ (i n:Nat),i+z=ff.length∧n≤4000∧cQ n0 (bb ff)=cQ n ((bb ff).drop i)∧G=H∧σ=L 63 ((((((Tr.full 7).put (ag 2) (.lbox Q)).put (ag 5) (ai n)).put (ag 27) (lst z0 1 none (bvs ff))).put (ag 28) (ai ff.length)).put (ag 29) (ai i))
def CZ (H:ae) (ff:List Bs) (n0:Nat) (e:AExit) (σ:List AV) (G:ae):Prop:=
 G=H∧((e=.exit 0∧kill [2,27,28,29,30] σ=L 63 ((Tr.full 7).put (ag 5) (ai (cQ n0 (bb ff):Nat))))∨(e=.ret∧cQ n0 (bb ff)=0∧aA F_q109.res σ=some (ai 0)))
theorem Ul {ff:List Bs} {i:Nat} {x:Bs} (hx:ff[i]?=some x):(bb ff).drop i=x.2 :: (bb ff).drop (i+1):=by
 have h2:=gH hx
 have hi2:i<(bb ff).length:=(List.getElem?_eq_some_iff.1 h2).1
 rw [List.drop_eq_getElem_cons hi2]
 rw [zq6 hi2] at h2
 rw [zq1 h2]
set_option maxHeartbeats 1000000 in
theorem Uo {z0:Bool} {ff:List Bs} (fi sn:Int) (hl:ff.length≤24) (hs:∀ f∈ff,f.2.length≤100000) (n0:Nat) (z:Nat) (σ:List AV) (G:ae) (hI:Ps H [ai fi,ai sn,lst z0 1 none (bvs ff)] z0 ff n0 z (kill (bu fl) σ) G) :
  Ends (execW P lY (.loop fl) σ G) fun s=>CZ H ff n0 s.e s.σ s.H:=by
 refine aX (fun z σ G=>Ps H [ai fi,ai sn,lst z0 1 none (bvs ff)] z0 ff n0 z σ G) (CZ H ff n0) ?_ z σ G hI
 clear hI z σ G
 rintro z σ G ⟨i,n,hz,hn4,hsum,rfl,rfl⟩
 have hla:(bvs ff).length=ff.length:=bA ff
 by_cases hi:i<ff.length
 ·obtain ⟨x,hx⟩:∃ x,ff[i]?=some x:=⟨_,zq6 hi⟩
  have hxs:=hs x (List.mem_of_getElem? hx)
  have q1:=gO hx z0 none .i64
  rw [Ul hx,cQ,List.length_drop,br] at hsum
  have hxl:=cz x
  obtain ⟨xl,hxl'⟩:=nm (x.2.length)
  rw [hxl'] at hxl hsum hxs
  by_cases c1:xl=0
  ·rw [if_pos c1] at hsum
   simp -implicitDefEqProofs (disch:=first | omega | (simp;done) | fail) [-ac,-AV.one,-ad,gy,CM,fl,hla,q1,hxl]
   exact ⟨rfl,.inr ⟨rfl,hsum,by simp [F_q109]⟩⟩
  rw [if_neg c1] at hsum
  by_cases c2:2047<xl∧i+1<ff.length
  ·rw [if_pos ⟨c2.1,by omega⟩] at hsum
   simp -implicitDefEqProofs (disch:=first | omega | (simp;done) | fail) [-ac,-AV.one,-ad,gy,CM,fl,hla,q1,hxl]
   exact ⟨rfl,.inr ⟨rfl,hsum,by simp [F_q109]⟩⟩
  rw [if_neg (by omega)] at hsum
  by_cases c5:2047<xl
  ·by_cases c4:4000<n+xl
   ·rw [if_pos (by omega)] at hsum
    simp -implicitDefEqProofs (disch:=first | omega | (simp;done) | fail) [-ac,-AV.one,-ad,gy,CM,fl,hla,q1,hxl]
    exact ⟨rfl,.inr ⟨rfl,hsum,by simp [F_q109]⟩⟩
   ·rw [if_neg (by omega)] at hsum
    simp -implicitDefEqProofs (disch:=first | omega | (simp;done) | fail) [-ac,-AV.one,-ad,gy,CM,fl,hla,q1,hxl]
    exact ⟨z - 1,by omega,i+1,n+xl,by omega,by omega,hsum,rfl,by simp⟩
  ·by_cases c4:4000<n+xl
   ·rw [if_pos (by omega)] at hsum
    simp -implicitDefEqProofs (disch:=first | omega | (simp;done) | fail) [-ac,-AV.one,-ad,gy,CM,fl,hla,q1,hxl]
    exact ⟨rfl,.inr ⟨rfl,hsum,by simp [F_q109]⟩⟩
   ·rw [if_neg (by omega)] at hsum
    simp -implicitDefEqProofs (disch:=first | omega | (simp;done) | fail) [-ac,-AV.one,-ad,gy,CM,fl,hla,q1,hxl]
    exact ⟨z - 1,by omega,i+1,n+xl,by omega,by omega,hsum,rfl,by simp⟩
 ·have hnil:(bb ff).drop i=[]:=List.drop_eq_nil_of_le (by rw [br];omega)
  rw [hnil,cQ] at hsum
  rw [← hsum]
  simp -implicitDefEqProofs (disch:=first | omega | (simp;done) | fail) [-ac,-AV.one,-ad,gy,CM,fl,hla]
  exact ⟨rfl,.inl ⟨rfl,by simp⟩⟩
end
theorem KZ (p:Um) (hs:∀ f∈p.ff,f.2.length≤100000) (hfl:p.ff.length≤100000) {w:Nat} (hw:w≤100) (H:ae) :
  callW P lY [.agg p.v,ai w] H=some (ai (if p.ff.length<1∨24<p.ff.length then 0 else cQ (iz p w) (bb p.ff):Nat),H):=by
 obtain ⟨fi,sn,z0,ff⟩:=p
 simp only at hs hfl
 have hla:(bvs ff).length=ff.length:=bA ff
 have hh:=fun H=>pK w hw H
 by_cases h1:ff.length<1∨24<ff.length
 ·rw [if_pos h1]
  rcases h1 with h1 | h1
  ·rw [tQ rfl];simp -implicitDefEqProofs (disch:=first | omega | (simp;done) | fail) [-ac,-AV.one,-ad,gy,CM,Um.v,Um.f,hla]
  ·rw [tQ rfl];simp -implicitDefEqProofs (disch:=first | omega | (simp;done) | fail) [-ac,-AV.one,-ad,gy,CM,Um.v,Um.f,hla]
 rw [if_neg h1,iz]
 have hL:=fun H=>m3 (ff.length - 1) 11 (.inl rfl) (by omega) H
 have hll:=t9 (n:=ff.length - 1) (w:=11) (.inl rfl) (by omega)
 obtain ⟨k,hk⟩:=nm (ff.length - 1)
 have wk:IntKind.i64.wrap ((ff.length:Int) - 1)=(k:Int):=by rw [aq (by omega) (by omega)];omega
 simp only
 rw [hk] at hL hll ⊢
 replace hL:∀ H,callW P ny [ai k,ai 11] H=some (ai (aS k 11:Nat),H):=hL
 obtain ⟨hd,hhd⟩:=nm (w / 5)
 rw [hhd] at hh ⊢
 obtain ⟨ls,hls⟩:=nm (aS k 11)
 rw [hls] at hL hll ⊢
 have wn:IntKind.i64.wrap ((hd:Int)+ls)=((hd+ls:Nat):Int):=by rw [aq (by omega) (by omega)];omega
 obtain ⟨n0,hn0⟩:=nm (hd+ls)
 rw [hn0] at wn ⊢
 rw [cH]
 have hF:=Uo (H:=H) (z0:=z0) (ff:=ff) fi sn (by omega) hs n0 ff.length
 refine call_post 7 63 rfl (rfl:P.T lY=some F_q109) rfl (aF rfl) (fun e σ G=>e=.ret∧G=H∧aA F_q109.res σ=some (ai (cQ n0 (bb ff):Nat))) ?_ ?_
 ·rintro e σ G ⟨rfl,rfl,h⟩
  exact ⟨rfl,_,h,rfl,by simp⟩
 have g1:¬ (ff.length:Int)<1:=by omega
 have g1':¬ ff.length<1:=by omega
 have g2:¬ (ff.length:Int) > 24:=by omega
 have g2':¬ (24:Int)<ff.length:=by omega
 have g2'':¬ 24<ff.length:=by omega
 have g3:¬ ff=[]:=fun e=>by subst e;simp at g1'
 rw [F_q109];simp -implicitDefEqProofs [-ac,-AV.one,-ad,gy,Um.v,Um.f,hla,g1,g1',g2,g2',g2'',g3,hh,wk,hL,wn,aK,-cw,aB,aP,aC,aM,SOpG.reads,SOp.slots,SX.slots,SOp.noL,bq,av,aJ,aE,eqV]
 repeat rw [Option.bind_assoc]
 refine Ends.block (P:=CZ H ff n0) (hF _ _ ⟨0,n0,by omega,by omega,by simp,rfl,by simp [fl]⟩) ?_
 rintro e σ1 G1 ⟨rfl,⟨rfl,c⟩ | ⟨rfl,c1,c2⟩⟩
 ·generalize cQ n0 (bb ff)=s at *
  simp -implicitDefEqProofs (disch:=first | omega | (simp;done) | fail) [-ac,-AV.one,-ad,gy,CM,c]
 ·simp [F_q109] at c2
  rw [c1]
  simp -implicitDefEqProofs (disch:=first | omega | (simp;done) | fail) [-ac,-AV.one,-ad,gy,CM,c2]
theorem GS (H:ae):callW P i4 [.agg [ai 5]] H=some (ab true,H):=by
 rw [i8 rfl];simp -implicitDefEqProofs [-ac,-AV.one,-ad,tE,lP,fw]
theorem K0 (H:ae):callW P kF [.agg [ai 5]] H=some (ai 32,H):=by
 have h:=fun H=>GS H
 rw [fD rfl];simp -implicitDefEqProofs [-ac,-AV.one,-ad,tC,h]
 try rfl
theorem Uq {w:Nat} (hw:w=5∨w=10) (n:Int) (H:ae):callW P lp [.agg [ai w],ai n] H=some (ab (decide (0≤n∧n<(2 ^ w:Nat))),H):=by
 rcases hw with rfl | rfl
 ·have h79:=fun H=>K0 H
  show callW P lp [.agg [ai 5],ai n] H=some (ab (decide (0≤n∧n<32)),H)
  by_cases h0:n ≥ 0
  ·have h0':0≤n:=h0
   rw [eY rfl];simp -implicitDefEqProofs [-ac,-AV.one,-ad,wo,h79,h0,h0']
  ·have h0':¬ 0≤n:=h0
   rw [eY rfl];simp -implicitDefEqProofs [-ac,-AV.one,-ad,wo,h79,h0,h0']
 ·exact Ai (.inl rfl) n H
theorem K1 (p:Um) (hs:∀ f∈p.ff,f.2.length≤100000) (hfl:p.ff.length≤100000) (w:Int) (H:ae) :
  callW P vW [.agg p.v,ai w] H=some (ai (dZ p w:Nat),H):=by
 have hW:=fun H=>f7 w H
 by_cases hw:w=5∨w=10
 ·obtain ⟨wn,rfl,hwn⟩:∃ wn:Nat,w=wn∧(wn=5∨wn=10):=by
   rcases hw with rfl | rfl
   ·exact ⟨5,rfl,.inl rfl⟩
   ·exact ⟨10,rfl,.inr rfl⟩
  rw [decide_eq_true hw] at hW
  have htn:((wn:Nat):Int).toNat=wn:=by simp
  have hI:=fun H=>Uq hwn p.sn H
  have hS:=fun H=>KZ p hs hfl (w:=wn) (by omega) H
  rw [dZ,if_neg (not_not_intro hw),htn]
  have e:(if p.ff.length<1 then 0 else if 24<p.ff.length then 0 else cQ (iz p wn) (bb p.ff))=(if p.ff.length<1∨24<p.ff.length then 0 else cQ (iz p wn) (bb p.ff)):=by
   by_cases a1:p.ff.length<1
   ·rw [if_pos a1,if_pos (.inl a1)]
   ·by_cases a2:24<p.ff.length
    ·rw [if_neg a1,if_pos a2,if_pos (.inr a2)]
    ·rw [if_neg a1,if_neg a2,if_neg (by omega)]
  rw [e]
  obtain ⟨n,hn⟩:=nm ((if p.ff.length<1∨24<p.ff.length then 0 else cQ (iz p wn) (bb p.ff)))
  rw [hn] at hS ⊢
  obtain ⟨fi,sn,z0,ff⟩:=p
  simp only at hI
  simp only [Um.v,Um.f] at hS
  clear hn e hs hfl
  by_cases c1:fi<0
  ·rw [if_pos c1]
   rw [i9 rfl];simp -implicitDefEqProofs (disch:=first | omega | (simp;done) | fail) [-ac,-AV.one,-ad,tA,CM,Um.v,Um.f,hW]
  rw [if_neg c1]
  by_cases c2:3<fi
  ·rw [if_pos c2]
   rw [i9 rfl];simp -implicitDefEqProofs (disch:=first | omega | (simp;done) | fail) [-ac,-AV.one,-ad,tA,CM,Um.v,Um.f,hW]
  rw [if_neg c2]
  simp only
  by_cases c3:0≤sn∧sn<(2 ^ wn:Nat)
  ·rw [decide_eq_true c3] at hI
   rw [if_neg (not_not_intro c3)]
   clear c3
   rw [i9 rfl];simp -implicitDefEqProofs (disch:=first | omega | (simp;done) | fail) [-ac,-AV.one,-ad,tA,CM,Um.v,Um.f,hW,hI,hS]
  ·rw [decide_eq_false c3] at hI
   rw [if_pos c3]
   clear c3
   rw [i9 rfl];simp -implicitDefEqProofs (disch:=first | omega | (simp;done) | fail) [-ac,-AV.one,-ad,tA,CM,Um.v,Um.f,hW,hI]
 ·rw [decide_eq_false hw] at hW
  rw [dZ,if_pos hw]
  obtain ⟨fi,sn,z0,ff⟩:=p
  clear hs hfl
  rw [i9 rfl];simp -implicitDefEqProofs (disch:=first | omega | (simp;done) | fail) [-ac,-AV.one,-ad,tA,CM,Um.v,Um.f,hW]
theorem wK (p:Um) (hs:∀ f∈p.ff,f.2.length≤100000) (hfl:p.ff.length≤100000) (w:Int) (H:ae) :
  callW P tk [.agg p.v,ai w] H=some (ab (decide (0<dZ p w)),H):=by
 have h:=fun H=>K1 p hs hfl w H
 obtain ⟨n,hn⟩:=nm (dZ p w)
 rw [hn] at h ⊢
 obtain ⟨fi,sn,z0,ff⟩:=p
 simp only [Um.v,Um.f] at h
 clear hs hfl hn
 by_cases h0:0<n
 ·rw [rh rfl];simp -implicitDefEqProofs (disch:=first | omega | (simp;done) | fail) [-ac,-AV.one,-ad,DZ,CM,Um.v,Um.f,h]
 ·rw [rh rfl];simp -implicitDefEqProofs (disch:=first | omega | (simp;done) | fail) [-ac,-AV.one,-ad,DZ,CM,Um.v,Um.f,h]
def Pt (H:ae) (zl:Bool) (l:List Nat) (bs:List Nat) (z:Nat) (σ:List AV) (G:ae):Prop:=
 ∃ (i:Nat) (b:Bs) (out:List Bs),i+z=l.length∧out.length=i∧b.2.length≤10000∧eP bs l=(eP b.2 (l.drop i)).map (fun r=>out.map (·.2)++r)∧G=H ∧
  σ=L 49 (((((Tr.full 6).put (ag 0) (bv b)).put (ag 1) (lst zl 1 none (nvs l))).put (ag 6) (lst true 1 (some 32) (bvs out))).put (ag 7) (ai i))
def C0 (H:ae) (l:List Nat) (bs:List Nat) (e:AExit) (σ:List AV) (G:ae):Prop:=
 e=.ret∧G=H∧∃ out:List Bs,out.map (·.2)=(aV bs l).2∧aA F_q44.res σ=some (.tup [lst true 1 (some 48) (bvs out),ai ((aV bs l).1:Nat)])
theorem ya {H:ae} {zl:Bool} {l bs:List Nat} (hll:l.length≤23) (hsm:∀ n∈l,n≤2047) (hnov:(l.any fun n=>decide (2047<n))=false) (z:Nat) (σ:List AV) (G:ae) (hI:Pt H zl l bs z (kill (bu gq) σ) G) :
  Ends ((execW P nt gq σ G).bind (jumpW P nt DV 0)) fun s=>C0 H l bs s.e s.σ s.H:=by
 refine gN (Pt H zl l bs) (C0 H l bs) rfl ?_ z σ G hI
 clear hI z σ G
 rintro z σ G ⟨i,b,out,hz,ho,hb,hcut,rfl,hσ⟩
 rw [← cZ,hσ]
 have hlen:(nvs l).length=l.length:=dn l
 have hR:aV bs l=match eP bs l with
  | none=>(8,[])
  | some ff=>(0,ff):=by rw [aV,hnov];rfl
 by_cases hi:i<l.length
 ·have hi':(i:Int)<l.length:=by omega
  obtain ⟨n,hn⟩:∃ n,l[i]?=some n:=⟨_,zq6 hi⟩
  have hn2:=hsm n (List.mem_of_getElem? hn)
  have q1:=qr hn zl none .i64
  have hdr:l.drop i=n :: l.drop (i+1):=by
   rw [List.drop_eq_getElem_cons hi]
   rw [zq6 hi] at hn
   rw [zq1 hn]
  rw [hdr,eP] at hcut
  by_cases hc:b.2.length<n
  ·have hc':(n:Int) > b.2.length:=by omega
   have hc'':(b.2.length:Int)<n:=by omega
   rw [if_pos hc,Option.map_none] at hcut
   rw [hcut] at hR
   simp -implicitDefEqProofs [-ac,-AV.one,-ad,v9,gq,hlen,hi,hi',q1,hc,hc',hc'']
   exact ⟨rfl,rfl,[],by rw [hR];rfl,by rw [hR];simp [F_q44,bvs]⟩
  ·have hc':¬ (n:Int) > b.2.length:=by omega
   have hc'':¬ (b.2.length:Int)<n:=by omega
   rw [if_neg hc] at hcut
   have c1:=fun d=>CD (b:=b) (j:=n) (by omega) .i64 .i64 d
   have c3:=fun d=>eZ (b:=b) (i:=n) (by omega) .i64 d
   have e1:=jD b n
   have e2:=cM b n
   obtain ⟨x,hx⟩:=nm (dD b 0 n)
   obtain ⟨y,hy⟩:=nm (dD b n b.2.length)
   rw [hx] at c1 e1
   rw [hy] at c3 e2
   have c2:=fun H=>jf x (by rw [e1];simp;omega) H
   have hap:=fun σ H=>uR (m:=P.md nt) (d:=32) (bytes:=24) (v:=bv x) (JU 32) (by omega) (by rw [bA];omega) (l:=bvs out) (some 31) σ H
   rw [← jg] at hap
   have w6:IntKind.i64.wrap ((i:Int)+1)=((i+1:Nat):Int):=by rw [aq (by omega) (by omega)];omega
   obtain ⟨i1,hi1⟩:=nm (i+1)
   rw [hi1] at w6 hcut
   simp -implicitDefEqProofs [-ac,-AV.one,-ad,v9,gq,hlen,hi,hi',q1,hc,hc',hc'',c1,bvf,c2,hap,c3,w6]
   refine ⟨z - 1,by omega,i1,y,out++[x],by omega,by simp;omega,by rw [e2];simp;omega,?_,rfl,by simp⟩
   rw [hcut,e2]
   cases eP (b.2.drop n) (l.drop i1) with
   | none=>rfl
   | some r=>simp [e1]
 ·have hi':¬ (i:Int)<l.length:=by omega
  have hd:l.drop i=[]:=List.drop_eq_nil_of_le (by omega)
  rw [hd,eP] at hcut
  by_cases h0:b.2.length=0
  ·have h0':(b.2.length:Int)=0:=by omega
   have h0'':b.2=[]:=zq8 h0
   rw [if_pos h0,Option.map_none] at hcut
   rw [hcut] at hR
   simp -implicitDefEqProofs [-ac,-AV.one,-ad,v9,gq,hlen,hi,hi',h0,h0',h0'']
   exact ⟨rfl,rfl,[],by rw [hR];rfl,by rw [hR];simp [F_q44,bvs]⟩
  ·have h0':¬ (b.2.length:Int)=0:=by omega
   have h0'':¬ b.2=[]:=fun h=>h0 (by rw [h];rfl)
   rw [if_neg h0] at hcut
   rw [hcut] at hR
   have c2:=fun H=>jf b (by omega) H
   have hg:((out.length+1) * 24:Nat)≤100000:=by omega
   obtain ⟨cs,hap⟩:=xy (m:=P.md nt) (d:=48) (sz:=1) (bytes:=24) (c:=32) (l:=bvs out) (l':=[[bv b]]) (x:=.vs 1 (some 47) [[bv b]]) (JU 48) (fun H=>cR H 1 (some 47) [[bv b]]) (.inr (by simp)) (by simp [bA,aw];omega) (by simp [bA,aw];omega)
   rw [← jg] at hap
   simp -implicitDefEqProofs [-ac,-AV.one,-ad,v9,gq,hlen,hi,hi',h0,h0',h0'',c2,bvf,hap]
   refine ⟨rfl,rfl,out++[b],by rw [hR];simp,?_⟩
   have hne:bvs (out++[b])≠[]:=by simp [bvs]
   rw [hR]
   simp [F_q44,iW hne]
theorem kY {zl:Bool} {l:List Nat} (b:Bs) (hb:b.2.length≤10000) (hll:l.length≤23) (hsm:∀ n∈l,n≤2047) (H:ae):∃ out:List Bs,out.map (·.2)=(aV b.2 l).2∧callW P nt [bv b,lst zl 1 none (nvs l)] H=some (.tup [lst true 1 none (bvs out),ai ((aV b.2 l).1:Nat)],H):=by
 have hany:(l.any fun n=>decide (2047<n))=false:=by
  refine List.any_eq_false.2 fun n hn=>?_
  have:=hsm n hn
  simp;omega
 have key:Ends (callW P nt [bv b,lst zl 1 none (nvs l)] H) fun y=>∃ out:List Bs,out.map (·.2)=(aV b.2 l).2∧y=(.tup [lst true 1 none (bvs out),ai ((aV b.2 l).1:Nat)],H):=by
  refine call_post 6 49 rfl (rfl:P.T nt=some F_q44) rfl (aF rfl) (C0 H l b.2) ?_ ?_
  ·rintro e σ G ⟨rfl,rfl,out,h1,h2⟩
   exact ⟨rfl,_,h2,by simp,by simp;exact ⟨out,h1,rfl⟩⟩
  rw [F_q44];simp -implicitDefEqProofs [-ac,-AV.one,-ad,v9]
  refine ya (zl:=zl) hll hsm hany l.length _ _ ?_
  refine ⟨0,b,[],by omega,rfl,hb,?_,rfl,by simp [gq,bvs]⟩
  simp
 obtain ⟨y,h1,out,h2,rfl⟩:=key
 exact ⟨out,h2,h1⟩
def uN0 (w:Nat):Nat:=8 * (w / 5) - 3 - w
def uFI (bs:List Nat) (w:Nat):Nat:=aj bs (uN0 w) 2
def iI (bs:List Nat) (w:Nat):Bool:=decide (aj bs (uN0 w+2) 1=1)
def uSN (bs:List Nat) (w:Nat):Nat:=aj bs (uN0 w+3) w
def fC (d:List Nat) (more:Bool):Nat × List (List Nat):=
 if more=true then (if (aO d 11).2=0 then aV (d.drop (aS (aO d 11).1 11)) (bL d 11 (aO d 11).1) else ((aO d 11).2,[])) else aV d []
def bR (bs:List Nat) (w:Int):Nat × List (List Nat):=
 if w=5∨w=10 then (if 4000<bs.length then (2,[]) else if bs.length<w.toNat / 5 then (8,[]) else if aj bs 0 (uN0 w.toNat)=0 then fC (bs.drop (w.toNat / 5)) (iI bs w.toNat) else (3,[])) else (9,[])
def bZ (bs:List Nat) (w:Int) (f:AV):AV:=.tup [.agg (if (bR bs w).1=0 then [ai (uFI bs w.toNat:Nat),ai (uSN bs w.toNat:Nat),f] else [ai 0,ai 0,bc]),ai ((bR bs w).1:Nat)]
theorem mB {bs:List Nat} {c:Nat} (hc:c * 12≤8 * bs.length):∀ n∈bL bs 11 c,n≤2047:=by
 intro n hn
 obtain ⟨k,hk,rfl⟩:=List.mem_map.1 hn
 have hk':k<c:=by simpa using hk
 have:k * 12+12≤c * 12:=by
  have:=Nat.mul_le_mul_right 12 (show k+1≤c from hk')
  omega
 have h:=bK (bs:=bs) (a:=k * (11+1)+1) (n:=11) (by omega)
 have:(2:Nat) ^ 11=2048:=by decide
 simp only [kR]
 omega
set_option maxHeartbeats 2000000 in
theorem GT (b:Bs) (hb:b.2.length≤8192) (hby:bm b.2) (H:ae) :
  ∃ (out:List Bs) (k:Nat),out.map (·.2)=(bR b.2 5).2∧callW P nl [bv b,ai 5] H=some (bZ b.2 5 (lst true 1 none (bvs out)),H++List.replicate k .other):=by
 have hW:∀ H,callW P oP [ai 5] H=some (ab true,H):=fun H=>by rw [f7,decide_eq_true (by omega)]
 have hh:∀ H,callW P qH [ai 5] H=some (ai 1,H):=fun H=>pK 5 (by omega) H
 have hlen:=cz b
 have hw:(5:Int)=5∨(5:Int)=10:=by omega
 by_cases c1:4000<b.2.length
 ·have hR:bR b.2 5=(2,[]):=by rw [bR,if_pos hw,if_pos c1]
  refine ⟨[],0,by rw [hR];rfl,?_⟩
  rw [bZ,hR]
  clear hby hR
  rw [cj rfl];simp -implicitDefEqProofs (disch:=first | omega | (simp;done) | fail) [-ac,-AV.one,-ad,gm,CM,hW,hlen]
 by_cases c2:b.2.length<1
 ·have hR:bR b.2 5=(8,[]):=by rw [bR,if_pos hw,if_neg c1,if_pos (show b.2.length<Int.toNat 5 / 5 from c2)]
  refine ⟨[],0,by rw [hR];rfl,?_⟩
  rw [bZ,hR]
  clear hby hR
  rw [cj rfl];simp -implicitDefEqProofs (disch:=first | omega | (simp;done) | fail) [-ac,-AV.one,-ad,gm,CM,hW,hlen,hh]
 have hR:bR b.2 5=if aj b.2 0 0=0 then fC (b.2.drop 1) (iI b.2 5) else (3,[]):=by rw [bR,if_pos hw,if_neg c1,if_neg (show ¬ b.2.length<Int.toNat 5 / 5 from c2)];rfl
 obtain ⟨z,r1⟩:=kg b hb H
 have g1:=Get (H:=H++[.row [bv (z,b.2),ai 0]]) (rr:=H.length) (b:=(z,b.2)) (by simp) hb hby (a:=0) (by omega) 0 (by omega)
 have g2:=Get (H:=H++[.row [bv (z,b.2),ai 0]]) (rr:=H.length) (b:=(z,b.2)) (by simp) hb hby (a:=0) (by simp only;omega) 2 (by omega)
 have g3:=Get (H:=H++[.row [bv (z,b.2),ai 0]]) (rr:=H.length) (b:=(z,b.2)) (by simp) hb hby (a:=0+2) (by simp only;omega) 1 (by omega)
 have g4:=Get (H:=H++[.row [bv (z,b.2),ai 0]]) (rr:=H.length) (b:=(z,b.2)) (by simp) hb hby (a:=0+3) (by simp only;omega) 5 (by omega)
 rw [if_pos (by simp only;omega)] at g1 g2 g3 g4
 have hfin:∀ a,RD (H++[.row [bv (z,b.2),ai 0]]) H.length (z,b.2) a=H++[.row [bv (z,b.2),ai a]]:=fun a=>qp _ _ _ _
 simp only [hfin] at g1 g2 g3 g4
 obtain ⟨v0,hv0⟩:=nm (aj b.2 0 0)
 obtain ⟨v1,hv1⟩:=nm (aj b.2 0 2)
 obtain ⟨v2,hv2⟩:=nm (aj b.2 (0+2) 1)
 obtain ⟨v3,hv3⟩:=nm (aj b.2 (0+3) 5)
 have b1:v1<2 ^ 2:=by rw [← hv1];exact bK (by omega)
 have b3:v3<2 ^ 5:=by rw [← hv3];exact bK (by omega)
 have e1:uFI b.2 5=v1:=hv1
 have e2:iI b.2 5=decide (v2=1):=by rw [← hv2];rfl
 have e3:uSN b.2 5=v3:=hv3
 rw [hv0] at g1 hR
 rw [hv1] at g2
 rw [hv2] at g3
 rw [hv3] at g4
 rw [e2] at hR
 have i1:IntKind.i64.wrap (v1:Int)=v1:=aq (by omega) (by omega)
 have i3:IntKind.i64.wrap (v3:Int)=v3:=aq (by omega) (by simp at b3;omega)
 replace g1:callW P fk [.ptr H.length 0 2,ai 0] (H++[.row [bv (z,b.2),ai 0]])=some (.tup [.c (.int .u64 v0),ai 0],H++[.row [bv (z,b.2),ai 0]]):=g1
 replace g2:callW P fk [.ptr H.length 0 2,ai 2] (H++[.row [bv (z,b.2),ai 0]])=some (.tup [.c (.int .u64 v1),ai 0],H++[.row [bv (z,b.2),ai 2]]):=g2
 replace g3:callW P fk [.ptr H.length 0 2,ai 1] (H++[.row [bv (z,b.2),ai 2]])=some (.tup [.c (.int .u64 v2),ai 0],H++[.row [bv (z,b.2),ai 3]]):=g3
 replace g4:callW P fk [.ptr H.length 0 2,ai 5] (H++[.row [bv (z,b.2),ai 3]])=some (.tup [.c (.int .u64 v3),ai 0],H++[.row [bv (z,b.2),ai 8]]):=g4
 have n1:¬ (4000:Int)<b.2.length:=by omega
 have n1':¬ (b.2.length:Int) > 4000:=by omega
 have n2:¬ (b.2.length:Int)<1:=by omega
 have w8:IntKind.i64.wrap 8=8:=rfl
 have w5:IntKind.i64.wrap 5=5:=rfl
 have w0:IntKind.i64.wrap 0=0:=rfl
 by_cases hz:v0=0
 ·rw [if_pos hz] at hR
  subst hz
  replace g1:callW P fk [.ptr H.length 0 2,ai 0] (H++[.row [bv (z,b.2),ai 0]])=some (.tup [.c (.int .u64 0),ai 0],H++[.row [bv (z,b.2),ai 0]]):=g1
  have d1:=fun d=>eZ (b:=b) (i:=1) (by omega) .i64 d
  replace d1:∀ d,iC 1 d (bv b) (some (ai 1)) none none=some (bv (dD b 1 b.2.length)):=d1
  obtain ⟨b',hb'⟩:=nm (dD b 1 b.2.length)
  have hb3:b'.2=b.2.drop 1:=by rw [← hb',cM]
  rw [hb'] at d1
  rw [← hb3] at hR
  by_cases hm:v2=1
  ·subst hm
   replace g3:callW P fk [.ptr H.length 0 2,ai 1] (H++[.row [bv (z,b.2),ai 2]])=some (.tup [.c (.int .u64 1),ai 0],H++[.row [bv (z,b.2),ai 3]]):=g3
   rw [fC,if_pos (by decide)] at hR
   have l1:=fun H=>qq b' (by rw [hb3];simp;omega) (fun x hx=>hby x (by rw [hb3] at hx;exact List.mem_of_mem_drop hx)) (w:=11) (.inl rfl) H
   by_cases he:(aO b'.2 11).2=0
   ·rw [if_pos he] at hR
    have hok2:=fP he
    obtain ⟨cn,hcn⟩:=nm ((aO b'.2 11).1)
    have hres:dE b'.2 11 none=.tup [lst true 1 none (nvs (bL b'.2 11 cn)),ai (aS cn 11:Nat),ai 0]:=by rw [dE,if_pos he,hcn]
    rw [hcn] at hok2 hR
    rw [hres] at l1
    have hsm:=mB (bs:=b'.2) (c:=cn) (by omega)
    have hsz:aS cn 11≤b'.2.length:=by
     have:aS cn 11=(cn * (11+1)+7) / 8:=by rw [aS,if_neg (by omega)]
     omega
    obtain ⟨k,hk⟩:=nm (aS cn 11)
    rw [hk] at hsz l1 hR
    replace l1:∀ H,callW P jZ [bv b',ai 11] H=some (.tup [lst true 1 none (nvs (bL b'.2 11 cn)),ai k,ai 0],H++[.other]):=l1
    have f1:=fun d=>eZ (b:=b') (i:=k) hsz .i64 d
    obtain ⟨b2,hb2'⟩:=nm (dD b' k b'.2.length)
    have hb4:b2.2=b'.2.drop k:=by rw [← hb2',cM]
    rw [hb2'] at f1
    rw [← hb4] at hR
    have hll:(bL b'.2 11 cn).length≤23:=by rw [cu];omega
    obtain ⟨ls,hls⟩:=nm (bL b'.2 11 cn)
    rw [hls] at l1 hR hll hsm
    obtain ⟨out,q0,q1⟩:=kY (zl:=true) (l:=ls) b2 (by rw [hb4,hb3];simp;omega) hll hsm (H++[.row [bv (z,b.2),ai 8],.other])
    obtain ⟨ee,he4⟩:=nm ((aV b2.2 ls).1)
    rw [he4] at q1
    refine ⟨out,2,by rw [hR];exact q0,?_⟩
    rw [bZ,hR,he4,show uFI b.2 (Int.toNat 5)=v1 from e1,show uSN b.2 (Int.toNat 5)=v3 from e3]
    by_cases hee:ee=0
    ·have hee':(ee:Int)=0:=by omega
     rw [cj rfl];simp -implicitDefEqProofs [-ac,-AV.one,-ad,gm,w8,w5,w0,hW,hh,hlen,c1,c2,n1,n1',n2,r1,g1,g2,g3,g4,d1,l1,f1,q1,hee,hee',i1,i3,aK,-cw,aB,aP,aC,aM,SOpG.reads,SOp.slots,SX.slots,SOp.noL,bq,av,aJ,aE,eqV]
    ·have hee':¬ (ee:Int)=0:=by omega
     rw [cj rfl];simp -implicitDefEqProofs [-ac,-AV.one,-ad,gm,w8,w5,w0,hW,hh,hlen,c1,c2,n1,n1',n2,r1,g1,g2,g3,g4,d1,l1,f1,q1,hee,hee',i1,i3,aK,-cw,aB,aP,aC,aM,SOpG.reads,SOp.slots,SX.slots,SOp.noL,bq,av,aJ,aE,eqV]
   ·rw [if_neg he] at hR
    obtain ⟨ee,hee⟩:=nm ((aO b'.2 11).2)
    have hres:dE b'.2 11 none=.tup [bc,ai 0,ai (ee:Nat)]:=by rw [dE,if_neg he,hee]
    rw [hee] at he hR
    rw [hres] at l1
    replace l1:∀ H,callW P jZ [bv b',ai 11] H=some (.tup [bc,ai 0,ai (ee:Nat)],H++[.other]):=l1
    have he':¬ (ee:Int)=0:=by omega
    refine ⟨[],2,by rw [hR];rfl,?_⟩
    rw [bZ,hR]
    rw [cj rfl];simp -implicitDefEqProofs [-ac,-AV.one,-ad,gm,w8,w5,w0,hW,hh,hlen,c1,c2,n1,n1',n2,r1,g1,g2,g3,g4,d1,l1,he,he',aK,-cw,aB,aP,aC,aM,SOpG.reads,SOp.slots,SX.slots,SOp.noL,bq,av,aJ,aE,eqV]
  ·have hm':¬ (v2:Int)=1:=by omega
   rw [decide_eq_false hm,fC,if_neg (by decide)] at hR
   obtain ⟨out,q0,q1⟩:=kY (zl:=true) (l:=[]) b' (by rw [hb3];simp;omega) (by simp) (by simp) (H++[.row [bv (z,b.2),ai 8]])
   rw [nvs,List.map_nil,lst_nil] at q1
   obtain ⟨ee,he4⟩:=nm ((aV b'.2 []).1)
   rw [he4] at q1
   refine ⟨out,1,by rw [hR];exact q0,?_⟩
   rw [bZ,hR,he4,show uFI b.2 (Int.toNat 5)=v1 from e1,show uSN b.2 (Int.toNat 5)=v3 from e3]
   by_cases hee:ee=0
   ·have hee':(ee:Int)=0:=by omega
    rw [cj rfl];simp -implicitDefEqProofs [-ac,-AV.one,-ad,gm,w8,w5,w0,hW,hh,hlen,c1,c2,n1,n1',n2,r1,g1,g2,g3,g4,hm,hm',d1,q1,hee,hee',i1,i3,aK,-cw,aB,aP,aC,aM,SOpG.reads,SOp.slots,SX.slots,SOp.noL,bq,av,aJ,aE,eqV]
   ·have hee':¬ (ee:Int)=0:=by omega
    rw [cj rfl];simp -implicitDefEqProofs [-ac,-AV.one,-ad,gm,w8,w5,w0,hW,hh,hlen,c1,c2,n1,n1',n2,r1,g1,g2,g3,g4,hm,hm',d1,q1,hee,hee',i1,i3,aK,-cw,aB,aP,aC,aM,SOpG.reads,SOp.slots,SX.slots,SOp.noL,bq,av,aJ,aE,eqV]
 ·rw [if_neg hz] at hR
  have hz':¬ (v0:Int)=0:=by omega
  refine ⟨[],1,by rw [hR];rfl,?_⟩
  rw [bZ,hR]
  rw [cj rfl];simp -implicitDefEqProofs [-ac,-AV.one,-ad,gm,w8,w5,w0,hW,hh,hlen,c1,c2,n1,n1',n2,r1,g1,g2,g3,g4,hz,hz',aK,-cw,aB,aP,aC,aM,SOpG.reads,SOp.slots,SX.slots,SOp.noL,bq,av,aJ,aE,eqV]
set_option maxHeartbeats 2000000 in
theorem C1 (b:Bs) (hb:b.2.length≤8192) (hby:bm b.2) (H:ae) :
  ∃ (out:List Bs) (k:Nat),out.map (·.2)=(bR b.2 10).2∧callW P nl [bv b,ai 10] H=some (bZ b.2 10 (lst true 1 none (bvs out)),H++List.replicate k .other):=by
 have hW:∀ H,callW P oP [ai 10] H=some (ab true,H):=fun H=>by rw [f7,decide_eq_true (by omega)]
 have hh:∀ H,callW P qH [ai 10] H=some (ai 2,H):=fun H=>pK 10 (by omega) H
 have hlen:=cz b
 have hw:(10:Int)=5∨(10:Int)=10:=by omega
 by_cases c1:4000<b.2.length
 ·have hR:bR b.2 10=(2,[]):=by rw [bR,if_pos hw,if_pos c1]
  refine ⟨[],0,by rw [hR];rfl,?_⟩
  rw [bZ,hR]
  clear hby hR
  rw [cj rfl];simp -implicitDefEqProofs (disch:=first | omega | (simp;done) | fail) [-ac,-AV.one,-ad,gm,CM,hW,hlen]
 by_cases c2:b.2.length<2
 ·have hR:bR b.2 10=(8,[]):=by rw [bR,if_pos hw,if_neg c1,if_pos (show b.2.length<Int.toNat 10 / 5 from c2)]
  refine ⟨[],0,by rw [hR];rfl,?_⟩
  rw [bZ,hR]
  clear hby hR
  rw [cj rfl];simp -implicitDefEqProofs (disch:=first | omega | (simp;done) | fail) [-ac,-AV.one,-ad,gm,CM,hW,hlen,hh]
 have hR:bR b.2 10=if aj b.2 0 3=0 then fC (b.2.drop 2) (iI b.2 10) else (3,[]):=by rw [bR,if_pos hw,if_neg c1,if_neg (show ¬ b.2.length<Int.toNat 10 / 5 from c2)];rfl
 obtain ⟨z,r1⟩:=kg b hb H
 have g1:=Get (H:=H++[.row [bv (z,b.2),ai 0]]) (rr:=H.length) (b:=(z,b.2)) (by simp) hb hby (a:=0) (by omega) 3 (by omega)
 have g2:=Get (H:=H++[.row [bv (z,b.2),ai 0]]) (rr:=H.length) (b:=(z,b.2)) (by simp) hb hby (a:=3) (by simp only;omega) 2 (by omega)
 have g3:=Get (H:=H++[.row [bv (z,b.2),ai 0]]) (rr:=H.length) (b:=(z,b.2)) (by simp) hb hby (a:=3+2) (by simp only;omega) 1 (by omega)
 have g4:=Get (H:=H++[.row [bv (z,b.2),ai 0]]) (rr:=H.length) (b:=(z,b.2)) (by simp) hb hby (a:=3+3) (by simp only;omega) 10 (by omega)
 rw [if_pos (by simp only;omega)] at g1 g2 g3 g4
 have hfin:∀ a,RD (H++[.row [bv (z,b.2),ai 0]]) H.length (z,b.2) a=H++[.row [bv (z,b.2),ai a]]:=fun a=>qp _ _ _ _
 simp only [hfin] at g1 g2 g3 g4
 obtain ⟨v0,hv0⟩:=nm (aj b.2 0 3)
 obtain ⟨v1,hv1⟩:=nm (aj b.2 3 2)
 obtain ⟨v2,hv2⟩:=nm (aj b.2 (3+2) 1)
 obtain ⟨v3,hv3⟩:=nm (aj b.2 (3+3) 10)
 have b1:v1<2 ^ 2:=by rw [← hv1];exact bK (by omega)
 have b3:v3<2 ^ 10:=by rw [← hv3];exact bK (by omega)
 have e1:uFI b.2 10=v1:=hv1
 have e2:iI b.2 10=decide (v2=1):=by rw [← hv2];rfl
 have e3:uSN b.2 10=v3:=hv3
 rw [hv0] at g1 hR
 rw [hv1] at g2
 rw [hv2] at g3
 rw [hv3] at g4
 rw [e2] at hR
 have i1:IntKind.i64.wrap (v1:Int)=v1:=aq (by omega) (by omega)
 have i3:IntKind.i64.wrap (v3:Int)=v3:=aq (by omega) (by simp at b3;omega)
 replace g1:callW P fk [.ptr H.length 0 2,ai 3] (H++[.row [bv (z,b.2),ai 0]])=some (.tup [.c (.int .u64 v0),ai 0],H++[.row [bv (z,b.2),ai 3]]):=g1
 replace g2:callW P fk [.ptr H.length 0 2,ai 2] (H++[.row [bv (z,b.2),ai 3]])=some (.tup [.c (.int .u64 v1),ai 0],H++[.row [bv (z,b.2),ai 5]]):=g2
 replace g3:callW P fk [.ptr H.length 0 2,ai 1] (H++[.row [bv (z,b.2),ai 5]])=some (.tup [.c (.int .u64 v2),ai 0],H++[.row [bv (z,b.2),ai 6]]):=g3
 replace g4:callW P fk [.ptr H.length 0 2,ai 10] (H++[.row [bv (z,b.2),ai 6]])=some (.tup [.c (.int .u64 v3),ai 0],H++[.row [bv (z,b.2),ai 16]]):=g4
 have n1:¬ (4000:Int)<b.2.length:=by omega
 have n1':¬ (b.2.length:Int) > 4000:=by omega
 have n2:¬ (b.2.length:Int)<2:=by omega
 have w8:IntKind.i64.wrap 16=16:=rfl
 have w5:IntKind.i64.wrap 13=13:=rfl
 have w0:IntKind.i64.wrap 3=3:=rfl
 by_cases hz:v0=0
 ·rw [if_pos hz] at hR
  subst hz
  replace g1:callW P fk [.ptr H.length 0 2,ai 3] (H++[.row [bv (z,b.2),ai 0]])=some (.tup [.c (.int .u64 0),ai 0],H++[.row [bv (z,b.2),ai 3]]):=g1
  have d1:=fun d=>eZ (b:=b) (i:=2) (by omega) .i64 d
  replace d1:∀ d,iC 1 d (bv b) (some (ai 2)) none none=some (bv (dD b 2 b.2.length)):=d1
  obtain ⟨b',hb'⟩:=nm (dD b 2 b.2.length)
  have hb3:b'.2=b.2.drop 2:=by rw [← hb',cM]
  rw [hb'] at d1
  rw [← hb3] at hR
  by_cases hm:v2=1
  ·subst hm
   replace g3:callW P fk [.ptr H.length 0 2,ai 1] (H++[.row [bv (z,b.2),ai 5]])=some (.tup [.c (.int .u64 1),ai 0],H++[.row [bv (z,b.2),ai 6]]):=g3
   rw [fC,if_pos (by decide)] at hR
   have l1:=fun H=>qq b' (by rw [hb3];simp;omega) (fun x hx=>hby x (by rw [hb3] at hx;exact List.mem_of_mem_drop hx)) (w:=11) (.inl rfl) H
   by_cases he:(aO b'.2 11).2=0
   ·rw [if_pos he] at hR
    have hok2:=fP he
    obtain ⟨cn,hcn⟩:=nm ((aO b'.2 11).1)
    have hres:dE b'.2 11 none=.tup [lst true 1 none (nvs (bL b'.2 11 cn)),ai (aS cn 11:Nat),ai 0]:=by rw [dE,if_pos he,hcn]
    rw [hcn] at hok2 hR
    rw [hres] at l1
    have hsm:=mB (bs:=b'.2) (c:=cn) (by omega)
    have hsz:aS cn 11≤b'.2.length:=by
     have:aS cn 11=(cn * (11+1)+7) / 8:=by rw [aS,if_neg (by omega)]
     omega
    obtain ⟨k,hk⟩:=nm (aS cn 11)
    rw [hk] at hsz l1 hR
    replace l1:∀ H,callW P jZ [bv b',ai 11] H=some (.tup [lst true 1 none (nvs (bL b'.2 11 cn)),ai k,ai 0],H++[.other]):=l1
    have f1:=fun d=>eZ (b:=b') (i:=k) hsz .i64 d
    obtain ⟨b2,hb2'⟩:=nm (dD b' k b'.2.length)
    have hb4:b2.2=b'.2.drop k:=by rw [← hb2',cM]
    rw [hb2'] at f1
    rw [← hb4] at hR
    have hll:(bL b'.2 11 cn).length≤23:=by rw [cu];omega
    obtain ⟨ls,hls⟩:=nm (bL b'.2 11 cn)
    rw [hls] at l1 hR hll hsm
    obtain ⟨out,q0,q1⟩:=kY (zl:=true) (l:=ls) b2 (by rw [hb4,hb3];simp;omega) hll hsm (H++[.row [bv (z,b.2),ai 16],.other])
    obtain ⟨ee,he4⟩:=nm ((aV b2.2 ls).1)
    rw [he4] at q1
    refine ⟨out,2,by rw [hR];exact q0,?_⟩
    rw [bZ,hR,he4,show uFI b.2 (Int.toNat 10)=v1 from e1,show uSN b.2 (Int.toNat 10)=v3 from e3]
    by_cases hee:ee=0
    ·have hee':(ee:Int)=0:=by omega
     rw [cj rfl];simp -implicitDefEqProofs [-ac,-AV.one,-ad,gm,w8,w5,w0,hW,hh,hlen,c1,c2,n1,n1',n2,r1,g1,g2,g3,g4,d1,l1,f1,q1,hee,hee',i1,i3,aK,-cw,aB,aP,aC,aM,SOpG.reads,SOp.slots,SX.slots,SOp.noL,bq,av,aJ,aE,eqV]
    ·have hee':¬ (ee:Int)=0:=by omega
     rw [cj rfl];simp -implicitDefEqProofs [-ac,-AV.one,-ad,gm,w8,w5,w0,hW,hh,hlen,c1,c2,n1,n1',n2,r1,g1,g2,g3,g4,d1,l1,f1,q1,hee,hee',i1,i3,aK,-cw,aB,aP,aC,aM,SOpG.reads,SOp.slots,SX.slots,SOp.noL,bq,av,aJ,aE,eqV]
   ·rw [if_neg he] at hR
    obtain ⟨ee,hee⟩:=nm ((aO b'.2 11).2)
    have hres:dE b'.2 11 none=.tup [bc,ai 0,ai (ee:Nat)]:=by rw [dE,if_neg he,hee]
    rw [hee] at he hR
    rw [hres] at l1
    replace l1:∀ H,callW P jZ [bv b',ai 11] H=some (.tup [bc,ai 0,ai (ee:Nat)],H++[.other]):=l1
    have he':¬ (ee:Int)=0:=by omega
    refine ⟨[],2,by rw [hR];rfl,?_⟩
    rw [bZ,hR]
    rw [cj rfl];simp -implicitDefEqProofs [-ac,-AV.one,-ad,gm,w8,w5,w0,hW,hh,hlen,c1,c2,n1,n1',n2,r1,g1,g2,g3,g4,d1,l1,he,he',aK,-cw,aB,aP,aC,aM,SOpG.reads,SOp.slots,SX.slots,SOp.noL,bq,av,aJ,aE,eqV]
  ·have hm':¬ (v2:Int)=1:=by omega
   rw [decide_eq_false hm,fC,if_neg (by decide)] at hR
   obtain ⟨out,q0,q1⟩:=kY (zl:=true) (l:=[]) b' (by rw [hb3];simp;omega) (by simp) (by simp) (H++[.row [bv (z,b.2),ai 16]])
   rw [nvs,List.map_nil,lst_nil] at q1
   obtain ⟨ee,he4⟩:=nm ((aV b'.2 []).1)
   rw [he4] at q1
   refine ⟨out,1,by rw [hR];exact q0,?_⟩
   rw [bZ,hR,he4,show uFI b.2 (Int.toNat 10)=v1 from e1,show uSN b.2 (Int.toNat 10)=v3 from e3]
   by_cases hee:ee=0
   ·have hee':(ee:Int)=0:=by omega
    rw [cj rfl];simp -implicitDefEqProofs [-ac,-AV.one,-ad,gm,w8,w5,w0,hW,hh,hlen,c1,c2,n1,n1',n2,r1,g1,g2,g3,g4,hm,hm',d1,q1,hee,hee',i1,i3,aK,-cw,aB,aP,aC,aM,SOpG.reads,SOp.slots,SX.slots,SOp.noL,bq,av,aJ,aE,eqV]
   ·have hee':¬ (ee:Int)=0:=by omega
    rw [cj rfl];simp -implicitDefEqProofs [-ac,-AV.one,-ad,gm,w8,w5,w0,hW,hh,hlen,c1,c2,n1,n1',n2,r1,g1,g2,g3,g4,hm,hm',d1,q1,hee,hee',i1,i3,aK,-cw,aB,aP,aC,aM,SOpG.reads,SOp.slots,SX.slots,SOp.noL,bq,av,aJ,aE,eqV]
 ·rw [if_neg hz] at hR
  have hz':¬ (v0:Int)=0:=by omega
  refine ⟨[],1,by rw [hR];rfl,?_⟩
  rw [bZ,hR]
  rw [cj rfl];simp -implicitDefEqProofs [-ac,-AV.one,-ad,gm,w8,w5,w0,hW,hh,hlen,c1,c2,n1,n1',n2,r1,g1,g2,g3,g4,hz,hz',aK,-cw,aB,aP,aC,aM,SOpG.reads,SOp.slots,SX.slots,SOp.noL,bq,av,aJ,aE,eqV]
section
variable {H:ae}
def K2 (H:ae) (z1:Bool) (r:List Bs) (z:Nat) (σ:List AV) (G:ae):Prop:=
 ∃ i:Nat,i+z=r.length∧G=H∧σ=L 23 (((((Tr.full 5).put (ag 3) (lst true 1 (some 20) (nvs (((bb r).take i).map (·.length))))).put (ag 10) (lst z1 1 none (bvs r))).put (ag 11) (ai r.length)).put (ag 12) (ai i))
def C2 (H:ae) (r:List Bs) (e:AExit) (σ:List AV) (G:ae):Prop:=
 G=H∧e=.exit 0∧kill [10,11,12,13] σ=L 23 ((Tr.full 5).put (ag 3) (lst true 1 (some 20) (nvs ((bb r).map (·.length)))))
theorem Ur {z1:Bool} {r:List Bs} (hl:r.length≤100) (z:Nat) (σ:List AV) (G:ae)
  (hI:K2 H z1 r z (kill (bu mT) σ) G) :
  Ends (execW P qP (.loop mT) σ G) fun s=>C2 H r s.e s.σ s.H:=by
 refine aX (fun z σ G=>K2 H z1 r z σ G) (C2 H r) ?_ z σ G hI
 clear hI z σ G
 rintro z σ G ⟨i,hz,rfl,rfl⟩
 have hla:(bvs r).length=r.length:=bA r
 by_cases hi:i<r.length
 ·have hi':(i:Int)<r.length:=by omega
  obtain ⟨x,hx⟩:∃ x,r[i]?=some x:=⟨_,zq6 hi⟩
  have q1:=gO hx z1 none .i64
  have hxl:=cz x
  have hsn:((bb r).take (i+1)).map (·.length)=((bb r).take i).map (·.length)++[x.2.length]:=by rw [ej (gH hx)];simp
  have hap:=fun σ H=>uR (m:=P.md qP) (d:=20) (bytes:=8) (v:=ai x.2.length) (Pe 20) (by omega) (by rw [dn];simp [br];omega) (l:=nvs (((bb r).take i).map (·.length))) (some 19) σ H
  rw [← mu,← hsn] at hap
  have w6:IntKind.i64.wrap ((i:Int)+1)=((i+1:Nat):Int):=by rw [aq (by omega) (by omega)];omega
  obtain ⟨i1,hi1⟩:=nm (i+1)
  rw [hi1] at w6 hap
  generalize nvs (((bb r).take i).map (·.length))=L0 at *
  have hres:∀ σ,σ=L 23 (((((Tr.full 5).put (ag 3) (lst true 1 (some 20) (nvs (((bb r).take i1).map (·.length))))).put (ag 10) (lst z1 1 none (bvs r))).put (ag 11) (ai r.length)).put (ag 12) (ai i1))→∃ m,m<z∧K2 G z1 r m σ G:=fun σ e=>⟨z - 1,by omega,i1,by omega,rfl,e⟩
  generalize nvs (((bb r).take i1).map (·.length))=L1 at *
  simp -implicitDefEqProofs [-ac,-AV.one,-ad,zC,mT,hla,hi,hi',q1,hxl,hap,w6]
  exact hres _ (by simp)
 ·have hi':¬ (i:Int)<r.length:=by omega
  have hall:(bb r).take i=bb r:=List.take_of_length_le (by rw [br];omega)
  rw [hall]
  obtain ⟨L0,hL0⟩:=nm (nvs ((bb r).map (·.length)))
  rw [hL0]
  simp -implicitDefEqProofs [-ac,-AV.one,-ad,zC,mT,hla,hi,hi']
  exact ⟨rfl,rfl,by rw [hL0];simp⟩
theorem Aw {z0:Bool} {ff:List Bs} (h1:1≤ff.length) (hl:ff.length≤24) (H:ae) :
  callW P qP [lst z0 1 none (bvs ff)] H=some (lst true 1 (some 0) (nvs ((bb (ff.take (ff.length - 1))).map (·.length))),H):=by
 obtain ⟨l1,hl1⟩:=nm (ff.length - 1)
 obtain ⟨r,hr⟩:=nm (ff.take l1)
 have hrl:r.length=l1:=by rw [← hr,List.length_take];omega
 rw [hl1,hr]
 have wl:IntKind.i64.wrap ((ff.length:Int) - 1)=(l1:Int):=by rw [aq (by omega) (by omega)];omega
 have hla:(bvs ff).length=ff.length:=bA ff
 have hcut:∀ d,iC 1 d (lst z0 1 none (bvs ff)) none (some (ai l1)) none=some (lst (z0 && (bvs ff).isEmpty) 1 none (bvs r)):=fun d=>by
  have h:=oM (lo:=none) (hi:=some (ai l1)) (i:=0) (j:=l1) z0 1 none d (bvs ff) (.inl ⟨rfl,rfl⟩) (.inr ⟨.i64,rfl⟩) (by omega) (by rw [hla];omega)
  rw [h,sX,List.drop_zero,← hr,bvs,bvs,List.map_take]
 have hrb:(bvs r).length=l1:=by rw [bA,hrl]
 suffices hend:Ends (callW P qP [lst z0 1 none (bvs ff)] H) fun y=>y=(lst true 1 (some 0) (nvs ((bb r).map (·.length))),H) by
  obtain ⟨y,h2,rfl⟩:=hend
  exact h2
 refine call_post 5 23 rfl (rfl:P.T qP=some F_q71) rfl (aF rfl) (fun e σ G=>e=.ret∧G=H∧aA F_q71.res σ=some (lst true 1 (some 20) (nvs ((bb r).map (·.length))))) ?_ ?_
 ·rintro e σ G ⟨rfl,rfl,h2⟩
  refine ⟨rfl,_,h2,by simp,?_⟩
  simp
 obtain ⟨L0,hL0⟩:=nm (nvs ((bb r).map (·.length)))
 rw [F_q71];simp -implicitDefEqProofs [-ac,-AV.one,-ad,zC,hla,wl,hcut,hrb]
 repeat rw [Option.bind_assoc]
 refine Ends.block (P:=C2 H r) (Ur (z1:=z0 && (bvs ff).isEmpty) (by omega) r.length _ _ ⟨0,by omega,rfl,by simp [mT,nvs,bb,hrl]⟩) ?_
 rintro e σ1 G2 ⟨rfl,rfl,k2⟩
 rw [hL0] at k2 ⊢
 simp -implicitDefEqProofs [-ac,-AV.one,-ad,zC,k2]
end
def f8 (p:Um) (w:Nat):List Bool:=
 ((if w=10 then [false,false,false] else [])++aD p.fi.toNat 2++[decide (1<p.ff.length)])++aD p.sn.toNat w
def ki (p:Um):List Nat:=(bb (p.ff.take (p.ff.length - 1))).map (·.length)
def WrU (p:Um) (w:Nat) (out:List Nat):Prop:=∃ hb lb,PackR (f8 p w) hb∧PackR (bO 11 (ki p)) lb∧out=hb++lb++(bb p.ff).flatten
theorem wL (p:Um) {w:Nat} (hw:w=5∨w=10):(f8 p w).length=8 * (w / 5):=by
 unfold f8
 rcases hw with rfl | rfl<;>simp [aT]
theorem kj {p:Um} {w:Int} (h:dZ p w≠0):(w=5∨w=10)∧(0≤p.fi∧p.fi≤3)∧(0≤p.sn∧p.sn<(2 ^ w.toNat:Nat))∧1≤p.ff.length∧p.ff.length≤24∧dZ p w=cQ (iz p w.toNat) (bb p.ff):=by
 rw [dZ] at h ⊢
 by_cases c1:w=5∨w=10
 ·rw [if_neg (not_not_intro c1)] at h ⊢
  by_cases c2:p.fi<0
  ·rw [if_pos c2] at h;exact (h rfl).elim
  rw [if_neg c2] at h ⊢
  by_cases c3:3<p.fi
  ·rw [if_pos c3] at h;exact (h rfl).elim
  rw [if_neg c3] at h ⊢
  by_cases c4:0≤p.sn∧p.sn<(2 ^ w.toNat:Nat)
  ·rw [if_neg (not_not_intro c4)] at h ⊢
   by_cases c5:p.ff.length<1
   ·rw [if_pos c5] at h;exact (h rfl).elim
   rw [if_neg c5] at h ⊢
   by_cases c6:24<p.ff.length
   ·rw [if_pos c6] at h;exact (h rfl).elim
   rw [if_neg c6]
   exact ⟨c1,⟨by omega,by omega⟩,c4,by omega,by omega,rfl⟩
  ·rw [if_pos c4] at h;exact (h rfl).elim
 ·rw [if_pos c1] at h;exact (h rfl).elim
theorem K3 {w n0:Nat} (hw:w=5∧n0=0∨w=10∧n0=3):aD 0 n0=(if w=10 then [false,false,false] else []):=by
 rcases hw with ⟨rfl,rfl⟩ | ⟨rfl,rfl⟩<;>decide
theorem Ov {p:Um} {n:Nat} (h:cQ n (bb p.ff)≠0):∀ n∈ki p,1≤n∧n<2 ^ 11:=fun n hn=>by
 obtain ⟨s1,s2,s3,s4⟩:=fQ (bb p.ff) _ h
 rw [ki] at hn
 obtain ⟨b,hb1,rfl⟩:=List.mem_map.1 hn
 have hdr:bb (p.ff.take (p.ff.length - 1))=(bb p.ff).dropLast:=by rw [List.dropLast_eq_take,br,bb,bb,List.map_take]
 rw [hdr] at hb1
 have h2:=s2 b hb1
 have h3:=s1 b (List.mem_of_mem_take (by rw [List.dropLast_eq_take] at hb1;exact hb1))
 have:(2:Nat) ^ 11=2048:=by decide
 omega
section
variable {H:ae}
set_option maxHeartbeats 2000000 in
theorem pL (p:Um) (hs:∀ f∈p.ff,f.2.length≤100000) (hfl:p.ff.length≤100000) {w n0:Nat} (hw:w=5∧n0=0∨w=10∧n0=3) (H:ae) (h0:dZ p w≠0) :
  ∃ out k,WrU p w out∧callW P li [.agg p.v,ai w] H=some (.tup [.vs 1 none (ax out),ai 0],H++List.replicate k .other):=by
 obtain ⟨c1,⟨hf0,hf3⟩,⟨hs0,hs1⟩,hl1,hl24,hsz⟩:=kj h0
 have h37:=fun H=>f7 w H
 rw [decide_eq_true c1] at h37
 have hR:=fun H=>wK p hs hfl w H
 rw [decide_eq_true (by omega)] at hR
 have htn:((w:Nat):Int).toNat=w:=by simp
 rw [htn] at hs1 hsz
 rw [hsz] at h0
 have hlens:=Ov h0
 obtain ⟨s1,s2,s3,s4⟩:=fQ (bb p.ff) _ h0
 have hbne:bb p.ff≠[]:=fun e=>by have:=congrArg List.length e;rw [br] at this;simp at this;rw [this] at hl1;simp at hl1
 have hdl:=s3 hbne
 clear s1 s2 s3 s4 hbne h0 hsz
 have hul:=wL p (w:=w) (by omega)
 have huB:f8 p w=aD 0 n0++aD p.fi.toNat 2++[decide (1<p.ff.length)]++aD p.sn.toNat w:=by rw [f8,K3 hw]
 have hW:∀ hb lb,PackR (f8 p w) hb→PackR (bO 11 (ki p)) lb→WrU p w (hb++lb++(bb p.ff).flatten):=fun hb lb a b=>⟨hb,lb,a,b,rfl⟩
 have hlu:ki p=(bb (p.ff.take (p.ff.length - 1))).map (·.length):=rfl
 have hll:(ki p).length=p.ff.length - 1:=by rw [hlu];simp [br]
 generalize WrU p w=WW at *
 generalize ki p=ls at *
 generalize f8 p w=ub at *
 obtain ⟨fi,sn,z0,ff⟩:=p
 simp only [Um.v,Um.f] at *
 have hld:=fun H=>Aw (z0:=z0) hl1 hl24 H
 rw [← hlu] at hld
 have hJ:=fun H=>ug (z0:=z0) hfl (by omega:(bb ff).flatten.length≤1000000) H
 generalize (bb ff).flatten=data at *
 clear hs hfl hlu
 obtain ⟨fn,rfl⟩:∃ n:Nat,fi=n:=⟨fi.toNat,by omega⟩
 obtain ⟨sn',rfl⟩:∃ n:Nat,sn=n:=⟨sn.toNat,by omega⟩
 have hw16:2 ^ w≤2 ^ 10:=Nat.pow_le_pow_right (by omega) (by omega)
 have e16:(2:Nat) ^ 10=1024:=by decide
 have hsn2:sn'<2 ^ w:=by omega
 have wfi:IntKind.u64.wrap (fn:Int)=fn:=bJ (by omega) (by omega)
 have wsn:IntKind.u64.wrap (sn':Int)=sn':=bJ (by omega) (by omega)
 have hh:=fun H=>pK w (by omega) H
 have w8:IntKind.i64.wrap (8 * ((w / 5:Nat):Int))=(n0+3+w:Nat):=by rcases hw with ⟨rfl,rfl⟩ | ⟨rfl,rfl⟩<;>rfl
 have w5:IntKind.i64.wrap (((n0+3+w:Nat):Int) - 3)=(n0+w:Nat):=by rcases hw with ⟨rfl,rfl⟩ | ⟨rfl,rfl⟩<;>rfl
 have w0:IntKind.i64.wrap (((n0+w:Nat):Int) - w)=n0:=by rcases hw with ⟨rfl,rfl⟩ | ⟨rfl,rfl⟩<;>rfl
 generalize ((w / 5:Nat):Int)=hd at *
 generalize ((n0+3+w:Nat):Int)=q8 at *
 generalize ((n0+w:Nat):Int)=q5 at *
 have hla:(bvs ff).length=ff.length:=bA ff
 obtain ⟨l1,hl1e⟩:=nm (ff.length - 1)
 have wl:IntKind.i64.wrap ((ff.length:Int) - 1)=(l1:Int):=by rw [aq (by omega) (by omega)];omega
 have c0:=pD H
 have hcs:∀ a b:List Nat,ax a++ax b=ax (a++b):=fun a b=>by simp [ax]
 obtain ⟨x1,y1,e1,n1,p1,k1⟩:=dK (H:=H) (l:=[]) (bits:=[]) (m:=0) rfl PackR.nil (by omega) 0 n0 (by omega) (Nat.two_pow_pos _) 0 n0 rfl rfl
 obtain ⟨x2,y2,e2,n2,p2,k2⟩:=dK (H:=H) n1 p1 (by omega) fn 2 (by omega) (by simp;omega) fn 2 rfl rfl
 by_cases hl0:l1=0
 ·have hls0:ls=[]:=zq8 (by omega)
  obtain ⟨x3,y3,e3,n3,p3,k3⟩:=dK (H:=H) n2 p2 (by omega) 0 1 (by omega) (by decide) 0 1 rfl rfl
  obtain ⟨x4,y4,e4,n4,p4,k4⟩:=dK (H:=H) n3 p3 (by omega) sn' w (by omega) hsn2 sn' w rfl rfl
  have hb:ub=x4:=by rw [huB,e4,e3,e2,e1,pA,decide_eq_false (by omega),Int.toNat_natCast,Int.toNat_natCast,List.nil_append]
  have hx0:x4≠[]:=fun e=>by rw [e,List.length_nil] at n4;omega
  have c9:=fo (H:=H) p4 hx0 (by omega)
  obtain ⟨t1,t2⟩:=my (H:=H) y4 hx0
  generalize WN H x4 y4=G0 at *
  obtain ⟨zd,fd,kd,hD⟩:=hJ G0
  have hyl:y4.length≤100:=by have:=p4.len;omega
  have wz:IntKind.u64.wrap 0=0:=rfl
  have hmn:mn (l1:Int) 1=0:=by rw [mn,if_neg (by omega)];omega
  have hap:=fun (f:Option Nat) σ H=>gU (m:=P.md li) (d:=70) (bytes:=1) (c:=50) (l:=ax y4) (l':=ax data) (x:=lst zd 1 f (ax data)) (fun H=>elems_lst zd f 1 _ H) (by simp [bg,aw];omega) (by simp [bg,aw];omega) σ H
  have hres:=hW y4 [] (by rw [hb];exact p4) (by rw [hls0];exact PackR.nil)
  rw [List.append_nil] at hres
  rw [hcs] at hap
  generalize y4++data=out at *
  have t1':(G0++List.replicate kd AObj.other).take H.length=H:=by rw [List.take_append_of_le_length (by omega),t1]
  have t2':(G0++List.replicate kd AObj.other).length=H.length+(2+kd):=by simp [t2];omega
  generalize G0++List.replicate kd AObj.other=G1 at *
  refine ⟨out,2+kd,hres,?_⟩
  clear hres hW huB hlens hls0 hb
  rw [jA rfl];simp -implicitDefEqProofs [-ac,-AV.one,-ad,vX,aK,aB,aP,aC,aM,SOpG.reads,SOp.slots,SX.slots,SOp.noL,rdV,av,aJ,aE,eqV,h37,hR,c0,hla,wl,hmn,wz,hh,w8,w5,w0,k1,wfi,k2,k3,wsn,k4,c9,hD,hap,t1',t2']
 ·have hl0p:0<l1:=by omega
  obtain ⟨x3,y3,e3,n3,p3,k3⟩:=dK (H:=H) n2 p2 (by omega) 1 1 (by omega) (by decide) 1 1 rfl rfl
  obtain ⟨x4,y4,e4,n4,p4,k4⟩:=dK (H:=H) n3 p3 (by omega) sn' w (by omega) hsn2 sn' w rfl rfl
  have hb:ub=x4:=by rw [huB,e4,e3,e2,e1,pz,decide_eq_true (by omega),Int.toNat_natCast,Int.toNat_natCast,List.nil_append]
  have hx0:x4≠[]:=fun e=>by rw [e,List.length_nil] at n4;omega
  have c9:=fo (H:=H) p4 hx0 (by omega)
  obtain ⟨t1,t2⟩:=my (H:=H) y4 hx0
  generalize WN H x4 y4=G0 at *
  obtain ⟨lb,hpb,hL⟩:=ui (z0:=true) (l:=ls) (w:=11) (by omega) (by omega) (.inl rfl) hlens G0
  replace hL:callW P qO [lst true 1 none (nvs ls),ai 11] G0=some (.tup [.vs 1 none (ax lb),ai 0],G0++List.replicate 2 .other):=hL
  have hlbl:=hpb.len
  have hlb2:=pF (w:=11) (.inl rfl) (l:=ls) (by omega)
  obtain ⟨zd,fd,kd,hD⟩:=hJ (G0++List.replicate 2 .other)
  rw [iM] at hD
  generalize G0++List.replicate 2 AObj.other=GL at *
  have hyl:y4.length≤100:=by have:=p4.len;omega
  have wz:IntKind.u64.wrap 1=1:=rfl
  have hmn:mn (l1:Int) 1=1:=by
   by_cases h:l1=1
   ·rw [h];rfl
   ·rw [mn,if_pos (by omega)]
  have hap1:=fun σ H=>gU (m:=P.md li) (d:=65) (bytes:=1) (c:=50) (l:=ax y4) (l':=ax lb) (x:=.vs 1 none (ax lb)) (fun H=>cR H 1 none (ax lb)) (by simp [bg,aw];omega) (by simp [bg,aw];omega) σ H
  have hap:=fun (f:Option Nat) σ H=>gU (m:=P.md li) (d:=70) (bytes:=1) (c:=65) (l:=ax (y4++lb)) (l':=ax data) (x:=lst zd 1 f (ax data)) (fun H=>elems_lst zd f 1 _ H) (by simp [bg,aw];omega) (by simp [bg,aw];omega) σ H
  have hres:=hW y4 lb (by rw [hb];exact p4) hpb
  rw [hcs] at hap1
  rw [hcs] at hap
  generalize y4++lb=yl at *
  generalize yl++data=out at *
  have t1':(G0++List.replicate (2+kd) AObj.other).take H.length=H:=by rw [List.take_append_of_le_length (by omega),t1]
  have t2':(G0++List.replicate (2+kd) AObj.other).length=H.length+(2+(2+kd)):=by simp [t2];omega
  generalize G0++List.replicate (2+kd) AObj.other=G1 at *
  refine ⟨out,2+(2+kd),hres,?_⟩
  clear hres hW huB hlens hb
  rw [jA rfl];simp -implicitDefEqProofs [-ac,-AV.one,-ad,vX,aK,aB,aP,aC,aM,SOpG.reads,SOp.slots,SX.slots,SOp.noL,rdV,av,aJ,aE,eqV,h37,hR,c0,hla,wl,hmn,wz,hh,w8,w5,w0,k1,wfi,k2,k3,wsn,k4,c9,hld,hL,hap1,hD,hap,t1',t2']
end
theorem GU (p:Um) (hs:∀ f∈p.ff,f.2.length≤100000) (hfl:p.ff.length≤100000) (w:Int) (H:ae) :
  (¬ (w=5∨w=10)→callW P li [.agg p.v,ai w] H=some (.tup [bc,ai 9],H)) ∧
  ((w=5∨w=10)→dZ p w=0→callW P li [.agg p.v,ai w] H=some (.tup [bc,ai 3],H)) ∧
  (dZ p w≠0→∃ out k,WrU p w.toNat out∧callW P li [.agg p.v,ai w] H=some (.tup [.vs 1 none (ax out),ai 0],H++List.replicate k .other)):=by
 have h37:=fun H=>f7 w H
 have hR:=fun H=>wK p hs hfl w H
 refine ⟨fun hw=>?_,fun hw h0=>?_,fun h0=>?_⟩
 ·rw [decide_eq_false hw] at h37
  obtain ⟨fi,sn,z0,ff⟩:=p
  rw [jA rfl];simp -implicitDefEqProofs [-ac,-AV.one,-ad,vX,Um.v,Um.f,h37]
 ·rw [decide_eq_true hw] at h37
  rw [h0] at hR
  replace hR:∀ H,callW P tk [.agg p.v,ai w] H=some (ab false,H):=hR
  obtain ⟨fi,sn,z0,ff⟩:=p
  simp only [Um.v,Um.f] at hR
  rw [jA rfl];simp -implicitDefEqProofs [-ac,-AV.one,-ad,vX,Um.v,Um.f,h37,hR]
 ·obtain ⟨c1,-⟩:=kj h0
  rcases c1 with rfl | rfl
  ·exact pL p hs hfl (w:=5) (n0:=0) (.inl ⟨rfl,rfl⟩) H h0
  ·exact pL p hs hfl (w:=10) (n0:=3) (.inr ⟨rfl,rfl⟩) H h0
theorem rN (p:Um):ki p=(bb p.ff).dropLast.map (·.length):=by
 rw [ki,List.dropLast_eq_take,br,bb,bb,List.map_take]
def uZ (w:Nat):List Bool:=if w=10 then [false,false,false] else []
theorem C4 {p:Um} {w:Nat} {hb:List Nat} (hw:w=5∨w=10) (hfi:0≤p.fi∧p.fi≤3) (hsn:0≤p.sn∧p.sn<(2 ^ w:Nat)) (hp:PackR (f8 p w) hb) (rest:List Nat) :
  hb.length=w / 5∧aj (hb++rest) 0 (uN0 w)=0∧iI (hb++rest) w=decide (1<p.ff.length)∧(uFI (hb++rest) w:Int)=p.fi∧(uSN (hb++rest) w:Int)=p.sn:=by
 have hul:=wL p hw
 obtain ⟨fi,sn,z,ff⟩:=p
 simp only at hfi hsn
 obtain ⟨fn,rfl⟩:∃ n:Nat,fi=n:=⟨fi.toNat,by omega⟩
 obtain ⟨sn',rfl⟩:∃ n:Nat,sn=n:=⟨sn.toNat,by omega⟩
 have hsn2:sn'<2 ^ w:=by omega
 have lF:(aD fn 2).length=2:=aT _ _
 have vF:num (aD fn 2)=fn:=eC 2 fn (by simp;omega)
 obtain ⟨F,hF⟩:=nm (aD fn 2)
 rw [hF] at lF vF
 obtain ⟨mo,hmo⟩:=nm (decide (1<ff.length))
 obtain ⟨R,hR⟩:=nm (ay rest)
 have lS:(aD sn' w).length=w:=aT _ _
 have vS:=eC w sn' hsn2
 obtain ⟨S,hS⟩:=nm (aD sn' w)
 rw [hS] at lS vS
 have hx:f8 ⟨fn,sn',z,ff⟩ w=uZ w++F++[mo]++S:=by simp only [f8,uZ,Int.toNat_natCast,hF,hmo,hS]
 have lZ:(uZ w).length=uN0 w:=by rcases hw with rfl | rfl<;>rfl
 have vZ:num (uZ w)=0:=by rcases hw with rfl | rfl<;>rfl
 generalize uZ w=Z at *
 obtain ⟨e1,e2⟩:=iy hp (by rw [hul];omega)
 rw [hx] at e1
 have hB:ay (hb++rest)=Z++F++[mo]++S++R:=by rw [fz,e1,hR]
 generalize hb++rest=bs at *
 have n0:aj bs 0 (uN0 w)=num Z:=aN (pre:=[]) (post:=F++[mo]++S++R) (by rw [hB]<;>simp) rfl lZ
 have n1:aj bs (uN0 w) 2=num F:=aN (pre:=Z) (post:=[mo]++S++R) (by rw [hB]<;>simp) lZ lF
 have n2:aj bs (uN0 w+2) 1=num [mo]:=aN (pre:=Z++F) (post:=S++R) (by rw [hB]<;>simp) (by simp [lZ,lF]) rfl
 have n3:aj bs (uN0 w+3) w=num S:=aN (pre:=Z++F++[mo]) (post:=R) (by rw [hB]<;>simp) (by simp [lZ,lF]) lS
 rw [kU] at n2
 refine ⟨by omega,by rw [n0,vZ],?_,by rw [uFI,n1,vF],by rw [uSN,n3,vS]⟩
 rw [iI,n2]
 cases mo<;>simp [hmo]
theorem C5 {p:Um} {w:Int} {out:List Nat} (h0:dZ p w≠0) (h:WrU p w.toNat out) :
  bR out w=(0,bb p.ff)∧out.length=dZ p w∧(uFI out w.toNat:Int)=p.fi∧(uSN out w.toNat:Int)=p.sn:=by
 obtain ⟨hw,hfi,hsn,hf1,hf24,hsz⟩:=kj h0
 obtain ⟨wn,rfl,hwn⟩:∃ wn:Nat,w=wn∧(wn=5∨wn=10):=by
  rcases hw with rfl | rfl
  ·exact ⟨5,rfl,.inl rfl⟩
  ·exact ⟨10,rfl,.inr rfl⟩
 have htn:((wn:Nat):Int).toNat=wn:=by simp
 rw [htn] at hsn hsz h ⊢
 obtain ⟨s1,s2,s3,s4⟩:=fQ (bb p.ff) (iz p wn) (by rw [← hsz];exact h0)
 have hbne:bb p.ff≠[]:=fun e=>by have:=congrArg List.length e;rw [br] at this;simp at this;rw [this] at hf1;simp at hf1
 have hdl:=s3 hbne
 obtain ⟨hb,lb,hpk,hpl,rfl⟩:=h
 rw [List.append_assoc]
 obtain ⟨b1,b2,b3,b4,b5⟩:=C4 hwn hfi hsn hpk (lb++(bb p.ff).flatten)
 have hll:(ki p).length=p.ff.length - 1:=by rw [rN,List.length_map,List.length_dropLast,br]
 have hlens:∀ n∈ki p,1≤n∧n≤2047:=fun n hn=>by
  rw [rN] at hn
  obtain ⟨b,hb1,rfl⟩:=List.mem_map.1 hn
  have h2:=s2 b hb1
  have h3:=s1 b (List.mem_of_mem_take (by rw [List.dropLast_eq_take] at hb1;exact hb1))
  omega
 have hlens2:∀ n∈ki p,1≤n∧n<2 ^ 11:=fun n hn=>by
  have h2:=hlens n hn
  have:(2:Nat) ^ 11=2048:=by decide
  omega
 have hcut:=qs (bb p.ff) hbne s1
 rw [← rN] at hcut
 have hany:((ki p).any fun n=>decide (2047<n))=false:=by
  refine List.any_eq_false.2 fun n hn=>?_
  have:=(hlens n hn).2
  simp;omega
 have hfields:aV (bb p.ff).flatten (ki p)=(0,bb p.ff):=by rw [aV,if_neg (by rw [hany];simp),hcut]
 have hlb:lb.length=aS (p.ff.length - 1) 11:=by
  by_cases h1:1≤(ki p).length
  ·rw [← hll];exact ((Ej hpl hlens2 h1 (by omega) []).2.2).symm
  ·have h2:=hpl.len
   rw [dw,show (ki p).length=0 by omega] at h2
   rw [aS,if_pos (by omega)]
   simp at h2;simp [h2]
 have hbase:iz p wn=hb.length+lb.length:=by rw [iz,b1,hlb]
 rw [hbase] at hdl s4
 refine ⟨?_,?_,b4,b5⟩
 ·rw [bR,if_pos hw,if_neg (by simp only [List.length_append];omega),htn,if_neg (by simp only [List.length_append];omega),if_pos b2]
  have hd:(hb++(lb++(bb p.ff).flatten)).drop (wn / 5)=lb++(bb p.ff).flatten:=by rw [← b1,List.drop_left]
  rw [fC,hd,b3]
  by_cases h1:1<p.ff.length
  ·rw [decide_eq_true h1,if_pos rfl]
   obtain ⟨c1,c2,c3⟩:=Ej hpl hlens2 (by omega) (by omega) (bb p.ff).flatten
   rw [c1]
   simp only [if_true]
   rw [c2,c3,List.drop_left]
   exact hfields
  ·rw [decide_eq_false h1,if_neg (by simp)]
   have hl0:lb=[]:=zq8 (by rw [hlb,aS,if_pos (by omega)])
   have hL0:ki p=[]:=zq8 (by omega)
   rw [hl0,List.nil_append]
   rw [hL0] at hfields
   exact hfields
 ·rw [hsz,hbase,s4];simp only [List.length_append];omega
theorem C6 {bs:List Nat} {w:Nat} {q:Um} (hw:w=5∨w=10) (hl:w / 5≤bs.length) (h0:aj bs 0 (uN0 w)=0)
  (hq:q.fi=(uFI bs w:Nat)∧q.sn=(uSN bs w:Nat)) (hm:iI bs w=decide (1<q.ff.length)) :
  f8 q w=ay (bs.take (w / 5)):=by
 obtain ⟨q2,q3⟩:=hq
 rw [rM,f8,q2,q3,← hm,iI,uFI,uSN,Int.toNat_natCast,Int.toNat_natCast]
 have hz:uN0 w+3+w=8 * (w / 5):=by rcases hw with rfl | rfl<;>rfl
 have oz:=dW (bs:=bs) (a:=0) (n:=uN0 w) (by omega)
 rw [h0] at oz
 have oz2:aD 0 (uN0 w)=(if w=10 then [false,false,false] else []):=by rcases hw with rfl | rfl<;>rfl
 rw [← oz2,oz,dW (by omega),fF (by omega),dW (by omega),← hz]
 have j1:=bG bs 0 (uN0 w) 2
 have j2:=bG bs 0 (uN0 w+2) 1
 have j3:=bG bs 0 (uN0 w+3) w
 rw [Nat.zero_add] at j1 j2 j3
 rw [j1,j2,show uN0 w+2+1=uN0 w+3 from rfl,j3]
theorem K4 {bs:List Nat} {w:Int} {ff:List (List Nat)} (h:bR bs w=(0,ff)) :
  (w=5∨w=10)∧bs.length≤4000∧w.toNat / 5≤bs.length∧aj bs 0 (uN0 w.toNat)=0∧fC (bs.drop (w.toNat / 5)) (iI bs w.toNat)=(0,ff):=by
 unfold bR at h
 by_cases hw:w=5∨w=10
 ·rw [if_pos hw] at h
  by_cases c1:4000<bs.length
  ·rw [if_pos c1] at h;simp at h
  rw [if_neg c1] at h
  by_cases c2:bs.length<w.toNat / 5
  ·rw [if_pos c2] at h;simp at h
  rw [if_neg c2] at h
  by_cases c3:aj bs 0 (uN0 w.toNat)=0
  ·rw [if_pos c3] at h
   exact ⟨hw,by omega,by omega,c3,h⟩
  ·rw [if_neg c3] at h;simp at h
 ·rw [if_neg hw] at h;simp at h
theorem C7 {bs:List Nat} (hby:bm bs) {w:Int} {q:Um} (h:bR bs w=(0,bb q.ff))
  (hq:q.fi=(uFI bs w.toNat:Nat)∧q.sn=(uSN bs w.toNat:Nat)) :
  dZ q w=bs.length∧bs.length≠0∧WrU q w.toNat bs:=by
 obtain ⟨hw,hlen,hhd,hn0,hrest⟩:=K4 h
 obtain ⟨wn,rfl,hwn⟩:∃ wn:Nat,w=wn∧(wn=5∨wn=10):=by
  rcases hw with rfl | rfl
  ·exact ⟨5,rfl,.inl rfl⟩
  ·exact ⟨10,rfl,.inr rfl⟩
 have htn:((wn:Nat):Int).toNat=wn:=by simp
 rw [htn] at hhd hn0 hrest hq ⊢
 obtain ⟨n,hn⟩:=nm (wn / 5)
 have key:∃ lb:List Nat,PackR (bO 11 (ki q)) lb∧bs.drop n=lb++(bb q.ff).flatten∧(∀ f∈bb q.ff,f.length≠0)∧(∀ f∈(bb q.ff).dropLast,f.length≤2047)∧bb q.ff≠[]∧(bb q.ff).length≤24∧lb.length=aS (q.ff.length - 1) 11∧iI bs wn=decide (1<q.ff.length):=by
  rw [fC,hn] at hrest
  have hby2:bm (bs.drop n):=fun x hx=>hby x (List.mem_of_mem_drop hx)
  rw [rN]
  obtain ⟨ds,hds⟩:=nm (bs.drop n)
  rw [hds] at hrest hby2 ⊢
  cases hm:iI bs wn with
  | true =>
   rw [if_pos hm] at hrest
   by_cases he:(aO ds 11).2=0
   ·rw [if_pos he] at hrest
    obtain ⟨f1,f2⟩:=kV hrest
    obtain ⟨p1,p2⟩:=wH hby2 he
    obtain ⟨c1,c2,c3,c4⟩:=pG _ _ _ f1
    obtain ⟨o1,o2,o3⟩:=fP he
    have hl:(bb q.ff).dropLast.length=(aO ds 11).1:=by
     have:=congrArg List.length c2
     rwa [List.length_map,cu] at this
    rw [List.length_dropLast,br] at hl
    refine ⟨ds.take (aS (aO ds 11).1 11),by rw [c2];exact p1,by rw [c1,List.take_append_drop],c4 p2,fun f hf=>f2 _ (by rw [← c2];exact List.mem_map_of_mem hf),c3,by rw [br];omega,?_,by rw [decide_eq_true (by omega)]⟩
    rw [List.length_take,hl]
    have:aS (aO ds 11).1 11=((aO ds 11).1 * (11+1)+7) / 8:=by rw [aS,if_neg (by omega)]
    omega
   ·rw [if_neg he] at hrest
    simp only [zqp] at hrest
    exact (he hrest.1).elim
  | false =>
   rw [if_neg (by rw [hm];simp)] at hrest
   obtain ⟨f1,f2⟩:=kV hrest
   obtain ⟨c1,c2,c3,c4⟩:=pG _ _ _ f1
   have hl:(bb q.ff).dropLast.length=0:=by
    have:=congrArg List.length c2
    rwa [List.length_map] at this
   have hd0:(bb q.ff).dropLast=[]:=zq8 hl
   rw [List.length_dropLast,br] at hl
   refine ⟨[],by rw [c2];exact PackR.nil,by rw [c1];rfl,c4 (by simp),by rw [hd0];simp,c3,by rw [br];omega,by rw [hl,aS,if_pos (by omega)];rfl,by rw [decide_eq_false (by omega)]⟩
 obtain ⟨lb,k1,k2,k3,k4,k5,k6,k7,k8⟩:=key
 have hhb:=C6 (q:=q) hwn hhd hn0 hq k8
 rw [hn] at hhb hhd
 have hnl:(bs.take n).length=n:=by rw [List.length_take];omega
 have hbs:bs=bs.take n++lb++(bb q.ff).flatten:=by rw [List.append_assoc,← k2,List.take_append_drop]
 have hlen2:=congrArg List.length hbs
 simp only [List.length_append,hnl] at hlen2
 have hpk:PackR (f8 q wn) (bs.take n):=by
  have hx:(f8 q wn).length=8 * n:=by rw [hhb,bC,hnl]
  refine ⟨by rw [hx,hnl];omega,fun b hb=>hby b (List.mem_of_mem_take hb),by rw [hhb,hnl,bC,hnl,Nat.sub_self];simp⟩
 have hbase:iz q wn=n+lb.length:=by rw [iz,hn,k7]
 have hsum:cQ (iz q wn) (bb q.ff)=bs.length:=by
  rw [xU _ _ k3 k4 (by rw [hbase];omega),hbase];omega
 have hn1:1≤n:=by omega
 refine ⟨?_,by omega,⟨bs.take n,lb,hpk,k1,hbs⟩⟩
 obtain ⟨q2,q3⟩:=hq
 have hz:uN0 wn+3+wn=8 * (wn / 5):=by rcases hwn with rfl | rfl<;>rfl
 have b3:uFI bs wn<2 ^ 2:=bK (by omega)
 have b4:uSN bs wn<2 ^ wn:=bK (by omega)
 have hL:q.ff.length=(bb q.ff).length:=(br _).symm
 have hne:(bb q.ff).length≠0:=fun e=>k5 (zq8 e)
 rw [dZ,if_neg (not_not_intro hw),if_neg (by omega),if_neg (by omega),if_neg (by rw [htn,q3];omega),if_neg (by omega),if_neg (by omega),htn,hsum]
end Go.A.V.S
