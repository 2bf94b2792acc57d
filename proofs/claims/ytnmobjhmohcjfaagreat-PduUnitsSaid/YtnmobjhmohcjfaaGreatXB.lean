/- How many bytes a packet has. -/
import Derived.Test.YtnmobjhmohcjfaaGreatXA
import Derived.Test.YtnmobjhmohcjfaaGreatAX
set_option linter.unusedSimpArgs false
set_option linter.unusedVariables false
set_option linter.unnecessarySimpa false
namespace Go.A.V.S
open Go Go.A
def gO (p:Pk) (w:Nat):Nat:=bZ p.part w+bj (p.ff.length - 1) (bG w)
def dc (p:Pk) (w:Int):Nat:=
 if ¬ (w=10∨w=16) then 0 else if p.fi<0 then 0 else if 3<p.fi then 0 else if ¬ (0≤p.sn∧p.sn<(2 ^ w.toNat:Nat)) then 0
 else if p.part=false∧p.last=true then 0 else if p.part=false∧p.off≠0 then 0 else if p.off<0 then 0 else if (2 ^ aV w:Nat)≤p.off then 0
 else if p.ff.length<1 then 0 else if 24<p.ff.length then 0 else dg (gO p w.toNat) (bb p.ff)
section
variable {H:ae}
def acW (H:ae) (Q:List AV) (z0:Bool) (ff:List Bs) (n0:Nat) (z:Nat) (σ:List AV) (G:ae):Prop:=
 ∃ (i n:Nat),i+z=ff.length∧n≤4000∧dg n0 (bb ff)=dg n ((bb ff).drop i)∧G=H∧σ=L 118 ((((((Tr.full 7).put (ah 2) (.lbox Q)).put (ah 6) (ai n)).put (ah 82) (lst z0 1 none (bvs ff))).put (ah 83) (ai ff.length)).put (ah 84) (ai i))
def Et (H:ae) (ff:List Bs) (n0:Nat) (e:AExit) (σ:List AV) (G:ae):Prop:=
 G=H∧((e=.exit 1∧kill [2,82,83,84,85] σ=L 118 ((Tr.full 7).put (ah 6) (ai (dg n0 (bb ff):Nat))))∨(e=.ret∧dg n0 (bb ff)=0∧aN F_q99.res σ=some (ai 0)))
theorem Pj {z0:Bool} {ff:List Bs} (po:Bool) (fi sn:Int) (pa la:Bool) (off:Int) (hl:ff.length≤24) (hs:∀ f∈ff,f.2.length≤100000) (n0:Nat) (z:Nat) (σ:List AV) (G:ae) (hI:acW H (bu po fi sn pa la off (lst z0 1 none (bvs ff))) z0 ff n0 z (kill (bK ga) σ) G) :
  Ends (execW P rj (.loop ga) σ G) fun s=>Et H ff n0 s.e s.σ s.H:=by
 refine bq (fun z σ G=>acW H (bu po fi sn pa la off (lst z0 1 none (bvs ff))) z0 ff n0 z σ G) (Et H ff n0) ?_ z σ G hI
 clear hI z σ G
 rintro z σ G ⟨i,n,hz,hn4,hsum,rfl,rfl⟩
 have hla:(bvs ff).length=ff.length:=bN ff
 by_cases hi:i<ff.length
 ·have hi':(i:Int)<ff.length:=by omega
  obtain ⟨x,hx⟩:∃ x,ff[i]?=some x:=⟨_,zq6 hi⟩
  have hxs:=hs x (List.mem_of_getElem? hx)
  have q1:=hU hx z0 none .i64
  have hdrop:(bb ff).drop i=x.2 :: (bb ff).drop (i+1):=by
   have h2:=gU hx
   have hi2:i<(bb ff).length:=by rw [bJ];exact hi
   rw [List.drop_eq_getElem_cons hi2]
   rw [zq6 hi2] at h2
   rw [zq1 h2]
  rw [hdrop,dg,List.length_drop,bJ] at hsum
  have hxl:=cL x
  have wl:IntKind.i64.wrap ((ff.length:Int) - 1)=(ff.length:Int) - 1:=ag (by omega) (by omega)
  have w4:IntKind.i64.wrap (4000 - (n:Int))=4000 - (n:Int):=ag (by omega) (by omega)
  have w5:IntKind.i64.wrap ((n:Int)+x.2.length)=((n+x.2.length:Nat):Int):=by rw [ag (by omega) (by omega)];omega
  have w6:IntKind.i64.wrap ((i:Int)+1)=((i+1:Nat):Int):=by rw [ag (by omega) (by omega)];omega
  obtain ⟨xl,hxl'⟩:=nm (x.2.length)
  rw [hxl'] at hxl hsum w5 hxs
  obtain ⟨i1,hi1⟩:=nm (i+1)
  rw [hi1] at w6 hsum
  obtain ⟨n1,hn1⟩:=nm (n+xl)
  rw [hn1] at w5 hsum
  by_cases c1:xl=0
  ·have c1':(xl:Int)=0:=by omega
   rw [if_pos c1] at hsum
   simp -implicitDefEqProofs [-ac,-AV.one,-ad,eA,ga,hla,hi,hi',q1,hxl,hxl',c1,c1']
   exact ⟨rfl,.inr ⟨rfl,hsum,by simp [F_q99]⟩⟩
  ·have c1':¬ (xl:Int)=0:=by omega
   have c0:¬ x.2=[]:=fun h=>c1 (by rw [← hxl',h];rfl)
   rw [if_neg c1] at hsum
   by_cases c2:xl > 2047
   ·have c2':(xl:Int) > 2047:=by omega
    have c2'':(2047:Int)<xl:=by omega
    have c2''':2047<xl:=by omega
    by_cases c3:(i:Int)<(ff.length:Int) - 1
    ·rw [if_pos ⟨c2,by omega⟩] at hsum
     simp -implicitDefEqProofs [-ac,-AV.one,-ad,eA,ga,bu,hla,hi,hi',q1,hxl,hxl',c0,c1,c1',c2,c2',c2'',c2''',wl,c3]
     exact ⟨rfl,.inr ⟨rfl,hsum,by simp [F_q99]⟩⟩
    ·rw [if_neg (by omega)] at hsum
     by_cases c4:(xl:Int) > 4000 - (n:Int)
     ·have c4':4000 - (n:Int)<xl:=c4
      rw [if_pos (by omega)] at hsum
      simp -implicitDefEqProofs [-ac,-AV.one,-ad,eA,ga,bu,hla,hi,hi',q1,hxl,hxl',c0,c1,c1',c2,c2',c2'',c2''',wl,c3,w4,c4,c4']
      exact ⟨rfl,.inr ⟨rfl,hsum,by simp [F_q99]⟩⟩
     ·have c4':¬ 4000 - (n:Int)<xl:=c4
      rw [if_neg (by omega)] at hsum
      simp -implicitDefEqProofs [-ac,-AV.one,-ad,eA,ga,bu,hla,hi,hi',q1,hxl,hxl',c0,c1,c1',c2,c2',c2'',c2''',wl,c3,w4,c4,c4',w5,w6]
      exact ⟨z - 1,by omega,i1,n1,by omega,by omega,hsum,rfl,by simp [bu]⟩
   ·have c2':¬ (xl:Int) > 2047:=by omega
    have c2'':¬ (2047:Int)<xl:=by omega
    have c2''':¬ 2047<xl:=by omega
    rw [if_neg (by omega)] at hsum
    by_cases c4:(xl:Int) > 4000 - (n:Int)
    ·have c4':4000 - (n:Int)<xl:=c4
     rw [if_pos (by omega)] at hsum
     simp -implicitDefEqProofs [-ac,-AV.one,-ad,eA,ga,bu,hla,hi,hi',q1,hxl,hxl',c0,c1,c1',c2,c2',c2'',c2''',w4,c4,c4']
     exact ⟨rfl,.inr ⟨rfl,hsum,by simp [F_q99]⟩⟩
    ·have c4':¬ 4000 - (n:Int)<xl:=c4
     rw [if_neg (by omega)] at hsum
     simp -implicitDefEqProofs [-ac,-AV.one,-ad,eA,ga,bu,hla,hi,hi',q1,hxl,hxl',c0,c1,c1',c2,c2',c2'',c2''',w4,c4,c4',w5,w6]
     exact ⟨z - 1,by omega,i1,n1,by omega,by omega,hsum,rfl,by simp [bu]⟩
 ·have hi':¬ (i:Int)<ff.length:=by omega
  have hnil:(bb ff).drop i=[]:=List.drop_eq_nil_of_le (by rw [bJ];omega)
  rw [hnil,dg] at hsum
  rw [← hsum]
  simp -implicitDefEqProofs [-ac,-AV.one,-ad,eA,ga,hla,hi,hi']
  exact ⟨rfl,.inl ⟨rfl,by simp⟩⟩
set_option maxHeartbeats 4000000 in
theorem KE (p:Pk) (hs:∀ f∈p.ff,f.2.length≤100000) (hfl:p.ff.length≤100000) (w:Int) (H:ae) :
  callW P rj [.agg p.v,ai w] H=some (ai (dc p w:Nat),H):=by
 obtain ⟨po,fi,sn,pa,la,off,z0,ff⟩:=p
 simp only at hfl hs
 have h37:=fun H=>jP w H
 have hla:(bvs ff).length=ff.length:=bN ff
 by_cases hw:w=10∨w=16
 ·have hwd:decide (w=10∨w=16)=true:=by simp [hw]
  rw [hwd] at h37
  obtain ⟨wn,rfl,hwn⟩:∃ wn:Nat,w=wn∧(wn=10∨wn=16):=by
   rcases hw with rfl | rfl
   ·exact ⟨10,rfl,.inl rfl⟩
   ·exact ⟨16,rfl,.inr rfl⟩
  have htn:((wn:Nat):Int).toNat=wn:=by simp
  by_cases c1:fi<0
  ·have hR:dc ⟨po,fi,sn,pa,la,off,z0,ff⟩ wn=0:=by rw [dc,if_neg (not_not_intro hw),if_pos c1]
   rw [hR]
   rw [dq rfl];simp -implicitDefEqProofs [-ac,-AV.one,-ad,eA,Pk.v,Pk.f,bu,h37,c1]
  ·by_cases c2:fi > 3
   ·have c2':3<fi:=c2
    have hR:dc ⟨po,fi,sn,pa,la,off,z0,ff⟩ wn=0:=by rw [dc,if_neg (not_not_intro hw),if_neg c1,if_pos c2]
    rw [hR]
    rw [dq rfl];simp -implicitDefEqProofs [-ac,-AV.one,-ad,eA,Pk.v,Pk.f,bu,h37,c1,c2,c2']
   ·have c2':¬ 3<fi:=c2
    have h51:=fun H=>At hwn sn H
    by_cases c3:0≤sn∧sn<(2 ^ wn:Nat)
    ·rw [decide_eq_true c3] at h51
     have o52:=fun H=>eZ wn H
     have hoz:¬ ((aV wn:Nat):Int)<0:=by omega
     have how:aV wn≤16:=by simp only [aV];split<;>omega
     have how2:((2 ^ aV wn:Nat):Int)=2 ^ aV wn:=by simp
     have hom:min (aV wn) 64=aV wn:=by omega
     have hlt64:(2:Int) ^ aV wn≤65536:=by
      rw [← how2]
      have:2 ^ aV wn≤2 ^ 16:=Nat.pow_le_pow_right (by omega) how
      have:(2:Nat) ^ 16=65536:=by decide
      omega
     have hge1:(0:Int)<2 ^ aV wn:=by
      rw [← how2]
      have:0<2 ^ aV (wn:Int):=Nat.pow_pos (by omega)
      omega
     have hp:IntKind.i64.wrap (1 * 2 ^ aV wn)=2 ^ aV wn:=by rw [Int.one_mul];exact ag (by omega) (by omega)
     have hp':IntKind.i64.wrap (2 ^ aV wn)=2 ^ aV wn:=ag (by omega) (by omega)
     have hpre:dc ⟨po,fi,sn,pa,la,off,z0,ff⟩ wn=if pa=false∧la=true then 0 else if pa=false∧off≠0 then 0 else if off<0 then 0 else if (2 ^ aV wn:Nat)≤off then 0 else if ff.length<1 then 0 else if 24<ff.length then 0 else dg (gO ⟨po,fi,sn,pa,la,off,z0,ff⟩ wn) (bb ff):=by
      rw [dc,if_neg (not_not_intro hw),if_neg c1,if_neg c2,if_neg (by rw [htn];exact not_not_intro c3),htn]
     rw [hpre]
     by_cases z1:pa=false∧la=true
     ·obtain ⟨rfl,rfl⟩:=z1
      rw [if_pos ⟨rfl,rfl⟩]
      rw [dq rfl];simp -implicitDefEqProofs [-ac,-AV.one,-ad,eA,aX,aO,bd,aP,aZ,SOpG.reads,SOp.slots,SX.slots,SOp.noL,rdV,aI,aW,aR,eqV,Pk.v,Pk.f,bu,h37,c1,c2,c2',h51]
     ·rw [if_neg z1]
      by_cases z2:pa=false∧off≠0
      ·obtain ⟨rfl,z2⟩:=z2
       have hl:la=false:=by simpa using z1
       subst hl
       rw [if_pos ⟨rfl,z2⟩]
       rw [dq rfl];simp -implicitDefEqProofs [-ac,-AV.one,-ad,eA,aX,aO,bd,aP,aZ,SOpG.reads,SOp.slots,SX.slots,SOp.noL,rdV,aI,aW,aR,eqV,Pk.v,Pk.f,bu,h37,c1,c2,c2',h51,z2]
      ·rw [if_neg z2]
       have hz:pa=true∨(pa=false∧la=false∧off=0):=by
        cases pa
        ·exact .inr ⟨rfl,by simpa using z1,by simpa using z2⟩
        ·exact .inl rfl
       by_cases c6:off<0
       ·rw [if_pos c6]
        rcases hz with rfl | ⟨rfl,rfl,rfl⟩
        ·rw [dq rfl];simp -implicitDefEqProofs [-ac,-AV.one,-ad,eA,aX,aO,bd,aP,aZ,SOpG.reads,SOp.slots,SX.slots,SOp.noL,rdV,aI,aW,aR,eqV,Pk.v,Pk.f,bu,h37,c1,c2,c2',h51,c6]
        ·omega
       ·rw [if_neg c6]
        by_cases c7:(2 ^ aV wn:Nat)≤off
        ·rw [if_pos c7]
         have c7':off ≥ (2 ^ aV wn:Nat):=c7
         rw [how2] at c7 c7'
         rcases hz with rfl | ⟨rfl,rfl,rfl⟩
         ·rw [dq rfl];simp -implicitDefEqProofs [-ac,-AV.one,-ad,eA,aX,aO,bd,aP,aZ,SOpG.reads,SOp.slots,SX.slots,SOp.noL,rdV,aI,aW,aR,eqV,Pk.v,Pk.f,bu,h37,c1,c2,c2',h51,o52,c6,hoz,hom,hp,hp',c7,c7']
         ·omega
        ·rw [if_neg c7]
         have c7':¬ off ≥ (2 ^ aV wn:Nat):=c7
         rw [how2] at c7 c7'
         by_cases c8:ff.length<1
         ·rw [if_pos c8]
          have c8':(ff.length:Int)<1:=by omega
          have c8'':ff=[]:=zq8 (by omega)
          subst c8''
          have hb0:bvs []=[]:=rfl
          rcases hz with rfl | ⟨rfl,rfl,rfl⟩
          ·rw [dq rfl];simp -implicitDefEqProofs [-ac,-AV.one,-ad,eA,aX,aO,bd,aP,aZ,SOpG.reads,SOp.slots,SX.slots,SOp.noL,rdV,aI,aW,aR,eqV,Pk.v,Pk.f,bu,h37,c1,c2,c2',h51,o52,c6,hoz,hom,hp,hp',c7,c7',hb0]
          ·rw [dq rfl];simp -implicitDefEqProofs [-ac,-AV.one,-ad,eA,aX,aO,bd,aP,aZ,SOpG.reads,SOp.slots,SX.slots,SOp.noL,rdV,aI,aW,aR,eqV,Pk.v,Pk.f,bu,h37,c1,c2,c2',h51,o52,c6,hoz,hom,hp,hp',c7,c7',hb0]
         ·rw [if_neg c8]
          have c8':¬ (ff.length:Int)<1:=by omega
          have c8'':¬ ff=[]:=fun h=>c8 (by rw [h];decide)
          by_cases c9:24<ff.length
          ·rw [if_pos c9]
           have c9':(24:Int)<ff.length:=by omega
           have c9'':(ff.length:Int) > 24:=by omega
           rcases hz with rfl | ⟨rfl,rfl,rfl⟩
           ·rw [dq rfl];simp -implicitDefEqProofs [-ac,-AV.one,-ad,eA,aX,aO,bd,aP,aZ,SOpG.reads,SOp.slots,SX.slots,SOp.noL,rdV,aI,aW,aR,eqV,Pk.v,Pk.f,bu,h37,c1,c2,c2',h51,o52,c6,hoz,hom,hp,hp',c7,c7',hla,c8,c8',c8'',c9,c9',c9'']
           ·rw [dq rfl];simp -implicitDefEqProofs [-ac,-AV.one,-ad,eA,aX,aO,bd,aP,aZ,SOpG.reads,SOp.slots,SX.slots,SOp.noL,rdV,aI,aW,aR,eqV,Pk.v,Pk.f,bu,h37,c1,c2,c2',h51,o52,c6,hoz,hom,hp,hp',c7,c7',hla,c8,c8',c8'',c9,c9',c9'']
          ·rw [if_neg c9]
           have c9':¬ (24:Int)<ff.length:=by omega
           have c9'':¬ (ff.length:Int) > 24:=by omega
           have hlw:bG wn=11∨bG wn=15:=by rcases hwn with rfl | rfl<;>simp [bG]
           have h28:=fun H=>Ao pa wn H
           have h41:=fun H=>li wn H
           have h53:=fun H=>nh (ff.length - 1) (bG wn) hlw (by omega) H
           have hls:=ur (n:=ff.length - 1) hlw (by omega)
           have hhv:bZ pa (wn:Int)≤5:=by rw [fE hwn];split<;>split<;>omega
           have hbase:gO ⟨po,fi,sn,pa,la,off,z0,ff⟩ wn=bZ pa wn+bj (ff.length - 1) (bG wn):=rfl
           rw [hbase]
           have wl:IntKind.i64.wrap ((ff.length:Int) - 1)=((ff.length - 1:Nat):Int):=by rw [ag (by omega) (by omega)];omega
           obtain ⟨hv,hhve⟩:=nm (bZ pa (wn:Int))
           obtain ⟨ls,hlse⟩:=nm (bj (ff.length - 1) (bG wn))
           rw [hhve] at h28 hhv ⊢
           rw [hlse] at h53 hls ⊢
           obtain ⟨lw,hlwe⟩:=nm (bG wn)
           rw [hlwe] at h41 h53
           obtain ⟨l1,hl1⟩:=nm (ff.length - 1)
           rw [hl1] at h53 wl
           have wb:IntKind.i64.wrap ((hv:Int)+ls)=((hv+ls:Nat):Int):=by rw [ag (by omega) (by omega)];omega
           obtain ⟨n0,hn0⟩:=nm (hv+ls)
           rw [hn0] at wb ⊢
           rw [cT]
           refine call_post 7 118 rfl (rfl:P.T rj=some F_q99) rfl (aS rfl) (fun e σ G=>e=.ret∧aN F_q99.res σ=some (ai (dg n0 (bb ff):Nat))∧G=H) ?_ ?_
           ·rintro e σ G ⟨rfl,q2,rfl⟩
            exact ⟨rfl,_,q2,rfl,by simp⟩
           rcases hz with rfl | ⟨rfl,rfl,rfl⟩
           ·rw [F_q99];simp -implicitDefEqProofs [-ac,-AV.one,-ad,eA,aX,aO,bd,aP,aZ,SOpG.reads,SOp.slots,SX.slots,SOp.noL,rdV,aI,aW,aR,eqV,Pk.v,Pk.f,bu,h37,c1,c2,c2',h51,o52,c6,hoz,hom,hp,hp',c7,c7',hla,c8,c8',c8'',c9,c9',c9'',h28,wl,h41,h53,wb]
            repeat rw [Option.bind_assoc]
            refine Ends.block (P:=Et H ff n0) (Pj (z0:=z0) po fi sn true la off (by omega) hs n0 ff.length _ _ ⟨0,n0,by omega,by omega,by simp,rfl,by simp [ga,bu]⟩) ?_
            rintro e σ1 G1 ⟨rfl,⟨rfl,k2⟩ | ⟨rfl,k1,k2⟩⟩
            ·simp -implicitDefEqProofs [-ac,-AV.one,-ad,eA,k2]
            ·rw [k1]
             simp -implicitDefEqProofs [-ac,-AV.one,-ad,eA]
             simpa [F_q99] using k2
           ·rw [F_q99];simp -implicitDefEqProofs [-ac,-AV.one,-ad,eA,aX,aO,bd,aP,aZ,SOpG.reads,SOp.slots,SX.slots,SOp.noL,rdV,aI,aW,aR,eqV,Pk.v,Pk.f,bu,h37,c1,c2,c2',h51,o52,c6,hoz,hom,hp,hp',c7,c7',hla,c8,c8',c8'',c9,c9',c9'',h28,wl,h41,h53,wb]
            repeat rw [Option.bind_assoc]
            refine Ends.block (P:=Et H ff n0) (Pj (z0:=z0) po fi sn false false 0 (by omega) hs n0 ff.length _ _ ⟨0,n0,by omega,by omega,by simp,rfl,by simp [ga,bu]⟩) ?_
            rintro e σ1 G1 ⟨rfl,⟨rfl,k2⟩ | ⟨rfl,k1,k2⟩⟩
            ·simp -implicitDefEqProofs [-ac,-AV.one,-ad,eA,k2]
            ·rw [k1]
             simp -implicitDefEqProofs [-ac,-AV.one,-ad,eA]
             simpa [F_q99] using k2
    ·rw [decide_eq_false c3] at h51
     have hR:dc ⟨po,fi,sn,pa,la,off,z0,ff⟩ wn=0:=by rw [dc,if_neg (not_not_intro hw),if_neg c1,if_neg c2,if_pos (by rw [htn];exact c3)]
     rw [hR]
     rw [dq rfl];simp -implicitDefEqProofs [-ac,-AV.one,-ad,eA,Pk.v,Pk.f,bu,h37,c1,c2,c2',h51]
 ·have hwd:decide (w=10∨w=16)=false:=by simp [hw]
  rw [hwd] at h37
  have hR:dc ⟨po,fi,sn,pa,la,off,z0,ff⟩ w=0:=by rw [dc,if_pos hw]
  rw [hR]
  rw [dq rfl];simp -implicitDefEqProofs [-ac,-AV.one,-ad,eA,Pk.v,Pk.f,bu,h37]
end
theorem f8:∀ (ff:List (List Nat)) (n:Nat),dg n ff≠0→(∀ f∈ff,f.length≠0)∧(∀ f∈ff.dropLast,f.length≤2047)∧(ff≠[]→n+ff.flatten.length≤4000)∧dg n ff=n+ff.flatten.length
 | [],n,h=>⟨by simp,by simp,fun h=>(h rfl).elim,by simp [dg]⟩
 | f :: r,n,h=>by
  rw [dg] at h ⊢
  by_cases c1:f.length=0
  ·rw [if_pos c1] at h;exact (h rfl).elim
  ·rw [if_neg c1] at h ⊢
   by_cases c2:2047<f.length∧0<r.length
   ·rw [if_pos c2] at h;exact (h rfl).elim
   ·rw [if_neg c2] at h ⊢
    by_cases c3:4000<f.length+n
    ·rw [if_pos c3] at h;exact (h rfl).elim
    ·rw [if_neg c3] at h ⊢
     obtain ⟨h1,h2,h3,h4⟩:=f8 r (n+f.length) h
     refine ⟨?_,?_,fun _=>?_,?_⟩
     ·intro x hx
      rcases List.mem_cons.1 hx with rfl | hx
      ·exact c1
      ·exact h1 x hx
     ·cases r with
      | nil=>simp
      | cons g s =>
       intro x hx
       rw [List.dropLast_cons_cons] at hx
       rcases List.mem_cons.1 hx with rfl | hx
       ·simp at c2;omega
       ·exact h2 x hx
     ·rw [List.flatten_cons,List.length_append]
      cases r with
      | nil=>simp;omega
      | cons g s=>have:=h3 (by simp);omega
     ·rw [h4,List.flatten_cons,List.length_append];omega
theorem ni {p:Pk} {w:Int} (h:dc p w≠0):okH p w.toNat∧(w=10∨w=16)∧1≤p.ff.length∧p.ff.length≤24∧dc p w=dg (gO p w.toNat) (bb p.ff)∧(p.part=true∨(p.part=false∧p.last=false∧p.off=0)):=by
 have h0:=h
 unfold dc at h
 by_cases hw:w=10∨w=16
 ·rw [if_neg (not_not_intro hw)] at h
  by_cases c1:p.fi<0
  ·rw [if_pos c1] at h;exact (h rfl).elim
  rw [if_neg c1] at h
  by_cases c2:3<p.fi
  ·rw [if_pos c2] at h;exact (h rfl).elim
  rw [if_neg c2] at h
  by_cases c3:0≤p.sn∧p.sn<(2 ^ w.toNat:Nat)
  ·rw [if_neg (not_not_intro c3)] at h
   by_cases z1:p.part=false∧p.last=true
   ·rw [if_pos z1] at h;exact (h rfl).elim
   rw [if_neg z1] at h
   by_cases z2:p.part=false∧p.off≠0
   ·rw [if_pos z2] at h;exact (h rfl).elim
   rw [if_neg z2] at h
   by_cases c6:p.off<0
   ·rw [if_pos c6] at h;exact (h rfl).elim
   rw [if_neg c6] at h
   by_cases c7:((2 ^ aV w:Nat):Int)≤p.off
   ·rw [if_pos c7] at h;exact (h rfl).elim
   rw [if_neg c7] at h
   by_cases c8:p.ff.length<1
   ·rw [if_pos c8] at h;exact (h rfl).elim
   rw [if_neg c8] at h
   by_cases c9:24<p.ff.length
   ·rw [if_pos c9] at h;exact (h rfl).elim
   rw [if_neg c9] at h
   have htn:((w.toNat:Nat):Int)=w:=by omega
   refine ⟨⟨by omega,⟨by omega,by omega⟩,c3,⟨by omega,by rw [htn];omega⟩⟩,hw,by omega,by omega,?_,?_⟩
   ·rw [dc,if_neg (not_not_intro hw),if_neg c1,if_neg c2,if_neg (not_not_intro c3),if_neg z1,if_neg z2,if_neg c6,if_neg c7,if_neg c8,if_neg c9]
   ·cases hp:p.part with
    | true=>exact .inl rfl
    | false =>
     rw [hp] at z1 z2
     exact .inr ⟨rfl,by simpa using z1,by simpa using z2⟩
  ·rw [if_pos c3] at h;exact (h rfl).elim
 ·rw [if_pos hw] at h;exact (h rfl).elim
theorem elems_lst (z:Bool) (f:Option Nat) (k:Nat) (l:List (List AV)) (H:ae):em H k (lst z k f l)=some l:=by
 rcases bU z k f l with ⟨_,h,e⟩ | ⟨e,_⟩
 ·rw [e,h];rfl
 ·rw [e];simp [em]
section
variable {H:ae}
theorem KF (p:Pk) (hl:p.ff.length≤100000) (hs:(bb p.ff).flatten.length≤1000000) (H:ae) :
  ∃ z f k,callW P we [.agg p.v] H=some (lst z 1 f (aK (bb p.ff).flatten),H++List.replicate k .other):=by
 obtain ⟨po,fi,sn,pa,la,off,z0,ff⟩:=p
 simp only at hl hs
 obtain ⟨z,f,k,h⟩:=ux (z0:=z0) hl hs H
 refine ⟨z,f.map fun _=>0,k,?_⟩
 rw [CB rfl];simp -implicitDefEqProofs [-ac,-AV.one,-ad,JS,Pk.v,Pk.f,bu,h]
 rfl
theorem GN (p:Pk) (hs:∀ f∈p.ff,f.2.length≤100000) (hfl:p.ff.length≤100000) (w:Int) (H:ae) :
  callW P tE [.agg p.v,ai w] H=some (ab (decide (0<dc p w)),H):=by
 have h:=fun H=>KE p hs hfl w H
 obtain ⟨n,hn⟩:=nm (dc p w)
 rw [hn] at h ⊢
 obtain ⟨po,fi,sn,pa,la,off,z0,ff⟩:=p
 simp only [Pk.v,Pk.f,bu] at h
 by_cases h0:(n:Int) > 0
 ·have h0':0<n:=by omega
  have h0'':(0:Int)<n:=h0
  rw [rq rfl];simp -implicitDefEqProofs [-ac,-AV.one,-ad,Ec,Pk.v,Pk.f,bu,h,h0,h0',h0'']
 ·have h0':¬ 0<n:=by omega
  have h0'':¬ (0:Int)<n:=h0
  rw [rq rfl];simp -implicitDefEqProofs [-ac,-AV.one,-ad,Ec,Pk.v,Pk.f,bu,h,h0,h0',h0'']
def T1 (H:ae) (Q:List AV) (w:Int) (hv:AV) (z1:Bool) (r:List Bs) (z:Nat) (σ:List AV) (G:ae):Prop:=
 ∃ i:Nat,i+z=r.length∧G=H∧σ=L 62 ((((((((Tr.full 6).put (ah 1) (ai w)).put (ah 2) (.lbox Q)).put (ah 6) (hv)).put (ah 7) (lst true 1 (some 40) (nvs (((bb r).take i).map (·.length))))).put (ah 30) (lst z1 1 none (bvs r))).put (ah 31) (ai r.length)).put (ah 32) (ai i))
def Eu (H:ae) (Q:List AV) (w:Int) (hv:AV) (r:List Bs) (e:AExit) (σ:List AV) (G:ae):Prop:=
 G=H∧e=.exit 1∧kill [30,31,32,33] σ=L 62 (((((Tr.full 6).put (ah 1) (ai w)).put (ah 2) (.lbox Q)).put (ah 6) (hv)).put (ah 7) (lst true 1 (some 40) (nvs ((bb r).map (·.length)))))
theorem Pm {z1:Bool} {r:List Bs} (po:Bool) (fi sn:Int) (pa la:Bool) (off:Int) (z0:Bool) (ff:List Bs) (w:Int) (hb:List Nat) (hl:r.length≤100) (z:Nat) (σ:List AV) (G:ae)
  (hI:T1 H (bu po fi sn pa la off (lst z0 1 none (bvs ff))) w (.vs 1 (some 23) (aK hb)) z1 r z (kill (bK kS) σ) G) :
  Ends (execW P iP (.loop kS) σ G) fun s=>Eu H (bu po fi sn pa la off (lst z0 1 none (bvs ff))) w (.vs 1 (some 23) (aK hb)) r s.e s.σ s.H:=by
 refine bq (fun z σ G=>T1 H (bu po fi sn pa la off (lst z0 1 none (bvs ff))) w (.vs 1 (some 23) (aK hb)) z1 r z σ G) (Eu H (bu po fi sn pa la off (lst z0 1 none (bvs ff))) w (.vs 1 (some 23) (aK hb)) r) ?_ z σ G hI
 clear hI z σ G
 rintro z σ G ⟨i,hz,rfl,rfl⟩
 have hla:(bvs r).length=r.length:=bN r
 by_cases hi:i<r.length
 ·have hi':(i:Int)<r.length:=by omega
  obtain ⟨x,hx⟩:∃ x,r[i]?=some x:=⟨_,zq6 hi⟩
  have q1:=hU hx z1 none .i64
  have hxl:=cL x
  have hsn:((bb r).take (i+1)).map (·.length)=((bb r).take i).map (·.length)++[x.2.length]:=by rw [eC (gU hx)];simp
  have hap:=fun σ H=>u9 (m:=P.md iP) (d:=40) (bytes:=8) (v:=ai x.2.length) (O9 40) (by omega) (by rw [dC];simp [bJ];omega) (l:=nvs (((bb r).take i).map (·.length))) (some 39) σ H
  rw [← mH,← hsn] at hap
  have w6:IntKind.i64.wrap ((i:Int)+1)=((i+1:Nat):Int):=by rw [ag (by omega) (by omega)];omega
  obtain ⟨i1,hi1⟩:=nm (i+1)
  rw [hi1] at w6 hap
  generalize nvs (((bb r).take i).map (·.length))=L0 at *
  have hres:∀ σ,σ=L 62 ((((((((Tr.full 6).put (ah 1) (ai w)).put (ah 2) (.lbox (bu po fi sn pa la off (lst z0 1 none (bvs ff))))).put (ah 6) (.vs 1 (some 23) (aK hb))).put (ah 7) (lst true 1 (some 40) (nvs (((bb r).take i1).map (·.length))))).put (ah 30) (lst z1 1 none (bvs r))).put (ah 31) (ai r.length)).put (ah 32) (ai i1))→∃ m,m<z∧T1 G (bu po fi sn pa la off (lst z0 1 none (bvs ff))) w (.vs 1 (some 23) (aK hb)) z1 r m σ G:=fun σ e=>⟨z - 1,by omega,i1,by omega,rfl,e⟩
  generalize nvs (((bb r).take i1).map (·.length))=L1 at *
  simp -implicitDefEqProofs [-ac,-AV.one,-ad,nM,kS,bu,hla,hi,hi',q1,hxl,hap,w6]
  exact hres _ (by simp [bu])
 ·have hi':¬ (i:Int)<r.length:=by omega
  have hall:(bb r).take i=bb r:=List.take_of_length_le (by rw [bJ];omega)
  rw [hall]
  obtain ⟨L0,hL0⟩:=nm (nvs ((bb r).map (·.length)))
  rw [hL0]
  simp -implicitDefEqProofs [-ac,-AV.one,-ad,nM,kS,bu,hla,hi,hi']
  exact ⟨rfl,rfl,by rw [hL0];simp [bu]⟩
end
def jY (p:Pk):List Nat:=(bb (p.ff.take (p.ff.length - 1))).map (·.length)
def WrB (p:Pk) (w:Nat) (out:List Nat):Prop:=∃ hb lb,PackR (dy p w) hb∧PackR (ca (bG w) (jY p)) lb∧out=hb++lb++(bb p.ff).flatten
theorem wR (p:Pk) {w:Nat} (hw:w=10∨w=16):(dy p w).length≤60:=by
 have h1:∀ x:Int,aV x≤16:=fun x=>by simp only [aV];split<;>omega
 have h10:=h1 10
 have h16:=h1 16
 unfold dy
 rcases hw with rfl | rfl<;>(simp [bk];repeat' split)<;>simp [bk]<;>omega
theorem pQ {w:Nat} (hw:w=11∨w=15) {l:List Nat} (h:l.length≤23):(ca w l).length≤368:=by
 rw [dJ]
 have:l.length * (w+1)≤23 * 16:=Nat.mul_le_mul h (by omega)
 omega
set_option maxHeartbeats 2000000 in
theorem GO (p:Pk) (hs:∀ f∈p.ff,f.2.length≤100000) (hfl:p.ff.length≤100000) (w:Int) (H:ae) :
  (¬ (w=10∨w=16)→callW P iP [.agg p.v,ai w] H=some (.tup [bz,ai 9],H)) ∧
  ((w=10∨w=16)→dc p w=0→callW P iP [.agg p.v,ai w] H=some (.tup [bz,ai 3],H)) ∧
  (dc p w≠0→∃ out k,WrB p w.toNat out∧callW P iP [.agg p.v,ai w] H=some (.tup [.vs 1 none (aK out),ai 0],H++List.replicate k .other)):=by
 have h37:=fun H=>jP w H
 have hR:=fun H=>GN p hs hfl w H
 refine ⟨fun hw=>?_,fun hw h0=>?_,fun h0=>?_⟩
 ·rw [decide_eq_false hw] at h37
  obtain ⟨po,fi,sn,pa,la,off,z0,ff⟩:=p
  rw [rt rfl];simp -implicitDefEqProofs [-ac,-AV.one,-ad,nM,Pk.v,Pk.f,bu,h37]
 ·rw [decide_eq_true hw] at h37
  rw [h0] at hR
  replace hR:∀ H,callW P tE [.agg p.v,ai w] H=some (ab false,H):=hR
  obtain ⟨po,fi,sn,pa,la,off,z0,ff⟩:=p
  simp only [Pk.v,Pk.f,bu] at hR
  rw [rt rfl];simp -implicitDefEqProofs [-ac,-AV.one,-ad,nM,Pk.v,Pk.f,bu,h37,hR]
 ·obtain ⟨hok,hw,hf1,hf24,hsz,hpz⟩:=ni h0
  rw [decide_eq_true hw] at h37
  rw [decide_eq_true (by omega)] at hR
  obtain ⟨wn,rfl,hwn⟩:∃ wn:Nat,w=wn∧(wn=10∨wn=16):=by
   rcases hw with rfl | rfl
   ·exact ⟨10,rfl,.inl rfl⟩
   ·exact ⟨16,rfl,.inr rfl⟩
  have htn:((wn:Nat):Int).toNat=wn:=by simp
  rw [htn] at hok hsz ⊢
  obtain ⟨s1,s2,s3,s4⟩:=f8 (bb p.ff) (gO p wn) (by rw [← hsz];exact h0)
  have hbne:bb p.ff≠[]:=fun e=>by have:=congrArg List.length e;rw [bJ] at this;simp at this;rw [this] at hf1;simp at hf1
  have hdl:=s3 hbne
  obtain ⟨hb,k1,hpk,hH⟩:=KC (H:=H) hok hfl
  have hbl:=hpk.len
  have hbl2:=wR p hwn
  obtain ⟨G1,hG1⟩:=nm (H++List.replicate k1 .other)
  rw [hG1] at hH
  obtain ⟨l1,hl1⟩:=nm (p.ff.length - 1)
  obtain ⟨r,hr⟩:=nm (p.ff.take l1)
  have hrl:r.length=l1:=by rw [← hr,List.length_take];omega
  have hls:jY p=(bb r).map (·.length):=by rw [jY,hl1,hr]
  have hlw:bG wn=11∨bG wn=15:=by rcases hwn with rfl | rfl<;>simp [bG]
  have h41:=fun H=>li wn H
  have hlens:∀ n∈jY p,1≤n∧n<2 ^ bG wn:=fun n hn=>by
   rw [hls] at hn
   obtain ⟨b,hb1,rfl⟩:=List.mem_map.1 hn
   have hdr:bb r=(bb p.ff).dropLast:=by rw [List.dropLast_eq_take,bJ,hl1,← hr,bb,bb,List.map_take]
   rw [hdr] at hb1
   have h2:=s2 b hb1
   have h3:=s1 b (List.mem_of_mem_take (by rw [List.dropLast_eq_take] at hb1;exact hb1))
   have:2 ^ 11≤2 ^ bG wn:=Nat.pow_le_pow_right (by omega) (by omega)
   have:(2:Nat) ^ 11=2048:=by decide
   omega
  have hll:(jY p).length=l1:=by rw [hls];simp [bJ,hrl]
  have wl:IntKind.i64.wrap ((p.ff.length:Int) - 1)=(l1:Int):=by rw [ag (by omega) (by omega)];omega
  have hla:(bvs p.ff).length=p.ff.length:=bN p.ff
  have hcut:∀ d,iN 1 d (lst p.z 1 none (bvs p.ff)) none (some (ai l1)) none=some (lst (p.z && (bvs p.ff).isEmpty) 1 none (bvs r)):=fun d=>by
   have h:=pc (lo:=none) (hi:=some (ai l1)) (i:=0) (j:=l1) p.z 1 none d (bvs p.ff) (.inl ⟨rfl,rfl⟩) (.inr ⟨.i64,rfl⟩) (by omega) (by rw [hla];omega)
   rw [h,tg,List.drop_zero,← hr,bvs,bvs,List.map_take]
  have hrb:(bvs r).length=l1:=by rw [bN,hrl]
  suffices hend:Ends (callW P iP [.agg p.v,ai wn] H) fun y=>∃ out k,WrB p wn out∧y=(.tup [.vs 1 none (aK out),ai 0],H++List.replicate k .other) by
   obtain ⟨y,h2,out,k,h3,rfl⟩:=hend
   exact ⟨out,k,h3,h2⟩
  refine call_post 6 62 rfl (rfl:P.T iP=some F_q22) rfl (aS rfl) (fun e σ G=>e=.ret∧∃ out k,WrB p wn out∧G=H++List.replicate k .other∧aN F_q22.res σ=some (.tup [.vs 1 (some 61) (aK out),ai 0])) ?_ ?_
  ·rintro e σ G ⟨rfl,out,k,h1,rfl,h2⟩
   refine ⟨rfl,_,h2,rfl,?_⟩
   simp
   exact ⟨out,h1,rfl⟩
  have hH':=hH
  have hd:=fun H=>KF p hfl (by omega) H
  obtain ⟨data,hdata⟩:=nm ((bb p.ff).flatten)
  rw [hdata] at hd hdl
  have hfin:∀ lb,PackR (ca (bG wn) (jY p)) lb→WrB p wn (hb++lb++data):=fun lb h=>⟨hb,lb,hpk,h,by rw [hdata]⟩
  have hcs:∀ a b:List Nat,aK a++aK b=aK (a++b):=fun a b=>by simp [aK]
  have hlnv:(nvs (jY p)).length=l1:=by rw [dC,hll]
  obtain ⟨ls,hls'⟩:=nm (jY p)
  rw [hls'] at hlnv hlens hfin hll
  have hk1:∀ k2,G1++List.replicate k2 AObj.other=H++List.replicate (k1+k2) .other:=fun k2=>by rw [← hG1,iX]
  by_cases hl0:l1=0
  ·have hls0:ls=[]:=zq8 (by omega)
   have hnil:lst true 1 (some 40) (nvs ls)=.c (.slice none 0 0):=by rw [hls0];rfl
   obtain ⟨zd,fd,k3,hD⟩:=hd G1
   rw [hk1] at hD
   obtain ⟨G3,hG3⟩:=nm (H++List.replicate (k1+k3) AObj.other)
   rw [hG3] at hD
   have hap:=fun (f:Option Nat) σ H=>ic (m:=P.md iP) (d:=61) (bytes:=1) (c:=23) (l:=aK hb) (l':=aK data) (x:=lst zd 1 f (aK data)) (fun H=>elems_lst zd f 1 _ H) (by simp [bC,aJ];omega) (by simp [bC,aJ];omega) σ H
   have hres:=hfin [] (by rw [hls0];exact PackR.nil)
   rw [List.append_nil] at hres
   rw [hcs] at hap
   obtain ⟨out,hout⟩:=nm (hb++data)
   rw [hout] at hap hres
   have hgl:∀ out',out'=out→∃ o k,WrB p wn o∧G3=H++List.replicate k .other∧aK out'=aK o:=fun out' e=>⟨out,_,hres,hG3.symm,by rw [e]⟩
   obtain ⟨po,fi,sn,pa,la,off,z0,ff⟩:=p
   simp only [Pk.v,Pk.f,bu] at hR hH hD
   simp only at wl hla hcut
   generalize WrB ⟨po,fi,sn,pa,la,off,z0,ff⟩ wn=WW at *
   rw [F_q22];simp -implicitDefEqProofs [-ac,-AV.one,-ad,nM,Pk.v,Pk.f,bu,h37,hR,hH,hla,wl,hcut,hrb]
   repeat rw [Option.bind_assoc]
   refine Ends.block (P:=Eu G1 (bu po fi sn pa la off (lst z0 1 none (bvs ff))) wn (.vs 1 (some 23) (aK hb)) r) (Pm (z1:=z0 && (bvs ff).isEmpty) po fi sn pa la off z0 ff wn hb (by omega) r.length _ _ ⟨0,by omega,rfl,by simp [kS,bu,nvs,bb,hrl]⟩) ?_
   rintro e σ1 G2 ⟨rfl,rfl,k2⟩
   rw [← hls,hls',hnil] at k2
   simp only [bu] at k2
   simp -implicitDefEqProofs [-ac,-AV.one,-ad,nM,k2,hD,hap]
   exact ⟨out,hres,⟨_,hG3.symm⟩,rfl⟩
  ·have hl0':(l1:Int) > 0:=by omega
   have hl0'':(0:Int)<l1:=by omega
   have hl0p:0<l1:=by omega
   obtain ⟨lb,hpb,hL⟩:=uA (z0:=true) (l:=ls) (by omega) (by omega) hlw hlens G1
   have hlbl:=hpb.len
   have hlb2:=pQ hlw (l:=ls) (by omega)
   rw [hk1] at hL
   obtain ⟨G4,hG4⟩:=nm (H++List.replicate (k1+2) AObj.other)
   rw [hG4] at hL
   obtain ⟨zd,fd,k3,hD⟩:=hd G4
   rw [← hG4,iX,hG4] at hD
   obtain ⟨G3,hG3⟩:=nm (H++List.replicate (k1+2+k3) AObj.other)
   rw [hG3] at hD
   have hap1:=fun σ H=>ic (m:=P.md iP) (d:=57) (bytes:=1) (c:=23) (l:=aK hb) (l':=aK lb) (x:=.vs 1 none (aK lb)) (fun H=>dh H 1 none (aK lb)) (by simp [bC,aJ];omega) (by simp [bC,aJ];omega) σ H
   have hap:=fun (f:Option Nat) σ H=>ic (m:=P.md iP) (d:=61) (bytes:=1) (c:=57) (l:=aK (hb++lb)) (l':=aK data) (x:=lst zd 1 f (aK data)) (fun H=>elems_lst zd f 1 _ H) (by simp [bC,aJ];omega) (by simp [bC,aJ];omega) σ H
   have hres:=hfin lb hpb
   rw [hcs] at hap1
   rw [hcs] at hap
   obtain ⟨hb2,hhb2⟩:=nm (hb++lb)
   rw [hhb2] at hap1 hap hres
   obtain ⟨out,hout⟩:=nm (hb2++data)
   rw [hout] at hap hres
   have h41':=h41
   obtain ⟨lw,hlwe⟩:=nm (bG wn)
   rw [hlwe] at h41' hL
   obtain ⟨po,fi,sn,pa,la,off,z0,ff⟩:=p
   simp only [Pk.v,Pk.f,bu] at hR hH hD
   simp only at wl hla hcut
   generalize WrB ⟨po,fi,sn,pa,la,off,z0,ff⟩ wn=WW at *
   rw [F_q22];simp -implicitDefEqProofs [-ac,-AV.one,-ad,nM,Pk.v,Pk.f,bu,h37,hR,hH,hla,wl,hcut,hrb]
   repeat rw [Option.bind_assoc]
   refine Ends.block (P:=Eu G1 (bu po fi sn pa la off (lst z0 1 none (bvs ff))) wn (.vs 1 (some 23) (aK hb)) r) (Pm (z1:=z0 && (bvs ff).isEmpty) po fi sn pa la off z0 ff wn hb (by omega) r.length _ _ ⟨0,by omega,rfl,by simp [kS,bu,nvs,bb,hrl]⟩) ?_
   rintro e σ1 G2 ⟨rfl,rfl,k2⟩
   rw [← hls,hls'] at k2
   simp only [bu] at k2
   simp -implicitDefEqProofs [-ac,-AV.one,-ad,nM,k2,hlnv,hl0,hl0',hl0'',hl0p,h41',hL,hap1,hD,hap]
   exact ⟨out,hres,⟨_,hG3.symm⟩,rfl⟩
theorem Ex (H:ae) (z:Bool) (f:Option Nat) (l:List Nat):BD H (lst z 1 f (aK l))=some (.c (.string (qy l))):=by
 have h:∀ f,BD H (.vs 1 f (aK l))=some (.c (.string (qy l))):=fun f=>by
  simp only [BD]
  rw [if_pos trivial,Go.A.byteCs_flat,ug]
  rfl
 rcases bU z 1 f (aK l) with ⟨_,e1,e⟩ | ⟨e,_⟩
 ·have:l=[]:=by simpa [aK] using e1
  subst this
  rw [e];rfl
 ·rw [e];exact h f
theorem yg (H:ae) (b:Bs):BD H (bv b)=some (.c (.string (qy b.2))):=Ex H b.1 none b.2
def du (ff:List Bs):Prop:=∀ b∈ff,bF b.2
section
variable {H:ae} {za zb:Bool} {fa fb:List Bs}
def acX (H:ae) (za zb:Bool) (fa fb:List Bs) (z:Nat) (σ:List AV) (G:ae):Prop:=
 ∃ i:Nat,i+z=fa.length∧(bb fa).take i=(bb fb).take i∧G=H∧σ=L 28 ((((Tr.full 5).put (ah 0) (lst za 1 none (bvs fa))).put (ah 1) (lst zb 1 none (bvs fb))).put (ah 5) (ai i))
def KH (H:ae) (fa fb:List Bs) (e:AExit) (σ:List AV) (G:ae):Prop:=
 G=H∧((e=.exit 0∧bb fa=bb fb∧kill [0,1,5,11,12,13,14] σ=L 28 (Tr.full 5))∨(e=.ret∧bb fa≠bb fb∧aN F_q86.res σ=some (ab false)))
theorem GU (hl:fa.length=fb.length) (hs:fa.length≤100000) (hba:du fa) (hbb:du fb) (z:Nat) (σ:List AV) (G:ae) (hI:acX H za zb fa fb z (kill (bK kY) σ) G) :
  Ends (execW P ri (.loop kY) σ G) fun s=>KH H fa fb s.e s.σ s.H:=by
 refine bq (fun z σ G=>acX H za zb fa fb z σ G) (KH H fa fb) ?_ z σ G hI
 clear hI z σ G
 rintro z σ G ⟨i,hz,heq,rfl,rfl⟩
 have hla:(bvs fa).length=fa.length:=bN fa
 by_cases hi:i<fa.length
 ·have hi':(i:Int)<fa.length:=by omega
  obtain ⟨x,hx⟩:∃ x,fa[i]?=some x:=⟨_,zq6 hi⟩
  obtain ⟨y,hy⟩:∃ y,fb[i]?=some y:=⟨_,zq6 (by omega)⟩
  have q1:=hU hx za none .i64
  have q2:=hU hy zb none .i64
  have hne:=CG .no (hba x (List.mem_of_getElem? hx)) (hbb y (List.mem_of_getElem? hy))
  have w1:IntKind.i64.wrap ((i:Int)+1)=((i+1:Nat):Int):=by rw [ag (by omega) (by omega)];omega
  obtain ⟨i1,hi1⟩:=nm (i+1)
  rw [hi1] at w1
  by_cases hxy:x.2=y.2
  ·rw [decide_eq_true hxy] at hne
   simp -implicitDefEqProofs [-ac,-AV.one,-ad,px,kY,hla,hi,hi',q1,q2,yg,hne,w1]
   refine ⟨z - 1,by omega,i1,by omega,?_,rfl,by simp⟩
   rw [← hi1,eC (gU hx),eC (gU hy),heq,hxy]
  ·rw [decide_eq_false hxy] at hne
   simp -implicitDefEqProofs [-ac,-AV.one,-ad,px,kY,hla,hi,hi',q1,q2,yg,hne,w1]
   refine ⟨rfl,.inr ⟨rfl,?_,by simp [F_q86]⟩⟩
   intro h
   have h1:=gU hx
   rw [h,gU hy] at h1
   exact hxy (zq1 h1).symm
 ·have hi':¬ (i:Int)<fa.length:=by omega
  rw [List.take_of_length_le (by rw [bJ];omega),List.take_of_length_le (by rw [bJ];omega)] at heq
  simp -implicitDefEqProofs [-ac,-AV.one,-ad,px,kY,hla,hi,hi']
  exact ⟨rfl,.inl ⟨rfl,heq,by simp⟩⟩
theorem rC (hs:fa.length≤100000) (hs2:fb.length≤100000) (hba:du fa) (hbb:du fb) (H:ae) :
  callW P ri [lst za 1 none (bvs fa),lst zb 1 none (bvs fb)] H=some (ab (decide (bb fa=bb fb)),H):=by
 have hla:(bvs fa).length=fa.length:=bN fa
 have hlb:(bvs fb).length=fb.length:=bN fb
 by_cases hl:fa.length=fb.length
 ·have hl':(fa.length:Int)=fb.length:=by omega
  rw [cT]
  refine call_post 5 28 rfl (rfl:P.T ri=some F_q86) rfl (aS rfl) (fun e σ G=>e=.ret∧G=H∧aN F_q86.res σ=some (ab (decide (bb fa=bb fb)))) ?_ ?_
  ·rintro e σ G ⟨rfl,rfl,h⟩
   exact ⟨rfl,_,h,rfl,by simp⟩
  rw [F_q86];simp -implicitDefEqProofs [-ac,-AV.one,-ad,px,hla,hlb,hl,hl']
  repeat rw [Option.bind_assoc]
  refine Ends.block (P:=KH H fa fb) (GU (za:=za) (zb:=zb) hl hs hba hbb fa.length _ _ ⟨0,by omega,by simp,rfl,by simp [kY]⟩) ?_
  rintro e σ1 G1 ⟨rfl,⟨rfl,c1,c2⟩ | ⟨rfl,c1,c2⟩⟩
  ·simp -implicitDefEqProofs [-ac,-AV.one,-ad,px,c2,c1]
  ·simp [F_q86] at c2
   simp -implicitDefEqProofs [-ac,-AV.one,-ad,px,c2,c1]
 ·have hl':¬ (fa.length:Int)=fb.length:=by omega
  have hne:bb fa≠bb fb:=fun h=>hl (by have:=congrArg List.length h;rwa [bJ,bJ] at this)
  rw [qw rfl];simp -implicitDefEqProofs [-ac,-AV.one,-ad,px,hla,hlb,hl,hl',hne]
end
def Pk.eq (p q:Pk):Bool:=decide (p.poll=q.poll) && decide (p.fi=q.fi) && decide (p.sn=q.sn) && decide (p.part=q.part) && decide (p.last=q.last) && decide (p.off=q.off) && decide (bb p.ff=bb q.ff)
theorem lAs (p:Pk) (H:ae):callW P vP [.agg p.v] H=some (.agg p.v,H):=by
 obtain ⟨po,fi,sn,pa,la,off,z0,ff⟩:=p
 rw [J8 rfl];simp -implicitDefEqProofs [-ac,-AV.one,-ad,JF,Pk.v,Pk.f,bu]
set_option maxHeartbeats 1000000 in
theorem acY (p q:Pk) (hs:p.ff.length≤100000) (hs2:q.ff.length≤100000) (hba:du p.ff) (hbb:du q.ff) (H:ae) :
  callW P vR [.agg p.v,.agg q.v] H=some (ab (p.eq q),H):=by
 have hf:=fun H=>rC (za:=p.z) (zb:=q.z) hs hs2 hba hbb H
 obtain ⟨po,fi,sn,pa,la,off,z0,ff⟩:=p
 obtain ⟨po2,fi2,sn2,pa2,la2,off2,z02,ff2⟩:=q
 simp only at hf
 simp only [Pk.eq]
 by_cases h1:po=po2
 ·by_cases h2:fi=fi2
  ·by_cases h3:sn=sn2
   ·by_cases h4:pa=pa2
    ·by_cases h5:la=la2
     ·by_cases h6:off=off2
      ·rw [gf rfl];simp -implicitDefEqProofs [-ac,-AV.one,-ad,pq,Pk.v,Pk.f,bu,h1,h2,h3,h4,h5,h6,hf]
      ·rw [gf rfl];simp -implicitDefEqProofs [-ac,-AV.one,-ad,pq,Pk.v,Pk.f,bu,h1,h2,h3,h4,h5,h6]
     ·rw [gf rfl];simp -implicitDefEqProofs [-ac,-AV.one,-ad,pq,Pk.v,Pk.f,bu,h1,h2,h3,h4,h5]
    ·rw [gf rfl];simp -implicitDefEqProofs [-ac,-AV.one,-ad,pq,Pk.v,Pk.f,bu,h1,h2,h3,h4]
   ·rw [gf rfl];simp -implicitDefEqProofs [-ac,-AV.one,-ad,pq,Pk.v,Pk.f,bu,h1,h2,h3]
  ·rw [gf rfl];simp -implicitDefEqProofs [-ac,-AV.one,-ad,pq,Pk.v,Pk.f,bu,h1,h2]
 ·rw [gf rfl];simp -implicitDefEqProofs [-ac,-AV.one,-ad,pq,Pk.v,Pk.f,bu,h1]
def gr (n:Nat):Nat→List (List Nat)→Bool
 | all,[]=>decide (9000<all)
 | all,f :: r=>if 40<n∨4200<f.length then true else gr n (all+f.length) r
theorem AO {n:Nat}:∀ {ff:List (List Nat)} {all:Nat},gr n all ff=false→(ff≠[]→n≤40)∧(∀ f∈ff,f.length≤4200)∧all+ff.flatten.length≤9000
 | [],all,h=>⟨fun h=>(h rfl).elim,by simp,by simp [gr] at h;simpa using h⟩
 | f :: r,all,h=>by
  rw [gr] at h
  by_cases hc:40<n∨4200<f.length
  ·rw [if_pos hc] at h;simp at h
  ·rw [if_neg hc] at h
   obtain ⟨h1,h2,h3⟩:=AO h
   refine ⟨fun _=>by omega,fun x hx=>?_,by rw [List.flatten_cons,List.length_append];omega⟩
   rcases List.mem_cons.1 hx with rfl | hx
   ·omega
   ·exact h2 x hx
def jv (ff:List Bs):Bool:=gr ff.length 0 (bb ff)
section
variable {H:ae} {z0:Bool} {ff:List Bs}
def Pz (H:ae) (z0:Bool) (ff:List Bs) (z:Nat) (σ:List AV) (G:ae):Prop:=
 ∃ i all:Nat,i+z=ff.length∧(i=0∨ff.length≤40)∧all≤4200 * i∧jv ff=gr ff.length all ((bb ff).drop i)∧G=H∧σ=L 31 ((((Tr.full 6).put (ah 0) (lst z0 1 none (bvs ff))).put (ah 3) (ai all)).put (ah 4) (ai i))
def Do (H:ae) (ff:List Bs) (e:AExit) (σ:List AV) (G:ae):Prop:=
 G=H∧((e=.exit 0∧∃ all:Nat,jv ff=decide (9000<all)∧kill [0,4,5,6,7,8] σ=L 31 ((Tr.full 6).put (ah 3) (ai all)))∨(e=.ret∧jv ff=true∧aN F_q9.res σ=some (ab true)))
theorem Dp (z:Nat) (σ:List AV) (G:ae) (hI:Pz H z0 ff z (kill (bK mw) σ) G) :
  Ends (execW P Jr (.loop mw) σ G) fun s=>Do H ff s.e s.σ s.H:=by
 refine bq (fun z σ G=>Pz H z0 ff z σ G) (Do H ff) ?_ z σ G hI
 clear hI z σ G
 rintro z σ G ⟨i,all,hz,hi40,hall,hg,rfl,rfl⟩
 have hla:(bvs ff).length=ff.length:=bN ff
 by_cases hi:i<ff.length
 ·have hi':(i:Int)<ff.length:=by omega
  obtain ⟨x,hx⟩:∃ x,ff[i]?=some x:=⟨_,zq6 hi⟩
  have q1:=hU hx z0 none .i64
  have hxl:=cL x
  have hdrop:(bb ff).drop i=x.2 :: (bb ff).drop (i+1):=by
   have h2:=gU hx
   have hi2:i<(bb ff).length:=by rw [bJ];exact hi
   rw [List.drop_eq_getElem_cons hi2]
   rw [zq6 hi2] at h2
   rw [zq1 h2]
  rw [hdrop,gr] at hg
  by_cases c1:40<ff.length
  ·have c1':(ff.length:Int) > 40:=by omega
   have c1'':(40:Int)<ff.length:=by omega
   rw [if_pos (.inl c1)] at hg
   simp -implicitDefEqProofs [-ac,-AV.one,-ad,xL,mw,hla,hi,hi',c1,c1',c1'']
   exact ⟨rfl,.inr ⟨rfl,hg,by simp [F_q9]⟩⟩
  ·have c1':¬ (ff.length:Int) > 40:=by omega
   have c1'':¬ (40:Int)<ff.length:=by omega
   by_cases c2:4200<x.2.length
   ·have c2':(x.2.length:Int) > 4200:=by omega
    have c2'':(4200:Int)<x.2.length:=by omega
    rw [if_pos (.inr c2)] at hg
    simp -implicitDefEqProofs [-ac,-AV.one,-ad,xL,mw,hla,hi,hi',c1,c1',c1'',q1,hxl,c2,c2',c2'']
    exact ⟨rfl,.inr ⟨rfl,hg,by simp [F_q9]⟩⟩
   ·have c2':¬ (x.2.length:Int) > 4200:=by omega
    have c2'':¬ (4200:Int)<x.2.length:=by omega
    rw [if_neg (by omega)] at hg
    have w5:IntKind.i64.wrap ((all:Int)+x.2.length)=((all+x.2.length:Nat):Int):=by rw [ag (by omega) (by omega)];omega
    have w6:IntKind.i64.wrap ((i:Int)+1)=((i+1:Nat):Int):=by rw [ag (by omega) (by omega)];omega
    obtain ⟨i1,hi1⟩:=nm (i+1)
    rw [hi1] at w6 hg
    obtain ⟨a1,ha1⟩:=nm (all+x.2.length)
    rw [ha1] at w5 hg
    simp -implicitDefEqProofs [-ac,-AV.one,-ad,xL,mw,hla,hi,hi',c1,c1',c1'',q1,hxl,c2,c2',c2'',w5,w6]
    exact ⟨z - 1,by omega,i1,a1,by omega,by omega,by omega,hg,rfl,by simp⟩
 ·have hi':¬ (i:Int)<ff.length:=by omega
  have hnil:(bb ff).drop i=[]:=List.drop_eq_nil_of_le (by rw [bJ];omega)
  rw [hnil,gr] at hg
  simp -implicitDefEqProofs [-ac,-AV.one,-ad,xL,mw,hla,hi,hi']
  exact ⟨rfl,.inl ⟨rfl,all,hg,by simp⟩⟩
theorem Lq (H:ae):callW P Jr [lst z0 1 none (bvs ff)] H=some (ab (jv ff),H):=by
 rw [cT]
 refine call_post 6 31 rfl (rfl:P.T Jr=some F_q9) rfl (aS rfl) (fun e σ G=>e=.ret∧G=H∧aN F_q9.res σ=some (ab (jv ff))) ?_ ?_
 ·rintro e σ G ⟨rfl,rfl,h⟩
  exact ⟨rfl,_,h,rfl,by simp⟩
 rw [F_q9];simp -implicitDefEqProofs [-ac,-AV.one,-ad,xL]
 repeat rw [Option.bind_assoc]
 refine Ends.block (P:=Do H ff) (Dp (z0:=z0) ff.length _ _ ⟨0,0,by omega,.inl rfl,by omega,by simp [jv],rfl,by simp [mw]⟩) ?_
 rintro e σ1 G1 ⟨rfl,⟨rfl,all,c1,c2⟩ | ⟨rfl,c1,c2⟩⟩
 ·by_cases h9:(all:Int) > 9000
  ·have h9':(9000:Int)<all:=h9
   have h9'':9000<all:=by omega
   rw [decide_eq_true h9''] at c1
   simp -implicitDefEqProofs [-ac,-AV.one,-ad,xL,c2,h9,h9',h9'',c1]
  ·have h9':¬ (9000:Int)<all:=h9
   have h9'':¬ 9000<all:=by omega
   rw [decide_eq_false h9''] at c1
   simp -implicitDefEqProofs [-ac,-AV.one,-ad,xL,c2,h9,h9',h9'',c1]
 ·simp [F_q9] at c2
  simp -implicitDefEqProofs [-ac,-AV.one,-ad,xL,c1,c2]
end
end Go.A.V.S
