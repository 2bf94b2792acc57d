/- How many bytes a packet has. -/
import Derived.Test.YtnmobjhmohcjfaaGreatXA
import Derived.Test.YtnmobjhmohcjfaaGreatAX
set_option linter.unusedSimpArgs false
set_option linter.unusedVariables false
set_option linter.unnecessarySimpa false
namespace Go.A.V.S
open Go Go.A
def gD (p:Pk) (w:Nat):Nat:=bN p.part w+aS (p.ff.length - 1) (bn w)
def cO (p:Pk) (w:Int):Nat:=
 if ¬ (w=10∨w=16) then 0 else if p.fi<0 then 0 else if 3<p.fi then 0 else if ¬ (0≤p.sn∧p.sn<(2 ^ w.toNat:Nat)) then 0
 else if p.part=false∧p.last=true then 0 else if p.part=false∧p.off≠0 then 0 else if p.off<0 then 0 else if (2 ^ aI w:Nat)≤p.off then 0
 else if p.ff.length<1 then 0 else if 24<p.ff.length then 0 else cQ (gD p w.toNat) (bb p.ff)
section
variable {H:ae}
def acW (H:ae) (Q:List AV) (z0:Bool) (ff:List Bs) (n0:Nat) (z:Nat) (σ:List AV) (G:ae):Prop:=
 ∃ (i n:Nat),i+z=ff.length∧n≤4000∧cQ n0 (bb ff)=cQ n ((bb ff).drop i)∧G=H∧σ=L 118 ((((((Tr.full 7).put (ag 2) (.lbox Q)).put (ag 6) (ai n)).put (ag 82) (lst z0 1 none (bvs ff))).put (ag 83) (ai ff.length)).put (ag 84) (ai i))
def Eh (H:ae) (ff:List Bs) (n0:Nat) (e:AExit) (σ:List AV) (G:ae):Prop:=
 G=H∧((e=.exit 1∧kill [2,82,83,84,85] σ=L 118 ((Tr.full 7).put (ag 6) (ai (cQ n0 (bb ff):Nat))))∨(e=.ret∧cQ n0 (bb ff)=0∧aA F_q99.res σ=some (ai 0)))
theorem Pj {z0:Bool} {ff:List Bs} (po:Bool) (fi sn:Int) (pa la:Bool) (off:Int) (hl:ff.length≤24) (hs:∀ f∈ff,f.2.length≤100000) (n0:Nat) (z:Nat) (σ:List AV) (G:ae) (hI:acW H (aZ po fi sn pa la off (lst z0 1 none (bvs ff))) z0 ff n0 z (kill (bu fS) σ) G) :
  Ends (execW P qU (.loop fS) σ G) fun s=>Eh H ff n0 s.e s.σ s.H:=by
 refine aX (fun z σ G=>acW H (aZ po fi sn pa la off (lst z0 1 none (bvs ff))) z0 ff n0 z σ G) (Eh H ff n0) ?_ z σ G hI
 clear hI z σ G
 rintro z σ G ⟨i,n,hz,hn4,hsum,rfl,rfl⟩
 have hla:(bvs ff).length=ff.length:=bA ff
 by_cases hi:i<ff.length
 ·have hi':(i:Int)<ff.length:=by omega
  obtain ⟨x,hx⟩:∃ x,ff[i]?=some x:=⟨_,zq6 hi⟩
  have hxs:=hs x (List.mem_of_getElem? hx)
  have q1:=gO hx z0 none .i64
  have hdrop:(bb ff).drop i=x.2 :: (bb ff).drop (i+1):=by
   have h2:=gH hx
   have hi2:i<(bb ff).length:=by rw [br];exact hi
   rw [List.drop_eq_getElem_cons hi2]
   rw [zq6 hi2] at h2
   rw [zq1 h2]
  rw [hdrop,cQ,List.length_drop,br] at hsum
  have hxl:=cz x
  have wl:IntKind.i64.wrap ((ff.length:Int) - 1)=(ff.length:Int) - 1:=aq (by omega) (by omega)
  have w4:IntKind.i64.wrap (4000 - (n:Int))=4000 - (n:Int):=aq (by omega) (by omega)
  have w5:IntKind.i64.wrap ((n:Int)+x.2.length)=((n+x.2.length:Nat):Int):=by rw [aq (by omega) (by omega)];omega
  have w6:IntKind.i64.wrap ((i:Int)+1)=((i+1:Nat):Int):=by rw [aq (by omega) (by omega)];omega
  obtain ⟨xl,hxl'⟩:=nm (x.2.length)
  rw [hxl'] at hxl hsum w5 hxs
  obtain ⟨i1,hi1⟩:=nm (i+1)
  rw [hi1] at w6 hsum
  obtain ⟨n1,hn1⟩:=nm (n+xl)
  rw [hn1] at w5 hsum
  by_cases c1:xl=0
  ·have c1':(xl:Int)=0:=by omega
   rw [if_pos c1] at hsum
   simp -implicitDefEqProofs [-ac,-AV.one,-ad,eh,fS,hla,hi,hi',q1,hxl,hxl',c1,c1']
   exact ⟨rfl,.inr ⟨rfl,hsum,by simp [F_q99]⟩⟩
  ·have c1':¬ (xl:Int)=0:=by omega
   have c0:¬ x.2=[]:=fun h=>c1 (by rw [← hxl',h];rfl)
   rw [if_neg c1] at hsum
   by_cases c2:xl > 2047
   ·have c2':(xl:Int) > 2047:=by omega
    have c2'':(2047:Int)<xl:=by omega
    have c2''':2047<xl:=by omega
    by_cases c3:(i:Int)<(ff.length:Int) - 1
    ·rw [if_pos ⟨c2,by omega⟩] at hsum
     simp -implicitDefEqProofs [-ac,-AV.one,-ad,eh,fS,aZ,hla,hi,hi',q1,hxl,hxl',c0,c1,c1',c2,c2',c2'',c2''',wl,c3]
     exact ⟨rfl,.inr ⟨rfl,hsum,by simp [F_q99]⟩⟩
    ·rw [if_neg (by omega)] at hsum
     by_cases c4:(xl:Int) > 4000 - (n:Int)
     ·have c4':4000 - (n:Int)<xl:=c4
      rw [if_pos (by omega)] at hsum
      simp -implicitDefEqProofs [-ac,-AV.one,-ad,eh,fS,aZ,hla,hi,hi',q1,hxl,hxl',c0,c1,c1',c2,c2',c2'',c2''',wl,c3,w4,c4,c4']
      exact ⟨rfl,.inr ⟨rfl,hsum,by simp [F_q99]⟩⟩
     ·have c4':¬ 4000 - (n:Int)<xl:=c4
      rw [if_neg (by omega)] at hsum
      simp -implicitDefEqProofs [-ac,-AV.one,-ad,eh,fS,aZ,hla,hi,hi',q1,hxl,hxl',c0,c1,c1',c2,c2',c2'',c2''',wl,c3,w4,c4,c4',w5,w6]
      exact ⟨z - 1,by omega,i1,n1,by omega,by omega,hsum,rfl,by simp [aZ]⟩
   ·have c2':¬ (xl:Int) > 2047:=by omega
    have c2'':¬ (2047:Int)<xl:=by omega
    have c2''':¬ 2047<xl:=by omega
    rw [if_neg (by omega)] at hsum
    by_cases c4:(xl:Int) > 4000 - (n:Int)
    ·have c4':4000 - (n:Int)<xl:=c4
     rw [if_pos (by omega)] at hsum
     simp -implicitDefEqProofs [-ac,-AV.one,-ad,eh,fS,aZ,hla,hi,hi',q1,hxl,hxl',c0,c1,c1',c2,c2',c2'',c2''',w4,c4,c4']
     exact ⟨rfl,.inr ⟨rfl,hsum,by simp [F_q99]⟩⟩
    ·have c4':¬ 4000 - (n:Int)<xl:=c4
     rw [if_neg (by omega)] at hsum
     simp -implicitDefEqProofs [-ac,-AV.one,-ad,eh,fS,aZ,hla,hi,hi',q1,hxl,hxl',c0,c1,c1',c2,c2',c2'',c2''',w4,c4,c4',w5,w6]
     exact ⟨z - 1,by omega,i1,n1,by omega,by omega,hsum,rfl,by simp [aZ]⟩
 ·have hi':¬ (i:Int)<ff.length:=by omega
  have hnil:(bb ff).drop i=[]:=List.drop_eq_nil_of_le (by rw [br];omega)
  rw [hnil,cQ] at hsum
  rw [← hsum]
  simp -implicitDefEqProofs [-ac,-AV.one,-ad,eh,fS,hla,hi,hi']
  exact ⟨rfl,.inl ⟨rfl,by simp⟩⟩
set_option maxHeartbeats 4000000 in
theorem Kt (p:Pk) (hs:∀ f∈p.ff,f.2.length≤100000) (hfl:p.ff.length≤100000) (w:Int) (H:ae) :
  callW P qU [.agg p.v,ai w] H=some (ai (cO p w:Nat),H):=by
 obtain ⟨po,fi,sn,pa,la,off,z0,ff⟩:=p
 simp only at hfl hs
 have h37:=fun H=>jE w H
 have hla:(bvs ff).length=ff.length:=bA ff
 by_cases hw:w=10∨w=16
 ·have hwd:decide (w=10∨w=16)=true:=by simp [hw]
  rw [hwd] at h37
  obtain ⟨wn,rfl,hwn⟩:∃ wn:Nat,w=wn∧(wn=10∨wn=16):=by
   rcases hw with rfl | rfl
   ·exact ⟨10,rfl,.inl rfl⟩
   ·exact ⟨16,rfl,.inr rfl⟩
  have htn:((wn:Nat):Int).toNat=wn:=by simp
  by_cases c1:fi<0
  ·have hR:cO ⟨po,fi,sn,pa,la,off,z0,ff⟩ wn=0:=by rw [cO,if_neg (not_not_intro hw),if_pos c1]
   rw [hR]
   rw [db rfl];simp -implicitDefEqProofs [-ac,-AV.one,-ad,eh,Pk.v,Pk.f,aZ,h37,c1]
  ·by_cases c2:fi > 3
   ·have c2':3<fi:=c2
    have hR:cO ⟨po,fi,sn,pa,la,off,z0,ff⟩ wn=0:=by rw [cO,if_neg (not_not_intro hw),if_neg c1,if_pos c2]
    rw [hR]
    rw [db rfl];simp -implicitDefEqProofs [-ac,-AV.one,-ad,eh,Pk.v,Pk.f,aZ,h37,c1,c2,c2']
   ·have c2':¬ 3<fi:=c2
    have h51:=fun H=>Ai hwn sn H
    by_cases c3:0≤sn∧sn<(2 ^ wn:Nat)
    ·rw [decide_eq_true c3] at h51
     have o52:=fun H=>eK wn H
     have hoz:¬ ((aI wn:Nat):Int)<0:=by omega
     have how:aI wn≤16:=by simp only [aI];split<;>omega
     have how2:((2 ^ aI wn:Nat):Int)=2 ^ aI wn:=by simp
     have hom:min (aI wn) 64=aI wn:=by omega
     have hlt64:(2:Int) ^ aI wn≤65536:=by
      rw [← how2]
      have:2 ^ aI wn≤2 ^ 16:=Nat.pow_le_pow_right (by omega) how
      have:(2:Nat) ^ 16=65536:=by decide
      omega
     have hge1:(0:Int)<2 ^ aI wn:=by
      rw [← how2]
      have:0<2 ^ aI (wn:Int):=Nat.pow_pos (by omega)
      omega
     have hp:IntKind.i64.wrap (1 * 2 ^ aI wn)=2 ^ aI wn:=by rw [Int.one_mul];exact aq (by omega) (by omega)
     have hp':IntKind.i64.wrap (2 ^ aI wn)=2 ^ aI wn:=aq (by omega) (by omega)
     have hpre:cO ⟨po,fi,sn,pa,la,off,z0,ff⟩ wn=if pa=false∧la=true then 0 else if pa=false∧off≠0 then 0 else if off<0 then 0 else if (2 ^ aI wn:Nat)≤off then 0 else if ff.length<1 then 0 else if 24<ff.length then 0 else cQ (gD ⟨po,fi,sn,pa,la,off,z0,ff⟩ wn) (bb ff):=by
      rw [cO,if_neg (not_not_intro hw),if_neg c1,if_neg c2,if_neg (by rw [htn];exact not_not_intro c3),htn]
     rw [hpre]
     by_cases z1:pa=false∧la=true
     ·obtain ⟨rfl,rfl⟩:=z1
      rw [if_pos ⟨rfl,rfl⟩]
      rw [db rfl];simp -implicitDefEqProofs [-ac,-AV.one,-ad,eh,aK,aB,aP,aC,aM,SOpG.reads,SOp.slots,SX.slots,SOp.noL,rdV,av,aJ,aE,eqV,Pk.v,Pk.f,aZ,h37,c1,c2,c2',h51]
     ·rw [if_neg z1]
      by_cases z2:pa=false∧off≠0
      ·obtain ⟨rfl,z2⟩:=z2
       have hl:la=false:=by simpa using z1
       subst hl
       rw [if_pos ⟨rfl,z2⟩]
       rw [db rfl];simp -implicitDefEqProofs [-ac,-AV.one,-ad,eh,aK,aB,aP,aC,aM,SOpG.reads,SOp.slots,SX.slots,SOp.noL,rdV,av,aJ,aE,eqV,Pk.v,Pk.f,aZ,h37,c1,c2,c2',h51,z2]
      ·rw [if_neg z2]
       have hz:pa=true∨(pa=false∧la=false∧off=0):=by
        cases pa
        ·exact .inr ⟨rfl,by simpa using z1,by simpa using z2⟩
        ·exact .inl rfl
       by_cases c6:off<0
       ·rw [if_pos c6]
        rcases hz with rfl | ⟨rfl,rfl,rfl⟩
        ·rw [db rfl];simp -implicitDefEqProofs [-ac,-AV.one,-ad,eh,aK,aB,aP,aC,aM,SOpG.reads,SOp.slots,SX.slots,SOp.noL,rdV,av,aJ,aE,eqV,Pk.v,Pk.f,aZ,h37,c1,c2,c2',h51,c6]
        ·omega
       ·rw [if_neg c6]
        by_cases c7:(2 ^ aI wn:Nat)≤off
        ·rw [if_pos c7]
         have c7':off ≥ (2 ^ aI wn:Nat):=c7
         rw [how2] at c7 c7'
         rcases hz with rfl | ⟨rfl,rfl,rfl⟩
         ·rw [db rfl];simp -implicitDefEqProofs [-ac,-AV.one,-ad,eh,aK,aB,aP,aC,aM,SOpG.reads,SOp.slots,SX.slots,SOp.noL,rdV,av,aJ,aE,eqV,Pk.v,Pk.f,aZ,h37,c1,c2,c2',h51,o52,c6,hoz,hom,hp,hp',c7,c7']
         ·omega
        ·rw [if_neg c7]
         have c7':¬ off ≥ (2 ^ aI wn:Nat):=c7
         rw [how2] at c7 c7'
         by_cases c8:ff.length<1
         ·rw [if_pos c8]
          have c8':(ff.length:Int)<1:=by omega
          have c8'':ff=[]:=zq8 (by omega)
          subst c8''
          have hb0:bvs []=[]:=rfl
          rcases hz with rfl | ⟨rfl,rfl,rfl⟩
          ·rw [db rfl];simp -implicitDefEqProofs [-ac,-AV.one,-ad,eh,aK,aB,aP,aC,aM,SOpG.reads,SOp.slots,SX.slots,SOp.noL,rdV,av,aJ,aE,eqV,Pk.v,Pk.f,aZ,h37,c1,c2,c2',h51,o52,c6,hoz,hom,hp,hp',c7,c7',hb0]
          ·rw [db rfl];simp -implicitDefEqProofs [-ac,-AV.one,-ad,eh,aK,aB,aP,aC,aM,SOpG.reads,SOp.slots,SX.slots,SOp.noL,rdV,av,aJ,aE,eqV,Pk.v,Pk.f,aZ,h37,c1,c2,c2',h51,o52,c6,hoz,hom,hp,hp',c7,c7',hb0]
         ·rw [if_neg c8]
          have c8':¬ (ff.length:Int)<1:=by omega
          have c8'':¬ ff=[]:=fun h=>c8 (by rw [h];decide)
          by_cases c9:24<ff.length
          ·rw [if_pos c9]
           have c9':(24:Int)<ff.length:=by omega
           have c9'':(ff.length:Int) > 24:=by omega
           rcases hz with rfl | ⟨rfl,rfl,rfl⟩
           ·rw [db rfl];simp -implicitDefEqProofs [-ac,-AV.one,-ad,eh,aK,aB,aP,aC,aM,SOpG.reads,SOp.slots,SX.slots,SOp.noL,rdV,av,aJ,aE,eqV,Pk.v,Pk.f,aZ,h37,c1,c2,c2',h51,o52,c6,hoz,hom,hp,hp',c7,c7',hla,c8,c8',c8'',c9,c9',c9'']
           ·rw [db rfl];simp -implicitDefEqProofs [-ac,-AV.one,-ad,eh,aK,aB,aP,aC,aM,SOpG.reads,SOp.slots,SX.slots,SOp.noL,rdV,av,aJ,aE,eqV,Pk.v,Pk.f,aZ,h37,c1,c2,c2',h51,o52,c6,hoz,hom,hp,hp',c7,c7',hla,c8,c8',c8'',c9,c9',c9'']
          ·rw [if_neg c9]
           have c9':¬ (24:Int)<ff.length:=by omega
           have c9'':¬ (ff.length:Int) > 24:=by omega
           have hlw:bn wn=11∨bn wn=15:=by rcases hwn with rfl | rfl<;>simp [bn]
           have h28:=fun H=>Ad pa wn H
           have h41:=fun H=>kT wn H
           have h53:=fun H=>m3 (ff.length - 1) (bn wn) hlw (by omega) H
           have hls:=t9 (n:=ff.length - 1) hlw (by omega)
           have hhv:bN pa (wn:Int)≤5:=by rw [fm hwn];split<;>split<;>omega
           have hbase:gD ⟨po,fi,sn,pa,la,off,z0,ff⟩ wn=bN pa wn+aS (ff.length - 1) (bn wn):=rfl
           rw [hbase]
           have wl:IntKind.i64.wrap ((ff.length:Int) - 1)=((ff.length - 1:Nat):Int):=by rw [aq (by omega) (by omega)];omega
           obtain ⟨hv,hhve⟩:=nm (bN pa (wn:Int))
           obtain ⟨ls,hlse⟩:=nm (aS (ff.length - 1) (bn wn))
           rw [hhve] at h28 hhv ⊢
           rw [hlse] at h53 hls ⊢
           obtain ⟨lw,hlwe⟩:=nm (bn wn)
           rw [hlwe] at h41 h53
           obtain ⟨l1,hl1⟩:=nm (ff.length - 1)
           rw [hl1] at h53 wl
           have wb:IntKind.i64.wrap ((hv:Int)+ls)=((hv+ls:Nat):Int):=by rw [aq (by omega) (by omega)];omega
           obtain ⟨n0,hn0⟩:=nm (hv+ls)
           rw [hn0] at wb ⊢
           rw [cH]
           refine call_post 7 118 rfl (rfl:P.T qU=some F_q99) rfl (aF rfl) (fun e σ G=>e=.ret∧aA F_q99.res σ=some (ai (cQ n0 (bb ff):Nat))∧G=H) ?_ ?_
           ·rintro e σ G ⟨rfl,q2,rfl⟩
            exact ⟨rfl,_,q2,rfl,by simp⟩
           rcases hz with rfl | ⟨rfl,rfl,rfl⟩
           ·rw [F_q99];simp -implicitDefEqProofs [-ac,-AV.one,-ad,eh,aK,aB,aP,aC,aM,SOpG.reads,SOp.slots,SX.slots,SOp.noL,rdV,av,aJ,aE,eqV,Pk.v,Pk.f,aZ,h37,c1,c2,c2',h51,o52,c6,hoz,hom,hp,hp',c7,c7',hla,c8,c8',c8'',c9,c9',c9'',h28,wl,h41,h53,wb]
            repeat rw [Option.bind_assoc]
            refine Ends.block (P:=Eh H ff n0) (Pj (z0:=z0) po fi sn true la off (by omega) hs n0 ff.length _ _ ⟨0,n0,by omega,by omega,by simp,rfl,by simp [fS,aZ]⟩) ?_
            rintro e σ1 G1 ⟨rfl,⟨rfl,k2⟩ | ⟨rfl,k1,k2⟩⟩
            ·simp -implicitDefEqProofs [-ac,-AV.one,-ad,eh,k2]
            ·rw [k1]
             simp -implicitDefEqProofs [-ac,-AV.one,-ad,eh]
             simpa [F_q99] using k2
           ·rw [F_q99];simp -implicitDefEqProofs [-ac,-AV.one,-ad,eh,aK,aB,aP,aC,aM,SOpG.reads,SOp.slots,SX.slots,SOp.noL,rdV,av,aJ,aE,eqV,Pk.v,Pk.f,aZ,h37,c1,c2,c2',h51,o52,c6,hoz,hom,hp,hp',c7,c7',hla,c8,c8',c8'',c9,c9',c9'',h28,wl,h41,h53,wb]
            repeat rw [Option.bind_assoc]
            refine Ends.block (P:=Eh H ff n0) (Pj (z0:=z0) po fi sn false false 0 (by omega) hs n0 ff.length _ _ ⟨0,n0,by omega,by omega,by simp,rfl,by simp [fS,aZ]⟩) ?_
            rintro e σ1 G1 ⟨rfl,⟨rfl,k2⟩ | ⟨rfl,k1,k2⟩⟩
            ·simp -implicitDefEqProofs [-ac,-AV.one,-ad,eh,k2]
            ·rw [k1]
             simp -implicitDefEqProofs [-ac,-AV.one,-ad,eh]
             simpa [F_q99] using k2
    ·rw [decide_eq_false c3] at h51
     have hR:cO ⟨po,fi,sn,pa,la,off,z0,ff⟩ wn=0:=by rw [cO,if_neg (not_not_intro hw),if_neg c1,if_neg c2,if_pos (by rw [htn];exact c3)]
     rw [hR]
     rw [db rfl];simp -implicitDefEqProofs [-ac,-AV.one,-ad,eh,Pk.v,Pk.f,aZ,h37,c1,c2,c2',h51]
 ·have hwd:decide (w=10∨w=16)=false:=by simp [hw]
  rw [hwd] at h37
  have hR:cO ⟨po,fi,sn,pa,la,off,z0,ff⟩ w=0:=by rw [cO,if_pos hw]
  rw [hR]
  rw [db rfl];simp -implicitDefEqProofs [-ac,-AV.one,-ad,eh,Pk.v,Pk.f,aZ,h37]
end
theorem fQ:∀ (ff:List (List Nat)) (n:Nat),cQ n ff≠0→(∀ f∈ff,f.length≠0)∧(∀ f∈ff.dropLast,f.length≤2047)∧(ff≠[]→n+ff.flatten.length≤4000)∧cQ n ff=n+ff.flatten.length
 | [],n,h=>⟨by simp,by simp,fun h=>(h rfl).elim,by simp [cQ]⟩
 | f :: r,n,h=>by
  rw [cQ] at h ⊢
  by_cases c1:f.length=0
  ·rw [if_pos c1] at h;exact (h rfl).elim
  ·rw [if_neg c1] at h ⊢
   by_cases c2:2047<f.length∧0<r.length
   ·rw [if_pos c2] at h;exact (h rfl).elim
   ·rw [if_neg c2] at h ⊢
    by_cases c3:4000<f.length+n
    ·rw [if_pos c3] at h;exact (h rfl).elim
    ·rw [if_neg c3] at h ⊢
     obtain ⟨h1,h2,h3,h4⟩:=fQ r (n+f.length) h
     refine ⟨?_,?_,fun _=>?_,?_⟩
     ·intro x hx
      rcases List.mem_cons.1 hx with rfl | hx
      ·exact c1
      ·exact h1 x hx
     ·cases r with
      | nil=>simp
      | cons g s =>
       intro x hx
       rw [List.dropLast_cons_cons] at hx
       rcases List.mem_cons.1 hx with rfl | hx
       ·simp at c2;omega
       ·exact h2 x hx
     ·rw [List.flatten_cons,List.length_append]
      cases r with
      | nil=>simp;omega
      | cons g s=>have:=h3 (by simp);omega
     ·rw [h4,List.flatten_cons,List.length_append];omega
theorem m4 {p:Pk} {w:Int} (h:cO p w≠0):okH p w.toNat∧(w=10∨w=16)∧1≤p.ff.length∧p.ff.length≤24∧cO p w=cQ (gD p w.toNat) (bb p.ff)∧(p.part=true∨(p.part=false∧p.last=false∧p.off=0)):=by
 have h0:=h
 unfold cO at h
 by_cases hw:w=10∨w=16
 ·rw [if_neg (not_not_intro hw)] at h
  by_cases c1:p.fi<0
  ·rw [if_pos c1] at h;exact (h rfl).elim
  rw [if_neg c1] at h
  by_cases c2:3<p.fi
  ·rw [if_pos c2] at h;exact (h rfl).elim
  rw [if_neg c2] at h
  by_cases c3:0≤p.sn∧p.sn<(2 ^ w.toNat:Nat)
  ·rw [if_neg (not_not_intro c3)] at h
   by_cases z1:p.part=false∧p.last=true
   ·rw [if_pos z1] at h;exact (h rfl).elim
   rw [if_neg z1] at h
   by_cases z2:p.part=false∧p.off≠0
   ·rw [if_pos z2] at h;exact (h rfl).elim
   rw [if_neg z2] at h
   by_cases c6:p.off<0
   ·rw [if_pos c6] at h;exact (h rfl).elim
   rw [if_neg c6] at h
   by_cases c7:((2 ^ aI w:Nat):Int)≤p.off
   ·rw [if_pos c7] at h;exact (h rfl).elim
   rw [if_neg c7] at h
   by_cases c8:p.ff.length<1
   ·rw [if_pos c8] at h;exact (h rfl).elim
   rw [if_neg c8] at h
   by_cases c9:24<p.ff.length
   ·rw [if_pos c9] at h;exact (h rfl).elim
   rw [if_neg c9] at h
   have htn:((w.toNat:Nat):Int)=w:=by omega
   refine ⟨⟨by omega,⟨by omega,by omega⟩,c3,⟨by omega,by rw [htn];omega⟩⟩,hw,by omega,by omega,?_,?_⟩
   ·rw [cO,if_neg (not_not_intro hw),if_neg c1,if_neg c2,if_neg (not_not_intro c3),if_neg z1,if_neg z2,if_neg c6,if_neg c7,if_neg c8,if_neg c9]
   ·cases hp:p.part with
    | true=>exact .inl rfl
    | false =>
     rw [hp] at z1 z2
     exact .inr ⟨rfl,by simpa using z1,by simpa using z2⟩
  ·rw [if_pos c3] at h;exact (h rfl).elim
 ·rw [if_pos hw] at h;exact (h rfl).elim
theorem elems_lst (z:Bool) (f:Option Nat) (k:Nat) (l:List (List AV)) (H:ae):dY H k (lst z k f l)=some l:=by
 rcases bH z k f l with ⟨_,h,e⟩ | ⟨e,_⟩
 ·rw [e,h];rfl
 ·rw [e];simp [dY]
section
variable {H:ae}
theorem Ku (p:Pk) (hl:p.ff.length≤100000) (hs:(bb p.ff).flatten.length≤1000000) (H:ae) :
  ∃ z f k,callW P vQ [.agg p.v] H=some (lst z 1 f (ax (bb p.ff).flatten),H++List.replicate k .other):=by
 obtain ⟨po,fi,sn,pa,la,off,z0,ff⟩:=p
 simp only at hl hs
 obtain ⟨z,f,k,h⟩:=ug (z0:=z0) hl hs H
 refine ⟨z,f.map fun _=>0,k,?_⟩
 rw [Cq rfl];simp -implicitDefEqProofs [-ac,-AV.one,-ad,JG,Pk.v,Pk.f,aZ,h]
 rfl
theorem GB (p:Pk) (hs:∀ f∈p.ff,f.2.length≤100000) (hfl:p.ff.length≤100000) (w:Int) (H:ae) :
  callW P tl [.agg p.v,ai w] H=some (ab (decide (0<cO p w)),H):=by
 have h:=fun H=>Kt p hs hfl w H
 obtain ⟨n,hn⟩:=nm (cO p w)
 rw [hn] at h ⊢
 obtain ⟨po,fi,sn,pa,la,off,z0,ff⟩:=p
 simp only [Pk.v,Pk.f,aZ] at h
 by_cases h0:(n:Int) > 0
 ·have h0':0<n:=by omega
  have h0'':(0:Int)<n:=h0
  rw [rc rfl];simp -implicitDefEqProofs [-ac,-AV.one,-ad,D1,Pk.v,Pk.f,aZ,h,h0,h0',h0'']
 ·have h0':¬ 0<n:=by omega
  have h0'':¬ (0:Int)<n:=h0
  rw [rc rfl];simp -implicitDefEqProofs [-ac,-AV.one,-ad,D1,Pk.v,Pk.f,aZ,h,h0,h0',h0'']
def T1 (H:ae) (Q:List AV) (w:Int) (hv:AV) (z1:Bool) (r:List Bs) (z:Nat) (σ:List AV) (G:ae):Prop:=
 ∃ i:Nat,i+z=r.length∧G=H∧σ=L 62 ((((((((Tr.full 6).put (ag 1) (ai w)).put (ag 2) (.lbox Q)).put (ag 6) (hv)).put (ag 7) (lst true 1 (some 40) (nvs (((bb r).take i).map (·.length))))).put (ag 30) (lst z1 1 none (bvs r))).put (ag 31) (ai r.length)).put (ag 32) (ai i))
def Ei (H:ae) (Q:List AV) (w:Int) (hv:AV) (r:List Bs) (e:AExit) (σ:List AV) (G:ae):Prop:=
 G=H∧e=.exit 1∧kill [30,31,32,33] σ=L 62 (((((Tr.full 6).put (ag 1) (ai w)).put (ag 2) (.lbox Q)).put (ag 6) (hv)).put (ag 7) (lst true 1 (some 40) (nvs ((bb r).map (·.length)))))
theorem Pm {z1:Bool} {r:List Bs} (po:Bool) (fi sn:Int) (pa la:Bool) (off:Int) (z0:Bool) (ff:List Bs) (w:Int) (hb:List Nat) (hl:r.length≤100) (z:Nat) (σ:List AV) (G:ae)
  (hI:T1 H (aZ po fi sn pa la off (lst z0 1 none (bvs ff))) w (.vs 1 (some 23) (ax hb)) z1 r z (kill (bu kH) σ) G) :
  Ends (execW P iE (.loop kH) σ G) fun s=>Ei H (aZ po fi sn pa la off (lst z0 1 none (bvs ff))) w (.vs 1 (some 23) (ax hb)) r s.e s.σ s.H:=by
 refine aX (fun z σ G=>T1 H (aZ po fi sn pa la off (lst z0 1 none (bvs ff))) w (.vs 1 (some 23) (ax hb)) z1 r z σ G) (Ei H (aZ po fi sn pa la off (lst z0 1 none (bvs ff))) w (.vs 1 (some 23) (ax hb)) r) ?_ z σ G hI
 clear hI z σ G
 rintro z σ G ⟨i,hz,rfl,rfl⟩
 have hla:(bvs r).length=r.length:=bA r
 by_cases hi:i<r.length
 ·have hi':(i:Int)<r.length:=by omega
  obtain ⟨x,hx⟩:∃ x,r[i]?=some x:=⟨_,zq6 hi⟩
  have q1:=gO hx z1 none .i64
  have hxl:=cz x
  have hsn:((bb r).take (i+1)).map (·.length)=((bb r).take i).map (·.length)++[x.2.length]:=by rw [ej (gH hx)];simp
  have hap:=fun σ H=>uR (m:=P.md iE) (d:=40) (bytes:=8) (v:=ai x.2.length) (O9 40) (by omega) (by rw [dn];simp [br];omega) (l:=nvs (((bb r).take i).map (·.length))) (some 39) σ H
  rw [← mu,← hsn] at hap
  have w6:IntKind.i64.wrap ((i:Int)+1)=((i+1:Nat):Int):=by rw [aq (by omega) (by omega)];omega
  obtain ⟨i1,hi1⟩:=nm (i+1)
  rw [hi1] at w6 hap
  generalize nvs (((bb r).take i).map (·.length))=L0 at *
  have hres:∀ σ,σ=L 62 ((((((((Tr.full 6).put (ag 1) (ai w)).put (ag 2) (.lbox (aZ po fi sn pa la off (lst z0 1 none (bvs ff))))).put (ag 6) (.vs 1 (some 23) (ax hb))).put (ag 7) (lst true 1 (some 40) (nvs (((bb r).take i1).map (·.length))))).put (ag 30) (lst z1 1 none (bvs r))).put (ag 31) (ai r.length)).put (ag 32) (ai i1))→∃ m,m<z∧T1 G (aZ po fi sn pa la off (lst z0 1 none (bvs ff))) w (.vs 1 (some 23) (ax hb)) z1 r m σ G:=fun σ e=>⟨z - 1,by omega,i1,by omega,rfl,e⟩
  generalize nvs (((bb r).take i1).map (·.length))=L1 at *
  simp -implicitDefEqProofs [-ac,-AV.one,-ad,nB,kH,aZ,hla,hi,hi',q1,hxl,hap,w6]
  exact hres _ (by simp [aZ])
 ·have hi':¬ (i:Int)<r.length:=by omega
  have hall:(bb r).take i=bb r:=List.take_of_length_le (by rw [br];omega)
  rw [hall]
  obtain ⟨L0,hL0⟩:=nm (nvs ((bb r).map (·.length)))
  rw [hL0]
  simp -implicitDefEqProofs [-ac,-AV.one,-ad,nB,kH,aZ,hla,hi,hi']
  exact ⟨rfl,rfl,by rw [hL0];simp [aZ]⟩
end
def jN (p:Pk):List Nat:=(bb (p.ff.take (p.ff.length - 1))).map (·.length)
def WrB (p:Pk) (w:Nat) (out:List Nat):Prop:=∃ hb lb,PackR (dj p w) hb∧PackR (bO (bn w) (jN p)) lb∧out=hb++lb++(bb p.ff).flatten
theorem wG (p:Pk) {w:Nat} (hw:w=10∨w=16):(dj p w).length≤60:=by
 have h1:∀ x:Int,aI x≤16:=fun x=>by simp only [aI];split<;>omega
 have h10:=h1 10
 have h16:=h1 16
 unfold dj
 rcases hw with rfl | rfl<;>(simp [aT];repeat' split)<;>simp [aT]<;>omega
theorem pF {w:Nat} (hw:w=11∨w=15) {l:List Nat} (h:l.length≤23):(bO w l).length≤368:=by
 rw [dw]
 have:l.length * (w+1)≤23 * 16:=Nat.mul_le_mul h (by omega)
 omega
set_option maxHeartbeats 2000000 in
theorem GC (p:Pk) (hs:∀ f∈p.ff,f.2.length≤100000) (hfl:p.ff.length≤100000) (w:Int) (H:ae) :
  (¬ (w=10∨w=16)→callW P iE [.agg p.v,ai w] H=some (.tup [bc,ai 9],H)) ∧
  ((w=10∨w=16)→cO p w=0→callW P iE [.agg p.v,ai w] H=some (.tup [bc,ai 3],H)) ∧
  (cO p w≠0→∃ out k,WrB p w.toNat out∧callW P iE [.agg p.v,ai w] H=some (.tup [.vs 1 none (ax out),ai 0],H++List.replicate k .other)):=by
 have h37:=fun H=>jE w H
 have hR:=fun H=>GB p hs hfl w H
 refine ⟨fun hw=>?_,fun hw h0=>?_,fun h0=>?_⟩
 ·rw [decide_eq_false hw] at h37
  obtain ⟨po,fi,sn,pa,la,off,z0,ff⟩:=p
  rw [rf rfl];simp -implicitDefEqProofs [-ac,-AV.one,-ad,nB,Pk.v,Pk.f,aZ,h37]
 ·rw [decide_eq_true hw] at h37
  rw [h0] at hR
  replace hR:∀ H,callW P tl [.agg p.v,ai w] H=some (ab false,H):=hR
  obtain ⟨po,fi,sn,pa,la,off,z0,ff⟩:=p
  simp only [Pk.v,Pk.f,aZ] at hR
  rw [rf rfl];simp -implicitDefEqProofs [-ac,-AV.one,-ad,nB,Pk.v,Pk.f,aZ,h37,hR]
 ·obtain ⟨hok,hw,hf1,hf24,hsz,hpz⟩:=m4 h0
  rw [decide_eq_true hw] at h37
  rw [decide_eq_true (by omega)] at hR
  obtain ⟨wn,rfl,hwn⟩:∃ wn:Nat,w=wn∧(wn=10∨wn=16):=by
   rcases hw with rfl | rfl
   ·exact ⟨10,rfl,.inl rfl⟩
   ·exact ⟨16,rfl,.inr rfl⟩
  have htn:((wn:Nat):Int).toNat=wn:=by simp
  rw [htn] at hok hsz ⊢
  obtain ⟨s1,s2,s3,s4⟩:=fQ (bb p.ff) (gD p wn) (by rw [← hsz];exact h0)
  have hbne:bb p.ff≠[]:=fun e=>by have:=congrArg List.length e;rw [br] at this;simp at this;rw [this] at hf1;simp at hf1
  have hdl:=s3 hbne
  obtain ⟨hb,k1,hpk,hH⟩:=Kr (H:=H) hok hfl
  have hbl:=hpk.len
  have hbl2:=wG p hwn
  obtain ⟨G1,hG1⟩:=nm (H++List.replicate k1 .other)
  rw [hG1] at hH
  obtain ⟨l1,hl1⟩:=nm (p.ff.length - 1)
  obtain ⟨r,hr⟩:=nm (p.ff.take l1)
  have hrl:r.length=l1:=by rw [← hr,List.length_take];omega
  have hls:jN p=(bb r).map (·.length):=by rw [jN,hl1,hr]
  have hlw:bn wn=11∨bn wn=15:=by rcases hwn with rfl | rfl<;>simp [bn]
  have h41:=fun H=>kT wn H
  have hlens:∀ n∈jN p,1≤n∧n<2 ^ bn wn:=fun n hn=>by
   rw [hls] at hn
   obtain ⟨b,hb1,rfl⟩:=List.mem_map.1 hn
   have hdr:bb r=(bb p.ff).dropLast:=by rw [List.dropLast_eq_take,br,hl1,← hr,bb,bb,List.map_take]
   rw [hdr] at hb1
   have h2:=s2 b hb1
   have h3:=s1 b (List.mem_of_mem_take (by rw [List.dropLast_eq_take] at hb1;exact hb1))
   have:2 ^ 11≤2 ^ bn wn:=Nat.pow_le_pow_right (by omega) (by omega)
   have:(2:Nat) ^ 11=2048:=by decide
   omega
  have hll:(jN p).length=l1:=by rw [hls];simp [br,hrl]
  have wl:IntKind.i64.wrap ((p.ff.length:Int) - 1)=(l1:Int):=by rw [aq (by omega) (by omega)];omega
  have hla:(bvs p.ff).length=p.ff.length:=bA p.ff
  have hcut:∀ d,iC 1 d (lst p.z 1 none (bvs p.ff)) none (some (ai l1)) none=some (lst (p.z && (bvs p.ff).isEmpty) 1 none (bvs r)):=fun d=>by
   have h:=oM (lo:=none) (hi:=some (ai l1)) (i:=0) (j:=l1) p.z 1 none d (bvs p.ff) (.inl ⟨rfl,rfl⟩) (.inr ⟨.i64,rfl⟩) (by omega) (by rw [hla];omega)
   rw [h,sX,List.drop_zero,← hr,bvs,bvs,List.map_take]
  have hrb:(bvs r).length=l1:=by rw [bA,hrl]
  suffices hend:Ends (callW P iE [.agg p.v,ai wn] H) fun y=>∃ out k,WrB p wn out∧y=(.tup [.vs 1 none (ax out),ai 0],H++List.replicate k .other) by
   obtain ⟨y,h2,out,k,h3,rfl⟩:=hend
   exact ⟨out,k,h3,h2⟩
  refine call_post 6 62 rfl (rfl:P.T iE=some F_q22) rfl (aF rfl) (fun e σ G=>e=.ret∧∃ out k,WrB p wn out∧G=H++List.replicate k .other∧aA F_q22.res σ=some (.tup [.vs 1 (some 61) (ax out),ai 0])) ?_ ?_
  ·rintro e σ G ⟨rfl,out,k,h1,rfl,h2⟩
   refine ⟨rfl,_,h2,rfl,?_⟩
   simp
   exact ⟨out,h1,rfl⟩
  have hH':=hH
  have hd:=fun H=>Ku p hfl (by omega) H
  obtain ⟨data,hdata⟩:=nm ((bb p.ff).flatten)
  rw [hdata] at hd hdl
  have hfin:∀ lb,PackR (bO (bn wn) (jN p)) lb→WrB p wn (hb++lb++data):=fun lb h=>⟨hb,lb,hpk,h,by rw [hdata]⟩
  have hcs:∀ a b:List Nat,ax a++ax b=ax (a++b):=fun a b=>by simp [ax]
  have hlnv:(nvs (jN p)).length=l1:=by rw [dn,hll]
  obtain ⟨ls,hls'⟩:=nm (jN p)
  rw [hls'] at hlnv hlens hfin hll
  have hk1:∀ k2,G1++List.replicate k2 AObj.other=H++List.replicate (k1+k2) .other:=fun k2=>by rw [← hG1,iM]
  by_cases hl0:l1=0
  ·have hls0:ls=[]:=zq8 (by omega)
   have hnil:lst true 1 (some 40) (nvs ls)=.c (.slice none 0 0):=by rw [hls0];rfl
   obtain ⟨zd,fd,k3,hD⟩:=hd G1
   rw [hk1] at hD
   obtain ⟨G3,hG3⟩:=nm (H++List.replicate (k1+k3) AObj.other)
   rw [hG3] at hD
   have hap:=fun (f:Option Nat) σ H=>gU (m:=P.md iE) (d:=61) (bytes:=1) (c:=23) (l:=ax hb) (l':=ax data) (x:=lst zd 1 f (ax data)) (fun H=>elems_lst zd f 1 _ H) (by simp [bg,aw];omega) (by simp [bg,aw];omega) σ H
   have hres:=hfin [] (by rw [hls0];exact PackR.nil)
   rw [List.append_nil] at hres
   rw [hcs] at hap
   obtain ⟨out,hout⟩:=nm (hb++data)
   rw [hout] at hap hres
   have hgl:∀ out',out'=out→∃ o k,WrB p wn o∧G3=H++List.replicate k .other∧ax out'=ax o:=fun out' e=>⟨out,_,hres,hG3.symm,by rw [e]⟩
   obtain ⟨po,fi,sn,pa,la,off,z0,ff⟩:=p
   simp only [Pk.v,Pk.f,aZ] at hR hH hD
   simp only at wl hla hcut
   generalize WrB ⟨po,fi,sn,pa,la,off,z0,ff⟩ wn=WW at *
   rw [F_q22];simp -implicitDefEqProofs [-ac,-AV.one,-ad,nB,Pk.v,Pk.f,aZ,h37,hR,hH,hla,wl,hcut,hrb]
   repeat rw [Option.bind_assoc]
   refine Ends.block (P:=Ei G1 (aZ po fi sn pa la off (lst z0 1 none (bvs ff))) wn (.vs 1 (some 23) (ax hb)) r) (Pm (z1:=z0 && (bvs ff).isEmpty) po fi sn pa la off z0 ff wn hb (by omega) r.length _ _ ⟨0,by omega,rfl,by simp [kH,aZ,nvs,bb,hrl]⟩) ?_
   rintro e σ1 G2 ⟨rfl,rfl,k2⟩
   rw [← hls,hls',hnil] at k2
   simp only [aZ] at k2
   simp -implicitDefEqProofs [-ac,-AV.one,-ad,nB,k2,hD,hap]
   exact ⟨out,hres,⟨_,hG3.symm⟩,rfl⟩
  ·have hl0':(l1:Int) > 0:=by omega
   have hl0'':(0:Int)<l1:=by omega
   have hl0p:0<l1:=by omega
   obtain ⟨lb,hpb,hL⟩:=ui (z0:=true) (l:=ls) (by omega) (by omega) hlw hlens G1
   have hlbl:=hpb.len
   have hlb2:=pF hlw (l:=ls) (by omega)
   rw [hk1] at hL
   obtain ⟨G4,hG4⟩:=nm (H++List.replicate (k1+2) AObj.other)
   rw [hG4] at hL
   obtain ⟨zd,fd,k3,hD⟩:=hd G4
   rw [← hG4,iM,hG4] at hD
   obtain ⟨G3,hG3⟩:=nm (H++List.replicate (k1+2+k3) AObj.other)
   rw [hG3] at hD
   have hap1:=fun σ H=>gU (m:=P.md iE) (d:=57) (bytes:=1) (c:=23) (l:=ax hb) (l':=ax lb) (x:=.vs 1 none (ax lb)) (fun H=>cR H 1 none (ax lb)) (by simp [bg,aw];omega) (by simp [bg,aw];omega) σ H
   have hap:=fun (f:Option Nat) σ H=>gU (m:=P.md iE) (d:=61) (bytes:=1) (c:=57) (l:=ax (hb++lb)) (l':=ax data) (x:=lst zd 1 f (ax data)) (fun H=>elems_lst zd f 1 _ H) (by simp [bg,aw];omega) (by simp [bg,aw];omega) σ H
   have hres:=hfin lb hpb
   rw [hcs] at hap1
   rw [hcs] at hap
   obtain ⟨hb2,hhb2⟩:=nm (hb++lb)
   rw [hhb2] at hap1 hap hres
   obtain ⟨out,hout⟩:=nm (hb2++data)
   rw [hout] at hap hres
   have h41':=h41
   obtain ⟨lw,hlwe⟩:=nm (bn wn)
   rw [hlwe] at h41' hL
   obtain ⟨po,fi,sn,pa,la,off,z0,ff⟩:=p
   simp only [Pk.v,Pk.f,aZ] at hR hH hD
   simp only at wl hla hcut
   generalize WrB ⟨po,fi,sn,pa,la,off,z0,ff⟩ wn=WW at *
   rw [F_q22];simp -implicitDefEqProofs [-ac,-AV.one,-ad,nB,Pk.v,Pk.f,aZ,h37,hR,hH,hla,wl,hcut,hrb]
   repeat rw [Option.bind_assoc]
   refine Ends.block (P:=Ei G1 (aZ po fi sn pa la off (lst z0 1 none (bvs ff))) wn (.vs 1 (some 23) (ax hb)) r) (Pm (z1:=z0 && (bvs ff).isEmpty) po fi sn pa la off z0 ff wn hb (by omega) r.length _ _ ⟨0,by omega,rfl,by simp [kH,aZ,nvs,bb,hrl]⟩) ?_
   rintro e σ1 G2 ⟨rfl,rfl,k2⟩
   rw [← hls,hls'] at k2
   simp only [aZ] at k2
   simp -implicitDefEqProofs [-ac,-AV.one,-ad,nB,k2,hlnv,hl0,hl0',hl0'',hl0p,h41',hL,hap1,hD,hap]
   exact ⟨out,hres,⟨_,hG3.symm⟩,rfl⟩
theorem El (H:ae) (z:Bool) (f:Option Nat) (l:List Nat):Br H (lst z 1 f (ax l))=some (.c (.string (qn l))):=by
 have h:∀ f,Br H (.vs 1 f (ax l))=some (.c (.string (qn l))):=fun f=>by
  simp only [Br]
  rw [if_pos trivial,Go.A.byteCs_flat,tW]
  rfl
 rcases bH z 1 f (ax l) with ⟨_,e1,e⟩ | ⟨e,_⟩
 ·have:l=[]:=by simpa [ax] using e1
  subst this
  rw [e];rfl
 ·rw [e];exact h f
theorem xV (H:ae) (b:Bs):Br H (bv b)=some (.c (.string (qn b.2))):=El H b.1 none b.2
def dg (ff:List Bs):Prop:=∀ b∈ff,bm b.2
section
variable {H:ae} {za zb:Bool} {fa fb:List Bs}
def acX (H:ae) (za zb:Bool) (fa fb:List Bs) (z:Nat) (σ:List AV) (G:ae):Prop:=
 ∃ i:Nat,i+z=fa.length∧(bb fa).take i=(bb fb).take i∧G=H∧σ=L 28 ((((Tr.full 5).put (ag 0) (lst za 1 none (bvs fa))).put (ag 1) (lst zb 1 none (bvs fb))).put (ag 5) (ai i))
def Kw (H:ae) (fa fb:List Bs) (e:AExit) (σ:List AV) (G:ae):Prop:=
 G=H∧((e=.exit 0∧bb fa=bb fb∧kill [0,1,5,11,12,13,14] σ=L 28 (Tr.full 5))∨(e=.ret∧bb fa≠bb fb∧aA F_q86.res σ=some (ab false)))
theorem GI (hl:fa.length=fb.length) (hs:fa.length≤100000) (hba:dg fa) (hbb:dg fb) (z:Nat) (σ:List AV) (G:ae) (hI:acX H za zb fa fb z (kill (bu kN) σ) G) :
  Ends (execW P qT (.loop kN) σ G) fun s=>Kw H fa fb s.e s.σ s.H:=by
 refine aX (fun z σ G=>acX H za zb fa fb z σ G) (Kw H fa fb) ?_ z σ G hI
 clear hI z σ G
 rintro z σ G ⟨i,hz,heq,rfl,rfl⟩
 have hla:(bvs fa).length=fa.length:=bA fa
 by_cases hi:i<fa.length
 ·have hi':(i:Int)<fa.length:=by omega
  obtain ⟨x,hx⟩:∃ x,fa[i]?=some x:=⟨_,zq6 hi⟩
  obtain ⟨y,hy⟩:∃ y,fb[i]?=some y:=⟨_,zq6 (by omega)⟩
  have q1:=gO hx za none .i64
  have q2:=gO hy zb none .i64
  have hne:=Cv .no (hba x (List.mem_of_getElem? hx)) (hbb y (List.mem_of_getElem? hy))
  have w1:IntKind.i64.wrap ((i:Int)+1)=((i+1:Nat):Int):=by rw [aq (by omega) (by omega)];omega
  obtain ⟨i1,hi1⟩:=nm (i+1)
  rw [hi1] at w1
  by_cases hxy:x.2=y.2
  ·rw [decide_eq_true hxy] at hne
   simp -implicitDefEqProofs [-ac,-AV.one,-ad,oZ,kN,hla,hi,hi',q1,q2,xV,hne,w1]
   refine ⟨z - 1,by omega,i1,by omega,?_,rfl,by simp⟩
   rw [← hi1,ej (gH hx),ej (gH hy),heq,hxy]
  ·rw [decide_eq_false hxy] at hne
   simp -implicitDefEqProofs [-ac,-AV.one,-ad,oZ,kN,hla,hi,hi',q1,q2,xV,hne,w1]
   refine ⟨rfl,.inr ⟨rfl,?_,by simp [F_q86]⟩⟩
   intro h
   have h1:=gH hx
   rw [h,gH hy] at h1
   exact hxy (zq1 h1).symm
 ·have hi':¬ (i:Int)<fa.length:=by omega
  rw [List.take_of_length_le (by rw [br];omega),List.take_of_length_le (by rw [br];omega)] at heq
  simp -implicitDefEqProofs [-ac,-AV.one,-ad,oZ,kN,hla,hi,hi']
  exact ⟨rfl,.inl ⟨rfl,heq,by simp⟩⟩
theorem rn (hs:fa.length≤100000) (hs2:fb.length≤100000) (hba:dg fa) (hbb:dg fb) (H:ae) :
  callW P qT [lst za 1 none (bvs fa),lst zb 1 none (bvs fb)] H=some (ab (decide (bb fa=bb fb)),H):=by
 have hla:(bvs fa).length=fa.length:=bA fa
 have hlb:(bvs fb).length=fb.length:=bA fb
 by_cases hl:fa.length=fb.length
 ·have hl':(fa.length:Int)=fb.length:=by omega
  rw [cH]
  refine call_post 5 28 rfl (rfl:P.T qT=some F_q86) rfl (aF rfl) (fun e σ G=>e=.ret∧G=H∧aA F_q86.res σ=some (ab (decide (bb fa=bb fb)))) ?_ ?_
  ·rintro e σ G ⟨rfl,rfl,h⟩
   exact ⟨rfl,_,h,rfl,by simp⟩
  rw [F_q86];simp -implicitDefEqProofs [-ac,-AV.one,-ad,oZ,hla,hlb,hl,hl']
  repeat rw [Option.bind_assoc]
  refine Ends.block (P:=Kw H fa fb) (GI (za:=za) (zb:=zb) hl hs hba hbb fa.length _ _ ⟨0,by omega,by simp,rfl,by simp [kN]⟩) ?_
  rintro e σ1 G1 ⟨rfl,⟨rfl,c1,c2⟩ | ⟨rfl,c1,c2⟩⟩
  ·simp -implicitDefEqProofs [-ac,-AV.one,-ad,oZ,c2,c1]
  ·simp [F_q86] at c2
   simp -implicitDefEqProofs [-ac,-AV.one,-ad,oZ,c2,c1]
 ·have hl':¬ (fa.length:Int)=fb.length:=by omega
  have hne:bb fa≠bb fb:=fun h=>hl (by have:=congrArg List.length h;rwa [br,br] at this)
  rw [qk rfl];simp -implicitDefEqProofs [-ac,-AV.one,-ad,oZ,hla,hlb,hl,hl',hne]
end
def Pk.eq (p q:Pk):Bool:=decide (p.poll=q.poll) && decide (p.fi=q.fi) && decide (p.sn=q.sn) && decide (p.part=q.part) && decide (p.last=q.last) && decide (p.off=q.off) && decide (bb p.ff=bb q.ff)
theorem lAs (p:Pk) (H:ae):callW P vC [.agg p.v] H=some (.agg p.v,H):=by
 obtain ⟨po,fi,sn,pa,la,off,z0,ff⟩:=p
 rw [JX rfl];simp -implicitDefEqProofs [-ac,-AV.one,-ad,Jt,Pk.v,Pk.f,aZ]
set_option maxHeartbeats 1000000 in
theorem acY (p q:Pk) (hs:p.ff.length≤100000) (hs2:q.ff.length≤100000) (hba:dg p.ff) (hbb:dg q.ff) (H:ae) :
  callW P vE [.agg p.v,.agg q.v] H=some (ab (p.eq q),H):=by
 have hf:=fun H=>rn (za:=p.z) (zb:=q.z) hs hs2 hba hbb H
 obtain ⟨po,fi,sn,pa,la,off,z0,ff⟩:=p
 obtain ⟨po2,fi2,sn2,pa2,la2,off2,z02,ff2⟩:=q
 simp only at hf
 simp only [Pk.eq]
 by_cases h1:po=po2
 ·by_cases h2:fi=fi2
  ·by_cases h3:sn=sn2
   ·by_cases h4:pa=pa2
    ·by_cases h5:la=la2
     ·by_cases h6:off=off2
      ·rw [fV rfl];simp -implicitDefEqProofs [-ac,-AV.one,-ad,oX,Pk.v,Pk.f,aZ,h1,h2,h3,h4,h5,h6,hf]
      ·rw [fV rfl];simp -implicitDefEqProofs [-ac,-AV.one,-ad,oX,Pk.v,Pk.f,aZ,h1,h2,h3,h4,h5,h6]
     ·rw [fV rfl];simp -implicitDefEqProofs [-ac,-AV.one,-ad,oX,Pk.v,Pk.f,aZ,h1,h2,h3,h4,h5]
    ·rw [fV rfl];simp -implicitDefEqProofs [-ac,-AV.one,-ad,oX,Pk.v,Pk.f,aZ,h1,h2,h3,h4]
   ·rw [fV rfl];simp -implicitDefEqProofs [-ac,-AV.one,-ad,oX,Pk.v,Pk.f,aZ,h1,h2,h3]
  ·rw [fV rfl];simp -implicitDefEqProofs [-ac,-AV.one,-ad,oX,Pk.v,Pk.f,aZ,h1,h2]
 ·rw [fV rfl];simp -implicitDefEqProofs [-ac,-AV.one,-ad,oX,Pk.v,Pk.f,aZ,h1]
def gr (n:Nat):Nat→List (List Nat)→Bool
 | all,[]=>decide (9000<all)
 | all,f :: r=>if 40<n∨4200<f.length then true else gr n (all+f.length) r
theorem AD {n:Nat}:∀ {ff:List (List Nat)} {all:Nat},gr n all ff=false→(ff≠[]→n≤40)∧(∀ f∈ff,f.length≤4200)∧all+ff.flatten.length≤9000
 | [],all,h=>⟨fun h=>(h rfl).elim,by simp,by simp [gr] at h;simpa using h⟩
 | f :: r,all,h=>by
  rw [gr] at h
  by_cases hc:40<n∨4200<f.length
  ·rw [if_pos hc] at h;simp at h
  ·rw [if_neg hc] at h
   obtain ⟨h1,h2,h3⟩:=AD h
   refine ⟨fun _=>by omega,fun x hx=>?_,by rw [List.flatten_cons,List.length_append];omega⟩
   rcases List.mem_cons.1 hx with rfl | hx
   ·omega
   ·exact h2 x hx
def jk (ff:List Bs):Bool:=gr ff.length 0 (bb ff)
section
variable {H:ae} {z0:Bool} {ff:List Bs}
def Pz (H:ae) (z0:Bool) (ff:List Bs) (z:Nat) (σ:List AV) (G:ae):Prop:=
 ∃ i all:Nat,i+z=ff.length∧(i=0∨ff.length≤40)∧all≤4200 * i∧jk ff=gr ff.length all ((bb ff).drop i)∧G=H∧σ=L 31 ((((Tr.full 6).put (ag 0) (lst z0 1 none (bvs ff))).put (ag 3) (ai all)).put (ag 4) (ai i))
def Dd (H:ae) (ff:List Bs) (e:AExit) (σ:List AV) (G:ae):Prop:=
 G=H∧((e=.exit 0∧∃ all:Nat,jk ff=decide (9000<all)∧kill [0,4,5,6,7,8] σ=L 31 ((Tr.full 6).put (ag 3) (ai all)))∨(e=.ret∧jk ff=true∧aA F_q9.res σ=some (ab true)))
theorem De (z:Nat) (σ:List AV) (G:ae) (hI:Pz H z0 ff z (kill (bu ma) σ) G) :
  Ends (execW P Jg (.loop ma) σ G) fun s=>Dd H ff s.e s.σ s.H:=by
 refine aX (fun z σ G=>Pz H z0 ff z σ G) (Dd H ff) ?_ z σ G hI
 clear hI z σ G
 rintro z σ G ⟨i,all,hz,hi40,hall,hg,rfl,rfl⟩
 have hla:(bvs ff).length=ff.length:=bA ff
 by_cases hi:i<ff.length
 ·have hi':(i:Int)<ff.length:=by omega
  obtain ⟨x,hx⟩:∃ x,ff[i]?=some x:=⟨_,zq6 hi⟩
  have q1:=gO hx z0 none .i64
  have hxl:=cz x
  have hdrop:(bb ff).drop i=x.2 :: (bb ff).drop (i+1):=by
   have h2:=gH hx
   have hi2:i<(bb ff).length:=by rw [br];exact hi
   rw [List.drop_eq_getElem_cons hi2]
   rw [zq6 hi2] at h2
   rw [zq1 h2]
  rw [hdrop,gr] at hg
  by_cases c1:40<ff.length
  ·have c1':(ff.length:Int) > 40:=by omega
   have c1'':(40:Int)<ff.length:=by omega
   rw [if_pos (.inl c1)] at hg
   simp -implicitDefEqProofs [-ac,-AV.one,-ad,xA,ma,hla,hi,hi',c1,c1',c1'']
   exact ⟨rfl,.inr ⟨rfl,hg,by simp [F_q9]⟩⟩
  ·have c1':¬ (ff.length:Int) > 40:=by omega
   have c1'':¬ (40:Int)<ff.length:=by omega
   by_cases c2:4200<x.2.length
   ·have c2':(x.2.length:Int) > 4200:=by omega
    have c2'':(4200:Int)<x.2.length:=by omega
    rw [if_pos (.inr c2)] at hg
    simp -implicitDefEqProofs [-ac,-AV.one,-ad,xA,ma,hla,hi,hi',c1,c1',c1'',q1,hxl,c2,c2',c2'']
    exact ⟨rfl,.inr ⟨rfl,hg,by simp [F_q9]⟩⟩
   ·have c2':¬ (x.2.length:Int) > 4200:=by omega
    have c2'':¬ (4200:Int)<x.2.length:=by omega
    rw [if_neg (by omega)] at hg
    have w5:IntKind.i64.wrap ((all:Int)+x.2.length)=((all+x.2.length:Nat):Int):=by rw [aq (by omega) (by omega)];omega
    have w6:IntKind.i64.wrap ((i:Int)+1)=((i+1:Nat):Int):=by rw [aq (by omega) (by omega)];omega
    obtain ⟨i1,hi1⟩:=nm (i+1)
    rw [hi1] at w6 hg
    obtain ⟨a1,ha1⟩:=nm (all+x.2.length)
    rw [ha1] at w5 hg
    simp -implicitDefEqProofs [-ac,-AV.one,-ad,xA,ma,hla,hi,hi',c1,c1',c1'',q1,hxl,c2,c2',c2'',w5,w6]
    exact ⟨z - 1,by omega,i1,a1,by omega,by omega,by omega,hg,rfl,by simp⟩
 ·have hi':¬ (i:Int)<ff.length:=by omega
  have hnil:(bb ff).drop i=[]:=List.drop_eq_nil_of_le (by rw [br];omega)
  rw [hnil,gr] at hg
  simp -implicitDefEqProofs [-ac,-AV.one,-ad,xA,ma,hla,hi,hi']
  exact ⟨rfl,.inl ⟨rfl,all,hg,by simp⟩⟩
theorem Ld (H:ae):callW P Jg [lst z0 1 none (bvs ff)] H=some (ab (jk ff),H):=by
 rw [cH]
 refine call_post 6 31 rfl (rfl:P.T Jg=some F_q9) rfl (aF rfl) (fun e σ G=>e=.ret∧G=H∧aA F_q9.res σ=some (ab (jk ff))) ?_ ?_
 ·rintro e σ G ⟨rfl,rfl,h⟩
  exact ⟨rfl,_,h,rfl,by simp⟩
 rw [F_q9];simp -implicitDefEqProofs [-ac,-AV.one,-ad,xA]
 repeat rw [Option.bind_assoc]
 refine Ends.block (P:=Dd H ff) (De (z0:=z0) ff.length _ _ ⟨0,0,by omega,.inl rfl,by omega,by simp [jk],rfl,by simp [ma]⟩) ?_
 rintro e σ1 G1 ⟨rfl,⟨rfl,all,c1,c2⟩ | ⟨rfl,c1,c2⟩⟩
 ·by_cases h9:(all:Int) > 9000
  ·have h9':(9000:Int)<all:=h9
   have h9'':9000<all:=by omega
   rw [decide_eq_true h9''] at c1
   simp -implicitDefEqProofs [-ac,-AV.one,-ad,xA,c2,h9,h9',h9'',c1]
  ·have h9':¬ (9000:Int)<all:=h9
   have h9'':¬ 9000<all:=by omega
   rw [decide_eq_false h9''] at c1
   simp -implicitDefEqProofs [-ac,-AV.one,-ad,xA,c2,h9,h9',h9'',c1]
 ·simp [F_q9] at c2
  simp -implicitDefEqProofs [-ac,-AV.one,-ad,xA,c1,c2]
end
end Go.A.V.S
