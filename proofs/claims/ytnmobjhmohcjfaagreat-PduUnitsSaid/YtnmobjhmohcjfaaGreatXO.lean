/- umd, by the document: sizes and bytes. -/
import Derived.Test.YtnmobjhmohcjfaaGreatXL
import Derived.Test.YtnmobjhmohcjfaaGreatXD
import Derived.Test.YtnmobjhmohcjfaaGreatXE
import Derived.Test.YtnmobjhmohcjfaaGreatXI
import Derived.Test.YtnmobjhmohcjfaaGreatXF
import Derived.Test.YtnmobjhmohcjfaaGreatXK
set_option linter.unusedSimpArgs false
set_option linter.unusedVariables false
set_option linter.unnecessarySimpa false
namespace Go.A.V.S
open Go Go.A
theorem Uv (p:Um) (hs:∀ f∈p.ff,f.2.length≤100000) (hfl:p.ff.length≤100000) (w:Int) (H:ae) :
  callW P qF [.agg p.v,ai w] H=some (ai (dZ p w:Nat),H):=by
 obtain ⟨fi,sn,z0,ff⟩:=p
 simp only at hs hfl
 have w1:IntKind.i64.wrap 1=1:=rfl
 have w2:IntKind.i64.wrap 2=2:=rfl
 have hI:=fun H=>rIs w sn H
 have key:∀ wn:Nat,(wn=5∨wn=10)→w=wn→callW P qF [.agg (Um.v ⟨fi,sn,z0,ff⟩),ai w] H=some (ai (dZ ⟨fi,sn,z0,ff⟩ w:Nat),H):=by
  intro wn hwn hw
  have hsw:sz2 w=2 ^ w.toNat:=by rw [sz2,if_neg (by omega)]
  rw [hsw] at hI
  have hF:=fun H=>Ev (z0:=z0) (ff:=ff) hfl hs (hd:=wn / 5) (w:=11) (by omega) (.inl rfl) H
  unfold dZ
  rw [if_neg (show ¬ ¬ (w=5∨w=10) by omega)]
  simp only
  by_cases c1:fi<0
  ·rw [if_pos c1]
   rcases hwn with rfl | rfl<;>subst hw
   ·rw [eB rfl];simp -implicitDefEqProofs [-ac,-AV.one,-ad,mc,Um.v,Um.f,c1]
   ·rw [eB rfl];simp -implicitDefEqProofs [-ac,-AV.one,-ad,mc,Um.v,Um.f,c1]
  rw [if_neg c1]
  by_cases c2:3<fi
  ·rw [if_pos c2]
   have c2':fi > 3:=c2
   rcases hwn with rfl | rfl<;>subst hw
   ·rw [eB rfl];simp -implicitDefEqProofs [-ac,-AV.one,-ad,mc,Um.v,Um.f,c1,c2,c2']
   ·rw [eB rfl];simp -implicitDefEqProofs [-ac,-AV.one,-ad,mc,Um.v,Um.f,c1,c2,c2']
  rw [if_neg c2]
  have c2':¬ fi > 3:=c2
  by_cases c3:0≤sn∧sn<(2 ^ w.toNat:Nat)
  ·rw [decide_eq_true c3] at hI
   rw [if_neg (not_not_intro c3)]
   have e:(if ff.length<1 then 0 else if 24<ff.length then 0 else cQ (iz ⟨fi,sn,z0,ff⟩ w.toNat) (bb ff))=(if ff.length<1∨24<ff.length then 0 else cQ (wn / 5+aS (ff.length - 1) 11) (bb ff)):=by
    have:w.toNat=wn:=by omega
    rw [iz,this]
    by_cases d1:ff.length<1
    ·rw [if_pos d1,if_pos (.inl d1)]
    ·by_cases d2:24<ff.length
     ·rw [if_neg d1,if_pos d2,if_pos (.inr d2)]
     ·rw [if_neg d1,if_neg d2,if_neg (by omega)]
   rw [e]
   obtain ⟨r,hr⟩:=Go.A.nm ((if ff.length<1∨24<ff.length then 0 else cQ (wn / 5+aS (ff.length - 1) 11) (bb ff)))
   rw [hr] at hF ⊢
   clear e hr c3 hsw
   rcases hwn with rfl | rfl<;>subst hw
   ·replace hF:∀ H,callW P lU [lst z0 1 none (bvs ff),ai 1,ai 11] H=some (ai r,H):=hF
    replace hI:∀ H,callW P gk [ai 5,ai sn] H=some (ab true,H):=hI
    rw [eB rfl];simp -implicitDefEqProofs [-ac,-AV.one,-ad,mc,Um.v,Um.f,c1,c2,c2',hI,hF,w1,w2]
   ·replace hF:∀ H,callW P lU [lst z0 1 none (bvs ff),ai 2,ai 11] H=some (ai r,H):=hF
    replace hI:∀ H,callW P gk [ai 10,ai sn] H=some (ab true,H):=hI
    rw [eB rfl];simp -implicitDefEqProofs [-ac,-AV.one,-ad,mc,Um.v,Um.f,c1,c2,c2',hI,hF,w1,w2]
  ·rw [decide_eq_false c3] at hI
   rw [if_pos c3]
   clear c3 hsw
   rcases hwn with rfl | rfl<;>subst hw
   ·replace hI:∀ H,callW P gk [ai 5,ai sn] H=some (ab false,H):=hI
    rw [eB rfl];simp -implicitDefEqProofs [-ac,-AV.one,-ad,mc,Um.v,Um.f,c1,c2,c2',hI]
   ·replace hI:∀ H,callW P gk [ai 10,ai sn] H=some (ab false,H):=hI
    rw [eB rfl];simp -implicitDefEqProofs [-ac,-AV.one,-ad,mc,Um.v,Um.f,c1,c2,c2',hI]
 by_cases h5:w=5
 ·exact key 5 (.inl rfl) h5
 by_cases h10:w=10
 ·exact key 10 (.inr rfl) h10
 rw [dZ,if_pos (by omega)]
 rw [eB rfl];simp -implicitDefEqProofs [-ac,-AV.one,-ad,mc,Um.v,Um.f,h5,h10]
theorem Oy (p:Um) {w:Int} (h0:dZ p w≠0) (H:ae) :
  ∃ out k,WrU p w.toNat out∧callW P lT [.agg p.v,ai w] H=some (.vs 1 none (ax out),H++List.replicate k .other):=by
 obtain ⟨hw,⟨hfi,hfi2⟩,⟨hsn,hsn2⟩,hf1,hf24,hsz⟩:=kj h0
 obtain ⟨wn,rfl,hwn⟩:∃ wn:Nat,w=wn∧(wn=5∨wn=10):=by
  rcases hw with rfl | rfl
  ·exact ⟨5,rfl,.inl rfl⟩
  ·exact ⟨10,rfl,.inr rfl⟩
 have htn:((wn:Nat):Int).toNat=wn:=by simp
 rw [htn] at hsn2 hsz ⊢
 obtain ⟨s1,s2,s3,s4⟩:=fQ (bb p.ff) (iz p wn) (by rw [← hsz];exact h0)
 have hbne:bb p.ff≠[]:=fun e=>by have:=congrArg List.length e;rw [br] at this;simp at this;rw [this] at hf1;simp at hf1
 have hdl:=s3 hbne
 have hlens:∀ n∈((bb p.ff).take (p.ff.length - 1)).map (·.length),1≤n∧n<2 ^ 11:=fun n hn=>by
  obtain ⟨b,hb1,rfl⟩:=List.mem_map.1 hn
  have hdr:(bb p.ff).take (p.ff.length - 1)=(bb p.ff).dropLast:=by rw [List.dropLast_eq_take,br]
  rw [hdr] at hb1
  have h2:=s2 b hb1
  have h3:=s1 b (List.mem_of_mem_take (by rw [List.dropLast_eq_take] at hb1;exact hb1))
  have:(2:Nat) ^ 11=2048:=by decide
  omega
 have hbl:(f8 p wn).length≤60∧3≤(f8 p wn).length:=by
  unfold f8
  simp only [List.length_append,aT,List.length_cons,List.length_nil]
  split<;>simp<;>omega
 obtain ⟨hb,hpk,hB⟩:=xZ (zx:=false) (l:=f8 p wn) (by omega) H
 have hhl:=hpk.len
 have hb0:hb≠[]:=fun e=>by rw [e] at hhl;simp at hhl;omega
 have hb1:hb.length≠0:=fun e=>hb0 (zq8 e)
 have hbh:BH H hb=TH H hb 0:=by simp [BH,TH,hb0]
 have hbv:eD H.length hb.length=rwv H.length hb.length:=by rw [eD,if_neg hb1];rfl
 rw [hbh,hbv] at hB
 obtain ⟨lb,k,hpl,hT⟩:=Pr (M:=H) (z0:=p.z) (ff:=p.ff) (a:=hb) (w:=11) hb0 (by omega) hf1 hf24 (by omega) (.inl rfl) hlens
 have hfin:WrU p wn (hb++lb++(bb p.ff).flatten):=⟨hb,lb,hpk,by
  have:ki p=((bb p.ff).take (p.ff.length - 1)).map (·.length):=by rw [ki,bb,bb,List.map_take]
  rw [this];exact hpl,rfl⟩
 have ho0:hb++lb++(bb p.ff).flatten≠[]:=fun e=>hb0 (List.append_eq_nil_iff.1 (List.append_eq_nil_iff.1 e).1).1
 have hfz:=CX H k ho0
 have hoth:=CY H (hb++lb++(bb p.ff).flatten) k
 refine ⟨_,k+1,hfin,?_⟩
 rw [← hoth]
 clear hfin hoth
 obtain ⟨out,hout⟩:=Go.A.nm (hb++lb++(bb p.ff).flatten)
 rw [hout] at hT hfz ⊢
 have hpw:(2:Nat) ^ wn≤65536:=by rcases hwn with rfl | rfl<;>decide
 have u1:=qt hfi (by omega)
 have u2:=qt hsn (by omega)
 have v1:p.fi.toNat<2 ^ 2:=by omega
 have v2:p.sn.toNat<2 ^ wn:=by omega
 have hla:(bvs p.ff).length=p.ff.length:=bA p.ff
 obtain ⟨fi,sn,z0,ff⟩:=p
 simp only at *
 simp only [Um.v,Um.f]
 obtain ⟨b1,hb1'⟩:=Go.A.nm (decide (1<ff.length))
 have hdc:decide ((ff.length:Int) > 1)=b1:=by rw [← hb1'];exact decide_eq_decide.2 (by omega)
 have hdc':decide ((1:Int)<ff.length)=b1:=by rw [← hb1'];exact decide_eq_decide.2 (by omega)
 have fin:∀ x:List Bool,x.length≤100→∀ v n:Nat,n≤16→x≠[]→v<2 ^ n→∀ H,callW P ep [.vs 1 none (bls x),.c (.int .u64 v),ai n] H=some (.tup [.vs 1 (some 0) (bls (x++aD v n)),ai 0],H):=fun x hx v n hn h0 hv H=>Av h0 (by omega) (by omega) hv H
 have hbits:f8 ⟨fi,sn,z0,ff⟩ wn=(((if wn=10 then [false,false,false] else [])++aD fi.toNat 2)++[b1])++aD sn.toNat wn:=by
  rw [← hb1'];simp [f8]
 rw [hbits] at hB
 clear hbits hpk hpl hsz s1 s2 s3 s4 hlens h0 hbl hbh hbv hdl hb1' hbne
 generalize fi.toNat=fn at *
 generalize sn.toNat=sN at *
 have main:∀ x0:List Bool,x0=(if wn=10 then [false,false,false] else [])→(∀ H,callW P ep [lst true 1 none (bls x0),.c (.int .u64 fn),ai 2] H=some (.tup [.vs 1 (some 0) (bls (x0++aD fn 2)),ai 0],H)):=by
  intro x0 h H
  have hl0:x0.length≤3:=by rw [h];split<;>simp
  have h1:=T7 (zx:=true) (x:=x0) (by omega) (v:=fn) (n:=2) (by omega) v1 H
  have hne:bls (x0++aD fn 2)≠[]:=KY (fun e=>by have:=congrArg List.length e;rw [List.length_append,aT] at this;simp at this)
  rw [iW hne] at h1
  exact h1
 rcases hwn with rfl | rfl
 ·have hP1:=main [] rfl
  replace hP1:∀ H,callW P ep [bc,.c (.int .u64 fn),ai 2] H=some (.tup [.vs 1 (some 0) (bls (aD fn 2)),ai 0],H):=hP1
  rw [show (if (5:Nat)=10 then [false,false,false] else [])=[] from rfl,List.nil_append] at hB
  obtain ⟨x1,hx1⟩:=Go.A.nm (aD fn 2)
  have hx1l:x1.length=2:=by rw [← hx1,aT]
  rw [hx1] at hP1 hB
  have hA1:=fun f σ H=>CW (m:=P.md lT) (d:=23) (c:=14) (x:=x1) (y:=[b1]) (by omega) (by simp) f σ H
  obtain ⟨x2,hx2⟩:=Go.A.nm (x1++[b1])
  have hx2l:x2.length=3:=by rw [← hx2];simp [hx1l]
  have hx20:x2≠[]:=fun e=>by rw [e] at hx2l;simp at hx2l
  rw [hx2] at hA1 hB
  replace hA1:∀ f σ H,fy (P.md lT) (some 23) 1 1 (.vs 1 (some 14) (bls x1)) (.vs 1 f [[ab b1]]) σ H=some (.vs 1 (some 23) (bls x2),σ.map (bV [14,23]),H):=hA1
  have hP2:=fin x2 (by omega) sN 5 (by omega) hx20 v2
  obtain ⟨x3,hx3⟩:=Go.A.nm (x2++aD sN 5)
  rw [hx3] at hP2 hB
  generalize bls x1=L1 at *
  generalize bls x2=L2 at *
  generalize bls x3=L3 at *
  replace hP2:∀ H,callW P ep [.vs 1 none L2,.c (.int .u64 sN),ai 5] H=some (.tup [.vs 1 (some 0) L3,ai 0],H):=hP2
  replace hB:callW P iG [.vs 1 none L3] H=_:=hB
  replace hT:callW P gl [rwv H.length hb.length,lst z0 1 none (bvs ff),ai 11] (TH H hb 0)=_:=hT
  generalize TH H hb 0=G1 at *
  obtain ⟨G2,hG2⟩:=Go.A.nm (TH H out k)
  rw [hG2] at hT hfz ⊢
  clear main fin
  rw [ri rfl];simp -implicitDefEqProofs [-ac,-AV.one,-ad,DS,u1,u2,hP1,hdc,hdc',hla,hA1,hP2,hB,hT,hfz,aK,aB,aP,aC,aM,SOpG.reads,SOp.slots,SX.slots,SOp.noL,rdV,av,aJ,aE,eqV]
  intro h;rw [bp] at h;omega
 ·have hP1:=main [false,false,false] rfl
  replace hP1:∀ H,callW P ep [.vs 1 none [[ab false],[ab false],[ab false]],.c (.int .u64 fn),ai 2] H=some (.tup [.vs 1 (some 0) (bls ([false,false,false]++aD fn 2)),ai 0],H):=hP1
  rw [show (if (10:Nat)=10 then [false,false,false] else [])=[false,false,false] from rfl] at hB
  obtain ⟨x1,hx1⟩:=Go.A.nm ([false,false,false]++aD fn 2)
  have hx1l:x1.length=5:=by rw [← hx1];simp [aT]
  rw [hx1] at hP1 hB
  have hA1:=fun f σ H=>CW (m:=P.md lT) (d:=23) (c:=14) (x:=x1) (y:=[b1]) (by omega) (by simp) f σ H
  obtain ⟨x2,hx2⟩:=Go.A.nm (x1++[b1])
  have hx2l:x2.length=6:=by rw [← hx2];simp [hx1l]
  have hx20:x2≠[]:=fun e=>by rw [e] at hx2l;simp at hx2l
  rw [hx2] at hA1 hB
  replace hA1:∀ f σ H,fy (P.md lT) (some 23) 1 1 (.vs 1 (some 14) (bls x1)) (.vs 1 f [[ab b1]]) σ H=some (.vs 1 (some 23) (bls x2),σ.map (bV [14,23]),H):=hA1
  have hP2:=fin x2 (by omega) sN 10 (by omega) hx20 v2
  obtain ⟨x3,hx3⟩:=Go.A.nm (x2++aD sN 10)
  rw [hx3] at hP2 hB
  generalize bls x1=L1 at *
  generalize bls x2=L2 at *
  generalize bls x3=L3 at *
  replace hP2:∀ H,callW P ep [.vs 1 none L2,.c (.int .u64 sN),ai 10] H=some (.tup [.vs 1 (some 0) L3,ai 0],H):=hP2
  replace hB:callW P iG [.vs 1 none L3] H=_:=hB
  replace hT:callW P gl [rwv H.length hb.length,lst z0 1 none (bvs ff),ai 11] (TH H hb 0)=_:=hT
  generalize TH H hb 0=G1 at *
  obtain ⟨G2,hG2⟩:=Go.A.nm (TH H out k)
  rw [hG2] at hT hfz ⊢
  clear main fin
  rw [ri rfl];simp -implicitDefEqProofs [-ac,-AV.one,-ad,DS,u1,u2,hP1,hdc,hdc',hla,hA1,hP2,hB,hT,hfz,aK,aB,aP,aC,aM,SOpG.reads,SOp.slots,SX.slots,SOp.noL,rdV,av,aJ,aE,eqV]
  intro h;rw [bp] at h;omega
theorem Lj (H:ae):callW P qS [ai 10] H=some (ai 15,H):=by
 rw [px rfl];simp -implicitDefEqProofs [-ac,-AV.one,-ad,D5]
theorem Ll (H:ae):callW P qS [ai 16] H=some (ai 16,H):=by
 rw [px rfl];simp -implicitDefEqProofs [-ac,-AV.one,-ad,D5]
theorem PC (H:ae):callW P nx [ai 10] H=some (ai 32768,H):=by
 have h:=fun H=>fc 14 H
 replace h:∀ H,callW P iF [ai 14] H=some (ai 16384,H):=h
 have w1:IntKind.i64.wrap 14=14:=rfl
 have w2:IntKind.i64.wrap 32768=32768:=rfl
 rw [py rfl];simp -implicitDefEqProofs [-ac,-AV.one,-ad,D4,Lj,h,w1,w2]
theorem PD (H:ae):callW P nx [ai 16] H=some (ai 65536,H):=by
 have h:=fun H=>fc 15 H
 replace h:∀ H,callW P iF [ai 15] H=some (ai 32768,H):=h
 have w1:IntKind.i64.wrap 15=15:=rfl
 have w2:IntKind.i64.wrap 65536=65536:=rfl
 rw [py rfl];simp -implicitDefEqProofs [-ac,-AV.one,-ad,D4,Ll,h,w1,w2]
set_option maxHeartbeats 1000000 in
theorem G8 (m:Ms) (H:ae):callW P qL [.agg m.v,ai 10] H=some (ab (bj m 1024 32768),H):=by
 have hI:=fun H=>rIs 10 m.sn H
 replace hI:∀ H,callW P gk [ai 10,ai m.sn] H=some (ab (decide (0≤m.sn∧m.sn<1024)),H):=hI
 have hp:=PC
 obtain ⟨sn,pa,fr,to⟩:=m
 simp only at hI
 simp only [Ms.v]
 by_cases c1:0≤sn∧sn<1024
 case neg =>
  rw [show bj ⟨sn,pa,fr,to⟩ 1024 32768=false by simp only [bj];rw [decide_eq_false (show ¬ (0≤sn∧sn<((1024:Nat):Int)) from c1)];rfl]
  rw [decide_eq_false c1] at hI
  rw [bw rfl];simp -implicitDefEqProofs [-ac,-AV.one,-ad,fB,hI]
 rw [decide_eq_true c1] at hI
 have hm:bj ⟨sn,pa,fr,to⟩ 1024 32768=(decide (0≤fr) && decide (0≤to) && decide (to<32768) && (if pa=true then (if to=0 then decide (fr<32768) else decide (fr<to)) else decide (fr=0) && decide (to=0))):=by
  simp only [bj];rw [decide_eq_true (show 0≤sn∧sn<((1024:Nat):Int) from c1)];rfl
 rw [hm]
 clear hm c1
 cases pa with
 | false =>
  by_cases c2:fr=0
  ·by_cases c3:to=0
   ·subst c2 c3
    rw [bw rfl];simp -implicitDefEqProofs [-ac,-AV.one,-ad,fB,hI]
   ·subst c2
    rw [show (decide ((0:Int)≤0) && decide (0≤to) && decide (to<32768) && (if false=true then (if to=0 then decide ((0:Int)<32768) else decide (0<to)) else decide ((0:Int)=0) && decide (to=0)))=false by simp [c3]]
    rw [bw rfl];simp -implicitDefEqProofs [-ac,-AV.one,-ad,fB,hI,c3]
  ·rw [show (decide (0≤fr) && decide (0≤to) && decide (to<32768) && (if false=true then (if to=0 then decide (fr<32768) else decide (fr<to)) else decide (fr=0) && decide (to=0)))=false by simp [c2]]
   rw [bw rfl];simp -implicitDefEqProofs [-ac,-AV.one,-ad,fB,hI,c2]
 | true =>
  by_cases c2:fr<0
  ·rw [decide_eq_false (show ¬ 0≤fr by omega)]
   rw [bw rfl];simp -implicitDefEqProofs [-ac,-AV.one,-ad,fB,aK,-cw,aB,aP,aC,aM,SOpG.reads,SOp.slots,SX.slots,SOp.noL,bq,av,aJ,aE,eqV,hI,c2]
  have c2':0≤fr:=by omega
  rw [decide_eq_true c2']
  by_cases c3:32768≤fr
  ·have c3':fr ≥ 32768:=c3
   rw [show (true && decide (0≤to) && decide (to<32768) && (if true=true then (if to=0 then decide (fr<32768) else decide (fr<to)) else decide (fr=0) && decide (to=0)))=false by
    by_cases t0:to=0
    ·rw [if_pos rfl,if_pos t0,decide_eq_false (show ¬ fr<32768 by omega)];simp
    ·rw [if_pos rfl,if_neg t0]
     by_cases t1:to<32768
     ·rw [decide_eq_false (show ¬ fr<to by omega)];simp
     ·rw [decide_eq_false t1];simp]
   rw [bw rfl];simp -implicitDefEqProofs [-ac,-AV.one,-ad,fB,aK,-cw,aB,aP,aC,aM,SOpG.reads,SOp.slots,SX.slots,SOp.noL,bq,av,aJ,aE,eqV,hI,c2,hp,c3,c3']
  have c3':¬ fr ≥ 32768:=c3
  by_cases t0:to=0
  ·subst t0
   rw [show (true && decide ((0:Int)≤0) && decide ((0:Int)<32768) && (if true=true then (if (0:Int)=0 then decide (fr<32768) else decide (fr<0)) else decide (fr=0) && decide ((0:Int)=0)))=true by simp;omega]
   rw [bw rfl];simp -implicitDefEqProofs [-ac,-AV.one,-ad,fB,aK,-cw,aB,aP,aC,aM,SOpG.reads,SOp.slots,SX.slots,SOp.noL,bq,av,aJ,aE,eqV,hI,c2,hp,c3,c3']
  by_cases t1:fr<to
  ·have t1':to > fr:=t1
   have t2:0≤to:=by omega
   rw [if_pos rfl,if_neg t0,decide_eq_true t1,decide_eq_true t2]
   by_cases t3:to<32768
   ·rw [decide_eq_true t3]
    rw [bw rfl];simp -implicitDefEqProofs [-ac,-AV.one,-ad,fB,aK,-cw,aB,aP,aC,aM,SOpG.reads,SOp.slots,SX.slots,SOp.noL,bq,av,aJ,aE,eqV,hI,c2,hp,c3,c3',t0,t1,t1',t3]
   ·rw [decide_eq_false t3]
    rw [bw rfl];simp -implicitDefEqProofs [-ac,-AV.one,-ad,fB,aK,-cw,aB,aP,aC,aM,SOpG.reads,SOp.slots,SX.slots,SOp.noL,bq,av,aJ,aE,eqV,hI,c2,hp,c3,c3',t0,t1,t1',t3]
  ·have t1':¬ to > fr:=t1
   rw [if_pos rfl,if_neg t0,decide_eq_false t1,Bool.and_false]
   rw [bw rfl];simp -implicitDefEqProofs [-ac,-AV.one,-ad,fB,aK,-cw,aB,aP,aC,aM,SOpG.reads,SOp.slots,SX.slots,SOp.noL,bq,av,aJ,aE,eqV,hI,c2,hp,c3,c3',t0,t1,t1']
set_option maxHeartbeats 1000000 in
theorem G9 (m:Ms) (H:ae):callW P qL [.agg m.v,ai 16] H=some (ab (bj m 65536 65536),H):=by
 have hI:=fun H=>rIs 16 m.sn H
 replace hI:∀ H,callW P gk [ai 16,ai m.sn] H=some (ab (decide (0≤m.sn∧m.sn<65536)),H):=hI
 have hp:=PD
 obtain ⟨sn,pa,fr,to⟩:=m
 simp only at hI
 simp only [Ms.v]
 by_cases c1:0≤sn∧sn<65536
 case neg =>
  rw [show bj ⟨sn,pa,fr,to⟩ 65536 65536=false by simp only [bj];rw [decide_eq_false (show ¬ (0≤sn∧sn<((65536:Nat):Int)) from c1)];rfl]
  rw [decide_eq_false c1] at hI
  rw [bw rfl];simp -implicitDefEqProofs [-ac,-AV.one,-ad,fB,hI]
 rw [decide_eq_true c1] at hI
 have hm:bj ⟨sn,pa,fr,to⟩ 65536 65536=(decide (0≤fr) && decide (0≤to) && decide (to<65536) && (if pa=true then (if to=0 then decide (fr<65536) else decide (fr<to)) else decide (fr=0) && decide (to=0))):=by
  simp only [bj];rw [decide_eq_true (show 0≤sn∧sn<((65536:Nat):Int) from c1)];rfl
 rw [hm]
 clear hm c1
 cases pa with
 | false =>
  by_cases c2:fr=0
  ·by_cases c3:to=0
   ·subst c2 c3
    rw [bw rfl];simp -implicitDefEqProofs [-ac,-AV.one,-ad,fB,hI]
   ·subst c2
    rw [show (decide ((0:Int)≤0) && decide (0≤to) && decide (to<65536) && (if false=true then (if to=0 then decide ((0:Int)<65536) else decide (0<to)) else decide ((0:Int)=0) && decide (to=0)))=false by simp [c3]]
    rw [bw rfl];simp -implicitDefEqProofs [-ac,-AV.one,-ad,fB,hI,c3]
  ·rw [show (decide (0≤fr) && decide (0≤to) && decide (to<65536) && (if false=true then (if to=0 then decide (fr<65536) else decide (fr<to)) else decide (fr=0) && decide (to=0)))=false by simp [c2]]
   rw [bw rfl];simp -implicitDefEqProofs [-ac,-AV.one,-ad,fB,hI,c2]
 | true =>
  by_cases c2:fr<0
  ·rw [decide_eq_false (show ¬ 0≤fr by omega)]
   rw [bw rfl];simp -implicitDefEqProofs [-ac,-AV.one,-ad,fB,aK,-cw,aB,aP,aC,aM,SOpG.reads,SOp.slots,SX.slots,SOp.noL,bq,av,aJ,aE,eqV,hI,c2]
  have c2':0≤fr:=by omega
  rw [decide_eq_true c2']
  by_cases c3:65536≤fr
  ·have c3':fr ≥ 65536:=c3
   rw [show (true && decide (0≤to) && decide (to<65536) && (if true=true then (if to=0 then decide (fr<65536) else decide (fr<to)) else decide (fr=0) && decide (to=0)))=false by
    by_cases t0:to=0
    ·rw [if_pos rfl,if_pos t0,decide_eq_false (show ¬ fr<65536 by omega)];simp
    ·rw [if_pos rfl,if_neg t0]
     by_cases t1:to<65536
     ·rw [decide_eq_false (show ¬ fr<to by omega)];simp
     ·rw [decide_eq_false t1];simp]
   rw [bw rfl];simp -implicitDefEqProofs [-ac,-AV.one,-ad,fB,aK,-cw,aB,aP,aC,aM,SOpG.reads,SOp.slots,SX.slots,SOp.noL,bq,av,aJ,aE,eqV,hI,c2,hp,c3,c3']
  have c3':¬ fr ≥ 65536:=c3
  by_cases t0:to=0
  ·subst t0
   rw [show (true && decide ((0:Int)≤0) && decide ((0:Int)<65536) && (if true=true then (if (0:Int)=0 then decide (fr<65536) else decide (fr<0)) else decide (fr=0) && decide ((0:Int)=0)))=true by simp;omega]
   rw [bw rfl];simp -implicitDefEqProofs [-ac,-AV.one,-ad,fB,aK,-cw,aB,aP,aC,aM,SOpG.reads,SOp.slots,SX.slots,SOp.noL,bq,av,aJ,aE,eqV,hI,c2,hp,c3,c3']
  by_cases t1:fr<to
  ·have t1':to > fr:=t1
   have t2:0≤to:=by omega
   rw [if_pos rfl,if_neg t0,decide_eq_true t1,decide_eq_true t2]
   by_cases t3:to<65536
   ·rw [decide_eq_true t3]
    rw [bw rfl];simp -implicitDefEqProofs [-ac,-AV.one,-ad,fB,aK,-cw,aB,aP,aC,aM,SOpG.reads,SOp.slots,SX.slots,SOp.noL,bq,av,aJ,aE,eqV,hI,c2,hp,c3,c3',t0,t1,t1',t3]
   ·rw [decide_eq_false t3]
    rw [bw rfl];simp -implicitDefEqProofs [-ac,-AV.one,-ad,fB,aK,-cw,aB,aP,aC,aM,SOpG.reads,SOp.slots,SX.slots,SOp.noL,bq,av,aJ,aE,eqV,hI,c2,hp,c3,c3',t0,t1,t1',t3]
  ·have t1':¬ to > fr:=t1
   rw [if_pos rfl,if_neg t0,decide_eq_false t1,Bool.and_false]
   rw [bw rfl];simp -implicitDefEqProofs [-ac,-AV.one,-ad,fB,aK,-cw,aB,aP,aC,aM,SOpG.reads,SOp.slots,SX.slots,SOp.noL,bq,av,aJ,aE,eqV,hI,c2,hp,c3,c3',t0,t1,t1']
theorem EA {w:Nat} (hw:w=10∨w=16) (m:Ms) (H:ae):callW P qL [.agg m.v,ai w] H=some (ab (bj m (qW w) (rW w)),H):=by
 rcases hw with rfl | rfl
 ·exact G8 m H
 ·exact G9 m H
section
variable {H:ae}
def Dh (H:ae) (s:St) (w:Nat) (z:Nat) (σ:List AV) (G:ae):Prop:=
 ∃ i:Nat,i+z=s.ms.length∧(∀ m∈s.ms.take i,bj m (qW w) (rW w)=true)∧G=H∧σ=L 40 ((((Tr.full 6).put (ag 1) (ai w)).put (ag 2) (.lbox [ai s.ack,lst s.z 4 none (mvs s.ms)])).put (ag 5) (ai i))
def pO (H:ae) (s:St) (w:Nat) (e:AExit) (σ:List AV) (G:ae):Prop:=
 G=H∧((e=.exit 0∧(s.ms.any fun m=>!bj m (qW w) (rW w))=false∧kill [1,2,5,25,26,27,28,29] σ=L 40 (Tr.full 6))∨(e=.ret∧(s.ms.any fun m=>!bj m (qW w) (rW w))=true∧aA F_q28.res σ=some (ab false)))
theorem Lm {s:St} {w:Nat} (hw:w=10∨w=16) (hs:s.ms.length≤100000) (z:Nat) (σ:List AV) (G:ae) (hI:Dh H s w z (kill (bu gY) σ) G) :
  Ends (execW P oO (.loop gY) σ G) fun x=>pO H s w x.e x.σ x.H:=by
 refine aX (fun z σ G=>Dh H s w z σ G) (pO H s w) ?_ z σ G hI
 clear hI z σ G
 rintro z σ G ⟨i,hz,hall,rfl,rfl⟩
 obtain ⟨sa,sz,sm⟩:=s
 simp only at hs hz hall
 have hla:(mvs sm).length=sm.length:=dO sm
 by_cases hi:i<sm.length
 ·have hi':(i:Int)<sm.length:=by omega
  obtain ⟨x,hx⟩:∃ x,sm[i]?=some x:=⟨_,zq6 hi⟩
  have q1:=qu hx sz none .i64
  have hM:=fun H=>EA hw x H
  have hx4:x.v.length=4:=rfl
  have hxt:x.v.take 4=x.v:=rfl
  have hxf:(AV.agg x.v).free=true:=rfl
  have w1:IntKind.i64.wrap ((i:Int)+1)=((i+1:Nat):Int):=by rw [aq (by omega) (by omega)];omega
  obtain ⟨i1,hi1⟩:=Go.A.nm (i+1)
  rw [hi1] at w1
  cases hok:bj x (qW w) (rW w) with
  | true =>
   rw [hok] at hM
   have htk:∀ m∈sm.take i1,bj m (qW w) (rW w)=true:=by
    rw [← hi1,ej hx]
    intro m hm
    rcases List.mem_append.1 hm with hm | hm
    ·exact hall m hm
    ·rw [List.mem_singleton.1 hm];exact hok
   obtain ⟨a,b,c,d⟩:=x
   simp only [Ms.v] at q1 hM
   clear hall hok
   simp -implicitDefEqProofs [-ac,-AV.one,-ad,iH,gY,hla,hi,hi',q1,hM,w1]
   exact ⟨z - 1,by omega,i1,by simp only;omega,htk,rfl,by simp⟩
  | false =>
   rw [hok] at hM
   have hnn:(sm.any fun m=>!bj m (qW w) (rW w))=true:=List.any_eq_true.2 ⟨x,List.mem_of_getElem? hx,by rw [hok];rfl⟩
   obtain ⟨a,b,c,d⟩:=x
   simp only [Ms.v] at q1 hM
   clear hall hok
   simp -implicitDefEqProofs [-ac,-AV.one,-ad,iH,gY,hla,hi,hi',q1,hM,w1]
   exact ⟨rfl,.inr ⟨rfl,hnn,by simp [F_q28]⟩⟩
 ·have hi':¬ (i:Int)<sm.length:=by omega
  rw [List.take_of_length_le (by omega)] at hall
  have hnn:(sm.any fun m=>!bj m (qW w) (rW w))=false:=List.any_eq_false.2 fun m hm=>by rw [hall m hm];simp
  clear hall
  simp -implicitDefEqProofs [-ac,-AV.one,-ad,iH,gY,hla,hi,hi']
  exact ⟨rfl,.inl ⟨rfl,hnn,by simp⟩⟩
theorem UB (s:St) (hs:s.ms.length≤100000) (w:Int) (H:ae):callW P oO [.agg s.v,ai w] H=some (ab (decide (w=10∨w=16) && jn s w.toNat),H):=by
 have hla:(mvs s.ms).length=s.ms.length:=dO _
 by_cases hw:w=10∨w=16
 case neg =>
  rw [decide_eq_false hw,Bool.false_and]
  have n1:¬ w=10:=fun h=>hw (.inl h)
  have n2:¬ w=16:=fun h=>hw (.inr h)
  rw [iv rfl];simp -implicitDefEqProofs [-ac,-AV.one,-ad,iH,St.v,n1,n2]
 obtain ⟨wn,rfl,hwn⟩:∃ wn:Nat,w=wn∧(wn=10∨wn=16):=by
  rcases hw with rfl | rfl
  ·exact ⟨10,rfl,.inl rfl⟩
  ·exact ⟨16,rfl,.inr rfl⟩
 have htn:((wn:Nat):Int).toNat=wn:=by simp
 rw [decide_eq_true hw,Bool.true_and,htn,jn]
 have hI:=fun H=>rIs wn s.ack H
 have hsw:(sz2 (wn:Nat):Int)=qW wn:=by rw [sz2,if_neg (by omega),htn,qW]
 rw [hsw] at hI
 have g1:(¬ (wn:Int)=10)=(¬ wn=10):=by rw [eq_iff_iff];omega
 have g2:(¬ (wn:Int)=16)=(¬ wn=16):=by rw [eq_iff_iff];omega
 by_cases c1:0≤s.ack∧s.ack<qW wn
 case neg =>
  rw [decide_eq_false c1,Bool.false_and,Bool.false_and]
  rw [decide_eq_false c1] at hI
  rcases hwn with rfl | rfl
  ·replace hI:∀ H,callW P gk [ai 10,ai s.ack] H=some (ab false,H):=hI
   rw [iv rfl];simp -implicitDefEqProofs [-ac,-AV.one,-ad,iH,St.v,hI]
  ·replace hI:∀ H,callW P gk [ai 16,ai s.ack] H=some (ab false,H):=hI
   rw [iv rfl];simp -implicitDefEqProofs [-ac,-AV.one,-ad,iH,St.v,hI]
 rw [decide_eq_true c1,Bool.true_and]
 rw [decide_eq_true c1] at hI
 by_cases c2:s.ms.length≤32
 case neg =>
  have c2':(32:Int)<s.ms.length:=by omega
  have c2'':(s.ms.length:Int) > 32:=by omega
  have c2c:32<s.ms.length:=by omega
  rw [decide_eq_false c2,Bool.false_and]
  rcases hwn with rfl | rfl
  ·replace hI:∀ H,callW P gk [ai 10,ai s.ack] H=some (ab true,H):=hI
   rw [iv rfl];simp -implicitDefEqProofs [-ac,-AV.one,-ad,iH,St.v,hI,hla,c2',c2'',c2c]
  ·replace hI:∀ H,callW P gk [ai 16,ai s.ack] H=some (ab true,H):=hI
   rw [iv rfl];simp -implicitDefEqProofs [-ac,-AV.one,-ad,iH,St.v,hI,hla,c2',c2'',c2c]
 have c2':¬ (32:Int)<s.ms.length:=by omega
 have c2'':¬ (s.ms.length:Int) > 32:=by omega
 have c2c:¬ 32<s.ms.length:=by omega
 rw [decide_eq_true c2,Bool.true_and]
 have hlp:∀ (σ:List AV) (G:ae),Dh H s wn s.ms.length (kill (bu gY) σ) G→Ends (execW P oO (.loop gY) σ G) fun x=>pO H s wn x.e x.σ x.H:=fun σ G h=>Lm hwn hs _ σ G h
 rw [cH]
 refine call_post 6 40 rfl (rfl:P.T oO=some F_q28) rfl (aF rfl) (fun e σ G=>e=.ret∧G=H∧aA F_q28.res σ=some (ab (!(s.ms.any fun m=>!bj m (qW wn) (rW wn))))) ?_ ?_
 ·rintro e σ G ⟨rfl,rfl,h⟩
  exact ⟨rfl,_,h,rfl,by simp⟩
 rcases hwn with rfl | rfl
 ·replace hI:∀ H,callW P gk [ai 10,ai s.ack] H=some (ab true,H):=hI
  rw [F_q28];simp -implicitDefEqProofs [-ac,-AV.one,-ad,iH,St.v,hI,hla,c2',c2'',c2c]
  repeat rw [Option.bind_assoc]
  refine Ends.block (P:=pO H s 10) (hlp _ _ ⟨0,by omega,by simp,rfl,by simp [gY]⟩) ?_
  rintro e σ1 G1 ⟨rfl,⟨rfl,c3,c4⟩ | ⟨rfl,c3,c4⟩⟩
  ·simp -implicitDefEqProofs [-ac,-AV.one,-ad,iH,c4,c3]
  ·simp [F_q28] at c4
   simp -implicitDefEqProofs [-ac,-AV.one,-ad,iH,c4,c3]
 ·replace hI:∀ H,callW P gk [ai 16,ai s.ack] H=some (ab true,H):=hI
  rw [F_q28];simp -implicitDefEqProofs [-ac,-AV.one,-ad,iH,St.v,hI,hla,c2',c2'',c2c]
  repeat rw [Option.bind_assoc]
  refine Ends.block (P:=pO H s 16) (hlp _ _ ⟨0,by omega,by simp,rfl,by simp [gY]⟩) ?_
  rintro e σ1 G1 ⟨rfl,⟨rfl,c3,c4⟩ | ⟨rfl,c3,c4⟩⟩
  ·simp -implicitDefEqProofs [-ac,-AV.one,-ad,iH,c4,c3]
  ·simp [F_q28] at c4
   simp -implicitDefEqProofs [-ac,-AV.one,-ad,iH,c4,c3]
end
section
variable {H:ae}
def AF (H:ae) (s:St) (w:Nat) (z:Nat) (σ:List AV) (G:ae):Prop:=
 ∃ (i c:Nat) (bits:List Bool),i+z=s.ms.length∧(c=25∨c=57∨c=85)∧bits≠[]∧bits.length≤21+50 * i∧bits++dX w (s.ms.drop i)=cP s w∧G=H
  ∧ σ=L 90 (((((Tr.full 7).put (ag 1) (ai w)).put (ag 2) (.lbox [ai s.ack,lst s.z 4 none (mvs s.ms)])).put (ag 5) (.vs 1 (some c) (bls bits))).put (ag 6) (ai i))
def Dj (H:ae) (s:St) (w:Nat) (e:AExit) (σ:List AV) (G:ae):Prop:=
 e=.exit 0∧G=H∧∃ c:Nat,kill [1,2,6,26,27,28,29,30] σ=L 90 ((Tr.full 7).put (ag 5) (.vs 1 (some c) (bls (cP s w))))
structure Hb (w ow pl:Nat):Prop where
 o:∀ H,callW P qS [ai w] H=some (ai ow,H)
 p:∀ H,callW P nx [ai w] H=some (ai pl,H)
 e:aI w=ow
 pe:pl=2 ^ ow
 r:ow≤16∧1≤ow
theorem PE:Hb 10 15 32768:=⟨Lj,PC,rfl,rfl,by omega⟩
theorem PF:Hb 16 16 65536:=⟨Ll,PD,rfl,rfl,by omega⟩
theorem aer (a b:Bool):bls [a,b]=[[ab a],[ab b]]:=rfl
set_option maxHeartbeats 4000000 in
theorem OH {s:St} {w ow pl:Nat} (hw:w=10∨w=16) (F:Hb w ow pl) (hl:s.ms.length≤32) (hv:∀ m∈s.ms,bj m (2 ^ w) (2 ^ ow)=true) (z:Nat) (σ:List AV) (G:ae) (hI:AF H s w z (kill (bu eW) σ) G) :
  Ends (execW P nr (.loop eW) σ G) fun t=>Dj H s w t.e t.σ t.H:=by
 refine aX (fun z σ G=>AF H s w z σ G) (Dj H s w) ?_ z σ G hI
 clear hI z σ G
 rintro z σ G ⟨i,c,bits,hz,hc,hb0,hbl,hb,rfl,rfl⟩
 obtain ⟨ack,z0,ms⟩:=s
 simp only at hz hb hl hv
 have hlen:(mvs ms).length=ms.length:=dO ms
 by_cases hi:i<ms.length
 ·have hi':(i:Int)<ms.length:=by omega
  obtain ⟨m,hm⟩:∃ m,ms[i]?=some m:=⟨_,zq6 hi⟩
  have hok:=hv m (List.mem_of_getElem? hm)
  have q1:=qu hm z0 none .i64
  have hdrop:ms.drop i=m :: ms.drop (i+1):=by
   rw [List.drop_eq_getElem_cons hi]
   rw [zq6 hi] at hm
   rw [zq1 hm]
  have hmore:decide (0<ms.length - (i+1))=decide (i+1<ms.length):=decide_eq_decide.2 (by omega)
  rw [hdrop,dX,List.length_drop,hmore,rp,F.e] at hb
  obtain ⟨sn,pa,fr,to⟩:=m
  simp only [bj,Bool.and_eq_true,decide_eq_true_eq] at hok
  obtain ⟨⟨⟨⟨⟨o1,o2⟩,o3⟩,o4⟩,o5⟩,o6⟩:=hok
  simp only [Ms.v] at q1
  simp only at hb
  obtain ⟨sn',rfl⟩:∃ n:Nat,sn=n:=⟨sn.toNat,by omega⟩
  obtain ⟨fn,rfl⟩:∃ n:Nat,fr=n:=⟨fr.toNat,by omega⟩
  obtain ⟨tn,rfl⟩:∃ n:Nat,to=n:=⟨to.toNat,by omega⟩
  rw [Int.toNat_natCast,Int.toNat_natCast] at hb
  have hw16:2 ^ w≤2 ^ 16:=Nat.pow_le_pow_right (by omega) (by omega)
  have ho16:2 ^ ow≤2 ^ 16:=Nat.pow_le_pow_right (by omega) F.r.1
  have e16:(2:Nat) ^ 16=65536:=by decide
  have u1:IntKind.u64.wrap ((sn':Nat):Int)=sn':=bJ (by omega) (by omega)
  have wi:IntKind.i64.wrap ((i:Int)+1)=((i+1:Nat):Int):=by rw [aq (by omega) (by omega)];omega
  obtain ⟨mo,hmo⟩:=Go.A.nm (decide (i+1<ms.length))
  have hdc:decide (((i+1:Nat):Int)<ms.length)=mo:=by rw [← hmo];exact decide_eq_decide.2 (by omega)
  rw [hmo] at hb
  obtain ⟨i1,hi1⟩:=Go.A.nm (i+1)
  have hdcN:decide (i+1<ms.length)=mo:=hmo
  rw [hi1] at wi hdc hb hdcN
  have fin:∀ x:List Bool,x≠[]→x.length≤2000→∀ v n:Nat,n≤16→v<2 ^ n→∀ H,callW P ep [.vs 1 none (bls x),.c (.int .u64 v),ai n] H=some (.tup [.vs 1 (some 0) (bls (x++aD v n)),ai 0],H):=fun x h0 hx v n hn hv H=>Av h0 (by omega) (by omega) hv H
  have hP1:=fin bits hb0 (by omega) sn' w (by omega) (by omega)
  obtain ⟨x1,hx1⟩:=Go.A.nm (bits++aD sn' w)
  have hx1l:x1.length=bits.length+w:=by rw [← hx1,List.length_append,aT]
  rw [hx1] at hP1
  have hA1:=fun f σ H=>CW (m:=P.md nr) (d:=57) (c:=44) (x:=x1) (y:=[mo,pa]) (by omega) (by simp) f σ H
  obtain ⟨x2,hx2⟩:=Go.A.nm (x1++[mo,pa])
  have hx2l:x2.length=x1.length+2:=by rw [← hx2];simp
  have hx20:x2≠[]:=fun e=>by rw [e] at hx2l;simp at hx2l
  rw [hx2,aer] at hA1
  have hb2:x2++((if pa=true then aD fn ow++aD (toE ⟨sn',pa,fn,tn⟩ ow) ow else [])++dX w (ms.drop i1))=cP ⟨ack,z0,ms⟩ w:=by
   rw [← hb,← hx2,← hx1]
   simp only [List.append_assoc,List.cons_append,List.nil_append]
  cases pa with
  | false =>
   rw [if_neg (by simp),List.nil_append] at hb2
   have hinv:∀ σ,σ=L 90 (((((Tr.full 7).put (ag 1) (ai w)).put (ag 2) (.lbox [ai ack,lst z0 4 none (mvs ms)])).put (ag 5) (.vs 1 (some 57) (bls x2))).put (ag 6) (ai i1))→∃ m,m<z∧AF G ⟨ack,z0,ms⟩ w m σ G:=fun σ h=>⟨z - 1,by omega,i1,57,x2,by simp only;omega,.inr (.inl rfl),hx20,by omega,hb2,rfl,h⟩
   clear hb hb2 hx1 hx2 hmo hdrop hmore hm fin hv
   generalize bls bits=L0 at *
   generalize bls x1=L1 at *
   generalize bls x2=L2 at *
   rcases hc with rfl | rfl | rfl
   ·simp -implicitDefEqProofs [-ac,-AV.one,-ad,kb,eW,hlen,hi,hi',q1,u1,hP1,wi,hdc,hdcN,hA1]
    exact hinv _ (by simp)
   ·simp -implicitDefEqProofs [-ac,-AV.one,-ad,kb,eW,hlen,hi,hi',q1,u1,hP1,wi,hdc,hdcN,hA1]
    exact hinv _ (by simp)
   ·simp -implicitDefEqProofs [-ac,-AV.one,-ad,kb,eW,hlen,hi,hi',q1,u1,hP1,wi,hdc,hdcN,hA1]
    exact hinv _ (by simp)
  | true =>
   rw [if_pos rfl] at hb2 o6
   have hfr:fn<2 ^ ow:=by
    by_cases ht:(tn:Int)=0
    ·rw [if_pos ht] at o6;have:=of_decide_eq_true o6;omega
    ·rw [if_neg ht] at o6;have:=of_decide_eq_true o6;omega
   have u2:IntKind.u64.wrap ((fn:Nat):Int)=fn:=bJ (by omega) (by omega)
   obtain ⟨te,hte⟩:=Go.A.nm (toE ⟨sn',true,fn,tn⟩ ow)
   rw [hte] at hb2
   have hpos:1≤2 ^ ow:=Nat.one_le_two_pow
   have htl:te<2 ^ ow:=by rw [← hte,toE];simp only;split<;>omega
   have hte2:te=if tn=0 then 2 ^ ow - 1 else tn - 1:=by
    rw [← hte,toE];simp only [Int.toNat_natCast]
    by_cases h:tn=0
    ·rw [if_pos h,if_pos (by omega)]
    ·rw [if_neg h,if_neg (by omega)]
   have hP2:=fin x2 hx20 (by omega) fn ow F.r.1 hfr
   obtain ⟨x3,hx3⟩:=Go.A.nm (x2++aD fn ow)
   have hx3l:x3.length=x2.length+ow:=by rw [← hx3,List.length_append,aT]
   have hx30:x3≠[]:=fun e=>by rw [e] at hx3l;simp at hx3l;omega
   have hor:=F.r
   rw [hx3] at hP2
   have hP3:=fin x3 hx30 (by omega) te ow F.r.1 htl
   obtain ⟨x4,hx4⟩:=Go.A.nm (x3++aD te ow)
   have hx4l:x4.length=x3.length+ow:=by rw [← hx4,List.length_append,aT]
   have hx40:x4≠[]:=fun e=>by rw [e] at hx4l;simp at hx4l;omega
   rw [hx4] at hP3
   have hb3:x4++dX w (ms.drop i1)=cP ⟨ack,z0,ms⟩ w:=by
    rw [← hb2,← hx4,← hx3];simp only [List.append_assoc]
   have u3:IntKind.u64.wrap ((te:Nat):Int)=te:=bJ (by omega) (by omega)
   have hO:=F.o
   have hPl:=F.p
   have hpe:=F.pe
   have hinv:∀ σ,σ=L 90 (((((Tr.full 7).put (ag 1) (ai w)).put (ag 2) (.lbox [ai ack,lst z0 4 none (mvs ms)])).put (ag 5) (.vs 1 (some 85) (bls x4))).put (ag 6) (ai i1))→∃ m,m<z∧AF G ⟨ack,z0,ms⟩ w m σ G:=fun σ h=>⟨z - 1,by omega,i1,85,x4,by simp only;omega,.inr (.inr rfl),hx40,by omega,hb3,rfl,h⟩
   by_cases ht:tn=0
   ·subst ht
    rw [if_pos rfl] at hte2
    have wp:IntKind.i64.wrap ((pl:Int) - 1)=te:=by rw [aq (by omega) (by omega)];omega
    have wm:IntKind.i64.wrap (-1)=-1:=rfl
    clear hb hb2 hb3 hx1 hx2 hx3 hx4 hmo hdrop hmore hm fin hv o6 hte hte2
    generalize bls bits=L0 at *
    generalize bls x1=L1 at *
    generalize bls x2=L2 at *
    generalize bls x3=L3 at *
    generalize bls x4=L4 at *
    replace q1:bW 4 none (lst z0 4 none (mvs ms)) (.c (.int .i64 i))=some (.vp [ai sn',ab true,ai fn,ai 0] 0):=q1
    rcases hc with rfl | rfl | rfl
    ·simp -implicitDefEqProofs [-ac,-AV.one,-ad,kb,eW,aK,aB,aP,aC,aM,SOpG.reads,SOp.slots,SX.slots,SOp.noL,rdV,av,aJ,aE,eqV,hlen,hi,hi',q1,u1,u2,u3,hP1,wi,hdc,hdcN,hA1,hP2,hP3,hO,hPl,wp,wm]
     exact hinv _ (by simp)
    ·simp -implicitDefEqProofs [-ac,-AV.one,-ad,kb,eW,aK,aB,aP,aC,aM,SOpG.reads,SOp.slots,SX.slots,SOp.noL,rdV,av,aJ,aE,eqV,hlen,hi,hi',q1,u1,u2,u3,hP1,wi,hdc,hdcN,hA1,hP2,hP3,hO,hPl,wp,wm]
     exact hinv _ (by simp)
    ·simp -implicitDefEqProofs [-ac,-AV.one,-ad,kb,eW,aK,aB,aP,aC,aM,SOpG.reads,SOp.slots,SX.slots,SOp.noL,rdV,av,aJ,aE,eqV,hlen,hi,hi',q1,u1,u2,u3,hP1,wi,hdc,hdcN,hA1,hP2,hP3,hO,hPl,wp,wm]
     exact hinv _ (by simp)
   ·rw [if_neg ht] at hte2
    have ht':¬ (tn:Int)=0:=by omega
    have wp:IntKind.i64.wrap ((tn:Int) - 1)=te:=by rw [aq (by omega) (by omega)];omega
    clear hb hb2 hb3 hx1 hx2 hx3 hx4 hmo hdrop hmore hm fin hv o6 hte hte2
    generalize bls bits=L0 at *
    generalize bls x1=L1 at *
    generalize bls x2=L2 at *
    generalize bls x3=L3 at *
    generalize bls x4=L4 at *
    rcases hc with rfl | rfl | rfl
    ·simp -implicitDefEqProofs [-ac,-AV.one,-ad,kb,eW,aK,aB,aP,aC,aM,SOpG.reads,SOp.slots,SX.slots,SOp.noL,rdV,av,aJ,aE,eqV,hlen,hi,hi',q1,u1,u2,u3,hP1,wi,hdc,hdcN,hA1,hP2,hP3,hO,wp,ht,ht']
     exact hinv _ (by simp)
    ·simp -implicitDefEqProofs [-ac,-AV.one,-ad,kb,eW,aK,aB,aP,aC,aM,SOpG.reads,SOp.slots,SX.slots,SOp.noL,rdV,av,aJ,aE,eqV,hlen,hi,hi',q1,u1,u2,u3,hP1,wi,hdc,hdcN,hA1,hP2,hP3,hO,wp,ht,ht']
     exact hinv _ (by simp)
    ·simp -implicitDefEqProofs [-ac,-AV.one,-ad,kb,eW,aK,aB,aP,aC,aM,SOpG.reads,SOp.slots,SX.slots,SOp.noL,rdV,av,aJ,aE,eqV,hlen,hi,hi',q1,u1,u2,u3,hP1,wi,hdc,hdcN,hA1,hP2,hP3,hO,wp,ht,ht']
     exact hinv _ (by simp)
 ·have hi':¬ (i:Int)<ms.length:=by omega
  have hd:ms.drop i=[]:=List.drop_eq_nil_of_le (by omega)
  rw [hd,dX,List.append_nil] at hb
  rw [hb]
  simp -implicitDefEqProofs [-ac,-AV.one,-ad,kb,eW,hlen,hi,hi']
  exact ⟨rfl,rfl,c,by simp⟩
theorem EB {s:St} {w ow pl:Nat} (hw:w=10∨w=16) (F:Hb w ow pl) (h:jn s w=true) (H:ae) :
  ∃ out k,PackR (cP s w) out∧callW P nr [.agg s.v,ai w] H=some (.vs 1 none (ax out),H++List.replicate k .other):=by
 obtain ⟨⟨a0,a1⟩,hl,hv⟩:=pM h
 rw [adf hw,F.e] at hv
 have hlp:=fun z σ G hI=>OH (H:=H) hw F hl hv z σ G hI
 have hsl:=lc hw s.ms
 have hsb:(cP s w).length≤2000∧4≤(cP s w).length:=by
  simp only [cP,List.length_append,aT,List.length_cons,List.length_nil];omega
 obtain ⟨hb,hpk,hB⟩:=xZ (zx:=false) (l:=cP s w) (by omega) H
 have hhl:=hpk.len
 have hb0:hb≠[]:=fun e=>by rw [e] at hhl;simp at hhl;omega
 have hb1:hb.length≠0:=fun e=>hb0 (zq8 e)
 have hbh:BH H hb=TH H hb 0:=by simp [BH,TH,hb0]
 have hbv:eD H.length hb.length=rwv H.length hb.length:=by rw [eD,if_neg hb1];rfl
 rw [hbh,hbv] at hB
 replace hB:callW P iG [.vs 1 none (bls (cP s w))] H=_:=hB
 have hfz:=CX H 0 hb0
 have hoth:=CY H hb 0
 refine ⟨hb,1,hpk,?_⟩
 rw [show H++List.replicate 1 AObj.other=_ from hoth.symm]
 clear hoth
 have hw16:2 ^ w≤65536:=by rcases hw with rfl | rfl<;>decide
 have u1:=qt a0 (by omega)
 have v1:s.ack.toNat<2 ^ w:=by omega
 have hla:(mvs s.ms).length=s.ms.length:=dO _
 have hP1:=fun H=>Av (x:=[false,false,false,false]) (by simp) (by simp) (v:=s.ack.toNat) (n:=w) (by omega) v1 H
 replace hP1:∀ H,callW P ep [.vs 1 none [[ab false],[ab false],[ab false],[ab false]],.c (.int .u64 s.ack.toNat),ai w] H=some (.tup [.vs 1 (some 0) (bls ([false,false,false,false]++aD s.ack.toNat w)),ai 0],H):=hP1
 obtain ⟨x1,hx1⟩:=Go.A.nm ([false,false,false,false]++aD s.ack.toNat w)
 have hx1l:x1.length=4+w:=by rw [← hx1];simp [aT];omega
 rw [hx1] at hP1
 obtain ⟨b1,hb1'⟩:=Go.A.nm (decide (0<s.ms.length))
 have hdc:decide ((s.ms.length:Int) > 0)=b1:=by rw [← hb1'];exact decide_eq_decide.2 (by omega)
 have hdc':decide ((0:Int)<s.ms.length)=b1:=by rw [← hb1'];exact decide_eq_decide.2 (by omega)
 have hA1:=fun f σ H=>CW (m:=P.md nr) (d:=25) (c:=16) (x:=x1) (y:=[b1]) (by omega) (by simp) f σ H
 obtain ⟨x2,hx2⟩:=Go.A.nm (x1++[b1])
 have hx2l:x2.length=x1.length+1:=by rw [← hx2];simp
 have hx20:x2≠[]:=fun e=>by rw [e] at hx2l;simp at hx2l
 rw [hx2] at hA1
 replace hA1:∀ f σ H,fy (P.md nr) (some 25) 1 1 (.vs 1 (some 16) (bls x1)) (.vs 1 f [[ab b1]]) σ H=some (.vs 1 (some 25) (bls x2),σ.map (bV [16,25]),H):=hA1
 have hsb2:x2++dX w s.ms=cP s w:=by rw [← hx2,← hx1,← hb1',cP]
 have hinv:∀ σ,σ=L 90 (((((Tr.full 7).put (ag 1) (ai w)).put (ag 2) (.lbox [ai s.ack,lst s.z 4 none (mvs s.ms)])).put (ag 5) (.vs 1 (some 25) (bls x2))).put (ag 6) (ai 0))→AF H s w s.ms.length σ H:=fun σ h=>⟨0,25,x2,by omega,.inl rfl,hx20,by omega,by rw [List.drop_zero];exact hsb2,rfl,h⟩
 obtain ⟨ln,hln⟩:=Go.A.nm (s.ms.length)
 have hdcN:decide (0<ln)=b1:=by rw [← hln];exact hb1'
 rw [hln] at hla hdc hdc'
 clear hx1 hx2 hb1' hsb2 hbh hbv
 generalize s.ack.toNat=an at *
 rw [cH]
 refine call_post 7 90 rfl (rfl:P.T nr=some F_q29) rfl (aF rfl) (fun e σ G=>e=.ret∧G=TH H hb 0∧aA F_q29.res σ=some (rwv H.length hb.length)) ?_ ?_
 ·rintro e σ G ⟨rfl,rfl,h⟩
  refine ⟨rfl,_,h,rfl,?_⟩
  simp [hfz]
 rw [F_q29];simp -implicitDefEqProofs [-ac,-AV.one,-ad,kb,St.v,u1,hP1,hla,hdc,hdc',hdcN,hA1]
 repeat rw [Option.bind_assoc]
 refine Ends.block (P:=Dj H s w) (hlp s.ms.length _ _ (hinv _ (by simp [eW]))) ?_
 rintro e σ1 G1 ⟨rfl,rfl,c,c2⟩
 simp -implicitDefEqProofs [-ac,-AV.one,-ad,kb,c2,hB]
theorem AG (s:St) {w:Int} (hw:w=10∨w=16) (h:jn s w.toNat=true) (H:ae) :
  ∃ out k,PackR (cP s w.toNat) out∧callW P nr [.agg s.v,ai w] H=some (.vs 1 none (ax out),H++List.replicate k .other):=by
 rcases hw with rfl | rfl
 ·exact EB (w:=10) (.inl rfl) PE h H
 ·exact EB (w:=16) (.inr rfl) PF h H
end
theorem kl {bs:List Nat} {j:Nat} {b:Bool} (h:(ay bs)[j]?=some b):aj bs j 1=b.toNat:=by
 have h2:=fW (bs:=bs) (a:=j) (n:=0) (by simpa using h)
 have h0:aj bs j 0=0:=by simp [aj,num]
 rw [h0] at h2
 simpa using h2
theorem eE {bs:List Nat} {a n:Nat} (h:a+n≤8 * bs.length):gS bs a 0 n=(aj bs a n,a+n,0):=by rw [gS,if_neg (by simp),if_pos h]
theorem uw {bs:List Nat} {a n:Nat} (h:¬ a+n≤8 * bs.length):gS bs a 0 n=(0,a,8):=by rw [gS,if_neg (by simp),if_neg h]
theorem EC {bs:List Nat} {a n:Nat}:gS bs a 8 n=(0,a,8):=by rw [gS,if_pos (by simp)]
theorem rv {bs:List Nat} {a w:Nat} (h:8 * bs.length<a+w+2):(cr bs a 0 w).2.2.2=8:=by
 simp only [cr]
 by_cases c1:a+w≤8 * bs.length
 ·rw [eE c1]
  by_cases c2:a+w+1≤8 * bs.length
  ·simp only [eE c2,uw (show ¬ a+w+1+1≤8 * bs.length by omega)]
   simp
  ·simp only [uw c2,EC]
   simp
 ·rw [uw c1]
  simp only [EC]
  simp
theorem AH {bs:List Nat} {a w:Nat} (h:a+w+2≤8 * bs.length) (hp:¬ aj bs (a+w+1) 1=1) :
  cr bs a 0 w=(⟨(aj bs a w:Nat),false,0,0⟩,decide (aj bs (a+w) 1=1),a+w+2,0):=by
 simp only [cr]
 simp only [eE (show a+w≤8 * bs.length by omega),eE (show a+w+1≤8 * bs.length by omega),eE (show a+w+1+1≤8 * bs.length by omega)]
 rw [if_neg hp]
theorem wO {bs:List Nat} {a w:Nat} (h:a+w+2≤8 * bs.length) (hp:aj bs (a+w+1) 1=1) (h2:8 * bs.length<a+w+2+2 * aI w):(cr bs a 0 w).2.2.2=8:=by
 simp only [cr]
 simp only [eE (show a+w≤8 * bs.length by omega),eE (show a+w+1≤8 * bs.length by omega),eE (show a+w+1+1≤8 * bs.length by omega)]
 rw [if_pos hp]
 by_cases c1:a+w+1+1+aI w≤8 * bs.length
 ·simp only [eE c1,uw (show ¬ a+w+1+1+aI w+aI w≤8 * bs.length by omega)]
 ·simp only [uw c1,EC]
theorem ED {bs:List Nat} {a w:Nat} (hp:aj bs (a+w+1) 1=1) (h2:a+w+2+2 * aI w≤8 * bs.length) :
  cr bs a 0 w=(⟨(aj bs a w:Nat),true,(aj bs (a+w+2) (aI w):Nat),((aj bs (a+w+2+aI w) (aI w)+1) % 2 ^ aI w:Nat)⟩,decide (aj bs (a+w) 1=1),a+w+2+2 * aI w,0):=by
 simp only [cr]
 simp only [eE (show a+w≤8 * bs.length by omega),eE (show a+w+1≤8 * bs.length by omega),eE (show a+w+1+1≤8 * bs.length by omega)]
 rw [if_pos hp]
 simp only [eE (show a+w+1+1+aI w≤8 * bs.length by omega),eE (show a+w+1+1+aI w+aI w≤8 * bs.length by omega)]
 refine Prod.ext rfl (Prod.ext rfl (Prod.ext ?_ rfl))
 show a+w+1+1+aI w+aI w=a+w+2+2 * aI w
 omega
def ux (bs:List Nat) (a w:Nat):AV:=.tup (if (cr bs a 0 w).2.2.2=0 then [.agg (cr bs a 0 w).1.v,ab (cr bs a 0 w).2.1,ai (cr bs a 0 w).2.2.1,ab true] else [.agg [ai 0,ab false,ai 0,ai 0],ab false,ai 0,ab false])
theorem rO (bs:List Nat) (a n:Nat):rE (ay bs) a n=aj bs a n:=rfl
set_option maxHeartbeats 2000000 in
theorem adg {w ow pl:Nat} (hw:w=10∨w=16) (F:Hb w ow pl) (bs:List Nat) (hb:bs.length≤8192) {a:Nat} (ha:a≤8 * bs.length) (H:ae) :
  callW P tj [lst true 1 none (bls (ay bs)),ai a,ai w] H=some (ux bs a w,H):=by
 have hxl:=bC bs
 have hbl:=ed (ay bs)
 have hor:=F.r
 have hO:=F.o
 have hPl:=F.p
 have hpe:=F.pe
 have hoe:=F.e
 have G1:=fun H=>uS true (ay bs) (by omega) (a:=a) (n:=w) (by omega) (by omega) a w rfl rfl H
 have G2:=fun H=>uS true (ay bs) (by omega) (a:=a+w+2) (n:=ow) (by omega) (by omega) (a+w+2:Nat) ow rfl rfl H
 have G3:=fun H=>uS true (ay bs) (by omega) (a:=a+w+2+ow) (n:=ow) (by omega) (by omega) (a+w+2+ow:Nat) ow rfl rfl H
 simp only [rO,hxl] at G1 G2 G3
 have w1:IntKind.i64.wrap ((8 * bs.length:Nat) - (a:Int))=((8 * bs.length - a:Nat):Int):=by rw [aq (by omega) (by omega)];omega
 have w2:IntKind.i64.wrap ((w:Int)+2)=((w+2:Nat):Int):=by rw [aq (by omega) (by omega)];omega
 have w3:IntKind.i64.wrap (((a+w:Nat):Int)+1)=((a+w+1:Nat):Int):=by rw [aq (by omega) (by omega)];omega
 have w4:IntKind.i64.wrap (((a+w:Nat):Int)+2)=((a+w+2:Nat):Int):=by rw [aq (by omega) (by omega)];omega
 have w6:IntKind.i64.wrap (2 * (ow:Int))=((2 * ow:Nat):Int):=by rw [aq (by omega) (by omega)];omega
 by_cases c1:8 * bs.length<a+w+2
 ·have c:8 * bs.length - a<w+2:=by omega
  rw [ux,rv c1,if_neg (by simp)]
  obtain ⟨n8,hn8⟩:=Go.A.nm (8 * bs.length)
  rw [hn8] at hxl w1 c
  rw [hxl] at hbl
  obtain ⟨d1,hd1⟩:=Go.A.nm (n8 - a)
  obtain ⟨d2,hd2⟩:=Go.A.nm (w+2)
  rw [hd1] at w1 c
  rw [hd2] at w2 c
  have c':(d1:Int)<d2:=by omega
  generalize bls (ay bs)=L at *
  clear G1 G2 G3 w3 w4 w6 hd1 hd2 hoe hpe
  rw [jd rfl];simp -implicitDefEqProofs [-ac,-AV.one,-ad,tx,hbl,w1,w2,c,c']
 obtain ⟨b1,hb1⟩:∃ b,(ay bs)[a+w]?=some b:=⟨_,zq6 (by omega)⟩
 obtain ⟨b2,hb2⟩:∃ b,(ay bs)[a+w+1]?=some b:=⟨_,zq6 (by omega)⟩
 have n1:=kl hb1
 have n2:=kl hb2
 have q1:=fp hb1 true none .i64
 have q2:=fp hb2 true none .i64
 have v1:=bK (bs:=bs) (a:=a) (n:=w) (by omega)
 have hw16:2 ^ w≤65536:=by rcases hw with rfl | rfl<;>decide
 have ho16:2 ^ ow≤2 ^ 16:=Nat.pow_le_pow_right (by omega) hor.1
 have e16:(2:Nat) ^ 16=65536:=by decide
 rw [if_pos (show a+w≤8 * bs.length by omega)] at G1
 have hd1b:decide (b1.toNat=1)=b1:=by cases b1<;>rfl
 have cc:¬ 8 * bs.length - a<w+2:=by omega
 cases b2 with
 | false =>
  rw [ux,AH (by omega) (by rw [n2];simp),n1]
  simp only [hd1b,if_true,Ms.v]
  obtain ⟨v,hv⟩:=Go.A.nm (aj bs a w)
  rw [hv] at v1 G1
  rw [hv]
  have u1:IntKind.i64.wrap (v:Int)=v:=aq (by omega) (by omega)
  obtain ⟨n8,hn8⟩:=Go.A.nm (8 * bs.length)
  rw [hn8] at hxl w1 cc
  rw [hxl] at hbl
  obtain ⟨d1,hd1⟩:=Go.A.nm (n8 - a)
  obtain ⟨d2,hd2⟩:=Go.A.nm (w+2)
  obtain ⟨a1,ha1⟩:=Go.A.nm (a+w)
  rw [hd1] at w1 cc
  rw [hd2] at w2 cc
  rw [ha1] at G1 w3 w4 q1 q2 ⊢
  obtain ⟨a2,ha2⟩:=Go.A.nm (a1+1)
  obtain ⟨a3,ha3⟩:=Go.A.nm (a1+2)
  rw [ha2] at w3 q2
  rw [ha3] at w4 ⊢
  have cc':¬ (d1:Int)<d2:=by omega
  clear G2 G3 w6 hd1 hd2 hoe hpe n1 n2 hb1 hb2 ha1 ha2 ha3 v1 hv
  generalize bls (ay bs)=L at *
  rw [jd rfl];simp -implicitDefEqProofs [-ac,-AV.one,-ad,tx,hbl,w1,w2,cc,cc',G1,u1,w3,w4,q1,q2]
 | true =>
  have w5:IntKind.i64.wrap ((8 * bs.length:Nat) - ((a+w+2:Nat):Int))=((8 * bs.length - (a+w+2):Nat):Int):=by rw [aq (by omega) (by omega)];omega
  by_cases c2:8 * bs.length<a+w+2+2 * ow
  ·have c:8 * bs.length - (a+w+2)<2 * ow:=by omega
   rw [ux,wO (by omega) (by rw [n2];rfl) (by rw [hoe];exact c2),if_neg (by simp)]
   obtain ⟨v,hv⟩:=Go.A.nm (aj bs a w)
   rw [hv] at v1 G1
   have u1:IntKind.i64.wrap (v:Int)=v:=aq (by omega) (by omega)
   obtain ⟨n8,hn8⟩:=Go.A.nm (8 * bs.length)
   rw [hn8] at hxl w1 cc w5 c
   rw [hxl] at hbl
   obtain ⟨d1,hd1⟩:=Go.A.nm (n8 - a)
   obtain ⟨d2,hd2⟩:=Go.A.nm (w+2)
   obtain ⟨a1,ha1⟩:=Go.A.nm (a+w)
   rw [hd1] at w1 cc
   rw [hd2] at w2 cc
   rw [ha1] at G1 w3 w4 q1 q2 w5 c
   obtain ⟨a2,ha2⟩:=Go.A.nm (a1+1)
   obtain ⟨a3,ha3⟩:=Go.A.nm (a1+2)
   rw [ha2] at w3 q2
   rw [ha3] at w4 w5 c
   obtain ⟨d3,hd3⟩:=Go.A.nm (n8 - a3)
   obtain ⟨d4,hd4⟩:=Go.A.nm (2 * ow)
   rw [hd3] at w5 c
   rw [hd4] at w6 c
   have cc':¬ (d1:Int)<d2:=by omega
   have c':(d3:Int)<d4:=by omega
   clear G2 G3 hd1 hd2 hoe hpe n1 n2 hb1 hb2 ha1 ha2 ha3 v1 hv hd3 hd4
   generalize bls (ay bs)=L at *
   rw [jd rfl];simp -implicitDefEqProofs [-ac,-AV.one,-ad,tx,hbl,w1,w2,cc,cc',G1,u1,w3,w4,q1,q2,hO,w5,w6,c,c']
  ·have cd:¬ 8 * bs.length - (a+w+2)<2 * ow:=by omega
   rw [ux,ED (by rw [n2];rfl) (by rw [hoe];omega),n1,hoe]
   simp only [hd1b,if_true,Ms.v]
   rw [if_pos (by omega)] at G2 G3
   have v2:=bK (bs:=bs) (a:=a+w+2) (n:=ow) (by omega)
   have v3:=bK (bs:=bs) (a:=a+w+2+ow) (n:=ow) (by omega)
   rw [show a+w+2+ow+ow=a+w+2+2 * ow by omega] at G3
   obtain ⟨v,hv⟩:=Go.A.nm (aj bs a w)
   obtain ⟨fv,hfv⟩:=Go.A.nm (aj bs (a+w+2) ow)
   obtain ⟨tv,htv⟩:=Go.A.nm (aj bs (a+w+2+ow) ow)
   rw [hv] at v1 G1
   rw [hfv] at v2 G2
   rw [htv] at v3 G3
   rw [hv,hfv,htv]
   have u1:IntKind.i64.wrap (v:Int)=v:=aq (by omega) (by omega)
   have u2:IntKind.i64.wrap (fv:Int)=fv:=aq (by omega) (by omega)
   have u3:IntKind.i64.wrap (tv:Int)=tv:=aq (by omega) (by omega)
   have u4:IntKind.i64.wrap ((tv:Int)+1)=((tv+1:Nat):Int):=by rw [aq (by omega) (by omega)];omega
   obtain ⟨n8,hn8⟩:=Go.A.nm (8 * bs.length)
   rw [hn8] at hxl w1 cc w5 cd
   rw [hxl] at hbl
   obtain ⟨d1,hd1⟩:=Go.A.nm (n8 - a)
   obtain ⟨d2,hd2⟩:=Go.A.nm (w+2)
   obtain ⟨a1,ha1⟩:=Go.A.nm (a+w)
   rw [hd1] at w1 cc
   rw [hd2] at w2 cc
   rw [ha1] at G1 G2 G3 w3 w4 q1 q2 w5 cd ⊢
   obtain ⟨a2,ha2⟩:=Go.A.nm (a1+1)
   obtain ⟨a3,ha3⟩:=Go.A.nm (a1+2)
   rw [ha2] at w3 q2
   rw [ha3] at G2 G3 w4 w5 cd ⊢
   obtain ⟨d3,hd3⟩:=Go.A.nm (n8 - a3)
   obtain ⟨d4,hd4⟩:=Go.A.nm (2 * ow)
   obtain ⟨a4,ha4⟩:=Go.A.nm (a3+ow)
   rw [hd3] at w5 cd
   rw [hd4] at w6 cd G3 ⊢
   rw [ha4] at G2 G3
   obtain ⟨a5,ha5⟩:=Go.A.nm (a3+d4)
   rw [ha5] at G3 ⊢
   have cc':¬ (d1:Int)<d2:=by omega
   have cd':¬ (d3:Int)<d4:=by omega
   obtain ⟨t1,ht1⟩:=Go.A.nm (tv+1)
   rw [ht1] at u4 ⊢
   by_cases ce:t1=pl
   ·have cm:t1 % 2 ^ ow=0:=by rw [ce,hpe,Nat.mod_self]
    have ce':(t1:Int)=pl:=by omega
    rw [cm]
    clear hd1 hd2 hoe hpe n1 n2 hb1 hb2 ha1 ha2 ha3 v1 hv hd3 hd4 v2 v3 hfv htv ht1 ha4 ha5 cm
    subst ce
    generalize bls (ay bs)=L at *
    rw [jd rfl];simp -implicitDefEqProofs [-ac,-AV.one,-ad,tx,aK,aB,aP,aC,aM,SOpG.reads,SOp.slots,SX.slots,SOp.noL,rdV,av,aJ,aE,eqV,hbl,w1,w2,cc,cc',G1,u1,w3,w4,q1,q2,hO,w5,w6,cd,cd',G2,G3,u2,u3,u4,hPl]
   ·have cm:t1 % 2 ^ ow=t1:=Nat.mod_eq_of_lt (by omega)
    have ce':¬ (t1:Int)=pl:=by omega
    rw [cm]
    clear hd1 hd2 hoe hpe n1 n2 hb1 hb2 ha1 ha2 ha3 v1 hv hd3 hd4 v2 v3 hfv htv ht1 ha4 ha5 cm
    generalize bls (ay bs)=L at *
    rw [jd rfl];simp -implicitDefEqProofs [-ac,-AV.one,-ad,tx,aK,aB,aP,aC,aM,SOpG.reads,SOp.slots,SX.slots,SOp.noL,rdV,av,aJ,aE,eqV,hbl,w1,w2,cc,cc',G1,u1,w3,w4,q1,q2,hO,w5,w6,cd,cd',G2,G3,u2,u3,u4,hPl,ce,ce']
theorem OI (bs:List Nat) (a w:Nat):(cr bs a 0 w).2.2.2=0∨(cr bs a 0 w).2.2.2=8:=by
 by_cases c1:8 * bs.length<a+w+2
 ·exact .inr (rv c1)
 by_cases hp:aj bs (a+w+1) 1=1
 ·by_cases c2:8 * bs.length<a+w+2+2 * aI w
  ·exact .inr (wO (by omega) hp c2)
  ·rw [ED hp (by omega)];exact .inl rfl
 ·rw [AH (by omega) hp];exact .inl rfl
theorem UD (a b c d:AV):FF 3 (.tup [a,b,c,d])=some d:=rfl
def ry (bs:List Nat) (a:Nat) (out:List Ms):Nat × List Ms:=if aj bs a (bY a)=0∧bs.length - (a+bY a) / 8=0 then (0,out) else (3,[])
section
variable {H:ae}
def EE (H:ae) (w:Nat) (bs:List Nat) (ack:Nat) (R:Nat × List Ms) (z:Nat) (σ:List AV) (G:ae):Prop:=
 ∃ (a:Nat) (more:Bool) (out:List Ms),z+out.length=34∧out.length≤32∧a≤8 * bs.length∧dF bs w z a 0 more out=R∧G=H ∧
  σ=L 120 (((((((Tr.full 7).put (ag 1) (ai w)).put (ag 4) (.lbox [ai 0,bc])).put (ag 6) (lst true 1 (some 29) (bls (ay bs)))).put (ag 8) (ai a)).put (ag 10) (.lbox [ai ack,lst true 4 (some 97) (mvs out)])).put (ag 11) (ab more))
def ye (H:ae) (bs:List Nat) (ack:Nat) (R:Nat × List Ms) (e:AExit) (σ:List AV) (G:ae):Prop:=
 G=H∧((e=.exit 0∧∃ (a:Nat) (out:List Ms),a≤8 * bs.length∧R=ry bs a out∧kill [1,11,70] σ=L 120 (((((Tr.full 7).put (ag 4) (.lbox [ai 0,bc])).put (ag 6) (lst true 1 (some 29) (bls (ay bs)))).put (ag 8) (ai a)).put (ag 10) (.lbox [ai ack,lst true 4 (some 97) (mvs out)])))
  ∨ (e=.ret∧R.1≠0∧R.2=[]∧aA F_q18.res σ=some (.tup [.agg [ai 0,bc],ai (R.1:Nat)])))
set_option maxHeartbeats 2000000 in
theorem OJ {w:Nat} (hw:w=10∨w=16) {bs:List Nat} (hb:bs.length≤8192) (hmiss:∀ a,a≤8 * bs.length→∀ H,callW P tj [lst true 1 none (bls (ay bs)),ai a,ai w] H=some (ux bs a w,H))
  (ack:Nat) (R:Nat × List Ms) (z:Nat) (σ:List AV) (G:ae) (hI:EE H w bs ack R z (kill (bu gW) σ) G) :
  Ends (execW P iY (.loop gW) σ G) fun s=>ye H bs ack R s.e s.σ s.H:=by
 refine aX (fun z σ G=>EE H w bs ack R z σ G) (ye H bs ack R) ?_ z σ G hI
 clear hI z σ G
 rintro z σ G ⟨a,more,out,hz,ho,ha,hR,rfl,rfl⟩
 have hlen:=dO out
 obtain ⟨z',rfl⟩:∃ z',z=z'+1:=⟨z - 1,by omega⟩
 rw [dF,if_neg (by simp)] at hR
 cases more with
 | false =>
  rw [if_neg (by simp)] at hR
  have hRt:R=ry bs a out:=hR.symm
  clear hR
  simp -implicitDefEqProofs [-ac,-AV.one,-ad,dA,gW]
  exact ⟨rfl,.inl ⟨rfl,a,out,ha,hRt,by simp⟩⟩
 | true =>
  rw [if_pos rfl] at hR
  by_cases h32:out.length=32
  ·have h32':(out.length:Int)=32:=by omega
   rw [if_pos h32] at hR
   subst hR
   simp -implicitDefEqProofs [-ac,-AV.one,-ad,dA,gW,h32',hlen]
   exact ⟨rfl,.inr ⟨rfl,by simp,rfl,by simp [F_q18]⟩⟩
  have h32':¬ (out.length:Int)=32:=by omega
  rw [if_neg h32] at hR
  have k1:=hmiss a ha
  have hle:=uu ha 0 w
  have h8:=OI bs a w
  rw [ux] at k1
  obtain ⟨⟨M,mo,a1,e1⟩,hm⟩:∃ t,cr bs a 0 w=t:=⟨_,rfl⟩
  rw [hm] at k1 hle hR h8
  simp only at k1 hle hR h8
  rcases h8 with rfl | rfl
  ·rw [if_pos rfl] at k1
   have k2:=fun H=>EA hw M H
   have hap:=fun σ H=>jV (m:=P.md iY) (d:=97) (sz:=4) (bytes:=32) (l:=mvs out) (l':=[M.v]) (x:=.vs 4 (some 96) [M.v]) (O8 97) (fun H=>cR H 4 (some 96) [M.v]) (by rw [hlen];simp [aw];omega) (by rw [hlen];simp [aw];omega) σ H
   rw [← uv] at hap
   have hinv:∀ σ,σ=L 120 (((((((Tr.full 7).put (ag 1) (ai w)).put (ag 4) (.lbox [ai 0,bc])).put (ag 6) (lst true 1 (some 29) (bls (ay bs)))).put (ag 8) (ai a1)).put (ag 10) (.lbox [ai ack,lst true 4 (some 97) (mvs (out++[M]))])).put (ag 11) (ab mo))→dF bs w z' a1 0 mo (out++[M])=R→∃ m,m<z'+1∧EE G w bs ack R m σ G:=fun σ h1 h2=>⟨z',by omega,a1,mo,out++[M],by simp;omega,by simp;omega,hle,h2,rfl,h1⟩
   obtain ⟨mv,hmv⟩:=Go.A.nm (bj M (qW w) (rW w))
   rw [hmv] at k2 hR
   generalize bls (ay bs)=L at *
   generalize mvs (out++[M])=lo at *
   generalize dF bs w z' a1 0 mo (out++[M])=R2 at *
   obtain ⟨sn,pa,fr,to⟩:=M
   simp only [Ms.v] at k1 k2 hap
   clear hm hmiss
   cases mv with
   | false =>
    rw [if_pos (by simp)] at hR
    subst hR
    simp -implicitDefEqProofs [-ac,-AV.one,-ad,dA,gW,h32',hlen,UD,k1,k2]
    exact ⟨rfl,.inr ⟨rfl,by simp,rfl,by simp [F_q18]⟩⟩
   | true =>
    rw [if_neg (by simp)] at hR
    simp -implicitDefEqProofs [-ac,-AV.one,-ad,dA,gW,h32',hlen,UD,k1,k2,hap]
    exact hinv _ (by simp) hR
  ·rw [if_neg (by simp)] at k1
   rw [if_neg (by simp)] at hR
   obtain ⟨z'',rfl⟩:∃ z'',z'=z''+1:=⟨z' - 1,by omega⟩
   rw [dF,if_pos (by simp)] at hR
   subst hR
   generalize bls (ay bs)=L at *
   clear hm hmiss
   simp -implicitDefEqProofs [-ac,-AV.one,-ad,dA,gW,h32',hlen,UD,k1]
   exact ⟨rfl,.inr ⟨rfl,by simp,rfl,by simp [F_q18]⟩⟩
def EF (H:ae) (bs:List Nat) (a:Nat) (bx:List AV) (z:Nat) (σ:List AV) (G:ae):Prop:=
 ∃ i:Nat,i+z=8 * bs.length∧a≤i∧aj bs a (i - a)=0∧G=H∧σ=L 120 (((((Tr.full 7).put (ag 4) (.lbox [ai 0,bc])).put (ag 6) (lst true 1 (some 29) (bls (ay bs)))).put (ag 10) (.lbox bx)).put (ag 16) (ai i))
def qv (H:ae) (bs:List Nat) (a:Nat) (bx:List AV) (e:AExit) (σ:List AV) (G:ae):Prop:=
 G=H∧((e=.exit 2∧aj bs a (8 * bs.length - a)=0∧kill [6,16,108,109,110,111] σ=L 120 (((Tr.full 7).put (ag 4) (.lbox [ai 0,bc])).put (ag 10) (.lbox bx)))∨(e=.ret∧aj bs a (8 * bs.length - a)≠0∧aA F_q18.res σ=some (.tup [.agg [ai 0,bc],ai 3])))
theorem OK {bs:List Nat} (hb:bs.length≤8192) (a:Nat) (bx:List AV) (z:Nat) (σ:List AV) (G:ae) (hI:EF H bs a bx z (kill (bu ju) σ) G) :
  Ends (execW P iY (.loop ju) σ G) fun s=>qv H bs a bx s.e s.σ s.H:=by
 refine aX (fun z σ G=>EF H bs a bx z σ G) (qv H bs a bx) ?_ z σ G hI
 clear hI z σ G
 rintro z σ G ⟨i,hz,hai,hn,rfl,rfl⟩
 have hxl:=bC bs
 have hbl:=ed (ay bs)
 by_cases hi:i<8 * bs.length
 ·obtain ⟨b1,hb1⟩:∃ b,(ay bs)[i]?=some b:=⟨_,zq6 (by omega)⟩
  have q1:=fp hb1 true (some 29) .i64
  have hs:=fW (bs:=bs) (a:=a) (n:=i - a) (b:=b1) (by rw [show a+(i - a)=i by omega];exact hb1)
  rw [hn,show i - a+1=(i+1) - a by omega] at hs
  have w1:IntKind.i64.wrap ((i:Int)+1)=((i+1:Nat):Int):=by rw [aq (by omega) (by omega)];omega
  obtain ⟨i1,hi1⟩:=Go.A.nm (i+1)
  rw [hi1] at hs w1
  cases b1 with
  | true =>
   have hbad:aj bs a (8 * bs.length - a)≠0:=t8 (j:=i1 - a) (by omega) (by rw [hs];simp)
   obtain ⟨n8,hn8⟩:=Go.A.nm (8 * bs.length)
   rw [hn8] at hxl hi
   rw [hxl] at hbl
   have hi':(i:Int)<n8:=by omega
   clear hs hn hb1
   generalize bls (ay bs)=L at *
   simp -implicitDefEqProofs [-ac,-AV.one,-ad,dA,ju,hbl,hi,hi',q1]
   exact ⟨rfl,.inr ⟨rfl,hbad,by simp [F_q18]⟩⟩
  | false =>
   have hinv:∀ σ,σ=L 120 (((((Tr.full 7).put (ag 4) (.lbox [ai 0,bc])).put (ag 6) (lst true 1 (some 29) (bls (ay bs)))).put (ag 10) (.lbox bx)).put (ag 16) (ai i1))→∃ m,m<z∧EF G bs a bx m σ G:=fun σ h=>⟨z - 1,by omega,i1,by omega,by omega,by rw [hs];rfl,rfl,h⟩
   obtain ⟨n8,hn8⟩:=Go.A.nm (8 * bs.length)
   rw [hn8] at hxl hi
   rw [hxl] at hbl
   have hi':(i:Int)<n8:=by omega
   clear hs hn hb1
   generalize bls (ay bs)=L at *
   simp -implicitDefEqProofs [-ac,-AV.one,-ad,dA,ju,hbl,hi,hi',q1,w1]
   exact hinv _ (by simp)
 ·have hg:aj bs a (8 * bs.length - a)=0:=by rw [show 8 * bs.length - a=i - a by omega];exact hn
  obtain ⟨n8,hn8⟩:=Go.A.nm (8 * bs.length)
  have hfin:qv G bs a bx (.exit 2)=qv G bs a bx (.exit 2):=rfl
  rw [hn8] at hxl hi
  rw [hxl] at hbl
  have hi':¬ (i:Int)<n8:=by omega
  generalize bls (ay bs)=L at *
  simp -implicitDefEqProofs [-ac,-AV.one,-ad,dA,ju,hbl,hi,hi']
  exact ⟨rfl,.inl ⟨rfl,hg,by simp⟩⟩
end
theorem OL {bs:List Nat} {w:Nat} (hw:w=10∨w=16) (h0:bs.length≠0) (h1:aj bs 0 1=0) (h3:aj bs 1 3=0) (hs:8 * bs.length<w+5):bI bs w=(8,0,[]):=by
 rw [bI,if_pos (by omega),if_neg h0,if_neg (not_not_intro h1),if_neg (not_not_intro h3)]
 simp only [Int.toNat_natCast]
 rw [eE (show 0+4≤8 * bs.length by omega)]
 by_cases c1:0+4+w≤8 * bs.length
 ·simp only [eE c1,uw (show ¬ 0+4+w+1≤8 * bs.length by omega)]
  rw [dF,if_pos (by simp)];rfl
 ·simp only [uw c1,EC]
  rw [dF,if_pos (by simp)];rfl
theorem OM {bs:List Nat} {w:Nat} (hw:w=10∨w=16) (h0:bs.length≠0) (h1:aj bs 0 1=0) (h3:aj bs 1 3=0) (hs:¬ 8 * bs.length<w+5) :
  bI bs w=((dF bs w 34 (4+w+1) 0 (decide (aj bs (4+w) 1=1)) []).1,(if (dF bs w 34 (4+w+1) 0 (decide (aj bs (4+w) 1=1)) []).1=0 then aj bs 4 w else 0),(dF bs w 34 (4+w+1) 0 (decide (aj bs (4+w) 1=1)) []).2):=by
 rw [bI,if_pos (by omega),if_neg h0,if_neg (not_not_intro h1),if_neg (not_not_intro h3)]
 simp only [Int.toNat_natCast]
 rw [eE (show 0+4≤8 * bs.length by omega)]
 simp only [Nat.zero_add]
 simp only [eE (show 4+w≤8 * bs.length by omega),eE (show 4+w+1≤8 * bs.length by omega)]
theorem PG {bs:List Nat} (h:bs.length≠0):∃ b0 b1 b2 b3 X,ay bs=b0 :: b1 :: b2 :: b3 :: X:=by
 have hl:=bC bs
 match hX:ay bs with
 | b0 :: b1 :: b2 :: b3 :: X=>exact ⟨b0,b1,b2,b3,X,rfl⟩
 | [] | [_] | [_,_] | [_,_,_]=>rw [hX] at hl;simp at hl;omega
theorem UE (a b c:Bool):num [a,b,c]=0 ↔ a=false∧b=false∧c=false:=by cases a<;>cases b<;>cases c<;>decide
def uA (H:ae) (bs:List Nat) (w:Nat) (e:AExit) (σ:List AV) (G:ae):Prop:=
 e=.ret∧G=H∧∃ c,aA F_q18.res σ=some (.tup [.agg [ai ((bI bs w).2.1:Nat),lst true 4 c (mvs (bI bs w).2.2)],ai ((bI bs w).1:Nat)])
set_option maxHeartbeats 2000000 in
theorem Ln {w ow pl:Nat} (hw:w=10∨w=16) (F:Hb w ow pl) (b:Bs) (hb:b.2.length≤8192) (hby:bm b.2) (H:ae) :
  callW P iY [bv b,ai w] H=some (fG b.2 w,H):=by
 have hwi:(w:Int)=10∨(w:Int)=16:=by omega
 have hlen:=cz b
 have hB:=fun H=>As b hb hby H
 have hmiss:=fun a (ha:a≤8 * b.2.length) (H:ae)=>adg hw F b.2 hb ha H
 rw [cH]
 refine call_post 7 120 rfl (rfl:P.T iY=some F_q18) rfl (aF rfl) (uA H b.2 w) ?_ ?_
 ·rintro e σ G ⟨rfl,rfl,c,h2⟩
  refine ⟨rfl,_,h2,by simp,?_⟩
  simp [fG]
 obtain ⟨w10,w16⟩:(decide ((w:Int)=10)=decide (w=10))∧(decide ((w:Int)=16)=decide (w=16)):=⟨decide_eq_decide.2 (by omega),decide_eq_decide.2 (by omega)⟩
 by_cases h0:b.2.length=0
 ·have h0':(b.2.length:Int)=0:=by omega
  have hR:bI b.2 w=(8,0,[]):=by rw [bI,if_pos hwi,if_pos h0]
  rw [h0] at hlen
  rcases hw with rfl | rfl
  ·rw [F_q18];simp -implicitDefEqProofs [-ac,-AV.one,-ad,dA,hlen]
   exact ⟨rfl,rfl,none,by rw [hR];simp [F_q18,mvs]⟩
  ·rw [F_q18];simp -implicitDefEqProofs [-ac,-AV.one,-ad,dA,hlen]
   exact ⟨rfl,rfl,none,by rw [hR];simp [F_q18,mvs]⟩
 have h0':¬ (b.2.length:Int)=0:=by omega
 obtain ⟨ln,hln⟩:=Go.A.nm (b.2.length)
 obtain ⟨b0,b1,b2,b3,X,hX⟩:=PG h0
 have n0:aj b.2 0 1=num [b0]:=by rw [aj,hX];rfl
 have n1:aj b.2 1 3=num [b1,b2,b3]:=by rw [aj,hX];rfl
 have q0:=fp (l:=ay b.2) (i:=0) (b:=b0) (by rw [hX];rfl) true (some 29) .i64
 have q1:=fp (l:=ay b.2) (i:=1) (b:=b1) (by rw [hX];rfl) true (some 29) .i64
 have q2:=fp (l:=ay b.2) (i:=2) (b:=b2) (by rw [hX];rfl) true (some 29) .i64
 have q3:=fp (l:=ay b.2) (i:=3) (b:=b3) (by rw [hX];rfl) true (some 29) .i64
 replace q0:bW 1 none (lst true 1 (some 29) (bls (ay b.2))) (ai 0)=some (.vp [ab b0] 0):=q0
 replace q1:bW 1 none (lst true 1 (some 29) (bls (ay b.2))) (ai 1)=some (.vp [ab b1] 0):=q1
 replace q2:bW 1 none (lst true 1 (some 29) (bls (ay b.2))) (ai 2)=some (.vp [ab b2] 0):=q2
 replace q3:bW 1 none (lst true 1 (some 29) (bls (ay b.2))) (ai 3)=some (.vp [ab b3] 0):=q3
 have hln0:¬ ln=0:=by omega
 have hln0':¬ (ln:Int)=0:=by omega
 rw [kU] at n0
 cases b0 with
 | true =>
  have hR:bI b.2 w=(4,0,[]):=by rw [bI,if_pos hwi,if_neg h0,if_pos (by rw [n0];simp)]
  rw [hln] at hlen
  generalize bls (ay b.2)=L at *
  clear hmiss
  rcases hw with rfl | rfl
  ·rw [F_q18];simp -implicitDefEqProofs [-ac,-AV.one,-ad,dA,hlen,hln0,hln0',hB,q0]
   exact ⟨rfl,rfl,none,by rw [hR];simp [F_q18,mvs]⟩
  ·rw [F_q18];simp -implicitDefEqProofs [-ac,-AV.one,-ad,dA,hlen,hln0,hln0',hB,q0]
   exact ⟨rfl,rfl,none,by rw [hR];simp [F_q18,mvs]⟩
 | false =>
 by_cases h3:num [b1,b2,b3]=0
 case neg =>
  have hR:bI b.2 w=(3,0,[]):=by rw [bI,if_pos hwi,if_neg h0,if_neg (by rw [n0];simp),if_pos (by rw [n1];exact h3)]
  rw [hln] at hlen
  generalize bls (ay b.2)=L at *
  clear hmiss n1 hX
  rw [UE] at h3
  have fin:∀ σ G,G=H→aA F_q18.res σ=some (.tup [.agg [ai 0,bc],ai 3])→uA H b.2 w .ret σ G:=fun σ G h1 h2=>⟨rfl,h1,none,by rw [hR];exact h2⟩
  have hw':=hw
  cases b1 with
  | true =>
   rcases hw with rfl | rfl
   ·rw [F_q18];simp -implicitDefEqProofs [-ac,-AV.one,-ad,dA,hlen,hln0,hln0',hB,q0,q1]
    exact fin _ _ rfl (by simp [F_q18])
   ·rw [F_q18];simp -implicitDefEqProofs [-ac,-AV.one,-ad,dA,hlen,hln0,hln0',hB,q0,q1]
    exact fin _ _ rfl (by simp [F_q18])
  | false =>
   cases b2 with
   | true =>
    rcases hw with rfl | rfl
    ·rw [F_q18];simp -implicitDefEqProofs [-ac,-AV.one,-ad,dA,hlen,hln0,hln0',hB,q0,q1,q2]
     exact fin _ _ rfl (by simp [F_q18])
    ·rw [F_q18];simp -implicitDefEqProofs [-ac,-AV.one,-ad,dA,hlen,hln0,hln0',hB,q0,q1,q2]
     exact fin _ _ rfl (by simp [F_q18])
   | false =>
    cases b3 with
    | true =>
     rcases hw with rfl | rfl
     ·rw [F_q18];simp -implicitDefEqProofs [-ac,-AV.one,-ad,dA,hlen,hln0,hln0',hB,q0,q1,q2,q3]
      exact fin _ _ rfl (by simp [F_q18])
     ·rw [F_q18];simp -implicitDefEqProofs [-ac,-AV.one,-ad,dA,hlen,hln0,hln0',hB,q0,q1,q2,q3]
      exact fin _ _ rfl (by simp [F_q18])
    | false=>exact (h3 ⟨rfl,rfl,rfl⟩).elim
 have m0:aj b.2 0 1=0:=by rw [n0];rfl
 have m1:aj b.2 1 3=0:=by rw [n1];exact h3
 rw [UE] at h3
 obtain ⟨rfl,rfl,rfl⟩:=h3
 have hxl:=bC b.2
 have hbl:=ed (ay b.2)
 rw [hxl] at hbl
 have w5:IntKind.i64.wrap ((w:Int)+5)=((w+5:Nat):Int):=by rw [aq (by omega) (by omega)];omega
 by_cases hs:8 * b.2.length<w+5
 ·have hR:=OL hw h0 m0 m1 hs
  have fin:∀ σ G,G=H→aA F_q18.res σ=some (.tup [.agg [ai 0,bc],ai 8])→uA H b.2 w .ret σ G:=fun σ G h1 h2=>⟨rfl,h1,none,by rw [hR];exact h2⟩
  rw [hln] at hlen hbl hs
  obtain ⟨n8,hn8⟩:=Go.A.nm (8 * ln)
  rw [hn8] at hbl hs
  generalize bls (ay b.2)=L at *
  clear hmiss n1 hX
  rcases hw with rfl | rfl
  ·have hs':(n8:Int)<15:=by omega
   replace w5:IntKind.i64.wrap 15=15:=rfl
   rw [F_q18];simp -implicitDefEqProofs [-ac,-AV.one,-ad,dA,hlen,hln0,hln0',hB,q0,q1,q2,q3,hbl,w5,hs,hs']
   exact fin _ _ rfl (by simp [F_q18])
  ·have hs':(n8:Int)<21:=by omega
   replace w5:IntKind.i64.wrap 21=21:=rfl
   rw [F_q18];simp -implicitDefEqProofs [-ac,-AV.one,-ad,dA,hlen,hln0,hln0',hB,q0,q1,q2,q3,hbl,w5,hs,hs']
   exact fin _ _ rfl (by simp [F_q18])
 have hR:=OM hw h0 m0 m1 hs
 have hG:=fun H=>uS true (ay b.2) (by omega) (a:=4) (n:=w) (by omega) (by omega) 4 w rfl rfl H
 simp only [rO,hxl] at hG
 rw [if_pos (show 4+w≤8 * b.2.length by omega)] at hG
 have v1:=bK (bs:=b.2) (a:=4) (n:=w) (by omega)
 have hw16:2 ^ w≤65536:=by rcases hw with rfl | rfl<;>decide
 obtain ⟨mb,hmb⟩:∃ x,(ay b.2)[4+w]?=some x:=⟨_,zq6 (by omega)⟩
 have nm:=kl hmb
 have qm:=fp hmb true (some 29) .i64
 have hdb:decide (mb.toNat=1)=mb:=by cases mb<;>rfl
 rw [nm,hdb] at hR
 obtain ⟨v,hv⟩:=Go.A.nm (aj b.2 4 w)
 rw [hv] at v1 hG hR
 have u1:IntKind.i64.wrap (v:Int)=v:=aq (by omega) (by omega)
 obtain ⟨R,hRR⟩:=Go.A.nm (dF b.2 w 34 (4+w+1) 0 mb [])
 rw [hRR] at hR
 have hl1:=fun z σ G hI=>OJ (H:=H) hw hb hmiss v R z σ G hI
 have hinv:∀ σ,σ=L 120 (((((((Tr.full 7).put (ag 1) (ai w)).put (ag 4) (.lbox [ai 0,bc])).put (ag 6) (lst true 1 (some 29) (bls (ay b.2)))).put (ag 8) (ai (4+w+1:Nat))).put (ag 10) (.lbox [ai v,bc])).put (ag 11) (ab mb))→EE H w b.2 v R 34 σ H:=fun σ h=>⟨4+w+1,mb,[],by simp,by simp,by omega,hRR,rfl,h⟩
 have hl2:=fun a bx z σ G hI=>OK (H:=H) hb a bx z σ G hI
 have hinv2:∀ a bx σ,a≤8 * b.2.length→σ=L 120 (((((Tr.full 7).put (ag 4) (.lbox [ai 0,bc])).put (ag 6) (lst true 1 (some 29) (bls (ay b.2)))).put (ag 10) (.lbox bx)).put (ag 16) (ai a))→EF H b.2 a bx (8 * b.2.length - a) σ H:=fun a bx σ h1 h2=>⟨a,by omega,by omega,by rw [Nat.sub_self];simp [aj,num],rfl,h2⟩
 have finE:∀ σ G,G=H→R.1≠0→R.2=[]→aA F_q18.res σ=some (.tup [.agg [ai 0,bc],ai (R.1:Nat)])→uA H b.2 w .ret σ G:=fun σ G h1 h2 h3 h4=>⟨rfl,h1,none,by rw [hR,if_neg h2,h3];exact h4⟩
 have finO:∀ σ G out,G=H→R=(0,out)→aA F_q18.res σ=some (.tup [.agg [ai v,lst true 4 (some 97) (mvs out)],ai 0])→uA H b.2 w .ret σ G:=fun σ G out h1 h2 h4=>⟨rfl,h1,some 97,by rw [hR,h2,if_pos rfl];exact h4⟩
 have hpad:∀ a,a≤8 * b.2.length→(7<8 * b.2.length - a→¬ (b.2.length - (a+bY a) / 8=0))∧(¬ 7<8 * b.2.length - a→b.2.length - (a+bY a) / 8=0∧bY a=8 * b.2.length - a):=fun a ha=>by
  simp only [bY];constructor<;>intro h<;>omega
 rcases hw with rfl | rfl
 ·replace hG:∀ H,callW P eV [lst true 1 none (bls (ay b.2)),ai 4,ai 10] H=some (.tup [.c (.int .u64 v),ai 14,ai 0],H):=hG
  replace qm:bW 1 none (lst true 1 (some 29) (bls (ay b.2))) (ai 14)=some (.vp [ab mb] 0):=qm
  have w6:IntKind.i64.wrap 15=15:=rfl
  replace w5:IntKind.i64.wrap 15=15:=rfl
  rw [hln] at hlen
  obtain ⟨n8,hn8⟩:=Go.A.nm (8 * b.2.length)
  rw [hn8] at hbl hs hinv2 hpad
  have hs':¬ (n8:Int)<15:=by omega
  have hsn:¬ n8<15:=by omega
  clear hmiss n1 hX n0 hmb nm hRR hs hR
  rw [F_q18];simp -implicitDefEqProofs [-ac,-AV.one,-ad,dA,hlen,hln0,hln0',hB,q0,q1,q2,q3,hbl,w5,hs',hsn,hG,u1,w6,qm]
  repeat rw [Option.bind_assoc]
  refine Ends.block (P:=ye H b.2 v R) (hl1 34 _ _ (hinv _ (by simp [gW]))) ?_
  rintro e σ1 G1 ⟨hGG,⟨rfl,a,out,hale,hRt,c2⟩ | ⟨rfl,c1,c2,c3⟩⟩
  ·subst hGG
   rw [hn8] at hale
   obtain ⟨p1,p2⟩:=hpad a hale
   have wd:IntKind.i64.wrap ((n8:Int) - a)=((n8 - a:Nat):Int):=by rw [aq (by omega) (by omega)];omega
   obtain ⟨d,hd⟩:=Go.A.nm (n8 - a)
   rw [hd] at wd p1 p2
   by_cases c7:7<d
   ·have c7':(7:Int)<d:=by omega
    have c7'':(d:Int) > 7:=by omega
    have hR3:R=(3,[]):=by rw [hRt,ry,if_neg (fun h=>p1 c7 h.2)]
    clear hl1 hinv hl2 hinv2
    simp -implicitDefEqProofs [-ac,-AV.one,-ad,dA,c2,hbl,wd,c7,c7',c7'']
    exact finE _ _ rfl (by rw [hR3];simp) (by rw [hR3]) (by rw [hR3];simp [F_q18])
   ·have c7':¬ (7:Int)<d:=by omega
    have c7'':¬ (d:Int) > 7:=by omega
    obtain ⟨p3,p4⟩:=p2 c7
    simp -implicitDefEqProofs [-ac,-AV.one,-ad,dA,c2,hbl,wd,c7,c7',c7'']
    repeat rw [Option.bind_assoc]
    refine Ends.block (P:=qv G1 b.2 a [ai v,lst true 4 (some 97) (mvs out)]) (hl2 a _ _ _ _ (hinv2 a _ _ hale (by simp [ju]))) ?_
    rintro e σ2 G2 ⟨hGG,⟨rfl,d1,d2⟩ | ⟨rfl,d1,d2⟩⟩
    ·subst hGG
     rw [hn8,hd] at d1
     have hR0:R=(0,out):=by rw [hRt,ry,if_pos ⟨by rw [p4];exact d1,p3⟩]
     simp -implicitDefEqProofs [-ac,-AV.one,-ad,dA,d2]
     exact finO _ _ out rfl hR0 (by simp [F_q18])
    ·rw [hn8,hd] at d1
     have hR3:R=(3,[]):=by rw [hRt,ry,if_neg (fun h=>d1 (by rw [← p4];exact h.1))]
     exact ⟨_,rfl,finE _ _ hGG (by rw [hR3];simp) (by rw [hR3]) (by rw [hR3];exact d2)⟩
  ·exact ⟨_,rfl,finE _ _ hGG c1 c2 c3⟩
 ·replace hG:∀ H,callW P eV [lst true 1 none (bls (ay b.2)),ai 4,ai 16] H=some (.tup [.c (.int .u64 v),ai 20,ai 0],H):=hG
  replace qm:bW 1 none (lst true 1 (some 29) (bls (ay b.2))) (ai 20)=some (.vp [ab mb] 0):=qm
  have w6:IntKind.i64.wrap 21=21:=rfl
  replace w5:IntKind.i64.wrap 21=21:=rfl
  rw [hln] at hlen
  obtain ⟨n8,hn8⟩:=Go.A.nm (8 * b.2.length)
  rw [hn8] at hbl hs hinv2 hpad
  have hs':¬ (n8:Int)<21:=by omega
  have hsn:¬ n8<21:=by omega
  clear hmiss n1 hX n0 hmb nm hRR hs hR
  rw [F_q18];simp -implicitDefEqProofs [-ac,-AV.one,-ad,dA,hlen,hln0,hln0',hB,q0,q1,q2,q3,hbl,w5,hs',hsn,hG,u1,w6,qm]
  repeat rw [Option.bind_assoc]
  refine Ends.block (P:=ye H b.2 v R) (hl1 34 _ _ (hinv _ (by simp [gW]))) ?_
  rintro e σ1 G1 ⟨hGG,⟨rfl,a,out,hale,hRt,c2⟩ | ⟨rfl,c1,c2,c3⟩⟩
  ·subst hGG
   rw [hn8] at hale
   obtain ⟨p1,p2⟩:=hpad a hale
   have wd:IntKind.i64.wrap ((n8:Int) - a)=((n8 - a:Nat):Int):=by rw [aq (by omega) (by omega)];omega
   obtain ⟨d,hd⟩:=Go.A.nm (n8 - a)
   rw [hd] at wd p1 p2
   by_cases c7:7<d
   ·have c7':(7:Int)<d:=by omega
    have c7'':(d:Int) > 7:=by omega
    have hR3:R=(3,[]):=by rw [hRt,ry,if_neg (fun h=>p1 c7 h.2)]
    clear hl1 hinv hl2 hinv2
    simp -implicitDefEqProofs [-ac,-AV.one,-ad,dA,c2,hbl,wd,c7,c7',c7'']
    exact finE _ _ rfl (by rw [hR3];simp) (by rw [hR3]) (by rw [hR3];simp [F_q18])
   ·have c7':¬ (7:Int)<d:=by omega
    have c7'':¬ (d:Int) > 7:=by omega
    obtain ⟨p3,p4⟩:=p2 c7
    simp -implicitDefEqProofs [-ac,-AV.one,-ad,dA,c2,hbl,wd,c7,c7',c7'']
    repeat rw [Option.bind_assoc]
    refine Ends.block (P:=qv G1 b.2 a [ai v,lst true 4 (some 97) (mvs out)]) (hl2 a _ _ _ _ (hinv2 a _ _ hale (by simp [ju]))) ?_
    rintro e σ2 G2 ⟨hGG,⟨rfl,d1,d2⟩ | ⟨rfl,d1,d2⟩⟩
    ·subst hGG
     rw [hn8,hd] at d1
     have hR0:R=(0,out):=by rw [hRt,ry,if_pos ⟨by rw [p4];exact d1,p3⟩]
     simp -implicitDefEqProofs [-ac,-AV.one,-ad,dA,d2]
     exact finO _ _ out rfl hR0 (by simp [F_q18])
    ·rw [hn8,hd] at d1
     have hR3:R=(3,[]):=by rw [hRt,ry,if_neg (fun h=>d1 (by rw [← p4];exact h.1))]
     exact ⟨_,rfl,finE _ _ hGG (by rw [hR3];simp) (by rw [hR3]) (by rw [hR3];exact d2)⟩
  ·exact ⟨_,rfl,finE _ _ hGG c1 c2 c3⟩
theorem Dk (b:Bs) (hb:b.2.length≤8192) (hby:bm b.2) (w:Int) (H:ae):callW P iY [bv b,ai w] H=some (fG b.2 w,H):=by
 by_cases h10:w=10
 ·subst h10;exact Ln (w:=10) (.inl rfl) PE b hb hby H
 by_cases h16:w=16
 ·subst h16;exact Ln (w:=16) (.inr rfl) PF b hb hby H
 have hR:bI b.2 w=(9,0,[]):=by rw [bI,if_neg (by omega)]
 rw [fG,hR]
 clear hR hby
 rw [Ct rfl];simp -implicitDefEqProofs [-ac,-AV.one,-ad,dA,h10,h16,mvs]
theorem uB (d:List Nat) (more:Bool):mt d more 11=fC d more:=by
 cases more with
 | false=>rw [wC,fC,if_neg (by simp)]
 | true =>
  rw [fC,if_pos rfl]
  by_cases he:(aO d 11).2=0
  ·obtain ⟨o1,o2,o3⟩:=fP he
   have hs:(aO d 11).1 * 12≤8 * d.length:=by
    first | omega | (simp only [aS] at *;split at *<;>omega)
   have hsm:=mB hs
   rw [if_pos he,rk (List.any_eq_false.2 fun n hn=>by have:=hsm n hn;simp;omega) he]
  ·rw [if_neg he,mt,if_pos rfl,if_neg he]
theorem rz {d l:List Nat} (h:(aV d l).1≠0):(aV d l).2=[]:=by
 unfold aV at h ⊢
 split
 ·rfl
 ·rename_i hh
  rw [if_neg hh] at h
  cases hc:eP d l with
  | none=>rfl
  | some ff=>rw [hc] at h;simp at h
theorem wP {d:List Nat} {m:Bool} (h:(fC d m).1≠0):(fC d m).2=[]:=by
 unfold fC at h ⊢
 split
 ·rename_i hm
  rw [if_pos hm] at h
  split
  ·rename_i he
   rw [if_pos he] at h
   exact rz h
  ·rfl
 ·rename_i hm
  rw [if_neg hm] at h
  exact rz h
def nY (H:ae) (bs:List Nat) (w:Int) (e:AExit) (σ:List AV) (G:ae):Prop:=
 e=.ret∧G=H∧∃ out:List Bs,bb out=(bR bs w).2∧aA F_q17.res σ=some (bZ bs w (lst true 1 none (bvs out)))
theorem mD {bs:List Nat} {w:Int} {e:Nat} (h:bR bs w=(e,[])) (he:e≠0) (f:AV):bZ bs w f=.tup [.agg [ai 0,ai 0,bc],ai (e:Nat)]:=by
 rw [bZ,h,if_neg he]
section
variable {H:ae}
def PH (H:ae) (b:Bs) (X:List (List AV)) (z:Nat) (σ:List AV) (G:ae):Prop:=
 G=H∧σ=L 92 (((((((Tr.full 7).put (ag 0) (bv b)).put (ag 1) (ai 5)).put (ag 4) (.lbox [ai 0,ai 0,bc])).put (ag 6) (lst true 1 (some 38) X)).put (ag 7) (ai 0)).put (ag 8) (ai 0))
def Dl (H:ae) (b:Bs) (X:List (List AV)) (e:AExit) (σ:List AV) (G:ae):Prop:=
 G=H∧e=.exit 0∧kill [8,39,40,41,42,43,44] σ=L 92 ((((((Tr.full 7).put (ag 0) (bv b)).put (ag 1) (ai 5)).put (ag 4) (.lbox [ai 0,ai 0,bc])).put (ag 6) (lst true 1 (some 38) X)).put (ag 7) (ai 0))
theorem UF (b:Bs) (X:List (List AV)) (z:Nat) (σ:List AV) (G:ae) (hI:PH H b X z (kill (bu gp) σ) G) :
  Ends (execW P jW (.loop gp) σ G) fun s=>Dl H b X s.e s.σ s.H:=by
 refine aX (fun z σ G=>PH H b X z σ G) (Dl H b X) ?_ z σ G hI
 clear hI z σ G
 rintro z σ G ⟨rfl,rfl⟩
 simp -implicitDefEqProofs [-ac,-AV.one,-ad,ij,gp]
 exact ⟨rfl,rfl,by simp⟩
def yf (H:ae) (b:Bs) (X:List Bool) (z:Nat) (σ:List AV) (G:ae):Prop:=
 ∃ (i at_:Nat),i+z=3∧(0<i→at_=3)∧(∀ j,j<i→X[j]?=some false)∧G=H∧σ=L 92 (((((((Tr.full 7).put (ag 0) (bv b)).put (ag 1) (ai 10)).put (ag 4) (.lbox [ai 0,ai 0,bc])).put (ag 6) (lst true 1 (some 38) (bls X))).put (ag 7) (ai at_)).put (ag 8) (ai i))
def yg (H:ae) (b:Bs) (X:List Bool) (e:AExit) (σ:List AV) (G:ae):Prop:=
 G=H∧((e=.exit 0∧(∀ j,j<3→X[j]?=some false)∧kill [8,39,40,41,42,43,44] σ=L 92 ((((((Tr.full 7).put (ag 0) (bv b)).put (ag 1) (ai 10)).put (ag 4) (.lbox [ai 0,ai 0,bc])).put (ag 6) (lst true 1 (some 38) (bls X))).put (ag 7) (ai 3)))
  ∨ (e=.ret∧(∃ j,j<3∧X[j]?=some true)∧aA F_q17.res σ=some (.tup [.agg [ai 0,ai 0,bc],ai 3])))
theorem ON (b:Bs) {X:List Bool} (hX:3≤X.length) (z:Nat) (σ:List AV) (G:ae) (hI:yf H b X z (kill (bu gp) σ) G) :
  Ends (execW P jW (.loop gp) σ G) fun s=>yg H b X s.e s.σ s.H:=by
 refine aX (fun z σ G=>yf H b X z σ G) (yg H b X) ?_ z σ G hI
 clear hI z σ G
 rintro z σ G ⟨i,at_,hz,hat,hall,rfl,rfl⟩
 by_cases hi:i<3
 ·have hi':(i:Int)<3:=by omega
  obtain ⟨b1,hb1⟩:∃ x,X[i]?=some x:=⟨_,zq6 (by omega)⟩
  have q1:=fp hb1 true (some 38) .i64
  have w1:IntKind.i64.wrap ((i:Int)+1)=((i+1:Nat):Int):=by rw [aq (by omega) (by omega)];omega
  obtain ⟨i1,hi1⟩:=Go.A.nm (i+1)
  rw [hi1] at w1
  cases b1 with
  | true =>
   have hex:∃ j,j<3∧X[j]?=some true:=⟨i,hi,hb1⟩
   clear hall hat
   generalize bls X=L at *
   simp -implicitDefEqProofs [-ac,-AV.one,-ad,ij,gp,hi,hi',q1]
   exact ⟨rfl,.inr ⟨rfl,hex,by simp [F_q17]⟩⟩
  | false =>
   have hall2:∀ j,j<i1→X[j]?=some false:=fun j hj=>by
    by_cases h:j<i
    ·exact hall j h
    ·rw [show j=i by omega];exact hb1
   have hinv:∀ σ,σ=L 92 (((((((Tr.full 7).put (ag 0) (bv b)).put (ag 1) (ai 10)).put (ag 4) (.lbox [ai 0,ai 0,bc])).put (ag 6) (lst true 1 (some 38) (bls X))).put (ag 7) (ai 3)).put (ag 8) (ai i1))→∃ m,m<z∧yf G b X m σ G:=fun σ h=>⟨z - 1,by omega,i1,3,by omega,fun _=>rfl,hall2,rfl,h⟩
   clear hall hat hall2
   generalize bls X=L at *
   simp -implicitDefEqProofs [-ac,-AV.one,-ad,ij,gp,hi,hi',q1,w1]
   exact hinv _ (by simp)
 ·have hi':¬ (i:Int)<3:=by omega
  have e3:at_=3:=hat (by omega)
  subst e3
  have hall3:∀ j,j<3→X[j]?=some false:=fun j hj=>hall j (by omega)
  clear hall hat
  simp -implicitDefEqProofs [-ac,-AV.one,-ad,ij,gp,hi,hi']
  exact ⟨rfl,.inl ⟨rfl,hall3,by simp⟩⟩
end
theorem UG (b:Bs) (hb:b.2.length≤8192) (hby:bm b.2) (w:Int) (H:ae) :
  ∃ out:List Bs,bb out=(bR b.2 w).2∧callW P jW [bv b,ai w] H=some (bZ b.2 w (lst true 1 none (bvs out)),H):=by
 have hlen:=cz b
 by_cases hw:w=5∨w=10
 case neg =>
  have n1:¬ w=5:=fun h=>hw (.inl h)
  have n2:¬ w=10:=fun h=>hw (.inr h)
  have hR:bR b.2 w=(9,[]):=by rw [bR,if_neg hw]
  refine ⟨[],by rw [hR];rfl,?_⟩
  rw [mD hR (by simp)]
  clear hR hby
  rw [Cu rfl];simp -implicitDefEqProofs [-ac,-AV.one,-ad,ij,n1,n2]
 suffices hs:Ends (callW P jW [bv b,ai w] H) fun y=>∃ out:List Bs,bb out=(bR b.2 w).2∧y=(bZ b.2 w (lst true 1 none (bvs out)),H) by
  obtain ⟨y,h2,out,h3,rfl⟩:=hs
  exact ⟨out,h3,h2⟩
 refine call_post 7 92 rfl (rfl:P.T jW=some F_q17) rfl (aF rfl) (nY H b.2 w) ?_ ?_
 ·rintro e σ G ⟨rfl,rfl,out,h1,h2⟩
  have hfr:(bZ b.2 w (lst true 1 none (bvs out))).free=true:=by unfold bZ;split<;>simp
  have hfz:∀ n G,frz n G (bZ b.2 w (lst true 1 none (bvs out)))=some (bZ b.2 w (lst true 1 none (bvs out))):=fun n G=>by unfold bZ;split<;>simp
  have hno:ly (bZ b.2 w (lst true 1 none (bvs out)))=bZ b.2 w (lst true 1 none (bvs out)):=by unfold bZ;split<;>simp
  refine ⟨rfl,_,h2,hfr,?_⟩
  simp [hfz,hno]
  exact ⟨out,h1,rfl⟩
 by_cases c1:4000<b.2.length
 ·have hR:bR b.2 w=(2,[]):=by rw [bR,if_pos hw,if_pos c1]
  have fin:∀ σ G,G=H→aA F_q17.res σ=some (.tup [.agg [ai 0,ai 0,bc],ai 2])→nY H b.2 w .ret σ G:=fun σ G h1 h2=>⟨rfl,h1,[],by rw [hR];rfl,by rw [mD hR (by simp)];exact h2⟩
  have c1':(4000:Int)<b.2.length:=by omega
  have c1'':(b.2.length:Int) > 4000:=by omega
  obtain ⟨n,hn⟩:=Go.A.nm (b.2.length)
  rw [hn] at hlen c1 c1' c1''
  rcases hw with rfl | rfl
  ·rw [F_q17];simp -implicitDefEqProofs [-ac,-AV.one,-ad,ij,hlen,c1,c1',c1'']
   exact fin _ _ rfl (by simp [F_q17])
  ·rw [F_q17];simp -implicitDefEqProofs [-ac,-AV.one,-ad,ij,hlen,c1,c1',c1'']
   exact fin _ _ rfl (by simp [F_q17])
 have c1':¬ (4000:Int)<b.2.length:=by omega
 have c1'':¬ (b.2.length:Int) > 4000:=by omega
 have wq1:IntKind.i64.wrap 1=1:=rfl
 have wq2:IntKind.i64.wrap 2=2:=rfl
 by_cases c2:b.2.length<w.toNat / 5
 ·have hR:bR b.2 w=(8,[]):=by rw [bR,if_pos hw,if_neg c1,if_pos c2]
  have fin:∀ σ G,G=H→aA F_q17.res σ=some (.tup [.agg [ai 0,ai 0,bc],ai 8])→nY H b.2 w .ret σ G:=fun σ G h1 h2=>⟨rfl,h1,[],by rw [hR];rfl,by rw [mD hR (by simp)];exact h2⟩
  obtain ⟨n,hn⟩:=Go.A.nm (b.2.length)
  rw [hn] at hlen c1 c1' c1'' c2
  rcases hw with rfl | rfl
  ·have c2':(n:Int)<1:=by have:Int.toNat 5 / 5=1:=rfl;omega
   have c2'':n=0:=by omega
   have c2c:n<1:=by omega
   rw [F_q17];simp -implicitDefEqProofs [-ac,-AV.one,-ad,ij,hlen,c1,c1',c1'',wq1,c2',c2c,c2'']
   exact fin _ _ rfl (by simp [F_q17])
  ·have c2':(n:Int)<2:=by have:Int.toNat 10 / 5=2:=rfl;omega
   have c2c:n<2:=by omega
   rw [F_q17];simp -implicitDefEqProofs [-ac,-AV.one,-ad,ij,hlen,c1,c1',c1'',wq2,c2',c2c]
   exact fin _ _ rfl (by simp [F_q17])
 rcases hw.imp id id with hw5 | hw5
 ·have hx:w.toNat / 5=1:=by rw [hw5];rfl
  have htn:w.toNat=5:=by rw [hw5];rfl
  rw [hx] at c2
  have c2i:¬ (b.2.length:Int)<1:=by omega
  have d1:=fun d=>Ac (b:=b) (j:=1) (by omega) .i64 d
  replace d1:∀ d,iC 1 d (bv b) none (some (ai 1)) none=some (bv (dD b 0 1)):=d1
  have hb2:=jD b 1
  have r1:=fun H=>As (dD b 0 1) (by rw [hb2];simp;omega) (fun x hx=>hby x (by rw [hb2] at hx;exact List.mem_of_mem_take hx)) H
  rw [hb2] at r1
  have d2:=fun d=>eZ (b:=b) (i:=1) (by omega) .i64 d
  replace d2:∀ d,iC 1 d (bv b) (some (ai 1)) none none=some (bv (dD b 1 b.2.length)):=d2
  have hb3:=cM b 1
  obtain ⟨b',hb'⟩:=Go.A.nm (dD b 1 b.2.length)
  rw [hb'] at d2 hb3
  obtain ⟨bh,hbh⟩:=Go.A.nm (dD b 0 1)
  rw [hbh] at d1 r1
  have hxl:=bC (b.2.take 1)
  rw [List.length_take,show min 1 b.2.length=1 by omega] at hxl
  have hg1:=fun H=>uS true (ay (b.2.take 1)) (by omega) (a:=0) (n:=2) (by omega) (by omega) 0 2 rfl rfl H
  have hg2:=fun H=>uS true (ay (b.2.take 1)) (by omega) (a:=3) (n:=5) (by omega) (by omega) 3 5 rfl rfl H
  simp only [rO,hxl] at hg1 hg2
  rw [if_pos (by omega),dV (by omega)] at hg1 hg2
  obtain ⟨mb,hmb⟩:∃ x,(ay (b.2.take 1))[2]?=some x:=⟨_,zq6 (by omega)⟩
  have nm:=kl hmb
  rw [dV (by omega)] at nm
  have qm:=fp hmb true (some 38) .i64
  replace qm:bW 1 none (lst true 1 (some 38) (bls (ay (b.2.take 1)))) (ai 2)=some (.vp [ab mb] 0):=qm
  have v1:=bK (bs:=b.2) (a:=0) (n:=2) (by omega)
  have v2:=bK (bs:=b.2) (a:=3) (n:=5) (by omega)
  obtain ⟨v,hv⟩:=Go.A.nm (aj b.2 0 2)
  obtain ⟨s,hs⟩:=Go.A.nm (aj b.2 3 5)
  rw [hv] at v1 hg1
  rw [hs] at v2 hg2
  have u1:IntKind.i64.wrap (v:Int)=v:=aq (by omega) (by omega)
  have u2:IntKind.i64.wrap (s:Int)=s:=aq (by omega) (by simp at v2;omega)
  replace hg1:∀ H,callW P eV [lst true 1 none (bls (ay (b.2.take 1))),ai 0,ai 2] H=some (.tup [.c (.int .u64 v),ai 2,ai 0],H):=hg1
  replace hg2:∀ H,callW P eV [lst true 1 none (bls (ay (b.2.take 1))),ai 3,ai 5] H=some (.tup [.c (.int .u64 s),ai 8,ai 0],H):=hg2
  have w3:IntKind.i64.wrap 3=3:=rfl
  have eU:uFI b.2 5=v:=hv
  have eS:uSN b.2 5=s:=hs
  have eM:iI b.2 5=mb:=by
   have:iI b.2 5=decide (aj b.2 2 1=1):=rfl
   rw [this,nm,qo]
  have hRz:aj b.2 0 0=0→bR b.2 w=fC b'.2 mb:=fun h=>by
   rw [bR,if_pos hw,if_neg c1,hx,if_neg c2,htn,if_pos (by exact h),hb3,eM]
  have hRn:aj b.2 0 0≠0→bR b.2 w=(3,[]):=fun h=>by
   rw [bR,if_pos hw,if_neg c1,hx,if_neg c2,htn,if_neg (by exact h)]
  obtain ⟨out,k1,k2⟩:=N7 b' (by rw [hb3];simp;omega) (fun x hx=>hby x (by rw [hb3] at hx;exact List.mem_of_mem_drop hx)) mb (w:=11) (.inl rfl) H
  rw [uB] at k1 k2
  obtain ⟨ee,hee⟩:=Go.A.nm ((fC b'.2 mb).1)
  rw [hee] at k2
  replace k2:callW P ii [bv b',ab mb,ai 11] H=_:=k2
  have hout:ee≠0→bvs out=[]:=fun h=>by
   have:(fC b'.2 mb).2=[]:=wP (by rw [hee];exact h)
   rw [this] at k1
   have:out.length=0:=by have:=congrArg List.length k1;rwa [br] at this
   rw [zq8 this];rfl
  have fin:∀ σ G,G=H→aj b.2 0 0=0→aA F_q17.res σ=some (.tup [.agg (if ee=0 then [ai v,ai s,lst true 1 none (bvs out)] else [ai 0,ai 0,bc]),ai (ee:Nat)])→nY H b.2 w .ret σ G:=fun σ G h1 hz h2=>⟨rfl,h1,out,by rw [hRz hz];exact k1,by rw [bZ,hRz hz,hee,htn,eU,eS];exact h2⟩
  have finE:∀ σ G,G=H→aj b.2 0 0≠0→aA F_q17.res σ=some (.tup [.agg [ai 0,ai 0,bc],ai 3])→nY H b.2 w .ret σ G:=fun σ G h1 hz h2=>⟨rfl,h1,[],by rw [hRn hz];rfl,by rw [mD (hRn hz) (by simp)];exact h2⟩
  have hlp:=fun z σ G hI=>UF (H:=H) b (bls (ay (b.2.take 1))) z σ G hI
  have hz0:aj b.2 0 0=0:=by simp [aj,num]
  obtain ⟨ln,hln⟩:=Go.A.nm (b.2.length)
  rw [hln] at hlen c1 c1' c1'' c2 c2i
  subst hw5
  clear hRz hRn nm eU eS eM hv hs hmb hb2 hb3 hb' hbh hee
  rw [F_q17];simp -implicitDefEqProofs [-ac,-AV.one,-ad,ij,hlen,c1,c1',c1'',wq1,c2,c2i,d1,r1]
  repeat rw [Option.bind_assoc]
  refine Ends.block (P:=Dl H b (bls (ay (b.2.take 1)))) (hlp 0 _ _ ⟨rfl,by simp [gp]⟩) ?_
  rintro e σ1 G1 ⟨rfl,rfl,c4⟩
  by_cases he:ee=0
  ·have he':(ee:Int)=0:=by omega
   subst he
   replace k2:callW P ii [bv b',ab mb,ai 11] G1=some (.tup [lst true 1 none (bvs out),ai 0],G1):=k2
   simp -implicitDefEqProofs [-ac,-AV.one,-ad,ij,c4,hg1,qm,w3,hg2,d2,wq1,k2,u1,u2]
   exact fin _ _ rfl hz0 (by rw [if_pos rfl];simp [F_q17])
  ·have he':¬ (ee:Int)=0:=by omega
   rw [hout he] at k2
   replace k2:callW P ii [bv b',ab mb,ai 11] G1=some (.tup [bc,ai ee],G1):=k2
   simp -implicitDefEqProofs [-ac,-AV.one,-ad,ij,c4,hg1,qm,w3,hg2,d2,wq1,k2,he,he']
   exact fin _ _ rfl hz0 (by rw [if_neg he];simp [F_q17])
 ·have hx:w.toNat / 5=2:=by rw [hw5];rfl
  have htn:w.toNat=10:=by rw [hw5];rfl
  rw [hx] at c2
  have c2i:¬ (b.2.length:Int)<2:=by omega
  have d1:=fun d=>Ac (b:=b) (j:=2) (by omega) .i64 d
  replace d1:∀ d,iC 1 d (bv b) none (some (ai 2)) none=some (bv (dD b 0 2)):=d1
  have hb2:=jD b 2
  have r1:=fun H=>As (dD b 0 2) (by rw [hb2];simp;omega) (fun x hx=>hby x (by rw [hb2] at hx;exact List.mem_of_mem_take hx)) H
  rw [hb2] at r1
  have d2:=fun d=>eZ (b:=b) (i:=2) (by omega) .i64 d
  replace d2:∀ d,iC 1 d (bv b) (some (ai 2)) none none=some (bv (dD b 2 b.2.length)):=d2
  have hb3:=cM b 2
  obtain ⟨b',hb'⟩:=Go.A.nm (dD b 2 b.2.length)
  rw [hb'] at d2 hb3
  obtain ⟨bh,hbh⟩:=Go.A.nm (dD b 0 2)
  rw [hbh] at d1 r1
  have hxl:=bC (b.2.take 2)
  rw [List.length_take,show min 2 b.2.length=2 by omega] at hxl
  have hg1:=fun H=>uS true (ay (b.2.take 2)) (by omega) (a:=3) (n:=2) (by omega) (by omega) 3 2 rfl rfl H
  have hg2:=fun H=>uS true (ay (b.2.take 2)) (by omega) (a:=6) (n:=10) (by omega) (by omega) 6 10 rfl rfl H
  simp only [rO,hxl] at hg1 hg2
  rw [if_pos (by omega),dV (by omega)] at hg1 hg2
  obtain ⟨mb,hmb⟩:∃ x,(ay (b.2.take 2))[5]?=some x:=⟨_,zq6 (by omega)⟩
  have nm:=kl hmb
  rw [dV (by omega)] at nm
  have qm:=fp hmb true (some 38) .i64
  replace qm:bW 1 none (lst true 1 (some 38) (bls (ay (b.2.take 2)))) (ai 5)=some (.vp [ab mb] 0):=qm
  have v1:=bK (bs:=b.2) (a:=3) (n:=2) (by omega)
  have v2:=bK (bs:=b.2) (a:=6) (n:=10) (by omega)
  obtain ⟨v,hv⟩:=Go.A.nm (aj b.2 3 2)
  obtain ⟨s,hs⟩:=Go.A.nm (aj b.2 6 10)
  rw [hv] at v1 hg1
  rw [hs] at v2 hg2
  have u1:IntKind.i64.wrap (v:Int)=v:=aq (by omega) (by omega)
  have u2:IntKind.i64.wrap (s:Int)=s:=aq (by omega) (by simp at v2;omega)
  replace hg1:∀ H,callW P eV [lst true 1 none (bls (ay (b.2.take 2))),ai 3,ai 2] H=some (.tup [.c (.int .u64 v),ai 5,ai 0],H):=hg1
  replace hg2:∀ H,callW P eV [lst true 1 none (bls (ay (b.2.take 2))),ai 6,ai 10] H=some (.tup [.c (.int .u64 s),ai 16,ai 0],H):=hg2
  have w3:IntKind.i64.wrap 6=6:=rfl
  have eU:uFI b.2 10=v:=hv
  have eS:uSN b.2 10=s:=hs
  have eM:iI b.2 10=mb:=by
   have:iI b.2 10=decide (aj b.2 5 1=1):=rfl
   rw [this,nm,qo]
  have hRz:aj b.2 0 3=0→bR b.2 w=fC b'.2 mb:=fun h=>by
   rw [bR,if_pos hw,if_neg c1,hx,if_neg c2,htn,if_pos (by exact h),hb3,eM]
  have hRn:aj b.2 0 3≠0→bR b.2 w=(3,[]):=fun h=>by
   rw [bR,if_pos hw,if_neg c1,hx,if_neg c2,htn,if_neg (by exact h)]
  obtain ⟨out,k1,k2⟩:=N7 b' (by rw [hb3];simp;omega) (fun x hx=>hby x (by rw [hb3] at hx;exact List.mem_of_mem_drop hx)) mb (w:=11) (.inl rfl) H
  rw [uB] at k1 k2
  obtain ⟨ee,hee⟩:=Go.A.nm ((fC b'.2 mb).1)
  rw [hee] at k2
  replace k2:callW P ii [bv b',ab mb,ai 11] H=_:=k2
  have hout:ee≠0→bvs out=[]:=fun h=>by
   have:(fC b'.2 mb).2=[]:=wP (by rw [hee];exact h)
   rw [this] at k1
   have:out.length=0:=by have:=congrArg List.length k1;rwa [br] at this
   rw [zq8 this];rfl
  have fin:∀ σ G,G=H→aj b.2 0 3=0→aA F_q17.res σ=some (.tup [.agg (if ee=0 then [ai v,ai s,lst true 1 none (bvs out)] else [ai 0,ai 0,bc]),ai (ee:Nat)])→nY H b.2 w .ret σ G:=fun σ G h1 hz h2=>⟨rfl,h1,out,by rw [hRz hz];exact k1,by rw [bZ,hRz hz,hee,htn,eU,eS];exact h2⟩
  have finE:∀ σ G,G=H→aj b.2 0 3≠0→aA F_q17.res σ=some (.tup [.agg [ai 0,ai 0,bc],ai 3])→nY H b.2 w .ret σ G:=fun σ G h1 hz h2=>⟨rfl,h1,[],by rw [hRn hz];rfl,by rw [mD (hRn hz) (by simp)];exact h2⟩
  have hlp:=fun z σ G hI=>ON (H:=H) b (X:=ay (b.2.take 2)) (by omega) z σ G hI
  have hinv:∀ σ,σ=L 92 (((((((Tr.full 7).put (ag 0) (bv b)).put (ag 1) (ai 10)).put (ag 4) (.lbox [ai 0,ai 0,bc])).put (ag 6) (lst true 1 (some 38) (bls (ay (b.2.take 2))))).put (ag 7) (ai 0)).put (ag 8) (ai 0))→yf H b (ay (b.2.take 2)) 3 σ H:=fun σ h=>⟨0,0,by omega,by omega,by omega,rfl,h⟩
  obtain ⟨x0,x1,x2,x3,X,hX⟩:=PG (bs:=b.2.take 2) (by rw [List.length_take];omega)
  have hn3:aj b.2 0 3=num [x0,x1,x2]:=by rw [← dV (m:=2) (by omega),aj,hX];rfl
  have hz1:(∀ j,j<3→(ay (b.2.take 2))[j]?=some false)→aj b.2 0 3=0:=fun h=>by
   rw [hX] at h
   have h0:=h 0 (by omega)
   have h1:=h 1 (by omega)
   have h2:=h 2 (by omega)
   simp at h0 h1 h2
   rw [hn3,h0,h1,h2];rfl
  have hz2:(∃ j,j<3∧(ay (b.2.take 2))[j]?=some true)→aj b.2 0 3≠0:=fun ⟨j,hj,h⟩=>by
   rw [hX] at h
   rw [hn3,Ne,UE]
   rintro ⟨rfl,rfl,rfl⟩
   match j,hj,h with
   | 0,_,h=>simp at h
   | 1,_,h=>simp at h
   | 2,_,h=>simp at h
  clear hX hn3
  obtain ⟨ln,hln⟩:=Go.A.nm (b.2.length)
  rw [hln] at hlen c1 c1' c1'' c2 c2i
  subst hw5
  clear hRz hRn nm eU eS eM hv hs hmb hb2 hb3 hb' hbh hee
  rw [F_q17];simp -implicitDefEqProofs [-ac,-AV.one,-ad,ij,hlen,c1,c1',c1'',wq2,c2,c2i,d1,r1]
  repeat rw [Option.bind_assoc]
  refine Ends.block (P:=yg H b (ay (b.2.take 2))) (hlp 3 _ _ (hinv _ (by simp [gp]))) ?_
  rintro e σ1 G1 ⟨hGG,⟨rfl,c3,c4⟩ | ⟨rfl,c3,c4⟩⟩
  case inr=>exact ⟨_,rfl,finE _ _ hGG (hz2 c3) c4⟩
  subst hGG
  have hz0:=hz1 c3
  by_cases he:ee=0
  ·have he':(ee:Int)=0:=by omega
   subst he
   replace k2:callW P ii [bv b',ab mb,ai 11] G1=some (.tup [lst true 1 none (bvs out),ai 0],G1):=k2
   simp -implicitDefEqProofs [-ac,-AV.one,-ad,ij,c4,hg1,qm,w3,hg2,d2,wq2,k2,u1,u2]
   exact fin _ _ rfl hz0 (by rw [if_pos rfl];simp [F_q17])
  ·have he':¬ (ee:Int)=0:=by omega
   rw [hout he] at k2
   replace k2:callW P ii [bv b',ab mb,ai 11] G1=some (.tup [bc,ai ee],G1):=k2
   simp -implicitDefEqProofs [-ac,-AV.one,-ad,ij,c4,hg1,qm,w3,hg2,d2,wq2,k2,he,he']
   exact fin _ _ rfl hz0 (by rw [if_neg he];simp [F_q17])
end Go.A.V.S
