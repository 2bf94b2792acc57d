/- What bytes are, of a config, by the document. -/
import Derived.Test.YtnmobjhmohcjfaaGreatXO
import Derived.Test.YtnmobjhmohcjfaaGreatXI
import Derived.Test.YtnmobjhmohcjfaaGreatXK
import Derived.Test.YtnmobjhmohcjfaaGreatXL
import Derived.Test.YtnmobjhmohcjfaaGreatXC
set_option linter.unusedSimpArgs false
set_option linter.unusedVariables false
set_option linter.unnecessarySimpa false
namespace Go.A.V.S
open Go Go.A
section
variable {b:Bs}
def PRx (c:Cfg) (b:Bs) (H:ae):Prop:=∃ (e:Nat) (x:Un) (k:Nat),ga c b e x∧callW P BL [.agg c.v,bv b] H=some (.tup [.agg x.v,ai e],H++List.replicate k .other)
theorem OV (c:Cfg) (h:c.chk≠0) (H:ae):PRx c b H:=by
 have hC:=fun H=>iD c H
 refine ⟨_,_,0,.bad h,?_⟩
 rw [jF]
 obtain ⟨n,hn⟩:=nm (c.chk)
 rw [hn] at hC h ⊢
 have h':¬ (n:Int)=0:=by omega
 obtain ⟨mo,bi,wi,re,pr,ph,pp,pb,mr,q⟩:=c
 simp only [Cfg.v] at hC ⊢
 clear hn
 rw [dc rfl];simp -implicitDefEqProofs [-ac,-AV.one,-ad,oW,hC,h,h']
theorem OW (c:Cfg) (h:c.chk=0) (m:c.mode=0) (H:ae):PRx c b H:=by
 have hC:=fun H=>iD c H
 rw [h] at hC
 replace hC:∀ H,callW P fj [.agg c.v] H=some (ai 0,H):=hC
 have hlen:=cz b
 by_cases h0:b.2.length=0
 ·refine ⟨8,un0,0,.none h m h0,?_⟩
  rw [jF]
  rw [h0] at hlen
  obtain ⟨mo,bi,wi,re,pr,ph,pp,pb,mr,q⟩:=c
  simp only at m
  subst m
  simp only [Cfg.v] at hC ⊢
  clear h h0
  rw [dc rfl];simp -implicitDefEqProofs [-ac,-AV.one,-ad,oW,hC,hlen]
 have h0':¬ (b.2.length:Int)=0:=by omega
 obtain ⟨n,hn⟩:=nm (b.2.length)
 by_cases h1:1000<b.2.length
 ·refine ⟨2,un0,0,.long h m h1,?_⟩
  rw [jF]
  have h1':(1000:Int)<b.2.length:=by omega
  have h1'':(b.2.length:Int) > 1000:=by omega
  rw [hn] at hlen h0 h0' h1 h1' h1''
  obtain ⟨mo,bi,wi,re,pr,ph,pp,pb,mr,q⟩:=c
  simp only at m
  subst m
  simp only [Cfg.v] at hC ⊢
  clear h hn
  rw [dc rfl];simp -implicitDefEqProofs [-ac,-AV.one,-ad,oW,hC,hlen,h0,h0',h1,h1',h1'']
 ·refine ⟨0,_,0,.raw h m h0 (by omega),?_⟩
  rw [PB]
  have h1':¬ (1000:Int)<b.2.length:=by omega
  have h1'':¬ (b.2.length:Int) > 1000:=by omega
  rw [hn] at hlen h0 h0' h1 h1' h1''
  obtain ⟨mo,bi,wi,re,pr,ph,pp,pb,mr,q⟩:=c
  simp only at m
  subst m
  simp only [Cfg.v] at hC ⊢
  clear h hn
  rw [dc rfl];simp -implicitDefEqProofs [-ac,-AV.one,-ad,oW,hC,hlen,h0,h0',h1,h1',h1'']
theorem UO (c:Cfg) (hb:b.2.length≤8192) (hby:bm b.2) (h:c.chk=0) (m:c.mode=1) (H:ae):PRx c b H:=by
 have hC:=fun H=>iD c H
 rw [h] at hC
 replace hC:∀ H,callW P fj [.agg c.v] H=some (ai 0,H):=hC
 obtain ⟨out,ho,hR⟩:=UG b hb hby c.bits H
 obtain ⟨k,hk⟩:∃ k:Nat,H=H++List.replicate k AObj.other:=⟨0,by simp⟩
 replace hR:callW P jW [bv b,ai c.bits] H=some (bZ b.2 c.bits (lst true 1 none (bvs out)),H++List.replicate k .other):=by rw [← hk];exact hR
 by_cases he:(bR b.2 c.bits).1=0
 ·have e2:bR b.2 c.bits=(0,bb out):=Prod.ext he ho.symm
  refine ⟨0,_,k,.um h m out e2,?_⟩
  rw [adi]
  rw [bZ,if_pos he,he] at hR
  replace hR:callW P jW [bv b,ai c.bits] H=some (.tup [.agg [ai (uFI b.2 c.bits.toNat:Nat),ai (uSN b.2 c.bits.toNat:Nat),lst true 1 none (bvs out)],ai 0],H++List.replicate k .other):=hR
  generalize uFI b.2 c.bits.toNat=f1 at *
  generalize uSN b.2 c.bits.toNat=f2 at *
  obtain ⟨N,hN⟩:=nm (List.replicate k AObj.other)
  have hNl:List.replicate N.length AObj.other=N:=by rw [← hN];simp
  rw [hN] at hR ⊢
  obtain ⟨mo,bi,wi,re,pr,ph,pp,pb,mr,q⟩:=c
  simp only at m hR
  subst m
  simp only [Cfg.v] at hC ⊢
  clear h he e2 ho hby hk
  rw [dc rfl];simp -implicitDefEqProofs [-ac,-AV.one,-ad,oW,hC,hR,hNl]
 ·refine ⟨_,_,k,.umE h m he,?_⟩
  rw [jF]
  rw [bZ,if_neg he] at hR
  replace hR:callW P jW [bv b,ai c.bits] H=some (.tup [.agg [ai 0,ai 0,bc],ai (bR b.2 c.bits).1],H++List.replicate k .other):=hR
  obtain ⟨N,hN⟩:=nm (List.replicate k AObj.other)
  have hNl:List.replicate N.length AObj.other=N:=by rw [← hN];simp
  obtain ⟨n,hn⟩:=nm ((bR b.2 c.bits).1)
  rw [hN,hn] at hR
  rw [hN,hn]
  rw [hn] at he
  have he':¬ (n:Int)=0:=by omega
  obtain ⟨mo,bi,wi,re,pr,ph,pp,pb,mr,q⟩:=c
  simp only at m hR
  subst m
  simp only [Cfg.v] at hC ⊢
  clear h ho hby hn hk
  rw [dc rfl];simp -implicitDefEqProofs [-ac,-AV.one,-ad,oW,hC,hR,hNl,he,he']
theorem UP (c:Cfg) (hb:b.2.length≤8192) (hby:bm b.2) (h:c.chk=0) (m:c.mode=2) (hl:b.2.length≠0) (hn0:aj b.2 0 1=0) (H:ae):PRx c b H:=by
 have hC:=fun H=>iD c H
 rw [h] at hC
 replace hC:∀ H,callW P fj [.agg c.v] H=some (ai 0,H):=hC
 have hlen:=cz b
 have hl':0<b.2.length:=by omega
 have hl'':0<(b.2.length:Int):=by omega
 have hl3:(b.2.length:Int) > 0:=by omega
 obtain ⟨b0,hb0⟩:∃ x,b.2[0]?=some x:=⟨_,zq6 (by omega)⟩
 have hb256:=hby b0 (List.mem_of_getElem? hb0)
 have q1:bW 1 none (bv b) (.c (.int .i64 0))=some (.vp [au b0] 0):=pB hb0 .i64
 have n0:aj b.2 0 1=b0 / 128 % 2:=fA (a:=0) hb0
 have g1:(b0:Int)<128:=by omega
 have g2:b0<128:=by omega
 obtain ⟨ll,hll⟩:=nm (b.2.length)
 have hR:=Dk b hb hby c.bits H
 obtain ⟨k,hk⟩:∃ k:Nat,H=H++List.replicate k AObj.other:=⟨0,by simp⟩
 replace hR:callW P iY [bv b,ai c.bits] H=some (fG b.2 c.bits,H++List.replicate k .other):=by rw [← hk];exact hR
 by_cases he:(bI b.2 c.bits).1=0
 ·have e2:bI b.2 c.bits=(0,(bI b.2 c.bits).2.1,(bI b.2 c.bits).2.2):=Prod.ext he rfl
  refine ⟨0,_,k,.st h m hl hn0 _ _ e2,?_⟩
  rw [adj]
  rw [fG,he] at hR
  replace hR:callW P iY [bv b,ai c.bits] H=some (.tup [.agg [ai (bI b.2 c.bits).2.1,lst true 4 none (mvs (bI b.2 c.bits).2.2)],ai 0],H++List.replicate k .other):=hR
  clear e2
  generalize (bI b.2 c.bits).2.1=f1 at *
  generalize (bI b.2 c.bits).2.2=f2 at *
  rw [hll] at hlen hl' hl'' hl3
  obtain ⟨N,hN⟩:=nm (List.replicate k AObj.other)
  have hNl:List.replicate N.length AObj.other=N:=by rw [← hN];simp
  rw [hN] at hR ⊢
  obtain ⟨mo,bi,wi,re,pr,ph,pp,pb,mr,q⟩:=c
  simp only at m hR
  subst m
  simp only [Cfg.v] at hC ⊢
  clear h he hby n0 hn0 hl hll hk
  rw [dc rfl];simp -implicitDefEqProofs [-ac,-AV.one,-ad,oW,hlen,hl',hl'',hl3,q1,g1,g2,hC,hR,hNl]
 ·refine ⟨_,_,k,.stE h m hl hn0 he,?_⟩
  rw [jF]
  have h2:(bI b.2 c.bits).2=(0,[]):=by
   rcases wR (bs:=b.2) (w:=c.bits) with e | e
   ·exact (he e).elim
   ·exact e
  rw [fG,h2] at hR
  replace hR:callW P iY [bv b,ai c.bits] H=some (.tup [.agg [ai 0,bc],ai (bI b.2 c.bits).1],H++List.replicate k .other):=hR
  clear h2
  rw [hll] at hlen hl' hl'' hl3
  obtain ⟨N,hN⟩:=nm (List.replicate k AObj.other)
  have hNl:List.replicate N.length AObj.other=N:=by rw [← hN];simp
  obtain ⟨n,hn⟩:=nm ((bI b.2 c.bits).1)
  rw [hN,hn] at hR
  rw [hN,hn]
  rw [hn] at he
  have he':¬ (n:Int)=0:=by omega
  obtain ⟨mo,bi,wi,re,pr,ph,pp,pb,mr,q⟩:=c
  simp only at m hR
  subst m
  simp only [Cfg.v] at hC ⊢
  clear h hby n0 hn0 hl hll hn hk
  rw [dc rfl];simp -implicitDefEqProofs [-ac,-AV.one,-ad,oW,hlen,hl',hl'',hl3,q1,g1,g2,hC,hR,hNl,he,he']
theorem OX (c:Cfg) (hb:b.2.length≤8192) (hby:bm b.2) (h:c.chk=0) (m:c.mode=2) (hn0:b.2.length=0) (H:ae):PRx c b H:=by
 have hC:=fun H=>iD c H
 rw [h] at hC
 replace hC:∀ H,callW P fj [.agg c.v] H=some (ai 0,H):=hC
 have hlen:=cz b
 rw [hn0] at hlen
 obtain ⟨out,k,ho,hR⟩:=PI b (by omega) hby c.bits H
 by_cases he:(bQ b.2 c.bits).1=0
 ·have e2:bQ b.2 c.bits=(0,bb out):=Prod.ext he ho.symm
  refine ⟨0,_,k,.am h m (.inl hn0) out e2,?_⟩
  rw [OP]
  rw [cE,if_pos he,he,dJ] at hR
  replace hR:callW P nq [bv b,ai c.bits] H=some (.tup [.agg [ab (dr b.2),ai (hFI b.2:Nat),ai (hSN b.2 c.bits.toNat:Nat),ab (aY b.2),ab (cN b.2 c.bits.toNat),ai (eO b.2 c.bits.toNat:Nat),lst true 1 none (bvs out)],ai 0],H++List.replicate k .other):=hR
  clear e2
  generalize dr b.2=x1 at *
  generalize hFI b.2=x2 at *
  generalize hSN b.2 c.bits.toNat=x3 at *
  generalize aY b.2=x4 at *
  generalize cN b.2 c.bits.toNat=x5 at *
  generalize eO b.2 c.bits.toNat=x6 at *
  obtain ⟨N,hN⟩:=nm (List.replicate k AObj.other)
  have hNl:List.replicate N.length AObj.other=N:=by rw [← hN];simp
  rw [hN] at hR ⊢
  obtain ⟨mo,bi,wi,re,pr,ph,pp,pb,mr,q⟩:=c
  simp only at m hR
  subst m
  simp only [Cfg.v] at hC ⊢
  clear h he ho hby hn0
  rw [dc rfl];simp -implicitDefEqProofs [-ac,-AV.one,-ad,oW,hlen,hC,hR,hNl]
 ·refine ⟨_,_,k,.amE h m (.inl hn0) he,?_⟩
  rw [jF]
  rw [cE,if_neg he,cA] at hR
  replace hR:callW P nq [bv b,ai c.bits] H=some (.tup [.agg [ab false,ai 0,ai 0,ab false,ab false,ai 0,bc],ai (bQ b.2 c.bits).1],H++List.replicate k .other):=hR
  obtain ⟨N,hN⟩:=nm (List.replicate k AObj.other)
  have hNl:List.replicate N.length AObj.other=N:=by rw [← hN];simp
  obtain ⟨n,hn⟩:=nm ((bQ b.2 c.bits).1)
  rw [hN,hn] at hR
  rw [hN,hn]
  rw [hn] at he
  have he':¬ (n:Int)=0:=by omega
  obtain ⟨mo,bi,wi,re,pr,ph,pp,pb,mr,q⟩:=c
  simp only at m hR
  subst m
  simp only [Cfg.v] at hC ⊢
  clear h hby hn ho hn0
  rw [dc rfl];simp -implicitDefEqProofs [-ac,-AV.one,-ad,oW,hlen,hC,hR,hNl,he,he']
theorem OY (c:Cfg) (hb:b.2.length≤8192) (hby:bm b.2) (h:c.chk=0) (m:c.mode=2) (hn0:b.2.length≠0∧aj b.2 0 1≠0) (H:ae):PRx c b H:=by
 have hC:=fun H=>iD c H
 rw [h] at hC
 replace hC:∀ H,callW P fj [.agg c.v] H=some (ai 0,H):=hC
 have hlen:=cz b
 have hl:b.2.length≠0:=hn0.1
 have hl':0<b.2.length:=by omega
 have hl'':0<(b.2.length:Int):=by omega
 have hl3:(b.2.length:Int) > 0:=by omega
 obtain ⟨b0,hb0⟩:∃ x,b.2[0]?=some x:=⟨_,zq6 (by omega)⟩
 have hb256:=hby b0 (List.mem_of_getElem? hb0)
 have q1:bW 1 none (bv b) (.c (.int .i64 0))=some (.vp [au b0] 0):=pB hb0 .i64
 have n0:aj b.2 0 1=b0 / 128 % 2:=fA (a:=0) hb0
 have g1:¬ (b0:Int)<128:=by omega
 have g2:¬ b0<128:=by omega
 obtain ⟨ll,hll⟩:=nm (b.2.length)
 obtain ⟨out,k,ho,hR⟩:=PI b (by omega) hby c.bits H
 by_cases he:(bQ b.2 c.bits).1=0
 ·have e2:bQ b.2 c.bits=(0,bb out):=Prod.ext he ho.symm
  refine ⟨0,_,k,.am h m (.inr hn0.2) out e2,?_⟩
  rw [OP]
  rw [cE,if_pos he,he,dJ] at hR
  replace hR:callW P nq [bv b,ai c.bits] H=some (.tup [.agg [ab (dr b.2),ai (hFI b.2:Nat),ai (hSN b.2 c.bits.toNat:Nat),ab (aY b.2),ab (cN b.2 c.bits.toNat),ai (eO b.2 c.bits.toNat:Nat),lst true 1 none (bvs out)],ai 0],H++List.replicate k .other):=hR
  clear e2
  generalize dr b.2=x1 at *
  generalize hFI b.2=x2 at *
  generalize hSN b.2 c.bits.toNat=x3 at *
  generalize aY b.2=x4 at *
  generalize cN b.2 c.bits.toNat=x5 at *
  generalize eO b.2 c.bits.toNat=x6 at *
  rw [hll] at hlen hl' hl'' hl3
  obtain ⟨N,hN⟩:=nm (List.replicate k AObj.other)
  have hNl:List.replicate N.length AObj.other=N:=by rw [← hN];simp
  rw [hN] at hR ⊢
  obtain ⟨mo,bi,wi,re,pr,ph,pp,pb,mr,q⟩:=c
  simp only at m hR
  subst m
  simp only [Cfg.v] at hC ⊢
  clear h he ho hby n0 hl hll hn0
  rw [dc rfl];simp -implicitDefEqProofs [-ac,-AV.one,-ad,oW,hlen,hl',hl'',hl3,q1,g1,g2,hC,hR,hNl]
 ·refine ⟨_,_,k,.amE h m (.inr hn0.2) he,?_⟩
  rw [jF]
  rw [cE,if_neg he,cA] at hR
  replace hR:callW P nq [bv b,ai c.bits] H=some (.tup [.agg [ab false,ai 0,ai 0,ab false,ab false,ai 0,bc],ai (bQ b.2 c.bits).1],H++List.replicate k .other):=hR
  rw [hll] at hlen hl' hl'' hl3
  obtain ⟨N,hN⟩:=nm (List.replicate k AObj.other)
  have hNl:List.replicate N.length AObj.other=N:=by rw [← hN];simp
  obtain ⟨n,hn⟩:=nm ((bQ b.2 c.bits).1)
  rw [hN,hn] at hR
  rw [hN,hn]
  rw [hn] at he
  have he':¬ (n:Int)=0:=by omega
  obtain ⟨mo,bi,wi,re,pr,ph,pp,pb,mr,q⟩:=c
  simp only at m hR
  subst m
  simp only [Cfg.v] at hC ⊢
  clear h hby hn ho n0 hl hll hn0
  rw [dc rfl];simp -implicitDefEqProofs [-ac,-AV.one,-ad,oW,hlen,hl',hl'',hl3,q1,g1,g2,hC,hR,hNl,he,he']
end
theorem OZ (c:Cfg) (b:Bs) (hb:b.2.length≤8192) (hby:bm b.2) (H:ae):∃ (e:Nat) (x:Un) (k:Nat),ga c b e x∧callW P BL [.agg c.v,bv b] H=some (.tup [.agg x.v,ai e],H++List.replicate k .other):=by
 by_cases h:c.chk=0
 case neg=>exact OV c h H
 rcases pN h with m | m | m
 ·exact OW c h m H
 ·exact UO c hb hby h m H
 ·by_cases hl:b.2.length=0
  ·exact OX c hb hby h m hl H
  by_cases hn:aj b.2 0 1=0
  ·exact UP c hb hby h m hl hn H
  ·exact OY c hb hby h m ⟨hl,hn⟩ H
end Go.A.V.S
namespace Go.A.V.S
open Go Go.A
def PWx (c:Cfg) (u:Un) (H:ae):Prop:=∃ (e:Nat) (z:Bool) (out:List Nat) (k:Nat),WriteP c u e out∧callW P Gf [.agg c.v,.agg u.v] H=some (.tup [bv (z,out),ai e],H++List.replicate k .other)
section
variable {c:Cfg} {u:Un}
theorem O2 (h:c.chk≠0) (H:ae):PWx c u H:=by
 have hC:=fun H=>iD c H
 refine ⟨_,true,_,0,.bad h,?_⟩
 rw [gE]
 obtain ⟨n,hn⟩:=nm (c.chk)
 rw [hn] at hC h ⊢
 have h':¬ (n:Int)=0:=by omega
 obtain ⟨mo,bi,wi,re,pr,ph,pp,pb,mr,q⟩:=c
 obtain ⟨k,r,um,am,st⟩:=u
 simp only [Cfg.v,Un.v] at hC ⊢
 clear hn
 rw [cD rfl];simp -implicitDefEqProofs [-ac,-AV.one,-ad,nR,hC,h,h']
theorem O3 (h:c.chk=0) (m:c.mode=0) (hk:u.kind=0) (hs:u.sm) (H:ae):PWx c u H:=by
 have hC:=fun H=>iD c H
 rw [h] at hC
 replace hC:∀ H,callW P fj [.agg c.v] H=some (ai 0,H):=hC
 have hlen:=cz u.raw
 by_cases h0:u.raw.2.length=0
 ·refine ⟨_,true,_,0,.rawE h m hk (.inl h0),?_⟩
  rw [gE]
  rw [h0] at hlen
  obtain ⟨mo,bi,wi,re,pr,ph,pp,pb,mr,q⟩:=c
  obtain ⟨k,r,um,am,st⟩:=u
  simp only at m hk
  subst m hk
  simp only [Cfg.v,Un.v] at hC hlen ⊢
  clear hs h
  rw [cD rfl];simp -implicitDefEqProofs [-ac,-AV.one,-ad,nR,hC,hlen]
 have h0':¬ (u.raw.2.length:Int)=0:=by omega
 by_cases h1:1000<u.raw.2.length
 ·have h1':(1000:Int)<u.raw.2.length:=by omega
  have h1'':(u.raw.2.length:Int) > 1000:=by omega
  refine ⟨_,true,_,0,.rawE h m hk (.inr h1),?_⟩
  rw [gE]
  obtain ⟨n,hn⟩:=nm (u.raw.2.length)
  rw [hn] at hlen h0 h0' h1 h1' h1''
  have g1:(n:Int) > 0:=by omega
  have g2:0<n:=by omega
  have g3:¬ n≤1000:=by omega
  have g4:¬ (n:Int)≤1000:=by omega
  obtain ⟨mo,bi,wi,re,pr,ph,pp,pb,mr,q⟩:=c
  obtain ⟨k,r,um,am,st⟩:=u
  simp only at m hk
  subst m hk
  simp only [Cfg.v,Un.v] at hC hlen ⊢
  clear hs h hn
  rw [cD rfl];simp -implicitDefEqProofs [-ac,-AV.one,-ad,nR,hC,hlen,h0,h0',h1,h1',h1'',g1,g2,g3,g4]
 ·have h1':¬ (1000:Int)<u.raw.2.length:=by omega
  have h1'':¬ (u.raw.2.length:Int) > 1000:=by omega
  refine ⟨0,u.raw.1,_,0,.raw h m hk h0 (by omega),?_⟩
  obtain ⟨n,hn⟩:=nm (u.raw.2.length)
  rw [hn] at hlen h0 h0' h1 h1' h1''
  obtain ⟨mo,bi,wi,re,pr,ph,pp,pb,mr,q⟩:=c
  obtain ⟨k,r,um,am,st⟩:=u
  simp only at m hk
  subst m hk
  have hf:bv r=lst r.1 1 none (ax r.2):=rfl
  have g1:(n:Int) > 0:=by omega
  have g2:0<n:=by omega
  have g3:n≤1000:=by omega
  have g4:(n:Int)≤1000:=by omega
  simp only [Cfg.v,Un.v] at hC hlen ⊢
  rw [show bv (r.1,r.2)=bv r from rfl]
  clear hs h hn hf
  rw [cD rfl];simp -implicitDefEqProofs [-ac,-AV.one,-ad,nR,hC,hlen,h0,h0',h1,h1',h1'',g1,g2,g3,g4]
theorem Hg (h:c.chk=0) (n:¬ (c.mode=0∧u.kind=0)) (n1:¬ (c.mode=1∧u.kind=1)) (n2:¬ (c.mode=2∧(u.kind=2∨u.kind=3))) (H:ae):PWx c u H:=by
 have hC:=fun H=>iD c H
 rw [h] at hC
 replace hC:∀ H,callW P fj [.agg c.v] H=some (ai 0,H):=hC
 refine ⟨_,true,_,0,.state h n n1 n2,?_⟩
 rw [gE]
 have m:=pN h
 obtain ⟨mo,bi,wi,re,pr,ph,pp,pb,mr,q⟩:=c
 obtain ⟨k,r,um,am,st⟩:=u
 simp only at n n1 n2 m
 simp only [Cfg.v,Un.v] at hC ⊢
 clear h
 rcases m with rfl | rfl | rfl
 ·have k0:¬ k=0:=fun e=>n ⟨rfl,e⟩
  clear n n1 n2
  rw [cD rfl];simp -implicitDefEqProofs [-ac,-AV.one,-ad,nR,hC,k0]
 ·have k0:¬ k=1:=fun e=>n1 ⟨rfl,e⟩
  clear n n1 n2
  rw [cD rfl];simp -implicitDefEqProofs [-ac,-AV.one,-ad,nR,hC,k0]
 ·have k0:¬ k=2:=fun e=>n2 ⟨rfl,.inl e⟩
  have k1:¬ k=3:=fun e=>n2 ⟨rfl,.inr e⟩
  clear n n1 n2
  rw [cD rfl];simp -implicitDefEqProofs [-ac,-AV.one,-ad,nR,hC,k0,k1]
theorem UU (h:c.chk=0) (m:c.mode=1) (hk:u.kind=1) (hs:u.sm) (H:ae):PWx c u H:=by
 have hC:=fun H=>iD c H
 rw [h] at hC
 replace hC:∀ H,callW P fj [.agg c.v] H=some (ai 0,H):=hC
 have hS:=fun H=>Uv u.um (fun f hf=>by have:=hs.us f hf;omega) (by have:=hs.uf;omega) c.bits H
 by_cases h0:dZ u.um c.bits=0
 ·rw [h0] at hS
  replace hS:∀ H,callW P qF [.agg u.um.v,ai c.bits] H=some (ai 0,H):=hS
  refine ⟨_,true,_,0,.umE h m hk h0,?_⟩
  rw [gE]
  clear h0 hs
  obtain ⟨mo,bi,wi,re,pr,ph,pp,pb,mr,q⟩:=c
  obtain ⟨k,r,⟨ufi,usn,uz,uff⟩,am,st⟩:=u
  simp only at m hk
  subst m hk
  simp only [Cfg.v,Un.v,Um.v,Um.f] at hC hS ⊢
  clear h
  rw [cD rfl];simp -implicitDefEqProofs [-ac,-AV.one,-ad,nR,hC,hS]
 ·obtain ⟨out,k,hW,w3⟩:=Oy u.um h0 H
  refine ⟨_,false,_,k,.um h m hk h0 out hW,?_⟩
  rw [wS]
  obtain ⟨n,hn⟩:=nm (dZ u.um c.bits)
  rw [hn] at hS h0
  have g1:0<n:=by omega
  have g2:(0:Int)<n:=by omega
  have g3:(n:Int) > 0:=by omega
  obtain ⟨N,hN⟩:=nm (List.replicate k AObj.other)
  have hNl:List.replicate N.length AObj.other=N:=by rw [← hN];simp
  rw [hN] at w3 ⊢
  generalize ax out=bo at *
  clear h0 hs hW hN hn
  obtain ⟨mo,bi,wi,re,pr,ph,pp,pb,mr,q⟩:=c
  obtain ⟨k,r,⟨ufi,usn,uz,uff⟩,am,st⟩:=u
  simp only at m hk
  subst m hk
  simp only [Cfg.v,Un.v,Um.v,Um.f] at hC hS w3 ⊢
  clear h
  rw [cD rfl];simp -implicitDefEqProofs [-ac,-AV.one,-ad,nR,hC,hS,g1,g2,g3,w3,hNl]
theorem UV (h:c.chk=0) (m:c.mode=2) (hk:u.kind=2) (hs:u.sm) (H:ae):PWx c u H:=by
 have hC:=fun H=>iD c H
 rw [h] at hC
 replace hC:∀ H,callW P fj [.agg c.v] H=some (ai 0,H):=hC
 have hS:=fun H=>adk u.am (fun f hf=>by have:=hs.as f hf;omega) (by have:=hs.af;omega) c.bits H
 by_cases h0:cO u.am c.bits=0
 ·rw [h0] at hS
  replace hS:∀ H,callW P tb [.agg u.am.v,ai c.bits] H=some (ai 0,H):=hS
  refine ⟨_,true,_,0,.amE h m hk h0,?_⟩
  rw [gE]
  clear h0 hs
  obtain ⟨mo,bi,wi,re,pr,ph,pp,pb,mr,q⟩:=c
  obtain ⟨k,r,um,⟨po,fi,sn,pa,la,off,z0,ff⟩,st⟩:=u
  simp only at m hk
  subst m hk
  simp only [Cfg.v,Un.v,Pk.v,Pk.f,aZ] at hC hS ⊢
  clear h
  rw [cD rfl];simp -implicitDefEqProofs [-ac,-AV.one,-ad,nR,hC,hS]
 ·obtain ⟨out,k,hW,w3⟩:=Uk u.am h0 H
  refine ⟨_,false,_,k,.am h m hk h0 out hW,?_⟩
  rw [wS]
  obtain ⟨n,hn⟩:=nm (cO u.am c.bits)
  rw [hn] at hS h0
  have g1:0<n:=by omega
  have g2:(0:Int)<n:=by omega
  have g3:(n:Int) > 0:=by omega
  obtain ⟨N,hN⟩:=nm (List.replicate k AObj.other)
  have hNl:List.replicate N.length AObj.other=N:=by rw [← hN];simp
  rw [hN] at w3 ⊢
  generalize ax out=bo at *
  clear h0 hs hW hN hn
  obtain ⟨mo,bi,wi,re,pr,ph,pp,pb,mr,q⟩:=c
  obtain ⟨k,r,um,⟨po,fi,sn,pa,la,off,z0,ff⟩,st⟩:=u
  simp only at m hk
  subst m hk
  simp only [Cfg.v,Un.v,Pk.v,Pk.f,aZ] at hC hS w3 ⊢
  clear h
  rw [cD rfl];simp -implicitDefEqProofs [-ac,-AV.one,-ad,nR,hC,hS,g1,g2,g3,w3,hNl]
theorem UW (h:c.chk=0) (m:c.mode=2) (hk:u.kind=3) (hs:u.sm) (H:ae):PWx c u H:=by
 have hC:=fun H=>iD c H
 rw [h] at hC
 replace hC:∀ H,callW P fj [.agg c.v] H=some (ai 0,H):=hC
 have hw:=yi h m
 have hS:=fun H=>UB u.st (by have:=hs.ms;omega) c.bits H
 rw [decide_eq_true hw,Bool.true_and] at hS
 by_cases h0:jn u.st c.bits.toNat=false
 ·rw [h0] at hS
  refine ⟨_,true,_,0,.stE h m hk h0,?_⟩
  rw [gE]
  clear h0 hs hw
  obtain ⟨mo,bi,wi,re,pr,ph,pp,pb,mr,q⟩:=c
  obtain ⟨k,r,um,am,⟨sa,sz,sm⟩⟩:=u
  simp only at m hk
  subst m hk
  simp only [Cfg.v,Un.v,St.v] at hC hS ⊢
  clear h
  rw [cD rfl];simp -implicitDefEqProofs [-ac,-AV.one,-ad,nR,hC,hS]
 ·have h0t:jn u.st c.bits.toNat=true:=by cases h:jn u.st c.bits.toNat with | true=>rfl | false=>exact (h0 h).elim
  obtain ⟨out,k,hW,w3⟩:=AG u.st hw h0t H
  rw [h0t] at hS
  refine ⟨_,false,_,k,.st h m hk h0t out hW,?_⟩
  rw [wS]
  obtain ⟨N,hN⟩:=nm (List.replicate k AObj.other)
  have hNl:List.replicate N.length AObj.other=N:=by rw [← hN];simp
  rw [hN] at w3 ⊢
  generalize ax out=bo at *
  clear h0 h0t hs hW hN hw
  obtain ⟨mo,bi,wi,re,pr,ph,pp,pb,mr,q⟩:=c
  obtain ⟨k,r,um,am,⟨sa,sz,sm⟩⟩:=u
  simp only at m hk
  subst m hk
  simp only [Cfg.v,Un.v,St.v] at hC hS w3 ⊢
  clear h
  rw [cD rfl];simp -implicitDefEqProofs [-ac,-AV.one,-ad,nR,hC,hS,w3,hNl]
end
theorem Lw (c:Cfg) (u:Un) (hs:u.sm) (H:ae):PWx c u H:=by
 by_cases h:c.chk=0
 case neg=>exact O2 h H
 by_cases n:c.mode=0∧u.kind=0
 ·exact O3 h n.1 n.2 hs H
 by_cases n1:c.mode=1∧u.kind=1
 ·exact UU h n1.1 n1.2 hs H
 by_cases n2:c.mode=2∧u.kind=2
 ·exact UV h n2.1 n2.2 hs H
 by_cases n3:c.mode=2∧u.kind=3
 ·exact UW h n3.1 n3.2 hs H
 exact Hg h n n1 (fun h=>h.2.elim (fun e=>n2 ⟨h.1,e⟩) (fun e=>n3 ⟨h.1,e⟩)) H
end Go.A.V.S
namespace Go.A.V.S
open Go Go.A
theorem EG {ff:List Bs} (h:jk ff=false):ff.length≤1000∧∀ f∈ff,f.2.length≤8192:=by
 have hgr:=AD h
 refine ⟨?_,fun f hf=>by have:=hgr.2.1 f.2 (List.mem_map_of_mem hf);omega⟩
 by_cases h0:bb ff=[]
 ·have:=congrArg List.length h0
  rw [br] at this;simp at this;rw [this];simp
 ·have:=hgr.1 h0;omega
theorem LD {u:Un} (h:u.great=false):u.sm:=by
 simp only [Un.great,Bool.or_eq_false_iff,decide_eq_false_iff_not] at h
 obtain ⟨⟨⟨h1,h2⟩,h3⟩,h4⟩:=h
 exact ⟨by omega,(EG h2).1,(EG h2).2,(EG h3).1,(EG h3).2,by omega⟩
theorem aew {u:Un} (h:u.ok):u.n.ok:=⟨h.r,h.uf,h.af,h.ms,h.ub,h.ab⟩
theorem LE (b:List Nat) (z:Bool) (H:ae) (f:Option Nat):Br H (lst z 1 f (ax b))=some (.c (.string (qn b))):=El H z f b
theorem qw:un0.n.eq un0=true:=by decide
theorem AL {c:Cfg} {b:Bs} {e:Nat} {x:Un} (hb:b.2.length≤8192) (hby:bm b.2) (h:ga c b e x):x.ok:=by
 by_cases he:e=0
 ·exact (LA hb hby h he).2.1
 ·cases h with
  | bad | none | long | umE | stE | amE=>exact UX
  | raw | um | st | am=>exact (he rfl).elim
theorem Dp {c:Cfg} {b:Bs} {e e2:Nat} {x y:Un} (h1:ga c b e x) (h2:ga c b e2 y):e=e2∧x.n.eq y=true:=by
 cases h1 with
 | bad h =>
  cases h2 with
  | bad=>exact ⟨rfl,qw⟩
  | _=>exfalso;omega
 | none h m l =>
  cases h2 with
  | none=>exact ⟨rfl,qw⟩
  | _=>exfalso;omega
 | long h m l =>
  cases h2 with
  | long=>exact ⟨rfl,qw⟩
  | _=>exfalso;omega
 | raw h m l l2 =>
  cases h2 with
  | raw=>exact ⟨rfl,by simp [Un.eq,Un.n,Um.eq,Pk.eq,St.eq]⟩
  | _=>exfalso;omega
 | umE h m e =>
  cases h2 with
  | umE=>exact ⟨rfl,qw⟩
  | um _ _ out e2=>exact (e (congrArg Prod.fst e2)).elim
  | _=>exfalso;omega
 | um h m out e =>
  cases h2 with
  | umE _ _ e2=>exact (e2 (congrArg Prod.fst e)).elim
  | um _ _ out2 e2 =>
   have h3:=congrArg Prod.snd (e.symm.trans e2)
   simp only at h3
   exact ⟨rfl,by simp [Un.eq,Un.n,Um.eq,Pk.eq,St.eq,G6,h3]⟩
  | _=>exfalso;omega
 | stE h m l n e =>
  cases h2 with
  | stE=>exact ⟨rfl,qw⟩
  | st _ _ _ _ ack ms e2=>exact (e (congrArg Prod.fst e2)).elim
  | _=>exfalso;omega
 | st h m l n ack ms e =>
  cases h2 with
  | stE _ _ _ _ e2=>exact (e2 (congrArg Prod.fst e)).elim
  | st _ _ _ _ ack2 ms2 e2 =>
   have h3:=e.symm.trans e2
   simp only [zqp,true_and] at h3
   exact ⟨rfl,by simp [Un.eq,Un.n,Um.eq,Pk.eq,St.eq,h3.1,h3.2]⟩
  | _=>exfalso;omega
 | amE h m n e =>
  cases h2 with
  | amE=>exact ⟨rfl,qw⟩
  | am _ _ _ out e2=>exact (e (congrArg Prod.fst e2)).elim
  | _=>exfalso;omega
 | am h m n out e =>
  cases h2 with
  | amE _ _ _ e2=>exact (e2 (congrArg Prod.fst e)).elim
  | am _ _ _ out2 e2 =>
   have h3:=congrArg Prod.snd (e.symm.trans e2)
   simp only at h3
   exact ⟨rfl,by simp [Un.eq,Un.n,Um.eq,Pk.eq,St.eq,G7,h3]⟩
  | _=>exfalso;omega
theorem LF {c:Cfg} {u:Un} {e:Nat} {o:List Nat} (h:WriteP c u.n e o):WriteP c u e o:=by
 cases h with
 | bad h=>exact .bad h
 | rawE h m k l=>exact .rawE h m k l
 | raw h m k l l2=>exact .raw h m k l l2
 | umE h m k e=>exact .umE h m k e
 | um h m k e _ w=>exact @WriteP.um c u h m k e _ w
 | amE h m k e=>exact .amE h m k e
 | am h m k e _ w=>exact @WriteP.am c u h m k e _ w
 | stE h m k e=>exact .stE h m k e
 | st h m k e _ w=>exact @WriteP.st c u h m k e _ w
 | state h n n1 n2=>exact .state h n n1 n2
theorem AM {c:Cfg} {u:Un} {e e2:Nat} {o o2:List Nat} (h1:WriteP c u e o) (h2:WriteP c u e2 o2):e=e2∧o=o2:=by
 cases h1 with
 | bad h =>
  cases h2 with
  | bad=>exact ⟨rfl,rfl⟩
  | _=>exfalso;omega
 | rawE h m k l =>
  cases h2 with
  | rawE=>exact ⟨rfl,rfl⟩
  | _=>exfalso;omega
 | raw h m k l l2 =>
  cases h2 with
  | raw=>exact ⟨rfl,rfl⟩
  | _=>exfalso;omega
 | umE h m k e =>
  cases h2 with
  | umE=>exact ⟨rfl,rfl⟩
  | _=>exfalso;omega
 | um h m k e _ w =>
  cases h2 with
  | um _ _ _ _ _ w2=>exact ⟨rfl,AI w w2⟩
  | _=>exfalso;omega
 | amE h m k e =>
  cases h2 with
  | amE=>exact ⟨rfl,rfl⟩
  | _=>exfalso;omega
 | am h m k e _ w =>
  cases h2 with
  | am _ _ _ _ _ w2=>exact ⟨rfl,An w w2⟩
  | _=>exfalso;omega
 | stE h m k e =>
  cases h2 with
  | stE=>exact ⟨rfl,rfl⟩
  | st _ _ _ e2=>rw [e] at e2;simp at e2
  | _=>exfalso;omega
 | st h m k e _ w =>
  cases h2 with
  | stE _ _ _ e2=>rw [e] at e2;simp at e2
  | st _ _ _ _ _ w2=>exact ⟨rfl,w.uniq w2⟩
  | _=>exfalso;omega
 | state h n n1 n2 =>
  cases h2 with
  | state=>exact ⟨rfl,rfl⟩
  | _=>exfalso;omega
theorem aex {u:Un} (h:u.sm):u.n.sm:=⟨h.r,h.uf,h.us,h.af,h.as,h.ms⟩
set_option maxHeartbeats 1000000 in
theorem Hi (c:Cfg) (b:Bs) (u:Un) (hby:bm b.2) (hu:u.st.ms.length≤1000→u.um.ff.length≤100000→u.am.ff.length≤100000→u.ok) (H:ae) :
  ∃ k,callW P Gd [.agg c.v,bv b,.agg u.v] H=some (ab true,H++List.replicate k .other):=by
 have hlen:=cz b
 have hGr:=fun H=>OF u H
 obtain ⟨n,hn⟩:=nm (b.2.length)
 by_cases h41:4100<n
 ·obtain ⟨k,hA⟩:=Do H
  refine ⟨k,?_⟩
  have h1:(n:Int) > 4100:=by omega
  have h2:(4100:Int)<n:=by omega
  obtain ⟨N,hN⟩:=nm (List.replicate k AObj.other)
  have hNl:List.replicate N.length AObj.other=N:=by rw [← hN];simp
  rw [hN] at hA ⊢
  rw [hn] at hlen
  clear hGr hn hN hu
  simp only [Cfg.v,Un.v]
  rw [je rfl];simp -implicitDefEqProofs [-ac,-AV.one,-ad,Jr,hlen,h41,h1,h2,hA,hNl]
 have h1:¬ (n:Int) > 4100:=by omega
 have h2:¬ (4100:Int)<n:=by omega
 cases hg:u.great with
 | true =>
  rw [hg] at hGr
  obtain ⟨k,hA⟩:=Do H
  refine ⟨k,?_⟩
  obtain ⟨N,hN⟩:=nm (List.replicate k AObj.other)
  have hNl:List.replicate N.length AObj.other=N:=by rw [← hN];simp
  rw [hN] at hA ⊢
  rw [hn] at hlen
  clear hn hN hu
  simp only [Cfg.v,Un.v] at hGr ⊢
  rw [je rfl];simp -implicitDefEqProofs [-ac,-AV.one,-ad,Jr,hlen,h41,h1,h2,hGr,hA,hNl]
 | false =>
 rw [hg] at hGr
 have hsm:=LD hg
 have hok:=hu hsm.ms (by have:=hsm.uf;omega) (by have:=hsm.af;omega)
 have hb8:b.2.length≤8192:=by omega
 obtain ⟨e,x,k1,p1,c1⟩:=uD c b hb8 hby H
 obtain ⟨G1,hG1⟩:=nm (H++List.replicate k1 AObj.other)
 rw [hG1] at c1
 obtain ⟨e2,y,k2,p2,c2⟩:=OZ c b hb8 hby G1
 rw [← hG1,iM,hG1] at c2
 obtain ⟨G2,hG2⟩:=nm (H++List.replicate (k1+k2) AObj.other)
 rw [hG2] at c2
 obtain ⟨rfl,heq⟩:=Dp p1 p2
 obtain ⟨e3,z3,out,k3,w1,c3⟩:=wT c u hsm G2
 rw [← hG2,iM,hG2] at c3
 obtain ⟨G3,hG3⟩:=nm (H++List.replicate (k1+k2+k3) AObj.other)
 rw [hG3] at c3
 obtain ⟨e4,z4,out4,k4,w2,c4⟩:=Lw c u.n (aex hsm) G3
 rw [← hG3,iM,hG3] at c4
 obtain ⟨G4,hG4⟩:=nm (H++List.replicate (k1+k2+k3+k4) AObj.other)
 rw [hG4] at c4
 obtain ⟨rfl,rfl⟩:=AM w1 (LF w2)
 obtain ⟨k5,hA⟩:=Do G4
 rw [← hG4,iM,hG4] at hA
 have xok:=AL hb8 hby p1
 have yok:=AL hb8 hby p2
 have a1:=fun H=>ade u hsm.ms H
 have a2:=fun H=>ade x xok.ms H
 have a3:=fun H=>OG x.n y (aew xok) yok H
 rw [heq] at a3
 have hby2:=(LC hok w1).1
 have hst:=tV .no hby2 hby2
 rw [decide_eq_true rfl] at hst
 have s3:=LE out z3
 have s4:=LE out z4
 refine ⟨k1+k2+k3+k4+k5,?_⟩
 obtain ⟨N,hN⟩:=nm (List.replicate (k1+k2+k3+k4+k5) AObj.other)
 have hNl:List.replicate N.length AObj.other=N:=by rw [← hN];simp
 rw [hN] at hA ⊢
 rw [hn] at hlen
 rw [show bv (z3,out)=lst z3 1 none (ax out) from rfl] at c3
 rw [show bv (z4,out)=lst z4 1 none (ax out) from rfl] at c4
 have sx:aJ (bv x.raw)=true:=av _ _ _ _
 have sy:aJ (bv y.raw)=true:=av _ _ _ _
 have su:aJ (bv u.raw)=true:=av _ _ _ _
 generalize qn out=so at *
 generalize ax out=bo at *
 clear hu hsm hok hG1 hG2 hG3 hG4 p1 p2 w1 w2 xok yok hby2 heq hN hn hg hby hb8
 simp only [Cfg.v,Un.v,Un.n] at hGr c1 c2 c3 c4 a1 a2 a3 ⊢
 rw [je rfl];simp -implicitDefEqProofs [-ac,-AV.one,-ad,Jr,hlen,h41,h1,h2,hGr,c1,c2,c3,c4,a1,a2,a3,hA,hNl,s3,s4,hst,sx,sy,su,aK,-cw,aB,aP,aC,aM,SOpG.reads,SOp.slots,SX.slots,SOp.noL,bq,av,aJ,aE,eqV]
end Go.A.V.S
namespace Go.A.V.S
open Go Go.A Go.A.V
theorem O4 {vs:List AV} (h:V.CT.iss [.i .i64,.i .i64,.i .i64,.i .i64,.i .i64,.i .i64,.i .i64,.i .i64,.i .i64,.i .i64] vs):∃ c:Cfg,vs=c.v:=by
 obtain ⟨c0,r0,rfl,h0,h⟩:=bM h
 obtain ⟨c1,r1,rfl,h1,h⟩:=bM h
 obtain ⟨c2,r2,rfl,h2,h⟩:=bM h
 obtain ⟨c3,r3,rfl,h3,h⟩:=bM h
 obtain ⟨c4,r4,rfl,h4,h⟩:=bM h
 obtain ⟨c5,r5,rfl,h5,h⟩:=bM h
 obtain ⟨c6,r6,rfl,h6,h⟩:=bM h
 obtain ⟨c7,r7,rfl,h7,h⟩:=bM h
 obtain ⟨c8,r8,rfl,h8,h⟩:=bM h
 obtain ⟨c9,r9,rfl,h9,h⟩:=bM h
 obtain rfl:=xX h
 obtain ⟨a0,rfl,_⟩:=kh h0
 obtain ⟨a1,rfl,_⟩:=kh h1
 obtain ⟨a2,rfl,_⟩:=kh h2
 obtain ⟨a3,rfl,_⟩:=kh h3
 obtain ⟨a4,rfl,_⟩:=kh h4
 obtain ⟨a5,rfl,_⟩:=kh h5
 obtain ⟨a6,rfl,_⟩:=kh h6
 obtain ⟨a7,rfl,_⟩:=kh h7
 obtain ⟨a8,rfl,_⟩:=kh h8
 obtain ⟨a9,rfl,_⟩:=kh h9
 exact ⟨⟨a0,a1,a2,a3,a4,a5,a6,a7,a8,a9⟩,rfl⟩
theorem rA:∀ (l:List (List AV)),(∀ cs∈l,V.CT.iss [.i .i64,.b,.i .i64,.i .i64] cs)→∃ ms:List Ms,l=mvs ms
 | [],_=>⟨[],rfl⟩
 | x :: r,h=>by
  have h1:=h x (by simp)
  obtain ⟨c0,r0,rfl,h0,h1⟩:=bM h1
  obtain ⟨c1,r1,rfl,h2,h1⟩:=bM h1
  obtain ⟨c2,r2,rfl,h3,h1⟩:=bM h1
  obtain ⟨c3,r3,rfl,h4,h1⟩:=bM h1
  obtain rfl:=xX h1
  obtain ⟨a0,rfl,_⟩:=kh h0
  obtain ⟨a1,rfl⟩:=N5 h2
  obtain ⟨a2,rfl,_⟩:=kh h3
  obtain ⟨a3,rfl,_⟩:=kh h4
  obtain ⟨ms,rfl⟩:=rA r (fun cs hc=>h cs (by simp [hc]))
  exact ⟨⟨a0,a1,a2,a3⟩ :: ms,rfl⟩
theorem Hj {c:AV} (h:V.CT.is (.sl [.i .i64,.b,.i .i64,.i .i64]) c):∃ (z:Bool) (ms:List Ms),c=lst z 4 none (mvs ms):=by
 rw [V.CT.is] at h
 obtain ⟨z,l,rfl,hl⟩:=h
 obtain ⟨ms,rfl⟩:=rA l hl
 exact ⟨z,ms,rfl⟩
theorem UY {vs:List AV} (h:V.CT.iss [.i .i64,.sl [.i .u8],.i .i64,.i .i64,.sl [.sl [.i .u8]],.b,.i .i64,.i .i64,.b,.b,.i .i64,.sl [.sl [.i .u8]],.i .i64,.sl [.i .i64,.b,.i .i64,.i .i64]] vs) :
  ∃ u:Un,vs=u.v∧(u.st.ms.length≤1000→u.um.ff.length≤100000→u.am.ff.length≤100000→u.ok):=by
 obtain ⟨c0,r0,rfl,h0,h⟩:=bM h
 obtain ⟨c1,r1,rfl,h1,h⟩:=bM h
 obtain ⟨c2,r2,rfl,h2,h⟩:=bM h
 obtain ⟨c3,r3,rfl,h3,h⟩:=bM h
 obtain ⟨c4,r4,rfl,h4,h⟩:=bM h
 obtain ⟨am,rest,rfl,hpk,h⟩:∃ (p:Pk) (rest:List AV),r4=p.v++rest∧dg p.ff∧V.CT.iss [.i .i64,.sl [.i .i64,.b,.i .i64,.i .i64]] rest:=by
  obtain ⟨d0,q0,rfl,g0,h⟩:=bM h
  obtain ⟨d1,q1,rfl,g1,h⟩:=bM h
  obtain ⟨d2,q2,rfl,g2,h⟩:=bM h
  obtain ⟨d3,q3,rfl,g3,h⟩:=bM h
  obtain ⟨d4,q4,rfl,g4,h⟩:=bM h
  obtain ⟨d5,q5,rfl,g5,h⟩:=bM h
  obtain ⟨d6,q6,rfl,g6,hh⟩:=bM h
  obtain ⟨po,rfl⟩:=N5 g0
  obtain ⟨fi,rfl,_⟩:=kh g1
  obtain ⟨sn,rfl,_⟩:=kh g2
  obtain ⟨pa,rfl⟩:=N5 g3
  obtain ⟨la,rfl⟩:=N5 g4
  obtain ⟨off,rfl,_⟩:=kh g5
  obtain ⟨z,ff,rfl,hf⟩:=wJ g6
  exact ⟨⟨po,fi,sn,pa,la,off,z,ff⟩,q6,rfl,hf,hh⟩
 obtain ⟨d0,q0,rfl,g0,h⟩:=bM h
 obtain ⟨d1,q1,rfl,g1,h⟩:=bM h
 obtain rfl:=xX h
 obtain ⟨k,rfl,_⟩:=kh h0
 obtain ⟨b,rfl,hb⟩:=ur h1
 obtain ⟨fi,rfl,_⟩:=kh h2
 obtain ⟨sn,rfl,_⟩:=kh h3
 obtain ⟨z,ff,rfl,hf⟩:=wJ h4
 obtain ⟨ack,rfl,_⟩:=kh g0
 obtain ⟨zm,ms,rfl⟩:=Hj g1
 exact ⟨⟨k,b,⟨fi,sn,z,ff⟩,am,⟨ack,zm,ms⟩⟩,rfl,fun h1 h2 h3=>⟨hb,h2,h3,h1,hf,hpk⟩⟩
theorem yj (u0:List AV) (h0:V.CT.iss [.i .i64,.i .i64,.i .i64,.i .i64,.i .i64,.i .i64,.i .i64,.i .i64,.i .i64,.i .i64] u0) (c1:AV) (i1:V.CT.is (.sl [.i .u8]) c1) (u2:List AV) (h2:V.CT.iss [.i .i64,.sl [.i .u8],.i .i64,.i .i64,.sl [.sl [.i .u8]],.b,.i .i64,.i .i64,.b,.b,.i .i64,.sl [.sl [.i .u8]],.i .i64,.sl [.i .i64,.b,.i .i64,.i .i64]] u2) :
  ∃ H',callW P Gd [.agg u0,c1,.agg u2] []=some (ab true,H'):=by
 obtain ⟨c,rfl⟩:=O4 h0
 obtain ⟨b,rfl,hb⟩:=ur i1
 obtain ⟨u,rfl,hu⟩:=UY h2
 obtain ⟨k,h⟩:=Hi c b u hb hu []
 exact ⟨_,h⟩
end Go.A.V.S
