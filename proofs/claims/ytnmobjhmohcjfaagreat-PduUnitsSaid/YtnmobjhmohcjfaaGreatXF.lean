/- status: a number, read. -/
import Derived.Test.YtnmobjhmohcjfaaGreatXE
import Derived.Test.YtnmobjhmohcjfaaGreatXC
set_option linter.unusedSimpArgs false
set_option linter.unusedVariables false
set_option linter.unnecessarySimpa false
namespace Go.A.V.S
open Go Go.A
def RS (H:ae) (b:Bs) (a:Nat) (e:Int):ae:=H++[.row [bv b,ai a],.row [.ptr H.length 0 2,ai e]]
theorem Lo (H:ae) (b:Bs) (a:Nat) (e:Int):(RS H b a e)[H.length+1]?=some (.row [.ptr H.length 0 2,ai e]):=by simp [RS]
theorem ada (H:ae) (b:Bs) (a:Nat) (e:Int):bw (RS H b a e) (H.length+1) 0 1 2=some [.ptr H.length 0 2]:=by simp [bw,Lo,AObj.isRow,AObj.lo,AObj.cells]
theorem OB (H:ae) (b:Bs) (a:Nat) (e:Int):bw (RS H b a e) (H.length+1) 1 1 2=some [ai e]:=by simp [bw,Lo,AObj.isRow,AObj.lo,AObj.cells]
theorem aep (H:ae) (b:Bs) (a:Nat) (e e':Int):dT (RS H b a e) (H.length+1) 1 2 [ai e']=some (RS H b a e'):=by
 simp only [dT,Lo]
 simp [RS]
theorem Px (H:ae) (b:Bs) (a:Nat) (e e':Int) (σ:List AV):bM σ (RS H b a e) none (.ptr (H.length+1) 1 2) (ai e')=some (σ,RS H b a e'):=by
 simp only [bM,aep,Option.map_some]
theorem Dk {e:Int} (he:e≠0) (H:ae) (b:Bs) (a:Nat) (n:Int):callW P nH [.ptr (H.length+1) 0 2,ai n] (RS H b a e)=some (ai 0,RS H b a e):=by
 have r1:=OB H b a e
 have hl:(RS H b a e).length=H.length+2:=by simp [RS]
 generalize RS H b a e=G at *
 rw [fQ rfl];simp -implicitDefEqProofs [-ac,-AV.one,-ad,zK,r1,he,hl]
 exact List.take_of_length_le (by omega)
theorem He (H:ae) (b:Bs) (hb:b.2.length≤8192) (hby:bF b.2) {a:Nat} (ha:a≤8 * b.2.length) (n:Nat) (hn:n≤16):callW P nH [.ptr (H.length+1) 0 2,ai n] (RS H b a 0) =
  if a+n≤8 * b.2.length then some (ai (aq b.2 a n:Nat),RS H b (a+n) 0) else some (ai 0,RS H b a 8):=by
 have r1:=OB H b a 0
 have r0:=ada H b a 0
 have hg:=Get (H:=RS H b a 0) (rr:=H.length) (b:=b) (by simp [RS]) hb hby ha n (by omega)
 have hRD:∀ a':Nat,RD (RS H b a 0) H.length b a'=RS H b a' 0:=fun a'=>by simp [RD,RS]
 simp only [hRD] at hg
 by_cases c:a+n≤8 * b.2.length
 ·rw [if_pos c] at hg ⊢
  have w1:=Px H b (a+n) 0 0
  have hlt:=bW (bs:=b.2) (a:=a) (n:=n) c
  have h16:2 ^ n≤2 ^ 16:=Nat.pow_le_pow_right (by omega) hn
  have e16:(2:Nat) ^ 16=65536:=by decide
  have wv:IntKind.i64.wrap ((aq b.2 a n:Nat):Int)=(aq b.2 a n:Nat):=ag (by omega) (by omega)
  have l1:(RS H b a 0).length=H.length+2:=by simp [RS]
  have l2:(RS H b (a+n) 0).length=H.length+2:=by simp [RS]
  generalize RS H b (a+n) 0=G2 at *
  generalize RS H b a 0=G at *
  generalize aq b.2 a n=v at *
  clear hRD
  rw [fQ rfl];simp -implicitDefEqProofs [-ac,-AV.one,-ad,zK,r1,r0,hg,w1,wv,l1,l2]
  exact List.take_of_length_le (by omega)
 ·rw [if_neg c] at hg ⊢
  have w1:=Px H b a 0 8
  have l1:(RS H b a 0).length=H.length+2:=by simp [RS]
  have l2:(RS H b a 8).length=H.length+2:=by simp [RS]
  have wz:IntKind.i64.wrap 0=0:=rfl
  generalize RS H b a 8=G2 at *
  generalize RS H b a 0=G at *
  clear hRD
  rw [fQ rfl];simp -implicitDefEqProofs [-ac,-AV.one,-ad,zK,r1,r0,hg,w1,wz,l1,l2]
  exact List.take_of_length_le (by omega)
def gS (bs:List Nat) (a e n:Nat):Nat × Nat × Nat:=if e≠0 then (0,a,e) else if a+n≤8 * bs.length then (aq bs a n,a+n,0) else (0,a,8)
theorem gq {bs:List Nat} {a:Nat} (h:a≤8 * bs.length) (e n:Nat):(gS bs a e n).2.1≤8 * bs.length:=by
 unfold gS;split
 ·exact h
 ·split
  ·assumption
  ·exact h
theorem adb (bs:List Nat) (a e n:Nat):(gS bs a e n).1<2 ^ n:=by
 unfold gS;split
 ·exact Nat.two_pow_pos _
 ·split
  ·exact bW (by assumption)
  ·exact Nat.two_pow_pos _
theorem ju (H:ae) (b:Bs) (hb:b.2.length≤8192) (hby:bF b.2) {a:Nat} (ha:a≤8 * b.2.length) (e n:Nat) (hn:n≤16) (n':Int) (hn':n'=n):callW P nH [.ptr (H.length+1) 0 2,ai n'] (RS H b a e) =
  some (ai ((gS b.2 a e n).1:Nat),RS H b (gS b.2 a e n).2.1 ((gS b.2 a e n).2.2:Nat)):=by
 subst hn'
 by_cases he:e=0
 ·subst he
  have h:=He H b hb hby ha n hn
  rw [gS,if_neg (by simp)]
  by_cases c:a+n≤8 * b.2.length
  ·rw [if_pos c] at h ⊢;exact h
  ·rw [if_neg c] at h ⊢;exact h
 ·rw [gS,if_pos he]
  exact Dk (e:=e) (by omega) H b a n
theorem eq1 (v:Nat):decide ((v:Int)=1)=decide (v=1):=decide_eq_decide.2 (by omega)
theorem Dl {w ow:Nat} (hw:w=10∨w=16) (F:rF w ow) (H:ae) (b:Bs) (hb:b.2.length≤8192) (hby:bF b.2) {a:Nat} (ha:a≤8 * b.2.length) (e:Nat)
  {v1 a1 e1 v2 a2 e2 v3 a3 e3:Nat} (g1:gS b.2 a e w=(v1,a1,e1)) (g2:gS b.2 a1 e1 1=(v2,a2,e2)) (g3:gS b.2 a2 e2 1=(v3,a3,e3)) (h3:v3≠1) :
  callW P pg [.ptr (H.length+1) 0 2,ai w] (RS H b a e)=some (.tup [.agg [ai v1,ab false,ai 0,ai 0],ab (decide (v2=1))],RS H b a3 e3):=by
 have k1:=ju H b hb hby ha e w (by omega) w rfl
 have la1:=gq ha e w
 rw [g1] at k1 la1
 have k2:=ju H b hb hby la1 e1 1 (by omega) 1 rfl
 have la2:=gq la1 e1 1
 rw [g2] at k2 la2
 have k3:=ju H b hb hby la2 e2 1 (by omega) 1 rfl
 rw [g3] at k3
 have q3:decide ((v3:Int)=1)=false:=decide_eq_false (by omega)
 have q3':¬ (v3:Int)=1:=by omega
 have q2:=eq1 v2
 have l0:(RS H b a e).length=H.length+2:=by simp [RS]
 have l3:(RS H b a3 e3).length=H.length+2:=by simp [RS]
 simp only at k1 k2 k3
 generalize RS H b a3 e3=G3 at *
 generalize RS H b a2 e2=G2 at *
 generalize RS H b a1 e1=G1 at *
 generalize RS H b a e=G0 at *
 clear g1 g2 g3
 rw [iF rfl];simp -implicitDefEqProofs [-ac,-AV.one,-ad,D7,k1,k2,k3,q3,q3',q2,l0,l3]
 exact List.take_of_length_le (by omega)
theorem Hf (t k:Nat) (hk:k≤16) (ht:t<70000):(BitVec.ofNat 64 t &&& BitVec.ofNat 64 (2 ^ k - 1)).toNat=t % 2 ^ k:=by
 have h16:2 ^ k≤2 ^ 16:=Nat.pow_le_pow_right (by omega) hk
 have e16:(2:Nat) ^ 16=65536:=by decide
 rw [BitVec.toNat_and,BitVec.toNat_ofNat,BitVec.toNat_ofNat,Nat.mod_eq_of_lt (by omega),Nat.mod_eq_of_lt (by omega),Nat.and_two_pow_sub_one_eq_mod]
theorem Hg {w ow:Nat} (hw:w=10∨w=16) (F:rF w ow) (hsi:IntKind.i64.wrap (1 * 2 ^ ow)=((2 ^ ow:Nat):Int)) (H:ae) (b:Bs) (hb:b.2.length≤8192) (hby:bF b.2) {a:Nat} (ha:a≤8 * b.2.length) (e:Nat)
  {v1 a1 e1 v2 a2 e2 a3 e3 v4 a4 e4 v5 a5 e5:Nat} (g1:gS b.2 a e w=(v1,a1,e1)) (g2:gS b.2 a1 e1 1=(v2,a2,e2)) (g3:gS b.2 a2 e2 1=(1,a3,e3)) (g4:gS b.2 a3 e3 ow=(v4,a4,e4)) (g5:gS b.2 a4 e4 ow=(v5,a5,e5)) :
  callW P pg [.ptr (H.length+1) 0 2,ai w] (RS H b a e)=some (.tup [.agg [ai v1,ab true,ai v4,ai ((v5+1) % 2 ^ ow:Nat)],ab (decide (v2=1))],RS H b a5 e5):=by
 have ho:=F.o16
 have k1:=ju H b hb hby ha e w (by omega) w rfl
 have la1:=gq ha e w
 rw [g1] at k1 la1
 have k2:=ju H b hb hby la1 e1 1 (by omega) 1 rfl
 have la2:=gq la1 e1 1
 rw [g2] at k2 la2
 have k3:=ju H b hb hby la2 e2 1 (by omega) 1 rfl
 have la3:=gq la2 e2 1
 rw [g3] at k3 la3
 have k4:=ju H b hb hby la3 e3 ow (by omega) ow rfl
 have la4:=gq la3 e3 ow
 rw [g4] at k4 la4
 have k5:=ju H b hb hby la4 e4 ow (by omega) ow rfl
 have lt5:=adb b.2 a4 e4 ow
 rw [g5] at k5 lt5
 have h16:2 ^ ow≤2 ^ 16:=Nat.pow_le_pow_right (by omega) ho.1
 have e16:(2:Nat) ^ 16=65536:=by decide
 have hpos:1≤2 ^ ow:=Nat.one_le_two_pow
 have q2:=eq1 v2
 have l0:(RS H b a e).length=H.length+2:=by simp [RS]
 have l5:(RS H b a5 e5).length=H.length+2:=by simp [RS]
 have hmn:min ow 64=ow:=by omega
 have hw0:¬ (ow:Int)<0:=by omega
 have hpp':IntKind.i64.wrap (2 ^ ow)=((2 ^ ow:Nat):Int):=by rw [← hsi,Int.one_mul]
 have hs1:IntKind.i64.wrap (((2 ^ ow:Nat):Int) - 1)=((2 ^ ow - 1:Nat):Int):=by rw [ag (by omega) (by omega)];omega
 obtain ⟨v6,h6⟩:=nm (v5+1)
 have w6:IntKind.i64.wrap ((v5:Int)+1)=(v6:Int):=by rw [ag (by omega) (by omega)];omega
 have hA:=Hf v6 ow ho.1 (by simp only at lt5;omega)
 have hoc:=F.cl
 rw [h6]
 obtain ⟨v7,h7⟩:=nm (v6 % 2 ^ ow)
 have h7l:v7<2 ^ ow:=by rw [← h7];exact Nat.mod_lt _ (by omega)
 have w7:IntKind.i64.wrap (v7:Int)=v7:=ag (by omega) (by omega)
 rw [h7] at hA ⊢
 simp only at k1 k2 k3 k4 k5
 generalize RS H b a5 e5=G5 at *
 generalize RS H b a4 e4=G4 at *
 generalize RS H b a3 e3=G3 at *
 generalize RS H b a2 e2=G2 at *
 generalize RS H b a1 e1=G1 at *
 generalize RS H b a e=G0 at *
 clear g1 g2 g3 g4 g5
 generalize 2 ^ ow - 1=pm at *
 generalize ((2 ^ ow:Nat):Int)=pw at *
 rw [iF rfl];simp -implicitDefEqProofs [-ac,-AV.one,-ad,D7,aX,aO,bd,aP,aZ,SOpG.reads,SOp.slots,SX.slots,SOp.noL,rdV,aI,aW,aR,eqV,k1,k2,k3,q2,hoc,k4,hmn,hw0,hsi,hpp',hs1,k5,w6,l0,l5]
 erw [hA]
 exact ⟨w7,List.take_of_length_le (by omega)⟩
def cH (bs:List Nat) (a e w:Nat):Ms × Bool × Nat × Nat:=
 let r1:=gS bs a e w
 let r2:=gS bs r1.2.1 r1.2.2 1
 let r3:=gS bs r2.2.1 r2.2.2 1
 if r3.1=1 then
  let r4:=gS bs r3.2.1 r3.2.2 (aV w)
  let r5:=gS bs r4.2.1 r4.2.2 (aV w)
  (⟨r1.1,true,r4.1,((r5.1+1) % 2 ^ aV w:Nat)⟩,decide (r2.1=1),r5.2.1,r5.2.2)
 else (⟨r1.1,false,0,0⟩,decide (r2.1=1),r3.2.1,r3.2.2)
theorem OC {w ow:Nat} (hw:w=10∨w=16) (F:rF w ow) (hsi:IntKind.i64.wrap (1 * 2 ^ ow)=((2 ^ ow:Nat):Int)) (H:ae) (b:Bs) (hb:b.2.length≤8192) (hby:bF b.2) {a:Nat} (ha:a≤8 * b.2.length) (e:Nat) :
  callW P pg [.ptr (H.length+1) 0 2,ai w] (RS H b a e)=some (.tup [.agg (cH b.2 a e w).1.v,ab (cH b.2 a e w).2.1],RS H b (cH b.2 a e w).2.2.1 ((cH b.2 a e w).2.2.2:Nat)):=by
 obtain ⟨⟨v1,a1,e1⟩,g1⟩:∃ t,gS b.2 a e w=t:=⟨_,rfl⟩
 obtain ⟨⟨v2,a2,e2⟩,g2⟩:∃ t,gS b.2 a1 e1 1=t:=⟨_,rfl⟩
 obtain ⟨⟨v3,a3,e3⟩,g3⟩:∃ t,gS b.2 a2 e2 1=t:=⟨_,rfl⟩
 by_cases h3:v3=1
 ·subst h3
  obtain ⟨⟨v4,a4,e4⟩,g4⟩:∃ t,gS b.2 a3 e3 ow=t:=⟨_,rfl⟩
  obtain ⟨⟨v5,a5,e5⟩,g5⟩:∃ t,gS b.2 a4 e4 ow=t:=⟨_,rfl⟩
  have h:=Hg hw F hsi H b hb hby ha e g1 g2 g3 g4 g5
  simp only [cH,g1,g2,g3,F.of,g4,g5,if_true,Ms.v]
  exact h
 ·have h:=Dl hw F H b hb hby ha e g1 g2 g3 h3
  simp only [cH,g1,g2,g3,if_neg h3,Ms.v]
  exact h
theorem uH {bs:List Nat} {a:Nat} (h:a≤8 * bs.length) (e w:Nat):(cH bs a e w).2.2.1≤8 * bs.length:=by
 simp only [cH]
 split
 ·exact gq (gq (gq (gq (gq h _ _) _ _) _ _) _ _) _ _
 ·exact gq (gq (gq h _ _) _ _) _ _
def dR (bs:List Nat) (w:Nat):Nat→Nat→Nat→Bool→List Ms→Nat × List Ms
 | 0,_,_,_,_=>(2,[])
 | z+1,a,e,more,out =>
  if e≠0 then (e,[]) else
  if more=true then
   (if out.length=32 then (2,[]) else
    if (cH bs a e w).2.2.2=0∧bD (cH bs a e w).1 (qW w) (rW w)=false then (3,[]) else
    dR bs w z (cH bs a e w).2.2.1 (cH bs a e w).2.2.2 (cH bs a e w).2.1 (out++[(cH bs a e w).1]))
  else if aq bs a (cw a)=0∧bs.length - (a+cw a) / 8=0 then (0,out) else (3,[])
def bV (bs:List Nat) (w:Int):Nat × Nat × List Ms:=
 if w=10∨w=16 then
  (if bs.length=0 then (8,0,[]) else if ¬ aq bs 0 1=0 then (4,0,[]) else if ¬ aq bs 1 3=0 then (3,0,[]) else
   let r1:=gS bs 0 0 4
   let r2:=gS bs r1.2.1 r1.2.2 w.toNat
   let r3:=gS bs r2.2.1 r2.2.2 1
   let r:=dR bs w.toNat 34 r3.2.1 r3.2.2 (decide (r3.1=1)) []
   (r.1,if r.1=0 then r2.1 else 0,r.2))
 else (9,0,[])
def EJ (H:ae) (w:Nat) (b:Bs) (ack:Nat) (R:Nat × List Ms) (z:Nat) (σ:List AV) (G:ae):Prop:=
 ∃ (a e:Nat) (more:Bool) (out:List Ms),z+out.length=34∧out.length≤32∧a≤8 * b.2.length∧dR b.2 w z a e more out=R∧G=RS H b a e ∧
  σ=L 114 ((((((Tr.full 7).put (ah 1) (ai w)).put (ah 4) (.lbox [ai 0,bz])).put (ah 6) (.ptr (H.length+1) 0 2)).put (ah 7) (.lbox [ai ack,lst true 4 (some 94) (mvs out)])).put (ah 8) (ab more))
def Dm (H:ae) (b:Bs) (ack:Nat) (R:Nat × List Ms) (e:AExit) (σ:List AV) (G:ae):Prop:=
 e=.ret∧(∃ (a':Nat) (e':Int),G=RS H b a' e')∧∃ c,aN F_q14.res σ=some (.tup [.agg [ai (if R.1=0 then (ack:Int) else 0),lst true 4 c (mvs R.2)],ai (R.1:Nat)])
theorem lst_nil (z:Nat) (k:Option Nat):lst true z k (mvs [])=bz:=rfl
theorem uI (l:List Ms) (m:Ms):mvs (l++[m])=mvs l++[m.v]:=by simp [mvs]
set_option maxHeartbeats 2000000 in
theorem AM {H:ae} {w:Nat} (hw:w=10∨w=16) {b:Bs} (hb:b.2.length≤8192) (hby:bF b.2)
  (hmiss:∀ a,a≤8 * b.2.length→callW P pg [.ptr (H.length+1) 0 2,ai w] (RS H b a 0)=some (.tup [.agg (cH b.2 a 0 w).1.v,ab (cH b.2 a 0 w).2.1],RS H b (cH b.2 a 0 w).2.2.1 ((cH b.2 a 0 w).2.2.2:Nat))) (ack:Nat) (R:Nat × List Ms) (z:Nat) (σ:List AV) (G:ae) (hI:EJ H w b ack R z (kill (bK ey) σ) G) :
  Ends ((execW P jc ey σ G).bind (jumpW P jc D2 0)) fun s=>Dm H b ack R s.e s.σ s.H:=by
 refine g9 (EJ H w b ack R) (Dm H b ack R) rfl ?_ z σ G hI
 clear hI z σ G
 rintro z σ G ⟨a,e,more,out,hz,ho,ha,hR,rfl,hσ⟩
 rw [← dp,hσ]
 have r1:=OB H b a e
 have r0:=ada H b a e
 have l0:(RS H b a e).length=H.length+2:=by simp [RS]
 have hlen:=d7 out
 obtain ⟨z',rfl⟩:∃ z',z=z'+1:=⟨z - 1,by omega⟩
 rw [dR] at hR
 by_cases he:e=0
 ·subst he
  rw [if_neg (by simp)] at hR
  replace r1:bw (RS H b a 0) (H.length+1) 1 1 2=some [ai 0]:=r1
  replace r0:bw (RS H b a 0) (H.length+1) 0 1 2=some [.ptr H.length 0 2]:=r0
  replace l0:(RS H b a 0).length=H.length+2:=l0
  show Ends (execW P jc _ _ (RS H b a 0)) _
  cases more with
  | true =>
   rw [if_pos rfl] at hR
   by_cases h32:out.length=32
   ·have h32':(out.length:Int)=32:=by omega
    rw [if_pos h32] at hR
    subst hR
    have hex:∃ (a':Nat) (e':Int),RS H b a 0=RS H b a' e':=⟨a,0,rfl⟩
    generalize RS H b a 0=G at *
    clear hby hσ
    simp -implicitDefEqProofs [-ac,-AV.one,-ad,jg,ey,aX,aO,bd,aP,aZ,SOpG.reads,SOp.slots,SX.slots,SOp.noL,rdV,aI,aW,aR,eqV,r1,h32',hlen]
    exact ⟨rfl,hex,none,by simp [F_q14,mvs]⟩
   have h32':¬ (out.length:Int)=32:=by omega
   rw [if_neg h32] at hR
   have k1:=hmiss a ha
   have hle:=uH ha 0 w
   obtain ⟨⟨M,mo,a1,e1⟩,hm⟩:∃ t,cH b.2 a 0 w=t:=⟨_,rfl⟩
   rw [hm] at k1 hle hR
   simp only at k1 hle hR
   have k2:=fun H=>wX hw M H
   have q1:=OB H b a1 e1
   have l1:(RS H b a1 e1).length=H.length+2:=by simp [RS]
   have hap:=fun σ H=>kg (m:=P.md jc) (d:=94) (sz:=4) (bytes:=32) (l:=mvs out) (l':=[M.v]) (x:=.vs 4 (some 93) [M.v]) (O7 94) (fun H=>dh H 4 (some 93) [M.v]) (by rw [hlen];simp [aJ];omega) (by rw [hlen];simp [aJ];omega) σ H
   rw [← uI] at hap
   have hex:∃ (a':Nat) (e':Int),RS H b a1 e1=RS H b a' e':=⟨a1,e1,rfl⟩
   have hinv:∀ σ,σ=L 114 ((((((Tr.full 7).put (ah 1) (ai w)).put (ah 4) (.lbox [ai 0,bz])).put (ah 6) (.ptr (H.length+1) 0 2)).put (ah 7) (.lbox [ai ack,lst true 4 (some 94) (mvs (out++[M]))])).put (ah 8) (ab mo))→dR b.2 w z' a1 e1 mo (out++[M])=R→∃ m,m<z'+1∧EJ H w b ack R m σ (RS H b a1 e1):=fun σ h1 h2=>⟨z',by omega,a1,e1,mo,out++[M],by simp;omega,by simp;omega,hle,h2,rfl,h1⟩
   obtain ⟨mv,hmv⟩:=nm (bD M (qW w) (rW w))
   rw [hmv] at k2 hR
   generalize hG1:RS H b a1 e1=G1 at *
   generalize RS H b a 0=G at *
   generalize mvs (out++[M])=lo at *
   generalize dR b.2 w z' a1 e1 mo (out++[M])=R2 at *
   obtain ⟨sn,pa,fr,to⟩:=M
   simp only [Ms.v] at k1 k2 hap
   clear hby hσ hm hmiss r0
   by_cases he1:e1=0
   ·subst he1
    replace q1:bw G1 (H.length+1) 1 1 2=some [ai 0]:=q1
    cases mv with
    | false =>
     rw [if_pos (by simp)] at hR
     subst hR
     simp -implicitDefEqProofs [-ac,-AV.one,-ad,jg,ey,aX,aO,bd,aP,aZ,SOpG.reads,SOp.slots,SX.slots,SOp.noL,rdV,aI,aW,aR,eqV,r1,h32',hlen,k1,k2,q1,l0,l1]
     exact ⟨rfl,hex,none,by simp [F_q14,mvs]⟩
    | true =>
     rw [if_neg (by simp)] at hR
     simp -implicitDefEqProofs [-ac,-AV.one,-ad,jg,ey,aX,aO,bd,aP,aZ,SOpG.reads,SOp.slots,SX.slots,SOp.noL,rdV,aI,aW,aR,eqV,r1,h32',hlen,k1,k2,q1,l0,l1,hap]
     exact hinv _ (by simp) hR
   ·rw [if_neg (fun h=>he1 h.1)] at hR
    have he1':¬ (e1:Int)=0:=by omega
    simp -implicitDefEqProofs [-ac,-AV.one,-ad,jg,ey,aX,aO,bd,aP,aZ,SOpG.reads,SOp.slots,SX.slots,SOp.noL,rdV,aI,aW,aR,eqV,r1,h32',hlen,k1,q1,l0,l1,he1,he1',hap]
    exact hinv _ (by simp) hR
  | false =>
   rw [if_neg (by simp)] at hR
   have hRD:∀ a':Nat,RD (RS H b a 0) H.length b a'=RS H b a' 0:=fun a'=>by simp [RD,RS]
   obtain ⟨vb,a',hv,hc⟩:=acI (H:=RS H b a 0) (rr:=H.length) (b:=b) (by omega) hb hby ha
   simp only [hRD] at hc
   have hvl:=cL vb
   have hex:∃ (a'':Nat) (e':Int),RS H b a' 0=RS H b a'' e':=⟨a',0,rfl⟩
   have l1:(RS H b a' 0).length=H.length+2:=by simp [RS]
   generalize RS H b a' 0=G1 at *
   generalize RS H b a 0=G at *
   clear hby hσ hmiss
   by_cases hn:aq b.2 a (cw a)=0
   ·rw [if_pos hn] at hc
    have hv':=hv hn
    by_cases hl:b.2.length - (a+cw a) / 8=0
    ·have hl':¬ (vb.2.length:Int) > 0:=by omega
     have hl'':¬ 0<(vb.2.length:Int):=by omega
     rw [if_pos ⟨hn,hl⟩] at hR
     subst hR
     have hl3:vb.2.length=0:=by omega
     rw [hl3] at hvl
     clear hv hv' hn hl hRD
     simp -implicitDefEqProofs [-ac,-AV.one,-ad,jg,ey,aX,aO,bd,aP,aZ,SOpG.reads,SOp.slots,SX.slots,SOp.noL,rdV,aI,aW,aR,eqV,r1,r0,hc,l0,l1,hvl]
     exact ⟨rfl,hex,some 94,by simp [F_q14]⟩
    ·have hl':(vb.2.length:Int) > 0:=by omega
     have hl'':0<(vb.2.length:Int):=by omega
     rw [if_neg (fun h=>hl h.2)] at hR
     subst hR
     obtain ⟨v,hvv⟩:=nm (vb.2.length)
     rw [hvv] at hvl hl' hl''
     have hl3:0<v:=by omega
     clear hv hv' hn hl hRD
     simp -implicitDefEqProofs [-ac,-AV.one,-ad,jg,ey,aX,aO,bd,aP,aZ,SOpG.reads,SOp.slots,SX.slots,SOp.noL,rdV,aI,aW,aR,eqV,r1,r0,hc,l0,l1,hvl,hl',hl'',hl3]
     exact ⟨rfl,hex,none,by simp [F_q14,mvs]⟩
   ·rw [if_neg hn] at hc
    rw [if_neg (fun h=>hn h.1)] at hR
    subst hR
    clear hv hn hRD
    simp -implicitDefEqProofs [-ac,-AV.one,-ad,jg,ey,aX,aO,bd,aP,aZ,SOpG.reads,SOp.slots,SX.slots,SOp.noL,rdV,aI,aW,aR,eqV,r1,r0,hc,l0,l1]
    exact ⟨rfl,hex,none,by simp [F_q14,mvs]⟩
 ·have he':¬ (e:Int)=0:=by omega
  rw [if_pos he] at hR
  subst hR
  have hex:∃ (a':Nat) (e':Int),RS H b a e=RS H b a' e':=⟨a,e,rfl⟩
  generalize RS H b a e=G at *
  clear hby hσ
  simp -implicitDefEqProofs [-ac,-AV.one,-ad,jg,ey,aX,aO,bd,aP,aZ,SOpG.reads,SOp.slots,SX.slots,SOp.noL,rdV,aI,aW,aR,eqV,r1,he,he']
  exact ⟨rfl,hex,none,by simp [F_q14,mvs,he]⟩
def fS (bs:List Nat) (w:Int):AV:=.tup [.agg [ai ((bV bs w).2.1:Nat),lst true 4 none (mvs (bV bs w).2.2)],ai ((bV bs w).1:Nat)]
set_option maxRecDepth 20000 in
theorem Uy:∀ b:Fin 256,s8 .u8 ((b.val:Nat):Int) 112=((num [decide (b.val / 2 ^ 6 % 2=1),decide (b.val / 2 ^ 5 % 2=1),decide (b.val / 2 ^ 4 % 2=1)] * 16:Nat):Int):=by decide
theorem Lp {bs:List Nat} {b:Nat} (h:bs[0]?=some b):aq bs 1 3=num [decide (b / 2 ^ 6 % 2=1),decide (b / 2 ^ 5 % 2=1),decide (b / 2 ^ 4 % 2=1)]:=by
 cases bs with
 | nil=>simp at h
 | cons x r =>
  simp only [List.getElem?_cons_zero,zqs] at h
  subst h
  rfl
set_option maxHeartbeats 2000000 in
theorem EK {w ow:Nat} (hw:w=10∨w=16) (F:rF w ow) (hsi:IntKind.i64.wrap (1 * 2 ^ ow)=((2 ^ ow:Nat):Int)) (b:Bs) (hb:b.2.length≤8192) (hby:bF b.2) (H:ae) :
  ∃ k:Nat,callW P jc [bv b,ai w] H=some (fS b.2 w,H++List.replicate k .other):=by
 have hW:∀ H,callW P qT [ai w] H=some (ab true,H):=fun H=>by rw [js,decide_eq_true (by omega)]
 have hwi:(w:Int)=10∨(w:Int)=16:=by omega
 have hlen:=cL b
 by_cases h0:b.2.length=0
 ·have hR:bV b.2 w=(8,0,[]):=by rw [bV,if_pos hwi,if_pos h0]
  have h0':(b.2.length:Int)=0:=by omega
  have h0'':b.2=[]:=zq8 h0
  refine ⟨0,?_⟩
  rw [fS,hR]
  clear hR hby
  rw [il rfl];simp -implicitDefEqProofs [-ac,-AV.one,-ad,jg,hW,hlen,h0,h0',h0'',mvs]
 have h0':¬ (b.2.length:Int)=0:=by omega
 have h0'':¬ b.2=[]:=fun h=>h0 (by rw [h];rfl)
 obtain ⟨b0,hb0⟩:∃ x,b.2[0]?=some x:=⟨_,zq6 (by omega)⟩
 have hb256:=hby b0 (List.mem_of_getElem? hb0)
 have q1:cu 1 none (bv b) (.c (.int .i64 0))=some (.vp [au b0] 0):=pM hb0 .i64
 have a128:=yb ⟨b0,hb256⟩
 have a112:=Uy ⟨b0,hb256⟩
 simp only at a128 a112
 have n0:aq b.2 0 1=b0 / 128 % 2:=fM (a:=0) hb0
 have n1:=Lp hb0
 rw [← n1] at a112
 by_cases hz:aq b.2 0 1=0
 case neg =>
  have hR:bV b.2 w=(4,0,[]):=by rw [bV,if_pos hwi,if_neg h0,if_pos hz]
  rw [if_pos (by omega)] at a128
  refine ⟨0,?_⟩
  rw [fS,hR]
  clear hR hby
  rw [il rfl];simp -implicitDefEqProofs [-ac,-AV.one,-ad,jg,-decide_not,-cC,co,hW,hlen,h0,h0',h0'',q1,a128,mvs]
 rw [if_neg (by omega)] at a128
 by_cases h3:aq b.2 1 3=0
 case neg =>
  have hR:bV b.2 w=(3,0,[]):=by rw [bV,if_pos hwi,if_neg h0,if_neg (not_not_intro hz),if_pos h3]
  refine ⟨0,?_⟩
  rw [fS,hR]
  obtain ⟨v,hv⟩:=nm (aq b.2 1 3 * 16)
  have hv0:¬ v=0:=by omega
  have hv0':¬ (v:Int)=0:=by omega
  rw [hv] at a112
  clear hR hby n1 h3 hv hz n0
  rw [il rfl];simp -implicitDefEqProofs [-ac,-AV.one,-ad,jg,-decide_not,-cC,co,hW,hlen,h0,h0',h0'',q1,a128,a112,hv0,hv0',mvs]
 rw [h3] at a112
 replace a112:s8 .u8 (b0:Int) 112=0:=a112
 obtain ⟨z,hr⟩:=kv b hb H
 obtain ⟨b',hb'⟩:∃ t:Bs,(z,b.2)=t:=⟨_,rfl⟩
 have e2:b.2=b'.2:=by rw [← hb']
 rw [hb'] at hr
 refine ⟨2,?_⟩
 rw [e2] at hb hby h0 hz h3 ⊢
 have k1:=ju H b' hb hby (a:=0) (by omega) 0 4 (by omega) 4 rfl
 have la1:=gq (bs:=b'.2) (a:=0) (by omega) 0 4
 obtain ⟨⟨v1,a1,e1⟩,g1⟩:∃ t,gS b'.2 0 0 4=t:=⟨_,rfl⟩
 rw [g1] at k1 la1
 have k2:=ju H b' hb hby la1 e1 w (by omega) w rfl
 have la2:=gq la1 e1 w
 obtain ⟨⟨v2,a2,e2'⟩,g2⟩:∃ t,gS b'.2 a1 e1 w=t:=⟨_,rfl⟩
 replace g2:gS b'.2 a1 e1 w=(v2,a2,e2'):=g2
 simp only at k2 la2
 rw [g2] at k2 la2
 have k3:=ju H b' hb hby la2 e2' 1 (by omega) 1 rfl
 have la3:=gq la2 e2' 1
 obtain ⟨⟨v3,a3,e3⟩,g3⟩:∃ t,gS b'.2 a2 e2' 1=t:=⟨_,rfl⟩
 simp only at k3 la3
 rw [g3] at k3 la3
 simp only at k1 k2 k3 la3
 have hR:bV b'.2 w=((dR b'.2 w 34 a3 e3 (decide (v3=1)) []).1,(if (dR b'.2 w 34 a3 e3 (decide (v3=1)) []).1=0 then v2 else 0),(dR b'.2 w 34 a3 e3 (decide (v3=1)) []).2):=by
  rw [bV,if_pos hwi,if_neg h0,if_neg (not_not_intro hz),if_neg (not_not_intro h3)]
  simp only [Int.toNat_natCast,g1,g2,g3]
 rw [fS,hR]
 have htail:=AM (H:=H) hw hb hby (fun a ha=>OC hw F hsi H b' hb hby ha 0) v2 (dR b'.2 w 34 a3 e3 (decide (v3=1)) []) 34
 have hinv:∀ σ,σ=L 114 ((((((Tr.full 7).put (ah 1) (ai w)).put (ah 4) (.lbox [ai 0,bz])).put (ah 6) (.ptr (H.length+1) 0 2)).put (ah 7) (.lbox [ai v2,bz])).put (ah 8) (ab (decide (v3=1))))→EJ H w b' v2 (dR b'.2 w 34 a3 e3 (decide (v3=1)) []) 34 σ (RS H b' a3 e3):=fun σ h=>⟨a3,e3,_,[],by simp,by simp,la3,rfl,rfl,h⟩
 obtain ⟨R,hRR⟩:=nm (dR b'.2 w 34 a3 e3 (decide (v3=1)) [])
 rw [hRR] at hR htail hinv ⊢
 have hone:=eq1 v3
 replace k1:callW P nH [.ptr (H.length+1) 0 2,ai 4] (H++[.row [bv b',ai 0],.row [.ptr H.length 0 2,ai 0]])=some (ai v1,RS H b' a1 e1):=k1
 have l1:(RS H b' a1 e1).length=H.length+2:=by simp [RS]
 have l2:(RS H b' a2 e2').length=H.length+2:=by simp [RS]
 have l3:(RS H b' a3 e3).length=H.length+2:=by simp [RS]
 generalize RS H b' a3 e3=G3 at *
 generalize RS H b' a2 e2'=G2 at *
 generalize RS H b' a1 e1=G1 at *
 rw [cT]
 clear hRR hR g1 g2 g3 n0 n1
 refine call_post 7 114 rfl (rfl:P.T jc=some F_q14) rfl (aS rfl) (Dm H b' v2 R) ?_ ?_
 ·rintro e σ G ⟨rfl,⟨a',e',rfl⟩,c,h2⟩
  refine ⟨rfl,_,h2,by simp,?_⟩
  simp [RS]
  split<;>rfl
 rw [F_q14];simp -implicitDefEqProofs [-ac,-AV.one,-ad,jg,-decide_not,-cC,co,aX,aO,bd,aP,aZ,SOpG.reads,SOp.slots,SX.slots,SOp.noL,rdV,aI,aW,aR,eqV,hW,hlen,h0',h0'',q1,a128,a112,hr,k1,k2,k3,hone]
 refine htail _ _ (hinv _ ?_)
 simp [ey]
theorem AN (b:Bs) (hb:b.2.length≤8192) (hby:bF b.2) (w:Int) (H:ae) :
  ∃ k:Nat,callW P jc [bv b,ai w] H=some (fS b.2 w,H++List.replicate k .other):=by
 by_cases h10:w=10
 ·subst h10
  exact EK (w:=10) (.inl rfl) Ll rfl b hb hby H
 by_cases h16:w=16
 ·subst h16
  exact EK (w:=16) (.inr rfl) Lm rfl b hb hby H
 have hW:∀ H,callW P qT [ai w] H=some (ab false,H):=fun H=>by rw [js,decide_eq_false (by omega)]
 have hR:bV b.2 w=(9,0,[]):=by rw [bV,if_neg (by omega)]
 refine ⟨0,?_⟩
 rw [fS,hR]
 clear hR hby
 rw [il rfl];simp -implicitDefEqProofs [-ac,-AV.one,-ad,jg,hW,mvs]
theorem rH {bs:List Nat} {a e n:Nat} (h:(gS bs a e n).2.2=0):e=0∧gS bs a e n=(aq bs a n,a+n,0)∧a+n≤8 * bs.length:=by
 unfold gS at h ⊢
 by_cases he:e=0
 ·subst he
  rw [if_neg (by simp)] at h ⊢
  by_cases c:a+n≤8 * bs.length
  ·rw [if_pos c];exact ⟨rfl,rfl,c⟩
  ·rw [if_neg c] at h;simp at h
 ·rw [if_pos he] at h;exact (he h).elim
theorem adf {w:Nat} (hw:w=10∨w=16):rW w=2 ^ aV w:=by rcases hw with rfl | rfl<;>rfl
theorem UC {v k:Nat} (h:v<2 ^ k) (hk:1≤2 ^ k) (m:Ms) (hm:m.to=((v+1) % 2 ^ k:Nat)):toE m k=v:=by
 rw [toE,hm]
 by_cases e:v+1=2 ^ k
 ·rw [e,Nat.mod_self];simp;omega
 ·rw [Nat.mod_eq_of_lt (by omega),if_neg (by omega),Int.toNat_natCast];omega
theorem Hl {bs:List Nat} {a e w:Nat} (h:(cH bs a e w).2.2.2=0) :
  e=0∧∃ n,(cH bs a e w).2.2.1=a+n∧a+n≤8 * bs.length∧rE w (cH bs a e w).1 (cH bs a e w).2.1=sl bs a n:=by
 obtain ⟨r1,g1⟩:=nm (gS bs a e w)
 obtain ⟨r2,g2⟩:=nm (gS bs r1.2.1 r1.2.2 1)
 obtain ⟨r3,g3⟩:=nm (gS bs r2.2.1 r2.2.2 1)
 have back:r3.2.2=0→e=0∧r1=(aq bs a w,a+w,0)∧r2=(aq bs (a+w) 1,a+w+1,0)∧r3=(aq bs (a+w+1) 1,a+w+1+1,0)∧a+w+1+1≤8 * bs.length:=by
  intro h3
  rw [← g3] at h3
  obtain ⟨x1,x2,x3⟩:=rH h3
  have x1':=x1
  rw [← g2] at x1'
  obtain ⟨y1,y2,y3⟩:=rH x1'
  have y1':=y1
  rw [← g1] at y1'
  obtain ⟨z1,z2,z3⟩:=rH y1'
  rw [g1] at z2
  rw [g2,z2] at y2
  rw [g3,y2] at x2
  rw [y2] at x3
  exact ⟨z1,z2,y2,x2,x3⟩
 simp only [cH,g1,g2,g3] at h ⊢
 by_cases hp:r3.1=1
 ·rw [if_pos hp] at h ⊢
  obtain ⟨r4,g4⟩:=nm (gS bs r3.2.1 r3.2.2 (aV w))
  obtain ⟨r5,g5⟩:=nm (gS bs r4.2.1 r4.2.2 (aV w))
  rw [g4,g5] at h ⊢
  simp only at h ⊢
  rw [← g5] at h
  obtain ⟨x1,x2,x3⟩:=rH h
  rw [← g4] at x1
  obtain ⟨y1,y2,y3⟩:=rH x1
  obtain ⟨z0,z1,z2,z3,z4⟩:=back y1
  rw [g4,z3] at y2
  rw [z3] at y3
  simp only at y2 y3
  rw [g5,y2] at x2
  rw [y2] at x3
  simp only at x2 x3
  have hlt:=bW x3
  subst z1 z2 z3 y2 x2
  refine ⟨z0,w+2+2 * aV w,by simp only;omega,by omega,?_⟩
  simp only at hp ⊢
  have o3:=fR z4
  rw [decide_eq_true hp] at o3
  rw [rE,UC hlt (Nat.one_le_two_pow) _ rfl]
  simp only [Int.toNat_natCast,if_true]
  have j1:sl bs a w++sl bs (a+w) 1=sl bs a (w+1):=bT bs a w 1
  have j2:sl bs a (w+1)++sl bs (a+w+1) 1=sl bs a (w+2):=bT bs a (w+1) 1
  have j3:sl bs a (w+2)++sl bs (a+w+1+1) (aV w+aV w)=sl bs a (w+2+(aV w+aV w)):=bT bs a (w+2) (aV w+aV w)
  have j4:=bT bs (a+w+1+1) (aV w) (aV w)
  rw [ej (by omega),fR (by omega),o3,ej y3,ej x3,j1,j2,j4,j3]
  congr 1;omega
 ·rw [if_neg hp] at h ⊢
  simp only at h ⊢
  obtain ⟨z0,z1,z2,z3,z4⟩:=back h
  subst z1 z2 z3
  simp only at hp ⊢
  have o3:=fR z4
  rw [decide_eq_false hp] at o3
  refine ⟨z0,w+2,by omega,by omega,?_⟩
  rw [rE]
  simp only [Int.toNat_natCast,Bool.false_eq_true,if_false,List.append_nil]
  have j1:sl bs a w++sl bs (a+w) 1=sl bs a (w+1):=bT bs a w 1
  have j2:sl bs a (w+1)++sl bs (a+w+1) 1=sl bs a (w+2):=bT bs a (w+1) 1
  rw [ej (by omega),fR (by omega),o3,j1,j2]
theorem wY {bs:List Nat} {w:Nat}:∀ (z a e:Nat) (more:Bool) (out ms:List Ms),a≤8 * bs.length→out.length≤32→dR bs w z a e more out=(0,ms) →
  e=0∧∃ r,ms=out++r∧ms.length≤32∧more=decide (0<r.length)∧(∀ m∈r,bD m (qW w) (rW w)=true)∧∃ n,a+n≤8 * bs.length∧el w r=sl bs a n∧aq bs (a+n) (cw (a+n))=0∧bs.length - (a+n+cw (a+n)) / 8=0
 | 0,_,_,_,_,_,_,_,h=>by rw [dR] at h;simp at h
 | z+1,a,e,more,out,ms,ha,ho,h=>by
  rw [dR] at h
  by_cases he:e=0
  ·rw [if_neg (not_not_intro he)] at h
   refine ⟨he,?_⟩
   subst he
   cases more with
   | true =>
    rw [if_pos rfl] at h
    by_cases h32:out.length=32
    ·rw [if_pos h32] at h;simp at h
    rw [if_neg h32] at h
    by_cases hc:(cH bs a 0 w).2.2.2=0∧bD (cH bs a 0 w).1 (qW w) (rW w)=false
    ·rw [if_pos hc] at h;simp at h
    rw [if_neg hc] at h
    obtain ⟨k1,r,k2,k3,k4,k5,n,k6,k7,k8,k9⟩:=wY z _ _ _ _ _ (uH ha 0 w) (by simp;omega) h
    obtain ⟨_,n1,l1,l2,l3⟩:=Hl k1
    rw [l1] at k6 k7 k8 k9
    have hok:bD (cH bs a 0 w).1 (qW w) (rW w)=true:=by
     cases hh:bD (cH bs a 0 w).1 (qW w) (rW w) with
     | true=>rfl
     | false=>exact (hc ⟨k1,hh⟩).elim
    refine ⟨(cH bs a 0 w).1 :: r,by rw [k2];simp,k3,by simp,?_,n1+n,by omega,?_,?_,?_⟩
    ·intro m hm
     rcases List.mem_cons.1 hm with rfl | hm
     ·exact hok
     ·exact k5 m hm
    ·rw [el,← k4,l3,k7,bT]
    ·rw [← Nat.add_assoc];exact k8
    ·rw [← Nat.add_assoc];exact k9
   | false =>
    rw [if_neg (by simp)] at h
    by_cases hc:aq bs a (cw a)=0∧bs.length - (a+cw a) / 8=0
    ·rw [if_pos hc] at h
     obtain ⟨_,rfl⟩:=Prod.mk.inj h
     exact ⟨[],by simp,ho,by simp,by simp,0,by omega,by rw [el,sl,List.take_zero],hc.1,hc.2⟩
    ·rw [if_neg hc] at h;simp at h
  ·rw [if_pos he] at h
   exact (he (Prod.mk.inj h).1).elim
theorem Dt {bs:List Nat} (hby:bF bs) {w:Int} {ack:Nat} {ms:List Ms} (z:Bool) (h:bV bs w=(0,ack,ms)) :
  (w=10∨w=16)∧bs.length≠0∧aq bs 0 1=0∧jy ⟨ack,z,ms⟩ w.toNat=true∧PackR (de ⟨ack,z,ms⟩ w.toNat) bs:=by
 unfold bV at h
 by_cases hw:w=10∨w=16
 case neg=>rw [if_neg hw] at h;simp at h
 rw [if_pos hw] at h
 by_cases h1:bs.length=0
 ·rw [if_pos h1] at h;simp at h
 rw [if_neg h1] at h
 by_cases h2:aq bs 0 1=0
 case neg=>rw [if_pos h2] at h;simp at h
 rw [if_neg (not_not_intro h2)] at h
 by_cases h3:aq bs 1 3=0
 case neg=>rw [if_pos h3] at h;simp at h
 rw [if_neg (not_not_intro h3)] at h
 refine ⟨hw,h1,h2,?_⟩
 obtain ⟨wn,rfl,hwn⟩:∃ wn:Nat,w=wn∧(wn=10∨wn=16):=by
  rcases hw with rfl | rfl
  ·exact ⟨10,rfl,.inl rfl⟩
  ·exact ⟨16,rfl,.inr rfl⟩
 have htn:((wn:Nat):Int).toNat=wn:=by simp
 rw [htn] at h ⊢
 obtain ⟨r1,g1⟩:=nm (gS bs 0 0 4)
 obtain ⟨r2,g2⟩:=nm (gS bs r1.2.1 r1.2.2 wn)
 obtain ⟨r3,g3⟩:=nm (gS bs r2.2.1 r2.2.2 1)
 simp only [g1,g2,g3] at h
 have a1:r1.2.1≤8 * bs.length:=by rw [← g1];exact gq (by omega) _ _
 have a2:r2.2.1≤8 * bs.length:=by rw [← g2];exact gq a1 _ _
 have a3:r3.2.1≤8 * bs.length:=by rw [← g3];exact gq a2 _ _
 obtain ⟨R,hR⟩:=nm (dR bs wn 34 r3.2.1 r3.2.2 (decide (r3.1=1)) [])
 rw [hR] at h
 simp only [zqp] at h
 obtain ⟨q1,q2,q3⟩:=h
 rw [if_pos q1] at q2
 have hR':dR bs wn 34 r3.2.1 r3.2.2 (decide (r3.1=1)) []=(0,ms):=by rw [hR,← q1,← q3]
 obtain ⟨k1,r,k2,k3,k4,k5,n,k6,k7,k8,k9⟩:=wY 34 _ _ _ _ _ a3 (by simp) hR'
 rw [List.nil_append] at k2
 subst k2
 rw [← g3] at k1
 obtain ⟨x1,x2,x3⟩:=rH k1
 have x1':=x1
 rw [← g2] at x1'
 obtain ⟨y1,y2,y3⟩:=rH x1'
 have y1':=y1
 rw [← g1] at y1'
 obtain ⟨_,z2,z3⟩:=rH y1'
 rw [g1,Nat.zero_add] at z2
 rw [g2,z2] at y2
 rw [z2] at y3
 rw [g3,y2] at x2
 rw [y2] at x3
 subst z2 y2 x2
 simp only at q2 y3 x3 k4 k6 k7 k8 k9
 subst q2
 have hlt:=bW y3
 have hlt':aq bs 4 wn<qW wn:=hlt
 constructor
 ·simp only [jy,Bool.and_eq_true,decide_eq_true_eq,Bool.not_eq_true',List.any_eq_false]
  refine ⟨⟨⟨by omega,by omega⟩,k3⟩,fun m hm=>?_⟩
  rw [k5 m hm];simp
 ·have o0:sl bs 0 1=[false]:=by rw [← fR (by omega),h2];rfl
  have o1:sl bs 1 3=[false,false,false]:=by rw [← ej (by omega),h3];rfl
  have o4:[false,false,false,false]=sl bs 0 4:=by
   have:=bT bs 0 1 3
   rw [o0,Nat.zero_add,o1] at this
   exact this
  have hx:de ⟨(aq bs 4 wn:Nat),z,ms⟩ wn=sl bs 0 (4+wn+1+n):=by
   have j1:=bT bs 0 4 wn
   have j2:=bT bs 0 (4+wn) 1
   have j3:=bT bs 0 (4+wn+1) n
   rw [Nat.zero_add] at j1 j2 j3
   rw [de]
   simp only [Int.toNat_natCast]
   rw [o4,← k4,ej y3,fR x3,k7,j1,j2,j3]
  obtain ⟨t,ht⟩:=nm (4+wn+1+n)
  rw [ht] at hx k6 k8 k9
  have hp:=jM k6
  have hpd:cw t<8:=by simp only [cw];omega
  have h8:t+cw t=8 * bs.length:=by simp only [cw] at hp hpd k9 ⊢;omega
  have hxl:(sl bs 0 t).length=t:=CU (by omega)
  refine ⟨by rw [hx,hxl];omega,hby,?_⟩
  rw [hx,hxl]
  have ez:=ej (bs:=bs) (a:=t) (n:=cw t) hp
  rw [k8] at ez
  have ez2:aQ 0 (cw t)=List.replicate (cw t) false:=by
   rw [aQ,List.eq_replicate_iff];simp
  rw [ez2] at ez
  have hb:=rZ bs bs.length
  rw [List.take_length] at hb
  have j:=bT bs 0 t (cw t)
  rw [Nat.zero_add] at j
  rw [hb,← h8,← j,← ez]
  congr 2;omega
end Go.A.V.S
