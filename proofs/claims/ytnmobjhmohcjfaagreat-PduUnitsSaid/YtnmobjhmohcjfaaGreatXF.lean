/- status: a number, read. -/
import Derived.Test.YtnmobjhmohcjfaaGreatXE
import Derived.Test.YtnmobjhmohcjfaaGreatXC
set_option linter.unusedSimpArgs false
set_option linter.unusedVariables false
set_option linter.unnecessarySimpa false
namespace Go.A.V.S
open Go Go.A
def RS (H:ae) (b:Bs) (a:Nat) (e:Int):ae:=H++[.row [bv b,ai a],.row [.ptr H.length 0 2,ai e]]
theorem Lb (H:ae) (b:Bs) (a:Nat) (e:Int):(RS H b a e)[H.length+1]?=some (.row [.ptr H.length 0 2,ai e]):=by simp [RS]
theorem ada (H:ae) (b:Bs) (a:Nat) (e:Int):ba (RS H b a e) (H.length+1) 0 1 2=some [.ptr H.length 0 2]:=by simp [ba,Lb,AObj.isRow,AObj.lo,AObj.cells]
theorem OB (H:ae) (b:Bs) (a:Nat) (e:Int):ba (RS H b a e) (H.length+1) 1 1 2=some [ai e]:=by simp [ba,Lb,AObj.isRow,AObj.lo,AObj.cells]
theorem aep (H:ae) (b:Bs) (a:Nat) (e e':Int):dH (RS H b a e) (H.length+1) 1 2 [ai e']=some (RS H b a e'):=by
 simp only [dH,Lb]
 simp [RS]
theorem Px (H:ae) (b:Bs) (a:Nat) (e e':Int) (σ:List AV):bz σ (RS H b a e) none (.ptr (H.length+1) 1 2) (ai e')=some (σ,RS H b a e'):=by
 simp only [bz,aep,Option.map_some]
theorem C9 {e:Int} (he:e≠0) (H:ae) (b:Bs) (a:Nat) (n:Int):callW P nu [.ptr (H.length+1) 0 2,ai n] (RS H b a e)=some (ai 0,RS H b a e):=by
 have r1:=OB H b a e
 have hl:(RS H b a e).length=H.length+2:=by simp [RS]
 generalize RS H b a e=G at *
 rw [fE rfl];simp -implicitDefEqProofs [-ac,-AV.one,-ad,zz,r1,he,hl]
 exact List.take_of_length_le (by omega)
theorem GX (H:ae) (b:Bs) (hb:b.2.length≤8192) (hby:bm b.2) {a:Nat} (ha:a≤8 * b.2.length) (n:Nat) (hn:n≤16):callW P nu [.ptr (H.length+1) 0 2,ai n] (RS H b a 0) =
  if a+n≤8 * b.2.length then some (ai (aj b.2 a n:Nat),RS H b (a+n) 0) else some (ai 0,RS H b a 8):=by
 have r1:=OB H b a 0
 have r0:=ada H b a 0
 have hg:=Get (H:=RS H b a 0) (rr:=H.length) (b:=b) (by simp [RS]) hb hby ha n (by omega)
 have hRD:∀ a':Nat,RD (RS H b a 0) H.length b a'=RS H b a' 0:=fun a'=>by simp [RD,RS]
 simp only [hRD] at hg
 by_cases c:a+n≤8 * b.2.length
 ·rw [if_pos c] at hg ⊢
  have w1:=Px H b (a+n) 0 0
  have hlt:=bK (bs:=b.2) (a:=a) (n:=n) c
  have h16:2 ^ n≤2 ^ 16:=Nat.pow_le_pow_right (by omega) hn
  have e16:(2:Nat) ^ 16=65536:=by decide
  have wv:IntKind.i64.wrap ((aj b.2 a n:Nat):Int)=(aj b.2 a n:Nat):=aq (by omega) (by omega)
  have l1:(RS H b a 0).length=H.length+2:=by simp [RS]
  have l2:(RS H b (a+n) 0).length=H.length+2:=by simp [RS]
  generalize RS H b (a+n) 0=G2 at *
  generalize RS H b a 0=G at *
  generalize aj b.2 a n=v at *
  clear hRD
  rw [fE rfl];simp -implicitDefEqProofs [-ac,-AV.one,-ad,zz,r1,r0,hg,w1,wv,l1,l2]
  exact List.take_of_length_le (by omega)
 ·rw [if_neg c] at hg ⊢
  have w1:=Px H b a 0 8
  have l1:(RS H b a 0).length=H.length+2:=by simp [RS]
  have l2:(RS H b a 8).length=H.length+2:=by simp [RS]
  have wz:IntKind.i64.wrap 0=0:=rfl
  generalize RS H b a 8=G2 at *
  generalize RS H b a 0=G at *
  clear hRD
  rw [fE rfl];simp -implicitDefEqProofs [-ac,-AV.one,-ad,zz,r1,r0,hg,w1,wz,l1,l2]
  exact List.take_of_length_le (by omega)
def gS (bs:List Nat) (a e n:Nat):Nat × Nat × Nat:=if e≠0 then (0,a,e) else if a+n≤8 * bs.length then (aj bs a n,a+n,0) else (0,a,8)
theorem f9 {bs:List Nat} {a:Nat} (h:a≤8 * bs.length) (e n:Nat):(gS bs a e n).2.1≤8 * bs.length:=by
 unfold gS;split
 ·exact h
 ·split
  ·assumption
  ·exact h
theorem adb (bs:List Nat) (a e n:Nat):(gS bs a e n).1<2 ^ n:=by
 unfold gS;split
 ·exact Nat.two_pow_pos _
 ·split
  ·exact bK (by assumption)
  ·exact Nat.two_pow_pos _
theorem jj (H:ae) (b:Bs) (hb:b.2.length≤8192) (hby:bm b.2) {a:Nat} (ha:a≤8 * b.2.length) (e n:Nat) (hn:n≤16) (n':Int) (hn':n'=n):callW P nu [.ptr (H.length+1) 0 2,ai n'] (RS H b a e) =
  some (ai ((gS b.2 a e n).1:Nat),RS H b (gS b.2 a e n).2.1 ((gS b.2 a e n).2.2:Nat)):=by
 subst hn'
 by_cases he:e=0
 ·subst he
  have h:=GX H b hb hby ha n hn
  rw [gS,if_neg (by simp)]
  by_cases c:a+n≤8 * b.2.length
  ·rw [if_pos c] at h ⊢;exact h
  ·rw [if_neg c] at h ⊢;exact h
 ·rw [gS,if_pos he]
  exact C9 (e:=e) (by omega) H b a n
theorem eq1 (v:Nat):decide ((v:Int)=1)=decide (v=1):=decide_eq_decide.2 (by omega)
theorem Da {w ow:Nat} (hw:w=10∨w=16) (F:rq w ow) (H:ae) (b:Bs) (hb:b.2.length≤8192) (hby:bm b.2) {a:Nat} (ha:a≤8 * b.2.length) (e:Nat)
  {v1 a1 e1 v2 a2 e2 v3 a3 e3:Nat} (g1:gS b.2 a e w=(v1,a1,e1)) (g2:gS b.2 a1 e1 1=(v2,a2,e2)) (g3:gS b.2 a2 e2 1=(v3,a3,e3)) (h3:v3≠1) :
  callW P oS [.ptr (H.length+1) 0 2,ai w] (RS H b a e)=some (.tup [.agg [ai v1,ab false,ai 0,ai 0],ab (decide (v2=1))],RS H b a3 e3):=by
 have k1:=jj H b hb hby ha e w (by omega) w rfl
 have la1:=f9 ha e w
 rw [g1] at k1 la1
 have k2:=jj H b hb hby la1 e1 1 (by omega) 1 rfl
 have la2:=f9 la1 e1 1
 rw [g2] at k2 la2
 have k3:=jj H b hb hby la2 e2 1 (by omega) 1 rfl
 rw [g3] at k3
 have q3:decide ((v3:Int)=1)=false:=decide_eq_false (by omega)
 have q3':¬ (v3:Int)=1:=by omega
 have q2:=eq1 v2
 have l0:(RS H b a e).length=H.length+2:=by simp [RS]
 have l3:(RS H b a3 e3).length=H.length+2:=by simp [RS]
 simp only at k1 k2 k3
 generalize RS H b a3 e3=G3 at *
 generalize RS H b a2 e2=G2 at *
 generalize RS H b a1 e1=G1 at *
 generalize RS H b a e=G0 at *
 clear g1 g2 g3
 rw [ip rfl];simp -implicitDefEqProofs [-ac,-AV.one,-ad,DW,k1,k2,k3,q3,q3',q2,l0,l3]
 exact List.take_of_length_le (by omega)
theorem GY (t k:Nat) (hk:k≤16) (ht:t<70000):(BitVec.ofNat 64 t &&& BitVec.ofNat 64 (2 ^ k - 1)).toNat=t % 2 ^ k:=by
 have h16:2 ^ k≤2 ^ 16:=Nat.pow_le_pow_right (by omega) hk
 have e16:(2:Nat) ^ 16=65536:=by decide
 rw [BitVec.toNat_and,BitVec.toNat_ofNat,BitVec.toNat_ofNat,Nat.mod_eq_of_lt (by omega),Nat.mod_eq_of_lt (by omega),Nat.and_two_pow_sub_one_eq_mod]
theorem GZ {w ow:Nat} (hw:w=10∨w=16) (F:rq w ow) (hsi:IntKind.i64.wrap (1 * 2 ^ ow)=((2 ^ ow:Nat):Int)) (H:ae) (b:Bs) (hb:b.2.length≤8192) (hby:bm b.2) {a:Nat} (ha:a≤8 * b.2.length) (e:Nat)
  {v1 a1 e1 v2 a2 e2 a3 e3 v4 a4 e4 v5 a5 e5:Nat} (g1:gS b.2 a e w=(v1,a1,e1)) (g2:gS b.2 a1 e1 1=(v2,a2,e2)) (g3:gS b.2 a2 e2 1=(1,a3,e3)) (g4:gS b.2 a3 e3 ow=(v4,a4,e4)) (g5:gS b.2 a4 e4 ow=(v5,a5,e5)) :
  callW P oS [.ptr (H.length+1) 0 2,ai w] (RS H b a e)=some (.tup [.agg [ai v1,ab true,ai v4,ai ((v5+1) % 2 ^ ow:Nat)],ab (decide (v2=1))],RS H b a5 e5):=by
 have ho:=F.o16
 have k1:=jj H b hb hby ha e w (by omega) w rfl
 have la1:=f9 ha e w
 rw [g1] at k1 la1
 have k2:=jj H b hb hby la1 e1 1 (by omega) 1 rfl
 have la2:=f9 la1 e1 1
 rw [g2] at k2 la2
 have k3:=jj H b hb hby la2 e2 1 (by omega) 1 rfl
 have la3:=f9 la2 e2 1
 rw [g3] at k3 la3
 have k4:=jj H b hb hby la3 e3 ow (by omega) ow rfl
 have la4:=f9 la3 e3 ow
 rw [g4] at k4 la4
 have k5:=jj H b hb hby la4 e4 ow (by omega) ow rfl
 have lt5:=adb b.2 a4 e4 ow
 rw [g5] at k5 lt5
 have h16:2 ^ ow≤2 ^ 16:=Nat.pow_le_pow_right (by omega) ho.1
 have e16:(2:Nat) ^ 16=65536:=by decide
 have hpos:1≤2 ^ ow:=Nat.one_le_two_pow
 have q2:=eq1 v2
 have l0:(RS H b a e).length=H.length+2:=by simp [RS]
 have l5:(RS H b a5 e5).length=H.length+2:=by simp [RS]
 have hmn:min ow 64=ow:=by omega
 have hw0:¬ (ow:Int)<0:=by omega
 have hpp':IntKind.i64.wrap (2 ^ ow)=((2 ^ ow:Nat):Int):=by rw [← hsi,Int.one_mul]
 have hs1:IntKind.i64.wrap (((2 ^ ow:Nat):Int) - 1)=((2 ^ ow - 1:Nat):Int):=by rw [aq (by omega) (by omega)];omega
 obtain ⟨v6,h6⟩:=nm (v5+1)
 have w6:IntKind.i64.wrap ((v5:Int)+1)=(v6:Int):=by rw [aq (by omega) (by omega)];omega
 have hA:=GY v6 ow ho.1 (by simp only at lt5;omega)
 have hoc:=F.cl
 rw [h6]
 obtain ⟨v7,h7⟩:=nm (v6 % 2 ^ ow)
 have h7l:v7<2 ^ ow:=by rw [← h7];exact Nat.mod_lt _ (by omega)
 have w7:IntKind.i64.wrap (v7:Int)=v7:=aq (by omega) (by omega)
 rw [h7] at hA ⊢
 simp only at k1 k2 k3 k4 k5
 generalize RS H b a5 e5=G5 at *
 generalize RS H b a4 e4=G4 at *
 generalize RS H b a3 e3=G3 at *
 generalize RS H b a2 e2=G2 at *
 generalize RS H b a1 e1=G1 at *
 generalize RS H b a e=G0 at *
 clear g1 g2 g3 g4 g5
 generalize 2 ^ ow - 1=pm at *
 generalize ((2 ^ ow:Nat):Int)=pw at *
 rw [ip rfl];simp -implicitDefEqProofs [-ac,-AV.one,-ad,DW,aK,aB,aP,aC,aM,SOpG.reads,SOp.slots,SX.slots,SOp.noL,rdV,av,aJ,aE,eqV,k1,k2,k3,q2,hoc,k4,hmn,hw0,hsi,hpp',hs1,k5,w6,l0,l5]
 erw [hA]
 exact ⟨w7,List.take_of_length_le (by omega)⟩
def cr (bs:List Nat) (a e w:Nat):Ms × Bool × Nat × Nat:=
 let r1:=gS bs a e w
 let r2:=gS bs r1.2.1 r1.2.2 1
 let r3:=gS bs r2.2.1 r2.2.2 1
 if r3.1=1 then
  let r4:=gS bs r3.2.1 r3.2.2 (aI w)
  let r5:=gS bs r4.2.1 r4.2.2 (aI w)
  (⟨r1.1,true,r4.1,((r5.1+1) % 2 ^ aI w:Nat)⟩,decide (r2.1=1),r5.2.1,r5.2.2)
 else (⟨r1.1,false,0,0⟩,decide (r2.1=1),r3.2.1,r3.2.2)
theorem OC {w ow:Nat} (hw:w=10∨w=16) (F:rq w ow) (hsi:IntKind.i64.wrap (1 * 2 ^ ow)=((2 ^ ow:Nat):Int)) (H:ae) (b:Bs) (hb:b.2.length≤8192) (hby:bm b.2) {a:Nat} (ha:a≤8 * b.2.length) (e:Nat) :
  callW P oS [.ptr (H.length+1) 0 2,ai w] (RS H b a e)=some (.tup [.agg (cr b.2 a e w).1.v,ab (cr b.2 a e w).2.1],RS H b (cr b.2 a e w).2.2.1 ((cr b.2 a e w).2.2.2:Nat)):=by
 obtain ⟨⟨v1,a1,e1⟩,g1⟩:∃ t,gS b.2 a e w=t:=⟨_,rfl⟩
 obtain ⟨⟨v2,a2,e2⟩,g2⟩:∃ t,gS b.2 a1 e1 1=t:=⟨_,rfl⟩
 obtain ⟨⟨v3,a3,e3⟩,g3⟩:∃ t,gS b.2 a2 e2 1=t:=⟨_,rfl⟩
 by_cases h3:v3=1
 ·subst h3
  obtain ⟨⟨v4,a4,e4⟩,g4⟩:∃ t,gS b.2 a3 e3 ow=t:=⟨_,rfl⟩
  obtain ⟨⟨v5,a5,e5⟩,g5⟩:∃ t,gS b.2 a4 e4 ow=t:=⟨_,rfl⟩
  have h:=GZ hw F hsi H b hb hby ha e g1 g2 g3 g4 g5
  simp only [cr,g1,g2,g3,F.of,g4,g5,if_true,Ms.v]
  exact h
 ·have h:=Da hw F H b hb hby ha e g1 g2 g3 h3
  simp only [cr,g1,g2,g3,if_neg h3,Ms.v]
  exact h
theorem uu {bs:List Nat} {a:Nat} (h:a≤8 * bs.length) (e w:Nat):(cr bs a e w).2.2.1≤8 * bs.length:=by
 simp only [cr]
 split
 ·exact f9 (f9 (f9 (f9 (f9 h _ _) _ _) _ _) _ _) _ _
 ·exact f9 (f9 (f9 h _ _) _ _) _ _
def dF (bs:List Nat) (w:Nat):Nat→Nat→Nat→Bool→List Ms→Nat × List Ms
 | 0,_,_,_,_=>(2,[])
 | z+1,a,e,more,out =>
  if e≠0 then (e,[]) else
  if more=true then
   (if out.length=32 then (2,[]) else
    if (cr bs a e w).2.2.2=0∧bj (cr bs a e w).1 (qW w) (rW w)=false then (3,[]) else
    dF bs w z (cr bs a e w).2.2.1 (cr bs a e w).2.2.2 (cr bs a e w).2.1 (out++[(cr bs a e w).1]))
  else if aj bs a (bY a)=0∧bs.length - (a+bY a) / 8=0 then (0,out) else (3,[])
def bI (bs:List Nat) (w:Int):Nat × Nat × List Ms:=
 if w=10∨w=16 then
  (if bs.length=0 then (8,0,[]) else if ¬ aj bs 0 1=0 then (4,0,[]) else if ¬ aj bs 1 3=0 then (3,0,[]) else
   let r1:=gS bs 0 0 4
   let r2:=gS bs r1.2.1 r1.2.2 w.toNat
   let r3:=gS bs r2.2.1 r2.2.2 1
   let r:=dF bs w.toNat 34 r3.2.1 r3.2.2 (decide (r3.1=1)) []
   (r.1,if r.1=0 then r2.1 else 0,r.2))
 else (9,0,[])
def Ey (H:ae) (w:Nat) (b:Bs) (ack:Nat) (R:Nat × List Ms) (z:Nat) (σ:List AV) (G:ae):Prop:=
 ∃ (a e:Nat) (more:Bool) (out:List Ms),z+out.length=34∧out.length≤32∧a≤8 * b.2.length∧dF b.2 w z a e more out=R∧G=RS H b a e ∧
  σ=L 114 ((((((Tr.full 7).put (ag 1) (ai w)).put (ag 4) (.lbox [ai 0,bc])).put (ag 6) (.ptr (H.length+1) 0 2)).put (ag 7) (.lbox [ai ack,lst true 4 (some 94) (mvs out)])).put (ag 8) (ab more))
def Db (H:ae) (b:Bs) (ack:Nat) (R:Nat × List Ms) (e:AExit) (σ:List AV) (G:ae):Prop:=
 e=.ret∧(∃ (a':Nat) (e':Int),G=RS H b a' e')∧∃ c,aA F_q14.res σ=some (.tup [.agg [ai (if R.1=0 then (ack:Int) else 0),lst true 4 c (mvs R.2)],ai (R.1:Nat)])
theorem lst_nil (z:Nat) (k:Option Nat):lst true z k (mvs [])=bc:=rfl
theorem uv (l:List Ms) (m:Ms):mvs (l++[m])=mvs l++[m.v]:=by simp [mvs]
set_option maxHeartbeats 2000000 in
theorem AB {H:ae} {w:Nat} (hw:w=10∨w=16) {b:Bs} (hb:b.2.length≤8192) (hby:bm b.2)
  (hmiss:∀ a,a≤8 * b.2.length→callW P oS [.ptr (H.length+1) 0 2,ai w] (RS H b a 0)=some (.tup [.agg (cr b.2 a 0 w).1.v,ab (cr b.2 a 0 w).2.1],RS H b (cr b.2 a 0 w).2.2.1 ((cr b.2 a 0 w).2.2.2:Nat))) (ack:Nat) (R:Nat × List Ms) (z:Nat) (σ:List AV) (G:ae) (hI:Ey H w b ack R z (kill (bu eg) σ) G) :
  Ends ((execW P iX eg σ G).bind (jumpW P iX DR 0)) fun s=>Db H b ack R s.e s.σ s.H:=by
 refine gN (Ey H w b ack R) (Db H b ack R) rfl ?_ z σ G hI
 clear hI z σ G
 rintro z σ G ⟨a,e,more,out,hz,ho,ha,hR,rfl,hσ⟩
 rw [← cZ,hσ]
 have r1:=OB H b a e
 have r0:=ada H b a e
 have l0:(RS H b a e).length=H.length+2:=by simp [RS]
 have hlen:=dO out
 obtain ⟨z',rfl⟩:∃ z',z=z'+1:=⟨z - 1,by omega⟩
 rw [dF] at hR
 by_cases he:e=0
 ·subst he
  rw [if_neg (by simp)] at hR
  replace r1:ba (RS H b a 0) (H.length+1) 1 1 2=some [ai 0]:=r1
  replace r0:ba (RS H b a 0) (H.length+1) 0 1 2=some [.ptr H.length 0 2]:=r0
  replace l0:(RS H b a 0).length=H.length+2:=l0
  show Ends (execW P iX _ _ (RS H b a 0)) _
  cases more with
  | true =>
   rw [if_pos rfl] at hR
   by_cases h32:out.length=32
   ·have h32':(out.length:Int)=32:=by omega
    rw [if_pos h32] at hR
    subst hR
    have hex:∃ (a':Nat) (e':Int),RS H b a 0=RS H b a' e':=⟨a,0,rfl⟩
    generalize RS H b a 0=G at *
    clear hby hσ
    simp -implicitDefEqProofs [-ac,-AV.one,-ad,i5,eg,aK,aB,aP,aC,aM,SOpG.reads,SOp.slots,SX.slots,SOp.noL,rdV,av,aJ,aE,eqV,r1,h32',hlen]
    exact ⟨rfl,hex,none,by simp [F_q14,mvs]⟩
   have h32':¬ (out.length:Int)=32:=by omega
   rw [if_neg h32] at hR
   have k1:=hmiss a ha
   have hle:=uu ha 0 w
   obtain ⟨⟨M,mo,a1,e1⟩,hm⟩:∃ t,cr b.2 a 0 w=t:=⟨_,rfl⟩
   rw [hm] at k1 hle hR
   simp only at k1 hle hR
   have k2:=fun H=>wM hw M H
   have q1:=OB H b a1 e1
   have l1:(RS H b a1 e1).length=H.length+2:=by simp [RS]
   have hap:=fun σ H=>jV (m:=P.md iX) (d:=94) (sz:=4) (bytes:=32) (l:=mvs out) (l':=[M.v]) (x:=.vs 4 (some 93) [M.v]) (O7 94) (fun H=>cR H 4 (some 93) [M.v]) (by rw [hlen];simp [aw];omega) (by rw [hlen];simp [aw];omega) σ H
   rw [← uv] at hap
   have hex:∃ (a':Nat) (e':Int),RS H b a1 e1=RS H b a' e':=⟨a1,e1,rfl⟩
   have hinv:∀ σ,σ=L 114 ((((((Tr.full 7).put (ag 1) (ai w)).put (ag 4) (.lbox [ai 0,bc])).put (ag 6) (.ptr (H.length+1) 0 2)).put (ag 7) (.lbox [ai ack,lst true 4 (some 94) (mvs (out++[M]))])).put (ag 8) (ab mo))→dF b.2 w z' a1 e1 mo (out++[M])=R→∃ m,m<z'+1∧Ey H w b ack R m σ (RS H b a1 e1):=fun σ h1 h2=>⟨z',by omega,a1,e1,mo,out++[M],by simp;omega,by simp;omega,hle,h2,rfl,h1⟩
   obtain ⟨mv,hmv⟩:=nm (bj M (qW w) (rW w))
   rw [hmv] at k2 hR
   generalize hG1:RS H b a1 e1=G1 at *
   generalize RS H b a 0=G at *
   generalize mvs (out++[M])=lo at *
   generalize dF b.2 w z' a1 e1 mo (out++[M])=R2 at *
   obtain ⟨sn,pa,fr,to⟩:=M
   simp only [Ms.v] at k1 k2 hap
   clear hby hσ hm hmiss r0
   by_cases he1:e1=0
   ·subst he1
    replace q1:ba G1 (H.length+1) 1 1 2=some [ai 0]:=q1
    cases mv with
    | false =>
     rw [if_pos (by simp)] at hR
     subst hR
     simp -implicitDefEqProofs [-ac,-AV.one,-ad,i5,eg,aK,aB,aP,aC,aM,SOpG.reads,SOp.slots,SX.slots,SOp.noL,rdV,av,aJ,aE,eqV,r1,h32',hlen,k1,k2,q1,l0,l1]
     exact ⟨rfl,hex,none,by simp [F_q14,mvs]⟩
    | true =>
     rw [if_neg (by simp)] at hR
     simp -implicitDefEqProofs [-ac,-AV.one,-ad,i5,eg,aK,aB,aP,aC,aM,SOpG.reads,SOp.slots,SX.slots,SOp.noL,rdV,av,aJ,aE,eqV,r1,h32',hlen,k1,k2,q1,l0,l1,hap]
     exact hinv _ (by simp) hR
   ·rw [if_neg (fun h=>he1 h.1)] at hR
    have he1':¬ (e1:Int)=0:=by omega
    simp -implicitDefEqProofs [-ac,-AV.one,-ad,i5,eg,aK,aB,aP,aC,aM,SOpG.reads,SOp.slots,SX.slots,SOp.noL,rdV,av,aJ,aE,eqV,r1,h32',hlen,k1,q1,l0,l1,he1,he1',hap]
    exact hinv _ (by simp) hR
  | false =>
   rw [if_neg (by simp)] at hR
   have hRD:∀ a':Nat,RD (RS H b a 0) H.length b a'=RS H b a' 0:=fun a'=>by simp [RD,RS]
   obtain ⟨vb,a',hv,hc⟩:=acI (H:=RS H b a 0) (rr:=H.length) (b:=b) (by omega) hb hby ha
   simp only [hRD] at hc
   have hvl:=cz vb
   have hex:∃ (a'':Nat) (e':Int),RS H b a' 0=RS H b a'' e':=⟨a',0,rfl⟩
   have l1:(RS H b a' 0).length=H.length+2:=by simp [RS]
   generalize RS H b a' 0=G1 at *
   generalize RS H b a 0=G at *
   clear hby hσ hmiss
   by_cases hn:aj b.2 a (bY a)=0
   ·rw [if_pos hn] at hc
    have hv':=hv hn
    by_cases hl:b.2.length - (a+bY a) / 8=0
    ·have hl':¬ (vb.2.length:Int) > 0:=by omega
     have hl'':¬ 0<(vb.2.length:Int):=by omega
     rw [if_pos ⟨hn,hl⟩] at hR
     subst hR
     have hl3:vb.2.length=0:=by omega
     rw [hl3] at hvl
     clear hv hv' hn hl hRD
     simp -implicitDefEqProofs [-ac,-AV.one,-ad,i5,eg,aK,aB,aP,aC,aM,SOpG.reads,SOp.slots,SX.slots,SOp.noL,rdV,av,aJ,aE,eqV,r1,r0,hc,l0,l1,hvl]
     exact ⟨rfl,hex,some 94,by simp [F_q14]⟩
    ·have hl':(vb.2.length:Int) > 0:=by omega
     have hl'':0<(vb.2.length:Int):=by omega
     rw [if_neg (fun h=>hl h.2)] at hR
     subst hR
     obtain ⟨v,hvv⟩:=nm (vb.2.length)
     rw [hvv] at hvl hl' hl''
     have hl3:0<v:=by omega
     clear hv hv' hn hl hRD
     simp -implicitDefEqProofs [-ac,-AV.one,-ad,i5,eg,aK,aB,aP,aC,aM,SOpG.reads,SOp.slots,SX.slots,SOp.noL,rdV,av,aJ,aE,eqV,r1,r0,hc,l0,l1,hvl,hl',hl'',hl3]
     exact ⟨rfl,hex,none,by simp [F_q14,mvs]⟩
   ·rw [if_neg hn] at hc
    rw [if_neg (fun h=>hn h.1)] at hR
    subst hR
    clear hv hn hRD
    simp -implicitDefEqProofs [-ac,-AV.one,-ad,i5,eg,aK,aB,aP,aC,aM,SOpG.reads,SOp.slots,SX.slots,SOp.noL,rdV,av,aJ,aE,eqV,r1,r0,hc,l0,l1]
    exact ⟨rfl,hex,none,by simp [F_q14,mvs]⟩
 ·have he':¬ (e:Int)=0:=by omega
  rw [if_pos he] at hR
  subst hR
  have hex:∃ (a':Nat) (e':Int),RS H b a e=RS H b a' e':=⟨a,e,rfl⟩
  generalize RS H b a e=G at *
  clear hby hσ
  simp -implicitDefEqProofs [-ac,-AV.one,-ad,i5,eg,aK,aB,aP,aC,aM,SOpG.reads,SOp.slots,SX.slots,SOp.noL,rdV,av,aJ,aE,eqV,r1,he,he']
  exact ⟨rfl,hex,none,by simp [F_q14,mvs,he]⟩
def fG (bs:List Nat) (w:Int):AV:=.tup [.agg [ai ((bI bs w).2.1:Nat),lst true 4 none (mvs (bI bs w).2.2)],ai ((bI bs w).1:Nat)]
set_option maxRecDepth 20000 in
theorem Uy:∀ b:Fin 256,sS .u8 ((b.val:Nat):Int) 112=((num [decide (b.val / 2 ^ 6 % 2=1),decide (b.val / 2 ^ 5 % 2=1),decide (b.val / 2 ^ 4 % 2=1)] * 16:Nat):Int):=by decide
theorem Lc {bs:List Nat} {b:Nat} (h:bs[0]?=some b):aj bs 1 3=num [decide (b / 2 ^ 6 % 2=1),decide (b / 2 ^ 5 % 2=1),decide (b / 2 ^ 4 % 2=1)]:=by
 cases bs with
 | nil=>simp at h
 | cons x r =>
  simp only [List.getElem?_cons_zero,zqs] at h
  subst h
  rfl
set_option maxHeartbeats 2000000 in
theorem Ez {w ow:Nat} (hw:w=10∨w=16) (F:rq w ow) (hsi:IntKind.i64.wrap (1 * 2 ^ ow)=((2 ^ ow:Nat):Int)) (b:Bs) (hb:b.2.length≤8192) (hby:bm b.2) (H:ae) :
  ∃ k:Nat,callW P iX [bv b,ai w] H=some (fG b.2 w,H++List.replicate k .other):=by
 have hW:∀ H,callW P qI [ai w] H=some (ab true,H):=fun H=>by rw [jh,decide_eq_true (by omega)]
 have hwi:(w:Int)=10∨(w:Int)=16:=by omega
 have hlen:=cz b
 by_cases h0:b.2.length=0
 ·have hR:bI b.2 w=(8,0,[]):=by rw [bI,if_pos hwi,if_pos h0]
  have h0':(b.2.length:Int)=0:=by omega
  have h0'':b.2=[]:=zq8 h0
  refine ⟨0,?_⟩
  rw [fG,hR]
  clear hR hby
  rw [g9 rfl];simp -implicitDefEqProofs [-ac,-AV.one,-ad,i5,hW,hlen,h0,h0',h0'',mvs]
 have h0':¬ (b.2.length:Int)=0:=by omega
 have h0'':¬ b.2=[]:=fun h=>h0 (by rw [h];rfl)
 obtain ⟨b0,hb0⟩:∃ x,b.2[0]?=some x:=⟨_,zq6 (by omega)⟩
 have hb256:=hby b0 (List.mem_of_getElem? hb0)
 have q1:bW 1 none (bv b) (.c (.int .i64 0))=some (.vp [au b0] 0):=pB hb0 .i64
 have a128:=xQ ⟨b0,hb256⟩
 have a112:=Uy ⟨b0,hb256⟩
 simp only at a128 a112
 have n0:aj b.2 0 1=b0 / 128 % 2:=fA (a:=0) hb0
 have n1:=Lc hb0
 rw [← n1] at a112
 by_cases hz:aj b.2 0 1=0
 case neg =>
  have hR:bI b.2 w=(4,0,[]):=by rw [bI,if_pos hwi,if_neg h0,if_pos hz]
  rw [if_pos (by omega)] at a128
  refine ⟨0,?_⟩
  rw [fG,hR]
  clear hR hby
  rw [g9 rfl];simp -implicitDefEqProofs [-ac,-AV.one,-ad,i5,-decide_not,-ci,bS,hW,hlen,h0,h0',h0'',q1,a128,mvs]
 rw [if_neg (by omega)] at a128
 by_cases h3:aj b.2 1 3=0
 case neg =>
  have hR:bI b.2 w=(3,0,[]):=by rw [bI,if_pos hwi,if_neg h0,if_neg (not_not_intro hz),if_pos h3]
  refine ⟨0,?_⟩
  rw [fG,hR]
  obtain ⟨v,hv⟩:=nm (aj b.2 1 3 * 16)
  have hv0:¬ v=0:=by omega
  have hv0':¬ (v:Int)=0:=by omega
  rw [hv] at a112
  clear hR hby n1 h3 hv hz n0
  rw [g9 rfl];simp -implicitDefEqProofs [-ac,-AV.one,-ad,i5,-decide_not,-ci,bS,hW,hlen,h0,h0',h0'',q1,a128,a112,hv0,hv0',mvs]
 rw [h3] at a112
 replace a112:sS .u8 (b0:Int) 112=0:=a112
 obtain ⟨z,hr⟩:=kg b hb H
 obtain ⟨b',hb'⟩:∃ t:Bs,(z,b.2)=t:=⟨_,rfl⟩
 have e2:b.2=b'.2:=by rw [← hb']
 rw [hb'] at hr
 refine ⟨2,?_⟩
 rw [e2] at hb hby h0 hz h3 ⊢
 have k1:=jj H b' hb hby (a:=0) (by omega) 0 4 (by omega) 4 rfl
 have la1:=f9 (bs:=b'.2) (a:=0) (by omega) 0 4
 obtain ⟨⟨v1,a1,e1⟩,g1⟩:∃ t,gS b'.2 0 0 4=t:=⟨_,rfl⟩
 rw [g1] at k1 la1
 have k2:=jj H b' hb hby la1 e1 w (by omega) w rfl
 have la2:=f9 la1 e1 w
 obtain ⟨⟨v2,a2,e2'⟩,g2⟩:∃ t,gS b'.2 a1 e1 w=t:=⟨_,rfl⟩
 replace g2:gS b'.2 a1 e1 w=(v2,a2,e2'):=g2
 simp only at k2 la2
 rw [g2] at k2 la2
 have k3:=jj H b' hb hby la2 e2' 1 (by omega) 1 rfl
 have la3:=f9 la2 e2' 1
 obtain ⟨⟨v3,a3,e3⟩,g3⟩:∃ t,gS b'.2 a2 e2' 1=t:=⟨_,rfl⟩
 simp only at k3 la3
 rw [g3] at k3 la3
 simp only at k1 k2 k3 la3
 have hR:bI b'.2 w=((dF b'.2 w 34 a3 e3 (decide (v3=1)) []).1,(if (dF b'.2 w 34 a3 e3 (decide (v3=1)) []).1=0 then v2 else 0),(dF b'.2 w 34 a3 e3 (decide (v3=1)) []).2):=by
  rw [bI,if_pos hwi,if_neg h0,if_neg (not_not_intro hz),if_neg (not_not_intro h3)]
  simp only [Int.toNat_natCast,g1,g2,g3]
 rw [fG,hR]
 have htail:=AB (H:=H) hw hb hby (fun a ha=>OC hw F hsi H b' hb hby ha 0) v2 (dF b'.2 w 34 a3 e3 (decide (v3=1)) []) 34
 have hinv:∀ σ,σ=L 114 ((((((Tr.full 7).put (ag 1) (ai w)).put (ag 4) (.lbox [ai 0,bc])).put (ag 6) (.ptr (H.length+1) 0 2)).put (ag 7) (.lbox [ai v2,bc])).put (ag 8) (ab (decide (v3=1))))→Ey H w b' v2 (dF b'.2 w 34 a3 e3 (decide (v3=1)) []) 34 σ (RS H b' a3 e3):=fun σ h=>⟨a3,e3,_,[],by simp,by simp,la3,rfl,rfl,h⟩
 obtain ⟨R,hRR⟩:=nm (dF b'.2 w 34 a3 e3 (decide (v3=1)) [])
 rw [hRR] at hR htail hinv ⊢
 have hone:=eq1 v3
 replace k1:callW P nu [.ptr (H.length+1) 0 2,ai 4] (H++[.row [bv b',ai 0],.row [.ptr H.length 0 2,ai 0]])=some (ai v1,RS H b' a1 e1):=k1
 have l1:(RS H b' a1 e1).length=H.length+2:=by simp [RS]
 have l2:(RS H b' a2 e2').length=H.length+2:=by simp [RS]
 have l3:(RS H b' a3 e3).length=H.length+2:=by simp [RS]
 generalize RS H b' a3 e3=G3 at *
 generalize RS H b' a2 e2'=G2 at *
 generalize RS H b' a1 e1=G1 at *
 rw [cH]
 clear hRR hR g1 g2 g3 n0 n1
 refine call_post 7 114 rfl (rfl:P.T iX=some F_q14) rfl (aF rfl) (Db H b' v2 R) ?_ ?_
 ·rintro e σ G ⟨rfl,⟨a',e',rfl⟩,c,h2⟩
  refine ⟨rfl,_,h2,by simp,?_⟩
  simp [RS]
  split<;>rfl
 rw [F_q14];simp -implicitDefEqProofs [-ac,-AV.one,-ad,i5,-decide_not,-ci,bS,aK,aB,aP,aC,aM,SOpG.reads,SOp.slots,SX.slots,SOp.noL,rdV,av,aJ,aE,eqV,hW,hlen,h0',h0'',q1,a128,a112,hr,k1,k2,k3,hone]
 refine htail _ _ (hinv _ ?_)
 simp [eg]
theorem AC (b:Bs) (hb:b.2.length≤8192) (hby:bm b.2) (w:Int) (H:ae) :
  ∃ k:Nat,callW P iX [bv b,ai w] H=some (fG b.2 w,H++List.replicate k .other):=by
 by_cases h10:w=10
 ·subst h10
  exact Ez (w:=10) (.inl rfl) K8 rfl b hb hby H
 by_cases h16:w=16
 ·subst h16
  exact Ez (w:=16) (.inr rfl) K9 rfl b hb hby H
 have hW:∀ H,callW P qI [ai w] H=some (ab false,H):=fun H=>by rw [jh,decide_eq_false (by omega)]
 have hR:bI b.2 w=(9,0,[]):=by rw [bI,if_neg (by omega)]
 refine ⟨0,?_⟩
 rw [fG,hR]
 clear hR hby
 rw [g9 rfl];simp -implicitDefEqProofs [-ac,-AV.one,-ad,i5,hW,mvs]
theorem ru {bs:List Nat} {a e n:Nat} (h:(gS bs a e n).2.2=0):e=0∧gS bs a e n=(aj bs a n,a+n,0)∧a+n≤8 * bs.length:=by
 unfold gS at h ⊢
 by_cases he:e=0
 ·subst he
  rw [if_neg (by simp)] at h ⊢
  by_cases c:a+n≤8 * bs.length
  ·rw [if_pos c];exact ⟨rfl,rfl,c⟩
  ·rw [if_neg c] at h;simp at h
 ·rw [if_pos he] at h;exact (he h).elim
theorem adf {w:Nat} (hw:w=10∨w=16):rW w=2 ^ aI w:=by rcases hw with rfl | rfl<;>rfl
theorem UC {v k:Nat} (h:v<2 ^ k) (hk:1≤2 ^ k) (m:Ms) (hm:m.to=((v+1) % 2 ^ k:Nat)):toE m k=v:=by
 rw [toE,hm]
 by_cases e:v+1=2 ^ k
 ·rw [e,Nat.mod_self];simp;omega
 ·rw [Nat.mod_eq_of_lt (by omega),if_neg (by omega),Int.toNat_natCast];omega
theorem Ha {bs:List Nat} {a e w:Nat} (h:(cr bs a e w).2.2.2=0) :
  e=0∧∃ n,(cr bs a e w).2.2.1=a+n∧a+n≤8 * bs.length∧rp w (cr bs a e w).1 (cr bs a e w).2.1=sl bs a n:=by
 obtain ⟨r1,g1⟩:=nm (gS bs a e w)
 obtain ⟨r2,g2⟩:=nm (gS bs r1.2.1 r1.2.2 1)
 obtain ⟨r3,g3⟩:=nm (gS bs r2.2.1 r2.2.2 1)
 have back:r3.2.2=0→e=0∧r1=(aj bs a w,a+w,0)∧r2=(aj bs (a+w) 1,a+w+1,0)∧r3=(aj bs (a+w+1) 1,a+w+1+1,0)∧a+w+1+1≤8 * bs.length:=by
  intro h3
  rw [← g3] at h3
  obtain ⟨x1,x2,x3⟩:=ru h3
  have x1':=x1
  rw [← g2] at x1'
  obtain ⟨y1,y2,y3⟩:=ru x1'
  have y1':=y1
  rw [← g1] at y1'
  obtain ⟨z1,z2,z3⟩:=ru y1'
  rw [g1] at z2
  rw [g2,z2] at y2
  rw [g3,y2] at x2
  rw [y2] at x3
  exact ⟨z1,z2,y2,x2,x3⟩
 simp only [cr,g1,g2,g3] at h ⊢
 by_cases hp:r3.1=1
 ·rw [if_pos hp] at h ⊢
  obtain ⟨r4,g4⟩:=nm (gS bs r3.2.1 r3.2.2 (aI w))
  obtain ⟨r5,g5⟩:=nm (gS bs r4.2.1 r4.2.2 (aI w))
  rw [g4,g5] at h ⊢
  simp only at h ⊢
  rw [← g5] at h
  obtain ⟨x1,x2,x3⟩:=ru h
  rw [← g4] at x1
  obtain ⟨y1,y2,y3⟩:=ru x1
  obtain ⟨z0,z1,z2,z3,z4⟩:=back y1
  rw [g4,z3] at y2
  rw [z3] at y3
  simp only at y2 y3
  rw [g5,y2] at x2
  rw [y2] at x3
  simp only at x2 x3
  have hlt:=bK x3
  subst z1 z2 z3 y2 x2
  refine ⟨z0,w+2+2 * aI w,by simp only;omega,by omega,?_⟩
  simp only at hp ⊢
  have o3:=fF z4
  rw [decide_eq_true hp] at o3
  rw [rp,UC hlt (Nat.one_le_two_pow) _ rfl]
  simp only [Int.toNat_natCast,if_true]
  have j1:sl bs a w++sl bs (a+w) 1=sl bs a (w+1):=bG bs a w 1
  have j2:sl bs a (w+1)++sl bs (a+w+1) 1=sl bs a (w+2):=bG bs a (w+1) 1
  have j3:sl bs a (w+2)++sl bs (a+w+1+1) (aI w+aI w)=sl bs a (w+2+(aI w+aI w)):=bG bs a (w+2) (aI w+aI w)
  have j4:=bG bs (a+w+1+1) (aI w) (aI w)
  rw [dW (by omega),fF (by omega),o3,dW y3,dW x3,j1,j2,j4,j3]
  congr 1;omega
 ·rw [if_neg hp] at h ⊢
  simp only at h ⊢
  obtain ⟨z0,z1,z2,z3,z4⟩:=back h
  subst z1 z2 z3
  simp only at hp ⊢
  have o3:=fF z4
  rw [decide_eq_false hp] at o3
  refine ⟨z0,w+2,by omega,by omega,?_⟩
  rw [rp]
  simp only [Int.toNat_natCast,Bool.false_eq_true,if_false,List.append_nil]
  have j1:sl bs a w++sl bs (a+w) 1=sl bs a (w+1):=bG bs a w 1
  have j2:sl bs a (w+1)++sl bs (a+w+1) 1=sl bs a (w+2):=bG bs a (w+1) 1
  rw [dW (by omega),fF (by omega),o3,j1,j2]
theorem wN {bs:List Nat} {w:Nat}:∀ (z a e:Nat) (more:Bool) (out ms:List Ms),a≤8 * bs.length→out.length≤32→dF bs w z a e more out=(0,ms) →
  e=0∧∃ r,ms=out++r∧ms.length≤32∧more=decide (0<r.length)∧(∀ m∈r,bj m (qW w) (rW w)=true)∧∃ n,a+n≤8 * bs.length∧dX w r=sl bs a n∧aj bs (a+n) (bY (a+n))=0∧bs.length - (a+n+bY (a+n)) / 8=0
 | 0,_,_,_,_,_,_,_,h=>by rw [dF] at h;simp at h
 | z+1,a,e,more,out,ms,ha,ho,h=>by
  rw [dF] at h
  by_cases he:e=0
  ·rw [if_neg (not_not_intro he)] at h
   refine ⟨he,?_⟩
   subst he
   cases more with
   | true =>
    rw [if_pos rfl] at h
    by_cases h32:out.length=32
    ·rw [if_pos h32] at h;simp at h
    rw [if_neg h32] at h
    by_cases hc:(cr bs a 0 w).2.2.2=0∧bj (cr bs a 0 w).1 (qW w) (rW w)=false
    ·rw [if_pos hc] at h;simp at h
    rw [if_neg hc] at h
    obtain ⟨k1,r,k2,k3,k4,k5,n,k6,k7,k8,k9⟩:=wN z _ _ _ _ _ (uu ha 0 w) (by simp;omega) h
    obtain ⟨_,n1,l1,l2,l3⟩:=Ha k1
    rw [l1] at k6 k7 k8 k9
    have hok:bj (cr bs a 0 w).1 (qW w) (rW w)=true:=by
     cases hh:bj (cr bs a 0 w).1 (qW w) (rW w) with
     | true=>rfl
     | false=>exact (hc ⟨k1,hh⟩).elim
    refine ⟨(cr bs a 0 w).1 :: r,by rw [k2];simp,k3,by simp,?_,n1+n,by omega,?_,?_,?_⟩
    ·intro m hm
     rcases List.mem_cons.1 hm with rfl | hm
     ·exact hok
     ·exact k5 m hm
    ·rw [dX,← k4,l3,k7,bG]
    ·rw [← Nat.add_assoc];exact k8
    ·rw [← Nat.add_assoc];exact k9
   | false =>
    rw [if_neg (by simp)] at h
    by_cases hc:aj bs a (bY a)=0∧bs.length - (a+bY a) / 8=0
    ·rw [if_pos hc] at h
     obtain ⟨_,rfl⟩:=Prod.mk.inj h
     exact ⟨[],by simp,ho,by simp,by simp,0,by omega,by rw [dX,sl,List.take_zero],hc.1,hc.2⟩
    ·rw [if_neg hc] at h;simp at h
  ·rw [if_pos he] at h
   exact (he (Prod.mk.inj h).1).elim
theorem Di {bs:List Nat} (hby:bm bs) {w:Int} {ack:Nat} {ms:List Ms} (z:Bool) (h:bI bs w=(0,ack,ms)) :
  (w=10∨w=16)∧bs.length≠0∧aj bs 0 1=0∧jn ⟨ack,z,ms⟩ w.toNat=true∧PackR (cP ⟨ack,z,ms⟩ w.toNat) bs:=by
 unfold bI at h
 by_cases hw:w=10∨w=16
 case neg=>rw [if_neg hw] at h;simp at h
 rw [if_pos hw] at h
 by_cases h1:bs.length=0
 ·rw [if_pos h1] at h;simp at h
 rw [if_neg h1] at h
 by_cases h2:aj bs 0 1=0
 case neg=>rw [if_pos h2] at h;simp at h
 rw [if_neg (not_not_intro h2)] at h
 by_cases h3:aj bs 1 3=0
 case neg=>rw [if_pos h3] at h;simp at h
 rw [if_neg (not_not_intro h3)] at h
 refine ⟨hw,h1,h2,?_⟩
 obtain ⟨wn,rfl,hwn⟩:∃ wn:Nat,w=wn∧(wn=10∨wn=16):=by
  rcases hw with rfl | rfl
  ·exact ⟨10,rfl,.inl rfl⟩
  ·exact ⟨16,rfl,.inr rfl⟩
 have htn:((wn:Nat):Int).toNat=wn:=by simp
 rw [htn] at h ⊢
 obtain ⟨r1,g1⟩:=nm (gS bs 0 0 4)
 obtain ⟨r2,g2⟩:=nm (gS bs r1.2.1 r1.2.2 wn)
 obtain ⟨r3,g3⟩:=nm (gS bs r2.2.1 r2.2.2 1)
 simp only [g1,g2,g3] at h
 have a1:r1.2.1≤8 * bs.length:=by rw [← g1];exact f9 (by omega) _ _
 have a2:r2.2.1≤8 * bs.length:=by rw [← g2];exact f9 a1 _ _
 have a3:r3.2.1≤8 * bs.length:=by rw [← g3];exact f9 a2 _ _
 obtain ⟨R,hR⟩:=nm (dF bs wn 34 r3.2.1 r3.2.2 (decide (r3.1=1)) [])
 rw [hR] at h
 simp only [zqp] at h
 obtain ⟨q1,q2,q3⟩:=h
 rw [if_pos q1] at q2
 have hR':dF bs wn 34 r3.2.1 r3.2.2 (decide (r3.1=1)) []=(0,ms):=by rw [hR,← q1,← q3]
 obtain ⟨k1,r,k2,k3,k4,k5,n,k6,k7,k8,k9⟩:=wN 34 _ _ _ _ _ a3 (by simp) hR'
 rw [List.nil_append] at k2
 subst k2
 rw [← g3] at k1
 obtain ⟨x1,x2,x3⟩:=ru k1
 have x1':=x1
 rw [← g2] at x1'
 obtain ⟨y1,y2,y3⟩:=ru x1'
 have y1':=y1
 rw [← g1] at y1'
 obtain ⟨_,z2,z3⟩:=ru y1'
 rw [g1,Nat.zero_add] at z2
 rw [g2,z2] at y2
 rw [z2] at y3
 rw [g3,y2] at x2
 rw [y2] at x3
 subst z2 y2 x2
 simp only at q2 y3 x3 k4 k6 k7 k8 k9
 subst q2
 have hlt:=bK y3
 have hlt':aj bs 4 wn<qW wn:=hlt
 constructor
 ·simp only [jn,Bool.and_eq_true,decide_eq_true_eq,Bool.not_eq_true',List.any_eq_false]
  refine ⟨⟨⟨by omega,by omega⟩,k3⟩,fun m hm=>?_⟩
  rw [k5 m hm];simp
 ·have o0:sl bs 0 1=[false]:=by rw [← fF (by omega),h2];rfl
  have o1:sl bs 1 3=[false,false,false]:=by rw [← dW (by omega),h3];rfl
  have o4:[false,false,false,false]=sl bs 0 4:=by
   have:=bG bs 0 1 3
   rw [o0,Nat.zero_add,o1] at this
   exact this
  have hx:cP ⟨(aj bs 4 wn:Nat),z,ms⟩ wn=sl bs 0 (4+wn+1+n):=by
   have j1:=bG bs 0 4 wn
   have j2:=bG bs 0 (4+wn) 1
   have j3:=bG bs 0 (4+wn+1) n
   rw [Nat.zero_add] at j1 j2 j3
   rw [cP]
   simp only [Int.toNat_natCast]
   rw [o4,← k4,dW y3,fF x3,k7,j1,j2,j3]
  obtain ⟨t,ht⟩:=nm (4+wn+1+n)
  rw [ht] at hx k6 k8 k9
  have hp:=jB k6
  have hpd:bY t<8:=by simp only [bY];omega
  have h8:t+bY t=8 * bs.length:=by simp only [bY] at hp hpd k9 ⊢;omega
  have hxl:(sl bs 0 t).length=t:=CH (by omega)
  refine ⟨by rw [hx,hxl];omega,hby,?_⟩
  rw [hx,hxl]
  have ez:=dW (bs:=bs) (a:=t) (n:=bY t) hp
  rw [k8] at ez
  have ez2:aD 0 (bY t)=List.replicate (bY t) false:=by
   rw [aD,List.eq_replicate_iff];simp
  rw [ez2] at ez
  have hb:=rM bs bs.length
  rw [List.take_length] at hb
  have j:=bG bs 0 t (bY t)
  rw [Nat.zero_add] at j
  rw [hb,← h8,← j,← ez]
  congr 2;omega
end Go.A.V.S
