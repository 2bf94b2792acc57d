/- The reference: heads' sizes, widths; bits. -/
import Derived.Test.YtnmobjhmohcjfaaGreatXB
set_option linter.unusedSimpArgs false
set_option linter.unusedVariables false
set_option linter.unnecessarySimpa false
namespace Go.A.V.S
open Go Go.A
def bls (l:List Bool):List (List AV):=l.map fun b=>[ab b]
theorem ed (l:List Bool):(bls l).length=l.length:=by simp [bls]
theorem pH (l:List Bool) (b:Bool):bls (l++[b])=bls l++[[ab b]]:=by simp [bls]
theorem fp {l:List Bool} {i:Nat} {b:Bool} (h:l[i]?=some b) (z:Bool) (f:Option Nat) (k:IntKind):bW 1 none (lst z 1 f (bls l)) (.c (.int k i))=some (.vp [ab b] 0):=gJ _ _ _ (by simp [bls,h]) k
theorem Ar (part:Bool) (w:Int) (H:ae):callW P oU [ab part,ai w] H=some (ai (bN part w:Nat),H):=by
 have h2:IntKind.i64.wrap 4=4:=rfl
 have h3:IntKind.i64.wrap 5=5:=rfl
 by_cases h10:w=10
 ·subst h10
  cases part
  ·rw [gL rfl];simp -implicitDefEqProofs [-ac,-AV.one,-ad,rb,bN,h2,h3]
  ·rw [gL rfl];simp -implicitDefEqProofs [-ac,-AV.one,-ad,rb,bN,h2,h3]
 ·by_cases h16:w=16
  ·subst h16
   cases part
   ·rw [gL rfl];simp -implicitDefEqProofs [-ac,-AV.one,-ad,rb,bN,h2,h3]
   ·rw [gL rfl];simp -implicitDefEqProofs [-ac,-AV.one,-ad,rb,bN,h2,h3]
  ·cases part
   ·rw [gL rfl];simp -implicitDefEqProofs [-ac,-AV.one,-ad,rb,bN,h10,h16]
   ·rw [gL rfl];simp -implicitDefEqProofs [-ac,-AV.one,-ad,rb,bN,h10,h16]
theorem pI (w:Int) (H:ae):callW P lm [ai w] H=some (.tup [ai (bn w:Nat),ai (aI w:Nat)],H):=by
 rw [xO rfl];simp -implicitDefEqProofs [-ac,-AV.one,-ad,JD,bn,aI]
 split<;>simp_all
section
variable {H:ae}
def T3 (H:ae) (va:Bs) (i b:Nat) (z:Nat) (σ:List AV) (G:ae):Prop:=
 ∃ (j w:Nat),j+z=8∧w=128 / 2 ^ j∧G=H∧σ=L 32 (((((Tr.full 6).put (ag 0) (bv va)).put (ag 3) (lst true 1 (some 30) (bls (ay (va.2.take i)++(eT b).take j)))).put (ag 4) (ai i)).put (ag 5) (au w))
def KC (H:ae) (va:Bs) (i b:Nat) (e:AExit) (σ:List AV) (G:ae):Prop:=
 e=.exit 2∧G=H∧kill [5,16,17] σ=L 32 ((((Tr.full 6).put (ag 0) (bv va)).put (ag 3) (lst true 1 (some 30) (bls (ay (va.2.take i)++eT b)))).put (ag 4) (ai i))
theorem N6 {va:Bs} (hb:va.2.length≤8192) {i b:Nat} (hi:va.2[i]?=some b) (hb256:b<256) (z:Nat) (σ:List AV) (G:ae) (hI:T3 H va i b z (kill (bu mS) σ) G) :
  Ends (execW P qK (.loop mS) σ G) fun s=>KC H va i b s.e s.σ s.H:=by
 refine aX (fun z σ G=>T3 H va i b z σ G) (KC H va i b) ?_ z σ G hI
 clear hI z σ G
 rintro z σ G ⟨j,w,hz,hw,rfl,rfl⟩
 have q1:=pB hi .i64
 have hilt:=(List.getElem?_eq_some_iff.1 hi).1
 by_cases hj:j<8
 ·have hw7:w=2 ^ (7 - j):=by
   rw [hw]
   have:j=0∨j=1∨j=2∨j=3∨j=4∨j=5∨j=6∨j=7:=by omega
   rcases this with rfl | rfl | rfl | rfl | rfl | rfl | rfl | rfl<;>rfl
  have hw0:0<w:=by rw [hw7];exact Nat.pow_pos (by omega)
  have hw0':(w:Int) > 0:=by omega
  have hw0'':(0:Int)<w:=by omega
  have hwn:¬ w=0:=by omega
  have hwn':¬ (w:Int)=0:=by omega
  have hw128:w≤128:=by rw [hw];exact Nat.div_le_self _ _
  have htake:=CA (b:=b) hj
  rw [← hw7] at htake
  have hlt:((ay (va.2.take i)++(eT b).take j)).length≤100000:=by
   rw [List.length_append,bC,List.length_take,List.length_take];omega
  have hnext:128 / 2 ^ (j+1)=w / 2:=by rw [hw,Nat.div_div_eq_div_mul,Nat.pow_succ]
  obtain ⟨q,hq⟩:=nm (b / w)
  have hq256:q<256:=by
   have:=Nat.div_le_self b w
   omega
  rw [hq] at htake
  have d1:IntKind.u8.wrap ((b:Int).tdiv w)=(q:Int):=by
   rw [Int.tdiv_eq_ediv_of_nonneg (by omega),← Int.natCast_ediv,hq];exact gj (by omega) (by omega)
  have d1':IntKind.u8.wrap ((b:Int) / w)=(q:Int):=by
   rw [← Int.natCast_ediv,hq];exact gj (by omega) (by omega)
  have d2:(q:Int).tmod 2=((q % 2:Nat):Int):=by rw [Int.tmod_eq_emod_of_nonneg (by omega)];omega
  have d2':(q:Int) % 2=((q % 2:Nat):Int):=by omega
  obtain ⟨u,hu⟩:=nm (q % 2)
  rw [hu] at d2 d2' htake
  obtain ⟨w2,hw2⟩:=nm (w / 2)
  have d3:IntKind.u8.wrap ((w:Int).tdiv 2)=(w2:Int):=by
   rw [Int.tdiv_eq_ediv_of_nonneg (by omega)]
   have:(w:Int) / 2=(w2:Int):=by omega
   rw [this];exact gj (by omega) (by omega)
  have d3':IntKind.u8.wrap ((w:Int) / 2)=(w2:Int):=by
   have:(w:Int) / 2=(w2:Int):=by omega
   rw [this];exact gj (by omega) (by omega)
  have hd:decide ((u:Int)=1)=decide (u=1):=decide_eq_decide.2 (by omega)
  have hap:=fun σ H=>uR (m:=P.md qK) (d:=30) (bytes:=1) (v:=ab (decide (u=1))) (Pc 30) (by omega) (by rw [ed];exact hlt) (l:=bls (ay (va.2.take i)++(eT b).take j)) (some 29) σ H
  rw [← pH,List.append_assoc,← htake] at hap
  generalize bls (ay (va.2.take i)++(eT b).take j)=L0 at *
  have hres:∀ σ,σ=L 32 (((((Tr.full 6).put (ag 0) (bv va)).put (ag 3) (lst true 1 (some 30) (bls (ay (va.2.take i)++(eT b).take (j+1))))).put (ag 4) (ai i)).put (ag 5) (au w2))→∃ m,m<z∧T3 G va i b m σ G:=fun σ e=>⟨z - 1,by omega,j+1,w2,by omega,by rw [hnext];exact hw2.symm,rfl,e⟩
  generalize bls (ay (va.2.take i)++(eT b).take (j+1))=L1 at *
  simp -implicitDefEqProofs [-ac,-AV.one,-ad,qZ,mS,hw0,hw0',hw0'',hwn,hwn',q1,d1,d1',d2,d2',d3,d3',hd,hap]
  exact hres _ (by simp)
 ·have hj8:j=8:=by omega
  subst hj8
  have hw0:w=0:=by rw [hw]
  subst hw0
  have ht:(eT b).take 8=eT b:=List.take_of_length_le (by rw [gI];omega)
  rw [ht]
  obtain ⟨L0,hL0⟩:=nm (bls (ay (va.2.take i)++eT b))
  rw [hL0]
  simp -implicitDefEqProofs [-ac,-AV.one,-ad,qZ,mS]
  exact ⟨rfl,rfl,by rw [hL0];simp⟩
def ac3 (H:ae) (va:Bs) (z:Nat) (σ:List AV) (G:ae):Prop:=
 ∃ i:Nat,i+z=va.2.length∧G=H∧σ=L 32 ((((Tr.full 6).put (ag 0) (bv va)).put (ag 3) (lst true 1 (some 30) (bls (ay (va.2.take i))))).put (ag 4) (ai i))
def KD (H:ae) (va:Bs) (e:AExit) (σ:List AV) (G:ae):Prop:=
 e=.exit 0∧G=H∧kill [0,4,6,7,8,9,10,11,12,13] σ=L 32 ((Tr.full 6).put (ag 3) (lst true 1 (some 30) (bls (ay va.2))))
theorem KE {va:Bs} (hb:va.2.length≤8192) (hby:bm va.2) (z:Nat) (σ:List AV) (G:ae) (hI:ac3 H va z (kill (bu kJ) σ) G) :
  Ends (execW P qK (.loop kJ) σ G) fun s=>KD H va s.e s.σ s.H:=by
 refine aX (fun z σ G=>ac3 H va z σ G) (KD H va) ?_ z σ G hI
 clear hI z σ G
 rintro z σ G ⟨i,hz,rfl,rfl⟩
 have hlen:=cz va
 by_cases hi:i<va.2.length
 ·have hi':(i:Int)<va.2.length:=by omega
  have hi8:(i:Int)<8192:=by omega
  obtain ⟨b,hbi⟩:∃ b,va.2[i]?=some b:=⟨_,zq6 hi⟩
  have w1:IntKind.i64.wrap ((i:Int)+1)=((i+1:Nat):Int):=by rw [aq (by omega) (by omega)];omega
  obtain ⟨i1,hi1⟩:=nm (i+1)
  rw [hi1] at w1
  have hsn:=Cz hbi
  rw [hi1] at hsn
  obtain ⟨L0,hL0⟩:=nm (bls (ay (va.2.take i)))
  rw [hL0]
  simp -implicitDefEqProofs [-ac,-AV.one,-ad,qZ,kJ,hlen,hi,hi',hi8]
  repeat rw [Option.bind_assoc]
  refine Ends.block (P:=KC G va i b) (N6 hb hbi (hby b (List.mem_of_getElem? hbi)) 8 _ _ ⟨0,128,rfl,rfl,rfl,?_⟩) ?_
  ·rw [List.take_zero,List.append_nil,hL0];simp [mS];rfl
  rintro e σ1 G1 ⟨rfl,rfl,k2⟩
  rw [← hsn] at k2
  obtain ⟨L1,hL1⟩:=nm (bls (ay (va.2.take i1)))
  rw [hL1] at k2
  simp -implicitDefEqProofs [-ac,-AV.one,-ad,qZ,k2,w1]
  exact ⟨z - 1,by omega,i1,by omega,rfl,by rw [hL1];simp [kJ]⟩
 ·have hi':¬ (i:Int)<va.2.length:=by omega
  have ht:va.2.take i=va.2:=List.take_of_length_le (by omega)
  rw [ht]
  obtain ⟨L0,hL0⟩:=nm (bls (ay va.2))
  rw [hL0]
  simp -implicitDefEqProofs [-ac,-AV.one,-ad,qZ,kJ,hlen,hi,hi']
  exact ⟨rfl,rfl,by rw [hL0];simp⟩
theorem As (va:Bs) (hb:va.2.length≤8192) (hby:bm va.2) (H:ae):callW P qK [bv va] H=some (lst true 1 (some 0) (bls (ay va.2)),H):=by
 rw [cH]
 refine call_post 6 32 rfl (rfl:P.T qK=some F_q57) rfl (aF rfl) (fun e σ G=>e=.ret∧G=H∧aA F_q57.res σ=some (lst true 1 (some 30) (bls (ay va.2)))) ?_ ?_
 ·rintro e σ G ⟨rfl,rfl,h⟩
  exact ⟨rfl,_,h,by simp,by simp⟩
 rw [F_q57];simp -implicitDefEqProofs [-ac,-AV.one,-ad,qZ]
 repeat rw [Option.bind_assoc]
 refine Ends.block (P:=KD H va) (KE hb hby va.2.length _ _ ⟨0,by omega,rfl,by simp [kJ,bls,ay]⟩) ?_
 rintro e σ1 G1 ⟨rfl,rfl,k2⟩
 generalize bls (ay va.2)=L0 at *
 simp -implicitDefEqProofs [-ac,-AV.one,-ad,qZ,k2]
def ac4 (zx:Bool) (x:List Bool) (H:ae) (a n:Nat) (z:Nat) (σ:List AV) (G:ae):Prop:=
 ∃ (k i v:Nat),k+z=n∧a+k=i∧v=rE x a k∧G=H∧σ=L 45 ((((((Tr.full 6).put (ag 0) (lst zx 1 none (bls x))).put (ag 1) (ai a)).put (ag 2) (ai n)).put (ag 9) (.c (.int .u64 (v:Int)))).put (ag 10) (ai i))
def KF (H:ae) (x:List Bool) (a n:Nat) (e:AExit) (σ:List AV) (G:ae):Prop:=
 e=.exit 0∧G=H∧kill [0,10,26,27,28,29,30] σ=L 45 ((((Tr.full 6).put (ag 1) (ai a)).put (ag 2) (ai n)).put (ag 9) (.c (.int .u64 (rE x a n:Nat))))
theorem KG {zx:Bool} {x:List Bool} (hl:x.length≤100000) {a n:Nat} (hn:n≤64) (hle:a+n≤x.length) (z:Nat) (σ:List AV) (G:ae) (hI:ac4 zx x H a n z (kill (bu kK) σ) G) :
  Ends (execW P eV (.loop kK) σ G) fun s=>KF H x a n s.e s.σ s.H:=by
 refine aX (fun z σ G=>ac4 zx x H a n z σ G) (KF H x a n) ?_ z σ G hI
 clear hI z σ G
 rintro z σ G ⟨k,i,v,hz,hi,hv,rfl,rfl⟩
 obtain ⟨to,hto⟩:=nm (a+n)
 have w1:IntKind.i64.wrap ((a:Int)+n)=(to:Int):=by rw [aq (by omega) (by omega)];omega
 by_cases hk:k<n
 ·have hlt:(i:Int)<to:=by omega
  have hlt':i<to:=by omega
  obtain ⟨b,hb⟩:∃ b,x[i]?=some b:=⟨_,zq6 (by omega)⟩
  have q1:=fp hb zx none .i64
  have hs:=Gr (x:=x) (a:=a) (n:=k) (b:=b) (by rw [hi];exact hb)
  rw [← hv] at hs
  have hvb:v<9223372036854775808:=by
   have:=Ec (x:=x) (a:=a) (n:=k) (by omega)
   rw [← hv] at this
   have h63:2 ^ k≤2 ^ 63:=Nat.pow_le_pow_right (by omega) (by omega)
   have:(2:Nat) ^ 63=9223372036854775808:=by decide
   omega
  have w2:IntKind.u64.wrap (2 * (v:Int))=((2 * v:Nat):Int):=by rw [bJ (by omega) (by omega)];omega
  obtain ⟨v2,hv2⟩:=nm (2 * v)
  rw [hv2] at w2 hs
  have w3:IntKind.u64.wrap ((v2:Int)+1)=((v2+1:Nat):Int):=by rw [bJ (by omega) (by omega)];omega
  obtain ⟨v3,hv3⟩:=nm (v2+1)
  have w4:IntKind.i64.wrap ((i:Int)+1)=((i+1:Nat):Int):=by rw [aq (by omega) (by omega)];omega
  obtain ⟨i1,hi1⟩:=nm (i+1)
  rw [hv3] at w3
  rw [hi1] at w4
  cases b with
  | true =>
   simp -implicitDefEqProofs [-ac,-AV.one,-ad,q9,kK,w1,hlt,hlt',w2,w3,w4,q1]
   exact ⟨z - 1,by omega,k+1,i1,v3,by omega,by omega,by rw [hs,← hv3];rfl,rfl,by simp⟩
  | false =>
   simp -implicitDefEqProofs [-ac,-AV.one,-ad,q9,kK,w1,hlt,hlt',w2,w3,w4,q1]
   exact ⟨z - 1,by omega,k+1,i1,v2,by omega,by omega,by rw [hs];rfl,rfl,by simp⟩
 ·have hkn:k=n:=by omega
  subst hkn
  have hlt:¬ (i:Int)<to:=by omega
  have hlt':¬ i<to:=by omega
  rw [hv]
  simp -implicitDefEqProofs [-ac,-AV.one,-ad,q9,kK,w1,hlt,hlt']
  exact ⟨rfl,rfl,by simp⟩
theorem uS (zx:Bool) (x:List Bool) (hl:x.length≤100000) {a n:Nat} (hn:n≤64) (ha:a≤100000) (a' n':Int) (ha':a'=a) (hn':n'=n) (H:ae) :
  callW P eV [lst zx 1 none (bls x),ai a',ai n'] H=some (.tup (if a+n≤x.length then [.c (.int .u64 (rE x a n:Nat)),ai (a+n:Nat),ai 0] else [.c (.int .u64 0),ai a,ai 8]),H):=by
 subst ha';subst hn'
 have hlen:(bls x).length=x.length:=ed x
 have h0:¬ (n:Int)<0:=by omega
 have h1:¬ (n:Int) > 64:=by omega
 have h1':¬ (64:Int)<n:=by omega
 have h1'':¬ 64<n:=by omega
 have w0:IntKind.i64.wrap ((x.length:Int) - a)=(x.length:Int) - a:=aq (by omega) (by omega)
 obtain ⟨to,hto⟩:=nm (a+n)
 have w1:IntKind.i64.wrap ((a:Int)+n)=(to:Int):=by rw [aq (by omega) (by omega)];omega
 by_cases hle:a+n≤x.length
 ·have h2:¬ (n:Int) > (x.length:Int) - a:=by omega
  have h2':¬ (x.length:Int) - a<n:=by omega
  rw [if_pos hle,hto,cH]
  refine call_post 6 45 rfl (rfl:P.T eV=some F_q58) rfl (aF rfl) (fun e σ G=>e=.ret∧G=H∧aA F_q58.res σ=some (.tup [.c (.int .u64 (rE x a n:Nat)),ai (to:Nat),ai 0])) ?_ ?_
  ·rintro e σ G ⟨rfl,rfl,h⟩
   exact ⟨rfl,_,h,by simp,by simp⟩
  rw [F_q58];simp -implicitDefEqProofs [-ac,-AV.one,-ad,q9,h0,h1,h1',h1'',hlen,w0,h2,h2']
  repeat rw [Option.bind_assoc]
  refine Ends.block (P:=KF H x a n) (KG (zx:=zx) hl hn hle n _ _ ⟨0,a,0,by omega,rfl,by simp [rE,num],rfl,by simp [kK]⟩) ?_
  rintro e σ1 G1 ⟨rfl,rfl,k2⟩
  simp -implicitDefEqProofs [-ac,-AV.one,-ad,q9,k2,w1]
 ·have h2:(n:Int) > (x.length:Int) - a:=by omega
  have h2':(x.length:Int) - a<n:=by omega
  rw [if_neg hle]
  rw [Gn rfl];simp -implicitDefEqProofs [-ac,-AV.one,-ad,q9,h0,h1,h1',h1'',hlen,w0,h2,h2']
end
section
variable {H:ae}
abbrev vx (bs:List Nat):AV:=lst true 1 (some 21) (bls (ay bs))
def ac5 (H:ae) (bs:List Nat) (w:Nat) (z:Nat) (σ:List AV) (G:ae):Prop:=
 ∃ (k a:Nat),0<z∧k+z=23∧k * (w+1)=a∧a≤8 * bs.length∧lr bs w z=lr bs w 23∧G=H
  ∧ σ=L 67 (((((Tr.full 7).put (ag 1) (ai w)).put (ag 7) (lst true 1 (some 21) (bls (ay bs)))).put (ag 8) (lst true 1 (some 49) (nvs (bL bs w k)))).put (ag 9) (ai a))
def Eo (H:ae) (bs:List Nat) (w:Nat) (e:AExit) (σ:List AV) (G:ae):Prop:=
 G=H∧((e=.exit 0∧∃ n a,lr bs w 23=(n,0)∧n * (w+1)=a∧a≤8 * bs.length∧kill [1,13,50,51,62,63] σ=L 67 ((((Tr.full 7).put (ag 7) (lst true 1 (some 21) (bls (ay bs)))).put (ag 8) (lst true 1 (some 49) (nvs (bL bs w n)))).put (ag 9) (ai a)))
 ∨ (e=.ret∧∃ er,aA F_q65.res σ=some (.tup [bc,ai 0,ai (er:Nat)])∧er≠0∧lr bs w 23=(0,er)))
theorem Ep {bs:List Nat} (hb:bs.length≤8192) {w:Nat} (hw:w=11∨w=15) (z:Nat) (σ:List AV) (G:ae) (hI:ac5 H bs w z (kill (bu gZ) σ) G) :
  Ends (execW P qN (.loop gZ) σ G) fun s=>Eo H bs w s.e s.σ s.H:=by
 refine aX (fun z σ G=>ac5 H bs w z σ G) (Eo H bs w) ?_ z σ G hI
 clear hI z σ G
 rintro z σ G ⟨k,x,hz,hk,hx0,hle,hlr,rfl,rfl⟩
 obtain ⟨z1,rfl⟩:∃ z1,z=z1+1:=⟨z - 1,by omega⟩
 have hk22:22 - z1=k:=by omega
 rw [lr,hk22] at hlr
 obtain ⟨m8,hm8⟩:=nm (8 * bs.length)
 have hbl:(ay bs).length=m8:=by rw [bC,hm8]
 have hlen:(bls (ay bs)).length=m8:=by rw [ed,hbl]
 rw [hm8] at hle hlr
 have w1:IntKind.i64.wrap ((m8:Int) - x)=(m8:Int) - x:=aq (by omega) (by omega)
 have w2:IntKind.i64.wrap ((w:Int)+1)=(w:Int)+1:=aq (by omega) (by omega)
 have w3:IntKind.i64.wrap ((x:Int)+1)=((x+1:Nat):Int):=by rw [aq (by omega) (by omega)];omega
 obtain ⟨x1,hx1⟩:=nm (x+1)
 rw [hx1] at w3
 by_cases hs:m8<x+(w+1)
 ·have hs':(m8:Int) - x<(w:Int)+1:=by omega
  rw [hx0,if_pos hs] at hlr
  simp -implicitDefEqProofs [-ac,-AV.one,-ad,gG,gZ,hlen,w1,w2,hs']
  exact ⟨rfl,.inr ⟨rfl,8,by simp [F_q65],by omega,hlr.symm⟩⟩
 ·have hs':¬ (m8:Int) - x<(w:Int)+1:=by omega
  rw [hx0,if_neg hs] at hlr
  have g:=fun H=>uS true (ay bs) (by omega) (a:=x1) (n:=w) (by omega) (by omega) x1 w rfl rfl H
  rw [hbl] at g
  have hsle:x1+w≤m8:=by omega
  simp only [hsle,if_true] at g
  obtain ⟨x2,hx2⟩:=nm (x1+w)
  rw [hx2] at g
  have e2:rE (ay bs) x1 w=kR bs w k:=by rw [kR,hx0,hx1];rfl
  rw [e2] at g
  obtain ⟨b,hbx⟩:∃ b,(ay bs)[x]?=some b:=⟨_,zq6 (by omega)⟩
  have q1:=fp hbx true (some 21) .i64
  have hmo:jC bs w k=b.toNat:=by
   rw [jC,hx0]
   have:=fW (bs:=bs) (a:=x) (n:=0) hbx
   rw [this]
   simp [aj,num]
  have hn15:kR bs w k<32768:=by
   have:kR bs w k<2 ^ w:=by rw [← e2];exact Ec (by omega)
   have:2 ^ w≤2 ^ 15:=Nat.pow_le_pow_right (by omega) (by omega)
   have:(2:Nat) ^ 15=32768:=by decide
   omega
  have hsnoc:=tZ bs w k
  obtain ⟨nv,hnv⟩:=nm (kR bs w k)
  rw [hmo] at hlr
  rw [hnv] at hlr g hn15 hsnoc
  by_cases h3:nv=0
  ·subst h3
   rw [if_pos rfl] at hlr
   replace g:∀ H,callW P eV [lst true 1 none (bls (ay bs)),ai x1,ai w] H=some (.tup [.c (.int .u64 0),ai x2,ai 0],H):=g
   simp -implicitDefEqProofs [-ac,-AV.one,-ad,gG,gZ,hlen,w1,w2,w3,hs',g,q1]
   exact ⟨rfl,.inr ⟨rfl,3,by simp [F_q65],by omega,hlr.symm⟩⟩
  ·have h3':¬ (nv:Int)=0:=by omega
   rw [if_neg h3] at hlr
   have hap:=fun σ H=>uR (m:=P.md qN) (d:=49) (bytes:=8) (v:=ai nv) (Pd 49) (by omega) (by rw [dn,cu];omega) (l:=nvs (bL bs w k)) (some 48) σ H
   rw [← mu,← hsnoc] at hap
   have wn:IntKind.i64.wrap (nv:Int)=nv:=aq (by omega) (by omega)
   obtain ⟨k1,hk1⟩:=nm (k+1)
   have hlen2:(nvs (bL bs w (k+1))).length=k1:=by rw [dn,cu,hk1]
   have hx2':(k+1) * (w+1)=x2:=by rw [Nat.add_mul,hx0];omega
   rw [hk1] at hap hlen2 hx2'
   cases b with
   | true =>
    simp only [Bool.toNat_true,if_true] at hlr
    by_cases h5:k1=23
    ·have h5':(k1:Int)=23:=by omega
     have hz1:z1=0:=by omega
     subst hz1
     simp -implicitDefEqProofs [-ac,-AV.one,-ad,gG,gZ,hlen,w1,w2,w3,hs',g,q1,h3,h3',wn,hap,hlen2,h5']
     exact ⟨rfl,.inr ⟨rfl,2,by simp [F_q65],by omega,hlr.symm⟩⟩
    ·have h5':¬ (k1:Int)=23:=by omega
     simp -implicitDefEqProofs [-ac,-AV.one,-ad,gG,gZ,hlen,w1,w2,w3,hs',g,q1,h3,h3',wn,hap,hlen2,h5,h5']
     exact ⟨z1,by omega,k1,x2,by omega,by omega,hx2',by omega,hlr,rfl,by simp⟩
   | false =>
    simp only [Bool.toNat_false] at hlr
    rw [if_neg (by omega)] at hlr
    simp -implicitDefEqProofs [-ac,-AV.one,-ad,gG,gZ,hlen,w1,w2,w3,hs',g,q1,h3,h3',wn,hap,hlen2]
    exact ⟨rfl,.inl ⟨rfl,k1,x2,by rw [← hlr,hk1],hx2',by omega,by simp⟩⟩
def ac6 (bs:List Nat) (out:AV) (a:Nat) (M:ae) (z:Nat) (σ:List AV) (G:ae):Prop:=
 ∃ (j i:Nat),j+z=bY a∧a+j=i∧aj bs a j=0∧G=M∧σ=L 67 ((((Tr.full 7).put (ag 7) (lst true 1 (some 21) (bls (ay bs)))).put (ag 8) (out)).put (ag 9) (ai i))
def Er (bs:List Nat) (out:AV) (a:Nat) (M:ae) (e:AExit) (σ:List AV) (G:ae):Prop:=
 G=M∧((e=.exit 2∧aj bs a (bY a)=0∧kill [7,55,56,57] σ=L 67 (((Tr.full 7).put (ag 8) (out)).put (ag 9) (ai (a+bY a:Nat))))
 ∨ (e=.ret∧aj bs a (bY a)≠0∧aA F_q65.res σ=some (.tup [bc,ai 0,ai 3])))
theorem KH {M:ae} {l:List (List AV)} {bs:List Nat} (hb:bs.length≤8192) {a:Nat} (ha:a≤8 * bs.length) (z:Nat) (σ:List AV) (G:ae) (hI:ac6 bs (lst true 1 (some 49) l) a M z (kill (bu jw) σ) G) :
  Ends (execW P qN (.loop jw) σ G) fun s=>Er bs (lst true 1 (some 49) l) a M s.e s.σ s.H:=by
 refine aX (fun z σ G=>ac6 bs (lst true 1 (some 49) l) a M z σ G) (Er bs (lst true 1 (some 49) l) a M) ?_ z σ G hI
 clear hI z σ G
 rintro z σ G ⟨j,i,hz,hi,hn0,rfl,rfl⟩
 have hp:bY a=(8 - a % 8) % 8:=rfl
 have hple:=jB ha
 have d1:(i:Int).tmod 8=((i % 8:Nat):Int):=Ab i
 have d1':(i:Int) % 8=((i % 8:Nat):Int):=by omega
 obtain ⟨m8,hm8⟩:=nm (i % 8)
 rw [hm8] at d1 d1'
 by_cases h0:m8=0
 ·have hjp:j=bY a:=by omega
  have h0':(m8:Int)=0:=by omega
  simp -implicitDefEqProofs [-ac,-AV.one,-ad,gG,jw,d1,d1',h0,h0']
  refine ⟨rfl,.inl ⟨rfl,by rw [← hjp];exact hn0,?_⟩⟩
  rw [← hjp,hi]
  simp
 ·have h0':¬ (m8:Int)=0:=by omega
  have hjp:j<bY a:=by omega
  obtain ⟨b,hbx⟩:∃ b,(ay bs)[i]?=some b:=⟨_,zq6 (by rw [bC];omega)⟩
  have q1:=fp hbx true (some 21) .i64
  have hs:=fW (bs:=bs) (a:=a) (n:=j) (by rw [hi];exact hbx)
  rw [hn0] at hs
  have w1:IntKind.i64.wrap ((i:Int)+1)=((i+1:Nat):Int):=by rw [aq (by omega) (by omega)];omega
  obtain ⟨i1,hi1⟩:=nm (i+1)
  rw [hi1] at w1
  cases b with
  | true =>
   simp -implicitDefEqProofs [-ac,-AV.one,-ad,gG,jw,d1,d1',h0,h0',q1]
   exact ⟨rfl,.inr ⟨rfl,t8 (j:=j+1) (by omega) (by rw [hs];simp),by simp [F_q65]⟩⟩
  | false =>
   simp -implicitDefEqProofs [-ac,-AV.one,-ad,gG,jw,d1,d1',h0,h0',q1,w1]
   exact ⟨z - 1,by omega,j+1,i1,by omega,by omega,by rw [hs];rfl,rfl,by simp⟩
theorem Pn (b:Bs) (hb:b.2.length≤8192) (hby:bm b.2) {w:Nat} (hw:w=11∨w=15) (H:ae):callW P qN [bv b,ai w] H=some (dE b.2 w none,H):=by
 have h44:=fun H=>As b hb hby H
 rw [cH]
 refine call_post 7 67 rfl (rfl:P.T qN=some F_q65) rfl (aF rfl) (fun e σ G=>e=.ret∧G=H∧∃ f,aA F_q65.res σ=some (dE b.2 w f)) ?_ ?_
 ·rintro e σ G ⟨rfl,rfl,f,h⟩
  exact ⟨rfl,_,h,by simp,by simp⟩
 rcases hw with rfl | rfl
 all_goals
  rw [F_q65];simp -implicitDefEqProofs [-ac,-AV.one,-ad,gG,h44]
  repeat rw [Option.bind_assoc]
 ·refine Ends.block (P:=Eo H b.2 11) (Ep hb (.inl rfl) 23 _ _ ⟨0,0,by omega,by omega,by omega,by omega,rfl,rfl,by simp [gZ,bL,nvs]⟩) ?_
  rintro e σ1 G1 ⟨rfl,⟨rfl,n,a,p1,p2,p3,p5⟩ | ⟨rfl,er,p1,p2,p3⟩⟩
  ·have hok:0<n∧n≤23:=by
    have:=t7 (bs:=b.2) (w:=11) 23 (by omega) (by rw [p1])
    rw [p1] at this
    simp only at this
    omega
   have hR:aO b.2 11=if aj b.2 a (bY a)=0 then (n,0) else (0,3):=by
    rw [aO,p1]
    simp only [if_true]
    rw [p2]
   have hpl:=jB p3
   have hq:(a+bY a) / 8=aS n 11:=by rw [← p2];exact wB hok.1 hok.2
   have d1:IntKind.i64.wrap (((a+bY a:Nat):Int).tdiv 8)=(aS n 11:Nat):=by
    rw [wy,hq]
    exact aq (by omega) (by omega)
   have d1':IntKind.i64.wrap (((a+bY a:Nat):Int) / 8)=(aS n 11:Nat):=by
    have:((a+bY a:Nat):Int) / 8=(((a+bY a) / 8:Nat):Int):=by omega
    rw [this,hq]
    exact aq (by omega) (by omega)
   obtain ⟨L0,hL0⟩:=nm (nvs (bL b.2 11 n))
   rw [hL0] at p5
   simp -implicitDefEqProofs [-ac,-AV.one,-ad,gG,p5]
   repeat rw [Option.bind_assoc]
   refine Ends.block (P:=Er b.2 (lst true 1 (some 49) L0) a G1) (KH hb p3 (bY a) _ _ ⟨0,a,by omega,by omega,by simp [aj,num],rfl,by simp [jw,p5]⟩) ?_
   rintro e σ2 G2 ⟨rfl,⟨rfl,c1,c2⟩ | ⟨rfl,c1,c2⟩⟩
   ·rw [if_pos c1] at hR
    generalize a+bY a=ap at *
    obtain ⟨ls,hls⟩:=nm (aS n 11)
    rw [hls] at d1 d1'
    simp -implicitDefEqProofs [-ac,-AV.one,-ad,gG,c2,d1,d1']
    exact ⟨some 49,by rw [dE,hR];simp [F_q65,hL0,hls]⟩
   ·rw [if_neg c1] at hR
    simp -implicitDefEqProofs [-ac,-AV.one,-ad,gG]
    exact ⟨none,by rw [dE,hR];simpa [F_q65] using c2⟩
  ·have hR:=Cw p3 p2
   simp -implicitDefEqProofs [-ac,-AV.one,-ad,gG]
   exact ⟨none,by rw [dE,hR];simp [F_q65] at p1;simp [F_q65,p1,p2]⟩
 ·refine Ends.block (P:=Eo H b.2 15) (Ep hb (.inr rfl) 23 _ _ ⟨0,0,by omega,by omega,by omega,by omega,rfl,rfl,by simp [gZ,bL,nvs]⟩) ?_
  rintro e σ1 G1 ⟨rfl,⟨rfl,n,a,p1,p2,p3,p5⟩ | ⟨rfl,er,p1,p2,p3⟩⟩
  ·have hok:0<n∧n≤23:=by
    have:=t7 (bs:=b.2) (w:=15) 23 (by omega) (by rw [p1])
    rw [p1] at this
    simp only at this
    omega
   have hR:aO b.2 15=if aj b.2 a (bY a)=0 then (n,0) else (0,3):=by
    rw [aO,p1]
    simp only [if_true]
    rw [p2]
   have hpl:=jB p3
   have hq:(a+bY a) / 8=aS n 15:=by rw [← p2];exact wB hok.1 hok.2
   have d1:IntKind.i64.wrap (((a+bY a:Nat):Int).tdiv 8)=(aS n 15:Nat):=by
    rw [wy,hq]
    exact aq (by omega) (by omega)
   have d1':IntKind.i64.wrap (((a+bY a:Nat):Int) / 8)=(aS n 15:Nat):=by
    have:((a+bY a:Nat):Int) / 8=(((a+bY a) / 8:Nat):Int):=by omega
    rw [this,hq]
    exact aq (by omega) (by omega)
   obtain ⟨L0,hL0⟩:=nm (nvs (bL b.2 15 n))
   rw [hL0] at p5
   simp -implicitDefEqProofs [-ac,-AV.one,-ad,gG,p5]
   repeat rw [Option.bind_assoc]
   refine Ends.block (P:=Er b.2 (lst true 1 (some 49) L0) a G1) (KH hb p3 (bY a) _ _ ⟨0,a,by omega,by omega,by simp [aj,num],rfl,by simp [jw,p5]⟩) ?_
   rintro e σ2 G2 ⟨rfl,⟨rfl,c1,c2⟩ | ⟨rfl,c1,c2⟩⟩
   ·rw [if_pos c1] at hR
    generalize a+bY a=ap at *
    obtain ⟨ls,hls⟩:=nm (aS n 15)
    rw [hls] at d1 d1'
    simp -implicitDefEqProofs [-ac,-AV.one,-ad,gG,c2,d1,d1']
    exact ⟨some 49,by rw [dE,hR];simp [F_q65,hL0,hls]⟩
   ·rw [if_neg c1] at hR
    simp -implicitDefEqProofs [-ac,-AV.one,-ad,gG]
    exact ⟨none,by rw [dE,hR];simpa [F_q65] using c2⟩
  ·have hR:=Cw p3 p2
   simp -implicitDefEqProofs [-ac,-AV.one,-ad,gG]
   exact ⟨none,by rw [dE,hR];simp [F_q65] at p1;simp [F_q65,p1,p2]⟩
end
theorem xY (l:List Bs) (b:Bs):bb (l++[b])=bb l++[b.2]:=by simp [bb]
section
variable {H:ae}
def ac7 (H:ae) (b:Bs) (l:List Nat) (o:Option (List (List Nat))) (z:Nat) (σ:List AV) (G:ae):Prop:=
 ∃ (i a:Nat) (out:List Bs),i+z=l.length∧out.length=i∧a≤b.2.length∧G=H∧o=(eP (b.2.drop a) (l.drop i)).map (bb out++·)
  ∧ σ=L 71 ((((((Tr.full 7).put (ag 0) (bv b)).put (ag 8) (lst true 1 none (nvs l))).put (ag 9) (ai a)).put (ag 13) (lst true 1 (some 54) (bvs out))).put (ag 14) (ai i))
def Es (H:ae) (b:Bs) (l:List Nat) (o:Option (List (List Nat))) (e:AExit) (σ:List AV) (G:ae):Prop:=
 G=H∧((e=.exit 0∧∃ (a:Nat) (out:List Bs),a≤b.2.length∧out.length=l.length∧o=(eP (b.2.drop a) []).map (bb out++·)∧kill [8,14,28,29,30,31] σ=L 71 ((((Tr.full 7).put (ag 0) (bv b)).put (ag 9) (ai a)).put (ag 13) (lst true 1 (some 54) (bvs out))))
 ∨ (e=.ret∧o=none∧aA F_q59.res σ=some (.tup [bc,ai 8])))
theorem At {b:Bs} {l:List Nat} {o:Option (List (List Nat))} (hb:b.2.length≤10000) (hll:l.length≤23) (hsm:∀ n∈l,n≤40000) (z:Nat) (σ:List AV) (G:ae) (hI:ac7 H b l o z (kill (bu jv) σ) G) :
  Ends (execW P ii (.loop jv) σ G) fun s=>Es H b l o s.e s.σ s.H:=by
 refine aX (fun z σ G=>ac7 H b l o z σ G) (Es H b l o) ?_ z σ G hI
 clear hI z σ G
 rintro z σ G ⟨i,a,out,hz,ho,ha,rfl,hcut,rfl⟩
 have hlen:(nvs l).length=l.length:=dn l
 have hbl:=cz b
 by_cases hi:i<l.length
 ·have hi':(i:Int)<l.length:=by omega
  obtain ⟨n,hn⟩:∃ n,l[i]?=some n:=⟨_,zq6 hi⟩
  have hn2:=hsm n (List.mem_of_getElem? hn)
  have q1:=qr hn true none .i64
  have hdr:l.drop i=n :: l.drop (i+1):=by
   rw [List.drop_eq_getElem_cons hi]
   rw [zq6 hi] at hn
   rw [zq1 hn]
  rw [hdr,eP,List.length_drop] at hcut
  have w1:IntKind.i64.wrap ((a:Int)+n)=((a+n:Nat):Int):=by rw [aq (by omega) (by omega)];omega
  obtain ⟨to,hto⟩:=nm (a+n)
  rw [hto] at w1
  by_cases hc:b.2.length<to
  ·have hc':(to:Int) > b.2.length:=by omega
   have hc'':(b.2.length:Int)<to:=by omega
   rw [if_pos (by omega),Option.map_none] at hcut
   simp -implicitDefEqProofs [-ac,-AV.one,-ad,kc,jv,hlen,hbl,hi,hi',q1,w1,hc,hc',hc'']
   exact ⟨rfl,.inr ⟨rfl,hcut,by simp [F_q59]⟩⟩
  ·have hc':¬ (to:Int) > b.2.length:=by omega
   have hc'':¬ (b.2.length:Int)<to:=by omega
   rw [if_neg (by omega)] at hcut
   have c1:=fun d=>CC (b:=b) (lo:=some (ai a)) (hi:=some (ai to)) (i:=a) (j:=to) (.inr ⟨.i64,rfl⟩) (.inr ⟨.i64,rfl⟩) (by omega) (by omega) d
   have e1:(dD b a to).2=(b.2.drop a).take n:=by simp only [dD];rw [List.drop_take];congr 1;omega
   obtain ⟨x,hx⟩:=nm (dD b a to)
   rw [hx] at c1 e1
   have hap:=fun σ H=>uR (m:=P.md ii) (d:=54) (bytes:=24) (v:=bv x) (D8 54) (by omega) (by rw [bA];omega) (l:=bvs out) (some 53) σ H
   rw [← jg] at hap
   have w6:IntKind.i64.wrap ((i:Int)+1)=((i+1:Nat):Int):=by rw [aq (by omega) (by omega)];omega
   obtain ⟨i1,hi1⟩:=nm (i+1)
   rw [hi1] at w6 hcut
   simp -implicitDefEqProofs [-ac,-AV.one,-ad,kc,jv,hlen,hbl,hi,hi',q1,w1,hc,hc',hc'',c1,hap,w6]
   refine ⟨z - 1,by omega,i1,to,out++[x],by omega,by simp;omega,by omega,rfl,?_,by simp⟩
   rw [hcut,xY,e1,List.drop_drop,hto]
   cases eP (b.2.drop to) (l.drop i1) with
   | none=>rfl
   | some r=>simp
 ·have hi':¬ (i:Int)<l.length:=by omega
  have hd:l.drop i=[]:=List.drop_eq_nil_of_le (by omega)
  rw [hd] at hcut
  simp -implicitDefEqProofs [-ac,-AV.one,-ad,kc,jv,hlen,hi,hi']
  exact ⟨rfl,.inl ⟨rfl,a,out,ha,by omega,hcut,by simp⟩⟩
def ac8 (H:ae) (r:Nat × List (List Nat)) (e:AExit) (σ:List AV) (G:ae):Prop:=
 e=.ret∧G=H∧∃ (out:List Bs) (f:Option Nat),bb out=r.2∧aA F_q59.res σ=some (.tup [lst true 1 f (bvs out),ai (r.1:Nat)])
theorem N7 (b:Bs) (hb:b.2.length≤8192) (hby:bm b.2) (more:Bool) {w:Nat} (hw:w=11∨w=15) (H:ae) :
  ∃ out:List Bs,bb out=(mt b.2 more w).2∧callW P ii [bv b,ab more,ai w] H=some (.tup [lst true 1 none (bvs out),ai ((mt b.2 more w).1:Nat)],H):=by
 suffices hs:Ends (callW P ii [bv b,ab more,ai w] H) fun y=>∃ out:List Bs,bb out=(mt b.2 more w).2∧y=(.tup [lst true 1 none (bvs out),ai ((mt b.2 more w).1:Nat)],H) by
  obtain ⟨y,h2,out,h3,rfl⟩:=hs
  exact ⟨out,h3,h2⟩
 refine call_post 7 71 rfl (rfl:P.T ii=some F_q59) rfl (aF rfl) (ac8 H (mt b.2 more w)) ?_ ?_
 ·rintro e σ G ⟨rfl,rfl,out,f,h1,h2⟩
  exact ⟨rfl,_,h2,by simp,by simp;exact ⟨out,h1,rfl⟩⟩
 have h46:=fun H=>Pn b hb hby hw H
 have hbl:=cz b
 cases more with
 | true =>
  by_cases he:(aO b.2 w).2=0
  ·have hok:=fP he
   have hR:mt b.2 true w=uQ (eP (b.2.drop (aS (aO b.2 w).1 w)) (bL b.2 w (aO b.2 w).1)):=by rw [mt,if_pos rfl,if_pos he]
   have hr:dE b.2 w none=.tup [lst true 1 none (nvs (bL b.2 w (aO b.2 w).1)),ai (aS (aO b.2 w).1 w:Nat),ai 0]:=by rw [dE,if_pos he]
   rw [hr] at h46
   have hlvl:(bL b.2 w (aO b.2 w).1).length≤23:=by rw [cu];omega
   have hsm:∀ n∈bL b.2 w (aO b.2 w).1,n≤40000:=fun n hn=>by
    obtain ⟨k,hk,rfl⟩:=List.mem_map.1 hn
    rw [List.mem_range] at hk
    have h1:(k+1) * (w+1)≤(aO b.2 w).1 * (w+1):=Nat.mul_le_mul_right _ hk
    have h2:(k+1) * (w+1)=k * (w+1)+(w+1):=by rw [Nat.add_mul];omega
    have h3:=bK (bs:=b.2) (a:=k * (w+1)+1) (n:=w) (by omega)
    have h4:2 ^ w≤2 ^ 15:=Nat.pow_le_pow_right (by omega) (by omega)
    have h5:(2:Nat) ^ 15=32768:=by decide
    show aj b.2 (k * (w+1)+1) w≤40000
    omega
   have hsz:aS (aO b.2 w).1 w≤b.2.length:=by
    rw [aS,if_neg (by omega)];omega
   obtain ⟨l,hl⟩:=nm (bL b.2 w (aO b.2 w).1)
   obtain ⟨a,ha⟩:=nm (aS (aO b.2 w).1 w)
   rw [hl] at h46 hR hlvl hsm
   rw [ha] at h46 hR hsz
   obtain ⟨o,hO⟩:=nm (eP (b.2.drop a) l)
   rw [hO] at hR
   rw [F_q59];simp -implicitDefEqProofs [-ac,-AV.one,-ad,kc,h46]
   repeat rw [Option.bind_assoc]
   refine Ends.block (P:=Es H b l o) (At (by omega) (by omega) hsm l.length _ _ ⟨0,a,[],by omega,rfl,by omega,rfl,by rw [← hO];simp [bb],by simp [jv,bvs]⟩) ?_
   rintro e σ1 G1 ⟨rfl,⟨rfl,a',out,p2,p3,p5,p6⟩ | ⟨rfl,p1,p2⟩⟩
   ·rw [eP,List.length_drop] at p5
    by_cases h0:(a':Int) ≥ b.2.length
    ·have h0':(b.2.length:Int)≤a':=h0
     have h0'':b.2.length≤a':=by omega
     rw [if_pos (by omega),Option.map_none] at p5
     rw [hR,p5]
     simp -implicitDefEqProofs [-ac,-AV.one,-ad,kc,p6,hbl,h0,h0',h0'']
     exact ⟨rfl,rfl,[],none,rfl,by simp [F_q59,bvs,uQ]⟩
    ·have h0':¬ (b.2.length:Int)≤a':=h0
     have h0'':¬ b.2.length≤a':=by omega
     rw [if_neg (by omega)] at p5
     have c3:=fun d=>eZ (b:=b) (i:=a') (by omega) .i64 d
     have e2:=cM b a'
     obtain ⟨x,hx⟩:=nm (dD b a' b.2.length)
     rw [hx] at c3 e2
     have hol:out.length≤23:=by rw [p3];omega
     obtain ⟨cs,hap⟩:=xy (m:=P.md ii) (d:=70) (sz:=1) (bytes:=24) (c:=54) (l:=bvs out) (l':=[[bv x]]) (x:=.vs 1 (some 69) [[bv x]]) (D8 70) (fun H=>cR H 1 (some 69) [[bv x]]) (.inr (by simp)) (by simp [bA,aw];omega) (by simp [bA,aw];omega)
     rw [← jg] at hap
     rw [hR,p5]
     have hne:bvs (out++[x])≠[]:=by simp [bvs]
     obtain ⟨L0,hL0⟩:=nm (bvs (out++[x]))
     rw [hL0] at hap hne
     simp -implicitDefEqProofs [-ac,-AV.one,-ad,kc,p6,hbl,h0,h0',h0'',c3,hap]
     exact ⟨rfl,rfl,out++[x],some 70,by simp [xY,uQ,e2],by simp [F_q59,uQ,hL0,iW hne]⟩
   ·rw [hR,p1]
    simp -implicitDefEqProofs [-ac,-AV.one,-ad,kc]
    exact ⟨rfl,rfl,[],none,rfl,p2⟩
  ·have hR:mt b.2 true w=((aO b.2 w).2,[]):=by rw [mt,if_pos rfl,if_neg he]
   have hr:dE b.2 w none=.tup [bc,ai 0,ai ((aO b.2 w).2:Nat)]:=by rw [dE,if_neg he]
   rw [hr] at h46
   obtain ⟨ee,hee⟩:=nm ((aO b.2 w).2)
   rw [hee] at h46 hR he
   have he':¬ (ee:Int)=0:=by omega
   rw [hR]
   rw [F_q59];simp -implicitDefEqProofs [-ac,-AV.one,-ad,kc,h46,he,he']
   exact ⟨rfl,rfl,[],none,rfl,by simp [F_q59,bvs]⟩
 | false =>
  have hR:mt b.2 false w=uQ (eP (b.2.drop 0) []):=by rw [mt,if_neg (by simp)];rfl
  obtain ⟨o,hO⟩:=nm (eP (b.2.drop 0) ([]:List Nat))
  rw [hO] at hR
  rw [F_q59];simp -implicitDefEqProofs [-ac,-AV.one,-ad,kc,h46]
  repeat rw [Option.bind_assoc]
  refine Ends.block (P:=Es H b ([]:List Nat) o) (At (by omega) (by simp) (by simp) ([]:List Nat).length _ _ ⟨0,0,[],by omega,rfl,by omega,rfl,by rw [← hO];simp [bb],by simp [jv,bvs,nvs]⟩) ?_
  rintro e σ1 G1 ⟨rfl,⟨rfl,a',out,p2,p3,p5,p6⟩ | ⟨rfl,p1,p2⟩⟩
  ·rw [eP,List.length_drop] at p5
   by_cases h0:(a':Int) ≥ b.2.length
   ·have h0':(b.2.length:Int)≤a':=h0
    have h0'':b.2.length≤a':=by omega
    rw [if_pos (by omega),Option.map_none] at p5
    rw [hR,p5]
    simp -implicitDefEqProofs [-ac,-AV.one,-ad,kc,p6,hbl,h0,h0',h0'']
    exact ⟨rfl,rfl,[],none,rfl,by simp [F_q59,bvs,uQ]⟩
   ·have h0':¬ (b.2.length:Int)≤a':=h0
    have h0'':¬ b.2.length≤a':=by omega
    rw [if_neg (by omega)] at p5
    have c3:=fun d=>eZ (b:=b) (i:=a') (by omega) .i64 d
    have e2:=cM b a'
    obtain ⟨x,hx⟩:=nm (dD b a' b.2.length)
    rw [hx] at c3 e2
    have hol:out.length≤23:=by rw [p3];simp
    obtain ⟨cs,hap⟩:=xy (m:=P.md ii) (d:=70) (sz:=1) (bytes:=24) (c:=54) (l:=bvs out) (l':=[[bv x]]) (x:=.vs 1 (some 69) [[bv x]]) (D8 70) (fun H=>cR H 1 (some 69) [[bv x]]) (.inr (by simp)) (by simp [bA,aw];omega) (by simp [bA,aw];omega)
    rw [← jg] at hap
    rw [hR,p5]
    have hne:bvs (out++[x])≠[]:=by simp [bvs]
    obtain ⟨L0,hL0⟩:=nm (bvs (out++[x]))
    rw [hL0] at hap hne
    simp -implicitDefEqProofs [-ac,-AV.one,-ad,kc,p6,hbl,h0,h0',h0'',c3,hap]
    exact ⟨rfl,rfl,out++[x],some 70,by simp [xY,uQ,e2],by simp [F_q59,uQ,hL0,iW hne]⟩
  ·rw [hR,p1]
   simp -implicitDefEqProofs [-ac,-AV.one,-ad,kc]
   exact ⟨rfl,rfl,[],none,rfl,p2⟩
end
theorem m7 {H:ae} {cs:List AV} {i n g:Nat} (h1:g=cs.length) (h2:i+n≤g):ba (H++[.row cs]) H.length i n g=some ((cs.drop i).take n):=by
 subst h1
 exact FD (DI H (.row cs)) h2
theorem lf (σ:List AV) {H:ae} {cs:List AV} {i g:Nat} {v:AV} (h1:g=cs.length) (h2:i<g) (h3:be v=true):bz σ (H++[.row cs]) none (.ptr H.length i g) v=some (σ,H++[.row (cs.set i v)]):=by
 subst h1
 rw [Bf σ (DI H (.row cs)) h2 h3,MU]
theorem lg (σ:List AV) {H:ae} {cs vs:List AV} {k:Nat} (h1:cs.length=k) (h2:vs.length=k) (h3:vs.all be=true):bz σ (H++[.row cs]) (some k) (.ptr H.length 0 k) (.agg vs)=some (σ,H++[.row vs]):=Be σ H h1 h2 h3
section
set_option maxHeartbeats 2000000 in
theorem UK (zx:Bool) {bs:List Nat} {w:Nat} (hw:w=10∨w=16) (hlen:bs.length=bN (aY bs) w) (H:ae) :
  callW P qM [lst zx 1 none (bls (ay bs)),ai w] H=some (.tup (if hOk bs w=true then [.agg (dJ bs w bc),ab (dC bs),ab true] else [.agg cA,ab false,ab false]),H++[.other]):=by
 rw [fm hw] at hlen
 have hbl:(ay bs).length=8 * bs.length:=bC bs
 have hsmall:bs.length≤5:=by
  rw [hlen]
  split<;>split<;>omega
 have h2le:2≤bs.length:=by
  rw [hlen]
  split<;>split<;>omega
 have gR:∀ (a n:Nat) (a' n':Int),a'=a→n'=n→n≤64→a+n≤8 * bs.length→∀ H,callW P eV [lst zx 1 none (bls (ay bs)),ai a',ai n'] H=some (.tup [.c (.int .u64 (aj bs a n:Nat)),ai (a+n:Nat),ai 0],H):=fun a n a' n' ha hn h1 h2 H=>by
  have:=uS zx (ay bs) (by rw [hbl];omega) (a:=a) (n:=n) h1 (by omega) a' n' ha hn H
  rw [if_pos (by omega),Gq] at this
  exact this
 have gB:∀ i,i<8 * bs.length→∃ b,aj bs i 1=b.toNat∧bW 1 none (lst zx 1 none (bls (ay bs))) (ai i)=some (.vp [ab b] 0):=fun i hi=>by
  obtain ⟨b,hb,hn⟩:=acC hi
  exact ⟨b,hn,fp hb zx none .i64⟩
 obtain ⟨b1,n1,q1⟩:=gB 1 (by omega)
 obtain ⟨b2,n2,q2⟩:=gB 2 (by omega)
 obtain ⟨b5,n5,q5⟩:=gB 5 (by omega)
 obtain ⟨b6,n6,q6⟩:=gB 6 (by omega)
 obtain ⟨b7,n7,q7⟩:=gB 7 (by omega)
 replace q1:bW 1 none (lst zx 1 none (bls (ay bs))) (ai 1)=some (.vp [ab b1] 0):=q1
 replace q2:bW 1 none (lst zx 1 none (bls (ay bs))) (ai 2)=some (.vp [ab b2] 0):=q2
 replace q5:bW 1 none (lst zx 1 none (bls (ay bs))) (ai 5)=some (.vp [ab b5] 0):=q5
 replace q6:bW 1 none (lst zx 1 none (bls (ay bs))) (ai 6)=some (.vp [ab b6] 0):=q6
 replace q7:bW 1 none (lst zx 1 none (bls (ay bs))) (ai 7)=some (.vp [ab b7] 0):=q7
 have g3:∀ H,callW P eV [lst zx 1 none (bls (ay bs)),ai 3,ai 2] H=some (.tup [.c (.int .u64 (aj bs 3 2:Nat)),ai 5,ai 0],H):=gR 3 2 3 2 rfl rfl (by omega) (by omega)
 have w3:IntKind.i64.wrap (aj bs 3 2:Nat)=(aj bs 3 2:Nat):=by
  have:=dt (bs:=bs) (a:=3) (n:=2) (k:=16) (by omega) (by omega)
  exact aq (by omega) (by omega)
 have hP:aY bs=b1:=by rw [aY,n1,qo]
 have hO:dr bs=b2:=by rw [dr,n2,qo]
 have hM:dC bs=b5:=by rw [dC,n5,qo]
 have e56:IntKind.i64.wrap 6=6:=rfl
 have e67:IntKind.i64.wrap 7=7:=rfl
 have e68:IntKind.i64.wrap 8=8:=rfl
 have e1617:IntKind.i64.wrap 17=17:=rfl
 rcases hw with rfl | rfl
 ·have o10:∀ H,callW P lm [ai 10] H=some (.tup [ai 11,ai 15],H):=fun H=>pI 10 H
  have g6:∀ H,callW P eV [lst zx 1 none (bls (ay bs)),ai 6,ai 10] H=some (.tup [.c (.int .u64 (aj bs 6 10:Nat)),ai 16,ai 0],H):=gR 6 10 6 10 rfl rfl (by omega) (by omega)
  have w6:IntKind.i64.wrap (aj bs 6 10:Nat)=(aj bs 6 10:Nat):=by
   have:=dt (bs:=bs) (a:=6) (n:=10) (k:=16) (by omega) (by omega)
   exact aq (by omega) (by omega)
  cases b1 with
  | true =>
   rw [hP] at hlen
   simp at hlen
   obtain ⟨b16,n16,q16⟩:=gB 16 (by omega)
   replace q16:bW 1 none (lst zx 1 none (bls (ay bs))) (ai 16)=some (.vp [ab b16] 0):=q16
   have g17:∀ H,callW P eV [lst zx 1 none (bls (ay bs)),ai 17,ai 15] H=some (.tup [.c (.int .u64 (aj bs 17 15:Nat)),ai 32,ai 0],H):=gR 17 15 17 15 rfl rfl (by omega) (by omega)
   have w17:IntKind.i64.wrap (aj bs 17 15:Nat)=(aj bs 17 15:Nat):=by
    have:=dt (bs:=bs) (a:=17) (n:=15) (k:=16) (by omega) (by omega)
    exact aq (by omega) (by omega)
   rw [kQ rfl];simp -implicitDefEqProofs [-ac,-AV.one,-ad,wa,aK,aB,aP,aC,aM,SOpG.reads,SOp.slots,SX.slots,SOp.noL,rdV,av,aJ,aE,eqV,m7,lf,lg,o10,q1,q2,q5,q6,q7,g3,w3,g6,w6,e56,e67,e68,e1617,hOk,dJ,aZ,cA,hP,hO,hM,cN,hFI,hSN,eO,n6,n7,n16,qo,q16,g17,w17]
  | false =>
   rw [kQ rfl];simp -implicitDefEqProofs [-ac,-AV.one,-ad,wa,aK,aB,aP,aC,aM,SOpG.reads,SOp.slots,SX.slots,SOp.noL,rdV,av,aJ,aE,eqV,m7,lf,lg,o10,q1,q2,q5,q6,q7,g3,w3,g6,w6,e56,e67,e68,e1617,hOk,dJ,aZ,cA,hP,hO,hM,cN,hFI,hSN,eO,n6,n7,qo]
 ·have o16:∀ H,callW P lm [ai 16] H=some (.tup [ai 15,ai 16],H):=fun H=>pI 16 H
  have hl3:3≤bs.length:=by
   rw [hlen]
   simp
  have g8:∀ H,callW P eV [lst zx 1 none (bls (ay bs)),ai 8,ai 16] H=some (.tup [.c (.int .u64 (aj bs 8 16:Nat)),ai 24,ai 0],H):=gR 8 16 8 16 rfl rfl (by omega) (by omega)
  have w8:IntKind.i64.wrap (aj bs 8 16:Nat)=(aj bs 8 16:Nat):=by
   have:=dt (bs:=bs) (a:=8) (n:=16) (k:=16) (by omega) (by omega)
   exact aq (by omega) (by omega)
  cases b1 with
  | true =>
   rw [hP] at hlen
   simp at hlen
   have g24:∀ H,callW P eV [lst zx 1 none (bls (ay bs)),ai 24,ai 16] H=some (.tup [.c (.int .u64 (aj bs 24 16:Nat)),ai 40,ai 0],H):=gR 24 16 24 16 rfl rfl (by omega) (by omega)
   have w24:IntKind.i64.wrap (aj bs 24 16:Nat)=(aj bs 24 16:Nat):=by
    have:=dt (bs:=bs) (a:=24) (n:=16) (k:=16) (by omega) (by omega)
    exact aq (by omega) (by omega)
   cases b7<;>cases b6<;>(rw [kQ rfl];simp -implicitDefEqProofs [-ac,-AV.one,-ad,wa,aK,aB,aP,aC,aM,SOpG.reads,SOp.slots,SX.slots,SOp.noL,rdV,av,aJ,aE,eqV,m7,lf,lg,o16,q1,q2,q5,q6,q7,g3,w3,g8,w8,e56,e67,e68,e1617,hOk,dJ,aZ,cA,hP,hO,hM,cN,hFI,hSN,eO,n6,n7,qo,g24,w24])
  | false =>
   cases b7<;>cases b6<;>(rw [kQ rfl];simp -implicitDefEqProofs [-ac,-AV.one,-ad,wa,aK,aB,aP,aC,aM,SOpG.reads,SOp.slots,SX.slots,SOp.noL,rdV,av,aJ,aE,eqV,m7,lf,lg,o16,q1,q2,q5,q6,q7,g3,w3,g8,w8,e56,e67,e68,e1617,hOk,dJ,aZ,cA,hP,hO,hM,cN,hFI,hSN,eO,n6,n7,qo])
end
section
variable {H:ae}
def adh (H:ae) (b:Bs) (l:List Nat) (n lw:Nat) (Q:List AV) (z:Nat) (σ:List AV) (G:ae):Prop:=
 ∃ i:Nat,i+z=l.length∧(∀ j m,j<i→l[j]?=some m→m≤2047)∧G=H ∧
  σ=L 109 (((((((((Tr.full 7).put (ag 0) (bv b)).put (ag 4) (.lbox cA)).put (ag 6) (ai n)).put (ag 7) (.lbox Q)).put (ag 8) (ab true)).put (ag 10) (ai lw)).put (ag 12) (lst true 1 none (nvs l))).put (ag 15) (ai i))
def Lv (H:ae) (b:Bs) (l:List Nat) (n lw:Nat) (Q:List AV) (e:AExit) (σ:List AV) (G:ae):Prop:=
 G=H∧((e=.exit 0∧(l.any fun n=>decide (2047<n))=false∧kill [12,15,66,80,81,82,83] σ=L 109 (((((((Tr.full 7).put (ag 0) (bv b)).put (ag 4) (.lbox cA)).put (ag 6) (ai n)).put (ag 7) (.lbox Q)).put (ag 8) (ab true)).put (ag 10) (ai lw)))
  ∨ (e=.ret∧(l.any fun n=>decide (2047<n))=true∧aA F_q19.res σ=some (.tup [.agg cA,ai 3])))
theorem OO {b:Bs} {l:List Nat} (hll:l.length≤100000) (n lw:Nat) (Q:List AV) (z:Nat) (σ:List AV) (G:ae) (hI:adh H b l n lw Q z (kill (bu kG) σ) G) :
  Ends (execW P nq (.loop kG) σ G) fun s=>Lv H b l n lw Q s.e s.σ s.H:=by
 refine aX (fun z σ G=>adh H b l n lw Q z σ G) (Lv H b l n lw Q) ?_ z σ G hI
 clear hI z σ G
 rintro z σ G ⟨i,hz,hall,rfl,rfl⟩
 have hlen:(nvs l).length=l.length:=dn l
 by_cases hi:i<l.length
 ·have hi':(i:Int)<l.length:=by omega
  obtain ⟨m,hm⟩:∃ m,l[i]?=some m:=⟨_,zq6 hi⟩
  have q1:=qr hm true none .i64
  have w1:IntKind.i64.wrap ((i:Int)+1)=((i+1:Nat):Int):=by rw [aq (by omega) (by omega)];omega
  obtain ⟨i1,hi1⟩:=nm (i+1)
  rw [hi1] at w1
  by_cases h2:m > 2047
  ·have h2':(m:Int) > 2047:=by omega
   have h2'':(2047:Int)<m:=by omega
   have h2''':2047<m:=by omega
   simp -implicitDefEqProofs [-ac,-AV.one,-ad,ik,kG,hlen,hi,hi',q1,h2,h2',h2'',h2''',cA,aZ]
   refine ⟨rfl,.inr ⟨rfl,?_,by simp [F_q19,cA,aZ]⟩⟩
   exact List.any_eq_true.2 ⟨m,List.mem_of_getElem? hm,by simp;omega⟩
  ·have h2':¬ (m:Int) > 2047:=by omega
   have h2'':¬ (2047:Int)<m:=by omega
   have h2''':¬ 2047<m:=by omega
   simp -implicitDefEqProofs [-ac,-AV.one,-ad,ik,kG,hlen,hi,hi',q1,h2,h2',h2'',h2''',w1]
   refine ⟨z - 1,by omega,i1,by omega,fun j x hj hx=>?_,rfl,by simp⟩
   by_cases hji:j<i
   ·exact hall j x hji hx
   ·have:j=i:=by omega
    subst this
    rw [hm] at hx
    obtain rfl:=zq1 hx
    omega
 ·have hi':¬ (i:Int)<l.length:=by omega
  simp -implicitDefEqProofs [-ac,-AV.one,-ad,ik,kG,hlen,hi,hi']
  refine ⟨rfl,.inl ⟨rfl,?_,by simp⟩⟩
  refine List.any_eq_false.2 fun m hm=>?_
  obtain ⟨j,hj⟩:=List.getElem?_of_mem hm
  have hjl:=(List.getElem?_eq_some_iff.1 hj).1
  have:=hall j m (by omega) hj
  simp
  omega
def UL (H:ae) (bs:List Nat) (w:Int) (e:AExit) (σ:List AV) (G:ae):Prop:=
 e=.ret∧∃ (out:List Bs) (k:Nat),bb out=(bQ bs w).2∧aA F_q19.res σ=some (cE bs w (lst true 1 none (bvs out)))∧G=H++List.replicate k .other
set_option maxHeartbeats 2000000 in
theorem PI (b:Bs) (hb:b.2.length≤8192) (hby:bm b.2) (w:Int) (H:ae) :
  ∃ (out:List Bs) (k:Nat),bb out=(bQ b.2 w).2∧callW P nq [bv b,ai w] H=some (cE b.2 w (lst true 1 none (bvs out)),H++List.replicate k .other):=by
 suffices hs:Ends (callW P nq [bv b,ai w] H) fun y=>∃ (out:List Bs) (k:Nat),bb out=(bQ b.2 w).2∧y=(cE b.2 w (lst true 1 none (bvs out)),H++List.replicate k .other) by
  obtain ⟨y,h2,out,k,h3,rfl⟩:=hs
  exact ⟨out,k,h3,h2⟩
 refine call_post 7 109 rfl (rfl:P.T nq=some F_q19) rfl (aF rfl) (UL H b.2 w) ?_ ?_
 ·rintro e σ G ⟨rfl,out,k,h1,h2,rfl⟩
  have hfr:(cE b.2 w (lst true 1 none (bvs out))).free=true:=by
   unfold cE dJ cA aZ;split<;>simp
  have hfz:∀ n G,frz n G (cE b.2 w (lst true 1 none (bvs out)))=some (cE b.2 w (lst true 1 none (bvs out))):=fun n G=>by
   unfold cE dJ cA aZ;split<;>simp
  have hno:ly (cE b.2 w (lst true 1 none (bvs out)))=cE b.2 w (lst true 1 none (bvs out)):=by
   unfold cE dJ cA aZ;split<;>simp
  refine ⟨rfl,_,h2,hfr,?_⟩
  simp [hfz,hno]
  exact ⟨out,h1,rfl⟩
 have hhd:=fun p H=>Ar p w H
 have hbl:=cz b
 by_cases hw:w=10∨w=16
 ·obtain ⟨wn,rfl,hwn⟩:∃ wn:Nat,w=wn∧(wn=10∨wn=16):=by
   rcases hw with rfl | rfl
   ·exact ⟨10,rfl,.inl rfl⟩
   ·exact ⟨16,rfl,.inr rfl⟩
  have htn:((wn:Nat):Int).toNat=wn:=by simp
  have h31:∃ h0:Nat,h0≠0∧bN false (wn:Int)=h0:=⟨_,by rw [fm hwn];split<;>omega,rfl⟩
  obtain ⟨h0,hh0,hh1⟩:=h31
  have hhf:=fun H=>Ar false wn H
  rw [hh1] at hhf
  have hh0':¬ (h0:Int)=0:=by omega
  by_cases hlong:4000<b.2.length
  ·have hlong':(b.2.length:Int) > 4000:=by omega
   have hlong'':(4000:Int)<b.2.length:=by omega
   have hR:bQ b.2 wn=(2,[]):=by rw [bQ,if_pos hw,if_pos hlong]
   rw [F_q19];simp -implicitDefEqProofs [-ac,-AV.one,-ad,ik,hhf,hh0,hh0',hbl,hlong,hlong',hlong'']
   exact ⟨rfl,[],0,by rw [hR];rfl,by rw [cE,hR];simp [F_q19,cA,aZ],by simp⟩
  ·have hlong':¬ (b.2.length:Int) > 4000:=by omega
   have hlong'':¬ (4000:Int)<b.2.length:=by omega
   by_cases hz0:b.2.length=0
   ·have hz0':(b.2.length:Int)=0:=by omega
    have hz0'':b.2=[]:=zq8 hz0
    have hR:bQ b.2 wn=(8,[]):=by rw [bQ,if_pos hw,if_neg hlong,if_pos hz0]
    rw [F_q19];simp -implicitDefEqProofs [-ac,-AV.one,-ad,ik,hhf,hh0,hh0',hbl,hlong,hlong',hlong'',hz0,hz0',hz0'']
    rw [← hz0'']
    exact ⟨rfl,[],0,by rw [hR];rfl,by rw [cE,hR];simp [F_q19,cA,aZ],by simp⟩
   ·have hz0':¬ (b.2.length:Int)=0:=by omega
    have hz0'':¬ b.2=[]:=fun h=>hz0 (by rw [h];rfl)
    obtain ⟨b0,hb0⟩:∃ x,b.2[0]?=some x:=⟨_,zq6 (by omega)⟩
    have hb256:=hby b0 (List.mem_of_getElem? hb0)
    have q1:bW 1 none (bv b) (.c (.int .i64 0))=some (.vp [au b0] 0):=pB hb0 .i64
    have n0:aj b.2 0 1=b0 / 128 % 2:=fA (a:=0) hb0
    have n1:aj b.2 1 1=b0 / 64 % 2:=fA (a:=1) hb0
    by_cases hz:aj b.2 0 1=0
    ·have hR:bQ b.2 wn=(4,[]):=by rw [bQ,if_pos hw,if_neg hlong,if_neg hz0,if_pos hz]
     have h128:(b0:Int)<128:=by omega
     have h128':b0<128:=by omega
     rw [F_q19];simp -implicitDefEqProofs [-ac,-AV.one,-ad,ik,hhf,hh0,hh0',hbl,hlong,hlong',hlong'',hz0,hz0',hz0'',q1,h128,h128']
     exact ⟨rfl,[],0,by rw [hR];rfl,by rw [cE,hR];simp [F_q19,cA,aZ],by simp⟩
    ·have h128:¬ (b0:Int)<128:=by omega
     have h128':¬ b0<128:=by omega
     have hpd:aY b.2=decide (b0 / 64 % 2=1):=by rw [aY,n1]
     have d1:IntKind.u8.wrap ((b0:Int).tdiv 64)=((b0 / 64:Nat):Int):=by
      rw [Int.tdiv_eq_ediv_of_nonneg (by omega)]
      have:(b0:Int) / 64=((b0 / 64:Nat):Int):=by omega
      rw [this];exact gj (by omega) (by omega)
     have d1':IntKind.u8.wrap ((b0:Int) / 64)=((b0 / 64:Nat):Int):=by
      have:(b0:Int) / 64=((b0 / 64:Nat):Int):=by omega
      rw [this];exact gj (by omega) (by omega)
     obtain ⟨q,hq⟩:=nm (b0 / 64)
     rw [hq] at d1 d1' hpd
     have d2:(q:Int).tmod 2=((q % 2:Nat):Int):=by rw [Int.tmod_eq_emod_of_nonneg (by omega)];omega
     have d2':(q:Int) % 2=((q % 2:Nat):Int):=by omega
     obtain ⟨u,hu⟩:=nm (q % 2)
     rw [hu] at d2 d2' hpd
     have hne:decide ((u:Int)=1)=aY b.2:=by rw [hpd];exact decide_eq_decide.2 (by omega)
     have h28:=fun H=>Ar (aY b.2) wn H
     have hv:=fm (part:=aY b.2) hwn
     obtain ⟨n,hn⟩:=nm (bN (aY b.2) wn)
     by_cases hs:b.2.length<bN (aY b.2) wn
     ·have hs':(b.2.length:Int)<(bN (aY b.2) wn:Nat):=by omega
      have hR:bQ b.2 wn=(8,[]):=by rw [bQ,if_pos hw,if_neg hlong,if_neg hz0,if_neg hz,if_pos hs]
      rw [hn] at hs hs' h28
      rw [F_q19];simp -implicitDefEqProofs [-ac,-AV.one,-ad,ik,hhf,hh0,hh0',hbl,hlong,hlong',hlong'',hz0,hz0',hz0'',q1,h128,h128',d1,d1',d2,d2',hne,h28,hs,hs']
      exact ⟨rfl,[],0,by rw [hR];rfl,by rw [cE,hR];simp [F_q19,cA,aZ],by simp⟩
     ·have hs':¬ (b.2.length:Int)<(bN (aY b.2) wn:Nat):=by omega
      obtain ⟨t1,t2,t3,t4⟩:=wA (bs:=b.2) hwn (by omega)
      have hR:bQ b.2 wn=if hOk b.2 wn=true then restR b.2 wn else (3,[]):=by rw [bQ,if_pos hw,if_neg hlong,if_neg hz0,if_neg hz,if_neg hs,htn]
      have hRR:restR b.2 wn=if dC b.2=true then (if (aO (b.2.drop n) (bn wn)).2=0 then aV ((b.2.drop n).drop (aS (aO (b.2.drop n) (bn wn)).1 (bn wn))) (bL (b.2.drop n) (bn wn) (aO (b.2.drop n) (bn wn)).1) else ((aO (b.2.drop n) (bn wn)).2,[])) else aV (b.2.drop n) []:=by
       rw [← hn];rfl
      have htk:=t1
      have t4:=t4 bc
      rw [hn] at t1 t2 t3 t4 h28 hs hs' hv
      have hl1:(b.2.take n).length=n:=by rw [List.length_take];omega
      have c1:=fun d=>Ac (b:=b) (j:=n) (by omega) .i64 d
      have hb2:=jD b n
      have r1:=fun H=>As (dD b 0 n) (by rw [hb2];omega) (fun x hx=>hby x (by rw [hb2] at hx;exact List.mem_of_mem_take hx)) H
      have s1:=UK true (bs:=b.2.take n) hwn (by rw [hl1,t1,hn]) H
      rw [hb2] at r1
      rw [t2,t3,t4] at s1
      have hwd:=fun H=>pI wn H
      by_cases hok:hOk b.2 wn=true
      ·rw [if_pos hok] at hR
       rw [hok] at s1
       replace s1:callW P qM [lst true 1 none (bls (ay (b.2.take n))),ai wn] H=some (.tup [.agg (dJ b.2 wn bc),ab (dC b.2),ab true],H++[.other]):=s1
       have dd1:=fun d=>eZ (b:=b) (i:=n) (by omega) .i64 d
       obtain ⟨b',hb'⟩:=nm (dD b n b.2.length)
       have hb3:b'.2=b.2.drop n:=by rw [← hb',cM]
       rw [hb'] at dd1
       rw [hRR,← hb3] at hR
       have hbl':b'.2.length≤8192:=by rw [hb3];simp;omega
       have hby':bm b'.2:=fun x hx=>hby x (by rw [hb3] at hx;exact List.mem_of_mem_drop hx)
       have hlw:bn wn=11∨bn wn=15:=by rcases hwn with rfl | rfl<;>simp [bn]
       obtain ⟨lw,hlwe⟩:=nm (bn wn)
       obtain ⟨ow,howe⟩:=nm (aI wn)
       rw [hlwe] at hlw hR hwd
       rw [howe] at hwd
       cases hmore:dC b.2 with
       | true =>
        rw [hmore] at s1
        rw [if_pos hmore] at hR
        have l1:=fun H=>Pn b' hbl' hby' hlw H
        by_cases he:(aO b'.2 lw).2=0
        ·rw [if_pos he] at hR
         have hok2:=fP he
         have hres:dE b'.2 lw none=.tup [lst true 1 none (nvs (bL b'.2 lw (aO b'.2 lw).1)),ai (aS (aO b'.2 lw).1 lw:Nat),ai 0]:=by rw [dE,if_pos he]
         rw [hres] at l1
         have hcf:=rk (bs:=b'.2) (w:=lw)
         have hll:(bL b'.2 lw (aO b'.2 lw).1).length≤23:=by rw [cu];omega
         obtain ⟨ls,hls⟩:=nm (bL b'.2 lw (aO b'.2 lw).1)
         obtain ⟨sz,hsz⟩:=nm (aS (aO b'.2 lw).1 lw)
         rw [hls] at l1 hR hcf hll
         rw [hsz] at l1 hR hcf
         rw [F_q19];simp -implicitDefEqProofs [-ac,-AV.one,-ad,ik,hhf,hh0,hh0',hbl,hlong,hlong',hlong'',hz0,hz0',hz0'',q1,h128,h128',d1,d1',d2,d2',hne,h28,hs,hs',c1,r1,s1,dJ,aZ,hwd,dd1,l1]
         repeat rw [Option.bind_assoc]
         refine Ends.block (P:=Lv (H++[.other]) b ls n lw (dJ b.2 wn bc)) (OO (by omega) n lw _ ls.length _ _ ⟨0,by omega,fun j m hj=>by omega,rfl,by simp [kG,cA,aZ,dJ]⟩) ?_
         rintro e σ1 G1 ⟨rfl,⟨rfl,k1,k2⟩ | ⟨rfl,k1,k2⟩⟩
         ·obtain ⟨out,g0,g1⟩:=N7 b' hbl' hby' true hlw (H++[.other])
          rw [hcf k1 he] at g0 g1
          obtain ⟨ee,he4⟩:=nm ((aV (b'.2.drop sz) ls).1)
          rw [he4] at g1
          simp only [dJ,aZ,cA] at k2
          have gnil:ee≠0→bb ([]:List Bs)=(aV (b'.2.drop sz) ls).2:=fun h=>by
           have:(aV (b'.2.drop sz) ls).2=[]:=by
            have h9:=he4
            unfold aV at h9 ⊢
            split
            ·rfl
            ·rename_i hc
             rw [if_neg hc] at h9
             split at h9<;>simp_all
           rw [this];rfl
          by_cases hee:ee=0
          ·have hee':(ee:Int)=0:=by omega
           simp -implicitDefEqProofs [-ac,-AV.one,-ad,ik,k2,dd1,g1,hee,hee']
           exact ⟨rfl,out,1,by rw [hR];exact g0,by rw [cE,hR,he4,if_pos hee,hee];simp [F_q19,dJ,aZ],by simp⟩
          ·have hee':¬ (ee:Int)=0:=by omega
           simp -implicitDefEqProofs [-ac,-AV.one,-ad,ik,k2,dd1,g1,hee,hee']
           exact ⟨rfl,[],1,by rw [hR];exact gnil hee,by rw [cE,hR,he4,if_neg hee];simp [F_q19,cA,aZ,bvs],by simp⟩
         ·have hR3:aV (b'.2.drop sz) ls=(3,[]):=by rw [aV,if_pos k1]
          rw [hR3] at hR
          simp -implicitDefEqProofs [-ac,-AV.one,-ad,ik]
          exact ⟨rfl,[],1,by rw [hR];rfl,by rw [cE,hR];simpa [bvs] using k2,by simp⟩
        ·rw [if_neg he] at hR
         have hres:dE b'.2 lw none=.tup [bc,ai 0,ai ((aO b'.2 lw).2:Nat)]:=by rw [dE,if_neg he]
         rw [hres] at l1
         obtain ⟨ee,hee⟩:=nm ((aO b'.2 lw).2)
         rw [hee] at l1 hR he
         have he':¬ (ee:Int)=0:=by omega
         rw [F_q19];simp -implicitDefEqProofs [-ac,-AV.one,-ad,ik,hhf,hh0,hh0',hbl,hlong,hlong',hlong'',hz0,hz0',hz0'',q1,h128,h128',d1,d1',d2,d2',hne,h28,hs,hs',c1,r1,s1,dJ,aZ,hwd,dd1,l1,he,he']
         exact ⟨rfl,[],1,by rw [hR];rfl,by rw [cE,hR];simp [F_q19,cA,aZ,bvs,he],by simp⟩
       | false =>
        rw [hmore] at s1
        rw [if_neg (by rw [hmore];simp)] at hR
        obtain ⟨out,g0,g1⟩:=N7 b' hbl' hby' false hlw (H++[.other])
        rw [wC] at g0 g1
        obtain ⟨ee,he4⟩:=nm ((aV b'.2 []).1)
        rw [he4] at g1
        have gnil:ee≠0→bb ([]:List Bs)=(aV b'.2 []).2:=fun h=>by
         have:(aV b'.2 []).2=[]:=by
          have h9:=he4
          unfold aV at h9 ⊢
          split
          ·rfl
          ·rename_i hc
           rw [if_neg hc] at h9
           split at h9<;>simp_all
         rw [this];rfl
        by_cases hee:ee=0
        ·have hee':(ee:Int)=0:=by omega
         rw [F_q19];simp -implicitDefEqProofs [-ac,-AV.one,-ad,ik,hhf,hh0,hh0',hbl,hlong,hlong',hlong'',hz0,hz0',hz0'',q1,h128,h128',d1,d1',d2,d2',hne,h28,hs,hs',c1,r1,s1,dJ,aZ,hwd,dd1,g1,hee,hee']
         exact ⟨rfl,out,1,by rw [hR];exact g0,by rw [cE,hR,he4,if_pos hee,hee];simp [F_q19,dJ,aZ],by simp⟩
        ·have hee':¬ (ee:Int)=0:=by omega
         rw [F_q19];simp -implicitDefEqProofs [-ac,-AV.one,-ad,ik,hhf,hh0,hh0',hbl,hlong,hlong',hlong'',hz0,hz0',hz0'',q1,h128,h128',d1,d1',d2,d2',hne,h28,hs,hs',c1,r1,s1,dJ,aZ,hwd,dd1,g1,hee,hee']
         exact ⟨rfl,[],1,by rw [hR];exact gnil hee,by rw [cE,hR,he4,if_neg hee];simp [F_q19,cA,aZ,bvs],by simp⟩
      ·rw [if_neg hok] at hR
       have hok':hOk b.2 wn=false:=by simpa using hok
       rw [hok'] at s1
       replace s1:callW P qM [lst true 1 none (bls (ay (b.2.take n))),ai wn] H=some (.tup [.agg cA,ab false,ab false],H++[.other]):=s1
       simp only [cA,aZ] at s1
       rw [F_q19];simp -implicitDefEqProofs [-ac,-AV.one,-ad,ik,hhf,hh0,hh0',hbl,hlong,hlong',hlong'',hz0,hz0',hz0'',q1,h128,h128',d1,d1',d2,d2',hne,h28,hs,hs',c1,r1,s1]
       exact ⟨rfl,[],1,by rw [hR];rfl,by rw [cE,hR];simp [F_q19,cA,aZ,bvs],by simp⟩
 ·have hR:bQ b.2 w=(9,[]):=by rw [bQ,if_neg hw]
  have hh0:bN false w=0:=by rw [bN,if_neg hw]
  have hhf:∀ H,callW P oU [ab false,ai w] H=some (ai 0,H):=fun H=>by rw [hhd,hh0];rfl
  rw [F_q19];simp -implicitDefEqProofs [-ac,-AV.one,-ad,ik,hhf,hh0,hbl]
  exact ⟨rfl,[],0,by rw [hR];rfl,by rw [cE,hR];simp [F_q19,cA,aZ],by simp⟩
end
end Go.A.V.S
