/- The reference: heads' sizes, widths; bits. -/
import Derived.Test.YtnmobjhmohcjfaaGreatXB
set_option linter.unusedSimpArgs false
set_option linter.unusedVariables false
set_option linter.unnecessarySimpa false
namespace Go.A.V.S
open Go Go.A
def bls (l:List Bool):List (List AV):=l.map fun b=>[ab b]
theorem eu (l:List Bool):(bls l).length=l.length:=by simp [bls]
theorem pS (l:List Bool) (b:Bool):bls (l++[b])=bls l++[[ab b]]:=by simp [bls]
theorem fG {l:List Bool} {i:Nat} {b:Bool} (h:l[i]?=some b) (z:Bool) (f:Option Nat) (k:IntKind):cu 1 none (lst z 1 f (bls l)) (.c (.int k i))=some (.vp [ab b] 0):=gW _ _ _ (by simp [bls,h]) k
theorem AC (part:Bool) (w:Int) (H:ae):callW P pj [ab part,ai w] H=some (ai (bZ part w:Nat),H):=by
 have h2:IntKind.i64.wrap 4=4:=rfl
 have h3:IntKind.i64.wrap 5=5:=rfl
 by_cases h10:w=10
 ·subst h10
  cases part
  ·rw [gY rfl];simp -implicitDefEqProofs [-ac,-AV.one,-ad,rp,bZ,h2,h3]
  ·rw [gY rfl];simp -implicitDefEqProofs [-ac,-AV.one,-ad,rp,bZ,h2,h3]
 ·by_cases h16:w=16
  ·subst h16
   cases part
   ·rw [gY rfl];simp -implicitDefEqProofs [-ac,-AV.one,-ad,rp,bZ,h2,h3]
   ·rw [gY rfl];simp -implicitDefEqProofs [-ac,-AV.one,-ad,rp,bZ,h2,h3]
  ·cases part
   ·rw [gY rfl];simp -implicitDefEqProofs [-ac,-AV.one,-ad,rp,bZ,h10,h16]
   ·rw [gY rfl];simp -implicitDefEqProofs [-ac,-AV.one,-ad,rp,bZ,h10,h16]
theorem pT (w:Int) (H:ae):callW P lD [ai w] H=some (.tup [ai (bG w:Nat),ai (aV w:Nat)],H):=by
 rw [xZ rfl];simp -implicitDefEqProofs [-ac,-AV.one,-ad,JP,bG,aV]
 split<;>simp_all
section
variable {H:ae}
def T3 (H:ae) (va:Bs) (i b:Nat) (z:Nat) (σ:List AV) (G:ae):Prop:=
 ∃ (j w:Nat),j+z=8∧w=128 / 2 ^ j∧G=H∧σ=L 32 (((((Tr.full 6).put (ah 0) (bv va)).put (ah 3) (lst true 1 (some 30) (bls (aL (va.2.take i)++(fl b).take j)))).put (ah 4) (ai i)).put (ah 5) (au w))
def KN (H:ae) (va:Bs) (i b:Nat) (e:AExit) (σ:List AV) (G:ae):Prop:=
 e=.exit 2∧G=H∧kill [5,16,17] σ=L 32 ((((Tr.full 6).put (ah 0) (bv va)).put (ah 3) (lst true 1 (some 30) (bls (aL (va.2.take i)++fl b)))).put (ah 4) (ai i))
theorem Oh {va:Bs} (hb:va.2.length≤8192) {i b:Nat} (hi:va.2[i]?=some b) (hb256:b<256) (z:Nat) (σ:List AV) (G:ae) (hI:T3 H va i b z (kill (bK m6) σ) G) :
  Ends (execW P qV (.loop m6) σ G) fun s=>KN H va i b s.e s.σ s.H:=by
 refine bq (fun z σ G=>T3 H va i b z σ G) (KN H va i b) ?_ z σ G hI
 clear hI z σ G
 rintro z σ G ⟨j,w,hz,hw,rfl,rfl⟩
 have q1:=pM hi .i64
 have hilt:=(List.getElem?_eq_some_iff.1 hi).1
 by_cases hj:j<8
 ·have hw7:w=2 ^ (7 - j):=by
   rw [hw]
   have:j=0∨j=1∨j=2∨j=3∨j=4∨j=5∨j=6∨j=7:=by omega
   rcases this with rfl | rfl | rfl | rfl | rfl | rfl | rfl | rfl<;>rfl
  have hw0:0<w:=by rw [hw7];exact Nat.pow_pos (by omega)
  have hw0':(w:Int) > 0:=by omega
  have hw0'':(0:Int)<w:=by omega
  have hwn:¬ w=0:=by omega
  have hwn':¬ (w:Int)=0:=by omega
  have hw128:w≤128:=by rw [hw];exact Nat.div_le_self _ _
  have htake:=CL (b:=b) hj
  rw [← hw7] at htake
  have hlt:((aL (va.2.take i)++(fl b).take j)).length≤100000:=by
   rw [List.length_append,bP,List.length_take,List.length_take];omega
  have hnext:128 / 2 ^ (j+1)=w / 2:=by rw [hw,Nat.div_div_eq_div_mul,Nat.pow_succ]
  obtain ⟨q,hq⟩:=nm (b / w)
  have hq256:q<256:=by
   have:=Nat.div_le_self b w
   omega
  rw [hq] at htake
  have d1:IntKind.u8.wrap ((b:Int).tdiv w)=(q:Int):=by
   rw [Int.tdiv_eq_ediv_of_nonneg (by omega),← Int.natCast_ediv,hq];exact ar (by omega) (by omega)
  have d1':IntKind.u8.wrap ((b:Int) / w)=(q:Int):=by
   rw [← Int.natCast_ediv,hq];exact ar (by omega) (by omega)
  have d2:(q:Int).tmod 2=((q % 2:Nat):Int):=by rw [Int.tmod_eq_emod_of_nonneg (by omega)];omega
  have d2':(q:Int) % 2=((q % 2:Nat):Int):=by omega
  obtain ⟨u,hu⟩:=nm (q % 2)
  rw [hu] at d2 d2' htake
  obtain ⟨w2,hw2⟩:=nm (w / 2)
  have d3:IntKind.u8.wrap ((w:Int).tdiv 2)=(w2:Int):=by
   rw [Int.tdiv_eq_ediv_of_nonneg (by omega)]
   have:(w:Int) / 2=(w2:Int):=by omega
   rw [this];exact ar (by omega) (by omega)
  have d3':IntKind.u8.wrap ((w:Int) / 2)=(w2:Int):=by
   have:(w:Int) / 2=(w2:Int):=by omega
   rw [this];exact ar (by omega) (by omega)
  have hd:decide ((u:Int)=1)=decide (u=1):=decide_eq_decide.2 (by omega)
  have hap:=fun σ H=>u9 (m:=P.md qV) (d:=30) (bytes:=1) (v:=ab (decide (u=1))) (Pc 30) (by omega) (by rw [eu];exact hlt) (l:=bls (aL (va.2.take i)++(fl b).take j)) (some 29) σ H
  rw [← pS,List.append_assoc,← htake] at hap
  generalize bls (aL (va.2.take i)++(fl b).take j)=L0 at *
  have hres:∀ σ,σ=L 32 (((((Tr.full 6).put (ah 0) (bv va)).put (ah 3) (lst true 1 (some 30) (bls (aL (va.2.take i)++(fl b).take (j+1))))).put (ah 4) (ai i)).put (ah 5) (au w2))→∃ m,m<z∧T3 G va i b m σ G:=fun σ e=>⟨z - 1,by omega,j+1,w2,by omega,by rw [hnext];exact hw2.symm,rfl,e⟩
  generalize bls (aL (va.2.take i)++(fl b).take (j+1))=L1 at *
  simp -implicitDefEqProofs [-ac,-AV.one,-ad,rn,m6,hw0,hw0',hw0'',hwn,hwn',q1,d1,d1',d2,d2',d3,d3',hd,hap]
  exact hres _ (by simp)
 ·have hj8:j=8:=by omega
  subst hj8
  have hw0:w=0:=by rw [hw]
  subst hw0
  have ht:(fl b).take 8=fl b:=List.take_of_length_le (by rw [gV];omega)
  rw [ht]
  obtain ⟨L0,hL0⟩:=nm (bls (aL (va.2.take i)++fl b))
  rw [hL0]
  simp -implicitDefEqProofs [-ac,-AV.one,-ad,rn,m6]
  exact ⟨rfl,rfl,by rw [hL0];simp⟩
def ac3 (H:ae) (va:Bs) (z:Nat) (σ:List AV) (G:ae):Prop:=
 ∃ i:Nat,i+z=va.2.length∧G=H∧σ=L 32 ((((Tr.full 6).put (ah 0) (bv va)).put (ah 3) (lst true 1 (some 30) (bls (aL (va.2.take i))))).put (ah 4) (ai i))
def KQ (H:ae) (va:Bs) (e:AExit) (σ:List AV) (G:ae):Prop:=
 e=.exit 0∧G=H∧kill [0,4,6,7,8,9,10,11,12,13] σ=L 32 ((Tr.full 6).put (ah 3) (lst true 1 (some 30) (bls (aL va.2))))
theorem KR {va:Bs} (hb:va.2.length≤8192) (hby:bF va.2) (z:Nat) (σ:List AV) (G:ae) (hI:ac3 H va z (kill (bK kU) σ) G) :
  Ends (execW P qV (.loop kU) σ G) fun s=>KQ H va s.e s.σ s.H:=by
 refine bq (fun z σ G=>ac3 H va z σ G) (KQ H va) ?_ z σ G hI
 clear hI z σ G
 rintro z σ G ⟨i,hz,rfl,rfl⟩
 have hlen:=cL va
 by_cases hi:i<va.2.length
 ·have hi':(i:Int)<va.2.length:=by omega
  have hi8:(i:Int)<8192:=by omega
  obtain ⟨b,hbi⟩:∃ b,va.2[i]?=some b:=⟨_,zq6 hi⟩
  have w1:IntKind.i64.wrap ((i:Int)+1)=((i+1:Nat):Int):=by rw [ag (by omega) (by omega)];omega
  obtain ⟨i1,hi1⟩:=nm (i+1)
  rw [hi1] at w1
  have hsn:=CK hbi
  rw [hi1] at hsn
  obtain ⟨L0,hL0⟩:=nm (bls (aL (va.2.take i)))
  rw [hL0]
  simp -implicitDefEqProofs [-ac,-AV.one,-ad,rn,kU,hlen,hi,hi',hi8]
  repeat rw [Option.bind_assoc]
  refine Ends.block (P:=KN G va i b) (Oh hb hbi (hby b (List.mem_of_getElem? hbi)) 8 _ _ ⟨0,128,rfl,rfl,rfl,?_⟩) ?_
  ·rw [List.take_zero,List.append_nil,hL0];simp [m6];rfl
  rintro e σ1 G1 ⟨rfl,rfl,k2⟩
  rw [← hsn] at k2
  obtain ⟨L1,hL1⟩:=nm (bls (aL (va.2.take i1)))
  rw [hL1] at k2
  simp -implicitDefEqProofs [-ac,-AV.one,-ad,rn,k2,w1]
  exact ⟨z - 1,by omega,i1,by omega,rfl,by rw [hL1];simp [kU]⟩
 ·have hi':¬ (i:Int)<va.2.length:=by omega
  have ht:va.2.take i=va.2:=List.take_of_length_le (by omega)
  rw [ht]
  obtain ⟨L0,hL0⟩:=nm (bls (aL va.2))
  rw [hL0]
  simp -implicitDefEqProofs [-ac,-AV.one,-ad,rn,kU,hlen,hi,hi']
  exact ⟨rfl,rfl,by rw [hL0];simp⟩
theorem AD (va:Bs) (hb:va.2.length≤8192) (hby:bF va.2) (H:ae):callW P qV [bv va] H=some (lst true 1 (some 0) (bls (aL va.2)),H):=by
 rw [cT]
 refine call_post 6 32 rfl (rfl:P.T qV=some F_q57) rfl (aS rfl) (fun e σ G=>e=.ret∧G=H∧aN F_q57.res σ=some (lst true 1 (some 30) (bls (aL va.2)))) ?_ ?_
 ·rintro e σ G ⟨rfl,rfl,h⟩
  exact ⟨rfl,_,h,by simp,by simp⟩
 rw [F_q57];simp -implicitDefEqProofs [-ac,-AV.one,-ad,rn]
 repeat rw [Option.bind_assoc]
 refine Ends.block (P:=KQ H va) (KR hb hby va.2.length _ _ ⟨0,by omega,rfl,by simp [kU,bls,aL]⟩) ?_
 rintro e σ1 G1 ⟨rfl,rfl,k2⟩
 generalize bls (aL va.2)=L0 at *
 simp -implicitDefEqProofs [-ac,-AV.one,-ad,rn,k2]
def ac4 (zx:Bool) (x:List Bool) (H:ae) (a n:Nat) (z:Nat) (σ:List AV) (G:ae):Prop:=
 ∃ (k i v:Nat),k+z=n∧a+k=i∧v=rP x a k∧G=H∧σ=L 45 ((((((Tr.full 6).put (ah 0) (lst zx 1 none (bls x))).put (ah 1) (ai a)).put (ah 2) (ai n)).put (ah 9) (.c (.int .u64 (v:Int)))).put (ah 10) (ai i))
def KS (H:ae) (x:List Bool) (a n:Nat) (e:AExit) (σ:List AV) (G:ae):Prop:=
 e=.exit 0∧G=H∧kill [0,10,26,27,28,29,30] σ=L 45 ((((Tr.full 6).put (ah 1) (ai a)).put (ah 2) (ai n)).put (ah 9) (.c (.int .u64 (rP x a n:Nat))))
theorem KT {zx:Bool} {x:List Bool} (hl:x.length≤100000) {a n:Nat} (hn:n≤64) (hle:a+n≤x.length) (z:Nat) (σ:List AV) (G:ae) (hI:ac4 zx x H a n z (kill (bK kV) σ) G) :
  Ends (execW P fm (.loop kV) σ G) fun s=>KS H x a n s.e s.σ s.H:=by
 refine bq (fun z σ G=>ac4 zx x H a n z σ G) (KS H x a n) ?_ z σ G hI
 clear hI z σ G
 rintro z σ G ⟨k,i,v,hz,hi,hv,rfl,rfl⟩
 obtain ⟨to,hto⟩:=nm (a+n)
 have w1:IntKind.i64.wrap ((a:Int)+n)=(to:Int):=by rw [ag (by omega) (by omega)];omega
 by_cases hk:k<n
 ·have hlt:(i:Int)<to:=by omega
  have hlt':i<to:=by omega
  obtain ⟨b,hb⟩:∃ b,x[i]?=some b:=⟨_,zq6 (by omega)⟩
  have q1:=fG hb zx none .i64
  have hs:=GC (x:=x) (a:=a) (n:=k) (b:=b) (by rw [hi];exact hb)
  rw [← hv] at hs
  have hvb:v<9223372036854775808:=by
   have:=En (x:=x) (a:=a) (n:=k) (by omega)
   rw [← hv] at this
   have h63:2 ^ k≤2 ^ 63:=Nat.pow_le_pow_right (by omega) (by omega)
   have:(2:Nat) ^ 63=9223372036854775808:=by decide
   omega
  have w2:IntKind.u64.wrap (2 * (v:Int))=((2 * v:Nat):Int):=by rw [aj (by omega) (by omega)];omega
  obtain ⟨v2,hv2⟩:=nm (2 * v)
  rw [hv2] at w2 hs
  have w3:IntKind.u64.wrap ((v2:Int)+1)=((v2+1:Nat):Int):=by rw [aj (by omega) (by omega)];omega
  obtain ⟨v3,hv3⟩:=nm (v2+1)
  have w4:IntKind.i64.wrap ((i:Int)+1)=((i+1:Nat):Int):=by rw [ag (by omega) (by omega)];omega
  obtain ⟨i1,hi1⟩:=nm (i+1)
  rw [hv3] at w3
  rw [hi1] at w4
  cases b with
  | true =>
   simp -implicitDefEqProofs [-ac,-AV.one,-ad,ro,kV,w1,hlt,hlt',w2,w3,w4,q1]
   exact ⟨z - 1,by omega,k+1,i1,v3,by omega,by omega,by rw [hs,← hv3];rfl,rfl,by simp⟩
  | false =>
   simp -implicitDefEqProofs [-ac,-AV.one,-ad,ro,kV,w1,hlt,hlt',w2,w3,w4,q1]
   exact ⟨z - 1,by omega,k+1,i1,v2,by omega,by omega,by rw [hs];rfl,rfl,by simp⟩
 ·have hkn:k=n:=by omega
  subst hkn
  have hlt:¬ (i:Int)<to:=by omega
  have hlt':¬ i<to:=by omega
  rw [hv]
  simp -implicitDefEqProofs [-ac,-AV.one,-ad,ro,kV,w1,hlt,hlt']
  exact ⟨rfl,rfl,by simp⟩
theorem vc (zx:Bool) (x:List Bool) (hl:x.length≤100000) {a n:Nat} (hn:n≤64) (ha:a≤100000) (a' n':Int) (ha':a'=a) (hn':n'=n) (H:ae) :
  callW P fm [lst zx 1 none (bls x),ai a',ai n'] H=some (.tup (if a+n≤x.length then [.c (.int .u64 (rP x a n:Nat)),ai (a+n:Nat),ai 0] else [.c (.int .u64 0),ai a,ai 8]),H):=by
 subst ha';subst hn'
 have hlen:(bls x).length=x.length:=eu x
 have h0:¬ (n:Int)<0:=by omega
 have h1:¬ (n:Int) > 64:=by omega
 have h1':¬ (64:Int)<n:=by omega
 have h1'':¬ 64<n:=by omega
 have w0:IntKind.i64.wrap ((x.length:Int) - a)=(x.length:Int) - a:=ag (by omega) (by omega)
 obtain ⟨to,hto⟩:=nm (a+n)
 have w1:IntKind.i64.wrap ((a:Int)+n)=(to:Int):=by rw [ag (by omega) (by omega)];omega
 by_cases hle:a+n≤x.length
 ·have h2:¬ (n:Int) > (x.length:Int) - a:=by omega
  have h2':¬ (x.length:Int) - a<n:=by omega
  rw [if_pos hle,hto,cT]
  refine call_post 6 45 rfl (rfl:P.T fm=some F_q58) rfl (aS rfl) (fun e σ G=>e=.ret∧G=H∧aN F_q58.res σ=some (.tup [.c (.int .u64 (rP x a n:Nat)),ai (to:Nat),ai 0])) ?_ ?_
  ·rintro e σ G ⟨rfl,rfl,h⟩
   exact ⟨rfl,_,h,by simp,by simp⟩
  rw [F_q58];simp -implicitDefEqProofs [-ac,-AV.one,-ad,ro,h0,h1,h1',h1'',hlen,w0,h2,h2']
  repeat rw [Option.bind_assoc]
  refine Ends.block (P:=KS H x a n) (KT (zx:=zx) hl hn hle n _ _ ⟨0,a,0,by omega,rfl,by simp [rP,num],rfl,by simp [kV]⟩) ?_
  rintro e σ1 G1 ⟨rfl,rfl,k2⟩
  simp -implicitDefEqProofs [-ac,-AV.one,-ad,ro,k2,w1]
 ·have h2:(n:Int) > (x.length:Int) - a:=by omega
  have h2':(x.length:Int) - a<n:=by omega
  rw [if_neg hle]
  rw [Gz rfl];simp -implicitDefEqProofs [-ac,-AV.one,-ad,ro,h0,h1,h1',h1'',hlen,w0,h2,h2']
end
section
variable {H:ae}
abbrev vx (bs:List Nat):AV:=lst true 1 (some 21) (bls (aL bs))
def ac5 (H:ae) (bs:List Nat) (w:Nat) (z:Nat) (σ:List AV) (G:ae):Prop:=
 ∃ (k a:Nat),0<z∧k+z=23∧k * (w+1)=a∧a≤8 * bs.length∧lr bs w z=lr bs w 23∧G=H
  ∧ σ=L 67 (((((Tr.full 7).put (ah 1) (ai w)).put (ah 7) (lst true 1 (some 21) (bls (aL bs)))).put (ah 8) (lst true 1 (some 49) (nvs (bX bs w k)))).put (ah 9) (ai a))
def EA (H:ae) (bs:List Nat) (w:Nat) (e:AExit) (σ:List AV) (G:ae):Prop:=
 G=H∧((e=.exit 0∧∃ n a,lr bs w 23=(n,0)∧n * (w+1)=a∧a≤8 * bs.length∧kill [1,13,50,51,62,63] σ=L 67 ((((Tr.full 7).put (ah 7) (lst true 1 (some 21) (bls (aL bs)))).put (ah 8) (lst true 1 (some 49) (nvs (bX bs w n)))).put (ah 9) (ai a)))
 ∨ (e=.ret∧∃ er,aN F_q65.res σ=some (.tup [bz,ai 0,ai (er:Nat)])∧er≠0∧lr bs w 23=(0,er)))
theorem EB {bs:List Nat} (hb:bs.length≤8192) {w:Nat} (hw:w=11∨w=15) (z:Nat) (σ:List AV) (G:ae) (hI:ac5 H bs w z (kill (bK ik) σ) G) :
  Ends (execW P qZ (.loop ik) σ G) fun s=>EA H bs w s.e s.σ s.H:=by
 refine bq (fun z σ G=>ac5 H bs w z σ G) (EA H bs w) ?_ z σ G hI
 clear hI z σ G
 rintro z σ G ⟨k,x,hz,hk,hx0,hle,hlr,rfl,rfl⟩
 obtain ⟨z1,rfl⟩:∃ z1,z=z1+1:=⟨z - 1,by omega⟩
 have hk22:22 - z1=k:=by omega
 rw [lr,hk22] at hlr
 obtain ⟨m8,hm8⟩:=nm (8 * bs.length)
 have hbl:(aL bs).length=m8:=by rw [bP,hm8]
 have hlen:(bls (aL bs)).length=m8:=by rw [eu,hbl]
 rw [hm8] at hle hlr
 have w1:IntKind.i64.wrap ((m8:Int) - x)=(m8:Int) - x:=ag (by omega) (by omega)
 have w2:IntKind.i64.wrap ((w:Int)+1)=(w:Int)+1:=ag (by omega) (by omega)
 have w3:IntKind.i64.wrap ((x:Int)+1)=((x+1:Nat):Int):=by rw [ag (by omega) (by omega)];omega
 obtain ⟨x1,hx1⟩:=nm (x+1)
 rw [hx1] at w3
 by_cases hs:m8<x+(w+1)
 ·have hs':(m8:Int) - x<(w:Int)+1:=by omega
  rw [hx0,if_pos hs] at hlr
  simp -implicitDefEqProofs [-ac,-AV.one,-ad,gT,ik,hlen,w1,w2,hs']
  exact ⟨rfl,.inr ⟨rfl,8,by simp [F_q65],by omega,hlr.symm⟩⟩
 ·have hs':¬ (m8:Int) - x<(w:Int)+1:=by omega
  rw [hx0,if_neg hs] at hlr
  have g:=fun H=>vc true (aL bs) (by omega) (a:=x1) (n:=w) (by omega) (by omega) x1 w rfl rfl H
  rw [hbl] at g
  have hsle:x1+w≤m8:=by omega
  simp only [hsle,if_true] at g
  obtain ⟨x2,hx2⟩:=nm (x1+w)
  rw [hx2] at g
  have e2:rP (aL bs) x1 w=lg bs w k:=by rw [lg,hx0,hx1];rfl
  rw [e2] at g
  obtain ⟨b,hbx⟩:∃ b,(aL bs)[x]?=some b:=⟨_,zq6 (by omega)⟩
  have q1:=fG hbx true (some 21) .i64
  have hmo:jN bs w k=b.toNat:=by
   rw [jN,hx0]
   have:=gh (bs:=bs) (a:=x) (n:=0) hbx
   rw [this]
   simp [aq,num]
  have hn15:lg bs w k<32768:=by
   have:lg bs w k<2 ^ w:=by rw [← e2];exact En (by omega)
   have:2 ^ w≤2 ^ 15:=Nat.pow_le_pow_right (by omega) (by omega)
   have:(2:Nat) ^ 15=32768:=by decide
   omega
  have hsnoc:=uk bs w k
  obtain ⟨nv,hnv⟩:=nm (lg bs w k)
  rw [hmo] at hlr
  rw [hnv] at hlr g hn15 hsnoc
  by_cases h3:nv=0
  ·subst h3
   rw [if_pos rfl] at hlr
   replace g:∀ H,callW P fm [lst true 1 none (bls (aL bs)),ai x1,ai w] H=some (.tup [.c (.int .u64 0),ai x2,ai 0],H):=g
   simp -implicitDefEqProofs [-ac,-AV.one,-ad,gT,ik,hlen,w1,w2,w3,hs',g,q1]
   exact ⟨rfl,.inr ⟨rfl,3,by simp [F_q65],by omega,hlr.symm⟩⟩
  ·have h3':¬ (nv:Int)=0:=by omega
   rw [if_neg h3] at hlr
   have hap:=fun σ H=>u9 (m:=P.md qZ) (d:=49) (bytes:=8) (v:=ai nv) (Pd 49) (by omega) (by rw [dC,cI];omega) (l:=nvs (bX bs w k)) (some 48) σ H
   rw [← mH,← hsnoc] at hap
   have wn:IntKind.i64.wrap (nv:Int)=nv:=ag (by omega) (by omega)
   obtain ⟨k1,hk1⟩:=nm (k+1)
   have hlen2:(nvs (bX bs w (k+1))).length=k1:=by rw [dC,cI,hk1]
   have hx2':(k+1) * (w+1)=x2:=by rw [Nat.add_mul,hx0];omega
   rw [hk1] at hap hlen2 hx2'
   cases b with
   | true =>
    simp only [Bool.toNat_true,if_true] at hlr
    by_cases h5:k1=23
    ·have h5':(k1:Int)=23:=by omega
     have hz1:z1=0:=by omega
     subst hz1
     simp -implicitDefEqProofs [-ac,-AV.one,-ad,gT,ik,hlen,w1,w2,w3,hs',g,q1,h3,h3',wn,hap,hlen2,h5']
     exact ⟨rfl,.inr ⟨rfl,2,by simp [F_q65],by omega,hlr.symm⟩⟩
    ·have h5':¬ (k1:Int)=23:=by omega
     simp -implicitDefEqProofs [-ac,-AV.one,-ad,gT,ik,hlen,w1,w2,w3,hs',g,q1,h3,h3',wn,hap,hlen2,h5,h5']
     exact ⟨z1,by omega,k1,x2,by omega,by omega,hx2',by omega,hlr,rfl,by simp⟩
   | false =>
    simp only [Bool.toNat_false] at hlr
    rw [if_neg (by omega)] at hlr
    simp -implicitDefEqProofs [-ac,-AV.one,-ad,gT,ik,hlen,w1,w2,w3,hs',g,q1,h3,h3',wn,hap,hlen2]
    exact ⟨rfl,.inl ⟨rfl,k1,x2,by rw [← hlr,hk1],hx2',by omega,by simp⟩⟩
def ac6 (bs:List Nat) (out:AV) (a:Nat) (M:ae) (z:Nat) (σ:List AV) (G:ae):Prop:=
 ∃ (j i:Nat),j+z=cw a∧a+j=i∧aq bs a j=0∧G=M∧σ=L 67 ((((Tr.full 7).put (ah 7) (lst true 1 (some 21) (bls (aL bs)))).put (ah 8) (out)).put (ah 9) (ai i))
def EC (bs:List Nat) (out:AV) (a:Nat) (M:ae) (e:AExit) (σ:List AV) (G:ae):Prop:=
 G=M∧((e=.exit 2∧aq bs a (cw a)=0∧kill [7,55,56,57] σ=L 67 (((Tr.full 7).put (ah 8) (out)).put (ah 9) (ai (a+cw a:Nat))))
 ∨ (e=.ret∧aq bs a (cw a)≠0∧aN F_q65.res σ=some (.tup [bz,ai 0,ai 3])))
theorem KU {M:ae} {l:List (List AV)} {bs:List Nat} (hb:bs.length≤8192) {a:Nat} (ha:a≤8 * bs.length) (z:Nat) (σ:List AV) (G:ae) (hI:ac6 bs (lst true 1 (some 49) l) a M z (kill (bK jH) σ) G) :
  Ends (execW P qZ (.loop jH) σ G) fun s=>EC bs (lst true 1 (some 49) l) a M s.e s.σ s.H:=by
 refine bq (fun z σ G=>ac6 bs (lst true 1 (some 49) l) a M z σ G) (EC bs (lst true 1 (some 49) l) a M) ?_ z σ G hI
 clear hI z σ G
 rintro z σ G ⟨j,i,hz,hi,hn0,rfl,rfl⟩
 have hp:cw a=(8 - a % 8) % 8:=rfl
 have hple:=jM ha
 have d1:(i:Int).tmod 8=((i % 8:Nat):Int):=Am i
 have d1':(i:Int) % 8=((i % 8:Nat):Int):=by omega
 obtain ⟨m8,hm8⟩:=nm (i % 8)
 rw [hm8] at d1 d1'
 by_cases h0:m8=0
 ·have hjp:j=cw a:=by omega
  have h0':(m8:Int)=0:=by omega
  simp -implicitDefEqProofs [-ac,-AV.one,-ad,gT,jH,d1,d1',h0,h0']
  refine ⟨rfl,.inl ⟨rfl,by rw [← hjp];exact hn0,?_⟩⟩
  rw [← hjp,hi]
  simp
 ·have h0':¬ (m8:Int)=0:=by omega
  have hjp:j<cw a:=by omega
  obtain ⟨b,hbx⟩:∃ b,(aL bs)[i]?=some b:=⟨_,zq6 (by rw [bP];omega)⟩
  have q1:=fG hbx true (some 21) .i64
  have hs:=gh (bs:=bs) (a:=a) (n:=j) (by rw [hi];exact hbx)
  rw [hn0] at hs
  have w1:IntKind.i64.wrap ((i:Int)+1)=((i+1:Nat):Int):=by rw [ag (by omega) (by omega)];omega
  obtain ⟨i1,hi1⟩:=nm (i+1)
  rw [hi1] at w1
  cases b with
  | true =>
   simp -implicitDefEqProofs [-ac,-AV.one,-ad,gT,jH,d1,d1',h0,h0',q1]
   exact ⟨rfl,.inr ⟨rfl,uq (j:=j+1) (by omega) (by rw [hs];simp),by simp [F_q65]⟩⟩
  | false =>
   simp -implicitDefEqProofs [-ac,-AV.one,-ad,gT,jH,d1,d1',h0,h0',q1,w1]
   exact ⟨z - 1,by omega,j+1,i1,by omega,by omega,by rw [hs];rfl,rfl,by simp⟩
theorem Pn (b:Bs) (hb:b.2.length≤8192) (hby:bF b.2) {w:Nat} (hw:w=11∨w=15) (H:ae):callW P qZ [bv b,ai w] H=some (dQ b.2 w none,H):=by
 have h44:=fun H=>AD b hb hby H
 rw [cT]
 refine call_post 7 67 rfl (rfl:P.T qZ=some F_q65) rfl (aS rfl) (fun e σ G=>e=.ret∧G=H∧∃ f,aN F_q65.res σ=some (dQ b.2 w f)) ?_ ?_
 ·rintro e σ G ⟨rfl,rfl,f,h⟩
  exact ⟨rfl,_,h,by simp,by simp⟩
 rcases hw with rfl | rfl
 all_goals
  rw [F_q65];simp -implicitDefEqProofs [-ac,-AV.one,-ad,gT,h44]
  repeat rw [Option.bind_assoc]
 ·refine Ends.block (P:=EA H b.2 11) (EB hb (.inl rfl) 23 _ _ ⟨0,0,by omega,by omega,by omega,by omega,rfl,rfl,by simp [ik,bX,nvs]⟩) ?_
  rintro e σ1 G1 ⟨rfl,⟨rfl,n,a,p1,p2,p3,p5⟩ | ⟨rfl,er,p1,p2,p3⟩⟩
  ·have hok:0<n∧n≤23:=by
    have:=uo (bs:=b.2) (w:=11) 23 (by omega) (by rw [p1])
    rw [p1] at this
    simp only at this
    omega
   have hR:bc b.2 11=if aq b.2 a (cw a)=0 then (n,0) else (0,3):=by
    rw [bc,p1]
    simp only [if_true]
    rw [p2]
   have hpl:=jM p3
   have hq:(a+cw a) / 8=bj n 11:=by rw [← p2];exact wM hok.1 hok.2
   have d1:IntKind.i64.wrap (((a+cw a:Nat):Int).tdiv 8)=(bj n 11:Nat):=by
    rw [wK,hq]
    exact ag (by omega) (by omega)
   have d1':IntKind.i64.wrap (((a+cw a:Nat):Int) / 8)=(bj n 11:Nat):=by
    have:((a+cw a:Nat):Int) / 8=(((a+cw a) / 8:Nat):Int):=by omega
    rw [this,hq]
    exact ag (by omega) (by omega)
   obtain ⟨L0,hL0⟩:=nm (nvs (bX b.2 11 n))
   rw [hL0] at p5
   simp -implicitDefEqProofs [-ac,-AV.one,-ad,gT,p5]
   repeat rw [Option.bind_assoc]
   refine Ends.block (P:=EC b.2 (lst true 1 (some 49) L0) a G1) (KU hb p3 (cw a) _ _ ⟨0,a,by omega,by omega,by simp [aq,num],rfl,by simp [jH,p5]⟩) ?_
   rintro e σ2 G2 ⟨rfl,⟨rfl,c1,c2⟩ | ⟨rfl,c1,c2⟩⟩
   ·rw [if_pos c1] at hR
    generalize a+cw a=ap at *
    obtain ⟨ls,hls⟩:=nm (bj n 11)
    rw [hls] at d1 d1'
    simp -implicitDefEqProofs [-ac,-AV.one,-ad,gT,c2,d1,d1']
    exact ⟨some 49,by rw [dQ,hR];simp [F_q65,hL0,hls]⟩
   ·rw [if_neg c1] at hR
    simp -implicitDefEqProofs [-ac,-AV.one,-ad,gT]
    exact ⟨none,by rw [dQ,hR];simpa [F_q65] using c2⟩
  ·have hR:=CH p3 p2
   simp -implicitDefEqProofs [-ac,-AV.one,-ad,gT]
   exact ⟨none,by rw [dQ,hR];simp [F_q65] at p1;simp [F_q65,p1,p2]⟩
 ·refine Ends.block (P:=EA H b.2 15) (EB hb (.inr rfl) 23 _ _ ⟨0,0,by omega,by omega,by omega,by omega,rfl,rfl,by simp [ik,bX,nvs]⟩) ?_
  rintro e σ1 G1 ⟨rfl,⟨rfl,n,a,p1,p2,p3,p5⟩ | ⟨rfl,er,p1,p2,p3⟩⟩
  ·have hok:0<n∧n≤23:=by
    have:=uo (bs:=b.2) (w:=15) 23 (by omega) (by rw [p1])
    rw [p1] at this
    simp only at this
    omega
   have hR:bc b.2 15=if aq b.2 a (cw a)=0 then (n,0) else (0,3):=by
    rw [bc,p1]
    simp only [if_true]
    rw [p2]
   have hpl:=jM p3
   have hq:(a+cw a) / 8=bj n 15:=by rw [← p2];exact wM hok.1 hok.2
   have d1:IntKind.i64.wrap (((a+cw a:Nat):Int).tdiv 8)=(bj n 15:Nat):=by
    rw [wK,hq]
    exact ag (by omega) (by omega)
   have d1':IntKind.i64.wrap (((a+cw a:Nat):Int) / 8)=(bj n 15:Nat):=by
    have:((a+cw a:Nat):Int) / 8=(((a+cw a) / 8:Nat):Int):=by omega
    rw [this,hq]
    exact ag (by omega) (by omega)
   obtain ⟨L0,hL0⟩:=nm (nvs (bX b.2 15 n))
   rw [hL0] at p5
   simp -implicitDefEqProofs [-ac,-AV.one,-ad,gT,p5]
   repeat rw [Option.bind_assoc]
   refine Ends.block (P:=EC b.2 (lst true 1 (some 49) L0) a G1) (KU hb p3 (cw a) _ _ ⟨0,a,by omega,by omega,by simp [aq,num],rfl,by simp [jH,p5]⟩) ?_
   rintro e σ2 G2 ⟨rfl,⟨rfl,c1,c2⟩ | ⟨rfl,c1,c2⟩⟩
   ·rw [if_pos c1] at hR
    generalize a+cw a=ap at *
    obtain ⟨ls,hls⟩:=nm (bj n 15)
    rw [hls] at d1 d1'
    simp -implicitDefEqProofs [-ac,-AV.one,-ad,gT,c2,d1,d1']
    exact ⟨some 49,by rw [dQ,hR];simp [F_q65,hL0,hls]⟩
   ·rw [if_neg c1] at hR
    simp -implicitDefEqProofs [-ac,-AV.one,-ad,gT]
    exact ⟨none,by rw [dQ,hR];simpa [F_q65] using c2⟩
  ·have hR:=CH p3 p2
   simp -implicitDefEqProofs [-ac,-AV.one,-ad,gT]
   exact ⟨none,by rw [dQ,hR];simp [F_q65] at p1;simp [F_q65,p1,p2]⟩
end
theorem yj (l:List Bs) (b:Bs):bb (l++[b])=bb l++[b.2]:=by simp [bb]
section
variable {H:ae}
def ac7 (H:ae) (b:Bs) (l:List Nat) (o:Option (List (List Nat))) (z:Nat) (σ:List AV) (G:ae):Prop:=
 ∃ (i a:Nat) (out:List Bs),i+z=l.length∧out.length=i∧a≤b.2.length∧G=H∧o=(fh (b.2.drop a) (l.drop i)).map (bb out++·)
  ∧ σ=L 71 ((((((Tr.full 7).put (ah 0) (bv b)).put (ah 8) (lst true 1 none (nvs l))).put (ah 9) (ai a)).put (ah 13) (lst true 1 (some 54) (bvs out))).put (ah 14) (ai i))
def ED (H:ae) (b:Bs) (l:List Nat) (o:Option (List (List Nat))) (e:AExit) (σ:List AV) (G:ae):Prop:=
 G=H∧((e=.exit 0∧∃ (a:Nat) (out:List Bs),a≤b.2.length∧out.length=l.length∧o=(fh (b.2.drop a) []).map (bb out++·)∧kill [8,14,28,29,30,31] σ=L 71 ((((Tr.full 7).put (ah 0) (bv b)).put (ah 9) (ai a)).put (ah 13) (lst true 1 (some 54) (bvs out))))
 ∨ (e=.ret∧o=none∧aN F_q59.res σ=some (.tup [bz,ai 8])))
theorem AE {b:Bs} {l:List Nat} {o:Option (List (List Nat))} (hb:b.2.length≤10000) (hll:l.length≤23) (hsm:∀ n∈l,n≤40000) (z:Nat) (σ:List AV) (G:ae) (hI:ac7 H b l o z (kill (bK jG) σ) G) :
  Ends (execW P iz (.loop jG) σ G) fun s=>ED H b l o s.e s.σ s.H:=by
 refine bq (fun z σ G=>ac7 H b l o z σ G) (ED H b l o) ?_ z σ G hI
 clear hI z σ G
 rintro z σ G ⟨i,a,out,hz,ho,ha,rfl,hcut,rfl⟩
 have hlen:(nvs l).length=l.length:=dC l
 have hbl:=cL b
 by_cases hi:i<l.length
 ·have hi':(i:Int)<l.length:=by omega
  obtain ⟨n,hn⟩:∃ n,l[i]?=some n:=⟨_,zq6 hi⟩
  have hn2:=hsm n (List.mem_of_getElem? hn)
  have q1:=qC hn true none .i64
  have hdr:l.drop i=n :: l.drop (i+1):=by
   rw [List.drop_eq_getElem_cons hi]
   rw [zq6 hi] at hn
   rw [zq1 hn]
  rw [hdr,fh,List.length_drop] at hcut
  have w1:IntKind.i64.wrap ((a:Int)+n)=((a+n:Nat):Int):=by rw [ag (by omega) (by omega)];omega
  obtain ⟨to,hto⟩:=nm (a+n)
  rw [hto] at w1
  by_cases hc:b.2.length<to
  ·have hc':(to:Int) > b.2.length:=by omega
   have hc'':(b.2.length:Int)<to:=by omega
   rw [if_pos (by omega),Option.map_none] at hcut
   simp -implicitDefEqProofs [-ac,-AV.one,-ad,kq,jG,hlen,hbl,hi,hi',q1,w1,hc,hc',hc'']
   exact ⟨rfl,.inr ⟨rfl,hcut,by simp [F_q59]⟩⟩
  ·have hc':¬ (to:Int) > b.2.length:=by omega
   have hc'':¬ (b.2.length:Int)<to:=by omega
   rw [if_neg (by omega)] at hcut
   have c1:=fun d=>CO (b:=b) (lo:=some (ai a)) (hi:=some (ai to)) (i:=a) (j:=to) (.inr ⟨.i64,rfl⟩) (.inr ⟨.i64,rfl⟩) (by omega) (by omega) d
   have e1:(dP b a to).2=(b.2.drop a).take n:=by simp only [dP];rw [List.drop_take];congr 1;omega
   obtain ⟨x,hx⟩:=nm (dP b a to)
   rw [hx] at c1 e1
   have hap:=fun σ H=>u9 (m:=P.md iz) (d:=54) (bytes:=24) (v:=bv x) (Ej 54) (by omega) (by rw [bN];omega) (l:=bvs out) (some 53) σ H
   rw [← jr] at hap
   have w6:IntKind.i64.wrap ((i:Int)+1)=((i+1:Nat):Int):=by rw [ag (by omega) (by omega)];omega
   obtain ⟨i1,hi1⟩:=nm (i+1)
   rw [hi1] at w6 hcut
   simp -implicitDefEqProofs [-ac,-AV.one,-ad,kq,jG,hlen,hbl,hi,hi',q1,w1,hc,hc',hc'',c1,hap,w6]
   refine ⟨z - 1,by omega,i1,to,out++[x],by omega,by simp;omega,by omega,rfl,?_,by simp⟩
   rw [hcut,yj,e1,List.drop_drop,hto]
   cases fh (b.2.drop to) (l.drop i1) with
   | none=>rfl
   | some r=>simp
 ·have hi':¬ (i:Int)<l.length:=by omega
  have hd:l.drop i=[]:=List.drop_eq_nil_of_le (by omega)
  rw [hd] at hcut
  simp -implicitDefEqProofs [-ac,-AV.one,-ad,kq,jG,hlen,hi,hi']
  exact ⟨rfl,.inl ⟨rfl,a,out,ha,by omega,hcut,by simp⟩⟩
def ac8 (H:ae) (r:Nat × List (List Nat)) (e:AExit) (σ:List AV) (G:ae):Prop:=
 e=.ret∧G=H∧∃ (out:List Bs) (f:Option Nat),bb out=r.2∧aN F_q59.res σ=some (.tup [lst true 1 f (bvs out),ai (r.1:Nat)])
theorem Oi (b:Bs) (hb:b.2.length≤8192) (hby:bF b.2) (more:Bool) {w:Nat} (hw:w=11∨w=15) (H:ae) :
  ∃ out:List Bs,bb out=(mG b.2 more w).2∧callW P iz [bv b,ab more,ai w] H=some (.tup [lst true 1 none (bvs out),ai ((mG b.2 more w).1:Nat)],H):=by
 suffices hs:Ends (callW P iz [bv b,ab more,ai w] H) fun y=>∃ out:List Bs,bb out=(mG b.2 more w).2∧y=(.tup [lst true 1 none (bvs out),ai ((mG b.2 more w).1:Nat)],H) by
  obtain ⟨y,h2,out,h3,rfl⟩:=hs
  exact ⟨out,h3,h2⟩
 refine call_post 7 71 rfl (rfl:P.T iz=some F_q59) rfl (aS rfl) (ac8 H (mG b.2 more w)) ?_ ?_
 ·rintro e σ G ⟨rfl,rfl,out,f,h1,h2⟩
  exact ⟨rfl,_,h2,by simp,by simp;exact ⟨out,h1,rfl⟩⟩
 have h46:=fun H=>Pn b hb hby hw H
 have hbl:=cL b
 cases more with
 | true =>
  by_cases he:(bc b.2 w).2=0
  ·have hok:=f7 he
   have hR:mG b.2 true w=u7 (fh (b.2.drop (bj (bc b.2 w).1 w)) (bX b.2 w (bc b.2 w).1)):=by rw [mG,if_pos rfl,if_pos he]
   have hr:dQ b.2 w none=.tup [lst true 1 none (nvs (bX b.2 w (bc b.2 w).1)),ai (bj (bc b.2 w).1 w:Nat),ai 0]:=by rw [dQ,if_pos he]
   rw [hr] at h46
   have hlvl:(bX b.2 w (bc b.2 w).1).length≤23:=by rw [cI];omega
   have hsm:∀ n∈bX b.2 w (bc b.2 w).1,n≤40000:=fun n hn=>by
    obtain ⟨k,hk,rfl⟩:=List.mem_map.1 hn
    rw [List.mem_range] at hk
    have h1:(k+1) * (w+1)≤(bc b.2 w).1 * (w+1):=Nat.mul_le_mul_right _ hk
    have h2:(k+1) * (w+1)=k * (w+1)+(w+1):=by rw [Nat.add_mul];omega
    have h3:=bW (bs:=b.2) (a:=k * (w+1)+1) (n:=w) (by omega)
    have h4:2 ^ w≤2 ^ 15:=Nat.pow_le_pow_right (by omega) (by omega)
    have h5:(2:Nat) ^ 15=32768:=by decide
    show aq b.2 (k * (w+1)+1) w≤40000
    omega
   have hsz:bj (bc b.2 w).1 w≤b.2.length:=by
    rw [bj,if_neg (by omega)];omega
   obtain ⟨l,hl⟩:=nm (bX b.2 w (bc b.2 w).1)
   obtain ⟨a,ha⟩:=nm (bj (bc b.2 w).1 w)
   rw [hl] at h46 hR hlvl hsm
   rw [ha] at h46 hR hsz
   obtain ⟨o,hO⟩:=nm (fh (b.2.drop a) l)
   rw [hO] at hR
   rw [F_q59];simp -implicitDefEqProofs [-ac,-AV.one,-ad,kq,h46]
   repeat rw [Option.bind_assoc]
   refine Ends.block (P:=ED H b l o) (AE (by omega) (by omega) hsm l.length _ _ ⟨0,a,[],by omega,rfl,by omega,rfl,by rw [← hO];simp [bb],by simp [jG,bvs]⟩) ?_
   rintro e σ1 G1 ⟨rfl,⟨rfl,a',out,p2,p3,p5,p6⟩ | ⟨rfl,p1,p2⟩⟩
   ·rw [fh,List.length_drop] at p5
    by_cases h0:(a':Int) ≥ b.2.length
    ·have h0':(b.2.length:Int)≤a':=h0
     have h0'':b.2.length≤a':=by omega
     rw [if_pos (by omega),Option.map_none] at p5
     rw [hR,p5]
     simp -implicitDefEqProofs [-ac,-AV.one,-ad,kq,p6,hbl,h0,h0',h0'']
     exact ⟨rfl,rfl,[],none,rfl,by simp [F_q59,bvs,u7]⟩
    ·have h0':¬ (b.2.length:Int)≤a':=h0
     have h0'':¬ b.2.length≤a':=by omega
     rw [if_neg (by omega)] at p5
     have c3:=fun d=>fu (b:=b) (i:=a') (by omega) .i64 d
     have e2:=cZ b a'
     obtain ⟨x,hx⟩:=nm (dP b a' b.2.length)
     rw [hx] at c3 e2
     have hol:out.length≤23:=by rw [p3];omega
     obtain ⟨cs,hap⟩:=xJ (m:=P.md iz) (d:=70) (sz:=1) (bytes:=24) (c:=54) (l:=bvs out) (l':=[[bv x]]) (x:=.vs 1 (some 69) [[bv x]]) (Ej 70) (fun H=>dh H 1 (some 69) [[bv x]]) (.inr (by simp)) (by simp [bN,aJ];omega) (by simp [bN,aJ];omega)
     rw [← jr] at hap
     rw [hR,p5]
     have hne:bvs (out++[x])≠[]:=by simp [bvs]
     obtain ⟨L0,hL0⟩:=nm (bvs (out++[x]))
     rw [hL0] at hap hne
     simp -implicitDefEqProofs [-ac,-AV.one,-ad,kq,p6,hbl,h0,h0',h0'',c3,hap]
     exact ⟨rfl,rfl,out++[x],some 70,by simp [yj,u7,e2],by simp [F_q59,u7,hL0,jb hne]⟩
   ·rw [hR,p1]
    simp -implicitDefEqProofs [-ac,-AV.one,-ad,kq]
    exact ⟨rfl,rfl,[],none,rfl,p2⟩
  ·have hR:mG b.2 true w=((bc b.2 w).2,[]):=by rw [mG,if_pos rfl,if_neg he]
   have hr:dQ b.2 w none=.tup [bz,ai 0,ai ((bc b.2 w).2:Nat)]:=by rw [dQ,if_neg he]
   rw [hr] at h46
   obtain ⟨ee,hee⟩:=nm ((bc b.2 w).2)
   rw [hee] at h46 hR he
   have he':¬ (ee:Int)=0:=by omega
   rw [hR]
   rw [F_q59];simp -implicitDefEqProofs [-ac,-AV.one,-ad,kq,h46,he,he']
   exact ⟨rfl,rfl,[],none,rfl,by simp [F_q59,bvs]⟩
 | false =>
  have hR:mG b.2 false w=u7 (fh (b.2.drop 0) []):=by rw [mG,if_neg (by simp)];rfl
  obtain ⟨o,hO⟩:=nm (fh (b.2.drop 0) ([]:List Nat))
  rw [hO] at hR
  rw [F_q59];simp -implicitDefEqProofs [-ac,-AV.one,-ad,kq,h46]
  repeat rw [Option.bind_assoc]
  refine Ends.block (P:=ED H b ([]:List Nat) o) (AE (by omega) (by simp) (by simp) ([]:List Nat).length _ _ ⟨0,0,[],by omega,rfl,by omega,rfl,by rw [← hO];simp [bb],by simp [jG,bvs,nvs]⟩) ?_
  rintro e σ1 G1 ⟨rfl,⟨rfl,a',out,p2,p3,p5,p6⟩ | ⟨rfl,p1,p2⟩⟩
  ·rw [fh,List.length_drop] at p5
   by_cases h0:(a':Int) ≥ b.2.length
   ·have h0':(b.2.length:Int)≤a':=h0
    have h0'':b.2.length≤a':=by omega
    rw [if_pos (by omega),Option.map_none] at p5
    rw [hR,p5]
    simp -implicitDefEqProofs [-ac,-AV.one,-ad,kq,p6,hbl,h0,h0',h0'']
    exact ⟨rfl,rfl,[],none,rfl,by simp [F_q59,bvs,u7]⟩
   ·have h0':¬ (b.2.length:Int)≤a':=h0
    have h0'':¬ b.2.length≤a':=by omega
    rw [if_neg (by omega)] at p5
    have c3:=fun d=>fu (b:=b) (i:=a') (by omega) .i64 d
    have e2:=cZ b a'
    obtain ⟨x,hx⟩:=nm (dP b a' b.2.length)
    rw [hx] at c3 e2
    have hol:out.length≤23:=by rw [p3];simp
    obtain ⟨cs,hap⟩:=xJ (m:=P.md iz) (d:=70) (sz:=1) (bytes:=24) (c:=54) (l:=bvs out) (l':=[[bv x]]) (x:=.vs 1 (some 69) [[bv x]]) (Ej 70) (fun H=>dh H 1 (some 69) [[bv x]]) (.inr (by simp)) (by simp [bN,aJ];omega) (by simp [bN,aJ];omega)
    rw [← jr] at hap
    rw [hR,p5]
    have hne:bvs (out++[x])≠[]:=by simp [bvs]
    obtain ⟨L0,hL0⟩:=nm (bvs (out++[x]))
    rw [hL0] at hap hne
    simp -implicitDefEqProofs [-ac,-AV.one,-ad,kq,p6,hbl,h0,h0',h0'',c3,hap]
    exact ⟨rfl,rfl,out++[x],some 70,by simp [yj,u7,e2],by simp [F_q59,u7,hL0,jb hne]⟩
  ·rw [hR,p1]
   simp -implicitDefEqProofs [-ac,-AV.one,-ad,kq]
   exact ⟨rfl,rfl,[],none,rfl,p2⟩
end
theorem nl {H:ae} {cs:List AV} {i n g:Nat} (h1:g=cs.length) (h2:i+n≤g):bw (H++[.row cs]) H.length i n g=some ((cs.drop i).take n):=by
 subst h1
 exact FO (DT H (.row cs)) h2
theorem ly (σ:List AV) {H:ae} {cs:List AV} {i g:Nat} {v:AV} (h1:g=cs.length) (h2:i<g) (h3:bB v=true):bM σ (H++[.row cs]) none (.ptr H.length i g) v=some (σ,H++[.row (cs.set i v)]):=by
 subst h1
 rw [Bq σ (DT H (.row cs)) h2 h3,M7]
theorem lz (σ:List AV) {H:ae} {cs vs:List AV} {k:Nat} (h1:cs.length=k) (h2:vs.length=k) (h3:vs.all bB=true):bM σ (H++[.row cs]) (some k) (.ptr H.length 0 k) (.agg vs)=some (σ,H++[.row vs]):=Bp σ H h1 h2 h3
section
set_option maxHeartbeats 2000000 in
theorem UK (zx:Bool) {bs:List Nat} {w:Nat} (hw:w=10∨w=16) (hlen:bs.length=bZ (br bs) w) (H:ae) :
  callW P qY [lst zx 1 none (bls (aL bs)),ai w] H=some (.tup (if hOk bs w=true then [.agg (dV bs w bz),ab (dO bs),ab true] else [.agg cM,ab false,ab false]),H++[.other]):=by
 rw [fE hw] at hlen
 have hbl:(aL bs).length=8 * bs.length:=bP bs
 have hsmall:bs.length≤5:=by
  rw [hlen]
  split<;>split<;>omega
 have h2le:2≤bs.length:=by
  rw [hlen]
  split<;>split<;>omega
 have gR:∀ (a n:Nat) (a' n':Int),a'=a→n'=n→n≤64→a+n≤8 * bs.length→∀ H,callW P fm [lst zx 1 none (bls (aL bs)),ai a',ai n'] H=some (.tup [.c (.int .u64 (aq bs a n:Nat)),ai (a+n:Nat),ai 0],H):=fun a n a' n' ha hn h1 h2 H=>by
  have:=vc zx (aL bs) (by rw [hbl];omega) (a:=a) (n:=n) h1 (by omega) a' n' ha hn H
  rw [if_pos (by omega),GB] at this
  exact this
 have gB:∀ i,i<8 * bs.length→∃ b,aq bs i 1=b.toNat∧cu 1 none (lst zx 1 none (bls (aL bs))) (ai i)=some (.vp [ab b] 0):=fun i hi=>by
  obtain ⟨b,hb,hn⟩:=acC hi
  exact ⟨b,hn,fG hb zx none .i64⟩
 obtain ⟨b1,n1,q1⟩:=gB 1 (by omega)
 obtain ⟨b2,n2,q2⟩:=gB 2 (by omega)
 obtain ⟨b5,n5,q5⟩:=gB 5 (by omega)
 obtain ⟨b6,n6,q6⟩:=gB 6 (by omega)
 obtain ⟨b7,n7,q7⟩:=gB 7 (by omega)
 replace q1:cu 1 none (lst zx 1 none (bls (aL bs))) (ai 1)=some (.vp [ab b1] 0):=q1
 replace q2:cu 1 none (lst zx 1 none (bls (aL bs))) (ai 2)=some (.vp [ab b2] 0):=q2
 replace q5:cu 1 none (lst zx 1 none (bls (aL bs))) (ai 5)=some (.vp [ab b5] 0):=q5
 replace q6:cu 1 none (lst zx 1 none (bls (aL bs))) (ai 6)=some (.vp [ab b6] 0):=q6
 replace q7:cu 1 none (lst zx 1 none (bls (aL bs))) (ai 7)=some (.vp [ab b7] 0):=q7
 have g3:∀ H,callW P fm [lst zx 1 none (bls (aL bs)),ai 3,ai 2] H=some (.tup [.c (.int .u64 (aq bs 3 2:Nat)),ai 5,ai 0],H):=gR 3 2 3 2 rfl rfl (by omega) (by omega)
 have w3:IntKind.i64.wrap (aq bs 3 2:Nat)=(aq bs 3 2:Nat):=by
  have:=dG (bs:=bs) (a:=3) (n:=2) (k:=16) (by omega) (by omega)
  exact ag (by omega) (by omega)
 have hP:br bs=b1:=by rw [br,n1,qz]
 have hO:dF bs=b2:=by rw [dF,n2,qz]
 have hM:dO bs=b5:=by rw [dO,n5,qz]
 have e56:IntKind.i64.wrap 6=6:=rfl
 have e67:IntKind.i64.wrap 7=7:=rfl
 have e68:IntKind.i64.wrap 8=8:=rfl
 have e1617:IntKind.i64.wrap 17=17:=rfl
 rcases hw with rfl | rfl
 ·have o10:∀ H,callW P lD [ai 10] H=some (.tup [ai 11,ai 15],H):=fun H=>pT 10 H
  have g6:∀ H,callW P fm [lst zx 1 none (bls (aL bs)),ai 6,ai 10] H=some (.tup [.c (.int .u64 (aq bs 6 10:Nat)),ai 16,ai 0],H):=gR 6 10 6 10 rfl rfl (by omega) (by omega)
  have w6:IntKind.i64.wrap (aq bs 6 10:Nat)=(aq bs 6 10:Nat):=by
   have:=dG (bs:=bs) (a:=6) (n:=10) (k:=16) (by omega) (by omega)
   exact ag (by omega) (by omega)
  cases b1 with
  | true =>
   rw [hP] at hlen
   simp at hlen
   obtain ⟨b16,n16,q16⟩:=gB 16 (by omega)
   replace q16:cu 1 none (lst zx 1 none (bls (aL bs))) (ai 16)=some (.vp [ab b16] 0):=q16
   have g17:∀ H,callW P fm [lst zx 1 none (bls (aL bs)),ai 17,ai 15] H=some (.tup [.c (.int .u64 (aq bs 17 15:Nat)),ai 32,ai 0],H):=gR 17 15 17 15 rfl rfl (by omega) (by omega)
   have w17:IntKind.i64.wrap (aq bs 17 15:Nat)=(aq bs 17 15:Nat):=by
    have:=dG (bs:=bs) (a:=17) (n:=15) (k:=16) (by omega) (by omega)
    exact ag (by omega) (by omega)
   rw [lf rfl];simp -implicitDefEqProofs [-ac,-AV.one,-ad,wC,aX,aO,bd,aP,aZ,SOpG.reads,SOp.slots,SX.slots,SOp.noL,rdV,aI,aW,aR,eqV,nl,ly,lz,o10,q1,q2,q5,q6,q7,g3,w3,g6,w6,e56,e67,e68,e1617,hOk,dV,bu,cM,hP,hO,hM,db,hFI,hSN,fg,n6,n7,n16,qz,q16,g17,w17]
  | false =>
   rw [lf rfl];simp -implicitDefEqProofs [-ac,-AV.one,-ad,wC,aX,aO,bd,aP,aZ,SOpG.reads,SOp.slots,SX.slots,SOp.noL,rdV,aI,aW,aR,eqV,nl,ly,lz,o10,q1,q2,q5,q6,q7,g3,w3,g6,w6,e56,e67,e68,e1617,hOk,dV,bu,cM,hP,hO,hM,db,hFI,hSN,fg,n6,n7,qz]
 ·have o16:∀ H,callW P lD [ai 16] H=some (.tup [ai 15,ai 16],H):=fun H=>pT 16 H
  have hl3:3≤bs.length:=by
   rw [hlen]
   simp
  have g8:∀ H,callW P fm [lst zx 1 none (bls (aL bs)),ai 8,ai 16] H=some (.tup [.c (.int .u64 (aq bs 8 16:Nat)),ai 24,ai 0],H):=gR 8 16 8 16 rfl rfl (by omega) (by omega)
  have w8:IntKind.i64.wrap (aq bs 8 16:Nat)=(aq bs 8 16:Nat):=by
   have:=dG (bs:=bs) (a:=8) (n:=16) (k:=16) (by omega) (by omega)
   exact ag (by omega) (by omega)
  cases b1 with
  | true =>
   rw [hP] at hlen
   simp at hlen
   have g24:∀ H,callW P fm [lst zx 1 none (bls (aL bs)),ai 24,ai 16] H=some (.tup [.c (.int .u64 (aq bs 24 16:Nat)),ai 40,ai 0],H):=gR 24 16 24 16 rfl rfl (by omega) (by omega)
   have w24:IntKind.i64.wrap (aq bs 24 16:Nat)=(aq bs 24 16:Nat):=by
    have:=dG (bs:=bs) (a:=24) (n:=16) (k:=16) (by omega) (by omega)
    exact ag (by omega) (by omega)
   cases b7<;>cases b6<;>(rw [lf rfl];simp -implicitDefEqProofs [-ac,-AV.one,-ad,wC,aX,aO,bd,aP,aZ,SOpG.reads,SOp.slots,SX.slots,SOp.noL,rdV,aI,aW,aR,eqV,nl,ly,lz,o16,q1,q2,q5,q6,q7,g3,w3,g8,w8,e56,e67,e68,e1617,hOk,dV,bu,cM,hP,hO,hM,db,hFI,hSN,fg,n6,n7,qz,g24,w24])
  | false =>
   cases b7<;>cases b6<;>(rw [lf rfl];simp -implicitDefEqProofs [-ac,-AV.one,-ad,wC,aX,aO,bd,aP,aZ,SOpG.reads,SOp.slots,SX.slots,SOp.noL,rdV,aI,aW,aR,eqV,nl,ly,lz,o16,q1,q2,q5,q6,q7,g3,w3,g8,w8,e56,e67,e68,e1617,hOk,dV,bu,cM,hP,hO,hM,db,hFI,hSN,fg,n6,n7,qz])
end
section
variable {H:ae}
def adh (H:ae) (b:Bs) (l:List Nat) (n lw:Nat) (Q:List AV) (z:Nat) (σ:List AV) (G:ae):Prop:=
 ∃ i:Nat,i+z=l.length∧(∀ j m,j<i→l[j]?=some m→m≤2047)∧G=H ∧
  σ=L 109 (((((((((Tr.full 7).put (ah 0) (bv b)).put (ah 4) (.lbox cM)).put (ah 6) (ai n)).put (ah 7) (.lbox Q)).put (ah 8) (ab true)).put (ah 10) (ai lw)).put (ah 12) (lst true 1 none (nvs l))).put (ah 15) (ai i))
def LG (H:ae) (b:Bs) (l:List Nat) (n lw:Nat) (Q:List AV) (e:AExit) (σ:List AV) (G:ae):Prop:=
 G=H∧((e=.exit 0∧(l.any fun n=>decide (2047<n))=false∧kill [12,15,66,80,81,82,83] σ=L 109 (((((((Tr.full 7).put (ah 0) (bv b)).put (ah 4) (.lbox cM)).put (ah 6) (ai n)).put (ah 7) (.lbox Q)).put (ah 8) (ab true)).put (ah 10) (ai lw)))
  ∨ (e=.ret∧(l.any fun n=>decide (2047<n))=true∧aN F_q19.res σ=some (.tup [.agg cM,ai 3])))
theorem OO {b:Bs} {l:List Nat} (hll:l.length≤100000) (n lw:Nat) (Q:List AV) (z:Nat) (σ:List AV) (G:ae) (hI:adh H b l n lw Q z (kill (bK kR) σ) G) :
  Ends (execW P nE (.loop kR) σ G) fun s=>LG H b l n lw Q s.e s.σ s.H:=by
 refine bq (fun z σ G=>adh H b l n lw Q z σ G) (LG H b l n lw Q) ?_ z σ G hI
 clear hI z σ G
 rintro z σ G ⟨i,hz,hall,rfl,rfl⟩
 have hlen:(nvs l).length=l.length:=dC l
 by_cases hi:i<l.length
 ·have hi':(i:Int)<l.length:=by omega
  obtain ⟨m,hm⟩:∃ m,l[i]?=some m:=⟨_,zq6 hi⟩
  have q1:=qC hm true none .i64
  have w1:IntKind.i64.wrap ((i:Int)+1)=((i+1:Nat):Int):=by rw [ag (by omega) (by omega)];omega
  obtain ⟨i1,hi1⟩:=nm (i+1)
  rw [hi1] at w1
  by_cases h2:m > 2047
  ·have h2':(m:Int) > 2047:=by omega
   have h2'':(2047:Int)<m:=by omega
   have h2''':2047<m:=by omega
   simp -implicitDefEqProofs [-ac,-AV.one,-ad,iB,kR,hlen,hi,hi',q1,h2,h2',h2'',h2''',cM,bu]
   refine ⟨rfl,.inr ⟨rfl,?_,by simp [F_q19,cM,bu]⟩⟩
   exact List.any_eq_true.2 ⟨m,List.mem_of_getElem? hm,by simp;omega⟩
  ·have h2':¬ (m:Int) > 2047:=by omega
   have h2'':¬ (2047:Int)<m:=by omega
   have h2''':¬ 2047<m:=by omega
   simp -implicitDefEqProofs [-ac,-AV.one,-ad,iB,kR,hlen,hi,hi',q1,h2,h2',h2'',h2''',w1]
   refine ⟨z - 1,by omega,i1,by omega,fun j x hj hx=>?_,rfl,by simp⟩
   by_cases hji:j<i
   ·exact hall j x hji hx
   ·have:j=i:=by omega
    subst this
    rw [hm] at hx
    obtain rfl:=zq1 hx
    omega
 ·have hi':¬ (i:Int)<l.length:=by omega
  simp -implicitDefEqProofs [-ac,-AV.one,-ad,iB,kR,hlen,hi,hi']
  refine ⟨rfl,.inl ⟨rfl,?_,by simp⟩⟩
  refine List.any_eq_false.2 fun m hm=>?_
  obtain ⟨j,hj⟩:=List.getElem?_of_mem hm
  have hjl:=(List.getElem?_eq_some_iff.1 hj).1
  have:=hall j m (by omega) hj
  simp
  omega
def UL (H:ae) (bs:List Nat) (w:Int) (e:AExit) (σ:List AV) (G:ae):Prop:=
 e=.ret∧∃ (out:List Bs) (k:Nat),bb out=(ci bs w).2∧aN F_q19.res σ=some (cQ bs w (lst true 1 none (bvs out)))∧G=H++List.replicate k .other
set_option maxHeartbeats 2000000 in
theorem PI (b:Bs) (hb:b.2.length≤8192) (hby:bF b.2) (w:Int) (H:ae) :
  ∃ (out:List Bs) (k:Nat),bb out=(ci b.2 w).2∧callW P nE [bv b,ai w] H=some (cQ b.2 w (lst true 1 none (bvs out)),H++List.replicate k .other):=by
 suffices hs:Ends (callW P nE [bv b,ai w] H) fun y=>∃ (out:List Bs) (k:Nat),bb out=(ci b.2 w).2∧y=(cQ b.2 w (lst true 1 none (bvs out)),H++List.replicate k .other) by
  obtain ⟨y,h2,out,k,h3,rfl⟩:=hs
  exact ⟨out,k,h3,h2⟩
 refine call_post 7 109 rfl (rfl:P.T nE=some F_q19) rfl (aS rfl) (UL H b.2 w) ?_ ?_
 ·rintro e σ G ⟨rfl,out,k,h1,h2,rfl⟩
  have hfr:(cQ b.2 w (lst true 1 none (bvs out))).free=true:=by
   unfold cQ dV cM bu;split<;>simp
  have hfz:∀ n G,frz n G (cQ b.2 w (lst true 1 none (bvs out)))=some (cQ b.2 w (lst true 1 none (bvs out))):=fun n G=>by
   unfold cQ dV cM bu;split<;>simp
  have hno:lK (cQ b.2 w (lst true 1 none (bvs out)))=cQ b.2 w (lst true 1 none (bvs out)):=by
   unfold cQ dV cM bu;split<;>simp
  refine ⟨rfl,_,h2,hfr,?_⟩
  simp [hfz,hno]
  exact ⟨out,h1,rfl⟩
 have hhd:=fun p H=>AC p w H
 have hbl:=cL b
 by_cases hw:w=10∨w=16
 ·obtain ⟨wn,rfl,hwn⟩:∃ wn:Nat,w=wn∧(wn=10∨wn=16):=by
   rcases hw with rfl | rfl
   ·exact ⟨10,rfl,.inl rfl⟩
   ·exact ⟨16,rfl,.inr rfl⟩
  have htn:((wn:Nat):Int).toNat=wn:=by simp
  have h31:∃ h0:Nat,h0≠0∧bZ false (wn:Int)=h0:=⟨_,by rw [fE hwn];split<;>omega,rfl⟩
  obtain ⟨h0,hh0,hh1⟩:=h31
  have hhf:=fun H=>AC false wn H
  rw [hh1] at hhf
  have hh0':¬ (h0:Int)=0:=by omega
  by_cases hlong:4000<b.2.length
  ·have hlong':(b.2.length:Int) > 4000:=by omega
   have hlong'':(4000:Int)<b.2.length:=by omega
   have hR:ci b.2 wn=(2,[]):=by rw [ci,if_pos hw,if_pos hlong]
   rw [F_q19];simp -implicitDefEqProofs [-ac,-AV.one,-ad,iB,hhf,hh0,hh0',hbl,hlong,hlong',hlong'']
   exact ⟨rfl,[],0,by rw [hR];rfl,by rw [cQ,hR];simp [F_q19,cM,bu],by simp⟩
  ·have hlong':¬ (b.2.length:Int) > 4000:=by omega
   have hlong'':¬ (4000:Int)<b.2.length:=by omega
   by_cases hz0:b.2.length=0
   ·have hz0':(b.2.length:Int)=0:=by omega
    have hz0'':b.2=[]:=zq8 hz0
    have hR:ci b.2 wn=(8,[]):=by rw [ci,if_pos hw,if_neg hlong,if_pos hz0]
    rw [F_q19];simp -implicitDefEqProofs [-ac,-AV.one,-ad,iB,hhf,hh0,hh0',hbl,hlong,hlong',hlong'',hz0,hz0',hz0'']
    rw [← hz0'']
    exact ⟨rfl,[],0,by rw [hR];rfl,by rw [cQ,hR];simp [F_q19,cM,bu],by simp⟩
   ·have hz0':¬ (b.2.length:Int)=0:=by omega
    have hz0'':¬ b.2=[]:=fun h=>hz0 (by rw [h];rfl)
    obtain ⟨b0,hb0⟩:∃ x,b.2[0]?=some x:=⟨_,zq6 (by omega)⟩
    have hb256:=hby b0 (List.mem_of_getElem? hb0)
    have q1:cu 1 none (bv b) (.c (.int .i64 0))=some (.vp [au b0] 0):=pM hb0 .i64
    have n0:aq b.2 0 1=b0 / 128 % 2:=fM (a:=0) hb0
    have n1:aq b.2 1 1=b0 / 64 % 2:=fM (a:=1) hb0
    by_cases hz:aq b.2 0 1=0
    ·have hR:ci b.2 wn=(4,[]):=by rw [ci,if_pos hw,if_neg hlong,if_neg hz0,if_pos hz]
     have h128:(b0:Int)<128:=by omega
     have h128':b0<128:=by omega
     rw [F_q19];simp -implicitDefEqProofs [-ac,-AV.one,-ad,iB,hhf,hh0,hh0',hbl,hlong,hlong',hlong'',hz0,hz0',hz0'',q1,h128,h128']
     exact ⟨rfl,[],0,by rw [hR];rfl,by rw [cQ,hR];simp [F_q19,cM,bu],by simp⟩
    ·have h128:¬ (b0:Int)<128:=by omega
     have h128':¬ b0<128:=by omega
     have hpd:br b.2=decide (b0 / 64 % 2=1):=by rw [br,n1]
     have d1:IntKind.u8.wrap ((b0:Int).tdiv 64)=((b0 / 64:Nat):Int):=by
      rw [Int.tdiv_eq_ediv_of_nonneg (by omega)]
      have:(b0:Int) / 64=((b0 / 64:Nat):Int):=by omega
      rw [this];exact ar (by omega) (by omega)
     have d1':IntKind.u8.wrap ((b0:Int) / 64)=((b0 / 64:Nat):Int):=by
      have:(b0:Int) / 64=((b0 / 64:Nat):Int):=by omega
      rw [this];exact ar (by omega) (by omega)
     obtain ⟨q,hq⟩:=nm (b0 / 64)
     rw [hq] at d1 d1' hpd
     have d2:(q:Int).tmod 2=((q % 2:Nat):Int):=by rw [Int.tmod_eq_emod_of_nonneg (by omega)];omega
     have d2':(q:Int) % 2=((q % 2:Nat):Int):=by omega
     obtain ⟨u,hu⟩:=nm (q % 2)
     rw [hu] at d2 d2' hpd
     have hne:decide ((u:Int)=1)=br b.2:=by rw [hpd];exact decide_eq_decide.2 (by omega)
     have h28:=fun H=>AC (br b.2) wn H
     have hv:=fE (part:=br b.2) hwn
     obtain ⟨n,hn⟩:=nm (bZ (br b.2) wn)
     by_cases hs:b.2.length<bZ (br b.2) wn
     ·have hs':(b.2.length:Int)<(bZ (br b.2) wn:Nat):=by omega
      have hR:ci b.2 wn=(8,[]):=by rw [ci,if_pos hw,if_neg hlong,if_neg hz0,if_neg hz,if_pos hs]
      rw [hn] at hs hs' h28
      rw [F_q19];simp -implicitDefEqProofs [-ac,-AV.one,-ad,iB,hhf,hh0,hh0',hbl,hlong,hlong',hlong'',hz0,hz0',hz0'',q1,h128,h128',d1,d1',d2,d2',hne,h28,hs,hs']
      exact ⟨rfl,[],0,by rw [hR];rfl,by rw [cQ,hR];simp [F_q19,cM,bu],by simp⟩
     ·have hs':¬ (b.2.length:Int)<(bZ (br b.2) wn:Nat):=by omega
      obtain ⟨t1,t2,t3,t4⟩:=wL (bs:=b.2) hwn (by omega)
      have hR:ci b.2 wn=if hOk b.2 wn=true then restR b.2 wn else (3,[]):=by rw [ci,if_pos hw,if_neg hlong,if_neg hz0,if_neg hz,if_neg hs,htn]
      have hRR:restR b.2 wn=if dO b.2=true then (if (bc (b.2.drop n) (bG wn)).2=0 then bn ((b.2.drop n).drop (bj (bc (b.2.drop n) (bG wn)).1 (bG wn))) (bX (b.2.drop n) (bG wn) (bc (b.2.drop n) (bG wn)).1) else ((bc (b.2.drop n) (bG wn)).2,[])) else bn (b.2.drop n) []:=by
       rw [← hn];rfl
      have htk:=t1
      have t4:=t4 bz
      rw [hn] at t1 t2 t3 t4 h28 hs hs' hv
      have hl1:(b.2.take n).length=n:=by rw [List.length_take];omega
      have c1:=fun d=>An (b:=b) (j:=n) (by omega) .i64 d
      have hb2:=jO b n
      have r1:=fun H=>AD (dP b 0 n) (by rw [hb2];omega) (fun x hx=>hby x (by rw [hb2] at hx;exact List.mem_of_mem_take hx)) H
      have s1:=UK true (bs:=b.2.take n) hwn (by rw [hl1,t1,hn]) H
      rw [hb2] at r1
      rw [t2,t3,t4] at s1
      have hwd:=fun H=>pT wn H
      by_cases hok:hOk b.2 wn=true
      ·rw [if_pos hok] at hR
       rw [hok] at s1
       replace s1:callW P qY [lst true 1 none (bls (aL (b.2.take n))),ai wn] H=some (.tup [.agg (dV b.2 wn bz),ab (dO b.2),ab true],H++[.other]):=s1
       have dd1:=fun d=>fu (b:=b) (i:=n) (by omega) .i64 d
       obtain ⟨b',hb'⟩:=nm (dP b n b.2.length)
       have hb3:b'.2=b.2.drop n:=by rw [← hb',cZ]
       rw [hb'] at dd1
       rw [hRR,← hb3] at hR
       have hbl':b'.2.length≤8192:=by rw [hb3];simp;omega
       have hby':bF b'.2:=fun x hx=>hby x (by rw [hb3] at hx;exact List.mem_of_mem_drop hx)
       have hlw:bG wn=11∨bG wn=15:=by rcases hwn with rfl | rfl<;>simp [bG]
       obtain ⟨lw,hlwe⟩:=nm (bG wn)
       obtain ⟨ow,howe⟩:=nm (aV wn)
       rw [hlwe] at hlw hR hwd
       rw [howe] at hwd
       cases hmore:dO b.2 with
       | true =>
        rw [hmore] at s1
        rw [if_pos hmore] at hR
        have l1:=fun H=>Pn b' hbl' hby' hlw H
        by_cases he:(bc b'.2 lw).2=0
        ·rw [if_pos he] at hR
         have hok2:=f7 he
         have hres:dQ b'.2 lw none=.tup [lst true 1 none (nvs (bX b'.2 lw (bc b'.2 lw).1)),ai (bj (bc b'.2 lw).1 lw:Nat),ai 0]:=by rw [dQ,if_pos he]
         rw [hres] at l1
         have hcf:=rz (bs:=b'.2) (w:=lw)
         have hll:(bX b'.2 lw (bc b'.2 lw).1).length≤23:=by rw [cI];omega
         obtain ⟨ls,hls⟩:=nm (bX b'.2 lw (bc b'.2 lw).1)
         obtain ⟨sz,hsz⟩:=nm (bj (bc b'.2 lw).1 lw)
         rw [hls] at l1 hR hcf hll
         rw [hsz] at l1 hR hcf
         rw [F_q19];simp -implicitDefEqProofs [-ac,-AV.one,-ad,iB,hhf,hh0,hh0',hbl,hlong,hlong',hlong'',hz0,hz0',hz0'',q1,h128,h128',d1,d1',d2,d2',hne,h28,hs,hs',c1,r1,s1,dV,bu,hwd,dd1,l1]
         repeat rw [Option.bind_assoc]
         refine Ends.block (P:=LG (H++[.other]) b ls n lw (dV b.2 wn bz)) (OO (by omega) n lw _ ls.length _ _ ⟨0,by omega,fun j m hj=>by omega,rfl,by simp [kR,cM,bu,dV]⟩) ?_
         rintro e σ1 G1 ⟨rfl,⟨rfl,k1,k2⟩ | ⟨rfl,k1,k2⟩⟩
         ·obtain ⟨out,g0,g1⟩:=Oi b' hbl' hby' true hlw (H++[.other])
          rw [hcf k1 he] at g0 g1
          obtain ⟨ee,he4⟩:=nm ((bn (b'.2.drop sz) ls).1)
          rw [he4] at g1
          simp only [dV,bu,cM] at k2
          have gnil:ee≠0→bb ([]:List Bs)=(bn (b'.2.drop sz) ls).2:=fun h=>by
           have:(bn (b'.2.drop sz) ls).2=[]:=by
            have h9:=he4
            unfold bn at h9 ⊢
            split
            ·rfl
            ·rename_i hc
             rw [if_neg hc] at h9
             split at h9<;>simp_all
           rw [this];rfl
          by_cases hee:ee=0
          ·have hee':(ee:Int)=0:=by omega
           simp -implicitDefEqProofs [-ac,-AV.one,-ad,iB,k2,dd1,g1,hee,hee']
           exact ⟨rfl,out,1,by rw [hR];exact g0,by rw [cQ,hR,he4,if_pos hee,hee];simp [F_q19,dV,bu],by simp⟩
          ·have hee':¬ (ee:Int)=0:=by omega
           simp -implicitDefEqProofs [-ac,-AV.one,-ad,iB,k2,dd1,g1,hee,hee']
           exact ⟨rfl,[],1,by rw [hR];exact gnil hee,by rw [cQ,hR,he4,if_neg hee];simp [F_q19,cM,bu,bvs],by simp⟩
         ·have hR3:bn (b'.2.drop sz) ls=(3,[]):=by rw [bn,if_pos k1]
          rw [hR3] at hR
          simp -implicitDefEqProofs [-ac,-AV.one,-ad,iB]
          exact ⟨rfl,[],1,by rw [hR];rfl,by rw [cQ,hR];simpa [bvs] using k2,by simp⟩
        ·rw [if_neg he] at hR
         have hres:dQ b'.2 lw none=.tup [bz,ai 0,ai ((bc b'.2 lw).2:Nat)]:=by rw [dQ,if_neg he]
         rw [hres] at l1
         obtain ⟨ee,hee⟩:=nm ((bc b'.2 lw).2)
         rw [hee] at l1 hR he
         have he':¬ (ee:Int)=0:=by omega
         rw [F_q19];simp -implicitDefEqProofs [-ac,-AV.one,-ad,iB,hhf,hh0,hh0',hbl,hlong,hlong',hlong'',hz0,hz0',hz0'',q1,h128,h128',d1,d1',d2,d2',hne,h28,hs,hs',c1,r1,s1,dV,bu,hwd,dd1,l1,he,he']
         exact ⟨rfl,[],1,by rw [hR];rfl,by rw [cQ,hR];simp [F_q19,cM,bu,bvs,he],by simp⟩
       | false =>
        rw [hmore] at s1
        rw [if_neg (by rw [hmore];simp)] at hR
        obtain ⟨out,g0,g1⟩:=Oi b' hbl' hby' false hlw (H++[.other])
        rw [wN] at g0 g1
        obtain ⟨ee,he4⟩:=nm ((bn b'.2 []).1)
        rw [he4] at g1
        have gnil:ee≠0→bb ([]:List Bs)=(bn b'.2 []).2:=fun h=>by
         have:(bn b'.2 []).2=[]:=by
          have h9:=he4
          unfold bn at h9 ⊢
          split
          ·rfl
          ·rename_i hc
           rw [if_neg hc] at h9
           split at h9<;>simp_all
         rw [this];rfl
        by_cases hee:ee=0
        ·have hee':(ee:Int)=0:=by omega
         rw [F_q19];simp -implicitDefEqProofs [-ac,-AV.one,-ad,iB,hhf,hh0,hh0',hbl,hlong,hlong',hlong'',hz0,hz0',hz0'',q1,h128,h128',d1,d1',d2,d2',hne,h28,hs,hs',c1,r1,s1,dV,bu,hwd,dd1,g1,hee,hee']
         exact ⟨rfl,out,1,by rw [hR];exact g0,by rw [cQ,hR,he4,if_pos hee,hee];simp [F_q19,dV,bu],by simp⟩
        ·have hee':¬ (ee:Int)=0:=by omega
         rw [F_q19];simp -implicitDefEqProofs [-ac,-AV.one,-ad,iB,hhf,hh0,hh0',hbl,hlong,hlong',hlong'',hz0,hz0',hz0'',q1,h128,h128',d1,d1',d2,d2',hne,h28,hs,hs',c1,r1,s1,dV,bu,hwd,dd1,g1,hee,hee']
         exact ⟨rfl,[],1,by rw [hR];exact gnil hee,by rw [cQ,hR,he4,if_neg hee];simp [F_q19,cM,bu,bvs],by simp⟩
      ·rw [if_neg hok] at hR
       have hok':hOk b.2 wn=false:=by simpa using hok
       rw [hok'] at s1
       replace s1:callW P qY [lst true 1 none (bls (aL (b.2.take n))),ai wn] H=some (.tup [.agg cM,ab false,ab false],H++[.other]):=s1
       simp only [cM,bu] at s1
       rw [F_q19];simp -implicitDefEqProofs [-ac,-AV.one,-ad,iB,hhf,hh0,hh0',hbl,hlong,hlong',hlong'',hz0,hz0',hz0'',q1,h128,h128',d1,d1',d2,d2',hne,h28,hs,hs',c1,r1,s1]
       exact ⟨rfl,[],1,by rw [hR];rfl,by rw [cQ,hR];simp [F_q19,cM,bu,bvs],by simp⟩
 ·have hR:ci b.2 w=(9,[]):=by rw [ci,if_neg hw]
  have hh0:bZ false w=0:=by rw [bZ,if_neg hw]
  have hhf:∀ H,callW P pj [ab false,ai w] H=some (ai 0,H):=fun H=>by rw [hhd,hh0];rfl
  rw [F_q19];simp -implicitDefEqProofs [-ac,-AV.one,-ad,iB,hhf,hh0,hbl]
  exact ⟨rfl,[],0,by rw [hR];rfl,by rw [cQ,hR];simp [F_q19,cM,bu],by simp⟩
end
end Go.A.V.S
