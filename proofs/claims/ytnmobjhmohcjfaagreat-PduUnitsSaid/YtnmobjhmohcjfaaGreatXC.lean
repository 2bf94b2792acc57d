/- The plain law: a packet's bytes are read back. -/
import Derived.Test.YtnmobjhmohcjfaaGreatXB
import Derived.Test.YtnmobjhmohcjfaaGreatR3
set_option linter.unusedSimpArgs false
set_option linter.unusedVariables false
set_option linter.unnecessarySimpa false
namespace Go.A.V.S
open Go Go.A
theorem mz (v n:Nat):aD v (n+1)=aD (v / 2) n++[decide (v % 2=1)]:=by
 simp only [aD,List.range_succ,List.map_append,List.map_cons,List.map_nil]
 congr 1
 ·refine List.map_congr_left fun j hj=>?_
  rw [List.mem_range] at hj
  have e:v / 2 / 2 ^ (n - 1 - j)=v / 2 ^ (n+1 - 1 - j):=by
   rw [Nat.div_div_eq_div_mul]
   congr 1
   rw [show n+1 - 1 - j=(n - 1 - j)+1 by omega,Nat.pow_succ];omega
  rw [e]
 ·simp
theorem eC:∀ (n v:Nat),v<2 ^ n→num (aD v n)=v
 | 0,v,h=>by simp at h;subst h;rfl
 | n+1,v,h=>by
  rw [mz,iV,eC n (v / 2) (by rw [Nat.pow_succ] at h;omega)]
  rcases Nat.mod_two_eq_zero_or_one v with h0 | h1
  ·simp [h0];omega
  ·simp [h1];omega
theorem aN {bs:List Nat} {pre x post:List Bool} (h:ay bs=pre++x++post) {a n:Nat} (ha:pre.length=a) (hn:x.length=n):aj bs a n=num x:=by
 rw [aj,h,List.append_assoc,← ha,List.drop_left,← hn,List.take_left]
theorem iy {x:List Bool} {l:List Nat} (h:PackR x l) (h8:x.length % 8=0):ay l=x∧8 * l.length=x.length:=by
 have h1:=h.len
 have h2:8 * l.length=x.length:=by omega
 have h3:=h.eq
 rw [h2,Nat.sub_self,List.replicate_zero,List.append_nil] at h3
 exact ⟨h3,h2⟩
theorem kU (b:Bool):num [b]=b.toNat:=by cases b<;>rfl
theorem GD {p:Pk} {w:Nat} {hb:List Nat} (hok:okH p w) (hz:p.part=true∨(p.part=false∧p.last=false∧p.off=0)) (hp:PackR (dj p w) hb) (rest:List Nat) :
  hb.length=bN p.part w∧aj (hb++rest) 0 1=1∧aY (hb++rest)=p.part∧dC (hb++rest)=decide (1<p.ff.length)∧hOk (hb++rest) w=true∧∀ f,dJ (hb++rest) w f=aZ p.poll p.fi p.sn p.part p.last p.off f:=by
 obtain ⟨hw,hfi,hsn,hoff⟩:=hok
 obtain ⟨po,fi,sn,pa,la,off,z,ff⟩:=p
 simp only at hfi hsn hoff hz
 obtain ⟨fn,rfl⟩:∃ n:Nat,fi=n:=⟨fi.toNat,by omega⟩
 obtain ⟨sn',rfl⟩:∃ n:Nat,sn=n:=⟨sn.toNat,by omega⟩
 obtain ⟨on,rfl⟩:∃ n:Nat,off=n:=⟨off.toNat,by omega⟩
 have hsn2:sn'<2 ^ w:=by omega
 have hon2:on<2 ^ aI w:=by omega
 have lF:(aD fn 2).length=2:=aT _ _
 have vF:num (aD fn 2)=fn:=eC 2 fn (by simp;omega)
 obtain ⟨F,hF⟩:=nm (aD fn 2)
 rw [hF] at lF vF
 obtain ⟨mo,hmo⟩:=nm (decide (1<ff.length))
 obtain ⟨R,hR⟩:=nm (ay rest)
 rcases hw with rfl | rfl
 ·have lS:(aD sn' 10).length=10:=aT _ _
  have vS:=eC 10 sn' hsn2
  obtain ⟨S,hS⟩:=nm (aD sn' 10)
  rw [hS] at lS vS
  cases pa with
  | true =>
   have lO:(aD on 15).length=15:=aT _ _
   have vO:=eC 15 on (by simpa [aI] using hon2)
   obtain ⟨O,hO⟩:=nm (aD on 15)
   rw [hO] at lO vO
   have hx:dj ⟨po,fn,sn',true,la,on,z,ff⟩ 10=[true,true,po]++F++[mo]++S++[la]++O:=by simp [dj,hF,hS,hO,hmo,aI]
   rw [hx] at hp
   obtain ⟨e1,e2⟩:=iy hp (by simp [lF,lS,lO])
   have hB:ay (hb++rest)=[true,true,po]++F++[mo]++S++[la]++O++R:=by rw [fz,e1,hR]
   generalize hb++rest=bs at *
   have n0:aj bs 0 1=num [true]:=aN (pre:=[]) (post:=[true,po]++F++[mo]++S++[la]++O++R) (by rw [hB]<;>simp) rfl rfl
   have n1:aj bs 1 1=num [true]:=aN (pre:=[true]) (post:=[po]++F++[mo]++S++[la]++O++R) (by rw [hB]<;>simp) rfl rfl
   have n2:aj bs 2 1=num [po]:=aN (pre:=[true,true]) (post:=F++[mo]++S++[la]++O++R) (by rw [hB]<;>simp) rfl rfl
   have n3:aj bs 3 2=num F:=aN (pre:=[true,true,po]) (post:=[mo]++S++[la]++O++R) (by rw [hB]<;>simp) rfl lF
   have n5:aj bs 5 1=num [mo]:=aN (pre:=[true,true,po]++F) (post:=S++[la]++O++R) (by rw [hB]<;>simp) (by simp [lF]) rfl
   have n6:aj bs 6 10=num S:=aN (pre:=[true,true,po]++F++[mo]) (post:=[la]++O++R) (by rw [hB]<;>simp) (by simp [lF]) lS
   have n16:aj bs 16 1=num [la]:=aN (pre:=[true,true,po]++F++[mo]++S) (post:=O++R) (by rw [hB]<;>simp) (by simp [lF,lS]) rfl
   have n17:aj bs 17 15=num O:=aN (pre:=[true,true,po]++F++[mo]++S++[la]) (post:=R) (by rw [hB]) (by simp [lF,lS]) lO
   rw [kU] at n0 n1 n2 n5 n16
   rw [vF] at n3
   rw [vS] at n6
   rw [vO] at n17
   refine ⟨?_,n0,?_⟩
   ·simp [lF,lS,lO] at e2
    simp [bN]
    omega
   ·refine ⟨?_,?_,?_,fun f=>?_⟩<;>simp [aY,dC,hOk,dJ,aZ,dr,hFI,hSN,cN,eO,n1,n2,n3,n5,n6,n16,n17,qo,hmo]
  | false =>
   obtain ⟨rfl,h0⟩:la=false∧(on:Int)=0:=by simpa using hz
   have hon0:on=0:=by omega
   subst hon0
   have hx:dj ⟨po,fn,sn',false,false,(0:Nat),z,ff⟩ 10=[true]++[false]++[po]++F++[mo]++S:=by simp [dj,hF,hS,hmo,aI]
   rw [hx] at hp
   obtain ⟨e1,e2⟩:=iy hp (by simp [lF,lS])
   have hB:ay (hb++rest)=[true]++[false]++[po]++F++[mo]++S++R:=by rw [fz,e1,hR]
   generalize hb++rest=bs at *
   have n0:aj bs 0 1=num [true]:=aN (pre:=[]) (post:=[false]++[po]++F++[mo]++S++R) (by rw [hB]<;>simp) (by simp [lF,lS]) rfl
   have n1:aj bs 1 1=num [false]:=aN (pre:=[true]) (post:=[po]++F++[mo]++S++R) (by rw [hB]<;>simp) (by simp [lF,lS]) rfl
   have n2:aj bs 2 1=num [po]:=aN (pre:=[true]++[false]) (post:=F++[mo]++S++R) (by rw [hB]<;>simp) (by simp [lF,lS]) rfl
   have n3:aj bs 3 2=num F:=aN (pre:=[true]++[false]++[po]) (post:=[mo]++S++R) (by rw [hB]<;>simp) (by simp [lF,lS]) lF
   have n5:aj bs 5 1=num [mo]:=aN (pre:=[true]++[false]++[po]++F) (post:=S++R) (by rw [hB]<;>simp) (by simp [lF,lS]) rfl
   have n6:aj bs 6 10=num S:=aN (pre:=[true]++[false]++[po]++F++[mo]) (post:=R) (by rw [hB]<;>simp) (by simp [lF,lS]) lS
   rw [kU] at n0 n1 n2 n5
   rw [vF] at n3
   rw [vS] at n6
   refine ⟨?_,n0,?_⟩
   ·simp [lF,lS] at e2
    simp [bN]
    omega
   ·refine ⟨?_,?_,?_,fun f=>?_⟩<;>simp [aY,dC,hOk,dJ,aZ,dr,hFI,hSN,cN,eO,n1,n2,n3,n5,n6,qo,hmo]
 ·have lS:(aD sn' 16).length=16:=aT _ _
  have vS:=eC 16 sn' hsn2
  obtain ⟨S,hS⟩:=nm (aD sn' 16)
  rw [hS] at lS vS
  cases pa with
  | true =>
   have lO:(aD on 16).length=16:=aT _ _
   have vO:=eC 16 on (by simpa [aI] using hon2)
   obtain ⟨O,hO⟩:=nm (aD on 16)
   rw [hO] at lO vO
   have hx:dj ⟨po,fn,sn',true,la,on,z,ff⟩ 16=[true]++[true]++[po]++F++[mo]++[la]++[false]++S++O:=by simp [dj,hF,hS,hO,hmo,aI]
   rw [hx] at hp
   obtain ⟨e1,e2⟩:=iy hp (by simp [lF,lS,lO])
   have hB:ay (hb++rest)=[true]++[true]++[po]++F++[mo]++[la]++[false]++S++O++R:=by rw [fz,e1,hR]
   generalize hb++rest=bs at *
   have n0:aj bs 0 1=num [true]:=aN (pre:=[]) (post:=[true]++[po]++F++[mo]++[la]++[false]++S++O++R) (by rw [hB]<;>simp) (by simp [lF,lS]) rfl
   have n1:aj bs 1 1=num [true]:=aN (pre:=[true]) (post:=[po]++F++[mo]++[la]++[false]++S++O++R) (by rw [hB]<;>simp) (by simp [lF,lS]) rfl
   have n2:aj bs 2 1=num [po]:=aN (pre:=[true]++[true]) (post:=F++[mo]++[la]++[false]++S++O++R) (by rw [hB]<;>simp) (by simp [lF,lS]) rfl
   have n3:aj bs 3 2=num F:=aN (pre:=[true]++[true]++[po]) (post:=[mo]++[la]++[false]++S++O++R) (by rw [hB]<;>simp) (by simp [lF,lS]) lF
   have n5:aj bs 5 1=num [mo]:=aN (pre:=[true]++[true]++[po]++F) (post:=[la]++[false]++S++O++R) (by rw [hB]<;>simp) (by simp [lF,lS]) rfl
   have n6:aj bs 6 1=num [la]:=aN (pre:=[true]++[true]++[po]++F++[mo]) (post:=[false]++S++O++R) (by rw [hB]<;>simp) (by simp [lF,lS]) rfl
   have n7:aj bs 7 1=num [false]:=aN (pre:=[true]++[true]++[po]++F++[mo]++[la]) (post:=S++O++R) (by rw [hB]<;>simp) (by simp [lF,lS]) rfl
   have n8:aj bs 8 16=num S:=aN (pre:=[true]++[true]++[po]++F++[mo]++[la]++[false]) (post:=O++R) (by rw [hB]<;>simp) (by simp [lF,lS]) lS
   have n24:aj bs 24 16=num O:=aN (pre:=[true]++[true]++[po]++F++[mo]++[la]++[false]++S) (post:=R) (by rw [hB]<;>simp) (by simp [lF,lS]) lO
   rw [kU] at n0 n1 n2 n5 n6 n7
   rw [vF] at n3
   rw [vS] at n8
   rw [vO] at n24
   refine ⟨?_,n0,?_⟩
   ·simp [lF,lS,lO] at e2
    simp [bN]
    omega
   ·refine ⟨?_,?_,?_,fun f=>?_⟩<;>simp [aY,dC,hOk,dJ,aZ,dr,hFI,hSN,cN,eO,n1,n2,n3,n5,n6,n7,n8,n24,qo,hmo]
  | false =>
   obtain ⟨rfl,h0⟩:la=false∧(on:Int)=0:=by simpa using hz
   have hon0:on=0:=by omega
   subst hon0
   have hx:dj ⟨po,fn,sn',false,false,(0:Nat),z,ff⟩ 16=[true]++[false]++[po]++F++[mo]++[false]++[false]++S:=by simp [dj,hF,hS,hmo,aI]
   rw [hx] at hp
   obtain ⟨e1,e2⟩:=iy hp (by simp [lF,lS])
   have hB:ay (hb++rest)=[true]++[false]++[po]++F++[mo]++[false]++[false]++S++R:=by rw [fz,e1,hR]
   generalize hb++rest=bs at *
   have n0:aj bs 0 1=num [true]:=aN (pre:=[]) (post:=[false]++[po]++F++[mo]++[false]++[false]++S++R) (by rw [hB]<;>simp) (by simp [lF,lS]) rfl
   have n1:aj bs 1 1=num [false]:=aN (pre:=[true]) (post:=[po]++F++[mo]++[false]++[false]++S++R) (by rw [hB]<;>simp) (by simp [lF,lS]) rfl
   have n2:aj bs 2 1=num [po]:=aN (pre:=[true]++[false]) (post:=F++[mo]++[false]++[false]++S++R) (by rw [hB]<;>simp) (by simp [lF,lS]) rfl
   have n3:aj bs 3 2=num F:=aN (pre:=[true]++[false]++[po]) (post:=[mo]++[false]++[false]++S++R) (by rw [hB]<;>simp) (by simp [lF,lS]) lF
   have n5:aj bs 5 1=num [mo]:=aN (pre:=[true]++[false]++[po]++F) (post:=[false]++[false]++S++R) (by rw [hB]<;>simp) (by simp [lF,lS]) rfl
   have n6:aj bs 6 1=num [false]:=aN (pre:=[true]++[false]++[po]++F++[mo]) (post:=[false]++S++R) (by rw [hB]<;>simp) (by simp [lF,lS]) rfl
   have n7:aj bs 7 1=num [false]:=aN (pre:=[true]++[false]++[po]++F++[mo]++[false]) (post:=S++R) (by rw [hB]<;>simp) (by simp [lF,lS]) rfl
   have n8:aj bs 8 16=num S:=aN (pre:=[true]++[false]++[po]++F++[mo]++[false]++[false]) (post:=R) (by rw [hB]<;>simp) (by simp [lF,lS]) lS
   rw [kU] at n0 n1 n2 n5 n6 n7
   rw [vF] at n3
   rw [vS] at n8
   refine ⟨?_,n0,?_⟩
   ·simp [lF,lS] at e2
    simp [bN]
    omega
   ·refine ⟨?_,?_,?_,fun f=>?_⟩<;>simp [aY,dC,hOk,dJ,aZ,dr,hFI,hSN,cN,eO,n1,n2,n3,n5,n6,n7,n8,qo,hmo]
end Go.A.V.S
namespace Go.A.V.S
open Go Go.A
theorem Aj (w:Nat):∀ (l:List Nat) (k n:Nat),l[k]?=some n→∃ pre,pre.length=k * (w+1)∧bO w l=pre++[decide (k+1<l.length)]++(aD n w++bO w (l.drop (k+1)))
 | [],k,n,h=>by simp at h
 | a :: r,0,n,h=>by
  simp at h
  subst h
  refine ⟨[],by simp,?_⟩
  have:decide (0<r.length)=decide (0+1<(a :: r).length):=decide_eq_decide.2 (by simp)
  simp only [bO,this,List.nil_append,List.drop_succ_cons,List.drop_zero]
  rfl
 | a :: r,k+1,n,h=>by
  have h':r[k]?=some n:=by simpa using h
  obtain ⟨pre,h1,h2⟩:=Aj w r k n h'
  refine ⟨decide (0<r.length) :: (aD a w++pre),?_,?_⟩
  ·simp only [List.length_cons,List.length_append,aT,h1,Nat.add_mul];omega
  ·have:decide (k+1<r.length)=decide (k+1+1<(a :: r).length):=decide_eq_decide.2 (by simp)
   simp only [bO,h2,this,List.drop_succ_cons,List.cons_append,List.append_assoc]
section
variable {w:Nat} {l lb rest:List Nat}
theorem Ak (hp:PackR (bO w l) lb) (hv:∀ n∈l,n<2 ^ w) {k n:Nat} (hn:l[k]?=some n):kR (lb++rest) w k=n∧jC (lb++rest) w k=(decide (k+1<l.length)).toNat:=by
 obtain ⟨pre,h1,h2⟩:=Aj w l k n hn
 have h3:=hp.eq
 rw [h2] at h3
 obtain ⟨Z,hZ⟩:=nm (List.replicate (8 * lb.length - (pre++[decide (k+1<l.length)]++(aD n w++bO w (l.drop (k+1)))).length) false)
 rw [hZ] at h3
 have hB:ay (lb++rest)=pre++[decide (k+1<l.length)]++(aD n w++bO w (l.drop (k+1)))++Z++ay rest:=by rw [fz,h3]
 constructor
 ·rw [kR,aN (pre:=pre++[decide (k+1<l.length)]) (x:=aD n w) (post:=bO w (l.drop (k+1))++Z++ay rest) (by rw [hB];simp) (by simp [h1]) (aT _ _),eC w n (hv n (List.mem_of_getElem? hn))]
 ·have h4:=aN (n:=1) (pre:=pre) (x:=[decide (k+1<l.length)]) (post:=aD n w++bO w (l.drop (k+1))++Z++ay rest) (by rw [hB];simp) h1 rfl
  rw [jC,h4,kU]
theorem GE (hp:PackR (bO w l) lb):aj (lb++rest) (l.length * (w+1)) (bY (l.length * (w+1)))=0:=by
 have hl:=dw w l
 have h1:=hp.len
 rw [hl] at h1
 have h3:=hp.eq
 rw [hl] at h3
 have hpd:8 * lb.length - l.length * (w+1)=bY (l.length * (w+1)):=by simp only [bY];omega
 rw [hpd] at h3
 have hB:ay (lb++rest)=bO w l++List.replicate (bY (l.length * (w+1))) false++ay rest:=by rw [fz,h3]
 rw [aN hB hl (by simp)]
 generalize bY (l.length * (w+1))=p
 induction p with
 | zero=>rfl
 | succ p ih=>rw [List.replicate_succ',iV,ih];rfl
theorem CG (hp:PackR (bO w l) lb) (hv:∀ n∈l,n<2 ^ w):bL (lb++rest) w l.length=l:=by
 apply List.ext_getElem?
 intro k
 by_cases hk:k<l.length
 ·obtain ⟨n,hn⟩:∃ n,l[k]?=some n:=⟨_,zq6 hk⟩
  rw [hn,bL,List.getElem?_map,List.getElem?_range hk,Option.map_some,(Ak hp hv hn).1]
 ·rw [List.getElem?_eq_none (by rw [cu];omega),List.getElem?_eq_none (by omega)]
theorem Al (hp:PackR (bO w l) lb) (hv:∀ n∈l,1≤n∧n<2 ^ w) (hl:l.length≤23):∀ z,z≤23→23 - z<l.length→lr (lb++rest) w z=(l.length,0)
 | 0,_,h=>by omega
 | z+1,hz,h=>by
  have hk:22 - z<l.length:=by omega
  obtain ⟨n,hn⟩:∃ n,l[22 - z]?=some n:=⟨_,zq6 hk⟩
  obtain ⟨e1,e2⟩:=Ak (rest:=rest) hp (fun n hn=>(hv n hn).2) hn
  have h1:=hp.len
  rw [dw] at h1
  have h2:(22 - z+1) * (w+1)≤l.length * (w+1):=Nat.mul_le_mul_right _ hk
  have h3:(22 - z+1) * (w+1)=(22 - z) * (w+1)+(w+1):=by rw [Nat.add_mul];omega
  have hn1:=(hv n (List.mem_of_getElem? hn)).1
  rw [lr,if_neg (by rw [List.length_append];omega),e1,if_neg (by omega),e2]
  by_cases hm:22 - z+1<l.length
  ·rw [decide_eq_true hm,if_pos (by rfl)]
   exact Al hp hv hl z (by omega) (by omega)
  ·rw [decide_eq_false hm,if_neg (by simp)]
   have:22 - z+1=l.length:=by omega
   rw [this]
theorem Ej (hp:PackR (bO w l) lb) (hv:∀ n∈l,1≤n∧n<2 ^ w) (h1:1≤l.length) (hl:l.length≤23) (rest:List Nat) :
  aO (lb++rest) w=(l.length,0)∧bL (lb++rest) w l.length=l∧aS l.length w=lb.length:=by
 have hr:=Al (rest:=rest) hp hv hl 23 (by omega) (by omega)
 refine ⟨?_,CG hp (fun n hn=>(hv n hn).2),?_⟩
 ·rw [aO,hr]
  simp only [if_true]
  rw [if_pos (GE hp)]
 ·have h2:=hp.len
  rw [dw] at h2
  rw [aS,if_neg (by omega),h2]
end
end Go.A.V.S
namespace Go.A.V.S
open Go Go.A
theorem qs:∀ ff:List (List Nat),ff≠[]→(∀ f∈ff,f.length≠0)→eP ff.flatten ((ff.dropLast).map (·.length))=some ff
 | [],h,_=>(h rfl).elim
 | [f],_,h=>by
  have:f.length≠0:=h f (by simp)
  have hne:f≠[]:=fun e=>by subst e;simp at this
  simp [eP,hne]
 | f :: g :: r,_,h=>by
  have ih:=qs (g :: r) (by simp) (fun x hx=>h x (by simp [hx]))
  have e1:(f :: g :: r).dropLast=f :: (g :: r).dropLast:=rfl
  have e2:(f :: g :: r).flatten=f++(g :: r).flatten:=rfl
  rw [e1,e2,List.map_cons,eP,if_neg (by rw [List.length_append];omega),List.drop_left,List.take_left,ih]
  rfl
theorem rL (p:Pk):jN p=(bb p.ff).dropLast.map (·.length):=by
 rw [jN,List.dropLast_eq_take,br,bb,bb,List.map_take]
theorem GF {p:Pk} {w:Int} {out:List Nat} (h0:cO p w≠0) (h:WrB p w.toNat out) :
  bQ out w=(0,bb p.ff)∧out.length=cO p w∧∀ f,dJ out w.toNat f=aZ p.poll p.fi p.sn p.part p.last p.off f:=by
 obtain ⟨hok,hw,hf1,hf24,hsz,hpz⟩:=m4 h0
 obtain ⟨wn,rfl,hwn⟩:∃ wn:Nat,w=wn∧(wn=10∨wn=16):=by
  rcases hw with rfl | rfl
  ·exact ⟨10,rfl,.inl rfl⟩
  ·exact ⟨16,rfl,.inr rfl⟩
 have htn:((wn:Nat):Int).toNat=wn:=by simp
 rw [htn] at hok hsz h ⊢
 obtain ⟨s1,s2,s3,s4⟩:=fQ (bb p.ff) (gD p wn) (by rw [← hsz];exact h0)
 have hbne:bb p.ff≠[]:=fun e=>by have:=congrArg List.length e;rw [br] at this;simp at this;rw [this] at hf1;simp at hf1
 have hdl:=s3 hbne
 obtain ⟨hb,lb,hpk,hpl,rfl⟩:=h
 rw [List.append_assoc]
 obtain ⟨b1,b2,b3,b4,b5,b6⟩:=GD hok hpz hpk (lb++(bb p.ff).flatten)
 have hll:(jN p).length=p.ff.length - 1:=by rw [rL,List.length_map,List.length_dropLast,br]
 have hlw:bn wn=11∨bn wn=15:=by rcases hwn with rfl | rfl<;>simp [bn]
 have hlens:∀ n∈jN p,1≤n∧n≤2047:=fun n hn=>by
  rw [rL] at hn
  obtain ⟨b,hb1,rfl⟩:=List.mem_map.1 hn
  have h2:=s2 b hb1
  have h3:=s1 b (List.mem_of_mem_take (by rw [List.dropLast_eq_take] at hb1;exact hb1))
  omega
 have hlens2:∀ n∈jN p,1≤n∧n<2 ^ bn wn:=fun n hn=>by
  have h2:=hlens n hn
  have:2 ^ 11≤2 ^ bn wn:=Nat.pow_le_pow_right (by omega) (by omega)
  have:(2:Nat) ^ 11=2048:=by decide
  omega
 have hfl1:0<(bb p.ff).flatten.length:=by
  cases hbb:bb p.ff with
  | nil=>exact (hbne hbb).elim
  | cons f r =>
   have:=s1 f (by rw [hbb];simp)
   rw [List.flatten_cons,List.length_append];omega
 have hcut:=qs (bb p.ff) hbne s1
 rw [← rL] at hcut
 have hany:((jN p).any fun n=>decide (2047<n))=false:=by
  refine List.any_eq_false.2 fun n hn=>?_
  have:=(hlens n hn).2
  simp;omega
 have hfields:aV (bb p.ff).flatten (jN p)=(0,bb p.ff):=by rw [aV,if_neg (by rw [hany];simp),hcut]
 have hlb:lb.length=aS (p.ff.length - 1) (bn wn):=by
  by_cases h1:1≤(jN p).length
  ·rw [← hll];exact ((Ej hpl hlens2 h1 (by omega) []).2.2).symm
  ·have h2:=hpl.len
   rw [dw,show (jN p).length=0 by omega] at h2
   rw [aS,if_pos (by omega)]
   simp at h2;simp [h2]
 have hbase:gD p wn=hb.length+lb.length:=by rw [gD,b1,hlb]
 rw [hbase] at hdl s4
 refine ⟨?_,?_,b6⟩
 ·have hhv:bN p.part wn ≥ 2:=by rw [fm hwn];split<;>omega
  rw [bQ,if_pos hw,if_neg (by simp only [List.length_append];omega),if_neg (by simp only [List.length_append];omega),if_neg (by rw [b2];omega),b3,← b1,if_neg (by simp only [List.length_append];omega),htn,if_pos b5]
  have hd:(hb++(lb++(bb p.ff).flatten)).drop (bN (aY (hb++(lb++(bb p.ff).flatten))) wn)=lb++(bb p.ff).flatten:=by rw [b3,← b1,List.drop_left]
  rw [restR,restR.bs',hd,b4]
  by_cases h1:1<p.ff.length
  ·rw [decide_eq_true h1,if_pos rfl]
   obtain ⟨c1,c2,c3⟩:=Ej hpl hlens2 (by omega) (by omega) (bb p.ff).flatten
   rw [c1]
   simp only [if_true]
   rw [c2,c3,List.drop_left]
   exact hfields
  ·rw [decide_eq_false h1,if_neg (by simp)]
   have hl0:lb=[]:=zq8 (by rw [hlb,aS,if_pos (by omega)])
   have hL0:jN p=[]:=zq8 (by omega)
   rw [hl0,List.nil_append]
   rw [hL0] at hfields
   exact hfields
 ·rw [hsz,hbase,s4];simp only [List.length_append];omega
end Go.A.V.S
namespace Go.A.V.S
open Go Go.A
theorem uj:∀ (k:Nat) (x:List Bool),x.length=k→aD (num x) k=x
 | 0,x,h=>by
  have:x=[]:=zq8 h
  subst this;rfl
 | k+1,x,h=>by
  have hne:x≠[]:=fun e=>by subst e;simp at h
  obtain ⟨y,b,rfl⟩:∃ y b,x=y++[b]:=⟨_,_,(List.dropLast_concat_getLast hne).symm⟩
  have hl:y.length=k:=by simp at h;exact h
  rw [iV,mz]
  have ih:=uj k y hl
  cases b with
  | true =>
   rw [show (2 * num y+true.toNat) / 2=num y by simp;omega,ih]
   simp
  | false =>
   rw [show (2 * num y+false.toNat) / 2=num y by simp,ih]
   simp
def sl (bs:List Nat) (a n:Nat):List Bool:=((ay bs).drop a).take n
theorem bG (bs:List Nat) (a n m:Nat):sl bs a n++sl bs (a+n) m=sl bs a (n+m):=by
 rw [sl,sl,sl,List.take_add,← List.drop_drop]
theorem CH {bs:List Nat} {a n:Nat} (h:a+n≤8 * bs.length):(sl bs a n).length=n:=by
 rw [sl,List.length_take,List.length_drop,bC];omega
theorem dW {bs:List Nat} {a n:Nat} (h:a+n≤8 * bs.length):aD (aj bs a n) n=sl bs a n:=uj n _ (CH h)
theorem fF {bs:List Nat} {a:Nat} (h:a+1≤8 * bs.length):[decide (aj bs a 1=1)]=sl bs a 1:=by
 have h1:=dW h
 rw [← h1]
 have h2:=mY bs a
 have:aj bs a 1=0∨aj bs a 1=1:=by omega
 rcases this with e | e<;>rw [e]<;>rfl
theorem rM (bs:List Nat) (n:Nat):ay (bs.take n)=sl bs 0 (8 * n):=by
 rw [sl,List.drop_zero]
 have h:ay bs=ay (bs.take n)++ay (bs.drop n):=by rw [← fz,List.take_append_drop]
 by_cases hn:n≤bs.length
 ·have hl:(ay (bs.take n)).length=8 * n:=by rw [bC,List.length_take];omega
  rw [h,← hl,List.take_left]
 ·rw [List.take_of_length_le (by omega),List.take_of_length_le (by rw [bC];omega)]
theorem GG {bs:List Nat} {w:Nat} {q:Pk} (hw:w=10∨w=16) (hl:bN (aY bs) w≤bs.length) (h0:¬ aj bs 0 1=0) (hok:hOk bs w=true)
  (hq:q.poll=dr bs∧q.fi=(hFI bs:Nat)∧q.sn=(hSN bs w:Nat)∧q.part=aY bs∧q.last=cN bs w∧q.off=(eO bs w:Nat)) (hm:dC bs=decide (1<q.ff.length)) :
  dj q w=ay (bs.take (bN (aY bs) w)):=by
 obtain ⟨q1,q2,q3,q4,q5,q6⟩:=hq
 have hv:=fm (part:=aY bs) hw
 obtain ⟨n,hn⟩:=nm (bN (aY bs) w)
 rw [hn] at hv hl ⊢
 have hn2:2≤n:=by rw [hv];split<;>omega
 have n0:aj bs 0 1=1:=by have:=mY bs 0;omega
 have o0:=fF (bs:=bs) (a:=0) (by omega)
 have o1:=fF (bs:=bs) (a:=1) (by omega)
 have o2:=fF (bs:=bs) (a:=2) (by omega)
 have o3:=dW (bs:=bs) (a:=3) (n:=2) (by omega)
 have o5:=fF (bs:=bs) (a:=5) (by omega)
 rw [n0] at o0
 rw [rM]
 have hm':=hm.symm
 rw [dC] at hm'
 rcases hw with rfl | rfl
 ·by_cases hpp:aj bs 1 1=1
  ·have hP:aY bs=true:=by simp [aY,hpp]
   rw [hP] at hv
   have hn':n=4:=by rw [hv];simp
   subst hn'
   have o6:=dW (bs:=bs) (a:=6) (n:=10) (by omega)
   have o16:=fF (bs:=bs) (a:=16) (by omega)
   have o17:=dW (bs:=bs) (a:=17) (n:=15) (by omega)
   have j16:sl bs 16 1++sl bs 17 15=sl bs 16 16:=bG bs 16 1 15
   have j6:sl bs 6 10++sl bs 16 16=sl bs 6 26:=bG bs 6 10 16
   have j5:sl bs 5 1++sl bs 6 26=sl bs 5 27:=bG bs 5 1 26
   have j3:sl bs 3 2++sl bs 5 27=sl bs 3 29:=bG bs 3 2 27
   have j2:sl bs 2 1++sl bs 3 29=sl bs 2 30:=bG bs 2 1 29
   have j1:sl bs 1 1++sl bs 2 30=sl bs 1 31:=bG bs 1 1 30
   have j0:sl bs 0 1++sl bs 1 31=sl bs 0 32:=bG bs 0 1 31
   rw [show 8 * 4=32 from rfl,← j0,← j1,← j2,← j3,← j5,← j6,← j16]
   rw [← o0,← o1,← o2,← o3,← o5,← o6,← o16,← o17]
   simp [dj,q1,q2,q3,q4,q5,q6,hm',aY,dr,hFI,hSN,cN,eO,hpp,aI]
  ·have hP:aY bs=false:=by simp [aY,hpp]
   rw [hP] at hv
   have hn':n=2:=by rw [hv];simp
   subst hn'
   have o6:=dW (bs:=bs) (a:=6) (n:=10) (by omega)
   have j5:sl bs 5 1++sl bs 6 10=sl bs 5 11:=bG bs 5 1 10
   have j3:sl bs 3 2++sl bs 5 11=sl bs 3 13:=bG bs 3 2 11
   have j2:sl bs 2 1++sl bs 3 13=sl bs 2 14:=bG bs 2 1 13
   have j1:sl bs 1 1++sl bs 2 14=sl bs 1 15:=bG bs 1 1 14
   have j0:sl bs 0 1++sl bs 1 15=sl bs 0 16:=bG bs 0 1 15
   rw [show 8 * 2=16 from rfl,← j0,← j1,← j2,← j3,← j5]
   rw [← o0,← o1,← o2,← o3,← o5,← o6]
   simp [dj,q1,q2,q3,q4,q5,q6,hm',aY,dr,hFI,hSN,cN,eO,hpp,aI]
 ·by_cases hpp:aj bs 1 1=1
  ·have hP:aY bs=true:=by simp [aY,hpp]
   rw [hP] at hv
   have hn':n=5:=by rw [hv];simp
   subst hn'
   have o6:=fF (bs:=bs) (a:=6) (by omega)
   have o7:=fF (bs:=bs) (a:=7) (by omega)
   have o8:=dW (bs:=bs) (a:=8) (n:=16) (by omega)
   have o24:=dW (bs:=bs) (a:=24) (n:=16) (by omega)
   have j8:sl bs 8 16++sl bs 24 16=sl bs 8 32:=bG bs 8 16 16
   have j7:sl bs 7 1++sl bs 8 32=sl bs 7 33:=bG bs 7 1 32
   have j6:sl bs 6 1++sl bs 7 33=sl bs 6 34:=bG bs 6 1 33
   have j5:sl bs 5 1++sl bs 6 34=sl bs 5 35:=bG bs 5 1 34
   have j3:sl bs 3 2++sl bs 5 35=sl bs 3 37:=bG bs 3 2 35
   have j2:sl bs 2 1++sl bs 3 37=sl bs 2 38:=bG bs 2 1 37
   have j1:sl bs 1 1++sl bs 2 38=sl bs 1 39:=bG bs 1 1 38
   have j0:sl bs 0 1++sl bs 1 39=sl bs 0 40:=bG bs 0 1 39
   have n7:aj bs 7 1=0:=by simp [hOk] at hok;exact hok.1
   rw [n7] at o7
   rw [show 8 * 5=40 from rfl,← j0,← j1,← j2,← j3,← j5,← j6,← j7,← j8]
   rw [← o0,← o1,← o2,← o3,← o5,← o6,← o7,← o8,← o24]
   simp [dj,q1,q2,q3,q4,q5,q6,hm',aY,dr,hFI,hSN,cN,eO,hpp,aI]
  ·have hP:aY bs=false:=by simp [aY,hpp]
   rw [hP] at hv
   have hn':n=3:=by rw [hv];simp
   subst hn'
   have o6:=fF (bs:=bs) (a:=6) (by omega)
   have o7:=fF (bs:=bs) (a:=7) (by omega)
   have o8:=dW (bs:=bs) (a:=8) (n:=16) (by omega)
   have j7:sl bs 7 1++sl bs 8 16=sl bs 7 17:=bG bs 7 1 16
   have j6:sl bs 6 1++sl bs 7 17=sl bs 6 18:=bG bs 6 1 17
   have j5:sl bs 5 1++sl bs 6 18=sl bs 5 19:=bG bs 5 1 18
   have j3:sl bs 3 2++sl bs 5 19=sl bs 3 21:=bG bs 3 2 19
   have j2:sl bs 2 1++sl bs 3 21=sl bs 2 22:=bG bs 2 1 21
   have j1:sl bs 1 1++sl bs 2 22=sl bs 1 23:=bG bs 1 1 22
   have j0:sl bs 0 1++sl bs 1 23=sl bs 0 24:=bG bs 0 1 23
   have n7:aj bs 7 1=0:=by simp [hOk] at hok;exact hok.1
   rw [n7] at o7
   rw [show 8 * 3=24 from rfl,← j0,← j1,← j2,← j3,← j5,← j6,← j7]
   rw [← o0,← o1,← o2,← o3,← o5,← o6,← o7,← o8]
   simp [dj,q1,q2,q3,q4,q5,q6,hm',aY,dr,hFI,hSN,cN,eO,hpp,aI]
end Go.A.V.S
namespace Go.A.V.S
open Go Go.A
theorem Am {bs:List Nat} {w:Nat}:∀ (l:List Nat) (k:Nat),(∀ j n,l[j]?=some n→n=kR bs w (k+j)∧jC bs w (k+j)=(decide (j+1<l.length)).toNat)→(k+l.length) * (w+1)≤8 * bs.length→bO w l=sl bs (k * (w+1)) (l.length * (w+1))
 | [],k,_,_=>by simp [bO,sl]
 | n :: r,k,h,hle=>by
  obtain ⟨h1,h2⟩:=h 0 n rfl
  rw [Nat.add_zero] at h1 h2
  have hle2:(k+1+r.length) * (w+1)≤8 * bs.length:=by rw [List.length_cons] at hle;rw [show k+1+r.length=k+(r.length+1) by omega];exact hle
  have ih:=Am (bs:=bs) (w:=w) r (k+1) (fun j m hj=>by
   have:=h (j+1) m (by simpa using hj)
   rw [show k+1+j=k+(j+1) by omega]
   refine ⟨this.1,?_⟩
   rw [this.2]
   congr 1
   exact decide_eq_decide.2 (by simp)) hle2
  have hk:k * (w+1)+(w+1)+r.length * (w+1)≤8 * bs.length:=by
   have e:(k+1+r.length) * (w+1)=k * (w+1)+(w+1)+r.length * (w+1):=by rw [Nat.add_mul,Nat.add_mul];omega
   omega
  have a1:=dW (bs:=bs) (a:=k * (w+1)) (n:=1) (by omega)
  have a2:=dW (bs:=bs) (a:=k * (w+1)+1) (n:=w) (by omega)
  have h2':aj bs (k * (w+1)) 1=(decide (0+1<(n :: r).length)).toNat:=h2
  have hd:decide (0+1<(n :: r).length)=decide (0<r.length):=decide_eq_decide.2 (by simp)
  rw [h2',hd,ix] at a1
  have h1':aj bs (k * (w+1)+1) w=n:=h1.symm
  rw [h1'] at a2
  have e1:(k+1) * (w+1)=k * (w+1)+1+w:=by rw [Nat.add_mul];omega
  have e2:(n :: r).length * (w+1)=1+(w+r.length * (w+1)):=by rw [List.length_cons,Nat.add_mul];omega
  rw [e1] at ih
  have e3:=bG bs (k * (w+1)) 1 (w+r.length * (w+1))
  rw [bO,ih,a2,bG,e2,← e3,← a1]
  rfl
end Go.A.V.S
namespace Go.A.V.S
open Go Go.A
theorem Ek {bs:List Nat} {w c:Nat}:∀ z,z≤23→lr bs w z=(c,0)→∀ k,23 - z≤k→k<c→jC bs w k=(decide (k+1<c)).toNat∧kR bs w k≠0
 | 0,_,h,k,h1,h2=>by rw [lr] at h;simp at h
 | z+1,hz,h,k,h1,h2=>by
  have hgt:=t7 (bs:=bs) (w:=w) (z+1) hz (by rw [h])
  rw [h] at hgt
  simp only at hgt
  rw [lr] at h
  by_cases c1:8 * bs.length<(22 - z) * (w+1)+(w+1)
  ·rw [if_pos c1] at h;simp at h
  rw [if_neg c1] at h
  by_cases c2:kR bs w (22 - z)=0
  ·rw [if_pos c2] at h;simp at h
  rw [if_neg c2] at h
  by_cases c3:jC bs w (22 - z)=1
  ·rw [if_pos c3] at h
   have hgt2:=t7 (bs:=bs) (w:=w) z (by omega) (by rw [h])
   rw [h] at hgt2
   simp only at hgt2
   by_cases hk:k=22 - z
   ·subst hk
    refine ⟨?_,c2⟩
    rw [c3,decide_eq_true (by omega)];rfl
   ·exact Ek z (by omega) h k (by omega) h2
  ·rw [if_neg c3] at h
   simp only [zqp,and_true] at h
   have hk:k=22 - z:=by omega
   subst hk
   refine ⟨?_,c2⟩
   have:jC bs w (22 - z)<2:=mY _ _
   rw [decide_eq_false (by omega)]
   simp;omega
theorem wH {bs:List Nat} {w:Nat} (hby:bm bs) (h:(aO bs w).2=0):PackR (bO w (bL bs w (aO bs w).1)) (bs.take (aS (aO bs w).1 w))∧∀ n∈bL bs w (aO bs w).1,n≠0:=by
 obtain ⟨hc0,hc23,hle⟩:=fP h
 have hlr:lr bs w 23=((aO bs w).1,0)∧aj bs ((aO bs w).1 * (w+1)) (bY ((aO bs w).1 * (w+1)))=0:=by
  unfold aO at h ⊢
  by_cases h1:(lr bs w 23).2=0
  ·rw [if_pos h1] at h ⊢
   by_cases h2:aj bs ((lr bs w 23).1 * (w+1)) (bY ((lr bs w 23).1 * (w+1)))=0
   ·rw [if_pos h2]
    exact ⟨by rw [← h1],h2⟩
   ·rw [if_neg h2] at h;simp at h
  ·rw [if_neg h1] at h;exact (h1 h).elim
 obtain ⟨c,hc⟩:=nm ((aO bs w).1)
 rw [hc] at hlr hc0 hc23 hle ⊢
 obtain ⟨h1,h2⟩:=hlr
 have hm:=Ek 23 (by omega) h1
 have hb:=Am (bs:=bs) (w:=w) (bL bs w c) 0 (fun j n hj=>by
  have hjl:=(List.getElem?_eq_some_iff.1 hj).1
  rw [cu] at hjl
  rw [Nat.zero_add,cu]
  refine ⟨?_,(hm j (by omega) hjl).1⟩
  rw [bL,List.getElem?_map,List.getElem?_range hjl] at hj
  exact (zq1 hj).symm) (by rw [cu,Nat.zero_add];exact hle)
 rw [cu,Nat.zero_mul] at hb
 refine ⟨?_,fun n hn=>?_⟩
 ·have hs:8 * aS c w=c * (w+1)+bY (c * (w+1)):=by
   rw [aS,if_neg (by omega)];simp only [bY];omega
  have hpl:=jB hle
  have hq:aS c w=(c * (w+1)+7) / 8:=by rw [aS,if_neg (by omega)]
  have hz:sl bs (c * (w+1)) (bY (c * (w+1)))=List.replicate (bY (c * (w+1))) false:=by
   rw [← dW hpl,h2]
   generalize bY (c * (w+1))=m
   induction m with
   | zero=>rfl
   | succ m ih=>rw [mz,ih,List.replicate_succ'];rfl
  refine ⟨?_,fun b hb=>hby b (List.mem_of_mem_take hb),?_⟩
  ·rw [List.length_take,dw,cu];omega
  ·rw [rM,hs,hb]
   have e:=bG bs 0 (c * (w+1)) (bY (c * (w+1)))
   rw [← e,Nat.zero_add,hz]
   congr 2
   rw [CH (by omega),List.length_take];omega
 ·obtain ⟨k,hk,rfl⟩:=List.mem_map.1 hn
  rw [List.mem_range] at hk
  exact (hm k (by omega) hk).2
end Go.A.V.S
namespace Go.A.V.S
open Go Go.A
theorem pG:∀ (l bs:List Nat) (ff:List (List Nat)),eP bs l=some ff→ff.flatten=bs∧ff.dropLast.map (·.length)=l∧ff≠[]∧((∀ n∈l,n≠0)→∀ f∈ff,f.length≠0)
 | [],bs,ff,h=>by
  rw [eP] at h
  by_cases h0:bs.length=0
  ·rw [if_pos h0] at h;simp at h
  ·rw [if_neg h0] at h
   obtain rfl:=zq1 h
   refine ⟨by simp,rfl,by simp,fun _ f hf=>?_⟩
   simp at hf;subst hf;exact h0
 | n :: r,bs,ff,h=>by
  rw [eP] at h
  by_cases hc:bs.length<n
  ·rw [if_pos hc] at h;simp at h
  ·rw [if_neg hc] at h
   obtain ⟨gg,h1,rfl⟩:=zq2 h
   obtain ⟨e1,e2,e3,e4⟩:=pG r (bs.drop n) gg h1
   have hl:(bs.take n).length=n:=by rw [List.length_take];omega
   refine ⟨by rw [List.flatten_cons,e1,List.take_append_drop],?_,by simp,fun hn f hf=>?_⟩
   ·rw [List.dropLast_cons_of_ne_nil e3,List.map_cons,e2]
    simp only [hl]
   ·rcases List.mem_cons.1 hf with rfl | hf
    ·rw [hl];exact hn n (by simp)
    ·exact e4 (fun m hm=>hn m (by simp [hm])) f hf
end Go.A.V.S
namespace Go.A.V.S
open Go Go.A
theorem xU:∀ (ff:List (List Nat)) (n:Nat),(∀ f∈ff,f.length≠0)→(∀ f∈ff.dropLast,f.length≤2047)→n+ff.flatten.length≤4000→cQ n ff=n+ff.flatten.length
 | [],n,_,_,_=>by simp [cQ]
 | f :: r,n,h1,h2,h3=>by
  rw [List.flatten_cons,List.length_append] at h3 ⊢
  have c2:¬ (2047<f.length∧0<r.length):=fun ⟨a,b⟩=>by
   cases r with
   | nil=>simp at b
   | cons g s =>
    have:=h2 f (by simp)
    omega
  rw [cQ,if_neg (h1 f (by simp)),if_neg c2,if_neg (by omega),xU r (n+f.length) (fun x hx=>h1 x (by simp [hx])) (fun x hx=>h2 x (by
   cases r with
   | nil=>simp at hx
   | cons g s=>exact List.mem_cons_of_mem _ hx)) (by omega)]
  omega
end Go.A.V.S
namespace Go.A.V.S
open Go Go.A
theorem Kv {bs:List Nat} {w:Int} {ff:List (List Nat)} (h:bQ bs w=(0,ff)) :
  (w=10∨w=16)∧bs.length≤4000∧¬ aj bs 0 1=0∧bN (aY bs) w≤bs.length∧hOk bs w.toNat=true∧restR bs w.toNat=(0,ff):=by
 unfold bQ at h
 by_cases hw:w=10∨w=16
 ·rw [if_pos hw] at h
  by_cases c1:4000<bs.length
  ·rw [if_pos c1] at h;simp at h
  rw [if_neg c1] at h
  by_cases c2:bs.length=0
  ·rw [if_pos c2] at h;simp at h
  rw [if_neg c2] at h
  by_cases c3:aj bs 0 1=0
  ·rw [if_pos c3] at h;simp at h
  rw [if_neg c3] at h
  by_cases c4:bs.length<bN (aY bs) w
  ·rw [if_pos c4] at h;simp at h
  rw [if_neg c4] at h
  by_cases c5:hOk bs w.toNat=true
  ·rw [if_pos c5] at h
   exact ⟨hw,by omega,c3,by omega,c5,h⟩
  ·rw [if_neg c5] at h;simp at h
 ·rw [if_neg hw] at h;simp at h
theorem kV {bs l:List Nat} {ff:List (List Nat)} (h:aV bs l=(0,ff)):eP bs l=some ff∧∀ n∈l,n≤2047:=by
 unfold aV at h
 by_cases c:(l.any fun n=>decide (2047<n))=true
 ·rw [if_pos c] at h;simp at h
 ·rw [if_neg c] at h
  refine ⟨?_,fun n hn=>?_⟩
  ·cases hc:eP bs l with
   | none=>rw [hc] at h;simp at h
   | some gg=>rw [hc] at h;simp at h;rw [h]
  ·simp at c
   exact c n hn
end Go.A.V.S
namespace Go.A.V.S
open Go Go.A
theorem GH {bs:List Nat} (hby:bm bs) {w:Int} {q:Pk} (h:bQ bs w=(0,bb q.ff))
  (hq:q.poll=dr bs∧q.fi=(hFI bs:Nat)∧q.sn=(hSN bs w.toNat:Nat)∧q.part=aY bs∧q.last=cN bs w.toNat∧q.off=(eO bs w.toNat:Nat)) :
  cO q w=bs.length∧bs.length≠0∧WrB q w.toNat bs:=by
 obtain ⟨hw,hlen,hn0,hhd,hok,hrest⟩:=Kv h
 obtain ⟨wn,rfl,hwn⟩:∃ wn:Nat,w=wn∧(wn=10∨wn=16):=by
  rcases hw with rfl | rfl
  ·exact ⟨10,rfl,.inl rfl⟩
  ·exact ⟨16,rfl,.inr rfl⟩
 have htn:((wn:Nat):Int).toNat=wn:=by simp
 rw [htn] at hok hrest hq ⊢
 obtain ⟨n,hn⟩:=nm (bN (aY bs) (wn:Int))
 have key:∃ lb:List Nat,PackR (bO (bn wn) (jN q)) lb∧bs.drop n=lb++(bb q.ff).flatten∧(∀ f∈bb q.ff,f.length≠0)∧(∀ f∈(bb q.ff).dropLast,f.length≤2047)∧bb q.ff≠[]∧(bb q.ff).length≤24∧lb.length=aS (q.ff.length - 1) (bn wn)∧dC bs=decide (1<q.ff.length):=by
  have hlw:bn wn=11∨bn wn=15:=by rcases hwn with rfl | rfl<;>simp [bn]
  rw [restR,restR.bs',hn] at hrest
  have hby2:bm (bs.drop n):=fun x hx=>hby x (List.mem_of_mem_drop hx)
  rw [rL]
  obtain ⟨ds,hds⟩:=nm (bs.drop n)
  rw [hds] at hrest hby2 ⊢
  cases hm:dC bs with
  | true =>
   rw [if_pos hm] at hrest
   by_cases he:(aO ds (bn wn)).2=0
   ·rw [if_pos he] at hrest
    obtain ⟨f1,f2⟩:=kV hrest
    obtain ⟨p1,p2⟩:=wH hby2 he
    obtain ⟨c1,c2,c3,c4⟩:=pG _ _ _ f1
    obtain ⟨o1,o2,o3⟩:=fP he
    have hl:(bb q.ff).dropLast.length=(aO ds (bn wn)).1:=by
     have:=congrArg List.length c2
     rwa [List.length_map,cu] at this
    rw [List.length_dropLast,br] at hl
    refine ⟨ds.take (aS (aO ds (bn wn)).1 (bn wn)),by rw [c2];exact p1,by rw [c1,List.take_append_drop],c4 p2,fun f hf=>f2 _ (by rw [← c2];exact List.mem_map_of_mem hf),c3,by rw [br];omega,?_,by rw [decide_eq_true (by omega)]⟩
    rw [List.length_take,hl]
    have:aS (aO ds (bn wn)).1 (bn wn)=((aO ds (bn wn)).1 * (bn wn+1)+7) / 8:=by rw [aS,if_neg (by omega)]
    omega
   ·rw [if_neg he] at hrest
    simp only [zqp] at hrest
    exact (he hrest.1).elim
  | false =>
   rw [if_neg (by rw [hm];simp)] at hrest
   obtain ⟨f1,f2⟩:=kV hrest
   obtain ⟨c1,c2,c3,c4⟩:=pG _ _ _ f1
   have hl:(bb q.ff).dropLast.length=0:=by
    have:=congrArg List.length c2
    rwa [List.length_map] at this
   have hd0:(bb q.ff).dropLast=[]:=zq8 hl
   rw [List.length_dropLast,br] at hl
   refine ⟨[],by rw [c2];exact PackR.nil,by rw [c1];rfl,c4 (by simp),by rw [hd0];simp,c3,by rw [br];omega,by rw [hl,aS,if_pos (by omega)];rfl,by rw [decide_eq_false (by omega)]⟩
 obtain ⟨lb,k1,k2,k3,k4,k5,k6,k7,k8⟩:=key
 have hhb:=GG (q:=q) hwn hhd hn0 hok hq k8
 rw [hn] at hhb
 rw [hn] at hhd
 have hnl:(bs.take n).length=n:=by rw [List.length_take];omega
 have hbs:bs=bs.take n++lb++(bb q.ff).flatten:=by rw [List.append_assoc,← k2,List.take_append_drop]
 have hlen2:=congrArg List.length hbs
 simp only [List.length_append,hnl] at hlen2
 have hpk:PackR (dj q wn) (bs.take n):=by
  have hx:(dj q wn).length=8 * n:=by rw [hhb,bC,hnl]
  refine ⟨by rw [hx,hnl];omega,fun b hb=>hby b (List.mem_of_mem_take hb),by rw [hhb,hnl,bC,hnl,Nat.sub_self];simp⟩
 have hbase:gD q wn=n+lb.length:=by rw [gD,hq.2.2.2.1,hn,k7]
 have hsum:cQ (gD q wn) (bb q.ff)=bs.length:=by
  rw [xU _ _ k3 k4 (by rw [hbase];omega),hbase];omega
 have hn2:2≤n:=by rw [← hn,fm hwn];split<;>omega
 refine ⟨?_,by omega,⟨bs.take n,lb,hpk,k1,hbs⟩⟩
 obtain ⟨q1,q2,q3,q4,q5,q6⟩:=hq
 have hv:=fm (part:=aY bs) hwn
 rw [hn] at hv
 have b3:=bK (bs:=bs) (a:=3) (n:=2) (by omega)
 have hz:q.part=true∨(q.part=false∧q.last=false∧q.off=0):=by
  rw [q4,q5,q6]
  cases hp:aY bs with
  | true=>exact .inl rfl
  | false =>
   refine .inr ⟨rfl,?_,by simp [eO,hp]⟩
   rcases hwn with rfl | rfl
   ·simp [cN,hp]
   ·simp [hOk,hp] at hok;exact hok.2
 have hsn:hSN bs wn<2 ^ wn:=by
  rcases hwn with rfl | rfl
  ·exact bK (by simp at hv;split at hv<;>omega)
  ·exact bK (by simp at hv;split at hv<;>omega)
 have hoff:eO bs wn<2 ^ aI (wn:Int):=by
  unfold eO
  split
  ·rename_i hp
   rw [if_pos hp] at hv
   rcases hwn with rfl | rfl
   ·exact bK (by simp at hv;omega)
   ·exact bK (by simp at hv;omega)
  ·exact Nat.pow_pos (by omega)
 have hfi:hFI bs<4:=b3
 have hL:q.ff.length=(bb q.ff).length:=(br _).symm
 have hne:(bb q.ff).length≠0:=fun e=>k5 (zq8 e)
 rw [cO,if_neg (not_not_intro hw),if_neg (by omega),if_neg (by omega),if_neg (by rw [htn,q3];omega),if_neg (by rcases hz with h | ⟨_,h,_⟩<;>simp [h]),if_neg (by rcases hz with h | ⟨_,_,h⟩<;>simp [h]),if_neg (by omega),if_neg (by rw [q6];omega),if_neg (by omega),if_neg (by omega),htn,hsum]
end Go.A.V.S
namespace Go.A.V.S
open Go Go.A
theorem An {p:Pk} {w:Nat} {a b:List Nat} (ha:WrB p w a) (hb:WrB p w b):a=b:=by
 obtain ⟨a1,a2,x1,x2,rfl⟩:=ha
 obtain ⟨b1,b2,y1,y2,rfl⟩:=hb
 rw [x1.uniq y1,x2.uniq y2]
theorem GJ {p:Pk} {w:Nat} {a:List Nat} (ha:WrB p w a) (hf:dg p.ff):bm a:=by
 obtain ⟨a1,a2,x1,x2,rfl⟩:=ha
 intro b hb
 rcases List.mem_append.1 hb with hb | hb
 ·rcases List.mem_append.1 hb with hb | hb
  ·exact x1.byte b hb
  ·exact x2.byte b hb
 ·obtain ⟨f,hf1,hf2⟩:=List.mem_flatten.1 hb
  obtain ⟨c,hc,rfl⟩:=List.mem_map.1 hf1
  exact hf c hc b hf2
theorem nX:∀ {l:List (List Nat)} {f:List Nat},f∈l→f.length≤(l.map List.length).sum
 | a :: r,f,h=>by
  rw [List.map_cons,List.sum_cons]
  rcases List.mem_cons.1 h with rfl | h
  ·omega
  ·have:=nX h;omega
end Go.A.V.S
namespace Go.A.V.S
open Go Go.A Go.A.V
theorem ac1 {z:Int} (h:(Lit.int .u8 z).wf=true):∃ n:Nat,z=n∧n<256:=by
 simp only [Lit.wf,Bool.and_eq_true,decide_eq_true_eq] at h
 have h1:IntKind.u8.min=0:=by decide
 have h2:IntKind.u8.max=255:=by decide
 rw [h1,h2] at h
 exact ⟨z.toNat,by omega,by omega⟩
theorem Kz {cs:List AV} (h:V.CT.iss [.i .u8] cs):∃ n:Nat,n<256∧cs=[.c (.int .u8 (n:Nat))]:=by
 simp only [V.CT.iss,V.CT.is] at h
 obtain ⟨c,r,rfl,⟨z,rfl,hz⟩,rfl⟩:=h
 obtain ⟨n,rfl,hn⟩:=ac1 hz
 exact ⟨n,hn,rfl⟩
theorem uq:∀ (l:List (List AV)),(∀ cs∈l,V.CT.iss [.i .u8] cs)→∃ b:List Nat,l=ax b∧bm b
 | [],_=>⟨[],rfl,by simp [bm]⟩
 | x :: r,h=>by
  obtain ⟨n,hn,rfl⟩:=Kz (h x (by simp))
  obtain ⟨b,rfl,hb⟩:=uq r (fun cs hc=>h cs (by simp [hc]))
  exact ⟨n :: b,rfl,fun y hy=>by
   rcases List.mem_cons.1 hy with rfl | hy
   ·exact hn
   ·exact hb y hy⟩
theorem ur {c:AV} (h:V.CT.is (.sl [.i .u8]) c):∃ b:Bs,c=bv b∧bm b.2:=by
 simp only [V.CT.is] at h
 obtain ⟨z,l,rfl,hl⟩:=h
 obtain ⟨b,rfl,hb⟩:=uq l hl
 exact ⟨(z,b),rfl,hb⟩
theorem ro:∀ (l:List (List AV)),(∀ cs∈l,V.CT.iss [.sl [.i .u8]] cs)→∃ ff:List Bs,l=bvs ff∧dg ff
 | [],_=>⟨[],rfl,by simp [dg]⟩
 | x :: r,h=>by
  have h1:=h x (by simp)
  rw [V.CT.iss] at h1
  obtain ⟨c,q,rfl,h2,h3⟩:=h1
  rw [V.CT.iss] at h3
  subst h3
  obtain ⟨b,rfl,hb⟩:=ur h2
  obtain ⟨ff,rfl,hf⟩:=ro r (fun cs hc=>h cs (by simp [hc]))
  exact ⟨b :: ff,rfl,fun y hy=>by
   rcases List.mem_cons.1 hy with rfl | hy
   ·exact hb
   ·exact hf y hy⟩
theorem wJ {c:AV} (h:V.CT.is (.sl [.sl [.i .u8]]) c):∃ (z:Bool) (ff:List Bs),c=lst z 1 none (bvs ff)∧dg ff:=by
 rw [V.CT.is] at h
 obtain ⟨z,l,rfl,hl⟩:=h
 obtain ⟨ff,rfl,hf⟩:=ro l hl
 exact ⟨z,ff,rfl,hf⟩
theorem bM {t:V.CT} {ts:List V.CT} {cs:List AV} (h:V.CT.iss (t :: ts) cs):∃ c r,cs=c :: r∧t.is c∧V.CT.iss ts r:=by simpa only [V.CT.iss] using h
theorem xX {cs:List AV} (h:V.CT.iss [] cs):cs=[]:=by simpa only [V.CT.iss] using h
theorem kh {k:IntKind} {c:AV} (h:V.CT.is (.i k) c):∃ z,c=.c (.int k z)∧(Lit.int k z).wf=true:=by simpa only [V.CT.is] using h
theorem N5 {c:AV} (h:V.CT.is .b c):∃ z,c=ab z:=by simpa only [V.CT.is] using h
end Go.A.V.S
