/- THE ABSTRACT MACHINE: a call that is told of no memory, and tells of none, may be run in an empty heap. -/
import Derived.Test.YtnmobjhmohcjfaaGreatA19
set_option linter.unusedSimpArgs false
set_option linter.unusedVariables false
set_option linter.unnecessarySimpa false
namespace Go.A
open Go
variable {P:Program}
mutual
def AV.const:AV→Bool
 | .c _=>true
 | .agg xs=>AV.constAll xs
 | .tup xs=>AV.constAll xs
 | _=>false
def AV.constAll:List AV→Bool
 | []=>true
 | x :: r=>AV.const x && AV.constAll r
end
mutual
theorem Ie {g g':G} {H H':ae} {w w':World}:∀ (a:AV) (v:Value),a.const=true→VR g H w a v→VR g' H' w' a v
 | .c _,_,_,hv=>by simpa only [VR] using hv
 | .agg xs,v,hc,hv=>by
  simp only [VR] at hv ⊢
  obtain ⟨vs,e,hs⟩:=hv
  exact ⟨vs,e,qp xs _ (by simpa [AV.const] using hc) hs⟩
 | .tup xs,v,hc,hv=>by
  simp only [VR] at hv ⊢
  obtain ⟨vs,e,hs⟩:=hv
  exact ⟨vs,e,qp xs _ (by simpa [AV.const] using hc) hs⟩
 | .undef,_,hc,_=>by simp [AV.const] at hc
 | .ptr ..,_,hc,_=>by simp [AV.const] at hc
 | .sl ..,_,hc,_=>by simp [AV.const] at hc
 | .lbox _,_,hc,_=>by simp [AV.const] at hc
 | .lptr ..,_,hc,_=>by simp [AV.const] at hc
 | .fn ..,_,hc,_=>by simp [AV.const] at hc
 | .iface ..,_,hc,_=>by simp [AV.const] at hc
 | .map _,_,hc,_=>by simp [AV.const] at hc
 | .vs ..,_,hc,_=>by simp [AV.const] at hc
 | .vp ..,_,hc,_=>by simp [AV.const] at hc
theorem qp {g g':G} {H H':ae} {w w':World}:∀ (xs:List AV) (vs:List Value),AV.constAll xs=true→VRs g H w xs vs→VRs g' H' w' xs vs
 | [],_,_,hv=>by simpa only [VRs] using hv
 | x :: xs,vs,hc,hv=>by
  simp only [VRs] at hv ⊢
  simp only [AV.constAll,Bool.and_eq_true] at hc
  obtain ⟨v,r,e,h1,h2⟩:=hv
  exact ⟨v,r,e,Ie x v hc.1 h1,qp xs r hc.2 h2⟩
end
end Go.A
namespace Go.A
open Go
inductive Tr where
 | e
 | n (l:Tr) (v:AV) (r:Tr)
def Tr.get:Tr→List Bool→AV
 | .e,_=>.undef
 | .n _ v _,[]=>v
 | .n l _ _,false :: p=>l.get p
 | .n _ _ r,true :: p=>r.get p
def Tr.put:Tr→List Bool→AV→Tr
 | .e,[],v=>.n .e v .e
 | .e,false :: p,v=>.n (Tr.put .e p v) .undef .e
 | .e,true :: p,v=>.n .e .undef (Tr.put .e p v)
 | .n l _ r,[],v=>.n l v r
 | .n l x r,false :: p,v=>.n (l.put p v) x r
 | .n l x r,true :: p,v=>.n l x (r.put p v)
def Tr.map (f:AV→AV):Tr→Tr
 | .e=>.e
 | .n l v r=>.n (l.map f) (f v) (r.map f)
def Tr.full:Nat→Tr
 | 0=>.e
 | k+1=>.n (Tr.full k) .undef (Tr.full k)
def zn:Nat→Nat→List Bool
 | 0,_=>[]
 | k+1,m=>if m≤1 then [] else (m % 2 == 1) :: zn k (m / 2)
def ah (i:Nat):List Bool:=zn (i+2) (i+1)
theorem kP:∀ (t:Tr) (p q:List Bool) (v:AV),(t.put p v).get q=if p=q then v else t.get q
 | .e,[],[],v=>by simp [Tr.put,Tr.get]
 | .e,[],b :: q,v=>by cases b<;>simp [Tr.put,Tr.get]
 | .e,false :: p,[],v=>by simp [Tr.put,Tr.get]
 | .e,true :: p,[],v=>by simp [Tr.put,Tr.get]
 | .e,false :: p,false :: q,v=>by simp [Tr.put,Tr.get,kP .e p q v]
 | .e,false :: p,true :: q,v=>by simp [Tr.put,Tr.get]
 | .e,true :: p,false :: q,v=>by simp [Tr.put,Tr.get]
 | .e,true :: p,true :: q,v=>by simp [Tr.put,Tr.get,kP .e p q v]
 | .n l x r,[],[],v=>by simp [Tr.put,Tr.get]
 | .n l x r,[],b :: q,v=>by cases b<;>simp [Tr.put,Tr.get]
 | .n l x r,false :: p,[],v=>by simp [Tr.put,Tr.get]
 | .n l x r,true :: p,[],v=>by simp [Tr.put,Tr.get]
 | .n l x r,false :: p,false :: q,v=>by simp [Tr.put,Tr.get,kP l p q v]
 | .n l x r,false :: p,true :: q,v=>by simp [Tr.put,Tr.get]
 | .n l x r,true :: p,false :: q,v=>by simp [Tr.put,Tr.get]
 | .n l x r,true :: p,true :: q,v=>by simp [Tr.put,Tr.get,kP r p q v]
theorem rT (f:AV→AV) (h:f .undef=.undef):∀ (t:Tr) (p:List Bool),(t.map f).get p=f (t.get p)
 | .e,p=>by cases p<;>simp [Tr.map,Tr.get,h]
 | .n l v r,[]=>by simp [Tr.map,Tr.get]
 | .n l v r,false :: p=>by simp [Tr.map,Tr.get,rT f h l p]
 | .n l v r,true :: p=>by simp [Tr.map,Tr.get,rT f h r p]
theorem vH:∀ (k k' m m':Nat),m<k→m'<k'→0<m→0<m'→zn k m=zn k' m'→m=m'
 | 0,_,_,_,h,_,_,_,_=>by omega
 | _+1,0,_,_,_,h,_,_,_=>by omega
 | k+1,k'+1,m,m',h,h',hp,hp',he=>by
  simp only [zn] at he
  split at he<;>split at he
  ·omega
  ·simp at he
  ·simp at he
  ·simp only [List.cons.injEq] at he
   have:=vH k k' (m / 2) (m' / 2) (by omega) (by omega) (by omega) (by omega) he.2
   have h2:=he.1
   have e1:(m % 2 == 1)=(m' % 2 == 1):=h2
   have:m % 2=m' % 2:=by
    rcases Nat.mod_two_eq_zero_or_one m with a | a<;>rcases Nat.mod_two_eq_zero_or_one m' with b | b<;>simp [a,b] at e1 ⊢
   omega
theorem zo {i j:Nat} (h:ah i=ah j):i=j:=by
 have:=vH (i+2) (j+2) (i+1) (j+1) (by omega) (by omega) (by omega) (by omega) h
 omega
def L (n:Nat) (t:Tr):List AV:=(List.range n).map fun i=>t.get (ah i)
theorem bH (n:Nat) (t:Tr):(L n t).length=n:=by simp [L]
theorem oX (n:Nat) (t:Tr) (i:Nat):(L n t)[i]?=if i<n then some (t.get (ah i)) else none:=by
 simp only [L,List.getElem?_map,List.getElem?_range]
 split<;>simp_all
theorem qq (n:Nat) (t:Tr) (i:Nat):(L n t).getD i .undef=if i<n then t.get (ah i) else .undef:=by
 rw [List.getD_eq_getElem?_getD,oX]
 split<;>simp
theorem zp (n:Nat) (t:Tr) (i:Nat) (v:AV):(L n t).set i v=L n (t.put (ah i) v):=by
 apply List.ext_getElem?
 intro j
 rw [oX,List.getElem?_set,bH,oX,kP]
 by_cases e:i=j
 ·subst e;simp
 ·have:ah i≠ah j:=fun h=>e (zo h)
  simp [e,this]
theorem U7 (n:Nat) (t:Tr) (d:Nat):(L n t).map (ad d)=L n (t.map (ad d)):=by
 apply List.ext_getElem?
 intro j
 rw [List.getElem?_map,oX,oX,rT _ rfl]
 split<;>simp
def ev1 (i:Nat):AV→AV
 | .lbox _=>.lptr i 0
 | v=>v
theorem Mk (n:Nat) (t:Tr) (i:Nat):av (L n t) (.t i)=if i<n then ev1 i (t.get (ah i)) else .undef:=by
 simp only [av,qq]
 by_cases h:i<n
 ·simp only [h,if_true]
  cases t.get (ah i)<;>rfl
 ·simp only [h,if_false]
theorem Ml (σ:List AV) (v:AV):av σ (.k v)=v:=rfl
theorem PX (n:Nat) (t:Tr) (i:Nat) (v:AV):cW (L n t) (some i) v=L n (t.put (ah i) v):=zp n t i v
theorem FC (σ:List AV) (v:AV):cW σ none v=σ:=rfl
theorem oY:∀ (k:Nat) (p:List Bool),(Tr.full k).get p=.undef
 | 0,p=>by cases p<;>rfl
 | k+1,[]=>rfl
 | k+1,false :: p=>by simp [Tr.full,Tr.get,oY k p]
 | k+1,true :: p=>by simp [Tr.full,Tr.get,oY k p]
theorem FD (k:Nat) (v:AV):(Tr.full (k+1)).put [] v=.n (Tr.full k) v (Tr.full k):=rfl
theorem FE (k:Nat) (p:List Bool) (v:AV):(Tr.full (k+1)).put (false :: p) v=.n ((Tr.full k).put p v) .undef (Tr.full k):=rfl
theorem FF (k:Nat) (p:List Bool) (v:AV):(Tr.full (k+1)).put (true :: p) v=.n (Tr.full k) .undef ((Tr.full k).put p v):=rfl
theorem FG (k:Nat):Tr.n (Tr.full k) .undef (Tr.full k)=Tr.full (k+1):=rfl
theorem PY (l r:Tr) (x v:AV):(Tr.n l x r).put [] v=.n l v r:=rfl
theorem PZ (l r:Tr) (x v:AV) (p:List Bool):(Tr.n l x r).put (false :: p) v=.n (l.put p v) x r:=rfl
theorem P0 (l r:Tr) (x v:AV) (p:List Bool):(Tr.n l x r).put (true :: p) v=.n l x (r.put p v):=rfl
theorem P1 (l r:Tr) (x:AV):(Tr.n l x r).get []=x:=rfl
theorem P2 (l r:Tr) (x:AV) (p:List Bool):(Tr.n l x r).get (false :: p)=l.get p:=rfl
theorem P3 (l r:Tr) (x:AV) (p:List Bool):(Tr.n l x r).get (true :: p)=r.get p:=rfl
theorem zq (d:Nat):∀ k,(Tr.full k).map (ad d)=Tr.full k
 | 0=>rfl
 | k+1=>by simp [Tr.full,Tr.map,zq d k,ad]
theorem U8 (f:AV→AV) (l r:Tr) (v:AV):(Tr.n l v r).map f=.n (l.map f) (f v) (r.map f):=rfl
def mc:Nat→List AV→Tr→Tr
 | _,[],t=>t
 | i,v :: r,t=>mc (i+1) r (t.put (ah i) v)
theorem sZ:∀ (vs:List AV) (i:Nat) (t:Tr) (j:Nat),(mc i vs t).get (ah j)=if i≤j∧j<i+vs.length then vs.getD (j - i) .undef else t.get (ah j)
 | [],i,t,j=>by
  simp only [mc,List.length_nil]
  rw [if_neg (by omega)]
 | v :: r,i,t,j=>by
  simp only [mc,List.length_cons]
  rw [sZ r (i+1),kP]
  by_cases e:j=i
  ·subst e
   rw [if_neg (by omega),if_pos rfl,if_pos (by omega)]
   simp
  ·have:ah i≠ah j:=fun h=>e (zo h).symm
   rw [if_neg this]
   by_cases h:i+1≤j∧j<i+1+r.length
   ·rw [if_pos h,if_pos (by omega)]
    rw [show j - i=(j - (i+1))+1 by omega]
    simp
   ·rw [if_neg h,if_neg (by omega)]
theorem s5 (k n:Nat) (args:List AV) (h:args.length≤n):eK n args=L n (mc 0 args (Tr.full k)):=by
 apply List.ext_getElem?
 intro j
 rw [oX,sZ,oY]
 unfold eK
 by_cases e:j<args.length
 ·rw [List.getElem?_append_left e,if_pos (by omega),if_pos (by omega)]
  simp [e]
 ·rw [List.getElem?_append_right (by omega),List.getElem?_replicate,if_neg (by omega:¬ (0≤j∧j<0+args.length))]
  by_cases h2:j<n
  ·rw [if_pos (by omega),if_pos h2]
  ·rw [if_neg (by omega),if_neg h2]
theorem Mm (n:Nat) (t:Tr) (H:ae) (k:Option Nat) (d i:Nat):cN (L n t) H k (.lptr d i)=if d<n then (match t.get (ah d) with
  | .lbox xs=>bA k xs i
  | _=>none) else none:=by
 simp only [cN,qq]
 by_cases h:d<n
 ·simp only [h,if_true]
  split<;>simp_all
 ·simp only [h,if_false]
theorem FH (σ:List AV) (H:ae) (r i g:Nat):cN σ H none (.ptr r i g)=(bw H r i 1 g).bind fun l=>l[0]?:=rfl
theorem Bn (σ:List AV) (H:ae) (r i g k:Nat):cN σ H (some k) (.ptr r i g)=(bw H r i k g).map .agg:=rfl
theorem zr (σ:List AV):wanted σ none=some true:=rfl
theorem If (n:Nat) (t:Tr) (i:Nat) (b:Bool):wanted (L n t) (some (i,b))=if i<n then (match t.get (ah i) with
  | .c (.bool x)=>some (x == b)
  | .tup []=>some false
  | _=>none) else none:=by
 simp only [wanted,qq]
 by_cases h:i<n
 ·simp only [h,if_true]
  split<;>simp_all
 ·simp only [h,if_false]
theorem runOps_nil (C:aY) (σ:List AV) (H:ae):runOps C [] σ H=some (σ,H):=rfl
theorem FI {C:aY} {d:Option Nat} {op:SOp} {gd:Option (Nat × Bool)} {r:List SOpG} {σ:List AV} {H:ae} (h:wanted σ gd=some true):runOps C (⟨d,op,gd⟩ :: r) σ H=(opA C d op σ H).bind fun x=>runOps C r (cW x.2.1 d x.1) x.2.2:=by
 simp only [runOps,h]
theorem runOps_0 {C:aY} {d:Option Nat} {op:SOp} {r:List SOpG} {σ:List AV} {H:ae}:runOps C (⟨d,op,none⟩ :: r) σ H=(opA C d op σ H).bind fun x=>runOps C r (cW x.2.1 d x.1) x.2.2:=FI rfl
theorem Ig (σ:List AV):kill [] σ=σ:=rfl
theorem P4 (n:Nat) (t:Tr) (d:Nat) (r:List Nat):kill (d :: r) (L n t)=kill r (L n (t.put (ah d) .undef)):=by
 simp only [kill,zp]
end Go.A
namespace Go.A
theorem U9:ah 0=[]:=rfl
theorem Va:ah 1=[false]:=rfl
theorem Vb:ah 2=[true]:=rfl
theorem Vc:ah 3=[false,false]:=rfl
theorem Vd:ah 4=[true,false]:=rfl
theorem Ve:ah 5=[false,true]:=rfl
theorem Vf:ah 6=[true,true]:=rfl
theorem Vg:ah 7=[false,false,false]:=rfl
theorem Vh:ah 8=[true,false,false]:=rfl
theorem Vi:ah 9=[false,true,false]:=rfl
theorem P5:ah 10=[true,true,false]:=rfl
theorem P6:ah 11=[false,false,true]:=rfl
theorem P7:ah 12=[true,false,true]:=rfl
theorem P8:ah 13=[false,true,true]:=rfl
theorem P9:ah 14=[true,true,true]:=rfl
theorem Qa:ah 15=[false,false,false,false]:=rfl
theorem Qb:ah 16=[true,false,false,false]:=rfl
theorem Qc:ah 17=[false,true,false,false]:=rfl
theorem Qd:ah 18=[true,true,false,false]:=rfl
theorem Qe:ah 19=[false,false,true,false]:=rfl
theorem Qf:ah 20=[true,false,true,false]:=rfl
theorem Qg:ah 21=[false,true,true,false]:=rfl
theorem Qh:ah 22=[true,true,true,false]:=rfl
theorem Qi:ah 23=[false,false,false,true]:=rfl
theorem Qj:ah 24=[true,false,false,true]:=rfl
theorem Qk:ah 25=[false,true,false,true]:=rfl
theorem Ql:ah 26=[true,true,false,true]:=rfl
theorem Qm:ah 27=[false,false,true,true]:=rfl
theorem Qn:ah 28=[true,false,true,true]:=rfl
theorem Qo:ah 29=[false,true,true,true]:=rfl
theorem Qp:ah 30=[true,true,true,true]:=rfl
theorem Qq:ah 31=[false,false,false,false,false]:=rfl
theorem Qr:ah 32=[true,false,false,false,false]:=rfl
theorem Qs:ah 33=[false,true,false,false,false]:=rfl
theorem Qt:ah 34=[true,true,false,false,false]:=rfl
theorem Qu:ah 35=[false,false,true,false,false]:=rfl
theorem Qv:ah 36=[true,false,true,false,false]:=rfl
theorem Qw:ah 37=[false,true,true,false,false]:=rfl
theorem Qx:ah 38=[true,true,true,false,false]:=rfl
theorem Qy:ah 39=[false,false,false,true,false]:=rfl
theorem Qz:ah 40=[true,false,false,true,false]:=rfl
theorem QA:ah 41=[false,true,false,true,false]:=rfl
theorem QB:ah 42=[true,true,false,true,false]:=rfl
theorem QC:ah 43=[false,false,true,true,false]:=rfl
theorem QD:ah 44=[true,false,true,true,false]:=rfl
theorem QE:ah 45=[false,true,true,true,false]:=rfl
theorem QF:ah 46=[true,true,true,true,false]:=rfl
theorem QG:ah 47=[false,false,false,false,true]:=rfl
theorem QH:ah 48=[true,false,false,false,true]:=rfl
theorem QI:ah 49=[false,true,false,false,true]:=rfl
theorem QJ:ah 50=[true,true,false,false,true]:=rfl
theorem QK:ah 51=[false,false,true,false,true]:=rfl
theorem QL:ah 52=[true,false,true,false,true]:=rfl
theorem QM:ah 53=[false,true,true,false,true]:=rfl
theorem QN:ah 54=[true,true,true,false,true]:=rfl
theorem QO:ah 55=[false,false,false,true,true]:=rfl
theorem QP:ah 56=[true,false,false,true,true]:=rfl
theorem QQ:ah 57=[false,true,false,true,true]:=rfl
theorem QR:ah 58=[true,true,false,true,true]:=rfl
theorem QS:ah 59=[false,false,true,true,true]:=rfl
theorem QT:ah 60=[true,false,true,true,true]:=rfl
theorem QU:ah 61=[false,true,true,true,true]:=rfl
theorem QV:ah 62=[true,true,true,true,true]:=rfl
theorem QW:ah 63=[false,false,false,false,false,false]:=rfl
theorem QX:ah 64=[true,false,false,false,false,false]:=rfl
theorem QY:ah 65=[false,true,false,false,false,false]:=rfl
theorem QZ:ah 66=[true,true,false,false,false,false]:=rfl
theorem Q0:ah 67=[false,false,true,false,false,false]:=rfl
theorem Q1:ah 68=[true,false,true,false,false,false]:=rfl
theorem Q2:ah 69=[false,true,true,false,false,false]:=rfl
theorem Q3:ah 70=[true,true,true,false,false,false]:=rfl
theorem Q4:ah 71=[false,false,false,true,false,false]:=rfl
theorem Q5:ah 72=[true,false,false,true,false,false]:=rfl
theorem Q6:ah 73=[false,true,false,true,false,false]:=rfl
theorem Q7:ah 74=[true,true,false,true,false,false]:=rfl
theorem Q8:ah 75=[false,false,true,true,false,false]:=rfl
theorem Q9:ah 76=[true,false,true,true,false,false]:=rfl
theorem Ra:ah 77=[false,true,true,true,false,false]:=rfl
theorem Rb:ah 78=[true,true,true,true,false,false]:=rfl
theorem Rc:ah 79=[false,false,false,false,true,false]:=rfl
theorem Rd:ah 80=[true,false,false,false,true,false]:=rfl
theorem Re:ah 81=[false,true,false,false,true,false]:=rfl
theorem Rf:ah 82=[true,true,false,false,true,false]:=rfl
theorem Rg:ah 83=[false,false,true,false,true,false]:=rfl
theorem Rh:ah 84=[true,false,true,false,true,false]:=rfl
theorem Ri:ah 85=[false,true,true,false,true,false]:=rfl
theorem Rj:ah 86=[true,true,true,false,true,false]:=rfl
theorem Rk:ah 87=[false,false,false,true,true,false]:=rfl
theorem Rl:ah 88=[true,false,false,true,true,false]:=rfl
theorem Rm:ah 89=[false,true,false,true,true,false]:=rfl
theorem Rn:ah 90=[true,true,false,true,true,false]:=rfl
theorem Ro:ah 91=[false,false,true,true,true,false]:=rfl
theorem Rp:ah 92=[true,false,true,true,true,false]:=rfl
theorem Rq:ah 93=[false,true,true,true,true,false]:=rfl
theorem Rr:ah 94=[true,true,true,true,true,false]:=rfl
theorem Rs:ah 95=[false,false,false,false,false,true]:=rfl
theorem Rt:ah 96=[true,false,false,false,false,true]:=rfl
theorem Ru:ah 97=[false,true,false,false,false,true]:=rfl
theorem Rv:ah 98=[true,true,false,false,false,true]:=rfl
theorem Rw:ah 99=[false,false,true,false,false,true]:=rfl
theorem Mn:ah 100=[true,false,true,false,false,true]:=rfl
theorem Mo:ah 101=[false,true,true,false,false,true]:=rfl
theorem Mp:ah 102=[true,true,true,false,false,true]:=rfl
theorem Mq:ah 103=[false,false,false,true,false,true]:=rfl
theorem Mr:ah 104=[true,false,false,true,false,true]:=rfl
theorem Mt:ah 105=[false,true,false,true,false,true]:=rfl
theorem Mu:ah 106=[true,true,false,true,false,true]:=rfl
theorem Mv:ah 107=[false,false,true,true,false,true]:=rfl
theorem Mw:ah 108=[true,false,true,true,false,true]:=rfl
theorem Mx:ah 109=[false,true,true,true,false,true]:=rfl
theorem My:ah 110=[true,true,true,true,false,true]:=rfl
theorem Mz:ah 111=[false,false,false,false,true,true]:=rfl
theorem MA:ah 112=[true,false,false,false,true,true]:=rfl
theorem MB:ah 113=[false,true,false,false,true,true]:=rfl
theorem MC:ah 114=[true,true,false,false,true,true]:=rfl
theorem MD:ah 115=[false,false,true,false,true,true]:=rfl
theorem ME:ah 116=[true,false,true,false,true,true]:=rfl
theorem MF:ah 117=[false,true,true,false,true,true]:=rfl
theorem MG:ah 118=[true,true,true,false,true,true]:=rfl
theorem MH:ah 119=[false,false,false,true,true,true]:=rfl
theorem MI:ah 120=[true,false,false,true,true,true]:=rfl
theorem MJ:ah 121=[false,true,false,true,true,true]:=rfl
theorem MK:ah 122=[true,true,false,true,true,true]:=rfl
theorem ML:ah 123=[false,false,true,true,true,true]:=rfl
theorem MM:ah 124=[true,false,true,true,true,true]:=rfl
theorem MN:ah 125=[false,true,true,true,true,true]:=rfl
theorem MO:ah 126=[true,true,true,true,true,true]:=rfl
theorem MP:ah 127=[false,false,false,false,false,false,false]:=rfl
theorem MQ:ah 128=[true,false,false,false,false,false,false]:=rfl
theorem MR:ah 129=[false,true,false,false,false,false,false]:=rfl
theorem MS:ah 130=[true,true,false,false,false,false,false]:=rfl
theorem MT:ah 131=[false,false,true,false,false,false,false]:=rfl
theorem MU:ah 132=[true,false,true,false,false,false,false]:=rfl
theorem MV:ah 133=[false,true,true,false,false,false,false]:=rfl
theorem MW:ah 134=[true,true,true,false,false,false,false]:=rfl
theorem MX:ah 135=[false,false,false,true,false,false,false]:=rfl
theorem MY:ah 136=[true,false,false,true,false,false,false]:=rfl
attribute [simp] U9 Va Vb Vc Vd Ve Vf Vg Vh Vi P5 P6 P7 P8 P9 Qa Qb Qc Qd Qe Qf Qg Qh Qi Qj Qk Ql Qm Qn Qo Qp Qq Qr Qs Qt Qu Qv Qw Qx Qy Qz QA QB QC QD QE QF QG QH QI QJ QK QL QM QN QO QP QQ QR QS QT QU QV QW QX QY QZ Q0 Q1 Q2 Q3 Q4 Q5 Q6 Q7 Q8 Q9 Ra Rb Rc Rd Re Rf Rg Rh Ri Rj Rk Rl Rm Rn Ro Rp Rq Rr Rs Rt Ru Rv Rw Mn Mo Mp Mq Mr Mt Mu Mv Mw Mx My Mz MA MB MC MD ME MF MG MH MI MJ MK ML MM MN MO MP MQ MR MS MT MU MV MW MX MY
end Go.A
namespace Go.A
open Go
def Ends {α:Type} (o:Option α) (Q:α→Prop):Prop:=∃ y,o=some y∧Q y
theorem Ends.some {α:Type} {y:α} {Q:α→Prop}:Ends (some y) Q ↔ Q y:=⟨fun ⟨_,h,q⟩=>by obtain rfl:=zq1 h;exact q,fun q=>⟨y,rfl,q⟩⟩
theorem Ends.bind {α β:Type} {f:Option α} {K:α→Option β} {Q:α→Prop} {R:β→Prop} (h:Ends f Q) (k:∀ y,Q y→Ends (K y) R):Ends (f.bind K) R:=by
 obtain ⟨y,rfl,q⟩:=h
 exact k y q
theorem Ends.map {α β:Type} {f:Option α} {K:α→β} {Q:α→Prop} {R:β→Prop} (h:Ends f Q) (k:∀ y,Q y→R (K y)):Ends (f.map K) R:=by
 obtain ⟨y,rfl,q⟩:=h
 exact ⟨_,rfl,k y q⟩
theorem Ends.mono {α:Type} {f:Option α} {Q R:α→Prop} (h:Ends f Q) (k:∀ y,Q y→R y):Ends f R:=by
 obtain ⟨y,e,q⟩:=h
 exact ⟨y,e,k y q⟩
def bK:SCode→List Nat
 | .region ks _=>ks
 | .drawn ks _=>ks
 | .seq a _=>bK a
 | .block _ b=>bK b
 | .loop b=>bK b
 | .scope b _ _=>bK b
 | _=>[]
theorem qO:∀ (ks:List Nat) (σ:List AV),(kill ks σ).length=σ.length
 | [],_=>rfl
 | k :: ks,σ=>by rw [kill,qO ks];simp
theorem s6:∀ (ks:List Nat) (σ:List AV) (i:Nat),(kill ks σ)[i]?=if i∈ks∧i<σ.length then some .undef else σ[i]?
 | [],σ,i=>by simp [kill]
 | k :: ks,σ,i=>by
  rw [kill,s6 ks]
  simp only [List.length_set,List.mem_cons,List.getElem?_set]
  by_cases h1:i∈ks<;>by_cases h2:i<σ.length<;>by_cases h3:k=i<;>simp_all
  all_goals first
   | done
   | (intro h;exact absurd h.symm h3)
   | (simp [Ne.symm h3])
   | skip
theorem vI (ks:List Nat) (σ:List AV):kill ks (kill ks σ)=kill ks σ:=by
 apply List.ext_getElem?
 intro i
 rw [s6,qO,s6]
 split<;>rfl
section
variable {T:FuncId→Option bp} {X:aY}
end
end Go.A
namespace Go.A
open Go
abbrev ai (n:Int):AV:=.c (.int .i64 n)
abbrev ab (b:Bool):AV:=.c (.bool b)
abbrev bz:AV:=.c (.slice none 0 0)
section
variable (C:aY) (d:Option Nat) (σ:List AV) (H:ae)
def Ih (c a b:AV):Option AV:=match c with
 | .c (.bool true)=>some a
 | .c (.bool false)=>some b
 | _=>none
theorem MZ (c:Bool) (a b:AV):Ih (ab c) a b=some (if c=true then a else b):=by cases c<;>rfl
end
theorem ag {n:Int} (h1:-9223372036854775808≤n) (h2:n≤9223372036854775807):IntKind.i64.wrap n=n:=by
 simp [IntKind.wrap,IntKind.bits,IntKind.signed]
 split<;>omega
theorem M0 (v:Value):AV.isBox (.c v)=false:=rfl
theorem zt  : AV.isBox .undef=false:=rfl
theorem Ii (r o l c z g:Nat) (e:Bool):AV.isBox (.sl r o l c z g e)=false:=rfl
theorem FJ (r o g:Nat):AV.isBox (.ptr r o g)=false:=rfl
theorem Bo (d o:Nat):AV.isBox (.lptr d o)=false:=rfl
theorem FK (xs:List AV):AV.isBox (.agg xs)=false:=rfl
theorem FL (xs:List AV):AV.isBox (.tup xs)=false:=rfl
attribute [simp] M0 zt Ii FJ Bo FK FL
theorem Vj (i:Nat) (v:Value):ev1 i (.c v)=.c v:=rfl
theorem Rx (i r o l c z g:Nat) (e:Bool):ev1 i (.sl r o l c z g e)=.sl r o l c z g e:=rfl
theorem M3 (i r o g:Nat):ev1 i (.ptr r o g)=.ptr r o g:=rfl
theorem Ij (i d o:Nat):ev1 i (.lptr d o)=.lptr d o:=rfl
theorem Ik (i:Nat) (xs:List AV):ev1 i (.lbox xs)=.lptr i 0:=rfl
theorem M4 (i:Nat) (xs:List AV):ev1 i (.agg xs)=.agg xs:=rfl
theorem M5 (i:Nat) (xs:List AV):ev1 i (.tup xs)=.tup xs:=rfl
theorem Ry (i:Nat) (f:FuncId) (xs:List AV):ev1 i (.fn f xs)=.fn f xs:=rfl
attribute [simp] Vj Rx M3 Ij Ik M4 M5 Ry
section
variable (ek:EqK) (k:IntKind) (a b:Int)
theorem Il:cq .add ek (.c (.int k a)) (.c (.int k b))=some (.c (.int k (k.wrap (a+b)))):=by simp [cq,dK]
theorem Im:cq .sub ek (.c (.int k a)) (.c (.int k b))=some (.c (.int k (k.wrap (a - b)))):=by simp [cq,dK]
theorem In:cq .mul ek (.c (.int k a)) (.c (.int k b))=some (.c (.int k (k.wrap (a * b)))):=by simp [cq,dK]
theorem Io:cq .quo ek (.c (.int k a)) (.c (.int k b))=if b=0 then none else some (.c (.int k (k.wrap (a.tdiv b)))):=by simp [cq,dK]
theorem Ip:cq .rem ek (.c (.int k a)) (.c (.int k b))=if b=0 then none else some (.c (.int k (a.tmod b))):=by simp [cq,dK]
theorem cC:cq .and ek (.c (.int k a)) (.c (.int k b))=dK .and k a b:=by simp [cq]
theorem Iq:cq .eql ek (.c (.int k a)) (.c (.int k b))=some (ab (decide (a=b))):=by simp [cq,dK];rfl
theorem Ir:cq .neq ek (.c (.int k a)) (.c (.int k b))=some (ab (decide (a≠b))):=by
 simp only [cq,dK,if_true]
 by_cases h:a=b<;>simp [h]
theorem Is:cq .lss ek (.c (.int k a)) (.c (.int k b))=some (ab (decide (a<b))):=by simp [cq,dK]
theorem It:cq .leq ek (.c (.int k a)) (.c (.int k b))=some (ab (decide (a≤b))):=by simp [cq,dK]
theorem Iu:cq .gtr ek (.c (.int k a)) (.c (.int k b))=some (ab (decide (a > b))):=by simp [cq,dK]
theorem Iv:cq .geq ek (.c (.int k a)) (.c (.int k b))=some (ab (decide (a ≥ b))):=by simp [cq,dK]
theorem Iw (k':IntKind):cq .shl ek (.c (.int k a)) (.c (.int k' b))=if b<0 then none else some (.c (.int k (k.wrap (a * 2 ^ (Min.min b.toNat k.bits))))):=by simp [cq]
theorem Ix (k':IntKind):cq .shr ek (.c (.int k a)) (.c (.int k' b))=if b<0 then none else some (.c (.int k (a.fdiv (2 ^ (Min.min b.toNat k.bits))))):=by simp [cq]
theorem Iy (x y:Bool):cq .eql .bool (ab x) (ab y)=some (ab (x == y)):=by simp [cq,eqv]
theorem M6 (x:Bool):unA .not (ab x)=some (ab (!x)):=rfl
end
attribute [simp] Il Im In Io Ip cC Iq Ir Is It Iu Iv Iw Ix Iy M6
attribute [simp] execW_seq execW_region execW_ret execW_skip execW_label execW_exit execW_goto execW_block execW_cond execW_scope
attribute [simp] runOps_nil runOps_0 Ig P4 zr If Mk Ml PX FC Mm FH Bn andThen AExit.ends aN qa rS
attribute [simp] oY P1 P2 P3 PY PZ P0 FD FE FF zq U8 mc qq U7 FG ad
attribute [simp] MZ dK ac AV.one AV.free AV.freeAll bA
attribute [simp low] kP
attribute [simp] runD SOp.cls dz bK oX zp Ends.some
def qP (op:SOp) (d:Option Nat) (x:AV × List AV × ae):Option (List AV × ae):=if x.1.isBox=true∧op.cls≠.eff then none else some (cW x.2.1 d x.1,x.2.2)
theorem Iz (op:SOp) (d:Option Nat) (v:AV) (σ:List AV) (H:ae):qP op d (v,σ,H)=if v.isBox=true then (if op.cls≠.eff then none else some (cW σ d v,H)) else some (cW σ d v,H):=by
 unfold qP
 cases h:v.isBox
 ·rw [if_neg (by simp),if_neg (by simp)]
 ·by_cases hc:op.cls≠.eff
  ·rw [if_pos ⟨rfl,hc⟩,if_pos rfl,if_pos hc]
  ·rw [if_neg (fun q=>hc q.2),if_pos rfl,if_neg hc]
attribute [simp] Iz
theorem FM {α β:Type} {x y:Option α} (K:α→Option β) (h:x=y):x.bind K=y.bind K:=by rw [h]
theorem IA {α β:Type} {x y:Option α} (K:α→β) (h:x=y):x.map K=y.map K:=by rw [h]
theorem FN {α:Type} {x y:Option α} (Q:α→Prop) (h:x=y):Ends x Q=Ends y Q:=by rw [h]
attribute [congr] FM IA FN
end Go.A
namespace Go.A
open Go
theorem FO {H:ae} {r:Nat} {cs:List AV} (h:H[r]?=some (.row cs)) {i n:Nat} (hl:i+n≤cs.length):bw H r i n cs.length=some ((cs.drop i).take n):=by
 simp [bw,h,AObj.isRow,AObj.lo,AObj.cells,hl]
theorem vJ {H:ae} {r:Nat} {cs xs:List AV} (h:H[r]?=some (.row cs)) {i:Nat} (hl:i+xs.length≤cs.length) (hx:xs.all bB=true):dT H r i cs.length xs=some (H.set r (.row (cs.take i++xs++cs.drop (i+xs.length)))):=by
 simp only [dT,h,hl,hx,and_self,if_true]
theorem Bp (σ:List AV) (M:ae) {k:Nat} {zs vs:List AV} (h1:zs.length=k) (h2:vs.length=k) (h3:vs.all bB=true):bM σ (M++[.row zs]) (some k) (.ptr M.length 0 k) (.agg vs)=some (σ,M++[.row vs]):=by
 have hr:(M++[AObj.row zs])[M.length]?=some (.row zs):=by simp
 have hw:=vJ (xs:=vs) hr (i:=0) (by omega) h3
 simp only [bM,h2,if_true]
 rw [← h1,hw]
 simp [h1,h2]
end Go.A
namespace Go.A
open Go
theorem wr1 {H:ae} {r:Nat} {cs:List AV} (h:H[r]?=some (.row cs)) {i:Nat} {v:AV} (hi:i<cs.length) (hv:bB v=true):dT H r i cs.length [v]=some (H.set r (.row (cs.set i v))):=by
 rw [vJ h (by simp;omega) (by simp [hv])]
 congr 3
 rw [List.set_eq_take_append_cons_drop,if_pos hi]
 simp
theorem M7 (H:ae) (x y:AObj):(H++[x]).set H.length y=H++[y]:=by
 rw [List.set_append_right _ _ (Nat.le_refl _)]
 simp
theorem DT (H:ae) (x:AObj):(H++[x])[H.length]?=some x:=by simp
theorem Bq (σ:List AV) {H:ae} {r:Nat} {cs:List AV} (h:H[r]?=some (.row cs)) {i:Nat} {v:AV} (hi:i<cs.length) (hv:bB v=true):bM σ H none (.ptr r i cs.length) v=some (σ,H.set r (.row (cs.set i v))):=by
 simp only [bM,wr1 h hi hv,Option.map_some]
end Go.A
namespace Go.A
open Go
theorem xD (cs:List AV):cJ cs []=some cs:=rfl
theorem uS (cs:List AV) (off k:Nat) (v:AV) (r:List (Nat × Nat × AV)):cJ cs ((off,k,v) :: r)=if (ac v).length=k∧off+k≤cs.length∧(ac v).all bB=true then cJ (cs.take off++ac v++cs.drop (off+k)) r else none:=rfl
theorem IB (n:Nat) (t:Tr) (H:ae) (k d i:Nat) (vs:List AV):bM (L n t) H (some k) (.lptr d i) (.agg vs)=if d<n then (match t.get (ah d) with
  | .lbox xs=>if AV.freeAll vs=true then (if vs.all bB=true then (if vs.length=k∧i+k≤xs.length then some (L n (t.put (ah d) (.lbox (xs.take i++vs++xs.drop (i+k)))),H) else none) else none) else none
  | _=>none) else none:=by
 simp only [bM,qq]
 by_cases h:d<n
 ·simp only [h,if_true,AV.free]
  cases t.get (ah d)<;>simp only []
  rename_i xs
  by_cases h1:AV.freeAll vs=true
  ·simp only [h1,if_true]
   by_cases h2:vs.all bB=true
   ·simp only [h2,if_true,fy]
    by_cases h3:vs.length=k∧i+k≤xs.length
    ·simp only [h3,and_self,if_true,Option.map_some,zp]
    ·simp only [h3,if_false,Option.map_none]
   ·simp only [h2,if_false];rfl
  ·simp only [h1,if_false];rfl
 ·simp only [h,if_false]
theorem FP (n:Nat) (t:Tr) (H:ae) (d i:Nat) (v:AV):bM (L n t) H none (.lptr d i) v=if d<n then (match t.get (ah d) with
  | .lbox xs=>if v.free=true then (if v.one=true then (if i<xs.length then some (L n (t.put (ah d) (.lbox (xs.set i v))),H) else none) else none) else none
  | _=>none) else none:=by
 simp only [bM,qq]
 by_cases h:d<n
 ·simp only [h,if_true]
  cases t.get (ah d)<;>simp only []
  rename_i xs
  by_cases h1:v.free=true
  ·simp only [h1,if_true]
   by_cases h2:v.one=true
   ·simp only [h2,if_true]
    have:fy none xs i v=if i<xs.length then some (xs.set i v) else none:=by
     cases v<;>first | rfl | simp [AV.one] at h2
    rw [this]
    split<;>simp [zp]
   ·simp only [h2,if_false];rfl
  ·simp only [h1,if_false];rfl
 ·simp only [h,if_false]
theorem Rz {v:AV} (h:v.isBox=false) (n:Nat):ev1 n v=v:=by cases v<;>first | rfl | simp [AV.isBox] at h
attribute [simp] xD uS IB FP
def gz:Option Nat→List AV→AV
 | none,c :: _=>c
 | none,[]=>.undef
 | some _,cs=>.agg cs
end Go.A
namespace Go.A
open Go
section
variable (ks:List BK) (xs ys:List AV)
theorem iy:cq .eql (.agg ks) (.agg xs) (.agg ys)=if xs.length=ks.length∧ys.length=ks.length then (eF ks xs ys).map ab else none:=by
 simp only [cq,eqv]
 split<;>rfl
theorem me:cq .neq (.agg ks) (.agg xs) (.agg ys)=if xs.length=ks.length∧ys.length=ks.length then (eF ks xs ys).map fun b=>ab (!b) else none:=by
 simp only [cq,eqv]
 split<;>rfl
theorem gk:eF [] [] []=some true:=rfl
theorem fJ (a b:Int):eF (.i :: ks) (ai a :: xs) (ai b :: ys)=if a=b then eF ks xs ys else some false:=by
 simp only [eF,eT,if_true]
 by_cases h:a=b
 ·simp [h]
 ·rw [if_neg h,show (a == b)=false by simp [h]]
end
theorem s7:∀ (xs ys:List Int),xs.length=ys.length→eF (List.replicate xs.length .i) (xs.map ai) (ys.map ai)=some (decide (xs=ys))
 | [],[],_=>rfl
 | x :: xs,y :: ys,h=>by
  simp only [List.length_cons,List.replicate_succ,List.map_cons]
  rw [fJ,s7 xs ys (by simpa using h)]
  by_cases hx:x=y<;>simp [hx]
theorem IC:IntKind.i64.bits=64:=rfl
theorem ID:IntKind.u64.bits=64:=rfl
theorem M8:IntKind.u8.bits=8:=rfl
attribute [simp] IC ID M8
attribute [simp] iy me gk fJ
end Go.A
namespace Go.A
def SCode.sl:SCode→SCode
 | .seq a _=>a
 | s=>s
end Go.A
namespace Go.A
open Go
end Go.A
namespace Go.A
end Go.A
namespace Go.A
open Go
theorem aj {n:Int} (h1:0≤n) (h2:n≤18446744073709551615):IntKind.u64.wrap n=n:=by
 simp [IntKind.wrap,IntKind.bits,IntKind.signed]
 omega
theorem ar {n:Int} (h1:0≤n) (h2:n≤255):IntKind.u8.wrap n=n:=by
 simp [IntKind.wrap,IntKind.bits,IntKind.signed]
 omega
end Go.A
namespace Go.A
open Go
end Go.A
namespace Go.A
open Go
theorem IE (d:Nat) (v:Value):ad d (.c v)=.c v:=rfl
theorem xE (d:Nat):ad d .undef=.undef:=rfl
theorem Br (d r o g:Nat):ad d (.ptr r o g)=.ptr r o g:=rfl
theorem zu (d d' o:Nat):ad d (.lptr d' o)=if d'=d then .undef else .lptr d' o:=rfl
theorem zv (d:Nat) (xs:List AV):ad d (.lbox xs)=.lbox xs:=rfl
theorem Bt (d:Nat) (xs:List AV):ad d (.agg xs)=.agg xs:=rfl
theorem Bu (d:Nat) (xs:List AV):ad d (.tup xs)=.tup xs:=rfl
attribute [simp] IE xE Br zu zv Bt Bu
end Go.A
