/- THE ABSTRACT MACHINE: a call that is told of no memory, and tells of none, may be run in an empty heap. -/
import Derived.Test.YtnmobjhmohcjfaaGreatA19
set_option linter.unusedSimpArgs false
set_option linter.unusedVariables false
set_option linter.unnecessarySimpa false
namespace Go.A
open Go
variable {P:Program}
mutual
def AV.const:AV→Bool
 | .c _=>true
 | .agg xs=>AV.constAll xs
 | .tup xs=>AV.constAll xs
 | _=>false
def AV.constAll:List AV→Bool
 | []=>true
 | x :: r=>AV.const x && AV.constAll r
end
mutual
theorem H0 {g g':G} {H H':ae} {w w':World}:∀ (a:AV) (v:Value),a.const=true→VR g H w a v→VR g' H' w' a v
 | .c _,_,_,hv=>by simpa only [VR] using hv
 | .agg xs,v,hc,hv=>by
  simp only [VR] at hv ⊢
  obtain ⟨vs,e,hs⟩:=hv
  exact ⟨vs,e,qd xs _ (by simpa [AV.const] using hc) hs⟩
 | .tup xs,v,hc,hv=>by
  simp only [VR] at hv ⊢
  obtain ⟨vs,e,hs⟩:=hv
  exact ⟨vs,e,qd xs _ (by simpa [AV.const] using hc) hs⟩
 | .undef,_,hc,_=>by simp [AV.const] at hc
 | .ptr ..,_,hc,_=>by simp [AV.const] at hc
 | .sl ..,_,hc,_=>by simp [AV.const] at hc
 | .lbox _,_,hc,_=>by simp [AV.const] at hc
 | .lptr ..,_,hc,_=>by simp [AV.const] at hc
 | .fn ..,_,hc,_=>by simp [AV.const] at hc
 | .iface ..,_,hc,_=>by simp [AV.const] at hc
 | .map _,_,hc,_=>by simp [AV.const] at hc
 | .vs ..,_,hc,_=>by simp [AV.const] at hc
 | .vp ..,_,hc,_=>by simp [AV.const] at hc
theorem qd {g g':G} {H H':ae} {w w':World}:∀ (xs:List AV) (vs:List Value),AV.constAll xs=true→VRs g H w xs vs→VRs g' H' w' xs vs
 | [],_,_,hv=>by simpa only [VRs] using hv
 | x :: xs,vs,hc,hv=>by
  simp only [VRs] at hv ⊢
  simp only [AV.constAll,Bool.and_eq_true] at hc
  obtain ⟨v,r,e,h1,h2⟩:=hv
  exact ⟨v,r,e,H0 x v hc.1 h1,qd xs r hc.2 h2⟩
end
end Go.A
namespace Go.A
open Go
inductive Tr where
 | e
 | n (l:Tr) (v:AV) (r:Tr)
def Tr.get:Tr→List Bool→AV
 | .e,_=>.undef
 | .n _ v _,[]=>v
 | .n l _ _,false :: p=>l.get p
 | .n _ _ r,true :: p=>r.get p
def Tr.put:Tr→List Bool→AV→Tr
 | .e,[],v=>.n .e v .e
 | .e,false :: p,v=>.n (Tr.put .e p v) .undef .e
 | .e,true :: p,v=>.n .e .undef (Tr.put .e p v)
 | .n l _ r,[],v=>.n l v r
 | .n l x r,false :: p,v=>.n (l.put p v) x r
 | .n l x r,true :: p,v=>.n l x (r.put p v)
def Tr.map (f:AV→AV):Tr→Tr
 | .e=>.e
 | .n l v r=>.n (l.map f) (f v) (r.map f)
def Tr.full:Nat→Tr
 | 0=>.e
 | k+1=>.n (Tr.full k) .undef (Tr.full k)
def y7:Nat→Nat→List Bool
 | 0,_=>[]
 | k+1,m=>if m≤1 then [] else (m % 2 == 1) :: y7 k (m / 2)
def ag (i:Nat):List Bool:=y7 (i+2) (i+1)
theorem kE:∀ (t:Tr) (p q:List Bool) (v:AV),(t.put p v).get q=if p=q then v else t.get q
 | .e,[],[],v=>by simp [Tr.put,Tr.get]
 | .e,[],b :: q,v=>by cases b<;>simp [Tr.put,Tr.get]
 | .e,false :: p,[],v=>by simp [Tr.put,Tr.get]
 | .e,true :: p,[],v=>by simp [Tr.put,Tr.get]
 | .e,false :: p,false :: q,v=>by simp [Tr.put,Tr.get,kE .e p q v]
 | .e,false :: p,true :: q,v=>by simp [Tr.put,Tr.get]
 | .e,true :: p,false :: q,v=>by simp [Tr.put,Tr.get]
 | .e,true :: p,true :: q,v=>by simp [Tr.put,Tr.get,kE .e p q v]
 | .n l x r,[],[],v=>by simp [Tr.put,Tr.get]
 | .n l x r,[],b :: q,v=>by cases b<;>simp [Tr.put,Tr.get]
 | .n l x r,false :: p,[],v=>by simp [Tr.put,Tr.get]
 | .n l x r,true :: p,[],v=>by simp [Tr.put,Tr.get]
 | .n l x r,false :: p,false :: q,v=>by simp [Tr.put,Tr.get,kE l p q v]
 | .n l x r,false :: p,true :: q,v=>by simp [Tr.put,Tr.get]
 | .n l x r,true :: p,false :: q,v=>by simp [Tr.put,Tr.get]
 | .n l x r,true :: p,true :: q,v=>by simp [Tr.put,Tr.get,kE r p q v]
theorem rI (f:AV→AV) (h:f .undef=.undef):∀ (t:Tr) (p:List Bool),(t.map f).get p=f (t.get p)
 | .e,p=>by cases p<;>simp [Tr.map,Tr.get,h]
 | .n l v r,[]=>by simp [Tr.map,Tr.get]
 | .n l v r,false :: p=>by simp [Tr.map,Tr.get,rI f h l p]
 | .n l v r,true :: p=>by simp [Tr.map,Tr.get,rI f h r p]
theorem vt:∀ (k k' m m':Nat),m<k→m'<k'→0<m→0<m'→y7 k m=y7 k' m'→m=m'
 | 0,_,_,_,h,_,_,_,_=>by omega
 | _+1,0,_,_,_,h,_,_,_=>by omega
 | k+1,k'+1,m,m',h,h',hp,hp',he=>by
  simp only [y7] at he
  split at he<;>split at he
  ·omega
  ·simp at he
  ·simp at he
  ·simp only [List.cons.injEq] at he
   have:=vt k k' (m / 2) (m' / 2) (by omega) (by omega) (by omega) (by omega) he.2
   have h2:=he.1
   have e1:(m % 2 == 1)=(m' % 2 == 1):=h2
   have:m % 2=m' % 2:=by
    rcases Nat.mod_two_eq_zero_or_one m with a | a<;>rcases Nat.mod_two_eq_zero_or_one m' with b | b<;>simp [a,b] at e1 ⊢
   omega
theorem y8 {i j:Nat} (h:ag i=ag j):i=j:=by
 have:=vt (i+2) (j+2) (i+1) (j+1) (by omega) (by omega) (by omega) (by omega) h
 omega
def L (n:Nat) (t:Tr):List AV:=(List.range n).map fun i=>t.get (ag i)
theorem bp (n:Nat) (t:Tr):(L n t).length=n:=by simp [L]
theorem oJ (n:Nat) (t:Tr) (i:Nat):(L n t)[i]?=if i<n then some (t.get (ag i)) else none:=by
 simp only [L,List.getElem?_map,List.getElem?_range]
 split<;>simp_all
theorem qe (n:Nat) (t:Tr) (i:Nat):(L n t).getD i .undef=if i<n then t.get (ag i) else .undef:=by
 rw [List.getD_eq_getElem?_getD,oJ]
 split<;>simp
theorem y9 (n:Nat) (t:Tr) (i:Nat) (v:AV):(L n t).set i v=L n (t.put (ag i) v):=by
 apply List.ext_getElem?
 intro j
 rw [oJ,List.getElem?_set,bp,oJ,kE]
 by_cases e:i=j
 ·subst e;simp
 ·have:ag i≠ag j:=fun h=>e (y8 h)
  simp [e,this]
theorem U7 (n:Nat) (t:Tr) (d:Nat):(L n t).map (ad d)=L n (t.map (ad d)):=by
 apply List.ext_getElem?
 intro j
 rw [List.getElem?_map,oJ,oJ,rI _ rfl]
 split<;>simp
def ev1 (i:Nat):AV→AV
 | .lbox _=>.lptr i 0
 | v=>v
theorem L8 (n:Nat) (t:Tr) (i:Nat):ak (L n t) (.t i)=if i<n then ev1 i (t.get (ag i)) else .undef:=by
 simp only [ak,qe]
 by_cases h:i<n
 ·simp only [h,if_true]
  cases t.get (ag i)<;>rfl
 ·simp only [h,if_false]
theorem L9 (σ:List AV) (v:AV):ak σ (.k v)=v:=rfl
theorem PX (n:Nat) (t:Tr) (i:Nat) (v:AV):cJ (L n t) (some i) v=L n (t.put (ag i) v):=y9 n t i v
theorem Fr (σ:List AV) (v:AV):cJ σ none v=σ:=rfl
theorem oK:∀ (k:Nat) (p:List Bool),(Tr.full k).get p=.undef
 | 0,p=>by cases p<;>rfl
 | k+1,[]=>rfl
 | k+1,false :: p=>by simp [Tr.full,Tr.get,oK k p]
 | k+1,true :: p=>by simp [Tr.full,Tr.get,oK k p]
theorem Fs (k:Nat) (v:AV):(Tr.full (k+1)).put [] v=.n (Tr.full k) v (Tr.full k):=rfl
theorem Ft (k:Nat) (p:List Bool) (v:AV):(Tr.full (k+1)).put (false :: p) v=.n ((Tr.full k).put p v) .undef (Tr.full k):=rfl
theorem Fu (k:Nat) (p:List Bool) (v:AV):(Tr.full (k+1)).put (true :: p) v=.n (Tr.full k) .undef ((Tr.full k).put p v):=rfl
theorem Fv (k:Nat):Tr.n (Tr.full k) .undef (Tr.full k)=Tr.full (k+1):=rfl
theorem PY (l r:Tr) (x v:AV):(Tr.n l x r).put [] v=.n l v r:=rfl
theorem PZ (l r:Tr) (x v:AV) (p:List Bool):(Tr.n l x r).put (false :: p) v=.n (l.put p v) x r:=rfl
theorem P0 (l r:Tr) (x v:AV) (p:List Bool):(Tr.n l x r).put (true :: p) v=.n l x (r.put p v):=rfl
theorem P1 (l r:Tr) (x:AV):(Tr.n l x r).get []=x:=rfl
theorem P2 (l r:Tr) (x:AV) (p:List Bool):(Tr.n l x r).get (false :: p)=l.get p:=rfl
theorem P3 (l r:Tr) (x:AV) (p:List Bool):(Tr.n l x r).get (true :: p)=r.get p:=rfl
theorem zc (d:Nat):∀ k,(Tr.full k).map (ad d)=Tr.full k
 | 0=>rfl
 | k+1=>by simp [Tr.full,Tr.map,zc d k,ad]
theorem U8 (f:AV→AV) (l r:Tr) (v:AV):(Tr.n l v r).map f=.n (l.map f) (f v) (r.map f):=rfl
def lN:Nat→List AV→Tr→Tr
 | _,[],t=>t
 | i,v :: r,t=>lN (i+1) r (t.put (ag i) v)
theorem sO:∀ (vs:List AV) (i:Nat) (t:Tr) (j:Nat),(lN i vs t).get (ag j)=if i≤j∧j<i+vs.length then vs.getD (j - i) .undef else t.get (ag j)
 | [],i,t,j=>by
  simp only [lN,List.length_nil]
  rw [if_neg (by omega)]
 | v :: r,i,t,j=>by
  simp only [lN,List.length_cons]
  rw [sO r (i+1),kE]
  by_cases e:j=i
  ·subst e
   rw [if_neg (by omega),if_pos rfl,if_pos (by omega)]
   simp
  ·have:ag i≠ag j:=fun h=>e (y8 h).symm
   rw [if_neg this]
   by_cases h:i+1≤j∧j<i+1+r.length
   ·rw [if_pos h,if_pos (by omega)]
    rw [show j - i=(j - (i+1))+1 by omega]
    simp
   ·rw [if_neg h,if_neg (by omega)]
theorem sP (k n:Nat) (args:List AV) (h:args.length≤n):ew n args=L n (lN 0 args (Tr.full k)):=by
 apply List.ext_getElem?
 intro j
 rw [oJ,sO,oK]
 unfold ew
 by_cases e:j<args.length
 ·rw [List.getElem?_append_left e,if_pos (by omega),if_pos (by omega)]
  simp [e]
 ·rw [List.getElem?_append_right (by omega),List.getElem?_replicate,if_neg (by omega:¬ (0≤j∧j<0+args.length))]
  by_cases h2:j<n
  ·rw [if_pos (by omega),if_pos h2]
  ·rw [if_neg (by omega),if_neg h2]
theorem Ma (n:Nat) (t:Tr) (H:ae) (k:Option Nat) (d i:Nat):cB (L n t) H k (.lptr d i)=if d<n then (match t.get (ag d) with
  | .lbox xs=>bd k xs i
  | _=>none) else none:=by
 simp only [cB,qe]
 by_cases h:d<n
 ·simp only [h,if_true]
  split<;>simp_all
 ·simp only [h,if_false]
theorem Fw (σ:List AV) (H:ae) (r i g:Nat):cB σ H none (.ptr r i g)=(ba H r i 1 g).bind fun l=>l[0]?:=rfl
theorem Bc (σ:List AV) (H:ae) (r i g k:Nat):cB σ H (some k) (.ptr r i g)=(ba H r i k g).map .agg:=rfl
theorem ze (σ:List AV):wanted σ none=some true:=rfl
theorem H3 (n:Nat) (t:Tr) (i:Nat) (b:Bool):wanted (L n t) (some (i,b))=if i<n then (match t.get (ag i) with
  | .c (.bool x)=>some (x == b)
  | .tup []=>some false
  | _=>none) else none:=by
 simp only [wanted,qe]
 by_cases h:i<n
 ·simp only [h,if_true]
  split<;>simp_all
 ·simp only [h,if_false]
theorem runOps_nil (C:aL) (σ:List AV) (H:ae):runOps C [] σ H=some (σ,H):=rfl
theorem Fx {C:aL} {d:Option Nat} {op:SOp} {gd:Option (Nat × Bool)} {r:List SOpG} {σ:List AV} {H:ae} (h:wanted σ gd=some true):runOps C (⟨d,op,gd⟩ :: r) σ H=(opA C d op σ H).bind fun x=>runOps C r (cJ x.2.1 d x.1) x.2.2:=by
 simp only [runOps,h]
theorem runOps_0 {C:aL} {d:Option Nat} {op:SOp} {r:List SOpG} {σ:List AV} {H:ae}:runOps C (⟨d,op,none⟩ :: r) σ H=(opA C d op σ H).bind fun x=>runOps C r (cJ x.2.1 d x.1) x.2.2:=Fx rfl
theorem H4 (σ:List AV):kill [] σ=σ:=rfl
theorem P4 (n:Nat) (t:Tr) (d:Nat) (r:List Nat):kill (d :: r) (L n t)=kill r (L n (t.put (ag d) .undef)):=by
 simp only [kill,y9]
end Go.A
namespace Go.A
theorem U9:ag 0=[]:=rfl
theorem Va:ag 1=[false]:=rfl
theorem Vb:ag 2=[true]:=rfl
theorem Vc:ag 3=[false,false]:=rfl
theorem Vd:ag 4=[true,false]:=rfl
theorem Ve:ag 5=[false,true]:=rfl
theorem Vf:ag 6=[true,true]:=rfl
theorem Vg:ag 7=[false,false,false]:=rfl
theorem Vh:ag 8=[true,false,false]:=rfl
theorem Vi:ag 9=[false,true,false]:=rfl
theorem P5:ag 10=[true,true,false]:=rfl
theorem P6:ag 11=[false,false,true]:=rfl
theorem P7:ag 12=[true,false,true]:=rfl
theorem P8:ag 13=[false,true,true]:=rfl
theorem P9:ag 14=[true,true,true]:=rfl
theorem Qa:ag 15=[false,false,false,false]:=rfl
theorem Qb:ag 16=[true,false,false,false]:=rfl
theorem Qc:ag 17=[false,true,false,false]:=rfl
theorem Qd:ag 18=[true,true,false,false]:=rfl
theorem Qe:ag 19=[false,false,true,false]:=rfl
theorem Qf:ag 20=[true,false,true,false]:=rfl
theorem Qg:ag 21=[false,true,true,false]:=rfl
theorem Qh:ag 22=[true,true,true,false]:=rfl
theorem Qi:ag 23=[false,false,false,true]:=rfl
theorem Qj:ag 24=[true,false,false,true]:=rfl
theorem Qk:ag 25=[false,true,false,true]:=rfl
theorem Ql:ag 26=[true,true,false,true]:=rfl
theorem Qm:ag 27=[false,false,true,true]:=rfl
theorem Qn:ag 28=[true,false,true,true]:=rfl
theorem Qo:ag 29=[false,true,true,true]:=rfl
theorem Qp:ag 30=[true,true,true,true]:=rfl
theorem Qq:ag 31=[false,false,false,false,false]:=rfl
theorem Qr:ag 32=[true,false,false,false,false]:=rfl
theorem Qs:ag 33=[false,true,false,false,false]:=rfl
theorem Qt:ag 34=[true,true,false,false,false]:=rfl
theorem Qu:ag 35=[false,false,true,false,false]:=rfl
theorem Qv:ag 36=[true,false,true,false,false]:=rfl
theorem Qw:ag 37=[false,true,true,false,false]:=rfl
theorem Qx:ag 38=[true,true,true,false,false]:=rfl
theorem Qy:ag 39=[false,false,false,true,false]:=rfl
theorem Qz:ag 40=[true,false,false,true,false]:=rfl
theorem QA:ag 41=[false,true,false,true,false]:=rfl
theorem QB:ag 42=[true,true,false,true,false]:=rfl
theorem QC:ag 43=[false,false,true,true,false]:=rfl
theorem QD:ag 44=[true,false,true,true,false]:=rfl
theorem QE:ag 45=[false,true,true,true,false]:=rfl
theorem QF:ag 46=[true,true,true,true,false]:=rfl
theorem QG:ag 47=[false,false,false,false,true]:=rfl
theorem QH:ag 48=[true,false,false,false,true]:=rfl
theorem QI:ag 49=[false,true,false,false,true]:=rfl
theorem QJ:ag 50=[true,true,false,false,true]:=rfl
theorem QK:ag 51=[false,false,true,false,true]:=rfl
theorem QL:ag 52=[true,false,true,false,true]:=rfl
theorem QM:ag 53=[false,true,true,false,true]:=rfl
theorem QN:ag 54=[true,true,true,false,true]:=rfl
theorem QO:ag 55=[false,false,false,true,true]:=rfl
theorem QP:ag 56=[true,false,false,true,true]:=rfl
theorem QQ:ag 57=[false,true,false,true,true]:=rfl
theorem QR:ag 58=[true,true,false,true,true]:=rfl
theorem QS:ag 59=[false,false,true,true,true]:=rfl
theorem QT:ag 60=[true,false,true,true,true]:=rfl
theorem QU:ag 61=[false,true,true,true,true]:=rfl
theorem QV:ag 62=[true,true,true,true,true]:=rfl
theorem QW:ag 63=[false,false,false,false,false,false]:=rfl
theorem QX:ag 64=[true,false,false,false,false,false]:=rfl
theorem QY:ag 65=[false,true,false,false,false,false]:=rfl
theorem QZ:ag 66=[true,true,false,false,false,false]:=rfl
theorem Q0:ag 67=[false,false,true,false,false,false]:=rfl
theorem Q1:ag 68=[true,false,true,false,false,false]:=rfl
theorem Q2:ag 69=[false,true,true,false,false,false]:=rfl
theorem Q3:ag 70=[true,true,true,false,false,false]:=rfl
theorem Q4:ag 71=[false,false,false,true,false,false]:=rfl
theorem Q5:ag 72=[true,false,false,true,false,false]:=rfl
theorem Q6:ag 73=[false,true,false,true,false,false]:=rfl
theorem Q7:ag 74=[true,true,false,true,false,false]:=rfl
theorem Q8:ag 75=[false,false,true,true,false,false]:=rfl
theorem Q9:ag 76=[true,false,true,true,false,false]:=rfl
theorem Ra:ag 77=[false,true,true,true,false,false]:=rfl
theorem Rb:ag 78=[true,true,true,true,false,false]:=rfl
theorem Rc:ag 79=[false,false,false,false,true,false]:=rfl
theorem Rd:ag 80=[true,false,false,false,true,false]:=rfl
theorem Re:ag 81=[false,true,false,false,true,false]:=rfl
theorem Rf:ag 82=[true,true,false,false,true,false]:=rfl
theorem Rg:ag 83=[false,false,true,false,true,false]:=rfl
theorem Rh:ag 84=[true,false,true,false,true,false]:=rfl
theorem Ri:ag 85=[false,true,true,false,true,false]:=rfl
theorem Rj:ag 86=[true,true,true,false,true,false]:=rfl
theorem Rk:ag 87=[false,false,false,true,true,false]:=rfl
theorem Rl:ag 88=[true,false,false,true,true,false]:=rfl
theorem Rm:ag 89=[false,true,false,true,true,false]:=rfl
theorem Rn:ag 90=[true,true,false,true,true,false]:=rfl
theorem Ro:ag 91=[false,false,true,true,true,false]:=rfl
theorem Rp:ag 92=[true,false,true,true,true,false]:=rfl
theorem Rq:ag 93=[false,true,true,true,true,false]:=rfl
theorem Rr:ag 94=[true,true,true,true,true,false]:=rfl
theorem Rs:ag 95=[false,false,false,false,false,true]:=rfl
theorem Rt:ag 96=[true,false,false,false,false,true]:=rfl
theorem Ru:ag 97=[false,true,false,false,false,true]:=rfl
theorem Rv:ag 98=[true,true,false,false,false,true]:=rfl
theorem Rw:ag 99=[false,false,true,false,false,true]:=rfl
theorem Mb:ag 100=[true,false,true,false,false,true]:=rfl
theorem Mc:ag 101=[false,true,true,false,false,true]:=rfl
theorem Me:ag 102=[true,true,true,false,false,true]:=rfl
theorem Mf:ag 103=[false,false,false,true,false,true]:=rfl
theorem Mg:ag 104=[true,false,false,true,false,true]:=rfl
theorem Mh:ag 105=[false,true,false,true,false,true]:=rfl
theorem Mi:ag 106=[true,true,false,true,false,true]:=rfl
theorem Mj:ag 107=[false,false,true,true,false,true]:=rfl
theorem Mk:ag 108=[true,false,true,true,false,true]:=rfl
theorem Ml:ag 109=[false,true,true,true,false,true]:=rfl
theorem Mm:ag 110=[true,true,true,true,false,true]:=rfl
theorem Mn:ag 111=[false,false,false,false,true,true]:=rfl
theorem Mo:ag 112=[true,false,false,false,true,true]:=rfl
theorem Mp:ag 113=[false,true,false,false,true,true]:=rfl
theorem Mq:ag 114=[true,true,false,false,true,true]:=rfl
theorem Mr:ag 115=[false,false,true,false,true,true]:=rfl
theorem Mt:ag 116=[true,false,true,false,true,true]:=rfl
theorem Mu:ag 117=[false,true,true,false,true,true]:=rfl
theorem Mv:ag 118=[true,true,true,false,true,true]:=rfl
theorem Mw:ag 119=[false,false,false,true,true,true]:=rfl
theorem Mx:ag 120=[true,false,false,true,true,true]:=rfl
theorem My:ag 121=[false,true,false,true,true,true]:=rfl
theorem Mz:ag 122=[true,true,false,true,true,true]:=rfl
theorem MA:ag 123=[false,false,true,true,true,true]:=rfl
theorem MB:ag 124=[true,false,true,true,true,true]:=rfl
theorem MC:ag 125=[false,true,true,true,true,true]:=rfl
theorem MD:ag 126=[true,true,true,true,true,true]:=rfl
theorem ME:ag 127=[false,false,false,false,false,false,false]:=rfl
theorem MF:ag 128=[true,false,false,false,false,false,false]:=rfl
theorem MG:ag 129=[false,true,false,false,false,false,false]:=rfl
theorem MH:ag 130=[true,true,false,false,false,false,false]:=rfl
theorem MI:ag 131=[false,false,true,false,false,false,false]:=rfl
theorem MJ:ag 132=[true,false,true,false,false,false,false]:=rfl
theorem MK:ag 133=[false,true,true,false,false,false,false]:=rfl
theorem ML:ag 134=[true,true,true,false,false,false,false]:=rfl
theorem MM:ag 135=[false,false,false,true,false,false,false]:=rfl
theorem MN:ag 136=[true,false,false,true,false,false,false]:=rfl
attribute [simp] U9 Va Vb Vc Vd Ve Vf Vg Vh Vi P5 P6 P7 P8 P9 Qa Qb Qc Qd Qe Qf Qg Qh Qi Qj Qk Ql Qm Qn Qo Qp Qq Qr Qs Qt Qu Qv Qw Qx Qy Qz QA QB QC QD QE QF QG QH QI QJ QK QL QM QN QO QP QQ QR QS QT QU QV QW QX QY QZ Q0 Q1 Q2 Q3 Q4 Q5 Q6 Q7 Q8 Q9 Ra Rb Rc Rd Re Rf Rg Rh Ri Rj Rk Rl Rm Rn Ro Rp Rq Rr Rs Rt Ru Rv Rw Mb Mc Me Mf Mg Mh Mi Mj Mk Ml Mm Mn Mo Mp Mq Mr Mt Mu Mv Mw Mx My Mz MA MB MC MD ME MF MG MH MI MJ MK ML MM MN
end Go.A
namespace Go.A
open Go
def Ends {α:Type} (o:Option α) (Q:α→Prop):Prop:=∃ y,o=some y∧Q y
theorem Ends.some {α:Type} {y:α} {Q:α→Prop}:Ends (some y) Q ↔ Q y:=⟨fun ⟨_,h,q⟩=>by obtain rfl:=zq1 h;exact q,fun q=>⟨y,rfl,q⟩⟩
theorem Ends.bind {α β:Type} {f:Option α} {K:α→Option β} {Q:α→Prop} {R:β→Prop} (h:Ends f Q) (k:∀ y,Q y→Ends (K y) R):Ends (f.bind K) R:=by
 obtain ⟨y,rfl,q⟩:=h
 exact k y q
theorem Ends.map {α β:Type} {f:Option α} {K:α→β} {Q:α→Prop} {R:β→Prop} (h:Ends f Q) (k:∀ y,Q y→R (K y)):Ends (f.map K) R:=by
 obtain ⟨y,rfl,q⟩:=h
 exact ⟨_,rfl,k y q⟩
theorem Ends.mono {α:Type} {f:Option α} {Q R:α→Prop} (h:Ends f Q) (k:∀ y,Q y→R y):Ends f R:=by
 obtain ⟨y,e,q⟩:=h
 exact ⟨y,e,k y q⟩
def bu:SCode→List Nat
 | .region ks _=>ks
 | .drawn ks _=>ks
 | .seq a _=>bu a
 | .block _ b=>bu b
 | .loop b=>bu b
 | .scope b _ _=>bu b
 | _=>[]
theorem qD:∀ (ks:List Nat) (σ:List AV),(kill ks σ).length=σ.length
 | [],_=>rfl
 | k :: ks,σ=>by rw [kill,qD ks];simp
theorem sQ:∀ (ks:List Nat) (σ:List AV) (i:Nat),(kill ks σ)[i]?=if i∈ks∧i<σ.length then some .undef else σ[i]?
 | [],σ,i=>by simp [kill]
 | k :: ks,σ,i=>by
  rw [kill,sQ ks]
  simp only [List.length_set,List.mem_cons,List.getElem?_set]
  by_cases h1:i∈ks<;>by_cases h2:i<σ.length<;>by_cases h3:k=i<;>simp_all
  all_goals first
   | done
   | (intro h;exact absurd h.symm h3)
   | (simp [Ne.symm h3])
   | skip
theorem vu (ks:List Nat) (σ:List AV):kill ks (kill ks σ)=kill ks σ:=by
 apply List.ext_getElem?
 intro i
 rw [sQ,qD,sQ]
 split<;>rfl
section
variable {T:FuncId→Option aW} {X:aL}
end
end Go.A
namespace Go.A
open Go
abbrev ai (n:Int):AV:=.c (.int .i64 n)
abbrev ab (b:Bool):AV:=.c (.bool b)
abbrev bc:AV:=.c (.slice none 0 0)
section
variable (C:aL) (d:Option Nat) (σ:List AV) (H:ae)
def H5 (c a b:AV):Option AV:=match c with
 | .c (.bool true)=>some a
 | .c (.bool false)=>some b
 | _=>none
theorem MO (c:Bool) (a b:AV):H5 (ab c) a b=some (if c=true then a else b):=by cases c<;>rfl
end
theorem aq {n:Int} (h1:-9223372036854775808≤n) (h2:n≤9223372036854775807):IntKind.i64.wrap n=n:=by
 simp [IntKind.wrap,IntKind.bits,IntKind.signed]
 split<;>omega
theorem MP (v:Value):AV.isBox (.c v)=false:=rfl
theorem zf  : AV.isBox .undef=false:=rfl
theorem H6 (r o l c z g:Nat) (e:Bool):AV.isBox (.sl r o l c z g e)=false:=rfl
theorem Fy (r o g:Nat):AV.isBox (.ptr r o g)=false:=rfl
theorem Bd (d o:Nat):AV.isBox (.lptr d o)=false:=rfl
theorem Fz (xs:List AV):AV.isBox (.agg xs)=false:=rfl
theorem FA (xs:List AV):AV.isBox (.tup xs)=false:=rfl
attribute [simp] MP zf H6 Fy Bd Fz FA
theorem Vj (i:Nat) (v:Value):ev1 i (.c v)=.c v:=rfl
theorem Rx (i r o l c z g:Nat) (e:Bool):ev1 i (.sl r o l c z g e)=.sl r o l c z g e:=rfl
theorem MQ (i r o g:Nat):ev1 i (.ptr r o g)=.ptr r o g:=rfl
theorem H7 (i d o:Nat):ev1 i (.lptr d o)=.lptr d o:=rfl
theorem H8 (i:Nat) (xs:List AV):ev1 i (.lbox xs)=.lptr i 0:=rfl
theorem MR (i:Nat) (xs:List AV):ev1 i (.agg xs)=.agg xs:=rfl
theorem MS (i:Nat) (xs:List AV):ev1 i (.tup xs)=.tup xs:=rfl
theorem Ry (i:Nat) (f:FuncId) (xs:List AV):ev1 i (.fn f xs)=.fn f xs:=rfl
attribute [simp] Vj Rx MQ H7 H8 MR MS Ry
section
variable (ek:EqK) (k:IntKind) (a b:Int)
theorem H9:bU .add ek (.c (.int k a)) (.c (.int k b))=some (.c (.int k (k.wrap (a+b)))):=by simp [bU,dy]
theorem Ia:bU .sub ek (.c (.int k a)) (.c (.int k b))=some (.c (.int k (k.wrap (a - b)))):=by simp [bU,dy]
theorem Ib:bU .mul ek (.c (.int k a)) (.c (.int k b))=some (.c (.int k (k.wrap (a * b)))):=by simp [bU,dy]
theorem Ic:bU .quo ek (.c (.int k a)) (.c (.int k b))=if b=0 then none else some (.c (.int k (k.wrap (a.tdiv b)))):=by simp [bU,dy]
theorem Ie:bU .rem ek (.c (.int k a)) (.c (.int k b))=if b=0 then none else some (.c (.int k (a.tmod b))):=by simp [bU,dy]
theorem ci:bU .and ek (.c (.int k a)) (.c (.int k b))=dy .and k a b:=by simp [bU]
theorem If:bU .eql ek (.c (.int k a)) (.c (.int k b))=some (ab (decide (a=b))):=by simp [bU,dy];rfl
theorem Ig:bU .neq ek (.c (.int k a)) (.c (.int k b))=some (ab (decide (a≠b))):=by
 simp only [bU,dy,if_true]
 by_cases h:a=b<;>simp [h]
theorem Ih:bU .lss ek (.c (.int k a)) (.c (.int k b))=some (ab (decide (a<b))):=by simp [bU,dy]
theorem Ii:bU .leq ek (.c (.int k a)) (.c (.int k b))=some (ab (decide (a≤b))):=by simp [bU,dy]
theorem Ij:bU .gtr ek (.c (.int k a)) (.c (.int k b))=some (ab (decide (a > b))):=by simp [bU,dy]
theorem Ik:bU .geq ek (.c (.int k a)) (.c (.int k b))=some (ab (decide (a ≥ b))):=by simp [bU,dy]
theorem Il (k':IntKind):bU .shl ek (.c (.int k a)) (.c (.int k' b))=if b<0 then none else some (.c (.int k (k.wrap (a * 2 ^ (Min.min b.toNat k.bits))))):=by simp [bU]
theorem Im (k':IntKind):bU .shr ek (.c (.int k a)) (.c (.int k' b))=if b<0 then none else some (.c (.int k (a.fdiv (2 ^ (Min.min b.toNat k.bits))))):=by simp [bU]
theorem In (x y:Bool):bU .eql .bool (ab x) (ab y)=some (ab (x == y)):=by simp [bU,eqv]
theorem MT (x:Bool):unA .not (ab x)=some (ab (!x)):=rfl
end
attribute [simp] H9 Ia Ib Ic Ie ci If Ig Ih Ii Ij Ik Il Im In MT
attribute [simp] execW_seq execW_region execW_ret execW_skip execW_label execW_exit execW_goto execW_block execW_cond execW_scope
attribute [simp] runOps_nil runOps_0 H4 P4 ze H3 L8 L9 PX Fr Ma Fw Bc andThen AExit.ends aA pQ rH
attribute [simp] oK P1 P2 P3 PY PZ P0 Fs Ft Fu zc U8 lN qe U7 Fv ad
attribute [simp] MO dy ac AV.one AV.free AV.freeAll bd
attribute [simp low] kE
attribute [simp] runD SOp.cls dk bu oJ y9 Ends.some
def qE (op:SOp) (d:Option Nat) (x:AV × List AV × ae):Option (List AV × ae):=if x.1.isBox=true∧op.cls≠.eff then none else some (cJ x.2.1 d x.1,x.2.2)
theorem Io (op:SOp) (d:Option Nat) (v:AV) (σ:List AV) (H:ae):qE op d (v,σ,H)=if v.isBox=true then (if op.cls≠.eff then none else some (cJ σ d v,H)) else some (cJ σ d v,H):=by
 unfold qE
 cases h:v.isBox
 ·rw [if_neg (by simp),if_neg (by simp)]
 ·by_cases hc:op.cls≠.eff
  ·rw [if_pos ⟨rfl,hc⟩,if_pos rfl,if_pos hc]
  ·rw [if_neg (fun q=>hc q.2),if_pos rfl,if_neg hc]
attribute [simp] Io
theorem FB {α β:Type} {x y:Option α} (K:α→Option β) (h:x=y):x.bind K=y.bind K:=by rw [h]
theorem Ip {α β:Type} {x y:Option α} (K:α→β) (h:x=y):x.map K=y.map K:=by rw [h]
theorem FC {α:Type} {x y:Option α} (Q:α→Prop) (h:x=y):Ends x Q=Ends y Q:=by rw [h]
attribute [congr] FB Ip FC
end Go.A
namespace Go.A
open Go
theorem FD {H:ae} {r:Nat} {cs:List AV} (h:H[r]?=some (.row cs)) {i n:Nat} (hl:i+n≤cs.length):ba H r i n cs.length=some ((cs.drop i).take n):=by
 simp [ba,h,AObj.isRow,AObj.lo,AObj.cells,hl]
theorem vv {H:ae} {r:Nat} {cs xs:List AV} (h:H[r]?=some (.row cs)) {i:Nat} (hl:i+xs.length≤cs.length) (hx:xs.all be=true):dH H r i cs.length xs=some (H.set r (.row (cs.take i++xs++cs.drop (i+xs.length)))):=by
 simp only [dH,h,hl,hx,and_self,if_true]
theorem Be (σ:List AV) (M:ae) {k:Nat} {zs vs:List AV} (h1:zs.length=k) (h2:vs.length=k) (h3:vs.all be=true):bz σ (M++[.row zs]) (some k) (.ptr M.length 0 k) (.agg vs)=some (σ,M++[.row vs]):=by
 have hr:(M++[AObj.row zs])[M.length]?=some (.row zs):=by simp
 have hw:=vv (xs:=vs) hr (i:=0) (by omega) h3
 simp only [bz,h2,if_true]
 rw [← h1,hw]
 simp [h1,h2]
end Go.A
namespace Go.A
open Go
theorem wr1 {H:ae} {r:Nat} {cs:List AV} (h:H[r]?=some (.row cs)) {i:Nat} {v:AV} (hi:i<cs.length) (hv:be v=true):dH H r i cs.length [v]=some (H.set r (.row (cs.set i v))):=by
 rw [vv h (by simp;omega) (by simp [hv])]
 congr 3
 rw [List.set_eq_take_append_cons_drop,if_pos hi]
 simp
theorem MU (H:ae) (x y:AObj):(H++[x]).set H.length y=H++[y]:=by
 rw [List.set_append_right _ _ (Nat.le_refl _)]
 simp
theorem DI (H:ae) (x:AObj):(H++[x])[H.length]?=some x:=by simp
theorem Bf (σ:List AV) {H:ae} {r:Nat} {cs:List AV} (h:H[r]?=some (.row cs)) {i:Nat} {v:AV} (hi:i<cs.length) (hv:be v=true):bz σ H none (.ptr r i cs.length) v=some (σ,H.set r (.row (cs.set i v))):=by
 simp only [bz,wr1 h hi hv,Option.map_some]
end Go.A
namespace Go.A
open Go
theorem xn (cs:List AV):cv cs []=some cs:=rfl
theorem uH (cs:List AV) (off k:Nat) (v:AV) (r:List (Nat × Nat × AV)):cv cs ((off,k,v) :: r)=if (ac v).length=k∧off+k≤cs.length∧(ac v).all be=true then cv (cs.take off++ac v++cs.drop (off+k)) r else none:=rfl
theorem Iq (n:Nat) (t:Tr) (H:ae) (k d i:Nat) (vs:List AV):bz (L n t) H (some k) (.lptr d i) (.agg vs)=if d<n then (match t.get (ag d) with
  | .lbox xs=>if AV.freeAll vs=true then (if vs.all be=true then (if vs.length=k∧i+k≤xs.length then some (L n (t.put (ag d) (.lbox (xs.take i++vs++xs.drop (i+k)))),H) else none) else none) else none
  | _=>none) else none:=by
 simp only [bz,qe]
 by_cases h:d<n
 ·simp only [h,if_true,AV.free]
  cases t.get (ag d)<;>simp only []
  rename_i xs
  by_cases h1:AV.freeAll vs=true
  ·simp only [h1,if_true]
   by_cases h2:vs.all be=true
   ·simp only [h2,if_true,fe]
    by_cases h3:vs.length=k∧i+k≤xs.length
    ·simp only [h3,and_self,if_true,Option.map_some,y9]
    ·simp only [h3,if_false,Option.map_none]
   ·simp only [h2,if_false];rfl
  ·simp only [h1,if_false];rfl
 ·simp only [h,if_false]
theorem FE (n:Nat) (t:Tr) (H:ae) (d i:Nat) (v:AV):bz (L n t) H none (.lptr d i) v=if d<n then (match t.get (ag d) with
  | .lbox xs=>if v.free=true then (if v.one=true then (if i<xs.length then some (L n (t.put (ag d) (.lbox (xs.set i v))),H) else none) else none) else none
  | _=>none) else none:=by
 simp only [bz,qe]
 by_cases h:d<n
 ·simp only [h,if_true]
  cases t.get (ag d)<;>simp only []
  rename_i xs
  by_cases h1:v.free=true
  ·simp only [h1,if_true]
   by_cases h2:v.one=true
   ·simp only [h2,if_true]
    have:fe none xs i v=if i<xs.length then some (xs.set i v) else none:=by
     cases v<;>first | rfl | simp [AV.one] at h2
    rw [this]
    split<;>simp [y9]
   ·simp only [h2,if_false];rfl
  ·simp only [h1,if_false];rfl
 ·simp only [h,if_false]
theorem Rz {v:AV} (h:v.isBox=false) (n:Nat):ev1 n v=v:=by cases v<;>first | rfl | simp [AV.isBox] at h
attribute [simp] xn uH Iq FE
def gi:Option Nat→List AV→AV
 | none,c :: _=>c
 | none,[]=>.undef
 | some _,cs=>.agg cs
end Go.A
namespace Go.A
open Go
section
variable (ks:List BK) (xs ys:List AV)
theorem ig:bU .eql (.agg ks) (.agg xs) (.agg ys)=if xs.length=ks.length∧ys.length=ks.length then (en ks xs ys).map ab else none:=by
 simp only [bU,eqv]
 split<;>rfl
theorem lP:bU .neq (.agg ks) (.agg xs) (.agg ys)=if xs.length=ks.length∧ys.length=ks.length then (en ks xs ys).map fun b=>ab (!b) else none:=by
 simp only [bU,eqv]
 split<;>rfl
theorem fZ:en [] [] []=some true:=rfl
theorem fw (a b:Int):en (.i :: ks) (ai a :: xs) (ai b :: ys)=if a=b then en ks xs ys else some false:=by
 simp only [en,eF,if_true]
 by_cases h:a=b
 ·simp [h]
 ·rw [if_neg h,show (a == b)=false by simp [h]]
end
theorem sR:∀ (xs ys:List Int),xs.length=ys.length→en (List.replicate xs.length .i) (xs.map ai) (ys.map ai)=some (decide (xs=ys))
 | [],[],_=>rfl
 | x :: xs,y :: ys,h=>by
  simp only [List.length_cons,List.replicate_succ,List.map_cons]
  rw [fw,sR xs ys (by simpa using h)]
  by_cases hx:x=y<;>simp [hx]
theorem Ir:IntKind.i64.bits=64:=rfl
theorem Is:IntKind.u64.bits=64:=rfl
theorem MV:IntKind.u8.bits=8:=rfl
attribute [simp] Ir Is MV
attribute [simp] ig lP fZ fw
end Go.A
namespace Go.A
def SCode.sl:SCode→SCode
 | .seq a _=>a
 | s=>s
end Go.A
namespace Go.A
open Go
end Go.A
namespace Go.A
end Go.A
namespace Go.A
open Go
theorem bJ {n:Int} (h1:0≤n) (h2:n≤18446744073709551615):IntKind.u64.wrap n=n:=by
 simp [IntKind.wrap,IntKind.bits,IntKind.signed]
 omega
theorem gj {n:Int} (h1:0≤n) (h2:n≤255):IntKind.u8.wrap n=n:=by
 simp [IntKind.wrap,IntKind.bits,IntKind.signed]
 omega
end Go.A
namespace Go.A
open Go
end Go.A
namespace Go.A
open Go
theorem It (d:Nat) (v:Value):ad d (.c v)=.c v:=rfl
theorem xp (d:Nat):ad d .undef=.undef:=rfl
theorem Bg (d r o g:Nat):ad d (.ptr r o g)=.ptr r o g:=rfl
theorem zg (d d' o:Nat):ad d (.lptr d' o)=if d'=d then .undef else .lptr d' o:=rfl
theorem zh (d:Nat) (xs:List AV):ad d (.lbox xs)=.lbox xs:=rfl
theorem Bh (d:Nat) (xs:List AV):ad d (.agg xs)=.agg xs:=rfl
theorem Bi (d:Nat) (xs:List AV):ad d (.tup xs)=.tup xs:=rfl
attribute [simp] It xp Bg zg zh Bh Bi
end Go.A
