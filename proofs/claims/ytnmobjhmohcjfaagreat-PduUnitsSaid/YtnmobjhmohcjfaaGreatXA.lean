/- Bits, lengths, fields, heads: plain words and laws. -/
import Derived.Test.YtnmobjhmohcjfaaGreatAX
import Derived.Test.YtnmobjhmohcjfaaGreatK1P
set_option linter.unusedSimpArgs false
set_option linter.unusedVariables false
set_option linter.unnecessarySimpa false
namespace Go.A.V.S
open Go Go.A
theorem bg (bs:List Nat):(ax bs).length=bs.length:=by simp [ax]
def aj (bs:List Nat) (a n:Nat):Nat:=num (((ay bs).drop a).take n)
theorem fW {bs:List Nat} {a n:Nat} {b:Bool} (h:(ay bs)[a+n]?=some b):aj bs a (n+1)=2 * aj bs a n+b.toNat:=by
 have:((ay bs).drop a).take (n+1)=((ay bs).drop a).take n++[b]:=by
  rw [List.take_add_one,List.getElem?_drop,h]
  rfl
 rw [aj,this,iV]
 rfl
theorem bK {bs:List Nat} {a n:Nat} (h:a+n≤8 * bs.length):aj bs a n<2 ^ n:=by
 refine Bj n _ ?_
 rw [List.length_take,List.length_drop,bC]
 omega
theorem tY (b s:Nat):((b:Nat):Int).fdiv (2 ^ s)=((b / 2 ^ s:Nat):Int):=by
 have h:((2:Int) ^ s)=((2 ^ s:Nat):Int):=by simp
 rw [h,Int.fdiv_eq_ediv_of_nonneg _ (Int.natCast_nonneg _)]
 simp
theorem wy (a:Nat):((a:Nat):Int).tdiv 8=((a / 8:Nat):Int):=by
 rw [Int.tdiv_eq_ediv_of_nonneg (by omega)]
 simp
theorem Ab (a:Nat):((a:Nat):Int).tmod 8=((a % 8:Nat):Int):=by
 rw [Int.tmod_eq_emod_of_nonneg (by omega)]
 simp
def bn (w:Int):Nat:=if w=10 then 11 else 15
def aI (w:Int):Nat:=if w=10 then 15 else 16
def bN (part:Bool) (w:Int):Nat:=if w=10∨w=16 then (if w=16 then 3 else 2)+(if part=true then 2 else 0) else 0
def aS (n w:Nat):Nat:=if n<1∨n > 23 then 0 else (n * (w+1)+7) / 8
def bY (a:Nat):Nat:=(8 - a % 8) % 8
theorem jB {a n:Nat} (h:a≤8 * n):a+bY a≤8 * n:=by simp only [bY];omega
def kR (bs:List Nat) (w k:Nat):Nat:=aj bs (k * (w+1)+1) w
def jC (bs:List Nat) (w k:Nat):Nat:=aj bs (k * (w+1)) 1
def lr (bs:List Nat) (w:Nat):Nat→Nat × Nat
 | 0=>(0,2)
 | z+1=>if 8 * bs.length<(22 - z) * (w+1)+(w+1) then (0,8) else if kR bs w (22 - z)=0 then (0,3) else if jC bs w (22 - z)=1 then lr bs w z else (22 - z+1,0)
def bL (bs:List Nat) (w n:Nat):List Nat:=(List.range n).map (kR bs w)
def aO (bs:List Nat) (w:Nat):Nat × Nat:=
 if (lr bs w 23).2=0 then (if aj bs ((lr bs w 23).1 * (w+1)) (bY ((lr bs w 23).1 * (w+1)))=0 then lr bs w 23 else (0,3)) else lr bs w 23
theorem tZ (bs:List Nat) (w k:Nat):bL bs w (k+1)=bL bs w k++[kR bs w k]:=by
 simp [bL,List.range_succ]
theorem cu (bs:List Nat) (w k:Nat):(bL bs w k).length=k:=by simp [bL]
theorem mY (bs:List Nat) (a:Nat):aj bs a 1<2:=by
 simp only [aj]
 generalize hl:((ay bs).drop a).take 1=l
 have:l.length≤1:=by rw [← hl];simp;omega
 match l,this with
 | [],_=>simp [num]
 | [b],_=>cases b<;>simp [num]
theorem Cw {bs:List Nat} {w e:Nat} (h:lr bs w 23=(0,e)) (he:e≠0):aO bs w=(0,e):=by
 rw [aO,h,if_neg he]
theorem fz (a b:List Nat):ay (a++b)=ay a++ay b:=by simp [ay]
theorem dV {bs:List Nat} {m a n:Nat} (h:a+n≤8 * min m bs.length):aj (bs.take m) a n=aj bs a n:=by
 have e:ay bs=ay (bs.take m)++ay (bs.drop m):=by rw [← fz,List.take_append_drop]
 have hl:(ay (bs.take m)).length=8 * min m bs.length:=by rw [bC,List.length_take]
 simp only [aj]
 rw [e,List.drop_append_of_le_length (by omega),List.take_append_of_le_length (by rw [List.length_drop];omega)]
theorem NV {w:Nat} (hw:w=11∨w=15):23 * (w+1)≤8 * aS 23 w∧8 * aS 23 w≤23 * (w+1)+7:=by
 rcases hw with rfl | rfl<;>decide
theorem J0 {k w:Nat} (h:k≤23):k * (w+1)≤23 * (w+1):=Nat.mul_le_mul_right _ h
theorem Eb {bs:List Nat} {w m:Nat} (hm:23 * (w+1)≤8 * m):∀ z,z≤23→lr (bs.take m) w z=lr bs w z
 | 0,_=>rfl
 | z+1,h=>by
  have h23:=J0 (k:=22 - z+1) (w:=w) (by omega)
  rw [Nat.add_mul] at h23
  simp only [lr]
  rw [Eb hm z (by omega)]
  have hlen:(bs.take m).length=min m bs.length:=List.length_take
  rw [hlen]
  by_cases hc:8 * bs.length<(22 - z) * (w+1)+(w+1)
  ·rw [if_pos hc,if_pos (by omega)]
  ·rw [if_neg hc,if_neg (by omega)]
   have e1:kR (bs.take m) w (22 - z)=kR bs w (22 - z):=dV (by omega)
   have e2:jC (bs.take m) w (22 - z)=jC bs w (22 - z):=dV (by omega)
   rw [e1,e2]
theorem t7 {bs:List Nat} {w:Nat}:∀ z,z≤23→(lr bs w z).2=0→23 - z<(lr bs w z).1∧(lr bs w z).1≤23∧(lr bs w z).1 * (w+1)≤8 * bs.length
 | 0,_=>by simp [lr]
 | z+1,h=>by
  simp only [lr]
  split
  ·simp
  ·split
   ·simp
   ·split
    ·intro h0
     have:=t7 z (by omega) h0
     omega
    ·intro _
     simp only
     rename_i h1 _ _
     rw [Nat.add_mul]
     refine ⟨by omega,by omega,by omega⟩
theorem Cx {bs:List Nat} {w m:Nat} (hm:23 * (w+1)≤8 * m):aO (bs.take m) w=aO bs w:=by
 simp only [aO]
 rw [Eb hm 23 (by omega)]
 by_cases h0:(lr bs w 23).2=0
 ·have hk:=t7 23 (by omega) h0
  have h23:=J0 (k:=(lr bs w 23).1) (w:=w) hk.2.1
  have:=jB hk.2.2
  rw [if_pos h0,if_pos h0,dV]
  simp only [bY] at *
  omega
 ·rw [if_neg h0,if_neg h0]
theorem fP {bs:List Nat} {w:Nat} (h:(aO bs w).2=0):0<(aO bs w).1∧(aO bs w).1≤23∧(aO bs w).1 * (w+1)≤8 * bs.length:=by
 have:=t7 (bs:=bs) (w:=w) 23 (by omega)
 simp only [aO] at h ⊢
 split at h
 ·rename_i h0
  rw [if_pos h0]
  split at h
  ·rename_i h1
   rw [if_pos h1]
   have:=this h0
   omega
  ·simp at h
 ·rename_i h0
  exact absurd h h0
theorem Cy {bs:List Nat} {w m n:Nat} (hn:n * (w+1)≤8 * min m bs.length):bL (bs.take m) w n=bL bs w n:=by
 simp only [bL]
 refine List.map_congr_left fun i hi=>?_
 rw [List.mem_range] at hi
 have:=Nat.mul_le_mul_right (w+1) (show i+1≤n from hi)
 rw [Nat.add_mul] at this
 exact dV (by omega)
def aY (bs:List Nat):Bool:=decide (aj bs 1 1=1)
def dr (bs:List Nat):Bool:=decide (aj bs 2 1=1)
def hFI (bs:List Nat):Nat:=aj bs 3 2
def dC (bs:List Nat):Bool:=decide (aj bs 5 1=1)
def cN (bs:List Nat) (w:Nat):Bool:=if w=16 then decide (aj bs 6 1=1) else if aY bs=true then decide (aj bs 16 1=1) else false
def hOk (bs:List Nat) (w:Nat):Bool:=if w=16 then decide (aj bs 7 1=0) && (aY bs || !cN bs w) else true
def hSN (bs:List Nat) (w:Nat):Nat:=if w=16 then aj bs 8 16 else aj bs 6 10
def eO (bs:List Nat) (w:Nat):Nat:=if aY bs=true then (if w=16 then aj bs 24 16 else aj bs 17 15) else 0
def aZ (poll:Bool) (fi sn:Int) (part last:Bool) (off:Int) (f:AV):List AV:=[ab poll,ai fi,ai sn,ab part,ab last,ai off,f]
def dJ (bs:List Nat) (w:Nat) (f:AV):List AV:=aZ (dr bs) (hFI bs) (hSN bs w) (aY bs) (cN bs w) (eO bs w) f
theorem dt {bs:List Nat} {a n k:Nat} (hn:n≤k) (h:a+n≤8 * bs.length):aj bs a n<2 ^ k:=
 Nat.lt_of_lt_of_le (bK h) (Nat.pow_le_pow_right (by omega) hn)
theorem fm {part:Bool} {w:Nat} (hw:w=10∨w=16):bN part w=(if w=16 then 3 else 2)+(if part=true then 2 else 0):=by
 rcases hw with rfl | rfl<;>rfl
def eP:List Nat→List Nat→Option (List (List Nat))
 | bs,[]=>if bs.length=0 then none else some [bs]
 | bs,n :: r=>if bs.length<n then none else (eP (bs.drop n) r).map (bs.take n :: ·)
def aV (bs l:List Nat):Nat × List (List Nat):=
 if l.any (fun n=>decide (2047<n))=true then (3,[]) else match eP bs l with
  | none=>(8,[])
  | some ff=>(0,ff)
set_option maxRecDepth 100000 in
theorem xQ:∀ b:Fin 256,sS .u8 ((b.val:Nat):Int) 128=if b.val / 128 % 2=1 then 128 else 0:=by decide
set_option maxRecDepth 100000 in
theorem acB:∀ b:Fin 256,sS .u8 ((b.val:Nat):Int) 64=if b.val / 64 % 2=1 then 64 else 0:=by decide
theorem fA {bs:List Nat} {a b:Nat} (h:bs[a / 8]?=some b):aj bs a 1=b / 2 ^ (7 - a % 8) % 2:=by
 have hb:=mP bs a b h
 have:=fW (bs:=bs) (a:=a) (n:=0) hb
 rw [this]
 have h0:aj bs a 0=0:=by simp [aj,num]
 rw [h0]
 rcases Nat.mod_two_eq_zero_or_one (b / 2 ^ (7 - a % 8)) with h1 | h1<;>simp [h1]
theorem wA {bs:List Nat} {w:Nat} (hw:w=10∨w=16) (hl:bN (aY bs) w≤bs.length) :
  aY (bs.take (bN (aY bs) w))=aY bs∧dC (bs.take (bN (aY bs) w))=dC bs∧hOk (bs.take (bN (aY bs) w)) w=hOk bs w∧∀ f,dJ (bs.take (bN (aY bs) w)) w f=dJ bs w f:=by
 have hv:=fm (part:=aY bs) hw
 generalize hn:bN (aY bs) w=n at *
 have ht:∀ a k,a+k≤8 * n→aj (bs.take n) a k=aj bs a k:=fun a k h=>dV (by omega)
 have h2:2≤n:=by rw [hv];split<;>omega
 have e1:aY (bs.take n)=aY bs:=by simp only [aY];rw [ht 1 1 (by omega)]
 have e2:dr (bs.take n)=dr bs:=by simp only [dr];rw [ht 2 1 (by omega)]
 have e3:hFI (bs.take n)=hFI bs:=by simp only [hFI];rw [ht 3 2 (by omega)]
 have e4:dC (bs.take n)=dC bs:=by simp only [dC];rw [ht 5 1 (by omega)]
 have e5:cN (bs.take n) w=cN bs w:=by
  simp only [cN]
  rw [e1]
  rcases hw with rfl | rfl
  ·by_cases hp:aY bs=true
   ·rw [hp] at hv
    simp at hv
    rw [ht 16 1 (by omega)]
    rfl
   ·simp [hp]
  ·simp only [if_true]
   rw [ht 6 1 (by omega)]
 have e6:hOk (bs.take n) w=hOk bs w:=by
  simp only [hOk]
  rw [e1,e5,ht 7 1 (by omega)]
 have e7:hSN (bs.take n) w=hSN bs w:=by
  simp only [hSN]
  rcases hw with rfl | rfl
  ·simp only [show ¬ (10:Nat)=16 by omega,if_false]
   rw [ht 6 10 (by omega)]
  ·simp only [if_true] at hv ⊢
   rw [ht 8 16 (by omega)]
 have e8:eO (bs.take n) w=eO bs w:=by
  simp only [eO]
  rw [e1]
  by_cases hp:aY bs=true
  ·rw [hp] at hv
   rcases hw with rfl | rfl
   ·simp at hv
    simp only [show ¬ (10:Nat)=16 by omega,if_false]
    rw [ht 17 15 (by omega)]
   ·simp at hv
    simp only [if_true]
    rw [ht 24 16 (by omega)]
  ·simp [hp]
 exact ⟨e1,e4,e6,fun f=>by simp only [dJ];rw [e2,e3,e7,e1,e5,e8]⟩
def restR (bs:List Nat) (w:Nat):Nat × List (List Nat):=
 if dC bs=true then (if (aO bs' (bn w)).2=0 then aV (bs'.drop (aS (aO bs' (bn w)).1 (bn w))) (bL bs' (bn w) (aO bs' (bn w)).1) else ((aO bs' (bn w)).2,[]))
 else aV bs' []
where bs':=bs.drop (bN (aY bs) w)
def bQ (bs:List Nat) (w:Int):Nat × List (List Nat):=
 if w=10∨w=16 then
  if 4000<bs.length then (2,[]) else if bs.length=0 then (8,[]) else if aj bs 0 1=0 then (4,[]) else if bs.length<bN (aY bs) w then (8,[]) else if hOk bs w.toNat=true then restR bs w.toNat else (3,[])
 else (9,[])
def cA:List AV:=aZ false 0 0 false false 0 bc
theorem Cz {bs:List Nat} {i b:Nat} (h:bs[i]?=some b):ay (bs.take (i+1))=ay (bs.take i)++eT b:=by
 rw [List.take_add_one,h]
 simp [ay]
theorem CA {b j:Nat} (h:j<8):(eT b).take (j+1)=(eT b).take j++[decide (b / 2 ^ (7 - j) % 2=1)]:=by
 rw [List.take_add_one]
 have:(eT b)[j]?=some (decide (b / 2 ^ (7 - j) % 2=1)):=by simp [eT,h]
 rw [this]
 rfl
def rE (x:List Bool) (a n:Nat):Nat:=num ((x.drop a).take n)
theorem Gq (bs:List Nat) (a n:Nat):rE (ay bs) a n=aj bs a n:=rfl
theorem Gr {x:List Bool} {a n:Nat} {b:Bool} (h:x[a+n]?=some b):rE x a (n+1)=2 * rE x a n+b.toNat:=by
 have:(x.drop a).take (n+1)=(x.drop a).take n++[b]:=by
  rw [List.take_add_one,List.getElem?_drop,h]
  rfl
 rw [rE,this,iV]
 rfl
theorem Ec {x:List Bool} {a n:Nat} (h:a+n≤x.length):rE x a n<2 ^ n:=by
 refine Bj n _ ?_
 rw [List.length_take,List.length_drop]
 omega
theorem J1 (r:List Bool):∀ v:Nat,v≠0→r.foldl (fun v b=>2 * v+b.toNat) v≠0:=by
 induction r with
 | nil=>intro v h;exact h
 | cons b r ih=>intro v h;exact ih _ (by show 2 * v+b.toNat≠0;omega)
theorem CB {l r:List Bool} (h:num l≠0):num (l++r)≠0:=by
 rw [num,List.foldl_append]
 exact J1 r _ h
theorem t8 {bs:List Nat} {a j p:Nat} (h:j≤p) (hn:aj bs a j≠0):aj bs a p≠0:=by
 have:((ay bs).drop a).take p=((ay bs).drop a).take j++(((ay bs).drop a).drop j).take (p - j):=by
  rw [← List.take_add]
  congr 1;omega
 rw [aj,this]
 exact CB hn
theorem wB {n w:Nat} (h1:1≤n) (h2:n≤23):(n * (w+1)+bY (n * (w+1))) / 8=aS n w:=by
 rw [aS,if_neg (by omega)]
 simp only [bY]
 omega
def uQ (o:Option (List (List Nat))):Nat × List (List Nat):=match o with
 | none=>(8,[])
 | some ff=>(0,ff)
def mt (bs:List Nat) (more:Bool) (w:Nat):Nat × List (List Nat):=
 if more=true then (if (aO bs w).2=0 then uQ (eP (bs.drop (aS (aO bs w).1 w)) (bL bs w (aO bs w).1)) else ((aO bs w).2,[])) else uQ (eP bs [])
theorem acC {bs:List Nat} {i:Nat} (h:i<8 * bs.length):∃ b,(ay bs)[i]?=some b∧aj bs i 1=b.toNat:=by
 obtain ⟨b,hb⟩:∃ b,(ay bs)[i]?=some b:=⟨_,zq6 (by rw [bC];exact h)⟩
 refine ⟨b,hb,?_⟩
 have:=fW (bs:=bs) (a:=i) (n:=0) hb
 rw [this]
 simp [aj,num]
theorem qo (b:Bool):decide (b.toNat=1)=b:=by cases b<;>rfl
theorem rk {bs:List Nat} {w:Nat} (h:((bL bs w (aO bs w).1).any fun n=>decide (2047<n))=false) (he:(aO bs w).2=0) :
  mt bs true w=aV (bs.drop (aS (aO bs w).1 w)) (bL bs w (aO bs w).1):=by
 rw [mt,if_pos rfl,if_pos he,aV,if_neg (by rw [h];simp)]
 cases eP (bs.drop (aS (aO bs w).1 w)) (bL bs w (aO bs w).1)<;>rfl
theorem wC (bs:List Nat) (w:Nat):mt bs false w=aV bs []:=by
 rw [mt,if_neg (by simp),aV,if_neg (by simp)]
 cases eP bs []<;>rfl
theorem ej {α:Type} {l:List α} {i:Nat} {x:α} (h:l[i]?=some x):l.take (i+1)=l.take i++[x]:=by
 rw [List.take_add_one,h];rfl
def aD (v n:Nat):List Bool:=(List.range n).map fun j=>decide (v / 2 ^ (n - 1 - j) % 2=1)
theorem aT (v n:Nat):(aD v n).length=n:=by simp [aD]
theorem rl {v n i:Nat} (h:i<n):(aD v n).take (n - i)=(aD v n).take (n - (i+1))++[decide (v / 2 ^ i % 2=1)]:=by
 rw [show n - i=(n - (i+1))+1 by omega,List.take_add_one]
 have:(aD v n)[n - (i+1)]?=some (decide (v / 2 ^ i % 2=1)):=by
  simp only [aD,List.getElem?_map,List.getElem?_range (show n - (i+1)<n by omega),Option.map_some]
  rw [show n - 1 - (n - (i+1))=i by omega]
 rw [this]
 rfl
theorem ix (b:Bool):aD b.toNat 1=[b]:=by cases b<;>rfl
theorem pz:aD 1 1=[true]:=rfl
theorem pA:aD 0 1=[false]:=rfl
def bO (w:Nat):List Nat→List Bool
 | []=>[]
 | n :: r=>decide (0<r.length) :: (aD n w++bO w r)
theorem dw (w:Nat):∀ l:List Nat,(bO w l).length=l.length * (w+1)
 | []=>by simp [bO]
 | n :: r=>by
  simp only [bO,List.length_cons,List.length_append,aT,dw w r,Nat.add_mul]
  omega
def cQ:Nat→List (List Nat)→Nat
 | n,[]=>n
 | n,f :: r=>if f.length=0 then 0 else if 2047<f.length∧0<r.length then 0 else if 4000<f.length+n then 0 else cQ (n+f.length) r
theorem t9 {n w:Nat} (hw:w=11∨w=15) (hn:n≤23):aS n w≤46:=by
 have:n * (w+1)≤23 * 16:=Nat.mul_le_mul hn (by omega)
 rw [aS]
 split<;>omega
theorem mZ {ff:List (List Nat)} {i:Nat} {x:List Nat} (h:ff[i]?=some x):(ff.take (i+1)).flatten=(ff.take i).flatten++x:=by
 rw [ej h];simp
theorem xR (ff:List (List Nat)) (i:Nat):(ff.take i).flatten.length≤ff.flatten.length:=by
 have:=List.take_append_drop i ff
 have h2:ff.flatten.length=(ff.take i).flatten.length+(ff.drop i).flatten.length:=by
  conv=>lhs;rw [← this,List.flatten_append,List.length_append]
 omega
theorem wD {ff:List (List Nat)} {i:Nat} {x:List Nat} (h:ff[i]?=some x):(ff.flatten.drop (ff.take i).flatten.length).take x.length=x:=by
 have h1:ff.flatten=(ff.take i).flatten++(ff.drop i).flatten:=by rw [← List.flatten_append,List.take_append_drop]
 have hi:=(List.getElem?_eq_some_iff.1 h).1
 have h2:ff.drop i=x :: ff.drop (i+1):=by
  rw [List.drop_eq_getElem_cons hi]
  rw [zq6 hi] at h
  rw [zq1 h]
 rw [h1,List.drop_left,h2]
 simp
theorem Ed (z:Bool) (l:List (List AV)) (hl:l.length≤1000000) (H:ae):callW P lR [lst z 1 none l] H=some (lst z 1 (some 0) l,H):=by
 rcases bH z 1 none l with ⟨rfl,rfl,e⟩ | ⟨e,h⟩
 ·rw [e];rw [dI rfl];simp -implicitDefEqProofs [-ac,-AV.one,-ad,zt]
 ·have hap:=fun σ H=>gU (m:=P.md lR) (d:=7) (bytes:=1) (c:=5) (l:=[]) (fun H=>cR H 1 none l) (by simp [aw];omega) (by simp [aw];omega) σ H
  rw [e];rw [dI rfl];simp -implicitDefEqProofs [-ac,-AV.one,-ad,zt,hap]
  simp [lst,h]
abbrev Bs:=Bool × List Nat
def bv (b:Bs):AV:=lst b.1 1 none (ax b.2)
def bvs (l:List Bs):List (List AV):=l.map fun b=>[bv b]
def nvs (l:List Nat):List (List AV):=l.map fun (n:Nat)=>[ai n]
def dD (b:Bs) (i j:Nat):Bs:=(b.1 && b.2.isEmpty,(b.2.take j).drop i)
theorem ua (l:List Nat):(ax l).isEmpty=l.isEmpty:=by cases l<;>rfl
theorem cz (b:Bs):xq (bv b)=some b.2.length:=by rw [bv,zk,bg]
theorem TK (b:Bs):(bv b).isBox=false:=DJ _ _ _ _
theorem NW (b:Bs):(bv b).free=true:=zi _ _ _ _
theorem TL (b:Bs):(bv b).one=true:=DK _ _ _ _
theorem J2 (b:Bs):ac (bv b)=[bv b]:=vz _ _ _ _
theorem acD (n:Nat) (b:Bs):ev1 n (bv b)=bv b:=Ix _ _ _ _ _
theorem Gs (n:Nat) (b:Bs):ad n (bv b)=bv b:=sT _ _ _ _ _
theorem TM (b:Bs):pln (bv b)=bv b:=DL _ _ _ _
theorem NX (cs:List Nat) (b:Bs):bV cs (bv b)=bv b:=zj _ _ _ _ _
theorem TN (n:Nat) (H:ae) (b:Bs):frz n H (bv b)=some (bv b):=DN _ _ _ _ _ _
theorem wE (l:List Nat) (i j:Nat):((ax l).take j).drop i=ax ((l.take j).drop i):=by simp [ax,List.map_take,List.map_drop]
theorem Gt {l:List Nat} {i b:Nat} (h:l[i]?=some b):(ax l)[i]?=some [au b]:=by simp [ax,h]
theorem pB {b:Bs} {i x:Nat} (h:b.2[i]?=some x) (k:IntKind):bW 1 none (bv b) (.c (.int k i))=some (.vp [au x] 0):=gJ _ _ _ (Gt h) k
theorem CC {b:Bs} {lo hi:Option AV} {i j:Nat} (h1:lo=none∧i=0∨∃ kk,lo=some (.c (.int kk i))) (h2:hi=none∧j=b.2.length∨∃ kk,hi=some (.c (.int kk j))) (hij:i≤j) (hj:j≤b.2.length) (d:Option Nat) :
  iC 1 d (bv b) lo hi none=some (bv (dD b i j)):=by
 rw [bv,oM (i:=i) (j:=j) _ _ _ _ _ h1 (by rw [bg];exact h2) hij (by rw [bg];exact hj),sX,ua,wE]
 rfl
theorem eZ {b:Bs} {i:Nat} (hi:i≤b.2.length) (k:IntKind) (d:Option Nat):iC 1 d (bv b) (some (.c (.int k i))) none none=some (bv (dD b i b.2.length)):=CC (.inr ⟨k,rfl⟩) (.inl ⟨rfl,rfl⟩) hi (Nat.le_refl _) d
theorem Ac {b:Bs} {j:Nat} (hj:j≤b.2.length) (k:IntKind) (d:Option Nat):iC 1 d (bv b) none (some (.c (.int k j))) none=some (bv (dD b 0 j)):=CC (.inl ⟨rfl,rfl⟩) (.inr ⟨k,rfl⟩) (Nat.zero_le _) hj d
theorem CD {b:Bs} {j:Nat} (hj:j≤b.2.length) (k k2:IntKind) (d:Option Nat):iC 1 d (bv b) none (some (.c (.int k j))) (some (.c (.int k2 j)))=some (lst (dD b 0 j).1 1 d (ax (dD b 0 j).2)):=by
 rw [bv,RN (i:=0) (j:=j) _ _ _ _ _ (.inl ⟨rfl,rfl⟩) k k2 (Nat.zero_le _) (by rw [bg];exact hj),sX,ua,wE]
 rfl
theorem Gu (dd:Nat) (b:Bs) (r:List AV) (σ:List AV) (H:ae):cV (some dd) (.tup (bv b :: r)) σ H=(.tup (bv b :: dQ r),σ.map (bV [dd]),H):=sZ _ _ _ _ _ _ _ _
attribute [simp] Gu cz TK NW TL J2 acD Gs TM NX TN
theorem cM (b:Bs) (i:Nat):(dD b i b.2.length).2=b.2.drop i:=by simp [dD]
theorem jD (b:Bs) (j:Nat):(dD b 0 j).2=b.2.take j:=by simp [dD]
theorem jf (b:Bs) (hl:b.2.length≤1000000) (H:ae):callW P lR [bv b] H=some (lst b.1 1 (some 0) (ax b.2),H):=Ed b.1 (ax b.2) (by rw [bg];exact hl) H
theorem acE {a b:Nat} (h:a≤b):mn (a:Int) (b:Int)=a:=by simp only [mn];rw [if_neg (by omega)]
theorem kg (b:Bs) (hb:b.2.length≤8192) (H:ae):∃ z,callW P vH [bv b] H=some (.ptr H.length 0 2,H++[.row [bv (z,b.2),ai 0]]):=by
 have h1:mn (b.2.length:Int) 8192=b.2.length:=acE hb
 have h2:=CD (b:=b) (j:=b.2.length) (Nat.le_refl _) .i64 .i64
 have h3:=fun H=>Ed (dD b 0 b.2.length).1 (ax (dD b 0 b.2.length).2) (by rw [bg,jD];simp;omega) H
 refine ⟨(dD b 0 b.2.length).1,?_⟩
 rw [z8 rfl];simp -implicitDefEqProofs [-ac,-AV.one,-ad,Jy,h1,h2,h3]
 simp [bv,dD]
theorem aem (b:Bs) (a:Nat) (rr:Nat) (hb:b.2.length≤10000) (ha:a≤100000) {H:ae} (hr:H[rr]?=some (.row [bv b,ai a])):callW P vT [.ptr rr 0 2] H=some (ai ((b.2.length * 8:Nat) - a),H):=by
 rw [nU rfl];simp -implicitDefEqProofs (disch:=first | omega | (simp;done) | fail) [-ac,-AV.one,-ad,JI,aq,ba,hr,AObj.isRow,AObj.lo,AObj.cells]
theorem call_post {p:VP} {f:FuncId} {s:aW} {args:List AV} {H:ae} {Q:AV × ae→Prop} (k n:Nat) (hx:p.X f args H=none) (ht:p.T f=some s) (hn:s.nslots=n) (hl:args.length≤n) (R:AExit→List AV→ae→Prop)
  (h2:∀ e σ G,R e σ G→e.ends=true∧∃ v,aA s.res σ=some v∧v.free=true∧Ends (ky (p.K f) (p.C f) H.length v G) Q)
  (h1:Ends (execW p f s.body (L n (lN 0 args (Tr.full k))) H) fun st=>R st.e st.σ st.H):Ends (callW p f args H) Q:=by
 subst hn
 refine vw hx ht ?_
 rw [sP k s.nslots args hl]
 refine h1.mono fun st h=>?_
 obtain ⟨q1,v,q2,q3,q4⟩:=h2 _ _ _ h
 exact ⟨q1,v,q2,q3,q4⟩
theorem gN {p:VP} {f:FuncId} {tail sc:SCode} {l:Nat} (I:Nat→List AV→ae→Prop) (Q:AExit→List AV→ae→Prop) (hsc:sc=.seq .skip tail)
  (step:∀ n σ H,I n (kill (bu tail) σ) H→Ends (execW p f tail σ H) fun s=>if s.e=.goto l then ∃ m,m<n∧I m (kill (bu tail) s.σ) s.H else Q s.e s.σ s.H)
  (n:Nat) (σ:List AV) (H:ae) (h:I n (kill (bu tail) σ) H):Ends ((execW p f tail σ H).bind (jumpW p f sc l)) fun s=>Q s.e s.σ s.H:=by
 subst hsc
 exact (Bk I Q step n σ H h).mono fun s h=>h.2
theorem J3 {p:VP} {f:FuncId} (r:SCode) (l:Nat) (σ:List AV) (H:ae):jumpW p f r l ⟨.ret,σ,H⟩=some ⟨.ret,σ,H⟩:=nO (by simp)
attribute [simp] J3
def RD (H:ae) (rr:Nat) (b:Bs) (a:Nat):ae:=H.set rr (.row [bv b,ai a])
theorem Ee {H:ae} {rr:Nat} (hlt:rr<H.length) (b:Bs) (a:Nat):(RD H rr b a)[rr]?=some (.row [bv b,ai a]):=by simp [RD,hlt]
theorem acF {H:ae} {rr:Nat} (hlt:rr<H.length) (b:Bs) (a:Nat):ba (RD H rr b a) rr 0 1 2=some [bv b]:=by simp [ba,Ee hlt,AObj.isRow,AObj.lo,AObj.cells]
theorem TO {H:ae} {rr:Nat} (hlt:rr<H.length) (b:Bs) (a:Nat):ba (RD H rr b a) rr 1 1 2=some [ai a]:=by simp [ba,Ee hlt,AObj.isRow,AObj.lo,AObj.cells]
theorem Ph {H:ae} {rr:Nat} (hlt:rr<H.length) (b:Bs) (a x:Nat) (σ:List AV):bz σ (RD H rr b a) none (.ptr rr 1 2) (ai x)=some (σ,RD H rr b x):=by
 have hok:be (ai x)=true:=rfl
 simp [bz,dH,Ee hlt]
 simp [RD]
theorem CE (H:ae) (rr:Nat) (b:Bs) (a:Nat):(RD H rr b a).length=H.length:=by simp [RD]
theorem NY (H:ae) (rr:Nat) (b:Bs) (a:Nat):(RD H rr b a).take H.length=RD H rr b a:=List.take_of_length_le (by rw [CE];exact Nat.le_refl _)
attribute [simp] CE NY
section
variable {H:ae} {rr:Nat} {b:Bs}
def acG (H:ae) (rr:Nat) (b:Bs) (a n z:Nat) (σ:List AV) (G:ae):Prop:=
 ∃ k x v to:Nat,z=n - k∧k≤n∧a+k=x∧a+n=to∧v=aj b.2 a k∧G=RD H rr b x∧σ=L 66 ((((Tr.full 7).put (ag 0) (.ptr rr 0 2)).put (ag 6) (.c (.int .u64 (v:Int)))).put (ag 7) (ai to))
def J4 (H:ae) (rr:Nat) (b:Bs) (a n:Nat) (e:AExit) (σ:List AV) (G:ae):Prop:=
 e=.ret∧aA F_q42.res σ=some (.tup [.c (.int .u64 ((aj b.2 a n:Nat):Int)),ai 0])∧G=RD H rr b (a+n)
theorem J5 (hlt:rr<H.length) (hb:b.2.length≤8192) (hby:bm b.2) {a n:Nat} (hn:n≤64) (hle:a+n≤8 * b.2.length) (z:Nat) (σ:List AV) (G:ae) (hI:acG H rr b a n z (kill (bu i6) σ) G) :
  Ends ((execW P fk i6 σ G).bind (jumpW P fk DT 0)) fun s=>J4 H rr b a n s.e s.σ s.H:=by
 refine gN (acG H rr b a n) (J4 H rr b a n) rfl ?_ z σ G hI
 clear hI z σ G
 rintro z σ G ⟨k,x,v,to,rfl,hk,hx,hto,hv,rfl,hσ⟩
 have r0:=acF hlt b x
 have r1:=TO hlt b x
 rw [← cZ,hσ]
 by_cases hkn:k=n
 ·have hl:¬ (x:Int)<to:=by omega
  simp -implicitDefEqProofs [-ac,-AV.one,-ad,v8,i6,r1,hl]
  subst hkn
  exact ⟨rfl,by simp [F_q42,hv],by rw [hx]⟩
 ·have hl:(x:Int)<to:=by omega
  obtain ⟨c,hc⟩:∃ c,b.2[x / 8]?=some c:=⟨_,zq6 (by omega)⟩
  have hc256:=hby c (List.mem_of_getElem? hc)
  have hbit:=mP b.2 x c hc
  have hnext:aj b.2 a (k+1)=2 * v+c / 2 ^ (7 - x % 8) % 2:=by
   rw [← hx] at hbit
   rw [fW hbit,← hv]
   congr 1
   rw [hx]
   rcases Nat.mod_two_eq_zero_or_one (c / 2 ^ (7 - x % 8)) with h0 | h0<;>simp [h0]
  have hvb:v<9223372036854775808:=by
   have:=bK (bs:=b.2) (a:=a) (n:=k) (by omega)
   rw [← hv] at this
   have h63:2 ^ k≤2 ^ 63:=Nat.pow_le_pow_right (by omega) (by omega)
   have:(2:Nat) ^ 63=9223372036854775808:=by decide
   omega
  have q1:=pB hc .i64
  obtain ⟨d8,hd8⟩:=nm (x / 8)
  obtain ⟨m8,hm8⟩:=nm (x % 8)
  obtain ⟨s,hs⟩:=nm (7 - m8)
  have hs7:s≤7:=by omega
  rw [hm8,hs] at hnext
  rw [hd8] at q1
  have w1:IntKind.i64.wrap ((x:Int).tdiv 8)=(d8:Int):=by rw [wy,hd8];exact aq (by omega) (by omega)
  have w2:(x:Int).tmod 8=(m8:Int):=by rw [Ab,hm8]
  have w1':IntKind.i64.wrap ((x:Int) / 8)=(d8:Int):=by rw [aq (by omega) (by omega)];omega
  have w2':(x:Int) % 8=(m8:Int):=by omega
  have w3:IntKind.i64.wrap (7 - (m8:Int))=(s:Int):=by rw [aq (by omega) (by omega)];omega
  have w4:min s 8=s:=by omega
  obtain ⟨q,hq⟩:=nm (c / 2 ^ s)
  have hq256:q<256:=by
   have:=Nat.div_le_self c (2 ^ s)
   omega
  have w5:=tY c s
  rw [hq] at w5 hnext
  have w5':(c:Int) / 2 ^ s=(q:Int):=by
   rw [← hq];simp
  have w6:=Iu hq256
  obtain ⟨u,hu⟩:=nm (q % 2)
  rw [hu] at w6 hnext
  have w7:IntKind.u64.wrap (u:Int)=u:=bJ (by omega) (by omega)
  have w8:IntKind.u64.wrap ((v:Int) * 2)=((2 * v:Nat):Int):=by rw [bJ (by omega) (by omega)];omega
  have w9:=MW (v:=v) (b:=u) hvb (by omega)
  have w10:IntKind.i64.wrap ((x:Int)+1)=((x+1:Nat):Int):=by rw [aq (by omega) (by omega)];omega
  obtain ⟨v2,hv2⟩:=nm (2 * v)
  rw [hv2] at w8 w9 hnext
  obtain ⟨x1,hx1⟩:=nm (x+1)
  rw [hx1] at w10
  obtain ⟨nv,hnv⟩:=nm (v2+u)
  rw [hnv] at w9 hnext
  have s1:=fun σ=>Ph hlt b x x1 σ
  have hs0:¬ (s:Int)<0:=by omega
  simp -implicitDefEqProofs [-ac,-AV.one,-ad,v8,-ci,bS,oL,i6,r0,r1,hl,w1,w2,w1',w2',w3,w4,w5,w5',w6,w7,w8,w9,w10,q1,s1,hs0]
  exact ⟨n - (k+1),by omega,k+1,x1,nv,to,rfl,by omega,by omega,hto,hnext.symm,rfl,by simp⟩
theorem Get (hlt:rr<H.length) (hb:b.2.length≤8192) (hby:bm b.2) {a:Nat} (ha:a≤8 * b.2.length) (n:Nat) (hn:n≤64) :
  callW P fk [.ptr rr 0 2,ai n] (RD H rr b a)=if a+n≤8 * b.2.length then some (.tup [.c (.int .u64 (aj b.2 a n:Nat)),ai 0],RD H rr b (a+n)) else some (.tup [.c (.int .u64 0),ai 8],RD H rr b a):=by
 have hl:=aem b a rr (by omega) (by omega) (Ee hlt b a)
 have r1:=TO hlt b a
 have h0:¬ (n:Int)<0:=by omega
 have h1:¬ (n:Int) > 64:=by omega
 have h1':¬ (64:Int)<n:=by omega
 by_cases hle:a+n≤8 * b.2.length
 ·rw [if_pos hle,cH]
  have h2:¬ (n:Int) > ((b.2.length * 8:Nat):Int) - a:=by omega
  have h2':¬ ((b.2.length:Int) * 8) - a<n:=by omega
  obtain ⟨to,hto⟩:=nm (a+n)
  have w1:IntKind.i64.wrap ((a:Int)+n)=(to:Int):=by rw [aq (by omega) (by omega)];omega
  refine vw rfl (rfl:P.T fk=some F_q42) ?_;rw [F_q42,sP 7 66 _ (aF rfl)]
  simp -implicitDefEqProofs [-ac,-AV.one,-ad,v8,h0,h1,h1',hl,h2,h2',r1,w1]
  refine Ends.mono (Q:=fun s:St=>J4 H rr b a n s.e s.σ s.H) (J5 hlt hb hby hn hle n _ _ ?_) ?_
  ·exact ⟨0,a,0,to,by omega,by omega,by omega,hto,by simp [aj,num],rfl,by simp [i6]⟩
  rintro ⟨e,σ,G⟩ ⟨q1,q2,q3⟩
  simp only at q1 q2 q3
  subst q1;subst q3
  simp [F_q42] at q2
  simp [q2,hto]
 ·rw [if_neg hle]
  have h2:(n:Int) > ((b.2.length * 8:Nat):Int) - a:=by omega
  have h2':((b.2.length:Int) * 8) - a<n:=by omega
  rw [pj rfl];simp -implicitDefEqProofs [-ac,-AV.one,-ad,v8,h0,h1,h1',hl,h2,h2',r1]
theorem acH (hlt:rr<H.length) (hb:b.2.length≤8192) (hby:bm b.2) {a:Nat} (ha:a≤8 * b.2.length) (n:Nat) (hn:n≤64) (n':Int) (hn':n'=n) :
  callW P fk [.ptr rr 0 2,ai n'] (RD H rr b a)=if a+n≤8 * b.2.length then some (.tup [.c (.int .u64 (aj b.2 a n:Nat)),ai 0],RD H rr b (a+n)) else some (.tup [.c (.int .u64 0),ai 8],RD H rr b a):=by
 subst hn';exact Get hlt hb hby ha n hn
theorem acI (hlt:rr<H.length) (hb:b.2.length≤8192) (hby:bm b.2) {a:Nat} (ha:a≤8 * b.2.length) :
  ∃ (vb:Bs) (a':Nat),(aj b.2 a (bY a)=0→vb.2.length=b.2.length - (a+bY a) / 8)∧callW P vI [.ptr rr 0 2] (RD H rr b a)=some (.tup [bv vb,ai (if aj b.2 a (bY a)=0 then 0 else 3)],RD H rr b a'):=by
 have hg:=Get hlt hb hby ha (bY a) (by simp only [bY];omega)
 rw [if_pos (jB ha)] at hg
 have r0:=fun a=>acF hlt b a
 have r1:=fun a=>TO hlt b a
 have hst:=fun (a x:Nat) σ=>Ph hlt b a x σ
 obtain ⟨p,hp⟩:=nm (bY a)
 rw [hp] at hg ⊢
 have hple:a+p≤8 * b.2.length:=by rw [← hp];exact jB ha
 obtain ⟨m,hm⟩:=nm (a % 8)
 have w1:(a:Int).tmod 8=m:=by rw [Ab,hm]
 have w1':(a:Int) % 8=m:=by omega
 have w2:IntKind.i64.wrap (8 - (m:Int))=((8 - m:Nat):Int):=by rw [aq (by omega) (by omega)];omega
 have w3:((8 - m:Nat):Int).tmod 8=p:=by rw [Ab,← hp,bY,hm]
 obtain ⟨m',hm'⟩:∃ m',8 - m=m':=⟨_,rfl⟩
 rw [hm'] at w2 w3
 have w3':(m':Int) % 8=p:=by
  have:bY a=(8 - a % 8) % 8:=rfl
  omega
 obtain ⟨v,hv⟩:=nm (aj b.2 a p)
 rw [hv] at hg ⊢
 by_cases h0:v=0
 ·subst h0
  obtain ⟨x,hx⟩:=nm (a+p)
  rw [hx] at hg hple
  obtain ⟨d,hd⟩:=nm (x / 8)
  have w4:IntKind.i64.wrap ((x:Int).tdiv 8)=(d:Int):=by rw [wy,hd];exact aq (by omega) (by omega)
  have w4':IntKind.i64.wrap ((x:Int) / 8)=(d:Int):=by rw [aq (by omega) (by omega)];omega
  have c1:=fun dd=>eZ (b:=b) (i:=d) (by omega) .i64 dd
  have c2:=fun G=>jf (dD b d b.2.length) (by rw [cM];simp;omega) G
  obtain ⟨y,hy⟩:=nm (b.2.length * 8)
  have w5:IntKind.i64.wrap ((b.2.length:Int) * 8)=(y:Int):=by rw [aq (by omega) (by omega)];omega
  refine ⟨dD b d b.2.length,y,fun _=>by rw [cM,← hd,← hx];simp,?_⟩
  rw [i7 rfl];simp -implicitDefEqProofs [-ac,-AV.one,-ad,DX,r0,r1,w1,w1',w2,w3,w3',hg,w4,w4',c1,c2,w5,hst]
  rfl
 ·have h0':¬ (v:Int)=0:=by omega
  refine ⟨(true,[]),a,fun h=>(h0 h).elim,?_⟩
  rw [show bv (true,[])=bc from rfl]
  rw [i7 rfl];simp -implicitDefEqProofs [-ac,-AV.one,-ad,DX,r0,r1,w1,w1',w2,w3,w3',hg,h0,h0',hst]
end
theorem kS (w:Int) (H:ae):callW P vU [ai w] H=some (ab (decide (w=11∨w=15)),H):=by
 rw [tO rfl];simp -implicitDefEqProofs [-ac,-AV.one,-ad,JJ]
 split<;>simp_all
theorem m3 (n w:Nat) (hw:w=11∨w=15) (hn:n≤1000000) (H:ae):callW P ny [ai n,ai w] H=some (ai (aS n w:Nat),H):=by
 have h:=fun H=>kS w H
 have hd:decide ((w:Int)=11∨(w:Int)=15)=true:=by rcases hw with rfl | rfl<;>simp
 rw [hd] at h
 by_cases h1:n<1
 ·have h1':(n:Int)<1:=by omega
  rw [aS,if_pos (.inl h1)]
  rw [mi rfl];simp -implicitDefEqProofs [-ac,-AV.one,-ad,zF,h,h1']
 ·have h1':¬ (n:Int)<1:=by omega
  by_cases h2:n > 23
  ·have h2':(n:Int) > 23:=by omega
   have h2'':(23:Int)<n:=by omega
   rw [aS,if_pos (.inr h2)]
   rw [mi rfl];simp -implicitDefEqProofs [-ac,-AV.one,-ad,zF,h,h1',h2',h2'']
  ·have h2':¬ (n:Int) > 23:=by omega
   have h2'':¬ (23:Int)<n:=by omega
   rw [aS,if_neg (by omega)]
   have w1:IntKind.i64.wrap ((w:Int)+1)=((w+1:Nat):Int):=by rw [aq (by omega) (by omega)];omega
   have hm:n * (w+1)≤23 * 16:=Nat.mul_le_mul (by omega) (by omega)
   have w2:IntKind.i64.wrap ((n:Int) * (w+1:Nat))=((n * (w+1):Nat):Int):=by
    have:(n:Int) * ((w+1:Nat):Int)=((n * (w+1):Nat):Int):=by simp
    rw [this,aq (by omega) (by omega)]
   obtain ⟨w',hw'⟩:=nm (w+1)
   rw [hw'] at w1 w2 hm ⊢
   obtain ⟨p,hp⟩:=nm (n * w')
   rw [hp] at w2 hm ⊢
   have w3:IntKind.i64.wrap ((p:Int)+8)=((p+8:Nat):Int):=by rw [aq (by omega) (by omega)];omega
   obtain ⟨p8,hp8⟩:=nm (p+8)
   rw [hp8] at w3
   have w4:IntKind.i64.wrap ((p8:Int) - 1)=((p+7:Nat):Int):=by rw [aq (by omega) (by omega)];omega
   obtain ⟨p7,hp7⟩:=nm (p+7)
   rw [hp7] at w4 ⊢
   have w5:IntKind.i64.wrap ((p7:Int).tdiv 8)=((p7 / 8:Nat):Int):=by rw [wy];exact aq (by omega) (by omega)
   have w5':IntKind.i64.wrap ((p7:Int) / 8)=((p7 / 8:Nat):Int):=by rw [aq (by omega) (by omega)];omega
   obtain ⟨q,hq⟩:=nm (p7 / 8)
   rw [hq] at w5 w5' ⊢
   rw [mi rfl];simp -implicitDefEqProofs [-ac,-AV.one,-ad,zF,h,h1',h2',h2'',w1,w2,w3,w4,w5,w5']
theorem mu (l:List Nat) (n:Nat):nvs (l++[n])=nvs l++[[ai n]]:=by simp [nvs]
theorem dn (l:List Nat):(nvs l).length=l.length:=by simp [nvs]
theorem uR {m:Md} {d bytes:Nat} {l:List (List AV)} {v:AV} (hm:m.row (some d)=false) (hb:bytes≤1000) (h:l.length≤100000) (f:Option Nat) (σ:List AV) (H:ae) :
  fy m (some d) 1 bytes (lst true 1 (some d) l) (.vs 1 f [[v]]) σ H=some (lst true 1 (some d) (l++[[v]]),σ.map (bV [d]),H):=
 jV hm (fun H=>cR H 1 f [[v]]) (by
  have:(l.length+1) * bytes≤100001 * 1000:=Nat.mul_le_mul (by omega) hb
  simp only [List.length_cons,List.length_nil,aw,Nat.zero_add];omega) (by simp only [List.length_cons,List.length_nil,aw];omega) σ H
section
variable {M:ae} {rr:Nat} {b:Bs}
def acJ (M:ae) (rr:Nat) (b:Bs) (w:Nat) (z:Nat) (σ:List AV) (G:ae):Prop:=
 ∃ k a:Nat,k+(z+1)=23∧a=k * (w+1)∧a≤8 * b.2.length∧lr b.2 w 23=lr b.2 w (z+1)∧G=RD M rr b a∧σ=L 69 ((((Tr.full 7).put (ag 1) (ai w)).put (ag 7) (lst true 1 (some 50) (nvs (bL b.2 w k)))).put (ag 8) (.ptr rr 0 2))
def dE (bs:List Nat) (w:Nat) (f:Option Nat):AV:=if (aO bs w).2=0 then .tup [lst true 1 f (nvs (bL bs w (aO bs w).1)),ai (aS (aO bs w).1 w:Nat),ai 0] else .tup [bc,ai 0,ai ((aO bs w).2:Nat)]
def J6 (M:ae) (rr:Nat) (b:Bs) (w:Nat) (e:AExit) (σ:List AV) (G:ae):Prop:=
 e=.ret∧aA F_q43.res σ=some (dE b.2 w (some 50))∧∃ a,G=RD M rr b a
theorem pC {bs:List Nat} {w e:Nat} {f:Option Nat} (h:lr bs w 23=(0,e)) (he:e≠0):dE bs w f=.tup [bc,ai 0,ai (e:Nat)]:=by
 have:=Cw h he
 rw [dE,this]
 rw [if_neg he]
theorem Gv (hlt:rr<M.length) (hb:b.2.length≤8192) (hby:bm b.2) {w:Nat} (hw:w=11∨w=15) (z:Nat) (σ:List AV) (G:ae) (hI:acJ M rr b w z (kill (bu eJ) σ) G) :
  Ends ((execW P jZ eJ σ G).bind (jumpW P jZ DU 0)) fun s=>J6 M rr b w s.e s.σ s.H:=by
 refine gN (acJ M rr b w) (J6 M rr b w) rfl ?_ z σ G hI
 clear hI z σ G
 rintro z σ G ⟨k,a,hk,ha,hle,hlr,rfl,hσ⟩
 rw [← cZ,hσ]
 have g1:=acH hlt hb hby hle 1 (by omega) 1 rfl
 obtain ⟨R,hR⟩:=nm (lr b.2 w 23)
 rw [hR] at hlr
 have hz:22 - z=k:=by omega
 rw [lr,hz] at hlr
 by_cases h1:a+1≤8 * b.2.length
 ·rw [if_pos h1] at g1
  have g2:=Get hlt hb hby h1 w (by omega)
  by_cases h2:a+1+w≤8 * b.2.length
  ·rw [if_pos h2] at g2
   rw [if_neg (by omega)] at hlr
   have e1:aj b.2 a 1=jC b.2 w k:=by rw [ha];rfl
   have e2:aj b.2 (a+1) w=kR b.2 w k:=by rw [ha];rfl
   rw [e1] at g1
   rw [e2] at g2
   have hm2:jC b.2 w k<2:=mY _ _
   have hn:kR b.2 w k<2 ^ 15:=by
    have:=bK (bs:=b.2) (a:=a+1) (n:=w) (by omega)
    rw [e2] at this
    exact Nat.lt_of_lt_of_le this (Nat.pow_le_pow_right (by omega) (by omega))
   have e15:(2:Nat) ^ 15=32768:=by decide
   obtain ⟨nn,hnn⟩:=nm (kR b.2 w k)
   obtain ⟨mm,hmm⟩:=nm (jC b.2 w k)
   have hsn:=tZ b.2 w k
   rw [hnn] at g2 hlr hn hsn
   rw [hmm] at g1 hlr hm2
   obtain ⟨a1,ha1⟩:=nm (a+1)
   rw [ha1] at g1 g2 h2
   obtain ⟨a2,ha2⟩:=nm (a1+w)
   rw [ha2] at g2 h2
   by_cases h3:nn=0
   ·rw [if_pos h3] at hlr
    have h3':(nn:Int)=0:=by omega
    have hres:=pC (f:=some 50) (hR.trans hlr) (by omega)
    simp -implicitDefEqProofs [-ac,-AV.one,-ad,oY,eJ,g1,g2,h3,h3']
    exact ⟨rfl,by rw [hres];simp [F_q43],_,rfl⟩
   ·rw [if_neg h3] at hlr
    have h3':¬ (nn:Int)=0:=by omega
    have w1:IntKind.i64.wrap (nn:Int)=nn:=aq (by omega) (by omega)
    have hap:=fun σ H=>uR (m:=P.md jZ) (d:=50) (bytes:=8) (v:=ai nn) (Pb 50) (by omega) (by rw [dn,cu];omega) (l:=nvs (bL b.2 w k)) (some 49) σ H
    rw [← mu,← hsn] at hap
    by_cases h4:mm=1
    ·rw [if_pos h4] at hlr
     have h4':(mm:Int)=1:=by omega
     have hlen:(nvs (bL b.2 w (k+1))).length=k+1:=by rw [dn,cu]
     by_cases h5:k+1=23
     ·have h5':((k+1:Nat):Int)=23:=by omega
      have hz0:z=0:=by omega
      rw [hz0,lr] at hlr
      have hres:=pC (f:=some 50) (hR.trans hlr) (by omega)
      obtain ⟨k1,hk1⟩:=nm (k+1)
      rw [hk1] at hap hlen h5'
      simp -implicitDefEqProofs [-ac,-AV.one,-ad,oY,eJ,g1,g2,h3,h3',w1,hap,h4,h4',hlen,h5']
      exact ⟨rfl,by rw [hres];simp [F_q43],_,rfl⟩
     ·have h5':¬ ((k+1:Nat):Int)=23:=by omega
      obtain ⟨k1,hk1⟩:=nm (k+1)
      rw [hk1] at hap hlen h5'
      have h5'':¬ k1=23:=by omega
      simp -implicitDefEqProofs [-ac,-AV.one,-ad,oY,eJ,g1,g2,h3,h3',w1,hap,h4,h4',hlen,h5',h5'']
      refine ⟨z - 1,by omega,k1,a2,by omega,?_,h2,by rw [hR,hlr,show z - 1+1=z by omega],rfl,by simp⟩
      rw [← hk1,Nat.add_mul,← ha];omega
    ·rw [if_neg h4] at hlr
     have h4':¬ (mm:Int)=1:=by omega
     obtain ⟨v,a',_,hrest⟩:=acI hlt hb hby (a:=a2) (by omega)
     have hk23:k+1≤23:=by omega
     have hsz:=fun H=>m3 (k+1) w hw (by omega) H
     have hlen:(nvs (bL b.2 w (k+1))).length=k+1:=by rw [dn,cu]
     have hA2:a2=(k+1) * (w+1):=by rw [Nat.add_mul,← ha];omega
     have hL:aO b.2 w=if aj b.2 a2 (bY a2)=0 then (k+1,0) else (0,3):=by
      rw [aO,hR,hlr]
      simp only [if_true,← hA2]
     obtain ⟨k1,hk1⟩:=nm (k+1)
     rw [hk1] at hap hlen hsz hL
     obtain ⟨ls,hls⟩:=nm (aS k1 w)
     rw [hls] at hsz
     by_cases h6:aj b.2 a2 (bY a2)=0
     ·rw [if_pos h6] at hrest hL
      simp -implicitDefEqProofs [-ac,-AV.one,-ad,oY,eJ,g1,g2,h3,h3',w1,hap,h4,h4',hlen,hrest,hsz]
      exact ⟨rfl,by rw [dE,hL];simp [F_q43,hls],_,rfl⟩
     ·rw [if_neg h6] at hrest hL
      simp -implicitDefEqProofs [-ac,-AV.one,-ad,oY,eJ,g1,g2,h3,h3',w1,hap,h4,h4',hlen,hrest,hsz]
      exact ⟨rfl,by rw [dE,hL];simp [F_q43],_,rfl⟩
  ·rw [if_neg h2] at g2
   rw [if_pos (by omega)] at hlr
   have hres:=pC (f:=some 50) (hR.trans hlr) (by omega)
   simp -implicitDefEqProofs [-ac,-AV.one,-ad,oY,eJ,g1,g2]
   exact ⟨rfl,by rw [hres];simp [F_q43],_,rfl⟩
 ·rw [if_neg h1] at g1
  rw [if_pos (by omega)] at hlr
  have hres:=pC (f:=some 50) (hR.trans hlr) (by omega)
  simp -implicitDefEqProofs [-ac,-AV.one,-ad,oY,eJ,g1]
  exact ⟨rfl,by rw [hres];simp [F_q43],_,rfl⟩
end
theorem qp (H:ae) (x:AObj) (b:Bs) (a:Nat):RD (H++[x]) H.length b a=H++[.row [bv b,ai a]]:=by
 rw [RD,List.set_append_right _ _ (Nat.le_refl _)];simp
theorem J7 (bs:List Nat) (w:Nat) (f:Option Nat):ly (dE bs w f)=dE bs w none:=by
 unfold dE;split<;>simp
theorem J8 (bs:List Nat) (w:Nat) (f:Option Nat) (n:Nat) (H:ae):frz n H (dE bs w f)=some (dE bs w f):=by
 unfold dE;split<;>simp
theorem Gw (bs:List Nat) (w:Nat) (f:Option Nat):(dE bs w f).free=true:=by
 unfold dE;split<;>simp
attribute [simp] J7 J8 Gw
theorem Gx {bs:List Nat} {w m:Nat} (hm:23 * (w+1)≤8 * m) (f:Option Nat):dE (bs.take m) w f=dE bs w f:=by
 unfold dE
 rw [Cx hm]
 by_cases h:(aO bs w).2=0
 ·rw [if_pos h,if_pos h]
  obtain ⟨h1,h2,h3⟩:=fP h
  have h4:=J0 (w:=w) h2
  rw [Cy (by omega)]
 ·rw [if_neg h,if_neg h]
theorem qq (b:Bs) (hb:b.2.length≤8192) (hby:bm b.2) {w:Nat} (hw:w=11∨w=15) (H:ae):callW P jZ [bv b,ai w] H=some (dE b.2 w none,H++[.other]):=by
 have h:=fun H=>kS w H
 have hd:decide ((w:Int)=11∨(w:Int)=15)=true:=by rcases hw with rfl | rfl<;>simp
 rw [hd] at h
 have hs:∀ H,callW P ny [ai 23,ai w] H=some (ai (aS 23 w:Nat),H):=fun H=>m3 23 w hw (by omega) H
 have h23:=NV hw
 obtain ⟨ls,hls⟩:=nm (aS 23 w)
 rw [hls] at hs h23
 obtain ⟨j,hj,hjl,hjv⟩:∃ j:Nat,mn (b.2.length:Int) (ls:Int)=j∧j≤b.2.length∧(j=b.2.length∨j=ls):=by
  by_cases hc:(ls:Int)<b.2.length
  ·exact ⟨ls,by simp only [mn];rw [if_pos hc],by omega,.inr rfl⟩
  ·exact ⟨b.2.length,by simp only [mn];rw [if_neg hc],by omega,.inl rfl⟩
 have hc:=fun d=>Ac (b:=b) (j:=j) hjl .i64 d
 have hb2:(dD b 0 j).2=b.2.take j:=jD b j
 have hres:∀ f,dE (b.2.take j) w f=dE b.2 w f:=fun f=>by
  rcases hjv with rfl | rfl
  ·rw [List.take_length]
  ·exact Gx (by omega) f
 obtain ⟨z,hrd⟩:=kg (dD b 0 j) (by rw [hb2];simp;omega) H
 rw [hb2] at hrd
 rw [cH]
 refine call_post 7 69 rfl (rfl:P.T jZ=some F_q43) rfl (aF rfl) (J6 (H++[.row [bv (z,b.2.take j),ai 0]]) H.length (z,b.2.take j) w) ?_ ?_
 ·rintro e σ G ⟨rfl,q2,a,rfl⟩
  rw [hres] at q2
  rw [qp]
  exact ⟨rfl,_,q2,by simp,by simp⟩
 have hM:=qp H (.row [bv (z,b.2.take j),ai 0]) (z,b.2.take j) 0
 rw [F_q43];simp -implicitDefEqProofs [-ac,-AV.one,-ad,oY,h,hs,hj,hc,hrd]
 refine Gv (by simp) (by simp;omega) (fun x hx=>hby x (List.mem_of_mem_take hx)) hw 22 _ _ ?_
 exact ⟨0,0,by omega,by omega,by omega,rfl,hM.symm,by simp [eJ,bL,nvs]⟩
def lx (p:List AV→Bool):List (List AV)→Nat→Option Nat
 | [],_=>none
 | c :: r,i=>if p c=true then some i else lx p r (i+1)
def Gy (o:Option Nat):Int:=match o with
 | some i=>i
 | none=>-1
theorem wF {p:List AV→Bool}:∀ (l:List (List AV)) (i:Nat),(lx p l i).isSome=l.any p
 | [],_=>rfl
 | c :: r,i=>by
  simp only [lx,List.any_cons]
  cases h:p c
  ·simp [wF r (i+1)]
  ·simp
section
variable {f0:FuncId} {k:Nat} {ld:Option Nat}
def acK (z:Bool) (k:Nat) (l:List (List AV)) (f:FuncId) (cs:List AV) (p:List AV→Bool) (H:ae) (n:Nat) (σ:List AV) (G:ae):Prop:=
 ∃ i,i+n=l.length∧lx p l 0=lx p (l.drop i) i∧G=H∧σ=L 19 (((((Tr.full 5).put (ag 0) (lst z k none l)).put (ag 1) (.fn f cs)).put (ag 7) (ai l.length)).put (ag 8) (ai i))
def J9 (l:List (List AV)) (p:List AV→Bool) (H:ae) (e:AExit) (σ:List AV) (G:ae):Prop:=
 G=H∧((e=.exit 0∧lx p l 0=none∧kill [0,1,7,8,9] σ=L 19 (Tr.full 5))∨(e=.ret∧∃ j,lx p l 0=some j∧aA (mw k ld).res σ=some (ai (j:Nat))))
theorem Ka (hl:ld=some k∨(ld=none∧k=1)) {z:Bool} {l:List (List AV)} (hk:∀ c∈l,c.length=k) (hm:l.length≤1000000000) {f:FuncId} {cs:List AV} {p:List AV→Bool} (hW:(P.W f0 || !P.W f)=true) {H:ae}
  (hpl:∀ c∈l,(gi ld c).free=true∧(gi ld c).isBox=false∧pln (gi ld c)=gi ld c) (hf:∀ c∈l,callW P f (gi ld c :: cs) H=some (ab (p c),H)) (n:Nat) (σ:List AV) (G:ae) (hI:acK z k l f cs p H n (kill (bu (uc k ld)) σ) G) :
  Ends (execW P f0 (.loop (uc k ld)) σ G) fun s=>J9 (k:=k) (ld:=ld) l p H s.e s.σ s.H:=by
 refine aX (fun n σ G=>acK z k l f cs p H n σ G) (J9 (k:=k) (ld:=ld) l p H) ?_ n σ G hI
 clear hI n σ G
 rintro n σ G ⟨i,hn,hidx,rfl,rfl⟩
 by_cases hi:i<l.length
 ·have hi':(i:Int)<l.length:=by omega
  obtain ⟨c,hc⟩:∃ c,l[i]?=some c:=⟨_,zq6 hi⟩
  have hmem:=List.mem_of_getElem? hc
  have q1:=gJ z k none hc .i64
  have hlen:=hk c hmem
  have q2:bd ld c 0=some (gi ld c):=by
   rcases hl with rfl | ⟨rfl,rfl⟩
   ·subst hlen;simp [bd,gi]
   ·match c,hlen with
    | [x],_=>rfl
  obtain ⟨p1,p2,p3⟩:=hpl c hmem
  have q3:=hf c hmem
  have hdr:l.drop i=c :: l.drop (i+1):=by
   rw [List.drop_eq_getElem_cons hi]
   rw [zq6 hi] at hc
   rw [zq1 hc]
  rw [hdr,lx] at hidx
  have p4:=fun n=>Rz p2 n
  have w1:IntKind.i64.wrap ((i:Int)+1)=((i+1:Nat):Int):=by rw [aq (by omega) (by omega)];omega
  have hW':P.W f0=true∨P.W f=false:=by simpa using hW
  generalize gi ld c=x at *
  obtain ⟨i1,hi1⟩:=nm (i+1)
  rw [hi1] at w1 hidx
  cases hp:p c with
  | true =>
   rw [hp] at hidx q3
   simp -implicitDefEqProofs [-ac,-AV.one,-bd,uc,hi,hi',q1,q2,p1,p2,p3,p4,q3,hW']
   exact ⟨rfl,.inr ⟨rfl,i,by simpa using hidx,by simp [mw]⟩⟩
  | false =>
   rw [hp] at hidx q3
   simp -implicitDefEqProofs [-ac,-AV.one,-bd,uc,hi,hi',q1,q2,p1,p2,p3,p4,q3,w1,hW']
   exact ⟨n - 1,by omega,i1,by omega,by simpa using hidx,rfl,by simp⟩
 ·have hi':¬ (i:Int)<l.length:=by omega
  have hd:l.drop i=[]:=List.drop_eq_nil_of_le (by omega)
  rw [hd,lx] at hidx
  simp -implicitDefEqProofs [-ac,-AV.one,-bd,uc,hi,hi']
  exact ⟨rfl,.inl ⟨rfl,hidx,by simp⟩⟩
theorem Kb (hT:P.T f0=some (mw k ld)) (hX:∀ a H,P.X f0 a H=none) (hK:P.K f0=false) (hl:ld=some k∨(ld=none∧k=1)) {z:Bool} {l:List (List AV)} (hk:∀ c∈l,c.length=k) (hm:l.length≤1000000000) {f:FuncId} {cs:List AV} {p:List AV→Bool} (hW:(P.W f0 || !P.W f)=true) {H:ae}
  (hpl:∀ c∈l,(gi ld c).free=true∧(gi ld c).isBox=false∧pln (gi ld c)=gi ld c) (hf:∀ c∈l,callW P f (gi ld c :: cs) H=some (ab (p c),H)):callW P f0 [lst z k none l,.fn f cs] H=some (ai (Gy (lx p l 0)),H):=by
 rw [cH]
 refine call_post 5 19 (hX _ _) hT rfl (aF rfl) (fun e σ G=>e=.ret∧G=H∧aA (mw k ld).res σ=some (ai (Gy (lx p l 0)))) ?_ ?_
 ·rintro e σ G ⟨rfl,rfl,h⟩
  exact ⟨rfl,_,h,rfl,by simp [hK]⟩
 rw [mw]
 simp -implicitDefEqProofs [-ac,-AV.one,Ef]
 repeat rw [Option.bind_assoc]
 refine Ends.block (P:=J9 (k:=k) (ld:=ld) l p H) (Ka (z:=z) hl hk hm hW hpl hf l.length _ _ ⟨0,by omega,by simp,rfl,by simp [uc]⟩) ?_
 rintro e σ1 G1 ⟨rfl,⟨rfl,k1,k2⟩ | ⟨rfl,j,k1,k2⟩⟩
 ·simp -implicitDefEqProofs [k2]
  simp [k1,mw,Gy]
 ·simp [mw] at k2
  simp -implicitDefEqProofs [k1,Gy,k2]
theorem ud {f1:FuncId} (hT1:P.T f1=some (CF f0)) (hX1:∀ a H,P.X f1 a H=none) (hK1:P.K f1=false) (hW1:(P.W f1 || !P.W f0)=true) (hT:P.T f0=some (mw k ld)) (hX:∀ a H,P.X f0 a H=none) (hK:P.K f0=false) (hl:ld=some k∨(ld=none∧k=1)) {z:Bool} {l:List (List AV)} (hk:∀ c∈l,c.length=k) (hm:l.length≤1000000000) {f:FuncId} {cs:List AV} (hcs:AV.freeAll cs=true) {p:List AV→Bool} (hW:(P.W f0 || !P.W f)=true) {H:ae}
  (hpl:∀ c∈l,(gi ld c).free=true∧(gi ld c).isBox=false∧pln (gi ld c)=gi ld c) (hf:∀ c∈l,callW P f (gi ld c :: cs) H=some (ab (p c),H)):callW P f1 [lst z k none l,.fn f cs] H=some (ab (l.any p),H):=by
 have h:=Kb (z:=z) hT hX hK hl hk hm hW hpl hf
 have hW':P.W f1=true∨P.W f0=false:=by simpa using hW1
 rw [aH 4 (hX1 _ _) hT1 (aF rfl)]
 have hany:=wF (p:=p) l 0
 cases hi:lx p l 0 with
 | none =>
  rw [hi] at h hany
  simp only [Gy] at h
  rw [← hany]
  simp -implicitDefEqProofs [-ac,-AV.one,CF,h,hW',hcs,hK1]
 | some j =>
  rw [hi] at h hany
  simp only [Gy] at h
  rw [← hany]
  have h0:(j:Int) ≥ 0:=by omega
  simp -implicitDefEqProofs [-ac,-AV.one,CF,h,hW',hcs,hK1,h0]
end
theorem jE (w:Int) (H:ae):callW P vJ [ai w] H=some (ab (decide (w=10∨w=16)),H):=by
 rw [uO rfl];simp -implicitDefEqProofs [-ac,-AV.one,-ad,Jz]
 split<;>simp_all
theorem kT (w:Int) (H:ae):callW P vL [ai w] H=some (ai (bn w:Nat),H):=by
 rw [tP rfl];simp -implicitDefEqProofs [-ac,-AV.one,-ad,JB,bn]
 split<;>simp_all
theorem eK (w:Int) (H:ae):callW P oV [ai w] H=some (ai (aI w:Nat),H):=by
 rw [pk rfl];simp -implicitDefEqProofs [-ac,-AV.one,-ad,JL,aI]
 split<;>simp_all
theorem Ad (part:Bool) (w:Int) (H:ae):callW P vK [ab part,ai w] H=some (ai (bN part w:Nat),H):=by
 rw [Co rfl];simp -implicitDefEqProofs (disch:=first | omega | (simp;done) | fail) [-ac,-AV.one,-ad,JA,jE,aq,bN]
 repeat' split
 all_goals simp_all
theorem xS (n:Nat) (H:ae):callW P tr [ai n] H=some (ab (decide (2047<n)),H):=by
 by_cases h:(n:Int) > 2047
 ·have h':(2047:Int)<n:=h
  have h2:2047<n:=by omega
  rw [mj rfl];simp -implicitDefEqProofs [-ac,-AV.one,-ad,D6,h,h',h2]
 ·have h':¬ (2047:Int)<n:=h
  have h2:¬ 2047<n:=by omega
  rw [mj rfl];simp -implicitDefEqProofs [-ac,-AV.one,-ad,D6,h,h',h2]
theorem Kc (z:Bool) (l:List Nat) (hl:l.length≤100000) (H:ae):callW P DQ [lst z 1 none (nvs l),.fn tr []] H=some (ab (l.any fun n=>decide (2047<n)),H):=by
 have h:=ud (f1:=DQ) (f0:=Ji) (k:=1) (ld:=none) (z:=z) (l:=nvs l) (f:=tr) (cs:=[]) (p:=fun c=>match c with
  | [.c (.int _ n)]=>decide (2047<n)
  | _=>false) (H:=H) rfl (fun _ _=>rfl) rfl rfl rfl (fun _ _=>rfl) rfl (.inr ⟨rfl,rfl⟩) (fun c hc=>by obtain ⟨n,_,rfl⟩:=List.mem_map.1 hc;rfl) (by rw [dn];omega) rfl rfl (fun c hc=>by obtain ⟨n,_,rfl⟩:=List.mem_map.1 hc;exact ⟨rfl,rfl,rfl⟩)
  (fun c hc=>by
   obtain ⟨n,_,rfl⟩:=List.mem_map.1 hc
   have:=xS n H
   simp only [gi]
   rw [this]
   have e:decide ((2047:Int)<(n:Int))=decide (2047<n):=decide_eq_decide.2 (by omega)
   rw [← e])
 rw [h]
 congr 3
 rw [nvs,List.any_map]
 congr 1
 funext n
 show decide ((2047:Int)<(n:Int))=decide (2047<n)
 exact decide_eq_decide.2 (by omega)
theorem jg (l:List Bs) (b:Bs):bvs (l++[b])=bvs l++[[bv b]]:=by simp [bvs]
theorem bA (l:List Bs):(bvs l).length=l.length:=by simp [bvs]
theorem qr {l:List Nat} {i n:Nat} (h:l[i]?=some n) (z:Bool) (f:Option Nat) (k:IntKind):bW 1 none (lst z 1 f (nvs l)) (.c (.int k i))=some (.vp [ai n] 0):=gJ _ _ _ (by simp [nvs,h]) k
theorem gO {l:List Bs} {i:Nat} {b:Bs} (h:l[i]?=some b) (z:Bool) (f:Option Nat) (k:IntKind):bW 1 none (lst z 1 f (bvs l)) (.c (.int k i))=some (.vp [bv b] 0):=gJ _ _ _ (by simp [bvs,h]) k
def acL (H:ae) (zl:Bool) (l:List Nat) (bs:List Nat) (z:Nat) (σ:List AV) (G:ae):Prop:=
 ∃ (i:Nat) (b:Bs) (out:List Bs),i+z=l.length∧out.length=i∧b.2.length≤10000∧eP bs l=(eP b.2 (l.drop i)).map (fun r=>out.map (·.2)++r)∧G=H ∧
  σ=L 51 (((((Tr.full 6).put (ag 0) (bv b)).put (ag 1) (lst zl 1 none (nvs l))).put (ag 6) (lst true 1 (some 34) (bvs out))).put (ag 7) (ai i))
def Kd (H:ae) (l:List Nat) (bs:List Nat) (e:AExit) (σ:List AV) (G:ae):Prop:=
 e=.ret∧G=H∧∃ out:List Bs,out.map (·.2)=(aV bs l).2∧aA F_q54.res σ=some (.tup [lst true 1 (some 50) (bvs out),ai ((aV bs l).1:Nat)])
theorem bvf (x:Bs):lst x.1 1 none (ax x.2)=bv x:=rfl
theorem Ae {H:ae} {zl:Bool} {l bs:List Nat} (hll:l.length≤23) (hsm:∀ n∈l,n≤2047) (hnov:(l.any fun n=>decide (2047<n))=false) (z:Nat) (σ:List AV) (G:ae) (hI:acL H zl l bs z (kill (bu gt) σ) G) :
  Ends ((execW P j9 gt σ G).bind (jumpW P j9 DY 0)) fun s=>Kd H l bs s.e s.σ s.H:=by
 refine gN (acL H zl l bs) (Kd H l bs) rfl ?_ z σ G hI
 clear hI z σ G
 rintro z σ G ⟨i,b,out,hz,ho,hb,hcut,rfl,hσ⟩
 rw [← cZ,hσ]
 have hlen:(nvs l).length=l.length:=dn l
 have hR:aV bs l=match eP bs l with
  | none=>(8,[])
  | some ff=>(0,ff):=by rw [aV,hnov];rfl
 by_cases hi:i<l.length
 ·have hi':(i:Int)<l.length:=by omega
  obtain ⟨n,hn⟩:∃ n,l[i]?=some n:=⟨_,zq6 hi⟩
  have hn2:=hsm n (List.mem_of_getElem? hn)
  have q1:=qr hn zl none .i64
  have hdr:l.drop i=n :: l.drop (i+1):=by
   rw [List.drop_eq_getElem_cons hi]
   rw [zq6 hi] at hn
   rw [zq1 hn]
  rw [hdr,eP] at hcut
  by_cases hc:b.2.length<n
  ·have hc':(n:Int) > b.2.length:=by omega
   have hc'':(b.2.length:Int)<n:=by omega
   rw [if_pos hc,Option.map_none] at hcut
   rw [hcut] at hR
   simp -implicitDefEqProofs [-ac,-AV.one,-ad,qX,gt,hlen,hi,hi',q1,hc,hc',hc'']
   exact ⟨rfl,rfl,[],by rw [hR];rfl,by rw [hR];simp [F_q54,bvs]⟩
  ·have hc':¬ (n:Int) > b.2.length:=by omega
   have hc'':¬ (b.2.length:Int)<n:=by omega
   rw [if_neg hc] at hcut
   have c1:=fun d=>CD (b:=b) (j:=n) (by omega) .i64 .i64 d
   have c3:=fun d=>eZ (b:=b) (i:=n) (by omega) .i64 d
   have e1:=jD b n
   have e2:=cM b n
   obtain ⟨x,hx⟩:=nm (dD b 0 n)
   obtain ⟨y,hy⟩:=nm (dD b n b.2.length)
   rw [hx] at c1 e1
   rw [hy] at c3 e2
   have c2:=fun H=>jf x (by rw [e1];simp;omega) H
   have hap:=fun σ H=>uR (m:=P.md j9) (d:=34) (bytes:=24) (v:=bv x) (JV 34) (by omega) (by rw [bA];omega) (l:=bvs out) (some 33) σ H
   rw [← jg] at hap
   have w6:IntKind.i64.wrap ((i:Int)+1)=((i+1:Nat):Int):=by rw [aq (by omega) (by omega)];omega
   obtain ⟨i1,hi1⟩:=nm (i+1)
   rw [hi1] at w6 hcut
   simp -implicitDefEqProofs [-ac,-AV.one,-ad,qX,gt,hlen,hi,hi',q1,hc,hc',hc'',c1,bvf,c2,hap,c3,w6]
   refine ⟨z - 1,by omega,i1,y,out++[x],by omega,by simp;omega,by rw [e2];simp;omega,?_,rfl,by simp⟩
   rw [hcut,e2]
   cases eP (b.2.drop n) (l.drop i1) with
   | none=>rfl
   | some r=>simp [e1]
 ·have hi':¬ (i:Int)<l.length:=by omega
  have hd:l.drop i=[]:=List.drop_eq_nil_of_le (by omega)
  rw [hd,eP] at hcut
  by_cases h0:b.2.length=0
  ·have h0':(b.2.length:Int)=0:=by omega
   have h0'':b.2=[]:=zq8 h0
   rw [if_pos h0,Option.map_none] at hcut
   rw [hcut] at hR
   simp -implicitDefEqProofs [-ac,-AV.one,-ad,qX,gt,hlen,hi,hi',h0,h0',h0'']
   exact ⟨rfl,rfl,[],by rw [hR];rfl,by rw [hR];simp [F_q54,bvs]⟩
  ·have h0':¬ (b.2.length:Int)=0:=by omega
   have h0'':¬ b.2=[]:=fun h=>h0 (by rw [h];rfl)
   rw [if_neg h0] at hcut
   rw [hcut] at hR
   have c2:=fun H=>jf b (by omega) H
   have hg:((out.length+1) * 24:Nat)≤100000:=by omega
   obtain ⟨cs,hap⟩:=xy (m:=P.md j9) (d:=50) (sz:=1) (bytes:=24) (c:=34) (l:=bvs out) (l':=[[bv b]]) (x:=.vs 1 (some 49) [[bv b]]) (JV 50) (fun H=>cR H 1 (some 49) [[bv b]]) (.inr (by simp)) (by simp [bA,aw];omega) (by simp [bA,aw];omega)
   rw [← jg] at hap
   simp -implicitDefEqProofs [-ac,-AV.one,-ad,qX,gt,hlen,hi,hi',h0,h0',h0'',c2,bvf,hap]
   refine ⟨rfl,rfl,out++[b],by rw [hR];simp,?_⟩
   have hne:bvs (out++[b])≠[]:=by simp [bvs]
   rw [hR]
   simp [F_q54,iW hne]
theorem ue {zl:Bool} {l:List Nat} (b:Bs) (hb:b.2.length≤10000) (hll:l.length≤23) (H:ae):∃ out:List Bs,out.map (·.2)=(aV b.2 l).2∧callW P j9 [bv b,lst zl 1 none (nvs l)] H=some (.tup [lst true 1 none (bvs out),ai ((aV b.2 l).1:Nat)],H):=by
 have hov:=Kc zl l (by omega) H
 cases hany:(l.any fun n=>decide (2047<n)) with
 | true =>
  have hR:aV b.2 l=(3,[]):=by rw [aV,if_pos hany]
  rw [hany] at hov
  refine ⟨[],by rw [hR];rfl,?_⟩
  rw [hR]
  rw [xN rfl];simp -implicitDefEqProofs [-ac,-AV.one,-ad,qX,hov]
  rfl
 | false =>
  rw [hany] at hov
  have hsm:∀ n∈l,n≤2047:=fun n hn=>by
   have:=List.any_eq_false.1 hany n hn
   simpa using this
  have key:Ends (callW P j9 [bv b,lst zl 1 none (nvs l)] H) fun y=>∃ out:List Bs,out.map (·.2)=(aV b.2 l).2∧y=(.tup [lst true 1 none (bvs out),ai ((aV b.2 l).1:Nat)],H):=by
   refine call_post 6 51 rfl (rfl:P.T j9=some F_q54) rfl (aF rfl) (Kd H l b.2) ?_ ?_
   ·rintro e σ G ⟨rfl,rfl,out,h1,h2⟩
    exact ⟨rfl,_,h2,by simp,by simp;exact ⟨out,h1,rfl⟩⟩
   rw [F_q54];simp -implicitDefEqProofs [-ac,-AV.one,-ad,qX,hov]
   refine Ae (zl:=zl) hll hsm hany l.length _ _ ?_
   refine ⟨0,b,[],by omega,rfl,hb,?_,rfl,by simp [gt,bvs]⟩
   simp
  obtain ⟨y,h1,out,h2,rfl⟩:=key
  exact ⟨out,h2,h1⟩
theorem TP {H:ae} {rr:Nat} (h:rr<H.length) (N:ae) (b:Bs) (a:Nat):RD (H++N) rr b a=RD H rr b a++N:=by
 rw [RD,RD,List.set_append_left _ _ h]
section
variable {M:ae} {rr:Nat} {b:Bs}
theorem de (hlt:rr<M.length) (hb:b.2.length≤8192) (hby:bm b.2) {x:Nat} (hx:∀ a:Nat,ba (RD M rr b a) x 0 1 1=some [.ptr rr 0 2]) {a n a':Nat} (ha:a+n=a') (hn:n≤64) (hle:a'≤8 * b.2.length) (n':Int) (hn':n'=n) :
  callW P vV [ai n',.ptr x 0 1] (RD M rr b a)=some (.c (.int .u64 (aj b.2 a n:Nat)),RD M rr b a'):=by
 subst ha
 have hg:=acH hlt hb hby (a:=a) (by omega) n hn n' hn'
 rw [if_pos hle] at hg
 have hb':=hx a
 rw [qj rfl];simp -implicitDefEqProofs [-ac,-AV.one,-ad,JK,hb',hg]
set_option maxHeartbeats 1000000 in
theorem Ke (hlt:rr<M.length) (hb:b.2.length≤8192) (hby:bm b.2) {w:Nat} (hw:w=10∨w=16) (hlen:b.2.length=bN (aY b.2) w) :
  ∃ a,callW P th [.ptr rr 0 2,ai w] (RD M rr b 0)=some (.tup [.agg (dJ b.2 w bc),ab (dC b.2),ab (hOk b.2 w)],RD M rr b a++[.other]):=by
 have happ:∀ a:Nat,RD (M++[.row [.ptr rr 0 2]]) rr b a=RD M rr b a++[.row [.ptr rr 0 2]]:=fun a=>TP hlt _ _ _
 have hg:rr<(M++[AObj.row [.ptr rr 0 2]]).length:=by simp;omega
 have hx:∀ a:Nat,ba (RD (M++[.row [.ptr rr 0 2]]) rr b a) M.length 0 1 1=some [.ptr rr 0 2]:=fun a=>by
  have e:(RD (M++[.row [.ptr rr 0 2]]) rr b a)[M.length]?=some (.row [.ptr rr 0 2]):=by
   rw [happ];simp
  rw [ba,e];rfl
 have happ0:=happ 0
 have hcut:∀ a:Nat,(RD (M++[.row [.ptr rr 0 2]]) rr b a).take M.length=RD M rr b a:=fun a=>by rw [happ,← CE M rr b a];simp
 rw [fm hw] at hlen
 generalize hM1:M++[.row [.ptr rr 0 2]]=M1 at *
 have hM1l:M1.length=M.length+1:=by rw [← hM1];simp
 have g0:=de hg hb hby hx (a:=0) (n:=1) (a':=1) rfl (by omega) (by split at hlen<;>omega) 1 rfl
 have g1:=de hg hb hby hx (a:=1) (n:=1) (a':=2) rfl (by omega) (by split at hlen<;>omega) 1 rfl
 have g2:=de hg hb hby hx (a:=2) (n:=1) (a':=3) rfl (by omega) (by split at hlen<;>omega) 1 rfl
 have g3:=de hg hb hby hx (a:=3) (n:=2) (a':=5) rfl (by omega) (by split at hlen<;>omega) 2 rfl
 have g5:=de hg hb hby hx (a:=5) (n:=1) (a':=6) rfl (by omega) (by split at hlen<;>omega) 1 rfl
 have w3:IntKind.i64.wrap (aj b.2 3 2:Nat)=(aj b.2 3 2:Nat):=by
  have:=dt (bs:=b.2) (a:=3) (n:=2) (k:=16) (by omega) (by split at hlen<;>omega)
  exact aq (by omega) (by omega)
 have o10:=fun H=>eK 10 H
 have o16:=fun H=>eK 16 H
 rcases hw with rfl | rfl
 ·have g6:=de hg hb hby hx (a:=6) (n:=10) (a':=16) rfl (by omega) (by simp at hlen;omega) 10 rfl
  have w6:IntKind.i64.wrap (aj b.2 6 10:Nat)=(aj b.2 6 10:Nat):=by
   have:=dt (bs:=b.2) (a:=6) (n:=10) (k:=16) (by omega) (by simp at hlen;omega)
   exact aq (by omega) (by omega)
  by_cases hp:aj b.2 1 1=1
  ·have hpt:aY b.2=true:=by simp [aY,hp]
   have hp':((aj b.2 1 1:Nat):Int)=1:=by omega
   rw [hpt] at hlen
   simp at hlen
   have g16:=de hg hb hby hx (a:=16) (n:=1) (a':=17) rfl (by omega) (by omega) 1 rfl
   have g17:=de hg hb hby hx (a:=17) (n:=15) (a':=32) rfl (by omega) (by omega) 15 rfl
   have w17:IntKind.i64.wrap (aj b.2 17 15:Nat)=(aj b.2 17 15:Nat):=by
    have:=dt (bs:=b.2) (a:=17) (n:=15) (k:=16) (by omega) (by omega)
    exact aq (by omega) (by omega)
   refine ⟨32,?_⟩
   rw [ei rfl];simp -implicitDefEqProofs [-ac,-AV.one,-ad,qV,hM1,hM1l,← happ0,g0,g1,g2,g3,g5,g6,w3,w6,hp,hp',hpt,g16,g17,w17,o10,o16,aI,dJ,aZ,dr,hFI,hSN,cN,eO,dC,hOk]
   exact ⟨by omega,hcut _⟩
  ·have hpt:aY b.2=false:=by simp [aY,hp]
   have hp':¬ ((aj b.2 1 1:Nat):Int)=1:=by omega
   refine ⟨16,?_⟩
   rw [ei rfl];simp -implicitDefEqProofs [-ac,-AV.one,-ad,qV,hM1,hM1l,← happ0,g0,g1,g2,g3,g5,g6,w3,w6,hp,hp',hpt,o10,o16,aI,dJ,aZ,dr,hFI,hSN,cN,eO,dC,hOk]
   exact ⟨by omega,hcut _⟩
 ·have g6:=de hg hb hby hx (a:=6) (n:=1) (a':=7) rfl (by omega) (by simp at hlen;omega) 1 rfl
  have g7:=de hg hb hby hx (a:=7) (n:=1) (a':=8) rfl (by omega) (by simp at hlen;omega) 1 rfl
  have g8:=de hg hb hby hx (a:=8) (n:=16) (a':=24) rfl (by omega) (by simp at hlen;omega) 16 rfl
  have w8:IntKind.i64.wrap (aj b.2 8 16:Nat)=(aj b.2 8 16:Nat):=by
   have:=dt (bs:=b.2) (a:=8) (n:=16) (k:=16) (by omega) (by simp at hlen;omega)
   exact aq (by omega) (by omega)
  by_cases hp:aj b.2 1 1=1
  ·have hpt:aY b.2=true:=by simp [aY,hp]
   have hp':((aj b.2 1 1:Nat):Int)=1:=by omega
   rw [hpt] at hlen
   simp at hlen
   have g24:=de hg hb hby hx (a:=24) (n:=16) (a':=40) rfl (by omega) (by omega) 16 rfl
   have w24:IntKind.i64.wrap (aj b.2 24 16:Nat)=(aj b.2 24 16:Nat):=by
    have:=dt (bs:=b.2) (a:=24) (n:=16) (k:=16) (by omega) (by omega)
    exact aq (by omega) (by omega)
   refine ⟨40,?_⟩
   by_cases h7:aj b.2 7 1=0
   ·have h7':((aj b.2 7 1:Nat):Int)=0:=by omega
    rw [ei rfl];simp -implicitDefEqProofs [-ac,-AV.one,-ad,qV,hM1,hM1l,← happ0,g0,g1,g2,g3,g5,g6,g7,g8,w3,w8,hp,hp',hpt,h7,h7',g24,w24,o10,o16,aI,dJ,aZ,dr,hFI,hSN,cN,eO,dC,hOk]
    exact ⟨by omega,hcut _⟩
   ·have h7':¬ ((aj b.2 7 1:Nat):Int)=0:=by omega
    rw [ei rfl];simp -implicitDefEqProofs [-ac,-AV.one,-ad,qV,hM1,hM1l,← happ0,g0,g1,g2,g3,g5,g6,g7,g8,w3,w8,hp,hp',hpt,h7,h7',g24,w24,o10,o16,aI,dJ,aZ,dr,hFI,hSN,cN,eO,dC,hOk]
    exact ⟨by omega,hcut _⟩
  ·have hpt:aY b.2=false:=by simp [aY,hp]
   have hp':¬ ((aj b.2 1 1:Nat):Int)=1:=by omega
   refine ⟨24,?_⟩
   by_cases h7:aj b.2 7 1=0
   ·have h7':((aj b.2 7 1:Nat):Int)=0:=by omega
    rw [ei rfl];simp -implicitDefEqProofs [-ac,-AV.one,-ad,qV,hM1,hM1l,← happ0,g0,g1,g2,g3,g5,g6,g7,g8,w3,w8,hp,hp',hpt,h7,h7',o10,o16,aI,dJ,aZ,dr,hFI,hSN,cN,eO,dC,hOk]
    exact ⟨by omega,hcut _⟩
   ·have h7':¬ ((aj b.2 7 1:Nat):Int)=0:=by omega
    rw [ei rfl];simp -implicitDefEqProofs [-ac,-AV.one,-ad,qV,hM1,hM1l,← happ0,g0,g1,g2,g3,g5,g6,g7,g8,w3,w8,hp,hp',hpt,h7,h7',o10,o16,aI,dJ,aZ,dr,hFI,hSN,cN,eO,dC,hOk]
    exact ⟨by omega,hcut _⟩
end
def cE (bs:List Nat) (w:Int) (f:AV):AV:=.tup [.agg (if (bQ bs w).1=0 then dJ bs w.toNat f else cA),ai ((bQ bs w).1:Nat)]
theorem iM (H:ae) (a b:Nat):(H++List.replicate a AObj.other)++List.replicate b .other=H++List.replicate (a+b) .other:=by
 rw [List.append_assoc,List.replicate_append_replicate]
set_option maxHeartbeats 2000000 in
theorem Af (b:Bs) (hb:b.2.length≤10000) (hby:bm b.2) (w:Int) (H:ae) :
  ∃ (out:List Bs) (k:Nat),out.map (·.2)=(bQ b.2 w).2∧callW P np [bv b,ai w] H=some (cE b.2 w (lst true 1 none (bvs out)),H++List.replicate k .other):=by
 have h37:=fun H=>jE w H
 have hlen:=cz b
 by_cases hw:w=10∨w=16
 ·have hwd:decide (w=10∨w=16)=true:=by simp [hw]
  rw [hwd] at h37
  obtain ⟨wn,rfl,hwn⟩:∃ wn:Nat,w=wn∧(wn=10∨wn=16):=by
   rcases hw with rfl | rfl
   ·exact ⟨10,rfl,.inl rfl⟩
   ·exact ⟨16,rfl,.inr rfl⟩
  have htn:((wn:Nat):Int).toNat=wn:=by simp
  by_cases hlong:4000<b.2.length
  ·have hlong':(b.2.length:Int) > 4000:=by omega
   have hlong'':(4000:Int)<b.2.length:=by omega
   have hR:bQ b.2 wn=(2,[]):=by rw [bQ,if_pos hw,if_pos hlong]
   refine ⟨[],0,by rw [hR];rfl,?_⟩
   rw [cE,hR]
   rw [dB rfl];simp -implicitDefEqProofs [-ac,-AV.one,-ad,ka,h37,hlen,hlong,hlong',hlong'',cA,aZ]
  ·have hlong':¬ (b.2.length:Int) > 4000:=by omega
   have hlong'':¬ (4000:Int)<b.2.length:=by omega
   by_cases h0:b.2.length=0
   ·have h0':(b.2.length:Int)=0:=by omega
    have h0'':b.2=[]:=zq8 h0
    have hR:bQ b.2 wn=(8,[]):=by rw [bQ,if_pos hw,if_neg hlong,if_pos h0]
    refine ⟨[],0,by rw [hR];rfl,?_⟩
    rw [cE,hR]
    rw [dB rfl];simp -implicitDefEqProofs [-ac,-AV.one,-ad,ka,h37,hlen,hlong,hlong',hlong'',h0,h0',h0'',cA,aZ]
   ·have h0':¬ (b.2.length:Int)=0:=by omega
    have h0'':¬ b.2=[]:=fun h=>h0 (by rw [h];rfl)
    obtain ⟨b0,hb0⟩:∃ x,b.2[0]?=some x:=⟨_,zq6 (by omega)⟩
    have hb256:=hby b0 (List.mem_of_getElem? hb0)
    have q1:bW 1 none (bv b) (.c (.int .i64 0))=some (.vp [au b0] 0):=pB hb0 .i64
    have a128:=xQ ⟨b0,hb256⟩
    have a64:=acB ⟨b0,hb256⟩
    simp only at a128 a64
    have n0:aj b.2 0 1=b0 / 128 % 2:=fA (a:=0) hb0
    have n1:aj b.2 1 1=b0 / 64 % 2:=fA (a:=1) hb0
    by_cases hz:aj b.2 0 1=0
    ·have hR:bQ b.2 wn=(4,[]):=by rw [bQ,if_pos hw,if_neg hlong,if_neg h0,if_pos hz]
     rw [if_neg (by omega)] at a128
     refine ⟨[],0,by rw [hR];rfl,?_⟩
     rw [cE,hR]
     rw [dB rfl];simp -implicitDefEqProofs [-ac,-AV.one,-ad,ka,-ci,bS,h37,hlen,hlong,hlong',hlong'',h0,h0',h0'',q1,a128,cA,aZ]
    ·rw [if_pos (by omega)] at a128
     have hpd:aY b.2=decide (b0 / 64 % 2=1):=by rw [aY,n1]
     have hne:decide (sS .u8 (b0:Int) 64≠0)=aY b.2:=by
      rw [a64,hpd]
      by_cases hq:b0 / 64 % 2=1<;>simp [hq]
     have h28:=fun H=>Ad (aY b.2) wn H
     have hv:=fm (part:=aY b.2) hwn
     obtain ⟨n,hn⟩:=nm (bN (aY b.2) wn)
     simp only [ne_eq] at hne
     by_cases hs:b.2.length<bN (aY b.2) wn
     ·have hs':(b.2.length:Int)<(bN (aY b.2) wn:Nat):=by omega
      have hR:bQ b.2 wn=(8,[]):=by rw [bQ,if_pos hw,if_neg hlong,if_neg h0,if_neg hz,if_pos hs]
      refine ⟨[],0,by rw [hR];rfl,?_⟩
      rw [cE,hR]
      rw [hn] at hs hs' h28
      rw [dB rfl];simp -implicitDefEqProofs [-ac,-AV.one,-ad,ka,-decide_not,-ci,bS,h37,hlen,hlong,hlong',hlong'',h0,h0',h0'',q1,a128,hne,h28,hs,hs',cA,aZ]
     ·have hs':¬ (b.2.length:Int)<(bN (aY b.2) wn:Nat):=by omega
      obtain ⟨t1,t2,t3,t4⟩:=wA (bs:=b.2) hwn (by omega)
      have hR:bQ b.2 wn=if hOk b.2 wn=true then restR b.2 wn else (3,[]):=by rw [bQ,if_pos hw,if_neg hlong,if_neg h0,if_neg hz,if_neg hs,htn]
      have hRR:restR b.2 wn=if dC b.2=true then (if (aO (b.2.drop n) (bn wn)).2=0 then aV ((b.2.drop n).drop (aS (aO (b.2.drop n) (bn wn)).1 (bn wn))) (bL (b.2.drop n) (bn wn) (aO (b.2.drop n) (bn wn)).1) else ((aO (b.2.drop n) (bn wn)).2,[])) else aV (b.2.drop n) []:=by
       rw [← hn];rfl
      have htk:=t1
      have t4:=t4 bc
      rw [hn] at t1 t2 t3 t4 h28 hs hs' hv
      have hl1:(b.2.take n).length=n:=by rw [List.length_take];omega
      have c1:=fun d=>Ac (b:=b) (j:=n) (by omega) .i64 d
      have hb2:=jD b n
      obtain ⟨z,r1⟩:=kg (dD b 0 n) (by rw [hb2];omega) H
      rw [hb2] at r1
      obtain ⟨a,s1⟩:=Ke (M:=H++[.row [bv (z,b.2.take n),ai 0]]) (rr:=H.length) (b:=(z,b.2.take n)) (by simp) (by simp;omega) (fun x hx=>hby x (List.mem_of_mem_take hx)) hwn (by simp only;rw [hl1,t1,hn])
      rw [qp,qp] at s1
      simp only at s1
      rw [t2,t3,t4] at s1
      replace s1:callW P th [.ptr H.length 0 2,ai wn] (H++[.row [bv (z,b.2.take n),ai 0]])=_:=s1
      by_cases hok:hOk b.2 wn=true
      ·rw [if_pos hok] at hR
       have d1:=fun d=>eZ (b:=b) (i:=n) (by omega) .i64 d
       obtain ⟨b',hb'⟩:=nm (dD b n b.2.length)
       have hb3:b'.2=b.2.drop n:=by rw [← hb',cM]
       rw [hb'] at d1
       rw [hRR,← hb3] at hR
       have hbl:b'.2.length≤10000:=by rw [hb3];simp;omega
       by_cases hmore:dC b.2=true
       ·rw [if_pos hmore] at hR
        have hlw:bn wn=11∨bn wn=15:=by rcases hwn with rfl | rfl<;>simp [bn]
        have h41:=fun H=>kT wn H
        obtain ⟨lw,hlwe⟩:=nm (bn wn)
        rw [hlwe] at hlw h41 hR
        have l1:=fun H=>qq b' (by rw [hb3];simp;omega) (fun x hx=>hby x (by rw [hb3] at hx;exact List.mem_of_mem_drop hx)) hlw H
        by_cases he:(aO b'.2 lw).2=0
        ·rw [if_pos he] at hR
         have hok2:=fP he
         obtain ⟨cn,hcn⟩:=nm ((aO b'.2 lw).1)
         have hres:dE b'.2 lw none=.tup [lst true 1 none (nvs (bL b'.2 lw cn)),ai (aS cn lw:Nat),ai 0]:=by rw [dE,if_pos he,hcn]
         rw [hcn] at hok2 hR
         rw [hres] at l1
         have hsz:aS cn lw≤b'.2.length:=by
          have:aS cn lw=(cn * (lw+1)+7) / 8:=by rw [aS,if_neg (by omega)]
          omega
         obtain ⟨k,hk⟩:=nm (aS cn lw)
         rw [hk] at hsz l1 hR
         have f1:=fun d=>eZ (b:=b') (i:=k) hsz .i64 d
         obtain ⟨b2,hb2'⟩:=nm (dD b' k b'.2.length)
         have hb4:b2.2=b'.2.drop k:=by rw [← hb2',cM]
         rw [hb2'] at f1
         rw [← hb4] at hR
         have hll:(bL b'.2 lw cn).length≤23:=by rw [cu];omega
         obtain ⟨ls,hls⟩:=nm (bL b'.2 lw cn)
         rw [hls] at l1 hR hll
         obtain ⟨out,g0,g1⟩:=ue (zl:=true) (l:=ls) b2 (by rw [hb4];simp;omega) hll (H++[.row [bv (z,b.2.take n),ai a],.other,.other])
         obtain ⟨ee,he4⟩:=nm ((aV b2.2 ls).1)
         rw [he4] at g1
         refine ⟨out,3,by rw [hR];exact g0,?_⟩
         rw [cE,hR,he4]
         by_cases hee:ee=0
         ·have hee':(ee:Int)=0:=by omega
          rw [dB rfl];simp -implicitDefEqProofs [-ac,-AV.one,-ad,ka,-decide_not,-ci,bS,h37,hlen,hlong,hlong',hlong'',h0,h0',h0'',q1,a128,hne,h28,hs,hs',c1,r1,s1,hok,hmore,d1,h41,l1,f1,g1,hee,hee',cA,aZ,dJ]
         ·have hee':¬ (ee:Int)=0:=by omega
          rw [dB rfl];simp -implicitDefEqProofs [-ac,-AV.one,-ad,ka,-decide_not,-ci,bS,h37,hlen,hlong,hlong',hlong'',h0,h0',h0'',q1,a128,hne,h28,hs,hs',c1,r1,s1,hok,hmore,d1,h41,l1,f1,g1,hee,hee',cA,aZ,dJ]
        ·rw [if_neg he] at hR
         obtain ⟨ee,hee⟩:=nm ((aO b'.2 lw).2)
         have hres:dE b'.2 lw none=.tup [bc,ai 0,ai (ee:Nat)]:=by rw [dE,if_neg he,hee]
         rw [hee] at he hR
         rw [hres] at l1
         have he':¬ (ee:Int)=0:=by omega
         refine ⟨[],3,by rw [hR];rfl,?_⟩
         rw [cE,hR]
         rw [dB rfl];simp -implicitDefEqProofs [-ac,-AV.one,-ad,ka,-decide_not,-ci,bS,h37,hlen,hlong,hlong',hlong'',h0,h0',h0'',q1,a128,hne,h28,hs,hs',c1,r1,s1,hok,hmore,d1,h41,l1,he,he',cA,aZ,dJ]
       ·rw [if_neg hmore] at hR
        have hmore':dC b.2=false:=by simpa using hmore
        obtain ⟨out,g0,g1⟩:=ue (zl:=true) (l:=[]) b' hbl (by simp) (H++[.row [bv (z,b.2.take n),ai a],.other])
        rw [nvs,List.map_nil,lst_nil] at g1
        obtain ⟨ee,he4⟩:=nm ((aV b'.2 []).1)
        rw [he4] at g1
        refine ⟨out,2,by rw [hR];exact g0,?_⟩
        rw [cE,hR,he4]
        by_cases hee:ee=0
        ·have hee':(ee:Int)=0:=by omega
         rw [dB rfl];simp -implicitDefEqProofs [-ac,-AV.one,-ad,ka,-decide_not,-ci,bS,h37,hlen,hlong,hlong',hlong'',h0,h0',h0'',q1,a128,hne,h28,hs,hs',c1,r1,s1,hok,hmore,hmore',d1,g1,hee,hee',cA,aZ,dJ]
        ·have hee':¬ (ee:Int)=0:=by omega
         rw [dB rfl];simp -implicitDefEqProofs [-ac,-AV.one,-ad,ka,-decide_not,-ci,bS,h37,hlen,hlong,hlong',hlong'',h0,h0',h0'',q1,a128,hne,h28,hs,hs',c1,r1,s1,hok,hmore,hmore',d1,g1,hee,hee',cA,aZ,dJ]
      ·rw [if_neg hok] at hR
       have hok':hOk b.2 wn=false:=by simpa using hok
       refine ⟨[],2,by rw [hR];rfl,?_⟩
       rw [cE,hR]
       rw [dB rfl];simp -implicitDefEqProofs [-ac,-AV.one,-ad,ka,-decide_not,-ci,bS,h37,hlen,hlong,hlong',hlong'',h0,h0',h0'',q1,a128,hne,h28,hs,hs',c1,r1,s1,hok,hok',cA,aZ,dJ]
 ·have hR:bQ b.2 w=(9,[]):=by rw [bQ,if_neg hw]
  have hwd:decide (w=10∨w=16)=false:=by simp [hw]
  rw [hwd] at h37
  refine ⟨[],0,by rw [hR];rfl,?_⟩
  rw [cE,hR]
  rw [dB rfl];simp -implicitDefEqProofs [-ac,-AV.one,-ad,ka,h37,hlen,cA,aZ]
def WH (H:ae) (l:List Nat) (n lo:Nat):ae:=H++[.row [.sl (H.length+1) 0 l.length l.length 1 l.length false,ai n],.grow (l.map fun b=>au b) lo]
def W0 (H:ae):ae:=H++[.row [bc,ai 0]]
def WN (H:ae) (bits:List Bool) (l:List Nat):ae:=if bits=[] then W0 H else WH H l bits.length l.length
section
variable {H:ae} {l:List Nat} {n lo:Nat}
theorem rJ:(WH H l n lo)[H.length]?=some (.row [.sl (H.length+1) 0 l.length l.length 1 l.length false,ai n]):=by simp [WH]
theorem rK:(WH H l n lo)[H.length+1]?=some (.grow (l.map fun b=>au b) lo):=by simp [WH]
theorem Ag:ba (WH H l n lo) H.length 0 1 2=some [.sl (H.length+1) 0 l.length l.length 1 l.length false]:=by rw [ba,rJ];rfl
theorem rm:ba (WH H l n lo) H.length 1 1 2=some [ai n]:=by rw [ba,rJ];rfl
theorem Kf {i c:Nat} (h:l[i]?=some c) (hlo:lo≤l.length):ba (WH H l n lo) (H.length+1) i 1 l.length=some [au c]:=by
 have hi:=(List.getElem?_eq_some_iff.1 h).1
 rw [ba,rK]
 simp only [AObj.isRow,AObj.lo,AObj.cells,List.length_map]
 rw [if_pos ⟨trivial,hlo,by omega,Nat.le_refl _⟩,List.take_one]
 simp [h]
theorem Kg {i c:Nat} (hi:i<l.length) (σ:List AV):bz σ (WH H l n lo) none (.ptr (H.length+1) i l.length) (au c)=some (σ,WH H (l.set i c) n l.length):=by
 simp only [bz,dH,rK]
 rw [if_pos ⟨by simp,by simp;omega,rfl⟩]
 have h1:(l.map fun b:Nat=>au b).take i++[au c]++(l.map fun b:Nat=>au b).drop (i+[au c].length)=(l.set i c).map fun b=>au b:=by
  rw [List.map_set,List.set_eq_take_append_cons_drop,if_pos (by simpa using hi)]
  simp
 rw [h1]
 simp [WH]
theorem Kh (x:Nat) (σ:List AV):bz σ (WH H l n lo) none (.ptr H.length 1 2) (ai x)=some (σ,WH H l x lo):=by
 simp only [bz,dH,rJ]
 rw [if_pos ⟨rfl,by simp,rfl⟩]
 simp [WH]
theorem acM:ba (W0 H) H.length 0 1 2=some [bc]:=by rw [ba,W0];simp [AObj.isRow,AObj.lo,AObj.cells]
theorem Pi:ba (W0 H) H.length 1 1 2=some [ai 0]:=by rw [ba,W0];simp [AObj.isRow,AObj.lo,AObj.cells]
theorem acN (σ:List AV):bz σ (W0 H++[.grow [.c (.int .u8 0)] 0]) none (.ptr H.length 0 2) (.sl (H.length+1) 0 1 1 1 1 false)=some (σ,WH H [0] 0 0):=by
 have h:(W0 H++[.grow [.c (.int .u8 0)] 0])[H.length]?=some (.row [bc,ai 0]):=by simp [W0]
 simp only [bz,dH,h]
 rw [if_pos ⟨rfl,by simp,rfl⟩]
 simp [WH,W0]
theorem acO (σ:List AV):bz σ ((WH H l n lo).set (H.length+1) (.grow ((l.map fun b=>au b)++[.c (.int .u8 0)]) lo)) none (.ptr H.length 0 2) (.sl (H.length+1) 0 (l.length+1) (l.length+1) 1 (l.length+1) false)=some (σ,WH H (l++[0]) n lo):=by
 have h:((WH H l n lo).set (H.length+1) (.grow ((l.map fun b=>au b)++[.c (.int .u8 0)]) lo))[H.length]?=some (.row [.sl (H.length+1) 0 l.length l.length 1 l.length false,ai n]):=by
  rw [List.getElem?_set_ne (by omega),rJ]
 simp only [bz,dH,h]
 rw [if_pos ⟨rfl,by simp,rfl⟩]
 simp [WH]
theorem TQ {m:Md} {d:Nat} {f:Option Nat} (hl:l≠[]) (hll:l.length≤100000) (hm:m.wr=true) (σ:List AV):fy m (some d) 1 1 (.sl (H.length+1) 0 l.length l.length 1 l.length false) (.vs 1 f [[.c (.int .u8 0)]]) σ (WH H l n lo) =
  some (.sl (H.length+1) 0 (l.length+1) (l.length+1) 1 (l.length+1) false,σ,(WH H l n lo).set (H.length+1) (.grow ((l.map fun b=>au b)++[.c (.int .u8 0)]) lo)):=by
 have hl0:l.length≠0:=fun h=>hl (zq8 h)
 have he:dY (WH H l n lo) 1 (.vs 1 f [[.c (.int .u8 0)]])=some [[.c (.int .u8 0)]]:=rfl
 simp only [fy]
 rw [if_pos hm,he,Option.bind_some,if_neg (by simp),if_pos ⟨trivial,trivial,⟨hl0,trivial⟩,trivial,by simp,by simp [aw];omega,by simp [aw];omega⟩,rK]
 simp [AObj.isW,AObj.cells,AObj.lo]
end
section
variable {H:ae}
theorem Eg {l:List Nat} {bits:List Bool} (r1:l.length=bits.length / 8+1) (r2:bm l) (r3:ay l=bits++List.replicate (8 * l.length - bits.length) false) (b:Bool) :
  ∃ c,l[bits.length / 8]?=some c∧c<256∧PackR (bits++[b]) (l.set (bits.length / 8) (c ||| b.toNat * 2 ^ (7 - bits.length % 8))):=by
 obtain ⟨c,hc⟩:∃ c,l[bits.length / 8]?=some c:=⟨_,zq6 (by rw [r1];omega)⟩
 exact ⟨c,hc,r2 c (List.mem_of_getElem? hc),PackR.snoc r1 r2 r3 b hc⟩
theorem Ki (bits:List Bool) (l:List Nat) (hp:PackR bits l) (hs:bits.length≤65536) (b:Bool) :
  ∃ l',PackR (bits++[b]) l'∧callW P nz [.ptr H.length 0 2,au b.toNat] (WN H bits l)=some (.tup [],WN H (bits++[b]) l'):=by
 have hE:∀ l',WN H (bits++[b]) l'=WH H l' (bits.length+1) l'.length:=fun l'=>by rw [WN,if_neg (by simp),List.length_append];rfl
 obtain ⟨n,hn⟩:=nm (bits.length)
 have w1:(n:Int).tmod 8=((n % 8:Nat):Int):=Ab n
 have w1':(n:Int) % 8=((n % 8:Nat):Int):=by omega
 have w2:IntKind.i64.wrap ((n:Int).tdiv 8)=((n / 8:Nat):Int):=by rw [wy];exact aq (by omega) (by omega)
 have w2':IntKind.i64.wrap ((n:Int) / 8)=((n / 8:Nat):Int):=by rw [aq (by omega) (by omega)];omega
 have w10:IntKind.i64.wrap ((n:Int)+1)=((n+1:Nat):Int):=by rw [aq (by omega) (by omega)];omega
 have hll:=hp.len
 rw [hn] at hll
 have hx8:b.toNat * 2 ^ (7 - n % 8)<2 ^ 8:=by
  have:2 ^ (7 - n % 8)≤2 ^ 7:=Nat.pow_le_pow_right (by omega) (by omega)
  cases b
  ·simp
  ·simp only [Bool.toNat_true,Nat.one_mul];omega
 obtain ⟨m8,hm8⟩:=nm (n % 8)
 obtain ⟨d8,hd8⟩:=nm (n / 8)
 have w3:IntKind.i64.wrap (7 - (m8:Int))=((7 - m8:Nat):Int):=by rw [aq (by omega) (by omega)];omega
 obtain ⟨s,hss⟩:=nm (7 - m8)
 have w4:min s 8=s:=by omega
 have hs0:¬ (s:Int)<0:=by omega
 have w5:IntKind.u8.wrap ((b.toNat:Int) * 2 ^ s)=((b.toNat * 2 ^ s:Nat):Int):=by
  have e:(b.toNat:Int) * 2 ^ s=((b.toNat * 2 ^ s:Nat):Int):=by simp
  rw [hm8,hss] at hx8
  rw [e];exact gj (by omega) (by omega)
 obtain ⟨n1,hn1⟩:=nm (n+1)
 by_cases h8:m8=0
 ·have h8':(m8:Int)=0:=by omega
  have w30:IntKind.i64.wrap 7=(s:Int):=by rw [aq (by omega) (by omega)];omega
  obtain ⟨r1,r2,r3⟩:=hp.room (by omega)
  obtain ⟨c,k1,k2,k3⟩:=Eg r1 r2 r3 b
  refine ⟨_,k3,?_⟩
  rw [hE]
  rw [hn,hd8] at r1
  rw [hn,hm8,hd8,hss]
  rw [hn,hd8] at k1
  rw [hm8] at w1 w1' hx8
  rw [hd8] at w2 w2'
  rw [hn1] at w10 ⊢
  rw [hss] at w3 hx8
  have worI:=JZ k2 (show b.toNat * 2 ^ s<256 by omega)
  obtain ⟨sh,hsh⟩:=nm (b.toNat * 2 ^ s)
  rw [hsh] at w5 worI ⊢
  obtain ⟨cc,hcc⟩:=nm (c ||| sh)
  rw [hcc] at worI ⊢
  obtain ⟨bt,hbt⟩:=nm (b.toNat)
  rw [hbt] at w5 ⊢
  obtain ⟨l1,hl1⟩:=nm (l++[0])
  have hl1l:l1.length=l.length+1:=by rw [← hl1];simp
  have hl1':(l.map fun b:Nat=>au b)++[.c (.int .u8 0)]=l1.map fun b=>au b:=by rw [← hl1];simp
  rw [hl1] at r1 k1 ⊢
  have hset:(l1.set d8 cc).length=l1.length:=by simp
  have hd1:d8<l1.length:=by omega
  have hd1':(d8:Int)<l1.length:=by omega
  rw [hset]
  by_cases h0:bits=[]
  ·subst h0
   have hn0:n=0:=hn.symm
   subst hn0
   have hl0:l=[]:=zq8 (by omega)
   subst hl0
   have hl10:l1=[0]:=hl1.symm
   rw [WN,if_pos rfl]
   have i0:IntKind.i64.wrap 0=0:=rfl
   have i1:IntKind.i64.wrap 1=n1:=by subst hn1;rfl
   have g0:=acM (H:=H)
   have g1:=Pi (H:=H)
   have s0:=fun σ=>acN (H:=H) σ
   have hd0:d8=0:=by omega
   subst hl10;subst hd0
   have ap:∀ f σ,fy (P.md nz) (some 16) 1 1 (.c (.slice none 0 0)) (.vs 1 f [[.c (.int .u8 0)]]) σ (W0 H)=some (.sl (H.length+1) 0 1 1 1 1 false,σ,W0 H++[.grow [.c (.int .u8 0)] 0]):=fun f σ=>by
    have hl:(W0 H).length=H.length+1:=by simp [W0]
    have hr:(P.md nz).row (some 16)=true:=rfl
    simp [fy,hr,dY,aw,hl]
   have g0':ba (WH H [0] 0 0) H.length 0 1 2=some [.sl (H.length+1) 0 1 1 1 1 false]:=Ag
   have g1':ba (WH H [0] 0 0) H.length 1 1 2=some [ai 0]:=rm
   have gb:ba (WH H [0] 0 0) (H.length+1) 0 1 1=some [au c]:=Kf (H:=H) (n:=0) k1 (by omega)
   have sb:∀ σ,bz σ (WH H [0] 0 0) none (.ptr (H.length+1) 0 1) (au cc)=some (σ,WH H [cc] 0 1):=fun σ=>Kg (H:=H) (n:=0) (lo:=0) (c:=cc) hd1 σ
   have g1b:ba (WH H [cc] 0 1) H.length 1 1 2=some [ai 0]:=rm
   have s1:∀ σ,bz σ (WH H [cc] 0 1) none (.ptr H.length 1 2) (ai n1)=some (σ,WH H [cc] n1 1):=fun σ=>Kh (H:=H) (l:=[cc]) (n:=0) (lo:=1) n1 σ
   rw [gA rfl];simp -implicitDefEqProofs [-ac,-AV.one,-ad,zG,-ci,bS,oL,i0,i1,g0,g1,ap,s0,g0',g1',w1,w1',w2,w2',h8,h8',gb,g1b,sb,s1,w3,w30,w4,w5,hs0,worI,w10]
  ·have hl0:l≠[]:=fun e=>h0 (by
    subst e
    have:n=0:=by simp at hll;omega
    exact zq8 (by omega))
   rw [WN,if_neg h0,hn]
   have g0:=Ag (H:=H) (l:=l) (n:=n) (lo:=l.length)
   have g1:=rm (H:=H) (l:=l) (n:=n) (lo:=l.length)
   have ap:=fun (d:Nat) f σ=>TQ (m:=P.md nz) (H:=H) (n:=n) (lo:=l.length) (d:=d) (f:=f) hl0 (by omega) rfl σ
   have s0:=fun σ=>acO (H:=H) (l:=l) (n:=n) (lo:=l.length) σ
   rw [hl1',← hl1l] at ap
   rw [hl1',← hl1l,hl1] at s0
   have g0':=Ag (H:=H) (l:=l1) (n:=n) (lo:=l.length)
   have g1':=rm (H:=H) (l:=l1) (n:=n) (lo:=l.length)
   have gb:=Kf (H:=H) (n:=n) k1 (show l.length≤l1.length by omega)
   have sb:=fun σ=>Kg (H:=H) (n:=n) (lo:=l.length) (c:=cc) hd1 σ
   have g1b:=rm (H:=H) (l:=l1.set d8 cc) (n:=n) (lo:=l1.length)
   have s1:=fun σ=>Kh (H:=H) (l:=l1.set d8 cc) (n:=n) (lo:=l1.length) n1 σ
   rw [gA rfl];simp -implicitDefEqProofs [-ac,-AV.one,-ad,zG,-ci,bS,oL,g0,g1,ap,s0,g0',g1',w1,w1',w2,w2',h8,h8',gb,g1b,hd1,hd1',sb,s1,w3,w30,w4,w5,hs0,worI,w10]
 ·have h8':¬ (m8:Int)=0:=by omega
  obtain ⟨r1,r2,r3⟩:=hp.full (by omega)
  obtain ⟨c,k1,k2,k3⟩:=Eg r1 r2 r3 b
  refine ⟨_,k3,?_⟩
  have hb:bits≠[]:=fun e=>by subst e;simp at hn;omega
  rw [hE,WN,if_neg hb]
  rw [hn,hd8] at r1
  rw [hn,hm8,hd8,hss]
  rw [hn,hd8] at k1
  rw [hm8] at w1 w1' hx8
  rw [hd8] at w2 w2'
  rw [hn1] at w10 ⊢
  rw [hss] at w3 hx8
  have worI:=JZ k2 (show b.toNat * 2 ^ s<256 by omega)
  obtain ⟨sh,hsh⟩:=nm (b.toNat * 2 ^ s)
  rw [hsh] at w5 worI ⊢
  obtain ⟨cc,hcc⟩:=nm (c ||| sh)
  rw [hcc] at worI ⊢
  obtain ⟨bt,hbt⟩:=nm (b.toNat)
  rw [hbt] at w5 ⊢
  have hset:(l.set d8 cc).length=l.length:=by simp
  have hd1:d8<l.length:=by omega
  have hd1':(d8:Int)<l.length:=by omega
  have g0:=Ag (H:=H) (l:=l) (n:=n) (lo:=l.length)
  have g1:=rm (H:=H) (l:=l) (n:=n) (lo:=l.length)
  have g1b:=rm (H:=H) (l:=l.set d8 cc) (n:=n) (lo:=l.length)
  have gb:=Kf (H:=H) (n:=n) k1 (Nat.le_refl l.length)
  have sb:=fun σ=>Kg (H:=H) (n:=n) (lo:=l.length) (c:=cc) hd1 σ
  have s1:=fun σ=>Kh (H:=H) (l:=l.set d8 cc) (n:=n) (lo:=l.length) n1 σ
  rw [hset]
  rw [gA rfl];simp -implicitDefEqProofs [-ac,-AV.one,-ad,zG,-ci,bS,oL,g0,g1,w1,w1',w2,w2',h8,h8',gb,g1b,hd1,hd1',sb,s1,w3,w4,w5,hs0,worI,w10]
end
theorem NZ (r o l c z g:Nat) (e:Bool):uI .eql .slice (.sl r o l c z g e) (.c (.slice none 0 0))=some (ab false):=rfl
theorem Kj (r o l c z g:Nat) (e:Bool):uI .neq .slice (.sl r o l c z g e) (.c (.slice none 0 0))=some (ab true):=rfl
attribute [simp] NZ Kj
section
variable {H:ae} {bits:List Bool}
theorem acP (H:ae) (bits:List Bool) (l:List Nat):ba (WN H bits l) H.length 1 1 2=some [ai bits.length]:=by
 unfold WN
 split
 ·rename_i h;subst h;exact Pi
 ·exact rm
def TR (H:ae) (bits:List Bool) (v n:Nat) (z:Nat) (σ:List AV) (G:ae):Prop:=
 ∃ l,z≤n∧PackR (bits++(aD v n).take (n - z)) l∧G=WN H (bits++(aD v n).take (n - z)) l∧σ=L 48 ((((Tr.full 6).put (ag 0) (.ptr H.length 0 2)).put (ag 1) (.c (.int .u64 (v:Int)))).put (ag 7) (ai z))
def Kk (H:ae) (bits:List Bool) (v n:Nat) (e:AExit) (σ:List AV) (G:ae):Prop:=
 e=.ret∧aA F_q68.res σ=some (ai 0)∧∃ l,PackR (bits++aD v n) l∧G=WN H (bits++aD v n) l
theorem Ah {v n:Nat} (hn:n≤64) (hv:v<18446744073709551616) (hb:bits.length≤65000) (z:Nat) (σ:List AV) (G:ae) (hI:TR H bits v n z (kill (bu il) σ) G) :
  Ends ((execW P iZ il σ G).bind (jumpW P iZ D0 0)) fun s=>Kk H bits v n s.e s.σ s.H:=by
 refine gN (TR H bits v n) (Kk H bits v n) rfl ?_ z σ G hI
 clear hI z σ G
 rintro z σ G ⟨l,hz,hp,rfl,hσ⟩
 rw [← cZ,hσ]
 by_cases h0:z=0
 ·subst h0
  have ht:(aD v n).take (n - 0)=aD v n:=List.take_of_length_le (by rw [aT];omega)
  rw [ht] at hp ⊢
  simp -implicitDefEqProofs [-ac,-AV.one,-ad,zB,il]
  exact ⟨rfl,by simp [F_q68],l,hp,rfl⟩
 ·obtain ⟨i,rfl⟩:∃ i,z=i+1:=⟨z - 1,by omega⟩
  have ht:=rl (v:=v) (n:=n) (i:=i) (by omega)
  obtain ⟨z',hz'⟩:∃ z',i+1=z':=⟨_,rfl⟩
  have hz0:(z':Int) > 0:=by omega
  have hz0':(0:Int)<z':=by omega
  have hz0'':0<z':=by omega
  have w1:IntKind.i64.wrap ((z':Int) - 1)=(i:Int):=by rw [aq (by omega) (by omega)];omega
  rw [hz'] at hp hz ht ⊢
  have hi0:¬ (i:Int)<0:=by omega
  have hm:min i 64=i:=by omega
  obtain ⟨q,hq⟩:=nm (v / 2 ^ i)
  have hqv:q≤v:=by rw [← hq];exact Nat.div_le_self _ _
  rw [hq] at ht
  have w2:(v:Int).fdiv (2 ^ i)=(q:Int):=by rw [tY,hq]
  have w2':(v:Int) / 2 ^ i=(q:Int):=by rw [← hq];simp
  have w3:=Iv (a:=q) (by omega)
  obtain ⟨u,hu⟩:=nm (q % 2)
  rw [hu] at w3 ht
  have w4:IntKind.u8.wrap (u:Int)=u:=gj (by omega) (by omega)
  have hlen:(bits++(aD v n).take (n - z')).length≤65536:=by
   rw [List.length_append,List.length_take,aT];omega
  obtain ⟨l',c2,c1⟩:=Ki (H:=H) _ l hp hlen (decide (u=1))
  have hun:(decide (u=1)).toNat=u:=by
   have:u=0∨u=1:=by omega
   rcases this with rfl | rfl<;>rfl
  rw [hun] at c1
  rw [List.append_assoc,← ht] at c1 c2
  simp -implicitDefEqProofs [-ac,-AV.one,-ad,zB,-ci,bS,il,hz0,hz0',hz0'',w1,hi0,hm,w2,w2',w3,w4,c1]
  exact ⟨i,by omega,l',by omega,c2,rfl,by simp⟩
theorem Kl {l:List Nat} (hp:PackR bits l) {v n:Nat} (hn:n≤64) (hv:v<2 ^ n) (hb:bits.length≤65000) (v' n':Int) (hv':v'=v) (hn':n'=n) :
  ∃ l',PackR (bits++aD v n) l'∧callW P iZ [.ptr H.length 0 2,.c (.int .u64 v'),ai n'] (WN H bits l)=some (ai 0,WN H (bits++aD v n) l'):=by
 subst hv';subst hn'
 have hv64:v<18446744073709551616:=by
  have:2 ^ n≤2 ^ 64:=Nat.pow_le_pow_right (by omega) hn
  have:(2:Nat) ^ 64=18446744073709551616:=by decide
  omega
 have g1:=acP H bits l
 suffices hs:Ends (callW P iZ [.ptr H.length 0 2,.c (.int .u64 (v:Int)),ai n] (WN H bits l)) fun y=>∃ l',PackR (bits++aD v n) l'∧y=(ai 0,WN H (bits++aD v n) l') by
  obtain ⟨y,h2,l',h3,rfl⟩:=hs
  exact ⟨l',h3,h2⟩
 refine call_post 6 48 rfl (rfl:P.T iZ=some F_q68) rfl (aF rfl) (Kk H bits v n) ?_ ?_
 ·rintro e σ G ⟨rfl,h2,l',h3,rfl⟩
  exact ⟨rfl,_,h2,rfl,by simp;exact ⟨l',h3,rfl⟩⟩
 have hp0:bU .eql .ptr (.ptr H.length 0 2) (.c (.pointer none))=some (ab false):=rfl
 have h0:¬ (n:Int)<0:=by omega
 have h1:¬ (n:Int) > 64:=by omega
 have h1':¬ (64:Int)<n:=by omega
 have h1'':¬ 64<n:=by omega
 have hm:min n 64=n:=by omega
 have hq:v / 2 ^ n=0:=Nat.div_eq_of_lt hv
 have w2:(v:Int).fdiv (2 ^ n)=0:=by rw [tY,hq];rfl
 have w2':(v:Int) / 2 ^ n=0:=by
  have:((v / 2 ^ n:Nat):Int)=(v:Int) / 2 ^ n:=by simp
  rw [← this,hq];rfl
 have hin:∀ σ,σ=L 48 ((((Tr.full 6).put (ag 0) (.ptr H.length 0 2)).put (ag 1) (.c (.int .u64 (v:Int)))).put (ag 7) (ai n))→TR H bits v n n σ (WN H bits l):=fun σ e=>⟨l,Nat.le_refl _,by simpa using hp,by simp,e⟩
 obtain ⟨bl,hbl⟩:=nm (bits.length)
 rw [hbl] at g1
 have w3:IntKind.i64.wrap (65536 - (bl:Int))=65536 - (bl:Int):=aq (by omega) (by omega)
 have h3:¬ (n:Int) > 65536 - (bl:Int):=by omega
 have h3':¬ 65536 - (bl:Int)<n:=by omega
 by_cases h64:(n:Int)<64
 ·have h64':n<64:=by omega
  rw [F_q68];simp -implicitDefEqProofs [-ac,-AV.one,-ad,zB,hp0,h0,h1,h1',h1'',h64,h64',hm,w2,w2',g1,w3,h3,h3']
  exact Ah hn hv64 hb n _ _ (hin _ (by simp [il]))
 ·have h64':¬ n<64:=by omega
  rw [F_q68];simp -implicitDefEqProofs [-ac,-AV.one,-ad,zB,hp0,h0,h1,h1',h1'',h64,h64',g1,w3,h3,h3']
  exact Ah hn hv64 hb n _ _ (hin _ (by simp [il]))
theorem pD (H:ae):callW P vM [] H=some (.ptr H.length 0 2,WN H [] []):=by
 rw [Cp rfl];simp -implicitDefEqProofs [-ac,-AV.one,-ad,JE,WN,W0]
theorem Gz {l:List Nat} (hl:l≠[]) (hb:l.length≤100000) (n:Nat):callW P lR [.sl (H.length+1) 0 l.length l.length 1 l.length false] (WH H l n l.length)=some (.vs 1 (some 0) (ax l),WH H l n l.length):=by
 have hl0:l.length≠0:=fun h=>hl (zq8 h)
 have ch:∀ x:List Nat,fK 1 x.length (x.map fun b=>au b)=ax x:=by
  intro x
  induction x with
  | nil=>rfl
  | cons a r ih=>simp only [List.length_cons,List.map_cons,fK,List.take_succ_cons,List.take_zero,List.drop_succ_cons,List.drop_zero,ih];rfl
 have he:dY (WH H l n l.length) 1 (.sl (H.length+1) 0 l.length l.length 1 l.length false)=some (ax l):=by
  simp only [dY,bT]
  rw [if_neg (by omega),if_neg (by omega),ba,rK]
  simp only [AObj.isRow,AObj.lo,AObj.cells,List.length_map]
  rw [if_pos ⟨trivial,Nat.le_refl _,by omega,Nat.le_refl _⟩]
  rw [List.drop_zero,List.take_of_length_le (by simp),Option.bind_some,if_pos (by simp),ch]
 have hap:∀ (d:Nat) σ,fy (P.md lR) (some d) 1 1 (.vs 1 (some 5) []) (.sl (H.length+1) 0 l.length l.length 1 l.length false) σ (WH H l n l.length)=some (.vs 1 (some d) (ax l),σ.map (bV [5,d]),WH H l n l.length):=fun d σ=>by
  simp only [fy,oB,he,Option.bind_some,List.length_nil,bg]
  rw [if_pos ⟨trivial,by simp [aw];omega,by simp [aw];omega⟩]
  rfl
 rw [dI rfl];simp -implicitDefEqProofs [-ac,-AV.one,-ad,zt,hap]
theorem fo {l:List Nat} (hp:PackR bits l) (hb0:bits≠[]) (hb:bits.length≤65536):callW P vN [.ptr H.length 0 2] (WN H bits l)=some (.vs 1 (some 0) (ax l),WN H bits l):=by
 have hp0:bU .eql .ptr (.ptr H.length 0 2) (.c (.pointer none))=some (ab false):=rfl
 have hll:=hp.len
 have hl:l≠[]:=fun h=>by
  subst h
  have:bits.length≠0:=fun h=>hb0 (zq8 h)
  simp at hll
  omega
 rw [WN,if_neg hb0]
 have g0:=Ag (H:=H) (l:=l) (n:=bits.length) (lo:=l.length)
 have hc:=Gz (H:=H) hl (by omega) bits.length
 rw [nh rfl];simp -implicitDefEqProofs [-ac,-AV.one,-ad,JF,hp0,g0,hc]
theorem xT (b:Bool) (H:ae):callW P lV [ab b] H=some (.c (.int .u64 (b.toNat:Nat)),H):=by
 cases b
 ·rw [wq rfl];simp -implicitDefEqProofs [-ac,-AV.one,-ad,xB]
 ·rw [wq rfl];simp -implicitDefEqProofs [-ac,-AV.one,-ad,xB]
end
def JC (data:List Nat) (p:Nat):List AV:=(data.take p).map (fun b=>au b)++List.replicate (data.length - p) .undef
theorem TS {data:List Nat} {p:Nat} (h:p≤data.length):(JC data p).length=data.length:=by simp [JC];omega
theorem N0 {data b:List Nat} {p:Nat} (h:(data.drop p).take b.length=b) (hp:p+b.length≤data.length) :
  (JC data p).take p++(b.map fun x=>au x)++(JC data p).drop (p+b.length)=JC data (p+b.length):=by
 have h1:(data.take p).length=p:=by rw [List.length_take];omega
 have e1:(JC data p).take p=(data.take p).map fun x=>au x:=by
  rw [JC,List.take_append_of_le_length (by simp;omega),List.take_of_length_le (by simp;omega)]
 have e2:(JC data p).drop (p+b.length)=List.replicate (data.length - (p+b.length)) .undef:=by
  rw [JC,List.drop_append,List.drop_eq_nil_of_le (by simp;omega),List.nil_append,List.drop_replicate]
  congr 1
  simp
  omega
 rw [e1,e2,JC]
 have e3:data.take (p+b.length)=data.take p++b:=by rw [List.take_add,h]
 rw [e3];simp
def vo (r n:Nat):AV:=.sl r 0 n n 1 n true
theorem acQ (m r n:Nat):ev1 m (vo r n)=vo r n:=rfl
theorem TT (r n:Nat):(vo r n).isBox=false:=rfl
theorem N1 (r n:Nat):(vo r n).free=true:=rfl
theorem TU (r n:Nat):(vo r n).one=true:=rfl
theorem Km (r n:Nat):ac (vo r n)=[vo r n]:=rfl
theorem N2 (cs:List Nat) (r n:Nat):bV cs (vo r n)=vo r n:=rfl
theorem GA (m r n:Nat):ad m (vo r n)=vo r n:=rfl
theorem TV (r n:Nat):pln (vo r n)=vo r n:=rfl
attribute [simp] acQ TT N1 TU Km N2 GA TV
def JH (M:ae) (data:List Nat) (p lo:Nat):ae:=M++[.grow (JC data p) lo]
theorem TW {r n p:Nat} (h:p≤n) (d:Option Nat):iC 1 d (vo r n) (some (ai p)) none none=some (.sl r (if n=p then 0 else p) (n - p) (n - p) 1 n true):=by
 have:cI (ai p) n=some p:=eA _ h
 simp [iC,km,vo,bB,lh,jG,nZ,this]
theorem TX {r n:Nat} (e:Bool) (d:Option Nat):iC 1 d (.sl r 0 n n 1 n e) none (some (ai n)) (some (ai n))=some (vo r n):=by
 have:cI (ai n) n=some n:=eA _ (Nat.le_refl _)
 simp [iC,km,vo,bB,lh,jG,nZ,this]
theorem byteCs_flat (l:List Nat):(ax l).flatten=l.map fun b=>au b:=by
 induction l with
 | nil=>rfl
 | cons a r ih =>
  have:ax (a :: r)=[au a] :: ax r:=rfl
  rw [this,List.flatten_cons,ih];rfl
theorem pE (H:ae) (b:Bs):dY H 1 (bv b)=some (ax b.2):=by
 unfold bv
 rcases bH b.1 1 none (ax b.2) with ⟨_,h,e⟩ | ⟨e,_⟩
 ·rw [e,h];rfl
 ·rw [e];rfl
theorem Kn {m:Md} (hm:m.wr=true) {M:ae} {data:List Nat} {p lo:Nat} (b:Bs) (hp:p+b.2.length≤data.length) (hlo:lo≤data.length) (hd:(data.drop p).take b.2.length=b.2) :
  ∃ lo',lo'≤data.length∧vB m 1 (.sl M.length (if data.length=p then 0 else p) (data.length - p) (data.length - p) 1 data.length true) (bv b) (JH M data p lo)=some (ai b.2.length,JH M data (p+b.2.length) lo'):=by
 by_cases h0:b.2=[]
 ·refine ⟨lo,hlo,?_⟩
  simp only [vB,pE,Option.bind_some,h0]
  rfl
 ·refine ⟨data.length,Nat.le_refl _,?_⟩
  have hb:ax b.2≠[]:=by simpa [ax] using h0
  have hl:0<b.2.length:=List.length_pos_iff.2 h0
  have hget:(JH M data p lo)[M.length]?=some (.grow (JC data p) lo):=by simp [JH]
  have hjl:(JC data p).length=data.length:=TS (by omega)
  have hmap:((ax b.2).flatten).length=b.2.length:=by rw [byteCs_flat];simp
  simp only [vB,pE,Option.bind_some]
  rw [if_neg hb,if_pos ⟨hm,by rw [bg];omega⟩,if_neg (by omega)]
  simp only [dH,hget]
  rw [if_pos ⟨hjl.symm,by rw [hmap];omega,by rw [byteCs_flat];simp [be]⟩]
  rw [byteCs_flat,List.length_map,N0 hd hp,hjl]
  simp [JH,bg]
theorem TY (m:Md) (r o l c s g:Nat) (e:Bool) (H:ae):vB m 1 (.sl r o l c s g e) (.c (.slice none 0 0)) H=some (ai 0,H):=rfl
theorem N3 (H:ae) (data:List Nat) (h:data.length≤aw):DM H (ai data.length)=some (.sl H.length 0 data.length data.length 1 data.length false,JH H data 0 0):=by
 simp only [DM]
 rw [if_pos ⟨by omega,by omega⟩]
 simp [JH,JC]
section
variable {H:ae}
def bb (ff:List Bs):List (List Nat):=ff.map (·.2)
theorem gH {ff:List Bs} {i:Nat} {x:Bs} (h:ff[i]?=some x):(bb ff)[i]?=some x.2:=by simp [bb,h]
theorem br (ff:List Bs):(bb ff).length=ff.length:=by simp [bb]
def acR (H:ae) (z0:Bool) (ff:List Bs) (z:Nat) (σ:List AV) (G:ae):Prop:=
 ∃ (i n:Nat),i+z=ff.length∧n=((bb ff).take i).flatten.length∧G=H∧σ=L 92 (((((((Tr.full 7).put (ag 0) (lst z0 1 none (bvs ff))).put (ag 1) (.c (.slice none 0 0))).put (ag 5) (ai n)).put (ag 42) (lst z0 1 none (bvs ff))).put (ag 43) (ai ff.length)).put (ag 44) (ai i))
def Ko (H:ae) (z0:Bool) (ff:List Bs) (e:AExit) (σ:List AV) (G:ae):Prop:=
 G=H∧e=.exit 0∧kill [42,43,44,45] σ=L 92 ((((Tr.full 7).put (ag 0) (lst z0 1 none (bvs ff))).put (ag 1) (.c (.slice none 0 0))).put (ag 5) (ai (bb ff).flatten.length))
theorem acS {z0:Bool} {ff:List Bs} (hl:ff.length≤100000) (hs:(bb ff).flatten.length≤1000000) (z:Nat) (σ:List AV) (G:ae) (hI:acR H z0 ff z (kill (bu mU) σ) G) :
  Ends (execW P jt (.loop mU) σ G) fun s=>Ko H z0 ff s.e s.σ s.H:=by
 refine aX (fun z σ G=>acR H z0 ff z σ G) (Ko H z0 ff) ?_ z σ G hI
 clear hI z σ G
 rintro z σ G ⟨i,n,hz,hn,rfl,rfl⟩
 have hla:(bvs ff).length=ff.length:=bA ff
 by_cases hi:i<ff.length
 ·have hi':(i:Int)<ff.length:=by omega
  obtain ⟨x,hx⟩:∃ x,ff[i]?=some x:=⟨_,zq6 hi⟩
  have q1:=gO hx z0 none .i64
  have hft:=mZ (gH hx)
  have hle:=xR (bb ff) (i+1)
  rw [hft,List.length_append] at hle
  have w4:IntKind.i64.wrap (9223372036854775807 - (n:Int))=9223372036854775807 - (n:Int):=aq (by omega) (by omega)
  have w5:IntKind.i64.wrap ((n:Int)+x.2.length)=((n+x.2.length:Nat):Int):=by rw [aq (by omega) (by omega)];omega
  have w6:IntKind.i64.wrap ((i:Int)+1)=((i+1:Nat):Int):=by rw [aq (by omega) (by omega)];omega
  have hxl:=cz x
  obtain ⟨xl,hxl'⟩:=nm (x.2.length)
  rw [hxl'] at hxl w5 hle
  obtain ⟨n1,hn1⟩:=nm (n+xl)
  rw [hn1] at w5
  obtain ⟨i1,hi1⟩:=nm (i+1)
  rw [hi1] at w6 hft
  have c1:¬ (xl:Int) > 9223372036854775807 - (n:Int):=by omega
  have c2:¬ 9223372036854775807 - (n:Int)<xl:=c1
  simp -implicitDefEqProofs [-ac,-AV.one,-ad,me,mU,hla,hi,hi',q1,hxl,hxl',w4,w5,w6,c1,c2]
  exact ⟨z - 1,by omega,i1,n1,by omega,by rw [hft,List.length_append];omega,rfl,by simp⟩
 ·have hi':¬ (i:Int)<ff.length:=by omega
  have hall:(bb ff).take i=bb ff:=List.take_of_length_le (by rw [br];omega)
  rw [hall] at hn
  simp -implicitDefEqProofs [-ac,-AV.one,-ad,me,mU,hla,hi,hi',hn]
  exact ⟨rfl,rfl,by simp⟩
def TZ (M:ae) (z1:Bool) (ff r:List Bs) (z:Nat) (σ:List AV) (G:ae):Prop:=
 ∃ (i p lo:Nat),i+1+z=ff.length∧p=((bb ff).take (i+1)).flatten.length∧lo≤(bb ff).flatten.length∧G=JH M (bb ff).flatten p lo ∧
  σ=L 92 (((((((Tr.full 7).put (ag 1) (.c (.slice none 0 0))).put (ag 8) (vo M.length (bb ff).flatten.length)).put (ag 9) (ai p)).put (ag 70) (lst z1 1 none (bvs r))).put (ag 71) (ai (ff.length - 1:Nat))).put (ag 72) (ai i))
def Kp (M:ae) (ff:List Bs) (e:AExit) (σ:List AV) (G:ae):Prop:=
 ∃ lo,lo≤(bb ff).flatten.length∧G=JH M (bb ff).flatten (bb ff).flatten.length lo∧e=.exit 2∧kill [1,9,70,71,72,73] σ=L 92 ((Tr.full 7).put (ag 8) (vo M.length (bb ff).flatten.length))
theorem acT {M:ae} {z1:Bool} {ff r:List Bs} (hr:ff.drop 1=r) (hl:ff.length≤100000) (hl2:1≤ff.length) (hs:(bb ff).flatten.length≤1000000) (z:Nat) (σ:List AV) (G:ae) (hI:TZ M z1 ff r z (kill (bu mV) σ) G) :
  Ends (execW P jt (.loop mV) σ G) fun s=>Kp M ff s.e s.σ s.H:=by
 refine aX (fun z σ G=>TZ M z1 ff r z σ G) (Kp M ff) ?_ z σ G hI
 clear hI z σ G
 rintro z σ G ⟨i,p,lo,hz,hp,hlo,rfl,rfl⟩
 have hla:(bvs r).length=ff.length - 1:=by rw [bA,← hr,List.length_drop]
 obtain ⟨l1,hl1⟩:=nm (ff.length - 1)
 by_cases hi:i+1<ff.length
 ·have hi':(i:Int)<(l1:Nat):=by omega
  have hi2:i<l1:=by omega
  obtain ⟨x,hx⟩:∃ x,ff[i+1]?=some x:=⟨_,zq6 hi⟩
  have hx':r[i]?=some x:=by rw [← hr,List.getElem?_drop,Nat.add_comm];exact hx
  have q1:=gO hx' z1 none .i64
  have hft:=mZ (gH hx)
  have hle:=xR (bb ff) (i+1+1)
  have hfd:=wD (gH hx)
  rw [← hp] at hfd
  rw [hft,List.length_append,← hp] at hle
  have hcut:=fun d=>TW (r:=M.length) (n:=(bb ff).flatten.length) (p:=p) (by omega) d
  obtain ⟨lo2,hlo2,k2⟩:=Kn (m:=P.md jt) rfl (M:=M) (lo:=lo) (p:=p) (data:=(bb ff).flatten) x (by omega) hlo hfd
  have w5:IntKind.i64.wrap ((p:Int)+x.2.length)=((p+x.2.length:Nat):Int):=by rw [aq (by omega) (by omega)];omega
  have w6:IntKind.i64.wrap ((i:Int)+1)=((i+1:Nat):Int):=by rw [aq (by omega) (by omega)];omega
  have w7:IntKind.i64.wrap (p:Int)=p:=aq (by omega) (by omega)
  have hP:p+x.2.length=((bb ff).take (i+1+1)).flatten.length:=by rw [hft,List.length_append,← hp]
  obtain ⟨p1,hp1⟩:=nm (p+x.2.length)
  rw [hp1] at w5 k2 hP
  obtain ⟨i1,hi1⟩:=nm (i+1)
  rw [hi1] at w6 hP
  obtain ⟨data,hdata⟩:=nm ((bb ff).flatten)
  have hRes:∀ σ,σ=L 92 (((((((Tr.full 7).put (ag 1) (.c (.slice none 0 0))).put (ag 8) (vo M.length data.length)).put (ag 9) (ai p1)).put (ag 70) (lst z1 1 none (bvs r))).put (ag 71) (ai (l1:Nat))).put (ag 72) (ai i1))→∃ m,m<z∧TZ M z1 ff r m σ (JH M data p1 lo2):=fun σ e=>by
   rw [← hdata,← hl1] at e
   exact ⟨z - 1,by omega,i1,p1,lo2,by omega,hP,hlo2,by rw [hdata],e⟩
  rw [hdata] at hcut k2 ⊢
  rw [hl1] at hla ⊢
  generalize JH M data p lo=G0 at *
  generalize JH M data p1 lo2=G2 at *
  generalize M.length=ml at *
  simp -implicitDefEqProofs [-ac,-AV.one,-ad,me,mV,hla,hi2,hi',q1,hcut,TY,k2,w5,w6,w7]
  exact hRes _ (by simp)
 ·have hi':¬ (i:Int)<(l1:Nat):=by omega
  have hi2:¬ i<l1:=by omega
  have hall:(bb ff).take (i+1)=bb ff:=List.take_of_length_le (by rw [br];omega)
  rw [hall] at hp
  subst hp
  rw [hl1] at hla ⊢
  simp -implicitDefEqProofs [-ac,-AV.one,-ad,me,mV,hla,hi2,hi']
  exact ⟨lo,hlo,by simp,rfl,by simp⟩
theorem T0 {data:List Nat} {lo n0:Nat} (h:n0=H.length) (hlo:lo≤data.length):frz n0 (JH H data data.length lo) (vo H.length data.length)=some (.vs 1 none (ax data)):=by
 subst h
 have hget:(JH H data data.length lo)[H.length]?=some (.grow (data.map fun b=>au b) lo):=by simp [JH,JC]
 have ch:∀ x:List Nat,fK 1 x.length (x.map fun b=>au b)=ax x:=by
  intro x
  induction x with
  | nil=>rfl
  | cons a r ih=>simp only [List.length_cons,List.map_cons,fK,List.take_succ_cons,List.take_zero,List.drop_succ_cons,List.drop_zero,ih];rfl
 simp only [vo,frz]
 rw [if_neg (by omega),if_neg (by omega)]
 by_cases h0:data.length=0
 ·have:data=[]:=zq8 h0
  subst this
  rfl
 ·rw [bT,if_neg (by omega),ba,hget]
  simp only [AObj.isRow,AObj.lo,AObj.cells,List.length_map]
  rw [if_pos ⟨trivial,hlo,by omega,Nat.le_refl _⟩,List.drop_zero,List.take_of_length_le (by simp),Option.bind_some,if_pos (by simp [be]),ch]
set_option maxHeartbeats 1000000 in
theorem ug {z0:Bool} {ff:List Bs} (hl:ff.length≤100000) (hs:(bb ff).flatten.length≤1000000) (H:ae) :
  ∃ z f k,callW P jt [lst z0 1 none (bvs ff),.c (.slice none 0 0)] H=some (lst z 1 f (ax (bb ff).flatten),H++List.replicate k .other):=by
 have hla:(bvs ff).length=ff.length:=bA ff
 by_cases c1:ff.length=0
 ·have c1':(ff.length:Int)=0:=by omega
  have c1'':ff=[]:=zq8 c1
  refine ⟨false,some 0,0,?_⟩
  subst c1''
  have hb0:bvs []=[]:=rfl
  rw [pn rfl];simp -implicitDefEqProofs [-ac,-AV.one,-ad,me,hb0]
  simp [bb,ax]
 ·have c1':¬ (ff.length:Int)=0:=by omega
  have c1'':¬ ff=[]:=fun h=>c1 (by rw [h];rfl)
  obtain ⟨x,hx⟩:∃ x,ff[0]?=some x:=⟨_,zq6 (by omega)⟩
  have q1:bW 1 none (lst z0 1 none (bvs ff)) (.c (.int .i64 0))=some (.vp [bv x] 0):=gO hx z0 none .i64
  by_cases c2:ff.length=1
  ·have c2':(ff.length:Int)=1:=by omega
   have hflat:(bb ff).flatten=x.2:=by
    match ff,c2,hx with
    | [a],_,hx=>simp at hx;subst hx;simp [bb]
   rw [hflat] at hs ⊢
   refine ⟨true,some 0,0,?_⟩
   have hap:∀ d σ H,fy (P.md jt) (some d) 1 1 (.c (.slice none 0 0)) (bv x) σ H=some (lst true 1 (some d) (ax x.2),σ.map (bV [d]),H):=fun d σ H=>by
    have hm:(P.md jt).row (some d)=false:=by simp
    simpa using jV (l:=[]) hm (fun H=>pE H x) (by simp [bg,aw];omega) (by simp [bg,aw];omega) σ H
   rw [pn rfl];simp -implicitDefEqProofs [-ac,-AV.one,-ad,me,hla,c1,c1',c1'',c2,c2',q1,hap]
  ·have c2':¬ (ff.length:Int)=1:=by omega
   refine ⟨false,none,1,?_⟩
   obtain ⟨data,hdata⟩:=nm ((bb ff).flatten)
   rw [cH]
   refine call_post 7 92 rfl (rfl:P.T jt=some F_q72) rfl (aF rfl) (fun e σ G=>e=.ret∧(∃ lo,lo≤data.length∧G=JH H data data.length lo)∧aA F_q72.res σ=some (vo H.length data.length)) ?_ ?_
   ·rintro e σ G ⟨rfl,⟨lo,hlo,rfl⟩,h2⟩
    refine ⟨rfl,_,h2,rfl,?_⟩
    simp [T0 (H:=H) (data:=data) rfl hlo,hdata]
    simp [JH]
   rw [F_q72];simp -implicitDefEqProofs [-ac,-AV.one,-ad,me,hla,c1,c1',c1'',c2,c2']
   repeat rw [Option.bind_assoc]
   refine Ends.block (P:=Ko H z0 ff) (acS hl hs ff.length _ _ ⟨0,0,by omega,by simp,rfl,by simp [mU]⟩) ?_
   rintro e σ1 G1 ⟨rfl,rfl,k1⟩
   rw [hdata] at k1
   have hm:=N3 G1 data (by rw [← hdata];simp only [aw];omega)
   have hc3:=fun e d=>TX (r:=G1.length) (n:=data.length) e d
   have hfd:=wD (gH hx)
   rw [hdata] at hfd
   have hle:=xR (bb ff) 1
   rw [mZ (gH hx),hdata] at hle
   simp at hfd hle
   obtain ⟨lo,hlo,hcp⟩:=Kn (m:=P.md jt) rfl (M:=G1) (data:=data) (p:=0) (lo:=0) x (by omega) (by omega) (by simpa using hfd)
   have hvs:(AV.sl G1.length (if data.length=0 then 0 else 0) (data.length - 0) (data.length - 0) 1 data.length true)=vo G1.length data.length:=by simp [vo]
   rw [hvs] at hcp
   rw [Nat.zero_add] at hcp
   obtain ⟨r,hr⟩:=nm (ff.drop 1)
   have hcut:∀ d,iC 1 d (lst z0 1 none (bvs ff)) (some (.c (.int .i64 1))) none none=some (lst (z0 && (bvs ff).isEmpty) 1 none (bvs r)):=fun d=>by
    have h:=oM (lo:=some (.c (.int .i64 1))) (hi:=none) (i:=1) (j:=(bvs ff).length) z0 1 none d (bvs ff) (.inr ⟨.i64,rfl⟩) (.inl ⟨rfl,rfl⟩) (by omega) (by omega)
    rw [h,sX,List.take_length,← hr,bvs,bvs,List.map_drop]
   have hrl:(bvs r).length=ff.length - 1:=by rw [bA,← hr,List.length_drop]
   obtain ⟨l1,hl1⟩:=nm (ff.length - 1)
   simp -implicitDefEqProofs [-ac,-AV.one,-ad,me,k1,hm,hc3,q1,hcp,hcut,hrl]
   refine Ends.block (P:=Kp G1 ff) (acT (z1:=z0 && (bvs ff).isEmpty) hr hl (by omega) hs (ff.length - 1) _ _ ⟨0,x.2.length,lo,by omega,?_,by rw [hdata];exact hlo,by rw [hdata],?_⟩) ?_
   ·rw [mZ (gH hx)];simp
   ·rw [hdata];simp [mV]
   rintro e σ2 G2 ⟨lo2,hlo2,rfl,rfl,k2⟩
   rw [hdata] at k2 hlo2 ⊢
   simp -implicitDefEqProofs [-ac,-AV.one,-ad,me,k2]
   exact ⟨lo2,hlo2,rfl⟩
end
theorem av (z:Bool) (k:Nat) (f:Option Nat) (l:List (List AV)):aJ (lst z k f l)=true:=by
 rcases bH z k f l with ⟨_,_,e⟩ | ⟨e,_⟩<;>rw [e]<;>rfl
theorem aB (n:Nat) (t:Tr) (H:ae) (d:SOpG):cw (L n t) H d=(aC d.dst d.reads && (match d.dst with | some t=>decide (t<n) | none=>false) && match rdV d.op (L n t) H with
 | some v=>aJ v
 | none=>false):=by
 simp only [cw,bp];rfl
theorem Kq {w:Nat} (hw:w=10∨w=16) (H:ae):callW P i4 [.agg [ai w]] H=some (ab true,H):=by
 rcases hw with rfl | rfl
 ·show callW P i4 [.agg [ai 10]] H=_
  rw [i8 rfl];simp -implicitDefEqProofs [-ac,-AV.one,-ad,tE,lP,fw]
 ·show callW P i4 [.agg [ai 16]] H=_
  rw [i8 rfl];simp -implicitDefEqProofs [-ac,-AV.one,-ad,tE,lP,fw]
theorem N4 {w:Nat} (hw:w=10∨w=16) (H:ae):callW P kF [.agg [ai w]] H=some (ai (2 ^ w:Nat),H):=by
 have h90:=fun H=>Kq hw H
 rcases hw with rfl | rfl
 ·have h90':∀ H,callW P i4 [.agg [ai 10]] H=some (ab true,H):=h90
  show callW P kF [.agg [ai 10]] H=_
  rw [fD rfl];simp -implicitDefEqProofs [-ac,-AV.one,-ad,tC,h90']
  rfl
 ·have h90':∀ H,callW P i4 [.agg [ai 16]] H=some (ab true,H):=h90
  show callW P kF [.agg [ai 16]] H=_
  rw [fD rfl];simp -implicitDefEqProofs [-ac,-AV.one,-ad,tC,h90']
  rfl
theorem Ai {w:Nat} (hw:w=10∨w=16) (n:Int) (H:ae):callW P lp [.agg [ai w],ai n] H=some (ab (decide (0≤n∧n<(2 ^ w:Nat))),H):=by
 have h79:=fun H=>N4 hw H
 generalize hq:2 ^ w=q at *
 by_cases h0:n ≥ 0
 ·have h0':0≤n:=h0
  rw [eY rfl];simp -implicitDefEqProofs [-ac,-AV.one,-ad,wo,h79,h0,h0']
 ·have h0':¬ 0≤n:=h0
  rw [eY rfl];simp -implicitDefEqProofs [-ac,-AV.one,-ad,wo,h79,h0,h0']
structure Pk where
 poll:Bool
 fi:Int
 sn:Int
 part:Bool
 last:Bool
 off:Int
 z:Bool
 ff:List Bs
def Pk.f (p:Pk):AV:=lst p.z 1 none (bvs p.ff)
def Pk.v (p:Pk):List AV:=aZ p.poll p.fi p.sn p.part p.last p.off p.f
def dj (p:Pk) (w:Nat):List Bool:=
 ([true,p.part,p.poll]++aD p.fi.toNat 2++[decide (1<p.ff.length)]++(if w=16 then [p.last,false] else [])++aD p.sn.toNat w)++(if p.part=true∧w=10 then [p.last] else [])++(if p.part=true then aD p.off.toNat (aI w) else [])
structure okH (p:Pk) (w:Nat):Prop where
 wd:w=10∨w=16
 fi:0≤p.fi∧p.fi≤3
 sn:0≤p.sn∧p.sn<(2 ^ w:Nat)
 off:0≤p.off∧p.off<(2 ^ aI w:Nat)
theorem my {H:ae} {b:List Bool} (l:List Nat) (hb:b≠[]):(WN H b l).take H.length=H∧(WN H b l).length=H.length+2:=by
 rw [WN,if_neg hb,WH]
 simp
theorem dK {H:ae} {bits:List Bool} {l:List Nat} {m:Nat} (hm:bits.length=m) (hp:PackR bits l) (hb:m≤65000) (v n:Nat) (hn:n≤64) (hv:v<2 ^ n) (v' n':Int) (hv':v'=v) (hn':n'=n) :
  ∃ bits' l',bits'=bits++aD v n∧bits'.length=m+n∧PackR bits' l'∧callW P iZ [.ptr H.length 0 2,.c (.int .u64 v'),ai n'] (WN H bits l)=some (ai 0,WN H bits' l'):=by
 obtain ⟨l',h1,h2⟩:=Kl (H:=H) hp hn hv (by omega) v' n' hv' hn'
 exact ⟨_,l',rfl,by rw [List.length_append,aT,hm],h1,h2⟩
theorem lt2 (b:Bool):b.toNat<2 ^ 1:=by cases b<;>decide
section
variable {H:ae}
set_option maxHeartbeats 1000000 in
theorem Kr {p:Pk} {w:Nat} (h:okH p w) (hfl:p.ff.length≤100000) :
  ∃ l k,PackR (dj p w) l∧callW P vP [.agg p.v,ai w] H=some (.vs 1 (some 0) (ax l),H++List.replicate k .other):=by
 obtain ⟨hw,hfi,hsn,hoff⟩:=h
 obtain ⟨po,fi,sn,pa,la,off,z,ff⟩:=p
 simp only at hfi hsn hoff hfl
 obtain ⟨fn,rfl⟩:∃ n:Nat,fi=n:=⟨fi.toNat,by omega⟩
 obtain ⟨sn',rfl⟩:∃ n:Nat,sn=n:=⟨sn.toNat,by omega⟩
 obtain ⟨on,rfl⟩:∃ n:Nat,off=n:=⟨off.toNat,by omega⟩
 have hw16:2 ^ w≤2 ^ 16:=Nat.pow_le_pow_right (by omega) (by omega)
 have how16:aI w≤16:=by simp only [aI];split<;>omega
 have ho16:2 ^ aI w≤2 ^ 16:=Nat.pow_le_pow_right (by omega) how16
 have e16:(2:Nat) ^ 16=65536:=by decide
 have hsn2:sn'<2 ^ w:=by omega
 have hon2:on<2 ^ aI w:=by omega
 have wfi:IntKind.u64.wrap (fn:Int)=fn:=bJ (by omega) (by omega)
 have wsn:IntKind.u64.wrap (sn':Int)=sn':=bJ (by omega) (by omega)
 have won:IntKind.u64.wrap (on:Int)=on:=bJ (by omega) (by omega)
 have c0:=pD H
 have w0:=PackR.nil
 have hlen:(bvs ff).length=ff.length:=bA ff
 have hgt:decide ((ff.length:Int) > 1)=decide (1<ff.length):=decide_eq_decide.2 (by omega)
 have hgt':decide ((1:Int)<ff.length)=decide (1<ff.length):=decide_eq_decide.2 (by omega)
 have b1:=fun b H=>xT b H
 have bt:∀ H,callW P lV [ab true] H=some (.c (.int .u64 1),H):=fun H=>xT true H
 have bf:∀ H,callW P lV [ab false] H=some (.c (.int .u64 0),H):=fun H=>xT false H
 have o10:∀ H,callW P oV [ai 10] H=some (ai 15,H):=fun H=>eK 10 H
 have o16:∀ H,callW P oV [ai 16] H=some (ai 16,H):=fun H=>eK 16 H
 generalize hm1:decide (1<ff.length)=mo at *
 obtain ⟨x1,l1,e1,n1,w1,c1⟩:=dK (H:=H) (l:=[]) (bits:=[]) (m:=0) rfl w0 (by omega) 1 1 (by omega) (by decide) 1 1 rfl rfl
 rw [pz] at e1
 rcases hw with rfl | rfl
 ·cases pa with
  | true =>
   obtain ⟨x2,l2,e2,n2,w2,c2⟩:=dK (H:=H) n1 w1 (by omega) 1 1 (by omega) (by decide) 1 1 rfl rfl
   obtain ⟨x3,l3,e3,n3,w3,c3⟩:=dK (H:=H) n2 w2 (by omega) po.toNat 1 (by omega) (lt2 _) (po.toNat:Nat) 1 rfl rfl
   obtain ⟨x4,l4,e4,n4,w4,c4⟩:=dK (H:=H) n3 w3 (by omega) fn 2 (by omega) (by simp;omega) fn 2 rfl rfl
   obtain ⟨x5,l5,e5,n5,w5,c5⟩:=dK (H:=H) n4 w4 (by omega) mo.toNat 1 (by omega) (lt2 _) (mo.toNat:Nat) 1 rfl rfl
   obtain ⟨x6,l6,e6,n6,w6,c6⟩:=dK (H:=H) n5 w5 (by omega) sn' 10 (by omega) hsn2 sn' 10 rfl rfl
   obtain ⟨x7,l7,e7,n7,w7,c7⟩:=dK (H:=H) n6 w6 (by omega) la.toNat 1 (by omega) (lt2 _) (la.toNat:Nat) 1 rfl rfl
   obtain ⟨x8,l8,e8,n8,w8,c8⟩:=dK (H:=H) n7 w7 (by omega) on 15 (by omega) (by simpa [aI] using hon2) on 15 rfl rfl
   rw [pz] at e2
   rw [ix] at e3 e5 e7
   have hb:dj ⟨po,fn,sn',true,la,on,z,ff⟩ 10=x8:=by rw [e8,e7,e6,e5,e4,e3,e2,e1];simp [dj,hm1,aI]
   have hx0:x8≠[]:=fun e=>by rw [e] at n8;simp at n8
   have c9:=fo (H:=H) w8 hx0 (by omega)
   obtain ⟨t1,t2⟩:=my (H:=H) l8 hx0
   refine ⟨l8,2,by rw [hb];exact w8,?_⟩
   rw [kO rfl];simp -implicitDefEqProofs [-ac,-AV.one,-ad,wg,aK,aB,aP,aC,aM,SOpG.reads,SOp.slots,SX.slots,SOp.noL,rdV,av,aJ,aE,eqV,Pk.v,Pk.f,aZ,c0,c1,bt,bf,b1,c2,c3,wfi,c4,hlen,hgt,hgt',c5,wsn,c6,c7,o10,won,c8,c9,t1,t2]
  | false =>
   obtain ⟨x2,l2,e2,n2,w2,c2⟩:=dK (H:=H) n1 w1 (by omega) 0 1 (by omega) (by decide) 0 1 rfl rfl
   obtain ⟨x3,l3,e3,n3,w3,c3⟩:=dK (H:=H) n2 w2 (by omega) po.toNat 1 (by omega) (lt2 _) (po.toNat:Nat) 1 rfl rfl
   obtain ⟨x4,l4,e4,n4,w4,c4⟩:=dK (H:=H) n3 w3 (by omega) fn 2 (by omega) (by simp;omega) fn 2 rfl rfl
   obtain ⟨x5,l5,e5,n5,w5,c5⟩:=dK (H:=H) n4 w4 (by omega) mo.toNat 1 (by omega) (lt2 _) (mo.toNat:Nat) 1 rfl rfl
   obtain ⟨x6,l6,e6,n6,w6,c6⟩:=dK (H:=H) n5 w5 (by omega) sn' 10 (by omega) hsn2 sn' 10 rfl rfl
   rw [pA] at e2
   rw [ix] at e3 e5
   have hb:dj ⟨po,fn,sn',false,la,on,z,ff⟩ 10=x6:=by rw [e6,e5,e4,e3,e2,e1];simp [dj,hm1]
   have hx0:x6≠[]:=fun e=>by rw [e] at n6;simp at n6
   have c9:=fo (H:=H) w6 hx0 (by omega)
   obtain ⟨t1,t2⟩:=my (H:=H) l6 hx0
   refine ⟨l6,2,by rw [hb];exact w6,?_⟩
   rw [kO rfl];simp -implicitDefEqProofs [-ac,-AV.one,-ad,wg,Pk.v,Pk.f,aZ,c0,c1,bt,bf,b1,c2,c3,wfi,c4,hlen,hgt,hgt',c5,wsn,c6,c9,t1,t2]
 ·cases pa with
  | true =>
   obtain ⟨x2,l2,e2,n2,w2,c2⟩:=dK (H:=H) n1 w1 (by omega) 1 1 (by omega) (by decide) 1 1 rfl rfl
   obtain ⟨x3,l3,e3,n3,w3,c3⟩:=dK (H:=H) n2 w2 (by omega) po.toNat 1 (by omega) (lt2 _) (po.toNat:Nat) 1 rfl rfl
   obtain ⟨x4,l4,e4,n4,w4,c4⟩:=dK (H:=H) n3 w3 (by omega) fn 2 (by omega) (by simp;omega) fn 2 rfl rfl
   obtain ⟨x5,l5,e5,n5,w5,c5⟩:=dK (H:=H) n4 w4 (by omega) mo.toNat 1 (by omega) (lt2 _) (mo.toNat:Nat) 1 rfl rfl
   obtain ⟨x6,l6,e6,n6,w6,c6⟩:=dK (H:=H) n5 w5 (by omega) la.toNat 1 (by omega) (lt2 _) (la.toNat:Nat) 1 rfl rfl
   obtain ⟨x7,l7,e7,n7,w7,c7⟩:=dK (H:=H) n6 w6 (by omega) 0 1 (by omega) (by decide) 0 1 rfl rfl
   obtain ⟨x8,l8,e8,n8,w8,c8⟩:=dK (H:=H) n7 w7 (by omega) sn' 16 (by omega) hsn2 sn' 16 rfl rfl
   obtain ⟨x9,l9,e9,n9,w9,c9⟩:=dK (H:=H) n8 w8 (by omega) on 16 (by omega) (by simpa [aI] using hon2) on 16 rfl rfl
   rw [pz] at e2
   rw [pA] at e7
   rw [ix] at e3 e5 e6
   have hb:dj ⟨po,fn,sn',true,la,on,z,ff⟩ 16=x9:=by rw [e9,e8,e7,e6,e5,e4,e3,e2,e1];simp [dj,hm1,aI]
   have hx0:x9≠[]:=fun e=>by rw [e] at n9;simp at n9
   have c10:=fo (H:=H) w9 hx0 (by omega)
   obtain ⟨t1,t2⟩:=my (H:=H) l9 hx0
   refine ⟨l9,2,by rw [hb];exact w9,?_⟩
   rw [kO rfl];simp -implicitDefEqProofs [-ac,-AV.one,-ad,wg,aK,aB,aP,aC,aM,SOpG.reads,SOp.slots,SX.slots,SOp.noL,rdV,av,aJ,aE,eqV,Pk.v,Pk.f,aZ,c0,c1,bt,bf,b1,c2,c3,wfi,c4,hlen,hgt,hgt',c5,wsn,c6,c7,o16,won,c8,c9,c10,t1,t2]
  | false =>
   obtain ⟨x2,l2,e2,n2,w2,c2⟩:=dK (H:=H) n1 w1 (by omega) 0 1 (by omega) (by decide) 0 1 rfl rfl
   obtain ⟨x3,l3,e3,n3,w3,c3⟩:=dK (H:=H) n2 w2 (by omega) po.toNat 1 (by omega) (lt2 _) (po.toNat:Nat) 1 rfl rfl
   obtain ⟨x4,l4,e4,n4,w4,c4⟩:=dK (H:=H) n3 w3 (by omega) fn 2 (by omega) (by simp;omega) fn 2 rfl rfl
   obtain ⟨x5,l5,e5,n5,w5,c5⟩:=dK (H:=H) n4 w4 (by omega) mo.toNat 1 (by omega) (lt2 _) (mo.toNat:Nat) 1 rfl rfl
   obtain ⟨x6,l6,e6,n6,w6,c6⟩:=dK (H:=H) n5 w5 (by omega) la.toNat 1 (by omega) (lt2 _) (la.toNat:Nat) 1 rfl rfl
   obtain ⟨x7,l7,e7,n7,w7,c7⟩:=dK (H:=H) n6 w6 (by omega) 0 1 (by omega) (by decide) 0 1 rfl rfl
   obtain ⟨x8,l8,e8,n8,w8,c8⟩:=dK (H:=H) n7 w7 (by omega) sn' 16 (by omega) hsn2 sn' 16 rfl rfl
   rw [pA] at e2 e7
   rw [ix] at e3 e5 e6
   have hb:dj ⟨po,fn,sn',false,la,on,z,ff⟩ 16=x8:=by rw [e8,e7,e6,e5,e4,e3,e2,e1];simp [dj,hm1]
   have hx0:x8≠[]:=fun e=>by rw [e] at n8;simp at n8
   have c10:=fo (H:=H) w8 hx0 (by omega)
   obtain ⟨t1,t2⟩:=my (H:=H) l8 hx0
   refine ⟨l8,2,by rw [hb];exact w8,?_⟩
   rw [kO rfl];simp -implicitDefEqProofs [-ac,-AV.one,-ad,wg,Pk.v,Pk.f,aZ,c0,c1,bt,bf,b1,c2,c3,wfi,c4,hlen,hgt,hgt',c5,wsn,c6,c7,c8,c10,t1,t2]
end
section
variable {H:ae}
def acU (H:ae) (z0:Bool) (l:List Nat) (w:Nat) (z:Nat) (σ:List AV) (G:ae):Prop:=
 ∃ (i:Nat) (bits:List Bool) (lb:List Nat),i+z=l.length∧PackR bits lb∧G=WN H bits lb∧bits++bO w (l.drop i)=bO w l
  ∧ σ=L 54 (((((((Tr.full 6).put (ag 0) (lst z0 1 none (nvs l))).put (ag 1) (ai w)).put (ag 6) (.ptr H.length 0 2)).put (ag 23) (lst z0 1 none (nvs l))).put (ag 24) (ai l.length)).put (ag 25) (ai i))
def Ks (H:ae) (l:List Nat) (w:Nat) (e:AExit) (σ:List AV) (G:ae):Prop:=
 e=.exit 1∧∃ lb,PackR (bO w l) lb∧G=WN H (bO w l) lb∧kill [0,1,23,24,25,26] σ=L 54 ((Tr.full 6).put (ag 6) (.ptr H.length 0 2))
theorem acV {z0:Bool} {l:List Nat} (hll:l.length≤23) {w:Nat} (hw:w=11∨w=15) (hv:∀ n∈l,1≤n∧n<2 ^ w) (z:Nat) (σ:List AV) (G:ae) (hI:acU H z0 l w z (kill (bu kL) σ) G) :
  Ends (execW P qO (.loop kL) σ G) fun s=>Ks H l w s.e s.σ s.H:=by
 refine aX (fun z σ G=>acU H z0 l w z σ G) (Ks H l w) ?_ z σ G hI
 clear hI z σ G
 rintro z σ G ⟨i,bits,lb,hz,hp,rfl,hb,rfl⟩
 have hlen:(nvs l).length=l.length:=dn l
 have hbl:bits.length≤23 * 16:=by
  have e1:=congrArg List.length hb
  rw [List.length_append,dw,dw] at e1
  have:l.length * (w+1)≤23 * 16:=Nat.mul_le_mul hll (by omega)
  omega
 by_cases hi:i<l.length
 ·have hi':(i:Int)<l.length:=by omega
  obtain ⟨n,hn⟩:∃ n,l[i]?=some n:=⟨_,zq6 hi⟩
  obtain ⟨hn1,hn2⟩:=hv n (List.mem_of_getElem? hn)
  have q1:=qr hn z0 none .i64
  have hdrop:l.drop i=n :: l.drop (i+1):=by
   rw [List.drop_eq_getElem_cons hi]
   rw [zq6 hi] at hn
   rw [zq1 hn]
  rw [hdrop,bO,List.length_drop] at hb
  have hmore:decide (0<l.length - (i+1))=decide (i+1<l.length):=decide_eq_decide.2 (by omega)
  rw [hmore] at hb
  obtain ⟨x1,l1,e1,n1,p1,c1⟩:=dK (H:=H) rfl hp (by omega) (decide (i+1<l.length)).toNat 1 (by omega) (lt2 _) ((decide (i+1<l.length)).toNat:Nat) 1 rfl rfl
  rw [ix] at e1
  obtain ⟨x2,l2,e2,n2,p2,c2⟩:=dK (H:=H) n1 p1 (by omega) n w (by omega) hn2 n w rfl rfl
  have hb2:x2++bO w (l.drop (i+1))=bO w l:=by rw [e2,e1,← hb];simp
  have hn15:n<32768:=by
   have:2 ^ w≤2 ^ 15:=Nat.pow_le_pow_right (by omega) (by omega)
   have:(2:Nat) ^ 15=32768:=by decide
   omega
  have a1:¬ (n:Int)<1:=by omega
  have a1':¬ n<1:=by omega
  have a1'':¬ n=0:=by omega
  have hm:min w 64=w:=by omega
  have hw0:¬ (w:Int)<0:=by omega
  have hpp:IntKind.i64.wrap (1 * 2 ^ w)=((2 ^ w:Nat):Int):=by
   rcases hw with rfl | rfl<;>rfl
  have hpp':IntKind.i64.wrap (2 ^ w)=((2 ^ w:Nat):Int):=by
   rcases hw with rfl | rfl<;>rfl
  have a2:¬ (n:Int) ≥ ((2 ^ w:Nat):Int):=by omega
  have a2':¬ ((2 ^ w:Nat):Int)≤n:=by omega
  have a2'':¬ 2 ^ w≤n:=by omega
  have wl:IntKind.i64.wrap ((l.length:Int) - 1)=(l.length:Int) - 1:=aq (by omega) (by omega)
  have wn:IntKind.u64.wrap (n:Int)=n:=bJ (by omega) (by omega)
  have w3:IntKind.i64.wrap ((i:Int)+1)=((i+1:Nat):Int):=by rw [aq (by omega) (by omega)];omega
  generalize hpw:2 ^ w=pw at *
  obtain ⟨i1,hi1⟩:=nm (i+1)
  rw [hi1] at w3 c1 hb2
  by_cases hlast:(i:Int)<(l.length:Int) - 1
  ·have hd:decide (i1<l.length)=true:=decide_eq_true (by omega)
   have hlast':i<l.length - 1:=by omega
   rw [hd] at c1
   replace c1:callW P iZ [.ptr H.length 0 2,.c (.int .u64 1),ai 1] (WN H bits lb)=_:=c1
   simp -implicitDefEqProofs [-ac,-AV.one,-ad,we,kL,hlen,hi,hi',q1,a1,a1',a1'',hm,hw0,hpp,hpp',a2,a2',a2'',wl,hlast,hlast',c1,wn,c2,w3]
   exact ⟨z - 1,by omega,i1,x2,l2,by omega,p2,rfl,hb2,by simp⟩
  ·have hd:decide (i1<l.length)=false:=decide_eq_false (by omega)
   have hlast':¬ i<l.length - 1:=by omega
   rw [hd] at c1
   replace c1:callW P iZ [.ptr H.length 0 2,.c (.int .u64 0),ai 1] (WN H bits lb)=_:=c1
   simp -implicitDefEqProofs [-ac,-AV.one,-ad,we,kL,hlen,hi,hi',q1,a1,a1',a1'',hm,hw0,hpp,hpp',a2,a2',a2'',wl,hlast,hlast',c1,wn,c2,w3]
   exact ⟨z - 1,by omega,i1,x2,l2,by omega,p2,rfl,hb2,by simp⟩
 ·have hi':¬ (i:Int)<l.length:=by omega
  have hnil:l.drop i=[]:=List.drop_eq_nil_of_le (by omega)
  rw [hnil,bO,List.append_nil] at hb
  subst hb
  simp -implicitDefEqProofs [-ac,-AV.one,-ad,we,kL,hlen,hi,hi']
  exact ⟨rfl,lb,hp,rfl,by simp⟩
theorem ui {z0:Bool} {l:List Nat} (h1:1≤l.length) (hll:l.length≤23) {w:Nat} (hw:w=11∨w=15) (hv:∀ n∈l,1≤n∧n<2 ^ w) (H:ae) :
  ∃ lb,PackR (bO w l) lb∧callW P qO [lst z0 1 none (nvs l),ai w] H=some (.tup [.vs 1 none (ax lb),ai 0],H++List.replicate 2 .other):=by
 have h70:=fun H=>kS w H
 have hw':decide ((w:Int)=11∨(w:Int)=15)=true:=by
  rcases hw with rfl | rfl<;>rfl
 rw [hw'] at h70
 have hlen:(nvs l).length=l.length:=dn l
 have a1:¬ (l.length:Int)=0:=by omega
 have a1':¬ l.length=0:=by omega
 have a1'':¬ l=[]:=fun h=>a1' (by rw [h];rfl)
 have a2:¬ (l.length:Int) > 23:=by omega
 have a2':¬ (23:Int)<l.length:=by omega
 have a2'':¬ 23<l.length:=by omega
 have c75:=pD H
 suffices hs:Ends (callW P qO [lst z0 1 none (nvs l),ai w] H) fun y=>∃ lb,PackR (bO w l) lb∧y=(.tup [.vs 1 none (ax lb),ai 0],H++List.replicate 2 .other) by
  obtain ⟨y,h2,lb,h3,rfl⟩:=hs
  exact ⟨lb,h3,h2⟩
 have hne:bO w l≠[]:=fun e=>by
  have:=dw w l
  rw [e] at this
  have h0:1 * 1≤l.length * (w+1):=Nat.mul_le_mul h1 (by omega)
  simp at this
  omega
 refine call_post 6 54 rfl (rfl:P.T qO=some F_q70) rfl (aF rfl) (fun e σ G=>e=.ret∧∃ lb,PackR (bO w l) lb∧G=WN H (bO w l) lb∧aA F_q70.res σ=some (.tup [.vs 1 (some 53) (ax lb),ai 0])) ?_ ?_
 ·rintro e σ G ⟨rfl,lb,hp,rfl,h2⟩
  obtain ⟨t1,t2⟩:=my (H:=H) lb hne
  refine ⟨rfl,_,h2,rfl,?_⟩
  simp [t1,t2]
  exact ⟨lb,hp,rfl⟩
 rw [F_q70];simp -implicitDefEqProofs [-ac,-AV.one,-ad,we,h70,hlen,a1,a1',a1'',a2,a2',a2'',c75]
 repeat rw [Option.bind_assoc]
 refine Ends.block (P:=Ks H l w) (acV (z0:=z0) hll hw hv l.length _ _ ⟨0,[],[],by omega,PackR.nil,rfl,by simp,by simp [kL]⟩) ?_
 rintro e σ1 G1 ⟨rfl,lb,hp,rfl,k2⟩
 have hc:=fo (H:=H) hp hne (by
  rw [dw]
  have:l.length * (w+1)≤23 * 16:=Nat.mul_le_mul hll (by omega)
  omega)
 simp -implicitDefEqProofs [-ac,-AV.one,-ad,we,k2,hc]
 exact ⟨lb,hp,rfl,rfl⟩
end
end Go.A.V.S
