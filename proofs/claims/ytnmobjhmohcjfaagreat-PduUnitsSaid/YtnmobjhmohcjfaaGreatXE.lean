/- status: a miss. -/
import Derived.Test.YtnmobjhmohcjfaaGreatXD
set_option linter.unusedSimpArgs false
set_option linter.unusedVariables false
set_option linter.unnecessarySimpa false
namespace Go.A.V.S
open Go Go.A
structure Ms where
 sn:Int
 part:Bool
 fr:Int
 to:Int
 deriving DecidableEq
def Ms.v (m:Ms):List AV:=[ai m.sn,ab m.part,ai m.fr,ai m.to]
def bj (m:Ms) (q r:Nat):Bool:=
 decide (0≤m.sn∧m.sn<q) && decide (0≤m.fr) && decide (0≤m.to) && decide (m.to<r) && (if m.part=true then (if m.to=0 then decide (m.fr<r) else decide (m.fr<m.to)) else decide (m.fr=0) && decide (m.to=0))
theorem kZ (b:Bool) (ks:List BK) (xs ys:List AV):en (.b :: ks) (ab b :: xs) (ab b :: ys)=en ks xs ys:=by
 simp [en,eF]
theorem jh (w:Int) (H:ae):callW P qI [ai w] H=some (ab (decide (w=10∨w=16)),H):=by
 by_cases h:w=10
 ·rw [gM rfl];simp -implicitDefEqProofs (disch:=first | omega | (simp;done) | fail) [-ac,-AV.one,-ad,zy,CM,h]
 ·by_cases h2:w=16
  ·rw [gM rfl];simp -implicitDefEqProofs (disch:=first | omega | (simp;done) | fail) [-ac,-AV.one,-ad,zy,CM,h,h2]
  ·rw [gM rfl];simp -implicitDefEqProofs (disch:=first | omega | (simp;done) | fail) [-ac,-AV.one,-ad,zy,CM,h,h2]
theorem Ew (H:ae):callW P qR [ai 10] H=some (ai 15,H):=by
 rw [io rfl];simp -implicitDefEqProofs (disch:=first | omega | (simp;done) | fail) [-ac,-AV.one,-ad,D3,CM]
theorem Ex (H:ae):callW P qR [ai 16] H=some (ai 16,H):=by
 rw [io rfl];simp -implicitDefEqProofs (disch:=first | omega | (simp;done) | fail) [-ac,-AV.one,-ad,D3,CM]
theorem K5 (b:Bool) (H:ae):callW P vR [ab b] H=some (.c (.int .u64 b.toNat),H):=by
 cases b
 ·rw [pt rfl];simp -implicitDefEqProofs (disch:=first | omega | (simp;done) | fail) [-ac,-AV.one,-ad,D2,CM]
 ·rw [pt rfl];simp -implicitDefEqProofs (disch:=first | omega | (simp;done) | fail) [-ac,-AV.one,-ad,D2,CM]
set_option maxHeartbeats 1000000 in
theorem Ax (m:Ms) (H:ae):callW P oT [.agg m.v,ai 10] H=some (ab (bj m 1024 32768),H):=by
 have hI:=fun H=>Ai (w:=10) (by omega) m.sn H
 replace hI:∀ H,callW P lp [.agg [ai 10],ai m.sn] H=some (ab (decide (0≤m.sn∧m.sn<1024)),H):=hI
 have ho:=fun H=>Ew H
 obtain ⟨sn,pa,fr,to⟩:=m
 simp only at hI
 by_cases c1:0≤sn∧sn<1024
 ·rw [decide_eq_true c1] at hI
  by_cases c2:fr<0
  ·rw [show bj ⟨sn,pa,fr,to⟩ 1024 32768=false by simp [bj];omega]
   rw [aR rfl];simp -implicitDefEqProofs (disch:=first | omega | (simp;done) | fail) [-ac,-AV.one,-ad,eX,CM,Ms.v,hI,ho]
  by_cases c3:to<0
  ·rw [show bj ⟨sn,pa,fr,to⟩ 1024 32768=false by simp [bj];omega]
   rw [aR rfl];simp -implicitDefEqProofs (disch:=first | omega | (simp;done) | fail) [-ac,-AV.one,-ad,eX,CM,Ms.v,hI,ho]
  by_cases c4:32768≤to
  ·rw [show bj ⟨sn,pa,fr,to⟩ 1024 32768=false by simp [bj];omega]
   rw [aR rfl];simp -implicitDefEqProofs (disch:=first | omega | (simp;done) | fail) [-ac,-AV.one,-ad,eX,CM,Ms.v,hI,ho]
  have hm:bj ⟨sn,pa,fr,to⟩ 1024 32768=(if pa=true then (if to=0 then decide (fr<32768) else decide (fr<to)) else decide (fr=0) && decide (to=0)):=by
   simp only [bj];rw [decide_eq_true (show 0≤sn∧sn<((1024:Nat):Int) from c1),decide_eq_true (show 0≤fr by omega),decide_eq_true (show 0≤to by omega),decide_eq_true (show to<((32768:Nat):Int) by omega)];simp
  rw [hm]
  clear hm
  cases pa with
  | true =>
   rw [if_pos rfl]
   by_cases c5:to=0
   ·rw [if_pos c5]
    by_cases c6:fr<32768
    ·rw [decide_eq_true c6]
     rw [aR rfl];simp -implicitDefEqProofs (disch:=first | omega | (simp;done) | fail) [-ac,-AV.one,-ad,eX,CM,Ms.v,hI,ho]
    ·rw [decide_eq_false c6]
     rw [aR rfl];simp -implicitDefEqProofs (disch:=first | omega | (simp;done) | fail) [-ac,-AV.one,-ad,eX,CM,Ms.v,hI,ho]
   ·rw [if_neg c5]
    by_cases c6:fr<to
    ·rw [decide_eq_true c6]
     rw [aR rfl];simp -implicitDefEqProofs (disch:=first | omega | (simp;done) | fail) [-ac,-AV.one,-ad,eX,CM,Ms.v,hI,ho]
    ·rw [decide_eq_false c6]
     rw [aR rfl];simp -implicitDefEqProofs (disch:=first | omega | (simp;done) | fail) [-ac,-AV.one,-ad,eX,CM,Ms.v,hI,ho]
  | false =>
   rw [if_neg (by simp)]
   by_cases c5:fr=0
   ·by_cases c6:to=0
    ·rw [decide_eq_true c5,decide_eq_true c6]
     rw [aR rfl];simp -implicitDefEqProofs (disch:=first | omega | (simp;done) | fail) [-ac,-AV.one,-ad,eX,CM,Ms.v,hI,ho,ig,fw,kZ,fZ]
    ·rw [decide_eq_true c5,decide_eq_false c6]
     rw [aR rfl];simp -implicitDefEqProofs (disch:=first | omega | (simp;done) | fail) [-ac,-AV.one,-ad,eX,CM,Ms.v,hI,ho,ig,fw,kZ,fZ]
   ·rw [decide_eq_false c5]
    rw [aR rfl];simp -implicitDefEqProofs (disch:=first | omega | (simp;done) | fail) [-ac,-AV.one,-ad,eX,CM,Ms.v,hI,ho,ig,fw,kZ,fZ]
 ·rw [show bj ⟨sn,pa,fr,to⟩ 1024 32768=false by simp only [bj];rw [decide_eq_false (show ¬ (0≤sn∧sn<((1024:Nat):Int)) from c1)];rfl]
  rw [decide_eq_false c1] at hI
  rw [aR rfl];simp -implicitDefEqProofs (disch:=first | omega | (simp;done) | fail) [-ac,-AV.one,-ad,eX,CM,Ms.v,hI,ho]
set_option maxHeartbeats 1000000 in
theorem Ay (m:Ms) (H:ae):callW P oT [.agg m.v,ai 16] H=some (ab (bj m 65536 65536),H):=by
 have hI:=fun H=>Ai (w:=16) (by omega) m.sn H
 replace hI:∀ H,callW P lp [.agg [ai 16],ai m.sn] H=some (ab (decide (0≤m.sn∧m.sn<65536)),H):=hI
 have ho:=fun H=>Ex H
 obtain ⟨sn,pa,fr,to⟩:=m
 simp only at hI
 by_cases c1:0≤sn∧sn<65536
 ·rw [decide_eq_true c1] at hI
  by_cases c2:fr<0
  ·rw [show bj ⟨sn,pa,fr,to⟩ 65536 65536=false by simp [bj];omega]
   rw [aR rfl];simp -implicitDefEqProofs (disch:=first | omega | (simp;done) | fail) [-ac,-AV.one,-ad,eX,CM,Ms.v,hI,ho]
  by_cases c3:to<0
  ·rw [show bj ⟨sn,pa,fr,to⟩ 65536 65536=false by simp [bj];omega]
   rw [aR rfl];simp -implicitDefEqProofs (disch:=first | omega | (simp;done) | fail) [-ac,-AV.one,-ad,eX,CM,Ms.v,hI,ho]
  by_cases c4:65536≤to
  ·rw [show bj ⟨sn,pa,fr,to⟩ 65536 65536=false by simp [bj];omega]
   rw [aR rfl];simp -implicitDefEqProofs (disch:=first | omega | (simp;done) | fail) [-ac,-AV.one,-ad,eX,CM,Ms.v,hI,ho]
  have hm:bj ⟨sn,pa,fr,to⟩ 65536 65536=(if pa=true then (if to=0 then decide (fr<65536) else decide (fr<to)) else decide (fr=0) && decide (to=0)):=by
   simp only [bj];rw [decide_eq_true (show 0≤sn∧sn<((65536:Nat):Int) from c1),decide_eq_true (show 0≤fr by omega),decide_eq_true (show 0≤to by omega),decide_eq_true (show to<((65536:Nat):Int) by omega)];simp
  rw [hm]
  clear hm
  cases pa with
  | true =>
   rw [if_pos rfl]
   by_cases c5:to=0
   ·rw [if_pos c5]
    by_cases c6:fr<65536
    ·rw [decide_eq_true c6]
     rw [aR rfl];simp -implicitDefEqProofs (disch:=first | omega | (simp;done) | fail) [-ac,-AV.one,-ad,eX,CM,Ms.v,hI,ho]
    ·rw [decide_eq_false c6]
     rw [aR rfl];simp -implicitDefEqProofs (disch:=first | omega | (simp;done) | fail) [-ac,-AV.one,-ad,eX,CM,Ms.v,hI,ho]
   ·rw [if_neg c5]
    by_cases c6:fr<to
    ·rw [decide_eq_true c6]
     rw [aR rfl];simp -implicitDefEqProofs (disch:=first | omega | (simp;done) | fail) [-ac,-AV.one,-ad,eX,CM,Ms.v,hI,ho]
    ·rw [decide_eq_false c6]
     rw [aR rfl];simp -implicitDefEqProofs (disch:=first | omega | (simp;done) | fail) [-ac,-AV.one,-ad,eX,CM,Ms.v,hI,ho]
  | false =>
   rw [if_neg (by simp)]
   by_cases c5:fr=0
   ·by_cases c6:to=0
    ·rw [decide_eq_true c5,decide_eq_true c6]
     rw [aR rfl];simp -implicitDefEqProofs (disch:=first | omega | (simp;done) | fail) [-ac,-AV.one,-ad,eX,CM,Ms.v,hI,ho,ig,fw,kZ,fZ]
    ·rw [decide_eq_true c5,decide_eq_false c6]
     rw [aR rfl];simp -implicitDefEqProofs (disch:=first | omega | (simp;done) | fail) [-ac,-AV.one,-ad,eX,CM,Ms.v,hI,ho,ig,fw,kZ,fZ]
   ·rw [decide_eq_false c5]
    rw [aR rfl];simp -implicitDefEqProofs (disch:=first | omega | (simp;done) | fail) [-ac,-AV.one,-ad,eX,CM,Ms.v,hI,ho,ig,fw,kZ,fZ]
 ·rw [show bj ⟨sn,pa,fr,to⟩ 65536 65536=false by simp only [bj];rw [decide_eq_false (show ¬ (0≤sn∧sn<((65536:Nat):Int)) from c1)];rfl]
  rw [decide_eq_false c1] at hI
  rw [aR rfl];simp -implicitDefEqProofs (disch:=first | omega | (simp;done) | fail) [-ac,-AV.one,-ad,eX,CM,Ms.v,hI,ho]
structure St where
 ack:Int
 z:Bool
 ms:List Ms
def mvs (l:List Ms):List (List AV):=l.map Ms.v
def St.v (s:St):List AV:=[ai s.ack,lst s.z 4 none (mvs s.ms)]
theorem dO (l:List Ms):(mvs l).length=l.length:=by simp [mvs]
def qW (w:Nat):Nat:=2 ^ w
def rW (w:Nat):Nat:=if w=10 then 32768 else 65536
def jn (s:St) (w:Nat):Bool:=decide (0≤s.ack∧s.ack<qW w) && decide (s.ms.length≤32) && !(s.ms.any fun m=>!bj m (qW w) (rW w))
theorem ji (H:ae) (x:AV):ba (H++[.row [x]]) H.length 0 1 1=some [x]:=by
 simp [ba,AObj.isRow,AObj.lo,AObj.cells]
theorem wM {w:Nat} (hw:w=10∨w=16) (m:Ms) (H:ae):callW P oT [.agg m.v,ai w] H=some (ab (bj m (qW w) (rW w)),H):=by
 rcases hw with rfl | rfl
 ·exact Ax m H
 ·exact Ay m H
theorem GV {w:Nat} (hw:w=10∨w=16) (m:Ms) (H:ae):callW P lW [.agg m.v,.ptr H.length 0 1] (H++[.row [ai w]])=some (ab (!bj m (qW w) (rW w)),H++[.row [ai w]]):=by
 have h:=fun H=>wM hw m H
 obtain ⟨b,hb⟩:=nm (bj m (qW w) (rW w))
 rw [hb] at h ⊢
 obtain ⟨sn,pa,fr,to⟩:=m
 simp only [Ms.v] at h
 rw [ql rfl];simp -implicitDefEqProofs [-ac,-AV.one,-ad,BQ,Ms.v,h,ji]
 exact List.take_of_length_le (by simp)
theorem Uw {w:Nat} (hw:w=10∨w=16) (z:Bool) (l:List Ms) (hl:l.length≤100000) (H:ae) :
  callW P xz [lst z 4 none (mvs l),.fn lW [.ptr H.length 0 1]] (H++[.row [ai w]])=some (ab (l.any fun m=>!bj m (qW w) (rW w)),H++[.row [ai w]]):=by
 have h:=ud (f1:=xz) (f0:=Jj) (k:=4) (ld:=some 4) (z:=z) (l:=mvs l) (f:=lW) (cs:=[.ptr H.length 0 1]) (p:=fun c=>match c with
  | [.c (.int _ sn),.c (.bool p),.c (.int _ fr),.c (.int _ to)]=>!bj ⟨sn,p,fr,to⟩ (qW w) (rW w)
  | _=>false) (H:=H++[.row [ai w]]) rfl (fun _ _=>rfl) rfl rfl rfl (fun _ _=>rfl) rfl (.inl rfl) (fun c hc=>by obtain ⟨n,_,rfl⟩:=List.mem_map.1 hc;rfl) (by rw [dO];omega) rfl rfl (fun c hc=>by obtain ⟨n,_,rfl⟩:=List.mem_map.1 hc;exact ⟨rfl,rfl,rfl⟩)
  (fun c hc=>by
   obtain ⟨n,_,rfl⟩:=List.mem_map.1 hc
   exact GV hw n H)
 rw [h]
 congr 3
 rw [mvs,List.any_map]
 rfl
theorem Az {w:Int} (s:St) (hl:s.ms.length≤100000) (H:ae):∃ k,callW P qQ [.agg s.v,ai w] H=some (ab (decide (w=10∨w=16) && jn s w.toNat),H++List.replicate k .other):=by
 have hW:=fun H=>jh w H
 have hml:(mvs s.ms).length=s.ms.length:=dO _
 by_cases hw:w=10∨w=16
 ·obtain ⟨wn,rfl,hwn⟩:∃ wn:Nat,w=wn∧(wn=10∨wn=16):=by
   rcases hw with rfl | rfl
   ·exact ⟨10,rfl,.inl rfl⟩
   ·exact ⟨16,rfl,.inr rfl⟩
  have htn:((wn:Nat):Int).toNat=wn:=by simp
  rw [htn]
  rw [decide_eq_true hw] at hW ⊢
  have hI:=fun H=>Ai hwn s.ack H
  have hA:=Uw hwn s.z s.ms hl H
  obtain ⟨b,hb⟩:=nm ((s.ms.any fun m=>!bj m (qW wn) (rW wn)))
  rw [jn,qW]
  rw [qW] at hb hA
  rw [hb] at hA ⊢
  refine ⟨1,?_⟩
  obtain ⟨ack,z,ms⟩:=s
  simp only at *
  by_cases c1:0≤ack∧ack<(2 ^ wn:Nat)
  ·rw [decide_eq_true c1] at hI ⊢
   by_cases c2:ms.length≤32
   ·rw [decide_eq_true c2]
    rw [gC rfl];simp -implicitDefEqProofs (disch:=first | omega | (simp;done) | fail) [-ac,-AV.one,-ad,wj,CM,St.v,hW,hI,hA,hml,ji]
   ·rw [decide_eq_false c2]
    rw [gC rfl];simp -implicitDefEqProofs (disch:=first | omega | (simp;done) | fail) [-ac,-AV.one,-ad,wj,CM,St.v,hW,hI,hml,ji]
  ·rw [decide_eq_false c1] at hI ⊢
   rw [gC rfl];simp -implicitDefEqProofs (disch:=first | omega | (simp;done) | fail) [-ac,-AV.one,-ad,wj,CM,St.v,hW,hI,ji]
 ·rw [decide_eq_false hw] at hW ⊢
  refine ⟨1,?_⟩
  obtain ⟨ack,z,ms⟩:=s
  rw [gC rfl];simp -implicitDefEqProofs (disch:=first | omega | (simp;done) | fail) [-ac,-AV.one,-ad,wj,CM,St.v,hW,ji]
theorem Oz (t k:Nat) (hk:k≤16) (ht:t<2 ^ k):IntKind.u64.wrap ((BitVec.ofInt 64 (t:Int) &&& BitVec.ofInt 64 ((2 ^ k - 1:Nat):Int)).toNat:Int)=t:=by
 have h16:2 ^ k≤2 ^ 16:=Nat.pow_le_pow_right (by omega) hk
 have e16:(2:Nat) ^ 16=65536:=by decide
 have e:(BitVec.ofInt 64 (t:Int) &&& BitVec.ofInt 64 ((2 ^ k - 1:Nat):Int)).toNat=t:=by
  rw [BitVec.ofInt_natCast,BitVec.ofInt_natCast,BitVec.toNat_and,BitVec.toNat_ofNat,BitVec.toNat_ofNat,Nat.mod_eq_of_lt (by omega),Nat.mod_eq_of_lt (by omega),Nat.and_two_pow_sub_one_eq_mod,Nat.mod_eq_of_lt ht]
 rw [e,bJ (by omega) (by omega)]
theorem OA (k:Nat) (hk:k≤16):IntKind.u64.wrap ((BitVec.ofInt 64 (18446744073709551615:Int) &&& BitVec.ofInt 64 ((2 ^ k - 1:Nat):Int)).toNat:Int)=((2 ^ k - 1:Nat):Int):=by
 have h16:2 ^ k≤2 ^ 16:=Nat.pow_le_pow_right (by omega) hk
 have e16:(2:Nat) ^ 16=65536:=by decide
 have e:(BitVec.ofInt 64 (18446744073709551615:Int) &&& BitVec.ofInt 64 ((2 ^ k - 1:Nat):Int)).toNat=2 ^ k - 1:=by
  have e1:BitVec.ofInt 64 (18446744073709551615:Int)=BitVec.allOnes 64:=by decide
  rw [e1,BitVec.allOnes_and,BitVec.ofInt_natCast,BitVec.toNat_ofNat,Nat.mod_eq_of_lt (by omega)]
 rw [e,bJ (by omega) (by omega)]
def toE (m:Ms) (ow:Nat):Nat:=if m.to=0 then 2 ^ ow - 1 else m.to.toNat - 1
def rp (w:Nat) (m:Ms) (more:Bool):List Bool:=
 aD m.sn.toNat w++[more]++[m.part]++(if m.part=true then aD m.fr.toNat (aI w)++aD (toE m (aI w)) (aI w) else [])
def dX (w:Nat):List Ms→List Bool
 | []=>[]
 | m :: r=>rp w m (decide (0<r.length))++dX w r
def cP (s:St) (w:Nat):List Bool:=[false,false,false,false]++aD s.ack.toNat w++[decide (0<s.ms.length)]++dX w s.ms
theorem GW {w:Nat} (hw:w=10∨w=16) (m:Ms) (b:Bool):(rp w m b).length=w+2+(if m.part=true then 2 * aI w else 0):=by
 simp only [rp,List.length_append,aT,List.length_cons,List.length_nil]
 split<;>simp [aT]<;>omega
theorem lc {w:Nat} (hw:w=10∨w=16):∀ l:List Ms,(dX w l).length≤50 * l.length
 | []=>by simp [dX]
 | m :: r=>by
  have h:=lc hw r
  have h2:=GW hw m (decide (0<r.length))
  have h3:aI w≤16:=by simp only [aI];split<;>omega
  rw [dX,List.length_append,h2,List.length_cons]
  split<;>omega
theorem qu {l:List Ms} {i:Nat} {m:Ms} (h:l[i]?=some m) (z:Bool) (f:Option Nat) (k:IntKind):bW 4 none (lst z 4 f (mvs l)) (.c (.int k i))=some (.vp m.v 0):=gJ _ _ _ (by simp [mvs,h]) k
theorem K6 (t k:Nat) (hk:k≤16) (ht:t<2 ^ k):(BitVec.ofNat 64 t &&& BitVec.ofNat 64 (2 ^ k - 1)).toNat=t:=by
 have h16:2 ^ k≤2 ^ 16:=Nat.pow_le_pow_right (by omega) hk
 have e16:(2:Nat) ^ 16=65536:=by decide
 rw [BitVec.toNat_and,BitVec.toNat_ofNat,BitVec.toNat_ofNat,Nat.mod_eq_of_lt (by omega),Nat.mod_eq_of_lt (by omega),Nat.and_two_pow_sub_one_eq_mod,Nat.mod_eq_of_lt ht]
theorem K7 (k:Nat) (hk:k≤16):(18446744073709551615#64 &&& BitVec.ofNat 64 (2 ^ k - 1)).toNat=2 ^ k - 1:=by
 have h16:2 ^ k≤2 ^ 16:=Nat.pow_le_pow_right (by omega) hk
 have e16:(2:Nat) ^ 16=65536:=by decide
 have e1:18446744073709551615#64=BitVec.allOnes 64:=by decide
 rw [e1,BitVec.allOnes_and,BitVec.toNat_ofNat,Nat.mod_eq_of_lt (by omega)]
section
variable {H:ae}
def AA (H:ae) (s:St) (w:Nat) (z:Nat) (σ:List AV) (G:ae):Prop:=
 ∃ (i:Nat) (bits:List Bool) (lb:List Nat),i+z=s.ms.length∧PackR bits lb∧bits.length≤21+50 * i∧G=WN H bits lb∧bits++dX w (s.ms.drop i)=cP s w
  ∧ σ=L 87 (((((((Tr.full 7).put (ag 1) (ai w)).put (ag 2) (.lbox [ai s.ack,lst s.z 4 none (mvs s.ms)])).put (ag 6) (.ptr H.length 0 2)).put (ag 36) (lst s.z 4 none (mvs s.ms))).put (ag 37) (ai s.ms.length)).put (ag 38) (ai i))
def C8 (H:ae) (s:St) (w:Nat) (e:AExit) (σ:List AV) (G:ae):Prop:=
 e=.exit 1∧∃ lb,PackR (cP s w) lb∧G=WN H (cP s w) lb∧kill [1,2,36,37,38,39] σ=L 87 ((Tr.full 7).put (ag 6) (.ptr H.length 0 2))
structure rq (w ow:Nat):Prop where
 cl:∀ H,callW P qR [ai w] H=some (ai ow,H)
 of:aI w=ow
 o16:ow≤16∧1≤ow
 sh:IntKind.u64.wrap (1 * 2 ^ ow)=((2 ^ ow:Nat):Int)
set_option maxHeartbeats 4000000 in
theorem Ux {s:St} {w ow:Nat} (hw:w=10∨w=16) (F:rq w ow) (hl:s.ms.length≤32) (hv:∀ m∈s.ms,bj m (2 ^ w) (2 ^ ow)=true) (z:Nat) (σ:List AV) (G:ae) (hI:AA H s w z (kill (bu gX) σ) G) :
  Ends (execW P lj (.loop gX) σ G) fun t=>C8 H s w t.e t.σ t.H:=by
 refine aX (fun z σ G=>AA H s w z σ G) (C8 H s w) ?_ z σ G hI
 clear hI z σ G
 rintro z σ G ⟨i,bits,lb,hz,hp,hbl,rfl,hb,rfl⟩
 obtain ⟨ack,z0,ms⟩:=s
 simp only at hz hb hl hv
 have hlen:(mvs ms).length=ms.length:=dO ms
 by_cases hi:i<ms.length
 ·obtain ⟨m,hm⟩:∃ m,ms[i]?=some m:=⟨_,zq6 hi⟩
  have hok:=hv m (List.mem_of_getElem? hm)
  have q1:=qu hm z0 none .i64
  have hdrop:ms.drop i=m :: ms.drop (i+1):=by
   rw [List.drop_eq_getElem_cons hi]
   rw [zq6 hi] at hm
   rw [zq1 hm]
  have hmore:decide (0<ms.length - (i+1))=decide (i+1<ms.length):=decide_eq_decide.2 (by omega)
  rw [hdrop,dX,List.length_drop,hmore,rp,F.of] at hb
  obtain ⟨sn,pa,fr,to⟩:=m
  simp only [bj,Bool.and_eq_true,decide_eq_true_eq] at hok
  obtain ⟨⟨⟨⟨⟨o1,o2⟩,o3⟩,o4⟩,o5⟩,o6⟩:=hok
  simp only [Ms.v] at q1
  simp only at hb
  obtain ⟨sn',rfl⟩:∃ n:Nat,sn=n:=⟨sn.toNat,by omega⟩
  obtain ⟨fn,rfl⟩:∃ n:Nat,fr=n:=⟨fr.toNat,by omega⟩
  obtain ⟨tn,rfl⟩:∃ n:Nat,to=n:=⟨to.toNat,by omega⟩
  rw [Int.toNat_natCast,Int.toNat_natCast] at hb
  have hw16:2 ^ w≤2 ^ 16:=Nat.pow_le_pow_right (by omega) (by omega)
  have ho16:2 ^ ow≤2 ^ 16:=Nat.pow_le_pow_right (by omega) F.o16.1
  have e16:(2:Nat) ^ 16=65536:=by decide
  have wsn:IntKind.u64.wrap (sn':Int)=sn':=bJ (by omega) (by omega)
  have hb1:=fun b H=>K5 b H
  have wl:IntKind.i64.wrap ((ms.length:Int) - 1)=(ms.length:Int) - 1:=aq (by omega) (by omega)
  have w3:IntKind.i64.wrap ((i:Int)+1)=((i+1:Nat):Int):=by rw [aq (by omega) (by omega)];omega
  obtain ⟨mo,hmo⟩:=nm (decide (i+1<ms.length))
  rw [hmo] at hb
  have hlast:decide ((i:Int)<(ms.length:Int) - 1)=mo:=by rw [← hmo];exact decide_eq_decide.2 (by omega)
  obtain ⟨x1,l1,e1,n1,p1,c1⟩:=dK (H:=H) rfl hp (by omega) sn' w (by omega) (by omega) sn' w rfl rfl
  obtain ⟨x2,l2,e2,n2,p2,c2⟩:=dK (H:=H) n1 p1 (by omega) mo.toNat 1 (by omega) (lt2 _) (mo.toNat:Nat) 1 rfl rfl
  obtain ⟨x3,l3,e3,n3,p3,c3⟩:=dK (H:=H) n2 p2 (by omega) pa.toNat 1 (by omega) (lt2 _) (pa.toNat:Nat) 1 rfl rfl
  rw [ix] at e2 e3
  obtain ⟨i1,hi1⟩:=nm (i+1)
  rw [hi1] at w3 hb
  clear hmo hmore hdrop hm hv
  cases pa with
  | false =>
   replace c3:callW P iZ [.ptr H.length 0 2,.c (.int .u64 0),ai 1] (WN H x2 l2)=_:=c3
   have hb2:x3++dX w (ms.drop i1)=cP ⟨ack,z0,ms⟩ w:=by rw [e3,e2,e1,← hb];simp
   have hfin:∀ σ,σ=L 87 (((((((Tr.full 7).put (ag 1) (ai w)).put (ag 2) (.lbox [ai ack,lst z0 4 none (mvs ms)])).put (ag 6) (.ptr H.length 0 2)).put (ag 36) (lst z0 4 none (mvs ms))).put (ag 37) (ai ms.length)).put (ag 38) (ai i1))→∃ m,m<z∧AA H ⟨ack,z0,ms⟩ w m σ (WN H x3 l3):=fun σ e=>⟨z - 1,by omega,i1,x3,l3,by simp only;omega,p3,by omega,rfl,hb2,e⟩
   clear hb hb2 e1 e2 e3
   simp -implicitDefEqProofs (disch:=first | omega | (simp;done) | fail) [-ac,-AV.one,-ad,lu,CM,gX,hlen,q1,wsn,c1,wl,hlast,hb1,c2,c3,w3]
   refine hfin _ ?_
   simp
  | true =>
   replace c3:callW P iZ [.ptr H.length 0 2,.c (.int .u64 1),ai 1] (WN H x2 l2)=_:=c3
   have hfn:fn<2 ^ ow:=by
    rw [if_pos rfl] at o6
    by_cases h:(tn:Int)=0
    ·rw [if_pos h] at o6;simp only [decide_eq_true_eq] at o6;omega
    ·rw [if_neg h] at o6;simp only [decide_eq_true_eq] at o6;omega
   have wfn:IntKind.u64.wrap (fn:Int)=fn:=bJ (by omega) (by omega)
   have hoc:=F.cl
   have hmn:min ow 64=ow:=by have:=F.o16;omega
   have hw0:¬ (ow:Int)<0:=by omega
   have hpp:=F.sh
   have hpp':IntKind.u64.wrap (2 ^ ow)=((2 ^ ow:Nat):Int):=by rw [← hpp,Int.one_mul]
   obtain ⟨x4,l4,e4,n4,p4,c4⟩:=dK (H:=H) n3 p3 (by omega) fn ow (by have:=F.o16;omega) hfn fn ow rfl rfl
   have hpos:1≤2 ^ ow:=Nat.one_le_two_pow
   have hs1:IntKind.u64.wrap (((2 ^ ow:Nat):Int) - 1)=((2 ^ ow - 1:Nat):Int):=by rw [bJ (by omega) (by omega)];omega
   rw [if_pos rfl] at hb
   simp only [toE] at hb
   have hand:=Oz (tn - 1) ow F.o16.1
   have hall:=OA ow F.o16.1
   by_cases ht:tn=0
   ·subst ht
    obtain ⟨x5,l5,e5,n5,p5,c5⟩:=dK (H:=H) n4 p4 (by have:=F.o16;omega) (2 ^ ow - 1) ow (by have:=F.o16;omega) (by omega) ((2 ^ ow - 1:Nat):Int) ow rfl rfl
    have hb2:x5++dX w (ms.drop i1)=cP ⟨ack,z0,ms⟩ w:=by rw [e5,e4,e3,e2,e1,← hb];simp
    have hfin:∀ σ,σ=L 87 (((((((Tr.full 7).put (ag 1) (ai w)).put (ag 2) (.lbox [ai ack,lst z0 4 none (mvs ms)])).put (ag 6) (.ptr H.length 0 2)).put (ag 36) (lst z0 4 none (mvs ms))).put (ag 37) (ai ms.length)).put (ag 38) (ai i1))→∃ m,m<z∧AA H ⟨ack,z0,ms⟩ w m σ (WN H x5 l5):=fun σ e=>⟨z - 1,by omega,i1,x5,l5,by simp only;omega,p5,by have:=F.o16;omega,rfl,hb2,e⟩
    have hA:=K7 ow F.o16.1
    have wm:IntKind.i64.wrap (((0:Nat):Int) - 1)=-1:=rfl
    have wu:IntKind.u64.wrap (-1)=18446744073709551615:=rfl
    clear hb hb2 e1 e2 e3 e4 e5 hand hall
    generalize 2 ^ ow - 1=pm at *
    generalize ((2 ^ ow:Nat):Int)=pw at *
    simp -implicitDefEqProofs (disch:=first | omega | (simp;done) | fail) [-ac,-AV.one,-ad,lu,CM,aK,aB,aP,aC,aM,SOpG.reads,SOp.slots,SX.slots,SOp.noL,rdV,av,aJ,aE,eqV,gX,hlen,q1,wsn,c1,wl,hlast,hb1,c2,c3,w3,hoc,wfn,c4,hmn,hw0,hpp,hpp',hs1,wm,wu]
    erw [hA]
    simp -implicitDefEqProofs (disch:=first | omega | (simp;done) | fail) [-ac,-AV.one,-ad,lu,CM,aK,aB,aP,aC,aM,SOpG.reads,SOp.slots,SX.slots,SOp.noL,rdV,av,aJ,aE,eqV,gX,c5,w3]
    refine hfin _ ?_
    simp
   ·obtain ⟨t1,rfl⟩:∃ t,tn=t+1:=⟨tn - 1,by omega⟩
    have ht1:t1<2 ^ ow:=by omega
    obtain ⟨x5,l5,e5,n5,p5,c5⟩:=dK (H:=H) n4 p4 (by have:=F.o16;omega) t1 ow (by have:=F.o16;omega) ht1 t1 ow rfl rfl
    have hb2:x5++dX w (ms.drop i1)=cP ⟨ack,z0,ms⟩ w:=by
     rw [e5,e4,e3,e2,e1,← hb,if_neg (show ¬ ((t1+1:Nat):Int)=0 by omega),show ((t1+1:Nat):Int).toNat - 1=t1 by omega];simp
    have hfin:∀ σ,σ=L 87 (((((((Tr.full 7).put (ag 1) (ai w)).put (ag 2) (.lbox [ai ack,lst z0 4 none (mvs ms)])).put (ag 6) (.ptr H.length 0 2)).put (ag 36) (lst z0 4 none (mvs ms))).put (ag 37) (ai ms.length)).put (ag 38) (ai i1))→∃ m,m<z∧AA H ⟨ack,z0,ms⟩ w m σ (WN H x5 l5):=fun σ e=>⟨z - 1,by omega,i1,x5,l5,by simp only;omega,p5,by have:=F.o16;omega,rfl,hb2,e⟩
    have hA:=K6 t1 ow F.o16.1 ht1
    obtain ⟨ti,hti⟩:=nm (((t1+1:Nat):Int))
    have wm:IntKind.i64.wrap (ti - 1)=t1:=by rw [aq (by omega) (by omega)];omega
    have wu:IntKind.u64.wrap (t1:Int)=t1:=bJ (by omega) (by omega)
    rw [hti] at q1
    clear hb hb2 e1 e2 e3 e4 e5 hand hall
    generalize 2 ^ ow - 1=pm at *
    generalize ((2 ^ ow:Nat):Int)=pw at *
    simp -implicitDefEqProofs (disch:=first | omega | (simp;done) | fail) [-ac,-AV.one,-ad,lu,CM,aK,aB,aP,aC,aM,SOpG.reads,SOp.slots,SX.slots,SOp.noL,rdV,av,aJ,aE,eqV,gX,hlen,q1,wsn,c1,wl,hlast,hb1,c2,c3,w3,hoc,wfn,c4,hmn,hw0,hpp,hpp',hs1,wm,wu]
    erw [hA]
    simp -implicitDefEqProofs (disch:=first | omega | (simp;done) | fail) [-ac,-AV.one,-ad,lu,CM,aK,aB,aP,aC,aM,SOpG.reads,SOp.slots,SX.slots,SOp.noL,rdV,av,aJ,aE,eqV,gX,c5,w3]
    refine hfin _ ?_
    simp
 ·have hnil:ms.drop i=[]:=List.drop_eq_nil_of_le (by omega)
  rw [hnil,dX,List.append_nil] at hb
  subst hb
  simp -implicitDefEqProofs (disch:=first | omega | (simp;done) | fail) [-ac,-AV.one,-ad,lu,CM,gX,hlen]
  exact ⟨rfl,lb,hp,rfl,by simp⟩
end
theorem K8:rq 10 15:=⟨Ew,rfl,by omega,rfl⟩
theorem K9:rq 16 16:=⟨Ex,rfl,by omega,rfl⟩
theorem pM {s:St} {w:Nat} (h:jn s w=true):(0≤s.ack∧s.ack<(2 ^ w:Nat))∧s.ms.length≤32∧∀ m∈s.ms,bj m (2 ^ w) (rW w)=true:=by
 simp only [jn,qW,Bool.and_eq_true,decide_eq_true_eq,Bool.not_eq_true',List.any_eq_false] at h
 exact ⟨of_decide_eq_true h.1.1,by simpa using h.1.2,fun m hm=>by have:=h.2 m hm;simpa using this⟩
section
variable {H:ae}
set_option maxHeartbeats 2000000 in
theorem rt {s:St} {w ow:Nat} (hw:w=10∨w=16) (F:rq w ow) (hr:rW w=2 ^ ow) (h:jn s w=true) (H:ae) :
  ∃ out k,PackR (cP s w) out∧callW P lj [.agg s.v,ai w] H=some (.tup [.vs 1 none (ax out),ai 0],H++List.replicate k .other):=by
 obtain ⟨⟨ha0,ha1⟩,hl,hv⟩:=pM h
 rw [hr] at hv
 have hW:=fun H=>jh w H
 rw [decide_eq_true (by omega)] at hW
 obtain ⟨kr,hR⟩:=Az (w:=w) s (by omega) H
 rw [decide_eq_true (by omega),show ((w:Nat):Int).toNat=w by simp,h] at hR
 replace hR:callW P qQ [.agg s.v,ai w] H=some (ab true,H++List.replicate kr .other):=hR
 obtain ⟨H1,hH1⟩:=nm (H++List.replicate kr AObj.other)
 rw [hH1] at hR
 obtain ⟨nn,hnn⟩:=nm (s.ms.length)
 have hlen:(mvs s.ms).length=nn:=(dO s.ms).trans hnn
 have hw16:2 ^ w≤2 ^ 16:=Nat.pow_le_pow_right (by omega) (by omega)
 have e16:(2:Nat) ^ 16=65536:=by decide
 have wack:IntKind.u64.wrap s.ack=s.ack:=bJ (by omega) (by omega)
 have c0:=pD H1
 have hb1:=fun b H=>K5 b H
 obtain ⟨an,han⟩:∃ n:Nat,s.ack=n:=⟨s.ack.toNat,by omega⟩
 obtain ⟨x1,l1,e1,n1,p1,c1⟩:=dK (H:=H1) (l:=[]) (bits:=[]) (m:=0) rfl PackR.nil (by omega) 0 4 (by omega) (by omega) 0 4 rfl rfl
 obtain ⟨x2,l2,e2,n2,p2,c2⟩:=dK (H:=H1) n1 p1 (by omega) an w (by omega) (by omega) s.ack w han rfl
 obtain ⟨mo,hmo⟩:=nm (decide (0<s.ms.length))
 have hmo':decide ((nn:Int) > 0)=mo:=by rw [← hmo];exact decide_eq_decide.2 (by omega)
 have hmo'':decide ((0:Int)<nn)=mo:=by rw [← hmo];exact decide_eq_decide.2 (by omega)
 have hmo3:decide (0<nn)=mo:=by rw [← hmo];exact decide_eq_decide.2 (by omega)
 obtain ⟨x3,l3,e3,n3,p3,c3⟩:=dK (H:=H1) n2 p2 (by omega) mo.toNat 1 (by omega) (lt2 _) (mo.toNat:Nat) 1 rfl rfl
 rw [ix] at e3
 have hz4:aD 0 4=[false,false,false,false]:=by decide
 have hsb:x3++dX w s.ms=cP s w:=by rw [cP,hmo,e3,e2,e1,hz4,han,Int.toNat_natCast];simp
 have hne:cP s w≠[]:=fun e=>by rw [← hsb] at e;have:=congrArg List.length e;rw [List.length_append,n3,List.length_nil] at this;omega
 have hsl:(cP s w).length≤2000:=by rw [← hsb,List.length_append,n3];have:=lc hw s.ms;omega
 suffices hs:Ends (callW P lj [.agg s.v,ai w] H) fun y=>∃ lb k,PackR (cP s w) lb∧y=(.tup [.vs 1 none (ax lb),ai 0],H++List.replicate k .other) by
  obtain ⟨y,h2,lb,k,h3,rfl⟩:=hs
  exact ⟨lb,k,h3,h2⟩
 refine call_post 7 87 rfl (rfl:P.T lj=some F_q23) rfl (aF rfl) (fun e σ G=>e=.ret∧∃ lb,PackR (cP s w) lb∧G=WN H1 (cP s w) lb∧aA F_q23.res σ=some (.tup [.vs 1 (some 86) (ax lb),ai 0])) ?_ ?_
 ·rintro e σ G ⟨rfl,lb,hp,rfl,h2⟩
  obtain ⟨t1,t2⟩:=my (H:=H1) lb hne
  generalize WN H1 (cP s w) lb=G0 at *
  have t3:G0.take H.length=H:=by
   have:=congrArg (List.take H.length) t1
   rw [List.take_take,← hH1,List.take_left,Nat.min_eq_left (by rw [List.length_append];omega)] at this
   exact this
  have t4:G0.length=H.length+(kr+2):=by rw [t2,← hH1,List.length_append,List.length_replicate];omega
  refine ⟨rfl,_,h2,rfl,?_⟩
  simp [t3,t4]
  exact ⟨lb,hp,rfl⟩
 have hloop:=fun σ hσ=>Ux (H:=H1) (s:=s) hw F hl hv s.ms.length σ (WN H1 x3 l3) ⟨0,x3,l3,by omega,p3,by omega,rfl,hsb,hσ⟩
 generalize hsB:cP s w=sB at *
 obtain ⟨ack,z0,ms⟩:=s
 simp only [St.v] at *
 rw [F_q23];simp -implicitDefEqProofs [-ac,-AV.one,-ad,lu,hW,hR,c0,c1,wack,c2,hlen,hmo',hmo'',hmo3,hb1,c3]
 repeat rw [Option.bind_assoc]
 refine Ends.block (P:=C8 H1 ⟨ack,z0,ms⟩ w) (hloop _ ?_) ?_
 ·simp [gX,hnn]
 rintro e σ1 G1 ⟨rfl,lb,hp,rfl,k2⟩
 rw [hsB] at hp ⊢
 have hc:=fo (H:=H1) hp hne (by omega)
 simp -implicitDefEqProofs [-ac,-AV.one,-ad,lu,k2,hc]
 exact ⟨lb,hp,rfl,rfl⟩
end
theorem La (s:St) (hl:s.ms.length≤100000) (w:Int) (H:ae) :
  (¬ (w=10∨w=16)→callW P lj [.agg s.v,ai w] H=some (.tup [bc,ai 9],H)) ∧
  ((w=10∨w=16)→jn s w.toNat=false→∃ k,callW P lj [.agg s.v,ai w] H=some (.tup [bc,ai 3],H++List.replicate k .other)) ∧
  ((w=10∨w=16)→jn s w.toNat=true→∃ out k,PackR (cP s w.toNat) out∧callW P lj [.agg s.v,ai w] H=some (.tup [.vs 1 none (ax out),ai 0],H++List.replicate k .other)):=by
 have hW:=fun H=>jh w H
 refine ⟨fun hw=>?_,fun hw h0=>?_,fun hw h0=>?_⟩
 ·rw [decide_eq_false hw] at hW
  obtain ⟨ack,z,ms⟩:=s
  rw [mq rfl];simp -implicitDefEqProofs [-ac,-AV.one,-ad,lu,St.v,hW]
 ·obtain ⟨k,hR⟩:=Az (w:=w) s hl H
  rw [decide_eq_true hw] at hW hR
  rw [h0] at hR
  replace hR:callW P qQ [.agg s.v,ai w] H=some (ab false,H++List.replicate k .other):=hR
  refine ⟨k,?_⟩
  obtain ⟨ack,z,ms⟩:=s
  simp only [St.v] at hR
  rw [mq rfl];simp -implicitDefEqProofs [-ac,-AV.one,-ad,lu,St.v,hW,hR]
 ·rcases hw with rfl | rfl
  ·exact rt (w:=10) (.inl rfl) K8 rfl h0 H
  ·exact rt (w:=16) (.inr rfl) K9 rfl h0 H
end Go.A.V.S
