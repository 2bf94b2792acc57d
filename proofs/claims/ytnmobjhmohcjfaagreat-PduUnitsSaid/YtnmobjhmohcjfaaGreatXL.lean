/- The reference's bits, put. -/
import Derived.Test.YtnmobjhmohcjfaaGreatXK
import Derived.Test.YtnmobjhmohcjfaaGreatV14
import Derived.Test.YtnmobjhmohcjfaaGreatXA
import Derived.Test.YtnmobjhmohcjfaaGreatXC
import Derived.Test.YtnmobjhmohcjfaaGreatXB
set_option linter.unusedSimpArgs false
set_option linter.unusedVariables false
set_option linter.unnecessarySimpa false
namespace Go.A.V.S
open Go Go.A
theorem Po {m:Md} {d c bytes:Nat} {l:List (List AV)} {v:AV} (hm:m.row (some d)=false) (hb:bytes≤1000) (h:l.length≤100000) (f:Option Nat) :
  ∃ cs,(cs=[d]∨cs=[c,d])∧∀ (σ:List AV) (H:ae),fy m (some d) 1 bytes (lst true 1 (some c) l) (.vs 1 f [[v]]) σ H=some (lst true 1 (some d) (l++[[v]]),σ.map (bV cs),H):=by
 have h1:(l.length+1) * bytes≤aw:=by
  have:(l.length+1) * bytes≤100001 * 1000:=Nat.mul_le_mul (by omega) hb
  simp only [aw];omega
 have h2:l.length+1≤aw:=by simp only [aw];omega
 have hne:lst true 1 (some d) (l++[[v]])=.vs 1 (some d) (l++[[v]]):=iW (by simp)
 rcases bH true 1 (some c) l with ⟨_,rfl,e⟩ | ⟨e,h3⟩
 ·refine ⟨[d],.inl rfl,fun σ H=>?_⟩
  rw [e,hne]
  simp only [fy,hm,Bool.false_eq_true,if_false,oB,cR,Option.bind_some,List.nil_append]
  rw [if_neg (by simp),if_pos ⟨by simpa using h1,by simpa using h2⟩]
 ·refine ⟨[c,d],.inr rfl,fun σ H=>?_⟩
  rw [e,hne,gU (fun H=>cR H 1 f [[v]]) h1 h2]
theorem KI (u:Nat) (h:u<2 ^ 64):IntKind.u64.wrap ((u:Int).tdiv 2)=((u / 2:Nat):Int)∧IntKind.u64.wrap ((u:Int) / 2)=((u / 2:Nat):Int)∧(u:Int).tmod 2=((u % 2:Nat):Int)∧(u:Int) % 2=((u % 2:Nat):Int)∧IntKind.u64.wrap ((u % 2:Nat):Int)=((u % 2:Nat):Int):=by
 have e:(u:Int) / 2=((u / 2:Nat):Int):=by omega
 have e2:(u:Int) % 2=((u % 2:Nat):Int):=by omega
 refine ⟨?_,?_,?_,e2,bJ (by omega) (by omega)⟩
 ·rw [Int.tdiv_eq_ediv_of_nonneg (by omega),e];exact bJ (by omega) (by omega)
 ·rw [e];exact bJ (by omega) (by omega)
 ·rw [Int.tmod_eq_emod_of_nonneg (by omega),e2]
section
variable {H:ae}
def Pp (H:ae) (v n:Nat) (z:Nat) (σ:List AV) (G:ae):Prop:=
 ∃ (i u:Nat),i+z=n∧u=v / 2 ^ i∧G=H∧σ=L 21 ((((Tr.full 5).put (ag 0) (.c (.int .u64 u))).put (ag 1) (ai n)).put (ag 5) (ai i))
def CJ (H:ae) (v n:Nat) (e:AExit) (σ:List AV) (G:ae):Prop:=
 G=H∧e=.exit 0∧∃ u:Nat,u=v / 2 ^ n∧kill [1,5,12,13,14] σ=L 21 ((Tr.full 5).put (ag 0) (.c (.int .u64 u)))
theorem T4 {v n:Nat} (hv:v<2 ^ 64) (hn:n≤64) (z:Nat) (σ:List AV) (G:ae) (hI:Pp H v n z (kill (bu ke) σ) G) :
  Ends (execW P tt (.loop ke) σ G) fun s=>CJ H v n s.e s.σ s.H:=by
 refine aX (fun z σ G=>Pp H v n z σ G) (CJ H v n) ?_ z σ G hI
 clear hI z σ G
 rintro z σ G ⟨i,u,hz,hu,rfl,rfl⟩
 have hu64:u<2 ^ 64:=by
  have:=Nat.div_le_self v (2 ^ i);omega
 by_cases hi:i<n
 ·obtain ⟨d1,d2,_⟩:=KI u hu64
  have hu2:u / 2=v / 2 ^ (i+1):=by rw [hu,Nat.div_div_eq_div_mul,Nat.pow_succ]
  obtain ⟨u2,hu2'⟩:=nm (u / 2)
  rw [hu2'] at d1 d2 hu2
  clear hu
  simp -implicitDefEqProofs (disch:=first | omega | (simp;done) | fail) [-ac,-AV.one,-ad,tB,CM,ke,d1,d2]
  exact ⟨z - 1,by omega,i+1,u2,by omega,hu2,rfl,by simp⟩
 ·obtain rfl:i=n:=by omega
  have hu':∃ u':Nat,u'=v / 2 ^ i∧u=u':=⟨u,hu,rfl⟩
  clear hu
  simp -implicitDefEqProofs (disch:=first | omega | (simp;done) | fail) [-ac,-AV.one,-ad,tB,CM,ke]
  obtain ⟨u',h1,rfl⟩:=hu'
  exact ⟨rfl,rfl,u,h1,by simp⟩
theorem ac9 {v n:Nat} (hv:v<2 ^ 64) (hn:n≤64) (hvn:v<2 ^ n) (H:ae):callW P tt [.c (.int .u64 v),ai n] H=some (ab true,H):=by
 rw [cH]
 have hl:=T4 (H:=H) hv hn n
 refine call_post 5 21 rfl (rfl:P.T tt=some F_q104) rfl (aF rfl) (fun e σ G=>e=.ret∧G=H∧aA F_q104.res σ=some (ab true)) ?_ ?_
 ·rintro e σ G ⟨rfl,rfl,h⟩
  exact ⟨rfl,_,h,rfl,by simp⟩
 rw [F_q104];simp -implicitDefEqProofs (disch:=first | omega | (simp;done) | fail) [-ac,-AV.one,-ad,tB,CM]
 repeat rw [Option.bind_assoc]
 refine Ends.block (P:=CJ H v n) (hl _ _ ⟨0,v,by omega,by simp,rfl,by simp [ke]⟩) ?_
 rintro e σ1 G1 ⟨rfl,rfl,u,hu,c⟩
 obtain rfl:u=0:=by rw [hu];exact Nat.div_eq_of_lt hvn
 replace c:kill [1,5,12,13,14] σ1=L 21 ((Tr.full 5).put (ag 0) (.c (.int .u64 0))):=c
 simp -implicitDefEqProofs (disch:=first | omega | (simp;done) | fail) [-ac,-AV.one,-ad,tB,CM,c]
def lz (v i:Nat):List Bool:=(List.range i).map fun j=>decide (v / 2 ^ j % 2=1)
theorem GM (v i:Nat):lz v (i+1)=lz v i++[decide (v / 2 ^ i % 2=1)]:=by simp [lz,List.range_succ]
theorem KJ (v i:Nat):(lz v i).length=i:=by simp [lz]
theorem Oj {v i j:Nat} (h:j<i):(lz v i)[j]?=some (decide (v / 2 ^ j % 2=1)):=by simp [lz,h]
def KK (H:ae) (x:AV) (v n:Nat) (z:Nat) (σ:List AV) (G:ae):Prop:=
 ∃ (i u:Nat),i+z=n∧u=v / 2 ^ i∧G=H∧σ=L 53 (((((((Tr.full 6).put (ag 0) (x)).put (ag 1) (.c (.int .u64 u))).put (ag 2) (ai n)).put (ag 8) (lst true 1 (some 33) (bls (lz v i)))).put (ag 9) (bc)).put (ag 10) (ai i))
def CK (H:ae) (x:AV) (v n:Nat) (e:AExit) (σ:List AV) (G:ae):Prop:=
 G=H∧e=.exit 0∧kill [1,10,23,24,25] σ=L 53 (((((Tr.full 6).put (ag 0) (x)).put (ag 2) (ai n)).put (ag 8) (lst true 1 (some 33) (bls (lz v n)))).put (ag 9) (bc))
theorem T5 {zx:Bool} {x:List Bool} {v n:Nat} (hv:v<2 ^ 64) (hn:n≤64) (z:Nat) (σ:List AV) (G:ae) (hI:KK H (lst zx 1 none (bls x)) v n z (kill (bu mW) σ) G) :
  Ends (execW P ep (.loop mW) σ G) fun s=>CK H (lst zx 1 none (bls x)) v n s.e s.σ s.H:=by
 refine aX (fun z σ G=>KK H (lst zx 1 none (bls x)) v n z σ G) (CK H (lst zx 1 none (bls x)) v n) ?_ z σ G hI
 clear hI z σ G
 rintro z σ G ⟨i,u,hz,hu,rfl,rfl⟩
 have hu64:u<2 ^ 64:=by
  have:=Nat.div_le_self v (2 ^ i);omega
 by_cases hi:i<n
 ·obtain ⟨d1,d2,d3,d4,d5⟩:=KI u hu64
  have hu2:u / 2=v / 2 ^ (i+1):=by rw [hu,Nat.div_div_eq_div_mul,Nat.pow_succ]
  have hsn:=GM v i
  rw [← hu] at hsn
  obtain ⟨u2,hu2'⟩:=nm (u / 2)
  rw [hu2'] at d1 d2 hu2
  obtain ⟨r,hr⟩:=nm (u % 2)
  rw [hr] at d3 d4 d5 hsn
  have hd:decide ((r:Int)=1)=decide (r=1):=decide_eq_decide.2 (by omega)
  clear hu
  have hap:=fun σ H=>uR (m:=P.md ep) (d:=33) (bytes:=1) (v:=ab (decide (r=1))) (D9 33) (by omega) (by rw [ed,KJ];omega) (l:=bls (lz v i)) (some 32) σ H
  rw [← pH,← hsn] at hap
  generalize bls (lz v i)=L0 at *
  have hres:∀ σ,σ=L 53 (((((((Tr.full 6).put (ag 0) (lst zx 1 none (bls x))).put (ag 1) (.c (.int .u64 u2))).put (ag 2) (ai n)).put (ag 8) (lst true 1 (some 33) (bls (lz v (i+1))))).put (ag 9) (bc)).put (ag 10) (ai (i+1:Nat)))→∃ m,m<z∧KK G (lst zx 1 none (bls x)) v n m σ G:=fun σ e=>⟨z - 1,by omega,i+1,u2,by omega,hu2,rfl,e⟩
  generalize bls (lz v (i+1))=L1 at *
  simp -implicitDefEqProofs (disch:=first | omega | (simp;done) | fail) [-ac,-AV.one,-ad,nD,CM,mW,d1,d2,d3,d4,d5,hd,hap]
  exact hres _ (by simp)
 ·obtain rfl:i=n:=by omega
  clear hu
  simp -implicitDefEqProofs (disch:=first | omega | (simp;done) | fail) [-ac,-AV.one,-ad,nD,CM,mW]
  exact ⟨rfl,rfl,by simp⟩
def KL (H:ae) (x:List Bool) (v n:Nat) (z:Nat) (σ:List AV) (G:ae):Prop:=
 ∃ (c:Nat) (i:Int),(c=38∨c=51)∧i=(z:Int) - 1∧z≤n∧G=H∧σ=L 53 ((((Tr.full 6).put (ag 8) (lst true 1 (some 33) (bls (lz v n)))).put (ag 9) (lst true 1 (some c) (bls (x++(aD v n).take (n - z))))).put (ag 11) (ai i))
def CL (H:ae) (x:List Bool) (v n:Nat) (e:AExit) (σ:List AV) (G:ae):Prop:=
 G=H∧e=.exit 2∧∃ c,kill [8,11,41,42] σ=L 53 ((Tr.full 6).put (ag 9) (lst true 1 (some c) (bls (x++aD v n))))
theorem T6 {x:List Bool} {v n:Nat} (hx:x.length≤65536) (hn:n≤64) (z:Nat) (σ:List AV) (G:ae) (hI:KL H x v n z (kill (bu jx) σ) G) :
  Ends (execW P ep (.loop jx) σ G) fun s=>CL H x v n s.e s.σ s.H:=by
 refine aX (fun z σ G=>KL H x v n z σ G) (CL H x v n) ?_ z σ G hI
 clear hI z σ G
 rintro z σ G ⟨c,i,hc,hi,hz,rfl,rfl⟩
 cases z with
 | succ z =>
  obtain rfl:i=(z:Int):=by omega
  have q1:=fp (Oj (v:=v) (i:=n) (j:=z) (by omega)) true (some 33) .i64
  have hsn:=rl (v:=v) (n:=n) (i:=z) (by omega)
  obtain ⟨cs,hcs,hap⟩:=Po (m:=P.md ep) (d:=51) (c:=c) (bytes:=1) (v:=ab (decide (v / 2 ^ z % 2=1))) (D9 51) (by omega) (by rw [ed,List.length_append,List.length_take,aT];omega) (l:=bls (x++(aD v n).take (n - (z+1)))) (some 50)
  rw [← pH,List.append_assoc,← hsn] at hap
  obtain ⟨b,hb⟩:=nm (decide (v / 2 ^ z % 2=1))
  rw [hb] at hap q1
  generalize bls (x++(aD v n).take (n - (z+1)))=L0 at *
  have hres:∀ σ,σ=L 53 ((((Tr.full 6).put (ag 8) (lst true 1 (some 33) (bls (lz v n)))).put (ag 9) (lst true 1 (some 51) (bls (x++(aD v n).take (n - z))))).put (ag 11) (ai ((z:Int) - 1)))→∃ m,m<z+1∧KL G x v n m σ G:=fun σ e=>⟨z,by omega,51,(z:Int) - 1,.inr rfl,rfl,by omega,rfl,e⟩
  generalize bls (x++(aD v n).take (n - z))=L1 at *
  generalize bls (lz v n)=L2 at *
  rcases hcs with rfl | rfl
  ·simp -implicitDefEqProofs (disch:=first | omega | (simp;done) | fail) [-ac,-AV.one,-ad,nD,CM,jx,q1,hap]
   exact hres _ (by simp)
  ·rcases hc with rfl | rfl
   ·simp -implicitDefEqProofs (disch:=first | omega | (simp;done) | fail) [-ac,-AV.one,-ad,nD,CM,jx,q1,hap]
    exact hres _ (by simp)
   ·simp -implicitDefEqProofs (disch:=first | omega | (simp;done) | fail) [-ac,-AV.one,-ad,nD,CM,jx,q1,hap]
    exact hres _ (by simp)
 | zero =>
  obtain rfl:i=-1:=by omega
  have ht:(aD v n).take (n - 0)=aD v n:=List.take_of_length_le (by rw [aT];omega)
  rw [ht]
  simp -implicitDefEqProofs (disch:=first | omega | (simp;done) | fail) [-ac,-AV.one,-ad,nD,CM,jx]
  exact ⟨rfl,rfl,c,by simp⟩
theorem T7 {zx:Bool} {x:List Bool} (hx:x.length≤60000) {v n:Nat} (hn:n≤63) (hvn:v<2 ^ n) (H:ae) :
  callW P ep [lst zx 1 none (bls x),.c (.int .u64 v),ai n] H=some (.tup [lst true 1 (some 0) (bls (x++aD v n)),ai 0],H):=by
 have hv:v<2 ^ 64:=Nat.lt_of_lt_of_le hvn (Nat.pow_le_pow_right (by omega) (by omega))
 have hf:=fun H=>ac9 (H:=H) hv (by omega:n≤64) hvn
 rw [cH]
 have hl:=T5 (H:=H) (zx:=zx) (x:=x) hv (by omega:n≤64) n
 have hl2:=T6 (H:=H) (x:=x) (v:=v) (n:=n) (by omega) (by omega) n
 have hbl:=ed x
 have hap:=fun σ H=>jV (m:=P.md ep) (d:=38) (bytes:=1) (sz:=1) (l:=[]) (l':=bls x) (x:=lst zx 1 none (bls x)) (D9 38) (fun H=>Go.A.V.elems_lst H zx 1 none _) (by simp [ed,aw];omega) (by simp [ed,aw];omega) σ H
 rw [lst_nil,List.nil_append] at hap
 refine call_post 6 53 rfl (rfl:P.T ep=some F_q81) rfl (aF rfl) (fun e σ G=>e=.ret∧G=H∧∃ c,aA F_q81.res σ=some (.tup [lst true 1 (some c) (bls (x++aD v n)),ai 0])) ?_ ?_
 ·rintro e σ G ⟨rfl,rfl,c,h⟩
  exact ⟨rfl,_,h,by simp,by simp⟩
 rw [F_q81];simp -implicitDefEqProofs (disch:=first | omega | (simp;done) | fail) [-ac,-AV.one,-ad,nD,CM,hf,hbl]
 repeat rw [Option.bind_assoc]
 refine Ends.block (P:=CK H (lst zx 1 none (bls x)) v n) (hl _ _ ⟨0,v,by omega,by simp,rfl,by simp [mW,lz,bls]⟩) ?_
 rintro e σ1 G1 ⟨rfl,rfl,c⟩
 obtain ⟨L2,hL2⟩:=nm (bls (lz v n))
 rw [hL2] at c
 obtain ⟨L1,hL1⟩:=nm (bls x)
 rw [hL1] at c hap
 simp -implicitDefEqProofs (disch:=first | omega | (simp;done) | fail) [-ac,-AV.one,-ad,nD,CM,c,hap]
 repeat rw [Option.bind_assoc]
 refine Ends.block (P:=CL G1 x v n) (hl2 _ _ ⟨38,(n:Int) - 1,.inl rfl,rfl,by omega,rfl,by simp [jx,hL2,hL1]⟩) ?_
 rintro e σ1 G1 ⟨rfl,rfl,cc,c⟩
 generalize bls (x++aD v n)=L0 at *
 simp -implicitDefEqProofs (disch:=first | omega | (simp;done) | fail) [-ac,-AV.one,-ad,nD,CM,c]
 exact ⟨cc,rfl⟩
end
theorem GN:∀ l:List Bool,l.length=8→eT (num l)=l:=by
 intro l h
 match l,h with
 | [a,b,c,d,e,f,g,x],_=>revert a b c d e f g x;decide
def pJ (l:List Bool):List Bool:=l++List.replicate (8 * ((l.length+7) / 8) - l.length) false
theorem Au (l:List Bool):(pJ l).length=8 * ((l.length+7) / 8):=by simp [pJ];omega
theorem Ok {l:List Bool} {j:Nat} (h:j<8 * ((l.length+7) / 8)):(pJ l)[j]?=some (if h:j<l.length then l[j] else false):=by
 rw [pJ]
 by_cases c:j<l.length
 ·rw [List.getElem?_append_left c,zq6 c,dif_pos c]
 ·rw [List.getElem?_append_right (by omega),List.getElem?_replicate,if_pos (by omega),dif_neg c]
def bys (o:List Nat):List AV:=o.map fun b=>au b
theorem m6 (o:List Nat):(bys o).length=o.length:=by simp [bys]
theorem Et (a b:List Nat):bys (a++b)=bys a++bys b:=by simp [bys]
def rw0 (r n:Nat):AV:=.sl r 0 n n 1 n false
def eD (r m:Nat):AV:=if m=0 then bc else rw0 r m
theorem Ol (n r m:Nat):ev1 n (eD r m)=eD r m:=by unfold eD;split<;>rfl
theorem GO (r m:Nat):(eD r m).free=true:=by unfold eD;split<;>rfl
theorem GP (r m:Nat):ly (eD r m)=eD r m:=by unfold eD;split<;>rfl
theorem CN (d:Option Nat) (r m:Nat) (σ:List AV) (H:ae) (h:m≠0):cV d (eD r m) σ H=(eD r m,σ,H):=by
 rw [eD,if_neg h];cases d<;>rfl
attribute [simp] Ol GO GP
theorem kX (l:List Nat):(ax l).flatten=bys l:=by
 induction l with
 | nil=>rfl
 | cons a r ih =>
  have:ax (a :: r)=[au a] :: ax r:=rfl
  rw [this,List.flatten_cons,ih];rfl
def BH (H:ae) (o:List Nat):ae:=if o=[] then H else H++[.grow (bys o) 0]
theorem T8 {m:Md} (hm:m.wr=true) {d:Nat} (hr:m.row (some d)=true) {H:ae} {o l:List Nat} {x:AV} (hx:∀ H,dY H 1 x=some (ax l)) (hl:o.length+l.length≤1000000) (σ:List AV) :
  fy m (some d) 1 1 (eD H.length o.length) x σ (BH H o)=some (eD H.length (o++l).length,σ,BH H (o++l)):=by
 by_cases h0:o=[]
 ·subst h0
  by_cases h1:l=[]
  ·subst h1
   simp only [eD,BH,fy,hr,hx,if_true,Option.bind_some,List.length_nil,ax,List.map_nil,List.append_nil]
  ·have hne:¬ ax l=[]:=by simpa [ax] using h1
   have hl0:l.length≠0:=fun e=>h1 (zq8 e)
   simp only [List.length_nil] at hl
   simp only [eD,BH,fy,hr,hx,if_true,Option.bind_some,List.length_nil,List.nil_append,h1,if_false,hne,hl0]
   rw [if_pos ⟨by rw [bg];simp only [aw];omega,by rw [bg];simp only [aw];omega⟩,kX,bg,Nat.mul_one]
   rfl
 ·have ho0:o.length≠0:=fun e=>h0 (zq8 e)
  have hol:(o++l).length≠0:=by rw [List.length_append];omega
  have hol':o++l≠[]:=fun e=>hol (by rw [e];rfl)
  have hget:(H++[AObj.grow (bys o) 0])[H.length]?=some (.grow (bys o) 0):=by simp
  simp only [eD,BH,h0,ho0,hol,hol',if_false,rw0]
  by_cases h1:l=[]
  ·subst h1
   have:ax ([]:List Nat)=[]:=rfl
   simp only [fy,hm,if_true,hx,Option.bind_some,this,List.append_nil]
   rw [if_pos (Nat.le_refl _)]
  ·have hne:¬ ax l=[]:=by simpa [ax] using h1
   simp only [fy,hm,if_true,hx,Option.bind_some,hne,if_false]
   rw [if_pos (by simp [ho0,bg,aw];omega),hget]
   simp only [AObj.isW,AObj.cells,AObj.lo,m6,true_and,if_true]
   rw [kX,← Et,bg,List.length_append,Nat.mul_one]
   simp
theorem T9 (H:ae) (o:List Nat):frz H.length (BH H o) (eD H.length o.length)=some (lst true 1 none (ax o)):=by
 by_cases h0:o=[]
 ·subst h0
  simp [eD,ax]
 ·have ho0:o.length≠0:=fun e=>h0 (zq8 e)
  have hne:ax o≠[]:=by simpa [ax] using h0
  have hget:(H++[AObj.grow (bys o) 0])[H.length]?=some (.grow (bys o) 0):=by simp
  have hrd:bT (H++[AObj.grow (bys o) 0]) H.length 0 (o.length * 1) o.length=some (bys o):=by
   rw [bT,if_neg (by omega),ba,hget]
   simp only [AObj.isRow,AObj.lo,AObj.cells,m6]
   rw [if_pos ⟨trivial,by omega,by omega,by omega⟩,List.drop_zero,List.take_of_length_le (by rw [m6];omega)]
  have hok:(bys o).all be=true:=by
   refine List.all_eq_true.2 fun x hx=>?_
   obtain ⟨b,_,rfl⟩:=List.mem_map.1 hx
   rfl
  have hch:∀ l:List Nat,fK 1 l.length (bys l)=ax l:=by
   intro l
   induction l with
   | nil=>rfl
   | cons x r ih =>
    have e1:bys (x :: r)=au x :: bys r:=rfl
    have e2:ax (x :: r)=[au x] :: ax r:=rfl
    rw [e1,e2,List.length_cons,fK,List.take_succ_cons,List.take_zero,List.drop_succ_cons,List.drop_zero,ih]
  simp only [eD,BH,h0,ho0,if_false,rw0,frz]
  rw [if_neg (by omega),if_neg (by omega),hrd,Option.bind_some,if_pos hok,hch,iW hne]
theorem Ua (H:ae) (o:List Nat):∃ k,List.take H.length (BH H o)++List.replicate ((BH H o).length - H.length) AObj.other=H++List.replicate k .other:=by
 refine ⟨(BH H o).length - H.length,?_⟩
 congr 1
 unfold BH
 split<;>simp
theorem Om (r o l c s g:Nat) (e:Bool):ly (.sl r o l c s g e)=.sl r o l c s g e:=rfl
attribute [simp] Om
section
variable {H:ae}
def KM (H:ae) (r:Nat) (x:AV) (l:List Bool) (m:Nat) (z:Nat) (σ:List AV) (G:ae):Prop:=
 ∃ (k v:Nat),k+z=8∧v=num (((pJ l).drop (8 * m)).take k)∧v<2 ^ k∧G=H∧σ=L 40 ((((((Tr.full 6).put (ag 0) (x)).put (ag 3) (eD r m)).put (ag 4) (ai (8 * (m:Int)))).put (ag 5) (.c (.int .u8 v))).put (ag 6) (ai k))
def CO (H:ae) (r:Nat) (x:AV) (l:List Bool) (m:Nat) (e:AExit) (σ:List AV) (G:ae):Prop:=
 G=H∧e=.exit 2∧∃ v:Nat,v=num (((pJ l).drop (8 * m)).take 8)∧v<256∧kill [6,13,14] σ=L 40 (((((Tr.full 6).put (ag 0) (x)).put (ag 3) (eD r m)).put (ag 4) (ai (8 * (m:Int)))).put (ag 5) (.c (.int .u8 v)))
theorem Ub {zx:Bool} {l:List Bool} (hl:l.length≤65536) {m:Nat} (hm:m<(l.length+7) / 8) (r:Nat) (z:Nat) (σ:List AV) (G:ae) (hI:KM H r (lst zx 1 none (bls l)) l m z (kill (bu jy) σ) G) :
  Ends (execW P iG (.loop jy) σ G) fun s=>CO H r (lst zx 1 none (bls l)) l m s.e s.σ s.H:=by
 refine aX (fun z σ G=>KM H r (lst zx 1 none (bls l)) l m z σ G) (CO H r (lst zx 1 none (bls l)) l m) ?_ z σ G hI
 clear hI z σ G
 rintro z σ G ⟨k,v,hk,hv,hv2,rfl,rfl⟩
 have hbl:=ed l
 by_cases hk8:k<8
 ·have hv128:v<128:=Nat.lt_of_lt_of_le hv2 (by
   have:(2:Nat) ^ k≤2 ^ 7:=Nat.pow_le_pow_right (by omega) (by omega)
   omega)
  have hat:=Ok (l:=l) (j:=8 * m+k) (by omega)
  have hnext:((pJ l).drop (8 * m)).take (k+1)=((pJ l).drop (8 * m)).take k++[if h:8 * m+k<l.length then l[8 * m+k] else false]:=by
   rw [List.take_add_one,List.getElem?_drop,hat];rfl
  have hnum:num (((pJ l).drop (8 * m)).take (k+1))=2 * v+(if h:8 * m+k<l.length then l[8 * m+k] else false).toNat:=by rw [hnext,iV,← hv]
  clear hnext hat hv
  have hp2:2 ^ (k+1)=2 * 2 ^ k:=by rw [Nat.pow_succ];omega
  have hres:∀ (v':Nat) σ,v'=num (((pJ l).drop (8 * m)).take (k+1))→v'≤2 * v+1→σ=L 40 ((((((Tr.full 6).put (ag 0) (lst zx 1 none (bls l))).put (ag 3) (eD r m)).put (ag 4) (ai (8 * (m:Int)))).put (ag 5) (.c (.int .u8 v'))).put (ag 6) (ai (k+1:Nat)))→∃ m',m'<z∧KM G r (lst zx 1 none (bls l)) l m m' σ G:=fun v' σ e1 e2 e3=>⟨z - 1,by omega,k+1,v',by omega,e1,by omega,rfl,e3⟩
  clear hv2 hp2
  by_cases c:8 * m+k<l.length
  ·rw [dif_pos c] at hnum
   obtain ⟨b,hb⟩:=nm (l[8 * m+k])
   have q1:=fp (show l[8 * m+k]?=some b by rw [zq6 c,hb]) zx none .i64
   have ecast:(((8 * m+k:Nat)):Int)=8 * (m:Int)+k:=by omega
   rw [ecast] at q1
   rw [hb] at hnum
   cases b with
   | true =>
    simp -implicitDefEqProofs (disch:=first | omega | (simp;done) | fail) [-ac,-AV.one,-ad,nF,CM,jy,hbl,q1]
    exact hres (2 * v+1) _ (by rw [hnum];rfl) (by omega) (by simp)
   | false =>
    simp -implicitDefEqProofs (disch:=first | omega | (simp;done) | fail) [-ac,-AV.one,-ad,nF,CM,jy,hbl,q1]
    exact hres (2 * v) _ (by rw [hnum];rfl) (by omega) (by simp)
  ·rw [dif_neg c] at hnum
   simp -implicitDefEqProofs (disch:=first | omega | (simp;done) | fail) [-ac,-AV.one,-ad,nF,CM,jy,hbl]
   exact hres (2 * v) _ (by rw [hnum];rfl) (by omega) (by simp)
 ·obtain rfl:k=8:=by omega
  have hx:∃ v':Nat,v'=num (((pJ l).drop (8 * m)).take 8)∧v'<256∧v=v':=⟨v,hv,by simpa using hv2,rfl⟩
  clear hv hv2
  simp -implicitDefEqProofs (disch:=first | omega | (simp;done) | fail) [-ac,-AV.one,-ad,nF,CM,jy]
  obtain ⟨v',h1,h2,rfl⟩:=hx
  exact ⟨rfl,rfl,v,h1,h2,by simp⟩
def KN (H:ae) (x:AV) (l:List Bool) (z:Nat) (σ:List AV) (G:ae):Prop:=
 ∃ (m:Nat) (o:List Nat),m+z=(l.length+7) / 8∧o.length=m∧bm o∧ay o=(pJ l).take (8 * m)∧G=BH H o∧σ=L 40 ((((Tr.full 6).put (ag 0) (x)).put (ag 3) (eD H.length m)).put (ag 4) (ai (8 * (m:Int))))
def CP (H:ae) (l:List Bool) (e:AExit) (σ:List AV) (G:ae):Prop:=
 e=.exit 0∧∃ o,PackR l o∧G=BH H o∧kill [0,4,7,8,9,10] σ=L 40 ((Tr.full 6).put (ag 3) (eD H.length o.length))
theorem Uc {zx:Bool} {l:List Bool} (hl:l.length≤65536) (z:Nat) (σ:List AV) (G:ae) (hI:KN H (lst zx 1 none (bls l)) l z (kill (bu kM) σ) G) :
  Ends (execW P iG (.loop kM) σ G) fun s=>CP H l s.e s.σ s.H:=by
 refine aX (fun z σ G=>KN H (lst zx 1 none (bls l)) l z σ G) (CP H l) ?_ z σ G hI
 clear hI z σ G
 rintro z σ G ⟨m,o,hm,ho,hb,hbits,rfl,rfl⟩
 have hbl:=ed l
 by_cases hlt:m<(l.length+7) / 8
 ·have hin:=Ub (H:=BH H o) (zx:=zx) hl hlt H.length 8
  have hap:=fun (v:Nat) (f:Option Nat) σ=>T8 (m:=P.md iG) rfl (d:=38) (Pg 38) (H:=H) (o:=o) (l:=[v]) (x:=.vs 1 f [[.c (.int .u8 v)]]) (fun H=>cR H 1 f _) (by simp;omega) σ
  have hol:∀ v:Nat,(o++[v]).length=m+1:=fun v=>by simp [ho]
  simp only [hol,ho] at hap
  obtain ⟨G0,hG0⟩:=nm (BH H o)
  rw [hG0] at hin hap ⊢
  simp -implicitDefEqProofs (disch:=first | omega | (simp;done) | fail) [-ac,-AV.one,-ad,nF,CM,kM,hbl]
  repeat rw [Option.bind_assoc]
  refine Ends.block (P:=CO G0 H.length (lst zx 1 none (bls l)) l m) (hin _ _ ⟨0,0,by omega,by simp [num],by simp,rfl,by simp [jy]⟩) ?_
  rintro e σ1 G1 ⟨rfl,rfl,v,hv,hv2,c⟩
  have hres:∀ σ,σ=L 40 ((((Tr.full 6).put (ag 0) (lst zx 1 none (bls l))).put (ag 3) (eD H.length (m+1))).put (ag 4) (ai (8 * ((m+1:Nat):Int))))→∃ m',m'<z∧KN H (lst zx 1 none (bls l)) l m' σ (BH H (o++[v])):=fun σ e=>⟨z - 1,by omega,m+1,o++[v],by omega,by simp [ho],fun b hb'=>by
    rcases List.mem_append.1 hb' with h | h
    ·exact hb b h
    ·simp at h;omega,by
    have h8:(((pJ l).drop (8 * m)).take 8).length=8:=by rw [List.length_take,List.length_drop,Au];omega
    have:ay (o++[v])=ay o++eT v:=by simp [ay]
    rw [this,hbits,hv,GN _ h8,← List.take_add,show 8 * m+8=8 * (m+1) by omega],rfl,e⟩
  clear hv hbits
  have hap':=hap v
  obtain ⟨G2,hG2⟩:=nm (BH H (o++[v]))
  rw [hG2] at hap' hres
  obtain ⟨b1,hb1⟩:=nm (eD H.length (m+1))
  simp -implicitDefEqProofs (disch:=first | omega | (simp;done) | fail) [-ac,-AV.one,-ad,nF,CM,c,hap']
  refine hres _ ?_
  have e8:8 * (((m+1:Nat)):Int)=8 * (m:Int)+8:=by omega
  rw [e8]
  simp [kM]
 ·have hmm:m=(l.length+7) / 8:=by omega
  have hpk:PackR l o:=by
   refine ⟨by omega,hb,?_⟩
   rw [hbits,List.take_of_length_le (by rw [Au];omega),pJ,ho,← hmm]
  clear hbits
  obtain ⟨G0,hG0⟩:=nm (BH H o)
  rw [hG0]
  simp -implicitDefEqProofs (disch:=first | omega | (simp;done) | fail) [-ac,-AV.one,-ad,nF,CM,kM,hbl]
  exact ⟨rfl,o,hpk,hG0.symm,by rw [ho];simp⟩
theorem xZ {zx:Bool} {l:List Bool} (hl:l.length≤65536) (H:ae) :
  ∃ o,PackR l o∧callW P iG [lst zx 1 none (bls l)] H=some (eD H.length o.length,BH H o):=by
 suffices hs:Ends (callW P iG [lst zx 1 none (bls l)] H) fun y=>∃ o,PackR l o∧y=(eD H.length o.length,BH H o) by
  obtain ⟨y,h2,o,h3,rfl⟩:=hs
  exact ⟨o,h3,h2⟩
 have hl2:=Uc (H:=H) (zx:=zx) hl ((l.length+7) / 8)
 refine call_post 6 40 rfl (rfl:P.T iG=some F_q83) rfl (aF rfl) (fun e σ G=>e=.ret∧∃ o,PackR l o∧G=BH H o∧aA F_q83.res σ=some (eD H.length o.length)) ?_ ?_
 ·rintro e σ G ⟨rfl,o,h1,rfl,h⟩
  exact ⟨rfl,_,h,by simp,by simp;exact ⟨o,h1,rfl,rfl⟩⟩
 rw [F_q83];simp -implicitDefEqProofs (disch:=first | omega | (simp;done) | fail) [-ac,-AV.one,-ad,nF,CM]
 repeat rw [Option.bind_assoc]
 refine Ends.block (P:=CP H l) (hl2 _ _ ⟨0,[],by omega,rfl,by simp [bm],by simp [ay],rfl,by simp [kM,eD]⟩) ?_
 rintro e σ1 G1 ⟨rfl,o,hp,rfl,c⟩
 have hx:∃ o',PackR l o'∧BH H o=BH H o'∧eD H.length o.length=eD H.length o'.length:=⟨o,hp,rfl,rfl⟩
 generalize BH H o=G0 at *
 simp -implicitDefEqProofs (disch:=first | omega | (simp;done) | fail) [-ac,-AV.one,-ad,nF,CM,c]
 exact hx
end
section
variable {H:ae}
def Pq (H:ae) (b:Nat) (z:Nat) (σ:List AV) (G:ae):Prop:=
 ∃ (i n:Nat),i+z=b∧n=2 ^ i∧G=H∧σ=L 13 ((((Tr.full 4).put (ag 0) (ai b)).put (ag 3) (ai n)).put (ag 4) (ai i))
def CQ (H:ae) (m:Nat) (e:AExit) (σ:List AV) (G:ae):Prop:=
 G=H∧e=.exit 0∧kill [0,4,5,6,7] σ=L 13 ((Tr.full 4).put (ag 3) (ai m))
theorem Ud {b m:Nat} (hb:b≤16) (hm:m=2 ^ b) (z:Nat) (σ:List AV) (G:ae) (hI:Pq H b z (kill (bu kf) σ) G) :
  Ends (execW P tu (.loop kf) σ G) fun s=>CQ H m s.e s.σ s.H:=by
 refine aX (fun z σ G=>Pq H b z σ G) (CQ H m) ?_ z σ G hI
 clear hI z σ G
 rintro z σ G ⟨i,n,hz,hn,rfl,rfl⟩
 have hp:n≤65536:=by
  rw [hn]
  calc 2 ^ i≤2 ^ 16:=Nat.pow_le_pow_right (by omega) (by omega)
   _=65536:=by decide
 by_cases hi:i<b
 ·have hn2:2 * n=2 ^ (i+1):=by rw [Nat.pow_succ];omega
  clear hn
  simp -implicitDefEqProofs (disch:=first | omega | (simp;done) | fail) [-ac,-AV.one,-ad,tD,CM,kf]
  exact ⟨z - 1,by omega,i+1,2 * n,by omega,hn2,rfl,by simp⟩
 ·have:i=b:=by omega
  subst this
  obtain rfl:n=m:=by rw [hn,hm]
  clear hn hm
  simp -implicitDefEqProofs (disch:=first | omega | (simp;done) | fail) [-ac,-AV.one,-ad,tD,CM,kf]
  exact ⟨rfl,rfl,by simp⟩
theorem aeo {n m:Nat} (hn:n≤16) (hm:m=2 ^ n) (H:ae):callW P tu [ai n] H=some (ai m,H):=by
 rw [cH]
 have hl:=Ud (H:=H) hn hm n
 clear hm
 refine call_post 4 13 rfl (rfl:P.T tu=some F_q111) rfl (aF rfl) (fun e σ G=>e=.ret∧G=H∧aA F_q111.res σ=some (ai m)) ?_ ?_
 ·rintro e σ G ⟨rfl,rfl,h⟩
  exact ⟨rfl,_,h,rfl,by simp⟩
 rw [F_q111];simp -implicitDefEqProofs (disch:=first | omega | (simp;done) | fail) [-ac,-AV.one,-ad,tD,CM]
 repeat rw [Option.bind_assoc]
 refine Ends.block (P:=CQ H m) (hl _ _ ⟨0,1,by omega,rfl,rfl,by simp [kf]⟩) ?_
 rintro e σ1 G1 ⟨rfl,rfl,c⟩
 simp -implicitDefEqProofs (disch:=first | omega | (simp;done) | fail) [-ac,-AV.one,-ad,tD,CM,c]
def KQ (H:ae) (z0:Bool) (ls:List Nat) (w:Nat) (z:Nat) (σ:List AV) (G:ae):Prop:=
 ∃ (i:Nat) (out:List Bool),i+z=ls.length∧bO w ls=out++bO w (ls.drop i)∧out.length=i * (w+1)∧G=H∧σ=L 61 (((((Tr.full 6).put (ag 0) (lst z0 1 none (nvs ls))).put (ag 1) (ai w)).put (ag 6) (lst true 1 (some 56) (bls out))).put (ag 7) (ai i))
def CR (H:ae) (ls:List Nat) (w:Nat) (e:AExit) (σ:List AV) (G:ae):Prop:=
 G=H∧e=.exit 0∧kill [0,1,7,20,21,22,23] σ=L 61 ((Tr.full 6).put (ag 6) (lst true 1 (some 56) (bls (bO w ls))))
set_option maxHeartbeats 2000000 in
theorem Ue {z0:Bool} {ls:List Nat} {w:Nat} (hl:ls.length≤23) (hw:w=11∨w=15) (hls:∀ n∈ls,1≤n∧n<2 ^ w) (z:Nat) (σ:List AV) (G:ae) (hI:KQ H z0 ls w z (kill (bu gx) σ) G) :
  Ends (execW P nP (.loop gx) σ G) fun s=>CR H ls w s.e s.σ s.H:=by
 refine aX (fun z σ G=>KQ H z0 ls w z σ G) (CR H ls w) ?_ z σ G hI
 clear hI z σ G
 rintro z σ G ⟨i,out,hz,hb,hol,rfl,rfl⟩
 have hla:(nvs ls).length=ls.length:=dn ls
 by_cases hi:i<ls.length
 ·obtain ⟨n,hn⟩:∃ n,ls[i]?=some n:=⟨_,zq6 hi⟩
  have hn1:=hls n (List.mem_of_getElem? hn)
  have q1:=qr hn z0 none .i64
  have hdrop:ls.drop i=n :: ls.drop (i+1):=by
   rw [List.drop_eq_getElem_cons hi]
   rw [zq6 hi] at hn
   rw [zq1 hn]
  rw [hdrop,bO,List.length_drop] at hb
  have hol2:out.length≤1000:=by
   have:i * (w+1)≤23 * 16:=Nat.mul_le_mul (by omega) (by omega)
   omega
  obtain ⟨tp,htp⟩:=nm (2 ^ w)
  have ht:=fun H=>aeo (n:=w) (m:=tp) (by omega) htp.symm H
  rw [htp] at hn1
  have htp16:tp≤65536:=by
   rw [← htp]
   calc 2 ^ w≤2 ^ 16:=Nat.pow_le_pow_right (by omega) (by omega)
    _=65536:=by decide
  obtain ⟨b,hbb⟩:=nm (decide (0<ls.length - (i+1)))
  rw [hbb] at hb
  obtain ⟨cs,hcs,hap⟩:=Po (m:=P.md nP) (d:=47) (c:=56) (bytes:=1) (v:=ab b) (JW 47) (by omega) (by rw [ed];omega) (l:=bls out) (some 46)
  rw [← pH] at hap
  have hput:=fun H=>T7 (zx:=true) (x:=out++[b]) (by rw [List.length_append];simp;omega) (v:=n) (n:=w) (by omega) (by omega) H
  have hn64:IntKind.u64.wrap (n:Int)=n:=bJ (by omega) (by omega)
  have hdc:(b=true∧i+1<ls.length)∨(b=false∧ls.length≤i+1):=by
   by_cases c:i+1<ls.length
   ·exact .inl ⟨by rw [← hbb];exact decide_eq_true (by omega),c⟩
   ·exact .inr ⟨by rw [← hbb];exact decide_eq_false (by omega),by omega⟩
  have hres:∀ σ,σ=L 61 (((((Tr.full 6).put (ag 0) (lst z0 1 none (nvs ls))).put (ag 1) (ai w)).put (ag 6) (lst true 1 (some 56) (bls (out++[b]++aD n w)))).put (ag 7) (ai (i+1:Nat)))→∃ m,m<z∧KQ G z0 ls w m σ G:=fun σ e=>⟨z - 1,by omega,i+1,out++[b]++aD n w,by omega,by rw [hb];simp,by rw [List.length_append,List.length_append,aT,hol,Nat.add_mul];simp;omega,rfl,e⟩
  clear hb htp hbb hls
  obtain ⟨L0,hL0⟩:=nm (bls out)
  obtain ⟨L1,hL1⟩:=nm (bls (out++[b]))
  obtain ⟨L2,hL2⟩:=nm (bls (out++[b]++aD n w))
  simp only [hL0,hL1,hL2] at hap hput hres
  rw [hL0]
  have hw2:(w:Int)=11∨(w:Int)=15:=by omega
  have f1:¬ (n:Int)<1:=by omega
  have f1':¬ n<1:=by omega
  have f2:¬ (n:Int) ≥ tp:=by omega
  have f2':¬ (tp:Int)≤n:=by omega
  have f2'':¬ tp≤n:=by omega
  have f3:IntKind.i64.wrap ((i:Int)+1)=((i+1:Nat):Int):=by rw [aq (by omega) (by omega)];omega
  have f4:(i:Int)<ls.length:=by omega
  obtain ⟨i1,hi1⟩:=nm (i+1)
  rw [hi1] at f3 hres hdc
  rcases hcs with rfl | rfl<;>rcases hdc with ⟨rfl,hc⟩ | ⟨rfl,hc⟩
  ·have f5:(i1:Int)<ls.length:=by omega
   simp -implicitDefEqProofs [-ac,-AV.one,-ad,mf,gx,hi,f1,f1',f2,f2',f2'',f3,f4,f5,hc,hla,q1,ht,hap,hput,hn64,aK,aB,aP,aC,aM,SOpG.reads,SOp.slots,SX.slots,SOp.noL,rdV,av,aJ,aE,eqV]
   exact hres _ (by simp)
  ·have f5:¬ (i1:Int)<ls.length:=by omega
   have hc':¬ i1<ls.length:=by omega
   simp -implicitDefEqProofs [-ac,-AV.one,-ad,mf,gx,hi,f1,f1',f2,f2',f2'',f3,f4,f5,hc',hla,q1,ht,hap,hput,hn64,aK,aB,aP,aC,aM,SOpG.reads,SOp.slots,SX.slots,SOp.noL,rdV,av,aJ,aE,eqV]
   exact hres _ (by simp)
  ·have f5:(i1:Int)<ls.length:=by omega
   simp -implicitDefEqProofs [-ac,-AV.one,-ad,mf,gx,hi,f1,f1',f2,f2',f2'',f3,f4,f5,hc,hla,q1,ht,hap,hput,hn64,aK,aB,aP,aC,aM,SOpG.reads,SOp.slots,SX.slots,SOp.noL,rdV,av,aJ,aE,eqV]
   exact hres _ (by simp)
  ·have f5:¬ (i1:Int)<ls.length:=by omega
   have hc':¬ i1<ls.length:=by omega
   simp -implicitDefEqProofs [-ac,-AV.one,-ad,mf,gx,hi,f1,f1',f2,f2',f2'',f3,f4,f5,hc',hla,q1,ht,hap,hput,hn64,aK,aB,aP,aC,aM,SOpG.reads,SOp.slots,SX.slots,SOp.noL,rdV,av,aJ,aE,eqV]
   exact hres _ (by simp)
 ·have h0:bO w ls=out:=by
   rw [hb,List.drop_eq_nil_of_le (by omega),bO,List.append_nil]
  clear hb
  simp -implicitDefEqProofs (disch:=first | omega | (simp;done) | fail) [-ac,-AV.one,-ad,mf,CM,gx,hla]
  exact ⟨rfl,rfl,by rw [h0];simp⟩
theorem KR {z0:Bool} {ls:List Nat} {w:Nat} (h1:1≤ls.length) (hl:ls.length≤23) (hw:w=11∨w=15) (hls:∀ n∈ls,1≤n∧n<2 ^ w) (H:ae) :
  ∃ o k,PackR (bO w ls) o∧callW P nP [lst z0 1 none (nvs ls),ai w] H=some (.tup [lst true 1 none (ax o),ai 0],H++List.replicate k .other):=by
 have hll:=Ue (H:=H) (z0:=z0) hl hw hls ls.length
 have hla:(nvs ls).length=ls.length:=dn ls
 obtain ⟨o,hp,hB⟩:=xZ (zx:=true) (l:=bO w ls) (by have:=pF hw hl;omega) H
 obtain ⟨k,hk⟩:=Ua H o
 have hfz:=T9 H o
 refine ⟨o,k,hp,?_⟩
 have hpl:=hp.len
 have ho:o.length≠0:=by
  rw [hpl,dw]
  have:1 * 12≤ls.length * (w+1):=Nat.mul_le_mul h1 (by omega)
  omega
 have hrc:=fun d σ H'=>CN d H.length o.length σ H' ho
 clear hp hpl
 generalize BH H o=G2 at *
 rw [cH]
 refine call_post 6 61 rfl (rfl:P.T nP=some F_q105) rfl (aF rfl) (fun e σ G=>e=.ret∧G=G2∧aA F_q105.res σ=some (.tup [eD H.length o.length,ai 0])) ?_ ?_
 ·rintro e σ G ⟨rfl,rfl,h⟩
  exact ⟨rfl,_,h,by simp,by simp [hfz,hk]⟩
 have hw2:(w:Int)=11∨(w:Int)=15:=by omega
 obtain ⟨L0,hL0⟩:=nm (bls (bO w ls))
 rw [hL0] at hB
 rw [F_q105];simp -implicitDefEqProofs (disch:=first | omega | (simp;done) | fail) [-ac,-AV.one,-ad,mf,CM,hla]
 repeat rw [Option.bind_assoc]
 refine Ends.block (P:=CR H ls w) (hll _ _ ⟨0,[],by omega,by simp,by simp,rfl,by simp [gx,bls]⟩) ?_
 rintro e σ1 G1 ⟨rfl,rfl,c⟩
 rw [hL0] at c
 simp -implicitDefEqProofs (disch:=first | omega | (simp;done) | fail) [-ac,-AV.one,-ad,mf,CM,c,hB,hrc]
end
def TH (M:ae) (a:List Nat) (k:Nat):ae:=M++AObj.grow (bys a) 0 :: List.replicate k .other
theorem KS (M:ae) (a:List Nat) (k:Nat):(TH M a k)[M.length]?=some (.grow (bys a) 0):=by simp [TH]
theorem Uf (M:ae) (a b:List Nat) (k:Nat):(TH M a k).set M.length (.grow (bys b) 0)=TH M b k:=by
 rw [TH,List.set_append_right _ _ (Nat.le_refl _)];simp [TH]
theorem Ug (M:ae) (a:List Nat) (k j:Nat):TH M a k++List.replicate j .other=TH M a (k+j):=by
 simp only [TH,List.append_assoc,List.cons_append,List.replicate_append_replicate]
def rwv (r n:Nat):AV:=.sl r 0 n n 1 n false
theorem Uh (n r m:Nat):ev1 n (rwv r m)=rwv r m:=rfl
theorem On (r m:Nat):(rwv r m).isBox=false:=rfl
theorem KT (r m:Nat):(rwv r m).free=true:=rfl
theorem Oo (r m:Nat):(rwv r m).one=true:=rfl
theorem GQ (r m:Nat):ac (rwv r m)=[rwv r m]:=rfl
theorem KU (cs:List Nat) (r m:Nat):bV cs (rwv r m)=rwv r m:=rfl
theorem CS (n r m:Nat):ad n (rwv r m)=rwv r m:=rfl
theorem Oq (r m:Nat):pln (rwv r m)=rwv r m:=rfl
theorem KV (r m:Nat):ly (rwv r m)=rwv r m:=rfl
theorem Ot (r m:Nat):xq (rwv r m)=some m:=rfl
theorem GR (d:Option Nat) (r m:Nat) (σ:List AV) (H:ae):cV d (rwv r m) σ H=(rwv r m,σ,H):=by cases d<;>rfl
attribute [simp] Uh On KT Oo GQ KU CS Oq KV Ot GR
theorem KW {m:Md} (hm:m.wr=true) {d:Nat} {M:ae} {a l:List Nat} {k:Nat} {x:AV} (ha:a≠[]) (hx:∀ H,dY H 1 x=some (ax l)) (hl:a.length+l.length≤1000000) (σ:List AV) :
  fy m (some d) 1 1 (rwv M.length a.length) x σ (TH M a k)=some (rwv M.length (a++l).length,σ,TH M (a++l) k):=by
 have ha0:a.length≠0:=fun e=>ha (zq8 e)
 by_cases h1:l=[]
 ·subst h1
  have:ax ([]:List Nat)=[]:=rfl
  simp only [rwv,fy,hm,if_true,hx,Option.bind_some,this,List.append_nil]
  rw [if_pos (Nat.le_refl _)]
 ·have hne:¬ ax l=[]:=by simpa [ax] using h1
  simp only [rwv,fy,hm,if_true,hx,Option.bind_some,hne,if_false]
  rw [if_pos (by simp [ha0,bg,aw];omega),KS]
  simp only [AObj.isW,AObj.cells,AObj.lo,m6,true_and,if_true]
  rw [kX,← Et,bg,List.length_append,Nat.mul_one,Uf]
section
variable {H:ae}
def KX (H:ae) (z0:Bool) (ff:List Bs) (r n w:Nat) (z:Nat) (σ:List AV) (G:ae):Prop:=
 ∃ (i:Nat),i+z=ff.length - 1∧G=H∧σ=L 52 ((((((Tr.full 6).put (ag 0) (rwv r n)).put (ag 1) (lst z0 1 none (bvs ff))).put (ag 2) (ai w)).put (ag 7) (lst true 1 (some 26) (nvs (((bb ff).take i).map (·.length))))).put (ag 8) (ai i))
def CU (H:ae) (z0:Bool) (ff:List Bs) (r n w:Nat) (e:AExit) (σ:List AV) (G:ae):Prop:=
 G=H∧e=.exit 0∧kill [8,12,13,14,15,16] σ=L 52 (((((Tr.full 6).put (ag 0) (rwv r n)).put (ag 1) (lst z0 1 none (bvs ff))).put (ag 2) (ai w)).put (ag 7) (lst true 1 (some 26) (nvs (((bb ff).take (ff.length - 1)).map (·.length)))))
theorem Ui {z0:Bool} {ff:List Bs} (hl:ff.length≤100) (r n w:Nat) (z:Nat) (σ:List AV) (G:ae) (hI:KX H z0 ff r n w z (kill (bu mX) σ) G) :
  Ends (execW P gl (.loop mX) σ G) fun s=>CU H z0 ff r n w s.e s.σ s.H:=by
 refine aX (fun z σ G=>KX H z0 ff r n w z σ G) (CU H z0 ff r n w) ?_ z σ G hI
 clear hI z σ G
 rintro z σ G ⟨i,hz,rfl,rfl⟩
 have hla:(bvs ff).length=ff.length:=bA ff
 by_cases hi:i<ff.length - 1
 ·obtain ⟨x,hx⟩:∃ x,ff[i]?=some x:=⟨_,zq6 (by omega)⟩
  have q1:=gO hx z0 none .i64
  have hxl:=cz x
  have hsn:((bb ff).take (i+1)).map (·.length)=((bb ff).take i).map (·.length)++[x.2.length]:=by rw [ej (gH hx)];simp
  have hap:=fun σ H=>uR (m:=P.md gl) (d:=26) (bytes:=8) (v:=ai x.2.length) (Pf 26) (by omega) (by rw [dn];simp [br];omega) (l:=nvs (((bb ff).take i).map (·.length))) (some 25) σ H
  rw [← mu,← hsn] at hap
  have hres:∀ σ,σ=L 52 ((((((Tr.full 6).put (ag 0) (rwv r n)).put (ag 1) (lst z0 1 none (bvs ff))).put (ag 2) (ai w)).put (ag 7) (lst true 1 (some 26) (nvs (((bb ff).take (i+1)).map (·.length))))).put (ag 8) (ai (i+1:Nat)))→∃ m,m<z∧KX G z0 ff r n w m σ G:=fun σ e=>⟨z - 1,by omega,i+1,by omega,rfl,e⟩
  obtain ⟨L0,hL0⟩:=nm (nvs (((bb ff).take i).map (·.length)))
  obtain ⟨L1,hL1⟩:=nm (nvs (((bb ff).take (i+1)).map (·.length)))
  simp only [hL0,hL1] at hap hres
  rw [hL0]
  obtain ⟨xl,hxl'⟩:=nm (x.2.length)
  rw [hxl'] at hxl hap
  clear hsn
  simp -implicitDefEqProofs (disch:=first | omega | (simp;done) | fail) [-ac,-AV.one,-ad,nE,CM,mX,hla,q1,hxl,hap]
  exact hres _ (by simp)
 ·have e:((bb ff).take i).map (·.length)=((bb ff).take (ff.length - 1)).map (·.length):=by
   have:i=ff.length - 1:=by omega
   rw [this]
  rw [e]
  simp -implicitDefEqProofs (disch:=first | omega | (simp;done) | fail) [-ac,-AV.one,-ad,nE,CM,mX,hla]
  exact ⟨rfl,rfl,by simp⟩
def Eu (M:ae) (k:Nat) (z0:Bool) (ff:List Bs) (a:List Nat) (z:Nat) (σ:List AV) (G:ae):Prop:=
 ∃ (i:Nat),i+z=ff.length∧G=TH M (a++((bb ff).take i).flatten) k∧σ=L 52 ((((Tr.full 6).put (ag 0) (rwv M.length (a++((bb ff).take i).flatten).length)).put (ag 1) (lst z0 1 none (bvs ff))).put (ag 11) (ai i))
def mA (M:ae) (k:Nat) (ff:List Bs) (a:List Nat) (e:AExit) (σ:List AV) (G:ae):Prop:=
 G=TH M (a++(bb ff).flatten) k∧e=.exit 2∧kill [1,11,39,40,41,42] σ=L 52 ((Tr.full 6).put (ag 0) (rwv M.length (a++(bb ff).flatten).length))
theorem Uj {M:ae} {k:Nat} {z0:Bool} {ff:List Bs} {a:List Nat} (ha:a≠[]) (hal:a.length≤10000) (hl:ff.length≤100) (hs:(bb ff).flatten.length≤100000) (z:Nat) (σ:List AV) (G:ae) (hI:Eu M k z0 ff a z (kill (bu iK) σ) G) :
  Ends (execW P gl (.loop iK) σ G) fun s=>mA M k ff a s.e s.σ s.H:=by
 refine aX (fun z σ G=>Eu M k z0 ff a z σ G) (mA M k ff a) ?_ z σ G hI
 clear hI z σ G
 rintro z σ G ⟨i,hz,rfl,rfl⟩
 have hla:(bvs ff).length=ff.length:=bA ff
 have htl:((bb ff).take i).flatten.length≤(bb ff).flatten.length:=by
  conv=>rhs;rw [← List.take_append_drop i (bb ff),List.flatten_append,List.length_append]
  omega
 have hne:a++((bb ff).take i).flatten≠[]:=fun e=>ha (List.append_eq_nil_iff.1 e).1
 by_cases hi:i<ff.length
 ·obtain ⟨x,hx⟩:∃ x,ff[i]?=some x:=⟨_,zq6 hi⟩
  have q1:=gO hx z0 none .i64
  have hxs:x.2.length≤(bb ff).flatten.length:=by
   rw [List.length_flatten];exact nX (List.mem_map_of_mem (List.mem_of_getElem? hx))
  have hap:=KW (m:=P.md gl) rfl (d:=50) (M:=M) (k:=k) (l:=x.2) (x:=bv x) hne (fun H=>pE H x) (by rw [List.length_append];omega)
  have hsn:a++((bb ff).take (i+1)).flatten=a++((bb ff).take i).flatten++x.2:=by rw [ej (gH hx)];simp
  rw [← hsn] at hap
  have hres:∀ σ,σ=L 52 ((((Tr.full 6).put (ag 0) (rwv M.length (a++((bb ff).take (i+1)).flatten).length)).put (ag 1) (lst z0 1 none (bvs ff))).put (ag 11) (ai (i+1:Nat)))→∃ m,m<z∧Eu M k z0 ff a m σ (TH M (a++((bb ff).take (i+1)).flatten) k):=fun σ e=>⟨z - 1,by omega,i+1,by omega,rfl,e⟩
  clear hsn hne
  generalize a++((bb ff).take i).flatten=o0 at *
  generalize a++((bb ff).take (i+1)).flatten=o1 at *
  obtain ⟨G0,hG0⟩:=nm (TH M o0 k)
  obtain ⟨G1,hG1⟩:=nm (TH M o1 k)
  simp only [hG0,hG1] at hap hres ⊢
  simp -implicitDefEqProofs (disch:=first | omega | (simp;done) | fail) [-ac,-AV.one,-ad,nE,CM,iK,hla,q1,hap]
  exact hres _ (by simp)
 ·have e:(bb ff).take i=bb ff:=List.take_of_length_le (by rw [br];omega)
  rw [e]
  obtain ⟨o,ho⟩:=nm (a++(bb ff).flatten)
  have hP:∀ e σ G,mA M k ff a e σ G=(G=TH M o k∧e=.exit 2∧kill [1,11,39,40,41,42] σ=L 52 ((Tr.full 6).put (ag 0) (rwv M.length o.length))):=fun e σ G=>by rw [mA,ho]
  rw [ho]
  obtain ⟨G0,hG0⟩:=nm (TH M o k)
  rw [hG0]
  simp -implicitDefEqProofs (disch:=first | omega | (simp;done) | fail) [-ac,-AV.one,-ad,nE,CM,iK,hla]
  rw [hP,hG0]
  exact ⟨rfl,rfl,by simp⟩
def CV (M:ae) (a:List Nat) (ff:List Bs) (w:Nat) (ls:List Nat) (e:AExit) (σ:List AV) (G:ae):Prop:=
 e=.ret∧∃ lb k,PackR (bO w ls) lb∧G=TH M (a++lb++(bb ff).flatten) k∧aA F_q82.res σ=some (rwv M.length (a++lb++(bb ff).flatten).length)
theorem Pr {M:ae} {z0:Bool} {ff:List Bs} {a:List Nat} {w:Nat} (ha:a≠[]) (hal:a.length≤1000) (hl1:1≤ff.length) (hl:ff.length≤24) (hs:(bb ff).flatten.length≤5000) (hw:w=11∨w=15) (hls:∀ n∈((bb ff).take (ff.length - 1)).map (·.length),1≤n∧n<2 ^ w) :
  ∃ lb k,PackR (bO w (((bb ff).take (ff.length - 1)).map (·.length))) lb∧callW P gl [rwv M.length a.length,lst z0 1 none (bvs ff),ai w] (TH M a 0)=some (rwv M.length (a++lb++(bb ff).flatten).length,TH M (a++lb++(bb ff).flatten) k):=by
 have hL1:=Ui (H:=TH M a 0) (z0:=z0) (ff:=ff) (by omega) M.length a.length w (ff.length - 1)
 obtain ⟨ls,hls'⟩:=nm (((bb ff).take (ff.length - 1)).map (·.length))
 have hll:ls.length=ff.length - 1:=by rw [← hls'];simp [br]
 rw [hls'] at hls ⊢
 suffices hend:Ends (callW P gl [rwv M.length a.length,lst z0 1 none (bvs ff),ai w] (TH M a 0)) fun y=>∃ lb k,PackR (bO w ls) lb∧y=(rwv M.length (a++lb++(bb ff).flatten).length,TH M (a++lb++(bb ff).flatten) k) by
  obtain ⟨y,h2,lb,k,h3,rfl⟩:=hend
  exact ⟨lb,k,h3,h2⟩
 refine call_post 6 52 rfl (rfl:P.T gl=some F_q82) rfl (aF rfl) (CV M a ff w ls) ?_ ?_
 ·rintro e σ G ⟨rfl,lb,k,h1,rfl,h⟩
  exact ⟨rfl,_,h,by simp,by simp;exact ⟨lb,h1,rfl,k,rfl⟩⟩
 have hbeg:∀ σ1 G1 lb k,PackR (bO w ls) lb→lb.length≤500→Eu M k z0 ff (a++lb) ff.length (kill (bu iK) σ1) G1→Ends (execW P gl (.loop iK) σ1 G1) fun s=>mA M k ff (a++lb) s.e s.σ s.H:=fun σ1 G1 lb k _ hlb h=>Uj (fun e=>ha (List.append_eq_nil_iff.1 e).1) (by rw [List.length_append];omega) (by omega) (by omega) _ _ _ h
 obtain ⟨G0,hG0⟩:=nm (TH M a 0)
 rw [hG0] at hL1 ⊢
 rw [F_q82];simp -implicitDefEqProofs (disch:=first | omega | (simp;done) | fail) [-ac,-AV.one,-ad,nE,CM]
 repeat rw [Option.bind_assoc]
 refine Ends.block (P:=CU G0 z0 ff M.length a.length w) (hL1 _ _ ⟨0,by omega,rfl,by simp [mX,nvs]⟩) ?_
 rintro e σ1 G1 ⟨rfl,rfl,c⟩
 rw [hls'] at c
 have hnl:(nvs ls).length=ls.length:=dn ls
 by_cases h0:ls.length=0
 ·have hls0:ls=[]:=zq8 h0
  have hb:=hbeg
  have hP:∀ k e σ G,mA M k ff a e σ G=(G=TH M (a++(bb ff).flatten) k∧e=.exit 2∧kill [1,11,39,40,41,42] σ=L 52 ((Tr.full 6).put (ag 0) (rwv M.length (a++(bb ff).flatten).length))):=fun k e σ G=>rfl
  rw [hls0] at c
  replace c:kill [8,12,13,14,15,16] σ1=L 52 (((((Tr.full 6).put (ag 0) (rwv M.length a.length)).put (ag 1) (lst z0 1 none (bvs ff))).put (ag 2) (ai w)).put (ag 7) (bc)):=c
  simp -implicitDefEqProofs (disch:=first | omega | (simp;done) | fail) [-ac,-AV.one,-ad,nE,CM,c]
  repeat rw [Option.bind_assoc]
  have hpk:PackR (bO w ls) []:=by rw [hls0];exact PackR.nil
  refine Ends.block (P:=mA M 0 ff (a++[])) (hbeg _ _ [] 0 hpk (by simp) ⟨0,by omega,by simp [hG0],by simp [iK]⟩) ?_
  rintro e σ1 G1 ⟨rfl,rfl,c⟩
  have hx:∀ σ,aA F_q82.res σ=some (rwv M.length (a++[]++(bb ff).flatten).length)→CV M a ff w ls .ret σ (TH M (a++[]++(bb ff).flatten) 0):=fun σ h=>⟨rfl,[],0,hpk,rfl,h⟩
  generalize a++[]++(bb ff).flatten=o at *
  generalize TH M o 0=G2 at *
  simp -implicitDefEqProofs (disch:=first | omega | (simp;done) | fail) [-ac,-AV.one,-ad,nE,CM,c]
  exact hx _ (by simp [F_q82])
 ·obtain ⟨lb,k,hpb,hW⟩:=KR (z0:=true) (ls:=ls) (by omega) (by omega) hw hls G1
  have hlbl:=hpb.len
  have hlb2:=pF hw (l:=ls) (by omega)
  rw [← hG0,Ug,hG0] at hW
  have hap:=KW (m:=P.md gl) rfl (d:=38) (M:=M) (a:=a) (k:=0+k) (l:=lb) (x:=lst true 1 none (ax lb)) ha (fun H=>Go.A.V.elems_lst H true 1 none _) (by omega)
  obtain ⟨G2,hG2⟩:=nm (TH M a (0+k))
  rw [hG2] at hW hap
  obtain ⟨G3,hG3⟩:=nm (TH M (a++lb) (0+k))
  rw [hG3] at hap
  obtain ⟨nn,hnn⟩:=nm ((a++lb).length)
  rw [hnn] at hap
  obtain ⟨L0,hL0⟩:=nm (ax lb)
  rw [hL0] at hW hap
  simp -implicitDefEqProofs (disch:=first | omega | (simp;done) | fail) [-ac,-AV.one,-ad,nE,CM,c,hnl,hW,hap]
  repeat rw [Option.bind_assoc]
  refine Ends.block (P:=mA M (0+k) ff (a++lb)) (hbeg _ _ lb (0+k) hpb (by omega) ⟨0,by omega,by simp [← hG3],by simp [iK,← hnn]⟩) ?_
  rintro e σ1 G1 ⟨rfl,rfl,c⟩
  have hx:∀ σ,aA F_q82.res σ=some (rwv M.length (a++lb++(bb ff).flatten).length)→CV M a ff w ls .ret σ (TH M (a++lb++(bb ff).flatten) (0+k)):=fun σ h=>⟨rfl,lb,0+k,hpb,rfl,h⟩
  generalize a++lb++(bb ff).flatten=o at *
  generalize TH M o (0+k)=G4 at *
  simp -implicitDefEqProofs (disch:=first | omega | (simp;done) | fail) [-ac,-AV.one,-ad,nE,CM,c]
  exact hx _ (by simp [F_q82])
end
theorem Ou (a b:List Bool):bls (a++b)=bls a++bls b:=by simp [bls]
theorem KY {x:List Bool} (h:x≠[]):bls x≠[]:=by simpa [bls] using h
theorem Av {x:List Bool} (h0:x≠[]) (hx:x.length≤60000) {v n:Nat} (hn:n≤63) (hvn:v<2 ^ n) (H:ae) :
  callW P ep [.vs 1 none (bls x),.c (.int .u64 v),ai n] H=some (.tup [.vs 1 (some 0) (bls (x++aD v n)),ai 0],H):=by
 have h:=T7 (zx:=false) hx hn hvn H
 have hne:x++aD v n≠[]:=fun e=>h0 (List.append_eq_nil_iff.1 e).1
 rw [iW (KY hne)] at h
 exact h
theorem CW {m:Md} {d c:Nat} {x y:List Bool} (hx:x.length≤60000) (hy:y.length≤1000) (f:Option Nat) (σ:List AV) (H:ae) :
  fy m (some d) 1 1 (.vs 1 (some c) (bls x)) (.vs 1 f (bls y)) σ H=some (.vs 1 (some d) (bls (x++y)),σ.map (bV [c,d]),H):=by
 rw [Ou]
 exact gU (fun H=>cR H 1 f _) (by simp [ed,aw];omega) (by simp [ed,aw];omega) σ H
theorem CX (H:ae) {o:List Nat} (k:Nat) (h0:o≠[]):frz H.length (TH H o k) (rwv H.length o.length)=some (.vs 1 none (ax o)):=by
 have ho0:o.length≠0:=fun e=>h0 (zq8 e)
 have hrd:bT (TH H o k) H.length 0 (o.length * 1) o.length=some (bys o):=by
  rw [bT,if_neg (by omega),ba,KS]
  simp only [AObj.isRow,AObj.lo,AObj.cells,m6]
  rw [if_pos ⟨trivial,by omega,by omega,by omega⟩,List.drop_zero,List.take_of_length_le (by rw [m6];omega)]
 have hok:(bys o).all be=true:=by
  refine List.all_eq_true.2 fun x hx=>?_
  obtain ⟨b,_,rfl⟩:=List.mem_map.1 hx
  rfl
 have hch:∀ l:List Nat,fK 1 l.length (bys l)=ax l:=by
  intro l
  induction l with
  | nil=>rfl
  | cons x r ih =>
   have e1:bys (x :: r)=au x :: bys r:=rfl
   have e2:ax (x :: r)=[au x] :: ax r:=rfl
   rw [e1,e2,List.length_cons,fK,List.take_succ_cons,List.take_zero,List.drop_succ_cons,List.drop_zero,ih]
 simp only [rwv,frz]
 rw [if_neg (by omega),if_neg (by omega),hrd,Option.bind_some,if_pos hok,hch]
theorem CY (H:ae) (o:List Nat) (k:Nat):List.take H.length (TH H o k)++List.replicate ((TH H o k).length - H.length) AObj.other=H++List.replicate (k+1) .other:=by
 have:(TH H o k).length - H.length=k+1:=by simp [TH]
 rw [this,TH,List.take_left]
theorem qt {z:Int} (h:0≤z) (h2:z≤100000):IntKind.u64.wrap z=(z.toNat:Nat):=by rw [bJ h (by omega)];omega
set_option maxHeartbeats 4000000 in
theorem Uk (p:Pk) {w:Int} (h0:cO p w≠0) (H:ae) :
  ∃ out k,WrB p w.toNat out∧callW P jX [.agg p.v,ai w] H=some (.vs 1 none (ax out),H++List.replicate k .other):=by
 obtain ⟨hok,hw,hf1,hf24,hsz,hpz⟩:=m4 h0
 obtain ⟨wn,rfl,hwn⟩:∃ wn:Nat,w=wn∧(wn=10∨wn=16):=by
  rcases hw with rfl | rfl
  ·exact ⟨10,rfl,.inl rfl⟩
  ·exact ⟨16,rfl,.inr rfl⟩
 have htn:((wn:Nat):Int).toNat=wn:=by simp
 rw [htn] at hok hsz ⊢
 obtain ⟨s1,s2,s3,s4⟩:=fQ (bb p.ff) (gD p wn) (by rw [← hsz];exact h0)
 have hbne:bb p.ff≠[]:=fun e=>by have:=congrArg List.length e;rw [br] at this;simp at this;rw [this] at hf1;simp at hf1
 have hdl:=s3 hbne
 have hlw:bn wn=11∨bn wn=15:=by rcases hwn with rfl | rfl<;>simp [bn]
 have hlens:∀ n∈((bb p.ff).take (p.ff.length - 1)).map (·.length),1≤n∧n<2 ^ bn wn:=fun n hn=>by
  obtain ⟨b,hb1,rfl⟩:=List.mem_map.1 hn
  have hdr:(bb p.ff).take (p.ff.length - 1)=(bb p.ff).dropLast:=by rw [List.dropLast_eq_take,br]
  rw [hdr] at hb1
  have h2:=s2 b hb1
  have h3:=s1 b (List.mem_of_mem_take (by rw [List.dropLast_eq_take] at hb1;exact hb1))
  have:2 ^ 11≤2 ^ bn wn:=Nat.pow_le_pow_right (by omega) (by omega)
  have:(2:Nat) ^ 11=2048:=by decide
  omega
 have hbl:=wG p hwn
 have hbl3:3≤(dj p wn).length:=by unfold dj;simp [aT]
 obtain ⟨hb,hpk,hB⟩:=xZ (zx:=false) (l:=dj p wn) (by omega) H
 have hhl:=hpk.len
 have hb0:hb≠[]:=fun e=>by rw [e] at hhl;simp at hhl;omega
 have hb1:hb.length≠0:=fun e=>hb0 (zq8 e)
 have hbh:BH H hb=TH H hb 0:=by simp [BH,TH,hb0]
 have hbv:eD H.length hb.length=rwv H.length hb.length:=by rw [eD,if_neg hb1];rfl
 rw [hbh,hbv] at hB
 obtain ⟨lb,k,hpl,hT⟩:=Pr (M:=H) (z0:=p.z) (ff:=p.ff) (a:=hb) (w:=bn wn) hb0 (by omega) hf1 hf24 (by omega) hlw hlens
 have hfin:WrB p wn (hb++lb++(bb p.ff).flatten):=⟨hb,lb,hpk,by
  have:jN p=((bb p.ff).take (p.ff.length - 1)).map (·.length):=by rw [jN,bb,bb,List.map_take]
  rw [this];exact hpl,rfl⟩
 have ho0:hb++lb++(bb p.ff).flatten≠[]:=fun e=>hb0 (List.append_eq_nil_iff.1 (List.append_eq_nil_iff.1 e).1).1
 have hfz:=CX H k ho0
 have hoth:=CY H (hb++lb++(bb p.ff).flatten) k
 refine ⟨_,k+1,hfin,?_⟩
 rw [← hoth]
 clear hfin hoth
 obtain ⟨out,hout⟩:=nm (hb++lb++(bb p.ff).flatten)
 rw [hout] at hT hfz ⊢
 obtain ⟨⟨hfi,hfi2⟩,⟨hsn,hsn2⟩,⟨hof,hof2⟩⟩:(0≤p.fi∧p.fi≤3)∧(0≤p.sn∧p.sn<(2 ^ wn:Nat))∧(0≤p.off∧p.off<(2 ^ aI (wn:Int):Nat)):=⟨hok.fi,hok.sn,hok.off⟩
 have hpow:∀ n,n≤16→(2:Nat) ^ n≤65536:=fun n hn=>by
  calc 2 ^ n≤2 ^ 16:=Nat.pow_le_pow_right (by omega) hn
   _=65536:=by decide
 have how:aI (wn:Int)=15∨aI (wn:Int)=16:=by simp only [aI];split<;>simp
 have hpw:=hpow wn (by omega)
 have hpo:=hpow (aI (wn:Int)) (by omega)
 have u1:=qt hfi (by omega)
 have u2:=qt hsn (by omega)
 have u3:=qt hof (by omega)
 have v1:p.fi.toNat<2 ^ 2:=by omega
 have v2:p.sn.toNat<2 ^ wn:=by omega
 have v3:p.off.toNat<2 ^ aI (wn:Int):=by omega
 have hWd:=fun H=>pI (wn:Nat) H
 have hla:(bvs p.ff).length=p.ff.length:=bA p.ff
 obtain ⟨hw0,hw0'⟩:(wn:Int)=wn∧True:=⟨rfl,trivial⟩
 obtain ⟨po,fi,sn,pa,la,off,z0,ff⟩:=p
 simp only at *
 simp only [Pk.v,Pk.f,aZ]
 obtain ⟨b1,hb1'⟩:=nm (decide (1<ff.length))
 have hdc:decide ((ff.length:Int) > 1)=b1:=by rw [← hb1'];exact decide_eq_decide.2 (by omega)
 have hdc':decide ((1:Int)<ff.length)=b1:=by rw [← hb1'];exact decide_eq_decide.2 (by omega)
 have hP1:=fun H=>Av (x:=[true,pa,po]) (by simp) (by simp) (v:=fi.toNat) (n:=2) (by omega) v1 H
 replace hP1:∀ H,callW P ep [.vs 1 none [[ab true],[ab pa],[ab po]],.c (.int .u64 fi.toNat),ai 2] H=some (.tup [.vs 1 (some 0) (bls ([true,pa,po]++aD fi.toNat 2)),ai 0],H):=hP1
 obtain ⟨x1,hx1⟩:=nm ([true,pa,po]++aD fi.toNat 2)
 have hx1l:x1.length=5:=by rw [← hx1];simp [aT]
 rw [hx1] at hP1
 have hA1:=fun f σ H=>CW (m:=P.md jX) (d:=32) (c:=23) (x:=x1) (y:=[b1]) (by omega) (by simp) f σ H
 obtain ⟨x2,hx2⟩:=nm (x1++[b1])
 have hx2l:x2.length=6:=by rw [← hx2];simp [hx1l]
 rw [hx2] at hA1
 replace hA1:∀ f σ H,fy (P.md jX) (some 32) 1 1 (.vs 1 (some 23) (bls x1)) (.vs 1 f [[ab b1]]) σ H=some (.vs 1 (some 32) (bls x2),σ.map (bV [23,32]),H):=hA1
 have fin:∀ x:List Bool,x.length≤100→∀ v n:Nat,n≤16→x≠[]→v<2 ^ n→∀ H,callW P ep [.vs 1 none (bls x),.c (.int .u64 v),ai n] H=some (.tup [.vs 1 (some 0) (bls (x++aD v n)),ai 0],H):=fun x hx v n hn hx0 hv H=>Av hx0 (by omega) (by omega) hv H
 have hbits:dj ⟨po,fi,sn,pa,la,off,z0,ff⟩ wn=(x2++(if wn=16 then [la,false] else [])++aD sn.toNat wn)++(if pa=true∧wn=10 then [la] else [])++(if pa=true then aD off.toNat (aI (wn:Int)) else []):=by
  rw [← hx2,← hx1,← hb1'];simp [dj]
 rw [hbits] at hB
 have hx20:x2≠[]:=fun e=>by rw [e] at hx2l;simp at hx2l
 clear hbits hx2 hx1 hpk hpl hok hsz s1 s2 s3 s4 hlens h0 hpz hbl hbl3 hbh hbv hdl hb1' hbne
 generalize fi.toNat=fn at *
 generalize sn.toNat=sN at *
 generalize off.toNat=oN at *
 rcases hwn with rfl | rfl
 ·have hP2:=fin x2 (by omega) sN 10 (by omega) hx20 v2
  have hrw:(if (10:Nat)=16 then [la,false] else [])=[]:=rfl
  rw [hrw,List.append_nil] at hB
  obtain ⟨x3,hx3⟩:=nm (x2++aD sN 10)
  have hx3l:x3.length=16:=by rw [← hx3];simp [hx2l,aT]
  have hx30:x3≠[]:=fun e=>by rw [e] at hx3l;simp at hx3l
  rw [hx3] at hP2 hB
  replace hP2:∀ H,callW P ep [.vs 1 none (bls x2),.c (.int .u64 sN),ai 10] H=some (.tup [.vs 1 (some 0) (bls x3),ai 0],H):=hP2
  cases pa with
  | true =>
   have hA2:=fun f σ H=>CW (m:=P.md jX) (d:=59) (c:=46) (x:=x3) (y:=[la]) (by omega) (by simp) f σ H
   have hrw2:(if true=true∧(10:Nat)=10 then [la] else [])=[la]:=rfl
   have hrw3:(if true=true then aD oN (aI ((10:Nat):Int)) else [])=aD oN (aI ((10:Nat):Int)):=rfl
   rw [hrw2,hrw3] at hB
   obtain ⟨x4,hx4⟩:=nm (x3++[la])
   have hx4l:x4.length=17:=by rw [← hx4];simp [hx3l]
   have hx40:x4≠[]:=fun e=>by rw [e] at hx4l;simp at hx4l
   rw [hx4] at hA2 hB
   replace hA2:∀ f σ H,fy (P.md jX) (some 59) 1 1 (.vs 1 (some 46) (bls x3)) (.vs 1 f [[ab la]]) σ H=some (.vs 1 (some 59) (bls x4),σ.map (bV [46,59]),H):=hA2
   have hP3:=fin x4 (by omega) oN (aI ((10:Nat):Int)) (by omega) hx40 v3
   obtain ⟨x5,hx5⟩:=nm (x4++aD oN (aI ((10:Nat):Int)))
   rw [hx5] at hP3 hB
   generalize bls x1=L1 at *
   generalize bls x2=L2 at *
   generalize bls x3=L3 at *
   generalize bls x4=L4 at *
   generalize bls x5=L5 at *
   replace hB:callW P iG [.vs 1 none L5] H=_:=hB
   replace hWd:∀ H,callW P lm [ai 10] H=some (.tup [ai 11,ai 15],H):=hWd
   replace hP3:∀ H,callW P ep [.vs 1 none L4,.c (.int .u64 oN),ai 15] H=some (.tup [.vs 1 (some 0) L5,ai 0],H):=hP3
   replace hT:callW P gl [rwv H.length hb.length,lst z0 1 none (bvs ff),ai 11] (TH H hb 0)=_:=hT
   generalize TH H hb 0=G1 at *
   obtain ⟨G2,hG2⟩:=nm (TH H out k)
   rw [hG2] at hT hfz ⊢
   rw [jz rfl];simp -implicitDefEqProofs [-ac,-AV.one,-ad,vY,hWd,u1,u2,u3,hP1,hdc,hdc',hla,hA1,hP2,hA2,hP3,hB,hT,hfz,aK,aB,aP,aC,aM,SOpG.reads,SOp.slots,SX.slots,SOp.noL,rdV,av,aJ,aE,eqV]
   intro h;rw [bp] at h;omega
  | false =>
   have hrw2:(if false=true∧(10:Nat)=10 then [la] else [])=[]:=rfl
   have hrw3:(if false=true then aD oN (aI ((10:Nat):Int)) else [])=[]:=rfl
   rw [hrw2,hrw3,List.append_nil,List.append_nil] at hB
   generalize bls x1=L1 at *
   generalize bls x2=L2 at *
   generalize bls x3=L3 at *
   replace hB:callW P iG [.vs 1 none L3] H=_:=hB
   replace hWd:∀ H,callW P lm [ai 10] H=some (.tup [ai 11,ai 15],H):=hWd
   replace hT:callW P gl [rwv H.length hb.length,lst z0 1 none (bvs ff),ai 11] (TH H hb 0)=_:=hT
   generalize TH H hb 0=G1 at *
   obtain ⟨G2,hG2⟩:=nm (TH H out k)
   rw [hG2] at hT hfz ⊢
   rw [jz rfl];simp -implicitDefEqProofs [-ac,-AV.one,-ad,vY,hWd,u1,u2,u3,hP1,hdc,hdc',hla,hA1,hP2,hB,hT,hfz,aK,aB,aP,aC,aM,SOpG.reads,SOp.slots,SX.slots,SOp.noL,rdV,av,aJ,aE,eqV]
   intro h;rw [bp] at h;omega
 ·have hA0:=fun f σ H=>CW (m:=P.md jX) (d:=39) (c:=32) (x:=x2) (y:=[la,false]) (by omega) (by simp) f σ H
  have hrw:(if (16:Nat)=16 then [la,false] else [])=[la,false]:=rfl
  have hrw2:(if pa=true∧(16:Nat)=10 then [la] else [])=[]:=by simp
  rw [hrw,hrw2,List.append_nil] at hB
  obtain ⟨y2,hy2⟩:=nm (x2++[la,false])
  have hy2l:y2.length=8:=by rw [← hy2];simp [hx2l]
  have hy20:y2≠[]:=fun e=>by rw [e] at hy2l;simp at hy2l
  rw [hy2] at hA0 hB
  replace hA0:∀ f σ H,fy (P.md jX) (some 39) 1 1 (.vs 1 (some 32) (bls x2)) (.vs 1 f [[ab la],[ab false]]) σ H=some (.vs 1 (some 39) (bls y2),σ.map (bV [32,39]),H):=hA0
  have hP2:=fin y2 (by omega) sN 16 (by omega) hy20 v2
  obtain ⟨x3,hx3⟩:=nm (y2++aD sN 16)
  have hx3l:x3.length=24:=by rw [← hx3];simp [hy2l,aT]
  have hx30:x3≠[]:=fun e=>by rw [e] at hx3l;simp at hx3l
  rw [hx3] at hP2 hB
  replace hP2:∀ H,callW P ep [.vs 1 none (bls y2),.c (.int .u64 sN),ai 16] H=some (.tup [.vs 1 (some 0) (bls x3),ai 0],H):=hP2
  cases pa with
  | true =>
   have hrw3:(if true=true then aD oN (aI ((16:Nat):Int)) else [])=aD oN (aI ((16:Nat):Int)):=rfl
   rw [hrw3] at hB
   have hP3:=fin x3 (by omega) oN (aI ((16:Nat):Int)) (by omega) hx30 v3
   obtain ⟨x5,hx5⟩:=nm (x3++aD oN (aI ((16:Nat):Int)))
   rw [hx5] at hP3 hB
   generalize bls x1=L1 at *
   generalize bls x2=L2 at *
   generalize bls y2=M2 at *
   generalize bls x3=L3 at *
   generalize bls x5=L5 at *
   replace hB:callW P iG [.vs 1 none L5] H=_:=hB
   replace hWd:∀ H,callW P lm [ai 16] H=some (.tup [ai 15,ai 16],H):=hWd
   replace hP3:∀ H,callW P ep [.vs 1 none L3,.c (.int .u64 oN),ai 16] H=some (.tup [.vs 1 (some 0) L5,ai 0],H):=hP3
   replace hT:callW P gl [rwv H.length hb.length,lst z0 1 none (bvs ff),ai 15] (TH H hb 0)=_:=hT
   generalize TH H hb 0=G1 at *
   obtain ⟨G2,hG2⟩:=nm (TH H out k)
   rw [hG2] at hT hfz ⊢
   rw [jz rfl];simp -implicitDefEqProofs [-ac,-AV.one,-ad,vY,hWd,u1,u2,u3,hP1,hdc,hdc',hla,hA1,hA0,hP2,hP3,hB,hT,hfz,aK,aB,aP,aC,aM,SOpG.reads,SOp.slots,SX.slots,SOp.noL,rdV,av,aJ,aE,eqV]
   intro h;rw [bp] at h;omega
  | false =>
   have hrw3:(if false=true then aD oN (aI ((16:Nat):Int)) else [])=[]:=rfl
   rw [hrw3,List.append_nil] at hB
   generalize bls x1=L1 at *
   generalize bls x2=L2 at *
   generalize bls y2=M2 at *
   generalize bls x3=L3 at *
   replace hB:callW P iG [.vs 1 none L3] H=_:=hB
   replace hWd:∀ H,callW P lm [ai 16] H=some (.tup [ai 15,ai 16],H):=hWd
   replace hT:callW P gl [rwv H.length hb.length,lst z0 1 none (bvs ff),ai 15] (TH H hb 0)=_:=hT
   generalize TH H hb 0=G1 at *
   obtain ⟨G2,hG2⟩:=nm (TH H out k)
   rw [hG2] at hT hfz ⊢
   rw [jz rfl];simp -implicitDefEqProofs [-ac,-AV.one,-ad,vY,hWd,u1,u2,u3,hP1,hdc,hdc',hla,hA1,hA0,hP2,hB,hT,hfz,aK,aB,aP,aC,aM,SOpG.reads,SOp.slots,SX.slots,SOp.noL,rdV,av,aJ,aE,eqV]
   intro h;rw [bp] at h;omega
def sz2 (b:Int):Nat:=if b<1∨16<b then 0 else 2 ^ b.toNat
section
variable {H:ae}
def Pu (H:ae) (b:Nat) (z:Nat) (σ:List AV) (G:ae):Prop:=
 ∃ (i n:Nat),i+z=b∧n=2 ^ i∧G=H∧σ=L 19 ((((Tr.full 5).put (ag 0) (ai b)).put (ag 3) (ai n)).put (ag 4) (ai i))
def C3 (H:ae) (m:Nat) (e:AExit) (σ:List AV) (G:ae):Prop:=
 G=H∧e=.exit 0∧kill [0,4,11,12,13] σ=L 19 ((Tr.full 5).put (ag 3) (ai m))
theorem Us {b m:Nat} (hb:b≤16) (hm:m=2 ^ b) (z:Nat) (σ:List AV) (G:ae) (hI:Pu H b z (kill (bu mR) σ) G) :
  Ends (execW P iF (.loop mR) σ G) fun s=>C3 H m s.e s.σ s.H:=by
 refine aX (fun z σ G=>Pu H b z σ G) (C3 H m) ?_ z σ G hI
 clear hI z σ G
 rintro z σ G ⟨i,n,hz,hn,rfl,rfl⟩
 have hp:n≤65536:=by
  rw [hn]
  calc 2 ^ i≤2 ^ 16:=Nat.pow_le_pow_right (by omega) (by omega)
   _=65536:=by decide
 by_cases hi:i<b
 ·have hn2:2 * n=2 ^ (i+1):=by rw [Nat.pow_succ];omega
  clear hn
  simp -implicitDefEqProofs (disch:=first | omega | (simp;done) | fail) [-ac,-AV.one,-ad,qY,CM,mR]
  exact ⟨z - 1,by omega,i+1,2 * n,by omega,hn2,rfl,by simp⟩
 ·have:i=b:=by omega
  subst this
  obtain rfl:n=m:=by rw [hn,hm]
  clear hn hm
  simp -implicitDefEqProofs (disch:=first | omega | (simp;done) | fail) [-ac,-AV.one,-ad,qY,CM,mR]
  exact ⟨rfl,rfl,by simp⟩
theorem fc (b:Int) (H:ae):callW P iF [ai b] H=some (ai (sz2 b:Nat),H):=by
 by_cases hb:b<1∨16<b
 ·rw [sz2,if_pos hb]
  rcases hb with hb | hb
  ·rw [tR rfl];simp -implicitDefEqProofs (disch:=first | omega | (simp;done) | fail) [-ac,-AV.one,-ad,qY,CM]
  ·rw [tR rfl];simp -implicitDefEqProofs (disch:=first | omega | (simp;done) | fail) [-ac,-AV.one,-ad,qY,CM]
 ·rw [sz2,if_neg hb]
  obtain ⟨n,rfl⟩:∃ n:Nat,b=n:=⟨b.toNat,by omega⟩
  obtain ⟨m,hm⟩:=nm (2 ^ (n:Int).toNat)
  rw [hm,cH]
  have hl:=Us (H:=H) (b:=n) (m:=m) (by omega) (by rw [← hm];simp) n
  clear hm
  refine call_post 5 19 rfl (rfl:P.T iF=some F_q56) rfl (aF rfl) (fun e σ G=>e=.ret∧G=H∧aA F_q56.res σ=some (ai m)) ?_ ?_
  ·rintro e σ G ⟨rfl,rfl,h⟩
   exact ⟨rfl,_,h,rfl,by simp⟩
  rw [F_q56];simp -implicitDefEqProofs (disch:=first | omega | (simp;done) | fail) [-ac,-AV.one,-ad,qY,CM]
  repeat rw [Option.bind_assoc]
  refine Ends.block (P:=C3 H m) (hl _ _ ⟨0,1,by omega,rfl,rfl,by simp [mR]⟩) ?_
  rintro e σ1 G1 ⟨rfl,rfl,c⟩
  simp -implicitDefEqProofs (disch:=first | omega | (simp;done) | fail) [-ac,-AV.one,-ad,qY,CM,c]
theorem rIs (b n:Int) (H:ae):callW P gk [ai b,ai n] H=some (ab (decide (0≤n∧n<(sz2 b:Nat))),H):=by
 by_cases h:0≤n
 ·by_cases h2:n<(sz2 b:Nat)
  ·rw [tS rfl];simp -implicitDefEqProofs (disch:=first | omega | (simp;done) | fail) [-ac,-AV.one,-ad,zD,CM,fc]
  ·rw [tS rfl];simp -implicitDefEqProofs (disch:=first | omega | (simp;done) | fail) [-ac,-AV.one,-ad,zD,CM,fc]
 ·rw [tS rfl];simp -implicitDefEqProofs (disch:=first | omega | (simp;done) | fail) [-ac,-AV.one,-ad,zD,CM,fc]
def Pv (H:ae) (n w m:Nat) (z:Nat) (σ:List AV) (G:ae):Prop:=
 ∃ (i:Nat),i+z=m∧G=H∧σ=L 30 ((((Tr.full 5).put (ag 0) (ai n)).put (ag 1) (ai w)).put (ag 5) (ai i))
def yb (H:ae) (m:Nat) (e:AExit) (σ:List AV) (G:ae):Prop:=
 G=H∧e=.exit 0∧kill [0,1,20,21,22,23,24,25,26] σ=L 30 ((Tr.full 5).put (ag 5) (ai m))
theorem Ut {n w m:Nat} (hn:n≤23) (hw:w=11∨w=15) (hm:m=(n * (w+1)+7) / 8) (z:Nat) (σ:List AV) (G:ae) (hI:Pv H n w m z (kill (bu gu) σ) G) :
  Ends (execW P lX (.loop gu) σ G) fun s=>yb H m s.e s.σ s.H:=by
 refine aX (fun z σ G=>Pv H n w m z σ G) (yb H m) ?_ z σ G hI
 clear hI z σ G
 rintro z σ G ⟨i,hz,rfl,rfl⟩
 have hmm:m≤46:=by
  have:n * (w+1)≤23 * 16:=Nat.mul_le_mul hn (by omega)
  omega
 rcases hw with rfl | rfl
 ·by_cases hi:i<m
  ·simp -implicitDefEqProofs (disch:=first | omega | (simp;done) | fail) [-ac,-AV.one,-ad,gw,CM,gu]
   exact ⟨z - 1,by omega,i+1,by omega,rfl,by simp⟩
  ·obtain rfl:i=m:=by omega
   simp -implicitDefEqProofs (disch:=first | omega | (simp;done) | fail) [-ac,-AV.one,-ad,gw,CM,gu]
   exact ⟨rfl,rfl,by simp⟩
 ·by_cases hi:i<m
  ·simp -implicitDefEqProofs (disch:=first | omega | (simp;done) | fail) [-ac,-AV.one,-ad,gw,CM,gu]
   exact ⟨z - 1,by omega,i+1,by omega,rfl,by simp⟩
  ·obtain rfl:i=m:=by omega
   simp -implicitDefEqProofs (disch:=first | omega | (simp;done) | fail) [-ac,-AV.one,-ad,gw,CM,gu]
   exact ⟨rfl,rfl,by simp⟩
theorem Ow (n:Int) {w:Nat} (hw:w=11∨w=15) (H:ae):callW P lX [ai n,ai w] H=some (ai (if n<1 then 0 else aS n.toNat w:Nat),H):=by
 by_cases hn:n<1∨23<n
 ·have e:(if n<1 then 0 else aS n.toNat w:Nat)=0:=by
   split
   ·rfl
   ·rw [aS,if_pos (by omega)]
  rw [e]
  rcases hn with hn | hn<;>rcases hw with rfl | rfl
  ·rw [kP rfl];simp -implicitDefEqProofs (disch:=first | omega | (simp;done) | fail) [-ac,-AV.one,-ad,gw,CM]
  ·rw [kP rfl];simp -implicitDefEqProofs (disch:=first | omega | (simp;done) | fail) [-ac,-AV.one,-ad,gw,CM]
  ·rw [kP rfl];simp -implicitDefEqProofs (disch:=first | omega | (simp;done) | fail) [-ac,-AV.one,-ad,gw,CM]
  ·rw [kP rfl];simp -implicitDefEqProofs (disch:=first | omega | (simp;done) | fail) [-ac,-AV.one,-ad,gw,CM]
 ·obtain ⟨k,rfl⟩:∃ n':Nat,n=n':=⟨n.toNat,by omega⟩
  have e:(if (k:Int)<1 then 0 else aS (k:Int).toNat w:Nat)=(k * (w+1)+7) / 8:=by
   rw [if_neg (by omega),aS,if_neg (by omega)];rfl
  rw [e]
  obtain ⟨m,hm⟩:=nm ((k * (w+1)+7) / 8)
  rw [hm,cH]
  refine call_post 5 30 rfl (rfl:P.T lX=some F_q103) rfl (aF rfl) (fun e σ G=>e=.ret∧G=H∧aA F_q103.res σ=some (ai (m:Nat))) ?_ ?_
  ·rintro e σ G ⟨rfl,rfl,h⟩
   exact ⟨rfl,_,h,rfl,by simp⟩
  have hl:=Ut (H:=H) (n:=k) (w:=w) (m:=m) (by omega) hw hm.symm m
  clear hm
  rcases hw with rfl | rfl
  ·rw [F_q103];simp -implicitDefEqProofs (disch:=first | omega | (simp;done) | fail) [-ac,-AV.one,-ad,gw,CM]
   repeat rw [Option.bind_assoc]
   refine Ends.block (P:=yb H m) (hl _ _ ⟨0,by omega,rfl,by simp [gu]⟩) ?_
   rintro e σ1 G1 ⟨rfl,rfl,c⟩
   simp -implicitDefEqProofs (disch:=first | omega | (simp;done) | fail) [-ac,-AV.one,-ad,gw,CM,c]
  ·rw [F_q103];simp -implicitDefEqProofs (disch:=first | omega | (simp;done) | fail) [-ac,-AV.one,-ad,gw,CM]
   repeat rw [Option.bind_assoc]
   refine Ends.block (P:=yb H m) (hl _ _ ⟨0,by omega,rfl,by simp [gu]⟩) ?_
   rintro e σ1 G1 ⟨rfl,rfl,c⟩
   simp -implicitDefEqProofs (disch:=first | omega | (simp;done) | fail) [-ac,-AV.one,-ad,gw,CM,c]
def Pw (H:ae) (z0:Bool) (ff:List Bs) (n0:Nat) (z:Nat) (σ:List AV) (G:ae):Prop:=
 ∃ (i n:Nat),i+z=ff.length∧n≤4000∧cQ n0 (bb ff)=cQ n ((bb ff).drop i)∧G=H∧σ=L 67 (((((Tr.full 7).put (ag 0) (lst z0 1 none (bvs ff))).put (ag 7) (ai 2047)).put (ag 8) (ai n)).put (ag 9) (ai i))
def yc (H:ae) (ff:List Bs) (n0:Nat) (e:AExit) (σ:List AV) (G:ae):Prop:=
 G=H∧((e=.exit 0∧kill [0,7,9,29,30,31,32] σ=L 67 ((Tr.full 7).put (ag 8) (ai (cQ n0 (bb ff):Nat))))∨(e=.ret∧cQ n0 (bb ff)=0∧aA F_q80.res σ=some (ai 0)))
theorem Ox {ff:List Bs} {i:Nat} {x:Bs} (hx:ff[i]?=some x):(bb ff).drop i=x.2 :: (bb ff).drop (i+1):=by
 have h2:=gH hx
 have hi2:i<(bb ff).length:=(List.getElem?_eq_some_iff.1 h2).1
 rw [List.drop_eq_getElem_cons hi2]
 rw [zq6 hi2] at h2
 rw [zq1 h2]
theorem Uu {z0:Bool} {ff:List Bs} (hl:ff.length≤24) (hs:∀ f∈ff,f.2.length≤100000) (n0:Nat) (z:Nat) (σ:List AV) (G:ae) (hI:Pw H z0 ff n0 z (kill (bu fR) σ) G) :
  Ends (execW P lU (.loop fR) σ G) fun s=>yc H ff n0 s.e s.σ s.H:=by
 refine aX (fun z σ G=>Pw H z0 ff n0 z σ G) (yc H ff n0) ?_ z σ G hI
 clear hI z σ G
 rintro z σ G ⟨i,n,hz,hn4,hsum,rfl,rfl⟩
 have hla:(bvs ff).length=ff.length:=bA ff
 by_cases hi:i<ff.length
 ·obtain ⟨x,hx⟩:∃ x,ff[i]?=some x:=⟨_,zq6 hi⟩
  have hxs:=hs x (List.mem_of_getElem? hx)
  have q1:=gO hx z0 none .i64
  rw [Ox hx,cQ,List.length_drop,br] at hsum
  have hxl:=cz x
  obtain ⟨xl,hxl'⟩:=nm (x.2.length)
  rw [hxl'] at hxl hsum hxs
  by_cases c1:xl=0
  ·rw [if_pos c1] at hsum
   simp -implicitDefEqProofs (disch:=first | omega | (simp;done) | fail) [-ac,-AV.one,-ad,im,CM,fR,hla,q1,hxl]
   exact ⟨rfl,.inr ⟨rfl,hsum,by simp [F_q80]⟩⟩
  rw [if_neg c1] at hsum
  by_cases c2:2047<xl∧i+1<ff.length
  ·rw [if_pos ⟨c2.1,by omega⟩] at hsum
   simp -implicitDefEqProofs (disch:=first | omega | (simp;done) | fail) [-ac,-AV.one,-ad,im,CM,fR,hla,q1,hxl]
   exact ⟨rfl,.inr ⟨rfl,hsum,by simp [F_q80]⟩⟩
  rw [if_neg (by omega)] at hsum
  by_cases c4:4000<n+xl
  ·rw [if_pos (by omega)] at hsum
   by_cases c5:i+1<ff.length
   ·simp -implicitDefEqProofs (disch:=first | omega | (simp;done) | fail) [-ac,-AV.one,-ad,im,CM,fR,hla,q1,hxl]
    exact ⟨rfl,.inr ⟨rfl,hsum,by simp [F_q80]⟩⟩
   ·simp -implicitDefEqProofs (disch:=first | omega | (simp;done) | fail) [-ac,-AV.one,-ad,im,CM,fR,hla,q1,hxl]
    exact ⟨rfl,.inr ⟨rfl,hsum,by simp [F_q80]⟩⟩
  ·rw [if_neg (by omega)] at hsum
   by_cases c5:i+1<ff.length
   ·simp -implicitDefEqProofs (disch:=first | omega | (simp;done) | fail) [-ac,-AV.one,-ad,im,CM,fR,hla,q1,hxl]
    exact ⟨z - 1,by omega,i+1,n+xl,by omega,by omega,hsum,rfl,by simp⟩
   ·simp -implicitDefEqProofs (disch:=first | omega | (simp;done) | fail) [-ac,-AV.one,-ad,im,CM,fR,hla,q1,hxl]
    exact ⟨z - 1,by omega,i+1,n+xl,by omega,by omega,hsum,rfl,by simp⟩
 ·have hnil:(bb ff).drop i=[]:=List.drop_eq_nil_of_le (by rw [br];omega)
  rw [hnil,cQ] at hsum
  rw [← hsum]
  simp -implicitDefEqProofs (disch:=first | omega | (simp;done) | fail) [-ac,-AV.one,-ad,im,CM,fR,hla]
  exact ⟨rfl,.inl ⟨rfl,by simp⟩⟩
theorem Ev {z0:Bool} {ff:List Bs} (hl:ff.length≤100000) (hs:∀ f∈ff,f.2.length≤100000) {hd w:Nat} (hd4:hd≤1000) (hw:w=11∨w=15) (H:ae) :
  callW P lU [lst z0 1 none (bvs ff),ai hd,ai w] H=some (ai (if ff.length<1∨24<ff.length then 0 else cQ (hd+aS (ff.length - 1) w) (bb ff):Nat),H):=by
 have hla:(bvs ff).length=ff.length:=bA ff
 by_cases h1:ff.length<1∨24<ff.length
 ·rw [if_pos h1]
  rcases h1 with h1 | h1
  ·rw [pq rfl];simp -implicitDefEqProofs (disch:=first | omega | (simp;done) | fail) [-ac,-AV.one,-ad,im,CM,hla]
  ·rw [pq rfl];simp -implicitDefEqProofs (disch:=first | omega | (simp;done) | fail) [-ac,-AV.one,-ad,im,CM,hla]
 rw [if_neg h1,cH]
 have hS:=fun H=>Ow ((ff.length:Int) - 1) hw H
 have hls:=t9 hw (n:=ff.length - 1) (by omega)
 obtain ⟨n0,hn0⟩:=nm (hd+aS (ff.length - 1) w)
 rw [hn0]
 obtain ⟨ls,hls'⟩:=nm (aS (ff.length - 1) w)
 have htn:((ff.length:Int) - 1).toNat=ff.length - 1:=by omega
 rw [htn,hls'] at hS
 rw [hls'] at hls hn0
 have hF:=Uu (H:=H) (z0:=z0) (ff:=ff) (by omega) hs n0 ff.length
 refine call_post 7 67 rfl (rfl:P.T lU=some F_q80) rfl (aF rfl) (fun e σ G=>e=.ret∧G=H∧aA F_q80.res σ=some (ai (cQ n0 (bb ff):Nat))) ?_ ?_
 ·rintro e σ G ⟨rfl,rfl,h⟩
  exact ⟨rfl,_,h,rfl,by simp⟩
 by_cases h2:1<ff.length
 ·rw [if_neg (by omega)] at hS
  rw [F_q80];simp -implicitDefEqProofs (disch:=first | omega | (simp;done) | fail) [-ac,-AV.one,-ad,im,CM,hla,hS]
  repeat rw [Option.bind_assoc]
  refine Ends.block (P:=yc H ff n0) (hF _ _ ⟨0,n0,by omega,by omega,by simp,rfl,by simp [fR,← hn0]⟩) ?_
  rintro e σ1 G1 ⟨rfl,⟨rfl,c⟩ | ⟨rfl,c1,c2⟩⟩
  ·generalize cQ n0 (bb ff)=s at *
   simp -implicitDefEqProofs (disch:=first | omega | (simp;done) | fail) [-ac,-AV.one,-ad,im,CM,c]
  ·simp [F_q80] at c2
   rw [c1]
   simp -implicitDefEqProofs (disch:=first | omega | (simp;done) | fail) [-ac,-AV.one,-ad,im,CM,c2]
 ·have hl0:ls=0:=by
   rw [← hls',aS,if_pos (by omega)]
  subst hl0
  rw [F_q80];simp -implicitDefEqProofs (disch:=first | omega | (simp;done) | fail) [-ac,-AV.one,-ad,im,CM,hla]
  repeat rw [Option.bind_assoc]
  refine Ends.block (P:=yc H ff n0) (hF _ _ ⟨0,n0,by omega,by omega,by simp,rfl,by simp [fR,← hn0]⟩) ?_
  rintro e σ1 G1 ⟨rfl,⟨rfl,c⟩ | ⟨rfl,c1,c2⟩⟩
  ·generalize cQ n0 (bb ff)=s at *
   simp -implicitDefEqProofs (disch:=first | omega | (simp;done) | fail) [-ac,-AV.one,-ad,im,CM,c]
  ·simp [F_q80] at c2
   rw [c1]
   simp -implicitDefEqProofs (disch:=first | omega | (simp;done) | fail) [-ac,-AV.one,-ad,im,CM,c2]
end
set_option maxHeartbeats 4000000 in
theorem adk (p:Pk) (hs:∀ f∈p.ff,f.2.length≤100000) (hfl:p.ff.length≤100000) (w:Int) (H:ae) :
  callW P tb [.agg p.v,ai w] H=some (ai (cO p w:Nat),H):=by
 obtain ⟨po,fi,sn,pa,la,off,z0,ff⟩:=p
 simp only at hs hfl
 have hH:=fun H=>Ar false w H
 have hH2:=fun H=>Ar pa w H
 have hW:=fun H=>pI w H
 have hI:=fun H=>rIs w sn H
 by_cases hw:w=10∨w=16
 ·obtain ⟨hd0,hh0⟩:=nm (bN false w)
  have hd1:0<hd0:=by rw [← hh0];rcases hw with rfl | rfl<;>decide
  rw [hh0] at hH
  have e0:¬ (hd0:Int)=0:=by omega
  have e0':¬ hd0=0:=by omega
  have hO:=fun H=>fc (aI w:Nat) H
  have hso:sz2 (aI w:Nat)=2 ^ aI w:=by
   rw [sz2,if_neg (by rcases (show aI w=15∨aI w=16 by simp only [aI];split<;>simp) with h | h<;>omega)]
   congr 1
  have hsw:sz2 w=2 ^ w.toNat:=by rw [sz2,if_neg (by omega)]
  rw [hso] at hO
  rw [hsw] at hI
  unfold cO
  rw [if_neg (not_not_intro hw)]
  simp only
  by_cases c1:fi<0
  ·rw [if_pos c1]
   have c1':(fi:Int)<0:=c1
   rw [dU rfl];simp -implicitDefEqProofs [-ac,-AV.one,-ad,lv,Pk.v,Pk.f,aZ,hW,hH,e0,e0',c1,aK,aB,aP,aC,aM,SOpG.reads,SOp.slots,SX.slots,SOp.noL,rdV,av,aJ,aE,eqV]
   all_goals first | rfl | (simp [bp];done) | (left;rw [bp];omega) | (rw [bp];omega) | skip
  rw [if_neg c1]
  by_cases c2:3<fi
  ·rw [if_pos c2]
   rw [dU rfl];simp -implicitDefEqProofs [-ac,-AV.one,-ad,lv,Pk.v,Pk.f,aZ,hW,hH,e0,e0',c1,c2,aK,aB,aP,aC,aM,SOpG.reads,SOp.slots,SX.slots,SOp.noL,rdV,av,aJ,aE,eqV]
   all_goals first | rfl | (simp [bp];done) | (left;rw [bp];omega) | (rw [bp];omega) | skip
  rw [if_neg c2]
  by_cases c3:0≤sn∧sn<(2 ^ w.toNat:Nat)
  ·rw [decide_eq_true c3] at hI
   rw [if_neg (not_not_intro c3)]
   obtain ⟨top,htop⟩:=nm (2 ^ aI w)
   rw [htop] at hO ⊢
   by_cases c4:off<0
   ·have e:(if pa=false∧la=true then 0 else if pa=false∧off≠0 then 0 else if off<0 then 0 else if (top:Int)≤off then 0 else if ff.length<1 then 0 else if 24<ff.length then 0 else cQ (gD ⟨po,fi,sn,pa,la,off,z0,ff⟩ w.toNat) (bb ff))=0:=by simp only [if_pos c4,ite_self]
    rw [e]
    rw [dU rfl];simp -implicitDefEqProofs [-ac,-AV.one,-ad,lv,Pk.v,Pk.f,aZ,hW,hH,e0,e0',c1,c2,hI,c4,aK,aB,aP,aC,aM,SOpG.reads,SOp.slots,SX.slots,SOp.noL,rdV,av,aJ,aE,eqV]
    all_goals first | rfl | (simp [bp];done) | (left;rw [bp];omega) | (rw [bp];omega) | skip
   by_cases c5:(top:Int)≤off
   ·have e:(if pa=false∧la=true then 0 else if pa=false∧off≠0 then 0 else if off<0 then 0 else if (top:Int)≤off then 0 else if ff.length<1 then 0 else if 24<ff.length then 0 else cQ (gD ⟨po,fi,sn,pa,la,off,z0,ff⟩ w.toNat) (bb ff))=0:=by simp only [if_neg c4,if_pos c5,ite_self]
    rw [e]
    have c5':off ≥ (top:Int):=c5
    rw [dU rfl];simp -implicitDefEqProofs [-ac,-AV.one,-ad,lv,Pk.v,Pk.f,aZ,hW,hH,e0,e0',c1,c2,hI,c4,hO,c5,c5',aK,aB,aP,aC,aM,SOpG.reads,SOp.slots,SX.slots,SOp.noL,rdV,av,aJ,aE,eqV]
    all_goals first | rfl | (simp [bp];done) | (left;rw [bp];omega) | (rw [bp];omega) | skip
   have c5':¬ off ≥ (top:Int):=c5
   by_cases c6:pa=false∧(la=true∨off≠0)
   ·obtain ⟨rfl,c6⟩:=c6
    have e:(if false=false∧la=true then 0 else if false=false∧off≠0 then 0 else if off<0 then 0 else if (top:Int)≤off then 0 else if ff.length<1 then 0 else if 24<ff.length then 0 else cQ (gD ⟨po,fi,sn,false,la,off,z0,ff⟩ w.toNat) (bb ff))=0:=by
     rcases c6 with h | h
     ·rw [if_pos ⟨rfl,h⟩]
     ·split
      ·rfl
      ·rw [if_pos ⟨rfl,h⟩]
    rw [e]
    cases la with
    | true =>
     rw [dU rfl];simp -implicitDefEqProofs [-ac,-AV.one,-ad,lv,Pk.v,Pk.f,aZ,hW,hH,e0,e0',c1,c2,hI,c4,hO,c5,c5',aK,aB,aP,aC,aM,SOpG.reads,SOp.slots,SX.slots,SOp.noL,rdV,av,aJ,aE,eqV]
     all_goals first | rfl | (simp [bp];done) | (left;rw [bp];omega) | (rw [bp];omega) | skip
    | false =>
     have c7:off > 0:=by
      rcases c6 with h | h
      ·simp at h
      ·omega
     have c7':0<off:=c7
     rw [dU rfl];simp -implicitDefEqProofs [-ac,-AV.one,-ad,lv,Pk.v,Pk.f,aZ,hW,hH,e0,e0',c1,c2,hI,c4,hO,c5,c5',c7,c7',aK,aB,aP,aC,aM,SOpG.reads,SOp.slots,SX.slots,SOp.noL,rdV,av,aJ,aE,eqV]
     all_goals first | rfl | (simp [bp];done) | (left;rw [bp];omega) | (rw [bp];omega) | skip
   have hlw:bn w=11∨bn w=15:=by simp only [bn];split<;>simp
   have hF:=fun H=>Ev (z0:=z0) (ff:=ff) hfl hs (hd:=bN pa w) (w:=bn w) (by rcases hw with rfl | rfl<;>cases pa<;>decide) hlw H
   have e:(if pa=false∧la=true then 0 else if pa=false∧off≠0 then 0 else if off<0 then 0 else if (top:Int)≤off then 0 else if ff.length<1 then 0 else if 24<ff.length then 0 else cQ (gD ⟨po,fi,sn,pa,la,off,z0,ff⟩ w.toNat) (bb ff))=if ff.length<1∨24<ff.length then 0 else cQ (bN pa w+aS (ff.length - 1) (bn w)) (bb ff):=by
    rw [if_neg (fun h=>c6 ⟨h.1,.inl h.2⟩),if_neg (fun h=>c6 ⟨h.1,.inr h.2⟩),if_neg c4,if_neg c5]
    have hb:gD ⟨po,fi,sn,pa,la,off,z0,ff⟩ w.toNat=bN pa w+aS (ff.length - 1) (bn w):=by
     rw [gD,show ((w.toNat:Nat):Int)=w by omega]
    rw [hb]
    by_cases a1:ff.length<1
    ·rw [if_pos a1,if_pos (.inl a1)]
    ·rw [if_neg a1]
     by_cases a2:24<ff.length
     ·rw [if_pos a2,if_pos (.inr a2)]
     ·rw [if_neg a2,if_neg (by omega)]
   rw [e]
   obtain ⟨n,hn⟩:=nm ((if ff.length<1∨24<ff.length then 0 else cQ (bN pa w+aS (ff.length - 1) (bn w)) (bb ff)))
   rw [hn] at hF ⊢
   obtain ⟨hd2,hh2⟩:=nm (bN pa w)
   rw [hh2] at hF hH2
   clear hn e htop
   cases pa with
   | true =>
    rw [dU rfl];simp -implicitDefEqProofs [-ac,-AV.one,-ad,lv,Pk.v,Pk.f,aZ,hW,hH,hH2,e0,e0',c1,c2,hI,c4,hO,c5,c5',hF,aK,aB,aP,aC,aM,SOpG.reads,SOp.slots,SX.slots,SOp.noL,rdV,av,aJ,aE,eqV]
    all_goals first | rfl | (simp [bp];done) | (left;rw [bp];omega) | (rw [bp];omega) | skip
   | false =>
    have c8:la=false:=by cases la with
     | true=>exact (c6 ⟨rfl,.inl rfl⟩).elim
     | false=>rfl
    have c9:off=0:=by
     by_cases h:off=0
     ·exact h
     ·exact (c6 ⟨rfl,.inr h⟩).elim
    subst c8 c9
    obtain rfl:hd2=hd0:=by rw [← hh2,← hh0]
    have c10:¬ (top:Int)≤0:=c5
    have c10':¬ top=0:=by omega
    rw [dU rfl];simp -implicitDefEqProofs [-ac,-AV.one,-ad,lv,Pk.v,Pk.f,aZ,hW,hH,hH2,e0,e0',c1,c2,hI,hO,c5',c10,c10',hF,aK,aB,aP,aC,aM,SOpG.reads,SOp.slots,SX.slots,SOp.noL,rdV,av,aJ,aE,eqV]
    all_goals first | rfl | (simp [bp];done) | (left;rw [bp];omega) | (rw [bp];omega) | skip
  ·rw [decide_eq_false c3] at hI
   rw [if_pos c3]
   rw [dU rfl];simp -implicitDefEqProofs [-ac,-AV.one,-ad,lv,Pk.v,Pk.f,aZ,hW,hH,e0,e0',c1,c2,hI,aK,aB,aP,aC,aM,SOpG.reads,SOp.slots,SX.slots,SOp.noL,rdV,av,aJ,aE,eqV]
   all_goals first | rfl | (simp [bp];done) | (left;rw [bp];omega) | (rw [bp];omega) | skip
 ·have hz:bN false w=0:=by rw [bN,if_neg hw]
  rw [hz] at hH
  replace hH:∀ H,callW P oU [ab false,ai w] H=some (ai 0,H):=hH
  have e:cO ⟨po,fi,sn,pa,la,off,z0,ff⟩ w=0:=by rw [cO,if_pos hw]
  rw [e]
  rw [dU rfl];simp -implicitDefEqProofs [-ac,-AV.one,-ad,lv,Pk.v,Pk.f,aZ,hW,hH,aK,aB,aP,aC,aM,SOpG.reads,SOp.slots,SX.slots,SOp.noL,rdV,av,aJ,aE,eqV]
  all_goals first | rfl | (simp [bp];done) | (left;rw [bp];omega) | (rw [bp];omega) | skip
end Go.A.V.S
