/- THE VALUE MACHINE: rules, and words for running code by simp. -/
import Derived.Test.YtnmobjhmohcjfaaGreatV11
import Derived.Test.YtnmobjhmohcjfaaGreatAX
set_option linter.unusedSimpArgs false
set_option linter.unusedVariables false
set_option linter.unnecessarySimpa false
namespace Go.A.V
open Go Go.A
section
variable {p:VP} {f:FuncId}
theorem dp:∀ (s:SCode) (σ:List AV) (H:ae),execW p f s (kill (bK s) σ) H=execW p f s σ H
 | .region ks ops,σ,H=>by rw [execW_region,execW_region,bK,vI]
 | .drawn ks ops,σ,H=>by rw [execW_drawn,execW_drawn,bK,vI]
 | .seq a b,σ,H=>by rw [execW_seq,execW_seq,bK,dp a]
 | .block id b,σ,H=>by rw [execW_block,execW_block,bK,dp b]
 | .loop b,σ,H=>by rw [execW_loop p f (kill _ σ),execW_loop p f σ,bK,dp b]
 | .scope b l r,σ,H=>by rw [execW_scope,execW_scope,bK,dp b]
 | .skip,_,_=>rfl
 | .cond _ _ _,_,_=>rfl
 | .label _,_,_=>rfl
 | .goto _,_,_=>rfl
 | .exit _,_,_=>rfl
 | .ret,_,_=>rfl
theorem bq {b:SCode} (I:Nat→List AV→ae→Prop) (Q:AExit→List AV→ae→Prop)
  (step:∀ n σ H,I n σ H→Ends (execW p f b σ H) fun s=>match s.e with
   | .normal=>∃ m,m<n∧I m (kill (bK b) s.σ) s.H
   | e=>Q e s.σ s.H) :
  ∀ (n:Nat) (σ:List AV) (H:ae),I n (kill (bK b) σ) H→Ends (execW p f (.loop b) σ H) fun s=>Q s.e s.σ s.H:=by
 intro n
 induction n using Nat.strongRecOn with
 | _ n ih =>
  intro σ H h
  rw [execW_loop,← dp b]
  refine (step n _ H h).bind fun s hs=>?_
  obtain ⟨e,σ',H'⟩:=s
  cases e with
  | normal =>
   obtain ⟨m,hm,hI⟩:=hs
   exact ih m hm σ' H' hI
  | exit id=>exact Ends.some.2 hs
  | goto l=>exact Ends.some.2 hs
  | ret=>exact Ends.some.2 hs
theorem nZ {r:SCode} {l:Nat} {s:St} (h:s.e≠.goto l):jumpW p f r l s=some s:=by
 rw [jumpW_eq,if_neg h]
theorem FR {r:SCode} {l:Nat} (I:Nat→List AV→ae→Prop) (Q:AExit→List AV→ae→Prop)
  (step:∀ n σ H,I n σ H→Ends (execW p f r σ H) fun s=>if s.e=.goto l then ∃ m,m<n∧I m (kill (bK r) s.σ) s.H else Q s.e s.σ s.H) :
  ∀ (n:Nat) (σ:List AV) (H:ae),I n (kill (bK r) σ) H→Ends (jumpW p f r l ⟨.goto l,σ,H⟩) fun s=>s.e≠.goto l∧Q s.e s.σ s.H:=by
 intro n
 induction n using Nat.strongRecOn with
 | _ n ih =>
  intro σ H h
  rw [jumpW_eq]
  simp only [if_true]
  rw [← dp r]
  refine (step n _ H h).bind fun s hs=>?_
  obtain ⟨e,σ',H'⟩:=s
  by_cases he:e=.goto l
  ·subst he
   simp only [if_true] at hs
   obtain ⟨m,hm,hI⟩:=hs
   exact ih m hm σ' H' hI
  ·simp only [he,if_false] at hs
   rw [nZ (by exact he)]
   exact Ends.some.2 ⟨he,hs⟩
theorem Bw {tail:SCode} {l:Nat} (I:Nat→List AV→ae→Prop) (Q:AExit→List AV→ae→Prop)
  (step:∀ n σ H,I n (kill (bK tail) σ) H→Ends (execW p f tail σ H) fun s=>if s.e=.goto l then ∃ m,m<n∧I m (kill (bK tail) s.σ) s.H else Q s.e s.σ s.H) :
  ∀ (n:Nat) (σ:List AV) (H:ae),I n (kill (bK tail) σ) H→Ends ((execW p f tail σ H).bind (jumpW p f (.seq .skip tail) l)) fun s=>s.e≠.goto l∧Q s.e s.σ s.H:=by
 intro n σ H hI
 refine (step n σ H hI).bind fun s hs=>?_
 obtain ⟨e,σ1,G1⟩:=s
 by_cases he:e=.goto l
 ·subst he
  simp only [if_true] at hs
  obtain ⟨m,hm,hI1⟩:=hs
  exact FR (r:=.seq .skip tail) (l:=l) (fun z σ G=>I z (kill (bK tail) σ) G) Q (fun z σ G hI=>by
   have hr:execW p f (.seq .skip tail) σ G=execW p f tail σ G:=by
    rw [execW_seq,execW_skip]
    rfl
   rw [hr]
   exact step z σ G hI) m σ1 G1 hI1
 ·simp only [he,if_false] at hs
  rw [nZ (by exact he)]
  exact Ends.some.2 ⟨he,hs⟩
theorem vK {s:bp} {args:List AV} {H:ae} {Q:AV × ae→Prop} (hx:p.X f args H=none) (ht:p.T f=some s)
  (h:Ends (execW p f s.body (eK s.nslots args) H) fun st=>st.e.ends=true∧Ends (aN s.res st.σ) fun v=>v.free=true∧Ends (kJ (p.K f) (p.C f) H.length v st.H) Q):Ends (callW p f args H) Q:=by
 rw [callW_eq,hx]
 simp only [ht,Option.bind_some]
 refine h.bind fun st ⟨h1,h2⟩=>?_
 rw [if_pos h1]
 refine h2.bind fun v ⟨h3,h4⟩=>?_
 rw [if_pos h3]
 exact h4
theorem cT {α:Type} {o:Option α} {x:α}:o=some x ↔ Ends o (fun y=>y=x):=
 ⟨fun h=>⟨x,h,rfl⟩,fun ⟨y,h,e⟩=>by rw [h,e]⟩
end
def lst (z:Bool) (k:Nat) (f:Option Nat) (l:List (List AV)):AV:=if z=true∧l=[] then bz else .vs k f l
theorem lst_nil (k:Nat) (f:Option Nat):lst true k f []=bz:=rfl
theorem jb {z:Bool} {k:Nat} {f:Option Nat} {l:List (List AV)} (h:l≠[]):lst z k f l=.vs k f l:=by simp [lst,h]
theorem Vk (k:Nat) (f:Option Nat) (l:List (List AV)):lst false k f l=.vs k f l:=rfl
theorem bU (z:Bool) (k:Nat) (f:Option Nat) (l:List (List AV)):(z=true∧l=[]∧lst z k f l=bz)∨(lst z k f l=.vs k f l∧¬ (z=true∧l=[])):=by
 unfold lst
 split
 ·rename_i h;exact .inl ⟨h.1,h.2,rfl⟩
 ·rename_i h;exact .inr ⟨rfl,h⟩
section
variable (z:Bool) (k:Nat) (f:Option Nat) (l:List (List AV))
theorem DU:(lst z k f l).isBox=false:=by rcases bU z k f l with ⟨_,_,e⟩ | ⟨e,_⟩<;>rw [e]<;>rfl
theorem zw:(lst z k f l).free=true:=by rcases bU z k f l with ⟨_,_,e⟩ | ⟨e,_⟩<;>rw [e]<;>rfl
theorem DV:(lst z k f l).one=true:=by rcases bU z k f l with ⟨_,_,e⟩ | ⟨e,_⟩<;>rw [e]<;>rfl
theorem vL:ac (lst z k f l)=[lst z k f l]:=by rcases bU z k f l with ⟨_,_,e⟩ | ⟨e,_⟩<;>rw [e]<;>rfl
theorem II (n:Nat):ev1 n (lst z k f l)=lst z k f l:=by rcases bU z k f l with ⟨_,_,e⟩ | ⟨e,_⟩<;>rw [e]<;>rfl
theorem s9 (n:Nat):ad n (lst z k f l)=lst z k f l:=by rcases bU z k f l with ⟨_,_,e⟩ | ⟨e,_⟩<;>rw [e]<;>rfl
theorem DW:pln (lst z k f l)=lst z k none l:=by unfold lst;split<;>rfl
def unc (cs:List Nat):Option Nat→Option Nat
 | some c=>if cs.contains c then none else some c
 | none=>none
theorem zy (cs:List Nat):cr cs (lst z k f l)=lst z k (unc cs f) l:=by
 unfold lst
 split
 ·rfl
 ·simp only [cr,unc]
  cases f<;>rfl
theorem Nb (cs:List Nat):cr cs (.vs k f l)=.vs k (unc cs f) l:=by
 simp only [cr,unc]
 cases f<;>rfl
end
theorem RE (cs:List Nat) (v:Value):cr cs (.c v)=.c v:=rfl
theorem tb (cs:List Nat):cr cs .undef=.undef:=rfl
theorem IJ (cs:List Nat) (r i g:Nat):cr cs (.ptr r i g)=.ptr r i g:=rfl
theorem Nc (cs:List Nat) (r o l c s g:Nat) (e:Bool):cr cs (.sl r o l c s g e)=.sl r o l c s g e:=rfl
theorem Nd (cs:List Nat) (l:List AV) (i:Nat):cr cs (.vp l i)=.vp l i:=rfl
theorem FS (cs:List Nat) (d i:Nat):cr cs (.lptr d i)=.lptr d i:=rfl
theorem Nf (cs:List Nat) (f:FuncId) (l:List AV):cr cs (.fn f l)=.fn f l:=rfl
theorem Bx (cs:List Nat) (t:TypeId) (x:AV):cr cs (.iface t x)=.iface t x:=rfl
theorem IK (cs:List Nat) (l:List AV):cr cs (.agg l)=.agg (fV cs l):=by simp only [cr]
theorem FT (cs:List Nat) (l:List AV):cr cs (.lbox l)=.lbox (fV cs l):=by simp only [cr]
theorem FU (cs:List Nat):fV cs []=[]:=by simp only [fV]
theorem By (cs:List Nat) (x:AV) (r:List AV):fV cs (x :: r)=cr cs x :: fV cs r:=by simp only [fV]
theorem Vl (v:Value):pln (.c v)=.c v:=rfl
theorem FV:pln .undef=.undef:=rfl
theorem Ng (r i g:Nat):pln (.ptr r i g)=.ptr r i g:=rfl
theorem RF (r o l c s g:Nat) (e:Bool):pln (.sl r o l c s g e)=.sl r o l c s g e:=rfl
theorem RG (l:List AV) (i:Nat):pln (.vp l i)=.vp l i:=rfl
theorem IL (d i:Nat):pln (.lptr d i)=.lptr d i:=rfl
theorem RH (f:FuncId) (l:List AV):pln (.fn f l)=.fn f l:=rfl
theorem FW (t:TypeId) (x:AV):pln (.iface t x)=.iface t x:=rfl
theorem RI (k:Nat) (f:Option Nat) (l:List (List AV)):pln (.vs k f l)=.vs k none l:=rfl
theorem Nh (l:List AV):pln (.agg l)=.agg (eb l):=by simp only [pln]
theorem Ni (l:List AV):pln (.tup l)=.tup (eb l):=by simp only [pln]
theorem IM:eb []=[]:=by simp only [eb]
theorem FX (x:AV) (r:List AV):eb (x :: r)=pln x :: eb r:=by simp only [eb]
attribute [simp] lst_nil Vk DU zw DV vL II s9 DW zy Nb unc RE tb IJ Nc Nd FS Nf Bx IK FT FU By Vl FV Ng RF RG IL RH FW RI Nh Ni IM FX
theorem RJ (n:Nat) (t:Tr) (cs:List Nat):(L n t).map (cr cs)=L n (t.map (cr cs)):=by
 apply List.ext_getElem?
 intro j
 rw [List.getElem?_map,oX,oX,rT _ rfl]
 split<;>simp
theorem vM (cs:List Nat):∀ k,(Tr.full k).map (cr cs)=Tr.full k
 | 0=>rfl
 | k+1=>by simp only [Tr.full,Tr.map,vM cs k,tb]
attribute [simp] RJ vM
theorem IN (k:Nat) (f:Option Nat) (l:List (List AV)):AV.isBox (.vs k f l)=false:=rfl
theorem IP (l:List AV) (i:Nat):AV.isBox (.vp l i)=false:=rfl
theorem RK (n k:Nat) (f:Option Nat) (l:List (List AV)):ev1 n (.vs k f l)=.vs k f l:=rfl
theorem RL (n:Nat) (l:List AV) (i:Nat):ev1 n (.vp l i)=.vp l i:=rfl
theorem FY (n k:Nat) (f:Option Nat) (l:List (List AV)):ad n (.vs k f l)=.vs k f l:=rfl
theorem FZ (n:Nat) (l:List AV) (i:Nat):ad n (.vp l i)=.vp l i:=rfl
attribute [simp] IN IP RK RL FY FZ
def xF:AV→Option Nat
 | .c (.slice none 0 0)=>some 0
 | .sl _ _ len _ _ _ _=>some len
 | .vs _ _ l=>some l.length
 | _=>none
theorem RM:xF bz=some 0:=rfl
theorem Nj (r o l c s g:Nat) (e:Bool):xF (.sl r o l c s g e)=some l:=rfl
theorem Nk (k:Nat) (f:Option Nat) (l:List (List AV)):xF (.vs k f l)=some l.length:=rfl
theorem zz (z:Bool) (k:Nat) (f:Option Nat) (l:List (List AV)):xF (lst z k f l)=some l.length:=by
 rcases bU z k f l with ⟨_,rfl,e⟩ | ⟨e,_⟩<;>rw [e]<;>rfl
def td (σ:List AV) (H:ae) (k:Option Nat):AV→Option AV
 | .vp cs i=>bA k cs i
 | a=>cN σ H k a
theorem IQ (σ:List AV) (H:ae) (k:Option Nat) (cs:List AV) (i:Nat):td σ H k (.vp cs i)=bA k cs i:=rfl
theorem F0 (σ:List AV) (H:ae) (k:Option Nat) (r i g:Nat):td σ H k (.ptr r i g)=cN σ H k (.ptr r i g):=rfl
theorem Bz (σ:List AV) (H:ae) (k:Option Nat) (d i:Nat):td σ H k (.lptr d i)=cN σ H k (.lptr d i):=rfl
def xG (m:Md) (σ:List AV) (H:ae) (k:Option Nat) (a v:AV):Option (List AV × ae):=match a with
 | .ptr r i g=>if m.wr=true then bM σ H k (.ptr r i g) (pln v) else none
 | .lptr s i=>bM σ H k (.lptr s i) v
 | _=>none
theorem BA (m:Md) (σ:List AV) (H:ae) (k:Option Nat) (r i g:Nat) (v:AV):xG m σ H k (.ptr r i g) v=if m.wr=true then bM σ H k (.ptr r i g) (pln v) else none:=rfl
theorem zA (m:Md) (σ:List AV) (H:ae) (k:Option Nat) (d i:Nat) (v:AV):xG m σ H k (.lptr d i) v=bM σ H k (.lptr d i) v:=rfl
def F1:AV→Option AV
 | .ptr r i g=>some (.ptr r i g)
 | .lptr d i=>some (.lptr d i)
 | .fn f cs=>some (.fn f cs)
 | .iface t v=>some (.iface t v)
 | .vp cs i=>some (.vp cs i)
 | _=>none
def tf (off:Nat):AV→Option AV
 | .ptr r i g=>some (.ptr r (i+off) g)
 | .lptr d i=>some (.lptr d (i+off))
 | .vp cs i=>some (.vp cs (i+off))
 | _=>none
def cu (sz:Nat) (arr:Option Nat) (x i:AV):Option AV:=match x,i,arr with
  | .vs k _ l,.c (.int _ j),none=>if k=sz∧0≤j∧j<l.length then some (.vp (l.getD j.toNat []) 0) else none
  | .sl r off len _ _ g _,.c (.int _ j),none=>if 0≤j∧j<len then some (.ptr r (off+j.toNat * sz) g) else none
  | .ptr r o g,.c (.int _ j),some n=>if 0≤j∧j<n then some (.ptr r (o+j.toNat * sz) g) else none
  | .lptr d o,.c (.int _ j),some n=>if 0≤j∧j<n then some (.lptr d (o+j.toNat * sz)) else none
  | .vp cs o,.c (.int _ j),some n=>if 0≤j∧j<n then some (.vp cs (o+j.toNat * sz)) else none
  | _,_,_=>none
theorem F2 (sz r off len cap z g:Nat) (e:Bool) (k:IntKind) (j:Int):cu sz none (.sl r off len cap z g e) (.c (.int k j))=if 0≤j∧j<len then some (.ptr r (off+j.toNat * sz) g) else none:=rfl
theorem BB (sz n r o g:Nat) (k:IntKind) (j:Int):cu sz (some n) (.ptr r o g) (.c (.int k j))=if 0≤j∧j<n then some (.ptr r (o+j.toNat * sz) g) else none:=rfl
theorem zB (sz n d o:Nat) (k:IntKind) (j:Int):cu sz (some n) (.lptr d o) (.c (.int k j))=if 0≤j∧j<n then some (.lptr d (o+j.toNat * sz)) else none:=rfl
theorem F3 (sz n o:Nat) (cs:List AV) (k:IntKind) (j:Int):cu sz (some n) (.vp cs o) (.c (.int k j))=if 0≤j∧j<n then some (.vp cs (o+j.toNat * sz)) else none:=rfl
theorem gW (z:Bool) (k:Nat) (f:Option Nat) {l:List (List AV)} {i:Nat} {cs:List AV} (h:l[i]?=some cs) (kk:IntKind):cu k none (lst z k f l) (.c (.int kk i))=some (.vp cs 0):=by
 have hi:=(List.getElem?_eq_some_iff.1 h).1
 rw [jb (fun e=>by subst e;simp at hi)]
 simp only [cu]
 rw [if_pos ⟨trivial,by omega,by omega⟩,List.getD_eq_getElem?_getD,Int.toNat_natCast,h]
 rfl
def uT (op:BinOp) (ek:EqK) (x y:AV):Option AV:=match op,ek with
  | .eql,.slice=>if nq x=true∧gu y=true∨gu x=true∧nq y=true then some (.c (.bool false)) else cq .eql .slice x y
  | .neq,.slice=>if nq x=true∧gu y=true∨gu x=true∧nq y=true then some (.c (.bool true)) else cq .neq .slice x y
  | op,ek=>cq op ek x y
theorem Nl (op:BinOp) (ek:EqK) (x y:Value):uT op ek (.c x) (.c y)=cq op ek (.c x) (.c y):=by
 unfold uT
 split
 ·rw [if_neg (by simp [nq])]
 ·rw [if_neg (by simp [nq])]
 ·rfl
theorem IR (op:BinOp) (ks:List BK) (x y:AV):uT op (.agg ks) x y=cq op (.agg ks) x y:=by cases op<;>rfl
theorem IS (op:BinOp) (x y:AV):uT op .ptr x y=cq op .ptr x y:=by cases op<;>rfl
theorem IT (k:Nat) (f:Option Nat) (l:List (List AV)):uT .eql .slice (.vs k f l) bz=some (ab false):=rfl
theorem F4 (k:Nat) (f:Option Nat) (l:List (List AV)):uT .neq .slice (.vs k f l) bz=some (ab true):=rfl
theorem F5 (r i g:Nat):cq .eql .ptr (.ptr r i g) (.c (.pointer none))=some (ab false):=rfl
theorem BC (r i g:Nat):cq .neq .ptr (.ptr r i g) (.c (.pointer none))=some (ab true):=rfl
theorem Nm:cq .eql .ptr (.c (.pointer none)) (.c (.pointer none))=some (ab true):=rfl
theorem IU:cq .neq .ptr (.c (.pointer none)) (.c (.pointer none))=some (ab false):=rfl
def BD (H:ae):AV→Option AV
 | .c (.slice none 0 0)=>some (.c (.string ⟨#[]⟩))
 | .vs k _ l=>if k=1 then (cR l.flatten).map fun l=>.c (.string ⟨l.toArray⟩) else none
 | .sl r off len _ _ g _=>((cp H r off len g).bind cR).map fun l=>.c (.string ⟨l.toArray⟩)
 | _=>none
def iN (sz:Nat) (d:Option Nat) (x:AV) (lo hi mx:Option AV):Option AV:=match x with
  | .vs k _ l=>if k=sz then (bO l.length l.length lo hi mx).map fun (a,h,c)=>.vs k (if mx.isSome=true∧h=c then d else none) ((l.take h).drop a) else none
  | x=>kA (.slice sz) x lo hi mx
def tg (z:Bool) (k:Nat) (f:Option Nat) (l:List (List AV)) (i j:Nat):AV:=lst (z && l.isEmpty) k f ((l.take j).drop i)
theorem eN (k:IntKind) {i y:Nat} (h:i≤y):cV (.c (.int k i)) y=some i:=by simp [cV];omega
theorem pc (z:Bool) (k:Nat) (f d:Option Nat) (l:List (List AV)) {lo hi:Option AV} {i j:Nat} (h1:lo=none∧i=0∨∃ kk,lo=some (.c (.int kk i))) (h2:hi=none∧j=l.length∨∃ kk,hi=some (.c (.int kk j))) (hij:i≤j) (hj:j≤l.length) :
  iN k d (lst z k f l) lo hi none=some (tg z k none l i j):=by
 have hb:bO l.length l.length lo hi none=some (i,j,l.length):=by
  unfold bO
  rw [if_pos (Nat.le_refl _)]
  simp only [lA,Option.bind_some]
  have e2:jR l.length l.length hi none=some j:=by
   rcases h2 with ⟨rfl,rfl⟩ | ⟨kk,rfl⟩
   ·rfl
   ·exact eN kk hj
  have e1:oq j lo=some i:=by
   rcases h1 with ⟨rfl,rfl⟩ | ⟨kk,rfl⟩
   ·rfl
   ·exact eN kk hij
  rw [e2,Option.bind_some,e1]
  rfl
 rcases bU z k f l with ⟨rfl,rfl,e⟩ | ⟨e,h⟩
 ·rw [e]
  have hb':bO 0 0 lo hi none=some (i,j,0):=hb
  simp [iN,kA,hb',tg]
 ·rw [e]
  simp only [iN,if_true,hb,Option.map_some,tg]
  rw [show (z && l.isEmpty)=false by cases z<;>cases l<;>simp_all]
  simp
theorem RN (z:Bool) (k:Nat) (f d:Option Nat) (l:List (List AV)) {lo:Option AV} {i j:Nat} (h1:lo=none∧i=0∨∃ kk,lo=some (.c (.int kk i))) (kk1 kk2:IntKind) (hij:i≤j) (hj:j≤l.length) :
  iN k d (lst z k f l) lo (some (.c (.int kk1 j))) (some (.c (.int kk2 j)))=some (tg z k d l i j):=by
 have hb:bO l.length l.length lo (some (.c (.int kk1 j))) (some (.c (.int kk2 j)))=some (i,j,j):=by
  unfold bO
  rw [if_pos (Nat.le_refl _)]
  simp only [lA,eN kk2 hj,Option.bind_some,jR,eN kk1 (Nat.le_refl j)]
  have e1:oq j lo=some i:=by
   rcases h1 with ⟨rfl,rfl⟩ | ⟨kk,rfl⟩
   ·rfl
   ·exact eN kk hij
  rw [e1]
  rfl
 rcases bU z k f l with ⟨rfl,rfl,e⟩ | ⟨e,h⟩
 ·rw [e]
  have hb':bO 0 0 lo (some (.c (.int kk1 j))) (some (.c (.int kk2 j)))=some (i,j,j):=hb
  simp [iN,kA,hb',tg]
 ·rw [e]
  simp only [iN,if_true,hb,Option.map_some,tg]
  rw [show (z && l.isEmpty)=false by cases z<;>cases l<;>simp_all]
  simp
theorem Nn (H:ae) (sz:Nat):em H sz bz=some []:=rfl
theorem dh (H:ae) (k:Nat) (f:Option Nat) (l:List (List AV)):em H k (.vs k f l)=some l:=by simp [em]
theorem elems_lst (H:ae) (z:Bool) (k:Nat) (f:Option Nat) (l:List (List AV)):em H k (lst z k f l)=some l:=by
 rcases bU z k f l with ⟨rfl,rfl,e⟩ | ⟨e,h⟩
 ·rw [e];rfl
 ·rw [e,dh]
mutual
theorem th {cs cs':List Nat} (h:∀ c,cs.contains c=cs'.contains c):∀ v:AV,cr cs v=cr cs' v
 | .vs k f l=>by cases f<;>simp only [cr,h]
 | .agg xs=>by simp only [cr,jD h xs]
 | .tup xs=>by simp only [cr,jD h xs]
 | .lbox xs=>by simp only [cr,jD h xs]
 | .undef=>rfl
 | .c _=>rfl
 | .ptr ..=>rfl
 | .sl ..=>rfl
 | .vp ..=>rfl
 | .lptr ..=>rfl
 | .fn ..=>rfl
 | .iface ..=>rfl
 | .map _=>rfl
theorem jD {cs cs':List Nat} (h:∀ c,cs.contains c=cs'.contains c):∀ l:List AV,fV cs l=fV cs' l
 | []=>rfl
 | x :: r=>by simp only [fV,th h x,jD h r]
end
def fK (m:Md) (d:Option Nat) (sz bytes:Nat) (s x:AV) (σ:List AV) (H:ae):Option (AV × List AV × ae):=match d,s with
  | some d',.c (.slice none 0 0)=>if m.row (some d')=true then (em H sz x).bind fun l'=>if l'=[] then some (.c (.slice none 0 0),σ,H) else
     if l'.length * bytes≤aJ∧l'.length≤aJ then some (.sl H.length 0 l'.length l'.length sz (l'.length * sz) false,σ,H++[.grow l'.flatten 0]) else none
    else oO d' sz bytes (.c (.slice none 0 0)) x σ H
  | some d',.vs k f l=>oO d' sz bytes (.vs k f l) x σ H
  | _,.sl r off len cap sz' g ex=>if m.wr=true then (em H sz x).bind fun l'=>if l'=[] then (if len≤cap then some (.sl r off len cap sz' g ex,σ,H) else none) else
     if off=0∧cap=len∧(cap≠0∧ex=false)∧sz'=sz∧g=len * sz∧(len+l'.length) * bytes≤aJ∧len+l'.length≤aJ then (match H[r]? with
      | some o=>if o.isW=true∧o.cells.length=g then some (.sl r 0 (len+l'.length) (len+l'.length) sz (g+l'.length * sz) false,σ,H.set r (.grow (o.cells++l'.flatten) o.lo)) else none
      | none=>none)
     else if len+l'.length≤cap then (dT H r (off+len * sz) g l'.flatten).map fun H'=>(.sl r off (len+l'.length) cap sz' g ex,σ,H') else none
    else none
  | _,_=>none
theorem kg {m:Md} {d sz bytes:Nat} {l l':List (List AV)} {x:AV} (hm:m.row (some d)=false) (hx:∀ H,em H sz x=some l') (h1:(l.length+l'.length) * bytes≤aJ) (h2:l.length+l'.length≤aJ) (σ:List AV) (H:ae) :
  fK m (some d) sz bytes (lst true sz (some d) l) x σ H=some (lst true sz (some d) (l++l'),σ.map (cr [d]),H):=by
 have huu:∀ v:AV,cr [d,d] v=cr [d] v:=fun v=>by
  have hc:∀ c:Nat,[d,d].contains c=[d].contains c:=fun c=>by simp
  exact th hc v
 rcases bU true sz (some d) l with ⟨_,rfl,e⟩ | ⟨e,h⟩
 ·rw [e]
  simp only [fK,hm,Bool.false_eq_true,if_false,oO,hx,Option.bind_some,List.nil_append]
  cases l' with
  | nil=>simp
  | cons c r =>
   rw [if_neg (by simp),if_pos ⟨by simpa using h1,by simpa using h2⟩,jb (by simp)]
 ·rw [e]
  simp only [fK,oO,hx,Option.bind_some]
  rw [if_pos ⟨trivial,h1,h2⟩,jb (by intro e2;simp at e2;exact h ⟨rfl,e2.1⟩)]
  congr 3
  exact List.map_congr_left fun v _=>huu v
end Go.A.V
