/- THE VALUE MACHINE: rules, and words for running code by simp. -/
import Derived.Test.YtnmobjhmohcjfaaGreatV11
import Derived.Test.YtnmobjhmohcjfaaGreatAX
set_option linter.unusedSimpArgs false
set_option linter.unusedVariables false
set_option linter.unnecessarySimpa false
namespace Go.A.V
open Go Go.A
section
variable {p:VP} {f:FuncId}
theorem cZ:∀ (s:SCode) (σ:List AV) (H:ae),execW p f s (kill (bu s) σ) H=execW p f s σ H
 | .region ks ops,σ,H=>by rw [execW_region,execW_region,bu,vu]
 | .drawn ks ops,σ,H=>by rw [execW_drawn,execW_drawn,bu,vu]
 | .seq a b,σ,H=>by rw [execW_seq,execW_seq,bu,cZ a]
 | .block id b,σ,H=>by rw [execW_block,execW_block,bu,cZ b]
 | .loop b,σ,H=>by rw [execW_loop p f (kill _ σ),execW_loop p f σ,bu,cZ b]
 | .scope b l r,σ,H=>by rw [execW_scope,execW_scope,bu,cZ b]
 | .skip,_,_=>rfl
 | .cond _ _ _,_,_=>rfl
 | .label _,_,_=>rfl
 | .goto _,_,_=>rfl
 | .exit _,_,_=>rfl
 | .ret,_,_=>rfl
theorem aX {b:SCode} (I:Nat→List AV→ae→Prop) (Q:AExit→List AV→ae→Prop)
  (step:∀ n σ H,I n σ H→Ends (execW p f b σ H) fun s=>match s.e with
   | .normal=>∃ m,m<n∧I m (kill (bu b) s.σ) s.H
   | e=>Q e s.σ s.H) :
  ∀ (n:Nat) (σ:List AV) (H:ae),I n (kill (bu b) σ) H→Ends (execW p f (.loop b) σ H) fun s=>Q s.e s.σ s.H:=by
 intro n
 induction n using Nat.strongRecOn with
 | _ n ih =>
  intro σ H h
  rw [execW_loop,← cZ b]
  refine (step n _ H h).bind fun s hs=>?_
  obtain ⟨e,σ',H'⟩:=s
  cases e with
  | normal =>
   obtain ⟨m,hm,hI⟩:=hs
   exact ih m hm σ' H' hI
  | exit id=>exact Ends.some.2 hs
  | goto l=>exact Ends.some.2 hs
  | ret=>exact Ends.some.2 hs
theorem nO {r:SCode} {l:Nat} {s:St} (h:s.e≠.goto l):jumpW p f r l s=some s:=by
 rw [jumpW_eq,if_neg h]
theorem FG {r:SCode} {l:Nat} (I:Nat→List AV→ae→Prop) (Q:AExit→List AV→ae→Prop)
  (step:∀ n σ H,I n σ H→Ends (execW p f r σ H) fun s=>if s.e=.goto l then ∃ m,m<n∧I m (kill (bu r) s.σ) s.H else Q s.e s.σ s.H) :
  ∀ (n:Nat) (σ:List AV) (H:ae),I n (kill (bu r) σ) H→Ends (jumpW p f r l ⟨.goto l,σ,H⟩) fun s=>s.e≠.goto l∧Q s.e s.σ s.H:=by
 intro n
 induction n using Nat.strongRecOn with
 | _ n ih =>
  intro σ H h
  rw [jumpW_eq]
  simp only [if_true]
  rw [← cZ r]
  refine (step n _ H h).bind fun s hs=>?_
  obtain ⟨e,σ',H'⟩:=s
  by_cases he:e=.goto l
  ·subst he
   simp only [if_true] at hs
   obtain ⟨m,hm,hI⟩:=hs
   exact ih m hm σ' H' hI
  ·simp only [he,if_false] at hs
   rw [nO (by exact he)]
   exact Ends.some.2 ⟨he,hs⟩
theorem Bk {tail:SCode} {l:Nat} (I:Nat→List AV→ae→Prop) (Q:AExit→List AV→ae→Prop)
  (step:∀ n σ H,I n (kill (bu tail) σ) H→Ends (execW p f tail σ H) fun s=>if s.e=.goto l then ∃ m,m<n∧I m (kill (bu tail) s.σ) s.H else Q s.e s.σ s.H) :
  ∀ (n:Nat) (σ:List AV) (H:ae),I n (kill (bu tail) σ) H→Ends ((execW p f tail σ H).bind (jumpW p f (.seq .skip tail) l)) fun s=>s.e≠.goto l∧Q s.e s.σ s.H:=by
 intro n σ H hI
 refine (step n σ H hI).bind fun s hs=>?_
 obtain ⟨e,σ1,G1⟩:=s
 by_cases he:e=.goto l
 ·subst he
  simp only [if_true] at hs
  obtain ⟨m,hm,hI1⟩:=hs
  exact FG (r:=.seq .skip tail) (l:=l) (fun z σ G=>I z (kill (bu tail) σ) G) Q (fun z σ G hI=>by
   have hr:execW p f (.seq .skip tail) σ G=execW p f tail σ G:=by
    rw [execW_seq,execW_skip]
    rfl
   rw [hr]
   exact step z σ G hI) m σ1 G1 hI1
 ·simp only [he,if_false] at hs
  rw [nO (by exact he)]
  exact Ends.some.2 ⟨he,hs⟩
theorem vw {s:aW} {args:List AV} {H:ae} {Q:AV × ae→Prop} (hx:p.X f args H=none) (ht:p.T f=some s)
  (h:Ends (execW p f s.body (ew s.nslots args) H) fun st=>st.e.ends=true∧Ends (aA s.res st.σ) fun v=>v.free=true∧Ends (ky (p.K f) (p.C f) H.length v st.H) Q):Ends (callW p f args H) Q:=by
 rw [callW_eq,hx]
 simp only [ht,Option.bind_some]
 refine h.bind fun st ⟨h1,h2⟩=>?_
 rw [if_pos h1]
 refine h2.bind fun v ⟨h3,h4⟩=>?_
 rw [if_pos h3]
 exact h4
theorem cH {α:Type} {o:Option α} {x:α}:o=some x ↔ Ends o (fun y=>y=x):=
 ⟨fun h=>⟨x,h,rfl⟩,fun ⟨y,h,e⟩=>by rw [h,e]⟩
end
def lst (z:Bool) (k:Nat) (f:Option Nat) (l:List (List AV)):AV:=if z=true∧l=[] then bc else .vs k f l
theorem lst_nil (k:Nat) (f:Option Nat):lst true k f []=bc:=rfl
theorem iW {z:Bool} {k:Nat} {f:Option Nat} {l:List (List AV)} (h:l≠[]):lst z k f l=.vs k f l:=by simp [lst,h]
theorem Vk (k:Nat) (f:Option Nat) (l:List (List AV)):lst false k f l=.vs k f l:=rfl
theorem bH (z:Bool) (k:Nat) (f:Option Nat) (l:List (List AV)):(z=true∧l=[]∧lst z k f l=bc)∨(lst z k f l=.vs k f l∧¬ (z=true∧l=[])):=by
 unfold lst
 split
 ·rename_i h;exact .inl ⟨h.1,h.2,rfl⟩
 ·rename_i h;exact .inr ⟨rfl,h⟩
section
variable (z:Bool) (k:Nat) (f:Option Nat) (l:List (List AV))
theorem DJ:(lst z k f l).isBox=false:=by rcases bH z k f l with ⟨_,_,e⟩ | ⟨e,_⟩<;>rw [e]<;>rfl
theorem zi:(lst z k f l).free=true:=by rcases bH z k f l with ⟨_,_,e⟩ | ⟨e,_⟩<;>rw [e]<;>rfl
theorem DK:(lst z k f l).one=true:=by rcases bH z k f l with ⟨_,_,e⟩ | ⟨e,_⟩<;>rw [e]<;>rfl
theorem vz:ac (lst z k f l)=[lst z k f l]:=by rcases bH z k f l with ⟨_,_,e⟩ | ⟨e,_⟩<;>rw [e]<;>rfl
theorem Ix (n:Nat):ev1 n (lst z k f l)=lst z k f l:=by rcases bH z k f l with ⟨_,_,e⟩ | ⟨e,_⟩<;>rw [e]<;>rfl
theorem sT (n:Nat):ad n (lst z k f l)=lst z k f l:=by rcases bH z k f l with ⟨_,_,e⟩ | ⟨e,_⟩<;>rw [e]<;>rfl
theorem DL:pln (lst z k f l)=lst z k none l:=by unfold lst;split<;>rfl
def unc (cs:List Nat):Option Nat→Option Nat
 | some c=>if cs.contains c then none else some c
 | none=>none
theorem zj (cs:List Nat):bV cs (lst z k f l)=lst z k (unc cs f) l:=by
 unfold lst
 split
 ·rfl
 ·simp only [bV,unc]
  cases f<;>rfl
theorem MY (cs:List Nat):bV cs (.vs k f l)=.vs k (unc cs f) l:=by
 simp only [bV,unc]
 cases f<;>rfl
end
theorem RE (cs:List Nat) (v:Value):bV cs (.c v)=.c v:=rfl
theorem sU (cs:List Nat):bV cs .undef=.undef:=rfl
theorem Iy (cs:List Nat) (r i g:Nat):bV cs (.ptr r i g)=.ptr r i g:=rfl
theorem MZ (cs:List Nat) (r o l c s g:Nat) (e:Bool):bV cs (.sl r o l c s g e)=.sl r o l c s g e:=rfl
theorem M0 (cs:List Nat) (l:List AV) (i:Nat):bV cs (.vp l i)=.vp l i:=rfl
theorem FH (cs:List Nat) (d i:Nat):bV cs (.lptr d i)=.lptr d i:=rfl
theorem M3 (cs:List Nat) (f:FuncId) (l:List AV):bV cs (.fn f l)=.fn f l:=rfl
theorem Bl (cs:List Nat) (t:TypeId) (x:AV):bV cs (.iface t x)=.iface t x:=rfl
theorem Iz (cs:List Nat) (l:List AV):bV cs (.agg l)=.agg (fJ cs l):=by simp only [bV]
theorem FI (cs:List Nat) (l:List AV):bV cs (.lbox l)=.lbox (fJ cs l):=by simp only [bV]
theorem FJ (cs:List Nat):fJ cs []=[]:=by simp only [fJ]
theorem Bm (cs:List Nat) (x:AV) (r:List AV):fJ cs (x :: r)=bV cs x :: fJ cs r:=by simp only [fJ]
theorem Vl (v:Value):pln (.c v)=.c v:=rfl
theorem FK:pln .undef=.undef:=rfl
theorem M4 (r i g:Nat):pln (.ptr r i g)=.ptr r i g:=rfl
theorem RF (r o l c s g:Nat) (e:Bool):pln (.sl r o l c s g e)=.sl r o l c s g e:=rfl
theorem RG (l:List AV) (i:Nat):pln (.vp l i)=.vp l i:=rfl
theorem IA (d i:Nat):pln (.lptr d i)=.lptr d i:=rfl
theorem RH (f:FuncId) (l:List AV):pln (.fn f l)=.fn f l:=rfl
theorem FL (t:TypeId) (x:AV):pln (.iface t x)=.iface t x:=rfl
theorem RI (k:Nat) (f:Option Nat) (l:List (List AV)):pln (.vs k f l)=.vs k none l:=rfl
theorem M5 (l:List AV):pln (.agg l)=.agg (dQ l):=by simp only [pln]
theorem M6 (l:List AV):pln (.tup l)=.tup (dQ l):=by simp only [pln]
theorem IB:dQ []=[]:=by simp only [dQ]
theorem FM (x:AV) (r:List AV):dQ (x :: r)=pln x :: dQ r:=by simp only [dQ]
attribute [simp] lst_nil Vk DJ zi DK vz Ix sT DL zj MY unc RE sU Iy MZ M0 FH M3 Bl Iz FI FJ Bm Vl FK M4 RF RG IA RH FL RI M5 M6 IB FM
theorem RJ (n:Nat) (t:Tr) (cs:List Nat):(L n t).map (bV cs)=L n (t.map (bV cs)):=by
 apply List.ext_getElem?
 intro j
 rw [List.getElem?_map,oJ,oJ,rI _ rfl]
 split<;>simp
theorem vA (cs:List Nat):∀ k,(Tr.full k).map (bV cs)=Tr.full k
 | 0=>rfl
 | k+1=>by simp only [Tr.full,Tr.map,vA cs k,sU]
attribute [simp] RJ vA
theorem IC (k:Nat) (f:Option Nat) (l:List (List AV)):AV.isBox (.vs k f l)=false:=rfl
theorem ID (l:List AV) (i:Nat):AV.isBox (.vp l i)=false:=rfl
theorem RK (n k:Nat) (f:Option Nat) (l:List (List AV)):ev1 n (.vs k f l)=.vs k f l:=rfl
theorem RL (n:Nat) (l:List AV) (i:Nat):ev1 n (.vp l i)=.vp l i:=rfl
theorem FN (n k:Nat) (f:Option Nat) (l:List (List AV)):ad n (.vs k f l)=.vs k f l:=rfl
theorem FO (n:Nat) (l:List AV) (i:Nat):ad n (.vp l i)=.vp l i:=rfl
attribute [simp] IC ID RK RL FN FO
def xq:AV→Option Nat
 | .c (.slice none 0 0)=>some 0
 | .sl _ _ len _ _ _ _=>some len
 | .vs _ _ l=>some l.length
 | _=>none
theorem RM:xq bc=some 0:=rfl
theorem M7 (r o l c s g:Nat) (e:Bool):xq (.sl r o l c s g e)=some l:=rfl
theorem M8 (k:Nat) (f:Option Nat) (l:List (List AV)):xq (.vs k f l)=some l.length:=rfl
theorem zk (z:Bool) (k:Nat) (f:Option Nat) (l:List (List AV)):xq (lst z k f l)=some l.length:=by
 rcases bH z k f l with ⟨_,rfl,e⟩ | ⟨e,_⟩<;>rw [e]<;>rfl
def sV (σ:List AV) (H:ae) (k:Option Nat):AV→Option AV
 | .vp cs i=>bd k cs i
 | a=>cB σ H k a
theorem IE (σ:List AV) (H:ae) (k:Option Nat) (cs:List AV) (i:Nat):sV σ H k (.vp cs i)=bd k cs i:=rfl
theorem FP (σ:List AV) (H:ae) (k:Option Nat) (r i g:Nat):sV σ H k (.ptr r i g)=cB σ H k (.ptr r i g):=rfl
theorem Bn (σ:List AV) (H:ae) (k:Option Nat) (d i:Nat):sV σ H k (.lptr d i)=cB σ H k (.lptr d i):=rfl
def xt (m:Md) (σ:List AV) (H:ae) (k:Option Nat) (a v:AV):Option (List AV × ae):=match a with
 | .ptr r i g=>if m.wr=true then bz σ H k (.ptr r i g) (pln v) else none
 | .lptr s i=>bz σ H k (.lptr s i) v
 | _=>none
theorem Bo (m:Md) (σ:List AV) (H:ae) (k:Option Nat) (r i g:Nat) (v:AV):xt m σ H k (.ptr r i g) v=if m.wr=true then bz σ H k (.ptr r i g) (pln v) else none:=rfl
theorem zn (m:Md) (σ:List AV) (H:ae) (k:Option Nat) (d i:Nat) (v:AV):xt m σ H k (.lptr d i) v=bz σ H k (.lptr d i) v:=rfl
def FQ:AV→Option AV
 | .ptr r i g=>some (.ptr r i g)
 | .lptr d i=>some (.lptr d i)
 | .fn f cs=>some (.fn f cs)
 | .iface t v=>some (.iface t v)
 | .vp cs i=>some (.vp cs i)
 | _=>none
def sW (off:Nat):AV→Option AV
 | .ptr r i g=>some (.ptr r (i+off) g)
 | .lptr d i=>some (.lptr d (i+off))
 | .vp cs i=>some (.vp cs (i+off))
 | _=>none
def bW (sz:Nat) (arr:Option Nat) (x i:AV):Option AV:=match x,i,arr with
  | .vs k _ l,.c (.int _ j),none=>if k=sz∧0≤j∧j<l.length then some (.vp (l.getD j.toNat []) 0) else none
  | .sl r off len _ _ g _,.c (.int _ j),none=>if 0≤j∧j<len then some (.ptr r (off+j.toNat * sz) g) else none
  | .ptr r o g,.c (.int _ j),some n=>if 0≤j∧j<n then some (.ptr r (o+j.toNat * sz) g) else none
  | .lptr d o,.c (.int _ j),some n=>if 0≤j∧j<n then some (.lptr d (o+j.toNat * sz)) else none
  | .vp cs o,.c (.int _ j),some n=>if 0≤j∧j<n then some (.vp cs (o+j.toNat * sz)) else none
  | _,_,_=>none
theorem FR (sz r off len cap z g:Nat) (e:Bool) (k:IntKind) (j:Int):bW sz none (.sl r off len cap z g e) (.c (.int k j))=if 0≤j∧j<len then some (.ptr r (off+j.toNat * sz) g) else none:=rfl
theorem Bp (sz n r o g:Nat) (k:IntKind) (j:Int):bW sz (some n) (.ptr r o g) (.c (.int k j))=if 0≤j∧j<n then some (.ptr r (o+j.toNat * sz) g) else none:=rfl
theorem zo (sz n d o:Nat) (k:IntKind) (j:Int):bW sz (some n) (.lptr d o) (.c (.int k j))=if 0≤j∧j<n then some (.lptr d (o+j.toNat * sz)) else none:=rfl
theorem FS (sz n o:Nat) (cs:List AV) (k:IntKind) (j:Int):bW sz (some n) (.vp cs o) (.c (.int k j))=if 0≤j∧j<n then some (.vp cs (o+j.toNat * sz)) else none:=rfl
theorem gJ (z:Bool) (k:Nat) (f:Option Nat) {l:List (List AV)} {i:Nat} {cs:List AV} (h:l[i]?=some cs) (kk:IntKind):bW k none (lst z k f l) (.c (.int kk i))=some (.vp cs 0):=by
 have hi:=(List.getElem?_eq_some_iff.1 h).1
 rw [iW (fun e=>by subst e;simp at hi)]
 simp only [bW]
 rw [if_pos ⟨trivial,by omega,by omega⟩,List.getD_eq_getElem?_getD,Int.toNat_natCast,h]
 rfl
def uI (op:BinOp) (ek:EqK) (x y:AV):Option AV:=match op,ek with
  | .eql,.slice=>if na x=true∧gc y=true∨gc x=true∧na y=true then some (.c (.bool false)) else bU .eql .slice x y
  | .neq,.slice=>if na x=true∧gc y=true∨gc x=true∧na y=true then some (.c (.bool true)) else bU .neq .slice x y
  | op,ek=>bU op ek x y
theorem M9 (op:BinOp) (ek:EqK) (x y:Value):uI op ek (.c x) (.c y)=bU op ek (.c x) (.c y):=by
 unfold uI
 split
 ·rw [if_neg (by simp [na])]
 ·rw [if_neg (by simp [na])]
 ·rfl
theorem IF (op:BinOp) (ks:List BK) (x y:AV):uI op (.agg ks) x y=bU op (.agg ks) x y:=by cases op<;>rfl
theorem IG (op:BinOp) (x y:AV):uI op .ptr x y=bU op .ptr x y:=by cases op<;>rfl
theorem IH (k:Nat) (f:Option Nat) (l:List (List AV)):uI .eql .slice (.vs k f l) bc=some (ab false):=rfl
theorem FT (k:Nat) (f:Option Nat) (l:List (List AV)):uI .neq .slice (.vs k f l) bc=some (ab true):=rfl
theorem FU (r i g:Nat):bU .eql .ptr (.ptr r i g) (.c (.pointer none))=some (ab false):=rfl
theorem Bq (r i g:Nat):bU .neq .ptr (.ptr r i g) (.c (.pointer none))=some (ab true):=rfl
theorem Na:bU .eql .ptr (.c (.pointer none)) (.c (.pointer none))=some (ab true):=rfl
theorem II:bU .neq .ptr (.c (.pointer none)) (.c (.pointer none))=some (ab false):=rfl
def Br (H:ae):AV→Option AV
 | .c (.slice none 0 0)=>some (.c (.string ⟨#[]⟩))
 | .vs k _ l=>if k=1 then (cF l.flatten).map fun l=>.c (.string ⟨l.toArray⟩) else none
 | .sl r off len _ _ g _=>((bT H r off len g).bind cF).map fun l=>.c (.string ⟨l.toArray⟩)
 | _=>none
def iC (sz:Nat) (d:Option Nat) (x:AV) (lo hi mx:Option AV):Option AV:=match x with
  | .vs k _ l=>if k=sz then (bB l.length l.length lo hi mx).map fun (a,h,c)=>.vs k (if mx.isSome=true∧h=c then d else none) ((l.take h).drop a) else none
  | x=>km (.slice sz) x lo hi mx
def sX (z:Bool) (k:Nat) (f:Option Nat) (l:List (List AV)) (i j:Nat):AV:=lst (z && l.isEmpty) k f ((l.take j).drop i)
theorem eA (k:IntKind) {i y:Nat} (h:i≤y):cI (.c (.int k i)) y=some i:=by simp [cI];omega
theorem oM (z:Bool) (k:Nat) (f d:Option Nat) (l:List (List AV)) {lo hi:Option AV} {i j:Nat} (h1:lo=none∧i=0∨∃ kk,lo=some (.c (.int kk i))) (h2:hi=none∧j=l.length∨∃ kk,hi=some (.c (.int kk j))) (hij:i≤j) (hj:j≤l.length) :
  iC k d (lst z k f l) lo hi none=some (sX z k none l i j):=by
 have hb:bB l.length l.length lo hi none=some (i,j,l.length):=by
  unfold bB
  rw [if_pos (Nat.le_refl _)]
  simp only [lh,Option.bind_some]
  have e2:jG l.length l.length hi none=some j:=by
   rcases h2 with ⟨rfl,rfl⟩ | ⟨kk,rfl⟩
   ·rfl
   ·exact eA kk hj
  have e1:nZ j lo=some i:=by
   rcases h1 with ⟨rfl,rfl⟩ | ⟨kk,rfl⟩
   ·rfl
   ·exact eA kk hij
  rw [e2,Option.bind_some,e1]
  rfl
 rcases bH z k f l with ⟨rfl,rfl,e⟩ | ⟨e,h⟩
 ·rw [e]
  have hb':bB 0 0 lo hi none=some (i,j,0):=hb
  simp [iC,km,hb',sX]
 ·rw [e]
  simp only [iC,if_true,hb,Option.map_some,sX]
  rw [show (z && l.isEmpty)=false by cases z<;>cases l<;>simp_all]
  simp
theorem RN (z:Bool) (k:Nat) (f d:Option Nat) (l:List (List AV)) {lo:Option AV} {i j:Nat} (h1:lo=none∧i=0∨∃ kk,lo=some (.c (.int kk i))) (kk1 kk2:IntKind) (hij:i≤j) (hj:j≤l.length) :
  iC k d (lst z k f l) lo (some (.c (.int kk1 j))) (some (.c (.int kk2 j)))=some (sX z k d l i j):=by
 have hb:bB l.length l.length lo (some (.c (.int kk1 j))) (some (.c (.int kk2 j)))=some (i,j,j):=by
  unfold bB
  rw [if_pos (Nat.le_refl _)]
  simp only [lh,eA kk2 hj,Option.bind_some,jG,eA kk1 (Nat.le_refl j)]
  have e1:nZ j lo=some i:=by
   rcases h1 with ⟨rfl,rfl⟩ | ⟨kk,rfl⟩
   ·rfl
   ·exact eA kk hij
  rw [e1]
  rfl
 rcases bH z k f l with ⟨rfl,rfl,e⟩ | ⟨e,h⟩
 ·rw [e]
  have hb':bB 0 0 lo (some (.c (.int kk1 j))) (some (.c (.int kk2 j)))=some (i,j,j):=hb
  simp [iC,km,hb',sX]
 ·rw [e]
  simp only [iC,if_true,hb,Option.map_some,sX]
  rw [show (z && l.isEmpty)=false by cases z<;>cases l<;>simp_all]
  simp
theorem Nb (H:ae) (sz:Nat):dY H sz bc=some []:=rfl
theorem cR (H:ae) (k:Nat) (f:Option Nat) (l:List (List AV)):dY H k (.vs k f l)=some l:=by simp [dY]
theorem elems_lst (H:ae) (z:Bool) (k:Nat) (f:Option Nat) (l:List (List AV)):dY H k (lst z k f l)=some l:=by
 rcases bH z k f l with ⟨rfl,rfl,e⟩ | ⟨e,h⟩
 ·rw [e];rfl
 ·rw [e,cR]
mutual
theorem sY {cs cs':List Nat} (h:∀ c,cs.contains c=cs'.contains c):∀ v:AV,bV cs v=bV cs' v
 | .vs k f l=>by cases f<;>simp only [bV,h]
 | .agg xs=>by simp only [bV,js h xs]
 | .tup xs=>by simp only [bV,js h xs]
 | .lbox xs=>by simp only [bV,js h xs]
 | .undef=>rfl
 | .c _=>rfl
 | .ptr ..=>rfl
 | .sl ..=>rfl
 | .vp ..=>rfl
 | .lptr ..=>rfl
 | .fn ..=>rfl
 | .iface ..=>rfl
 | .map _=>rfl
theorem js {cs cs':List Nat} (h:∀ c,cs.contains c=cs'.contains c):∀ l:List AV,fJ cs l=fJ cs' l
 | []=>rfl
 | x :: r=>by simp only [fJ,sY h x,js h r]
end
def fy (m:Md) (d:Option Nat) (sz bytes:Nat) (s x:AV) (σ:List AV) (H:ae):Option (AV × List AV × ae):=match d,s with
  | some d',.c (.slice none 0 0)=>if m.row (some d')=true then (dY H sz x).bind fun l'=>if l'=[] then some (.c (.slice none 0 0),σ,H) else
     if l'.length * bytes≤aw∧l'.length≤aw then some (.sl H.length 0 l'.length l'.length sz (l'.length * sz) false,σ,H++[.grow l'.flatten 0]) else none
    else oB d' sz bytes (.c (.slice none 0 0)) x σ H
  | some d',.vs k f l=>oB d' sz bytes (.vs k f l) x σ H
  | _,.sl r off len cap sz' g ex=>if m.wr=true then (dY H sz x).bind fun l'=>if l'=[] then (if len≤cap then some (.sl r off len cap sz' g ex,σ,H) else none) else
     if off=0∧cap=len∧(cap≠0∧ex=false)∧sz'=sz∧g=len * sz∧(len+l'.length) * bytes≤aw∧len+l'.length≤aw then (match H[r]? with
      | some o=>if o.isW=true∧o.cells.length=g then some (.sl r 0 (len+l'.length) (len+l'.length) sz (g+l'.length * sz) false,σ,H.set r (.grow (o.cells++l'.flatten) o.lo)) else none
      | none=>none)
     else if len+l'.length≤cap then (dH H r (off+len * sz) g l'.flatten).map fun H'=>(.sl r off (len+l'.length) cap sz' g ex,σ,H') else none
    else none
  | _,_=>none
theorem jV {m:Md} {d sz bytes:Nat} {l l':List (List AV)} {x:AV} (hm:m.row (some d)=false) (hx:∀ H,dY H sz x=some l') (h1:(l.length+l'.length) * bytes≤aw) (h2:l.length+l'.length≤aw) (σ:List AV) (H:ae) :
  fy m (some d) sz bytes (lst true sz (some d) l) x σ H=some (lst true sz (some d) (l++l'),σ.map (bV [d]),H):=by
 have huu:∀ v:AV,bV [d,d] v=bV [d] v:=fun v=>by
  have hc:∀ c:Nat,[d,d].contains c=[d].contains c:=fun c=>by simp
  exact sY hc v
 rcases bH true sz (some d) l with ⟨_,rfl,e⟩ | ⟨e,h⟩
 ·rw [e]
  simp only [fy,hm,Bool.false_eq_true,if_false,oB,hx,Option.bind_some,List.nil_append]
  cases l' with
  | nil=>simp
  | cons c r =>
   rw [if_neg (by simp),if_pos ⟨by simpa using h1,by simpa using h2⟩,iW (by simp)]
 ·rw [e]
  simp only [fy,oB,hx,Option.bind_some]
  rw [if_pos ⟨trivial,h1,h2⟩,iW (by intro e2;simp at e2;exact h ⟨rfl,e2.1⟩)]
  congr 3
  exact List.map_congr_left fun v _=>huu v
end Go.A.V
