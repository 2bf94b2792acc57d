/- THE VALUE MACHINE: its operations as words for simp. -/
import Derived.Test.YtnmobjhmohcjfaaGreatV12
set_option linter.unusedSimpArgs false
set_option linter.unusedVariables false
set_option linter.unnecessarySimpa false
namespace Go.A.V
open Go Go.A
section
variable (m:Md) (C:aY) (d:Option Nat) (σ:List AV) (H:ae)
theorem No (x:SX):opV m C d (.mov x) σ H=some (av σ x,σ,H):=rfl
theorem IV (c a b:SX):opV m C d (.pick c a b) σ H=(Ih (av σ c) (av σ a) (av σ b)).map fun v=>(v,σ,H):=by
 simp only [opV,Ih]
 split<;>simp_all
theorem IW (d:Nat) (zs:List AV):opV m C (some d) (.lnew zs) σ H=some (.lbox zs,σ.map (ad d),H):=rfl
theorem IX (d k:Nat) (x:SX):opV m C (some d) (.lbox k x) σ H=if (ac (av σ x)).length=k∧(ac (av σ x)).all bB=true then some (.lbox (ac (av σ x)),σ.map (ad d),H) else none:=rfl
theorem Np (zs:List AV):opV m C d (.new zs) σ H=some (.ptr H.length 0 zs.length,σ,H++[.row zs]):=rfl
theorem Nq (k:Nat) (x:SX):opV m C d (.box k x) σ H=if (ac (av σ x)).length=k∧(ac (av σ x)).all bB=true then some (.ptr H.length 0 k,σ,H++[.row (eb (ac (av σ x)))]) else none:=rfl
theorem F6 (zs:List AV) (ps:List (Nat × Nat × SX)):opV m C d (.build zs ps) σ H=(cJ zs (ps.map fun p=>(p.1,p.2.1,av σ p.2.2))).map fun l=>(.agg l,σ,H):=rfl
def Vm (m:Md) (d:Option Nat) (len sz:Nat) (cs:List AV) (σ:List AV) (H:ae):Option (AV × List AV × ae):=
 if cs.all bB=true then (if m.row d=true then some (.sl H.length 0 len len sz (len * sz) true,σ,H++[.row cs])
    else if cs.length=len * sz then some (.vs sz d (fW sz len cs),σ,H) else none) else none
theorem BE (len sz:Nat) (zs:List AV) (ps:List (Nat × Nat × SX)):opV m C d (.bslice len sz zs ps) σ H=(cJ zs (ps.map fun p=>(p.1,p.2.1,pln (av σ p.2.2)))).bind fun cs=>Vm m d len sz cs σ H:=rfl
theorem IY (k:Option Nat) (x:SX):opV m C d (.load k x) σ H=(td σ H k (av σ x)).map fun v=>(v,σ,H):=by
 simp only [opV,td]
 split<;>simp_all
theorem F7 (k:Option Nat) (x v:SX):opV m C d (.store k x v) σ H=(xG m σ H k (av σ x) (av σ v)).map fun p=>(.tup [],p.1,p.2):=by
 simp only [opV,xG]
 split
 ·rename_i e;rw [e];simp only;split<;>rfl
 ·rename_i e;rw [e]
 ·rename_i h1 h2
  split
  ·rename_i e;exact (h1 _ _ _ e).elim
  ·rename_i e;exact (h2 _ _ e).elim
  ·rfl
theorem Nr (x:SX):opV m C d (.chk x) σ H=(F1 (av σ x)).map fun v=>(v,σ,H):=by
 simp only [opV,F1]
 split<;>simp_all
theorem Ns (op:BinOp) (ek:EqK) (x y:SX):opV m C d (.bin op ek x y) σ H=(uT op ek (av σ x) (av σ y)).map fun v=>(v,σ,H):=by
 simp only [opV,uT]
 cases op<;>first | rfl | (cases ek<;>first | rfl | (simp only;split<;>rfl))
theorem RO (op:UnOp) (x:SX):opV m C d (.un op x) σ H=(unA op (av σ x)).map fun v=>(v,σ,H):=rfl
def IZ (k:IntKind):AV→Option AV
 | .c (.int _ n)=>some (.c (.int k (k.wrap n)))
 | _=>none
theorem F8 (k:IntKind) (x:SX):opV m C d (.conv (.int k) x) σ H=(IZ k (av σ x)).map fun v=>(v,σ,H):=by
 simp only [opV,IZ]
 split<;>simp_all
theorem F9 (k k':IntKind) (n:Int):IZ k (.c (.int k' n))=some (.c (.int k (k.wrap n))):=rfl
theorem Nt (x:SX):opV m C d (.conv .toStr x) σ H=(BD H (av σ x)).map fun v=>(v,σ,H):=by
 simp only [opV,BD]
 cases av σ x with
 | c v=>cases v<;>first | rfl | (rename_i a l c;cases a<;>first | rfl | (cases l<;>first | rfl | (cases c<;>rfl)))
 | vs k f l=>simp only;split<;>first | rfl | (rw [Option.map_map];rfl)
 | sl r off len cap sz g ex=>simp only;rw [Option.map_map];rfl
 | _=>rfl
theorem I0 (sz:Nat) (x:SX) (lo hi mx:Option SX):opV m C d (.cut (.slice sz) x lo hi mx) σ H=(iN sz d (av σ x) (lo.map (av σ)) (hi.map (av σ)) (mx.map (av σ))).map fun v=>(v,σ,H):=by
 simp only [opV,iN]
 split
 ·rename_i e
  rw [e]
  simp only
  split
  ·simp only [Option.map_map,Option.isSome_map];rfl
  ·rfl
 ·rename_i h
  split
  ·rename_i e;exact (h _ _ _ e).elim
  ·rfl
theorem BF (x:SX) (lo hi mx:Option SX):opV m C d (.cut .str x lo hi mx) σ H=(kA .str (av σ x) (lo.map (av σ)) (hi.map (av σ)) (mx.map (av σ))).map fun v=>(v,σ,H):=rfl
theorem Ga (off:Nat) (x:SX):opV m C d (.faddr off x) σ H=(tf off (av σ x)).map fun v=>(v,σ,H):=by
 simp only [opV,tf]
 split<;>simp_all
theorem Gb (sz:Nat) (arr:Option Nat) (x i:SX):opV m C d (.iaddr sz arr x i) σ H=(cu sz arr (av σ x) (av σ i)).map fun v=>(v,σ,H):=by
 simp only [opV,cu]
 split<;>first | rfl | (split<;>rfl) | skip
 all_goals simp_all
def adq (arr:Option (Nat × Nat × Option Nat)) (x i:AV):Option AV:=match x,i,arr with
  | .agg xs,.c (.int _ j),some (n,sz,k)=>if 0≤j∧j<n then bA k xs (j.toNat * sz) else none
  | .c (.string s),.c (.int _ j),none=>if 0≤j then (s.data.toList[j.toNat]?).map fun b=>.c (.int .u8 b.toNat) else none
  | _,_,_=>none
theorem I1 (n sz:Nat) (k:Option Nat) (xs:List AV) (kk:IntKind) (j:Int):adq (some (n,sz,k)) (.agg xs) (.c (.int kk j))=if 0≤j∧j<n then bA k xs (j.toNat * sz) else none:=rfl
theorem Nu (x:SX) (i:Nat):opV m C d (.ext x i) σ H=(FQ i (av σ x)).map fun v=>(v,σ,H):=by
 simp only [opV,FQ]
 split<;>simp_all
theorem I2 (f:FuncId) (xs:List SX):opV m C d (.call f xs) σ H=if AV.freeAll (xs.map (av σ))=true then (C f (eb (xs.map (av σ))) H).map fun p=>dk d p.1 σ p.2 else none:=rfl
def BG (C:aY) (d:Option Nat) (σ:List AV) (H:ae) (v:AV) (as:List AV):Option (AV × List AV × ae):=match v with
 | .fn f cs=>if AV.freeAll as=true then (C f (eb as++cs) H).map fun p=>dk d p.1 σ p.2 else none
 | _=>none
theorem Gc (x:SX) (xs:List SX):opV m C d (.callv x xs) σ H=BG C d σ H (av σ x) (xs.map (av σ)):=by
 simp only [opV,BG]
 split<;>simp_all
theorem Gd (f:FuncId) (cs as:List AV):BG C d σ H (.fn f cs) as=if AV.freeAll as=true then (C f (eb as++cs) H).map fun p=>dk d p.1 σ p.2 else none:=rfl
theorem BI (sz bytes:Nat) (s x:SX):opV m C d (.append sz bytes s x) σ H=fK m d sz bytes (av σ s) (av σ x) σ H:=by
 have:opV m C d (.append sz bytes s x) σ H=match d,av σ s with
  | some d',.c (.slice none 0 0)=>if m.row (some d')=true then (em H sz (av σ x)).bind fun l'=>if l'=[] then some (av σ s,σ,H) else
     if l'.length * bytes≤aJ∧l'.length≤aJ then some (.sl H.length 0 l'.length l'.length sz (l'.length * sz) false,σ,H++[.grow l'.flatten 0]) else none
    else oO d' sz bytes (av σ s) (av σ x) σ H
  | some d',.vs k f l=>oO d' sz bytes (.vs k f l) (av σ x) σ H
  | _,.sl r off len cap sz' g ex=>if m.wr=true then (em H sz (av σ x)).bind fun l'=>if l'=[] then (if len≤cap then some (.sl r off len cap sz' g ex,σ,H) else none) else
     if off=0∧cap=len∧(cap≠0∧ex=false)∧sz'=sz∧g=len * sz∧(len+l'.length) * bytes≤aJ∧len+l'.length≤aJ then (match H[r]? with
      | some o=>if o.isW=true∧o.cells.length=g then some (.sl r 0 (len+l'.length) (len+l'.length) sz (g+l'.length * sz) false,σ,H.set r (.grow (o.cells++l'.flatten) o.lo)) else none
      | none=>none)
     else if len+l'.length≤cap then (dT H r (off+len * sz) g l'.flatten).map fun H'=>(.sl r off (len+l'.length) cap sz' g ex,σ,H') else none
    else none
  | _,_=>none:=rfl
 rw [this]
 unfold fK
 cases d<;>cases hv:av σ s<;>first | rfl | skip
 rename_i v
 cases v<;>first | rfl | skip
 rename_i a l c
 cases a<;>first | rfl | skip
 cases l<;>first | rfl | skip
 cases c<;>rfl
def vN (m:Md) (sz:Nat) (x y:AV) (H:ae):Option (AV × ae):=(em H sz y).bind fun l'=>match x with
  | .sl r off len _ _ g _=>if l'=[] then some (.c (.int .i64 0),H) else if m.wr=true∧l'.length≤len then (dT H r off g l'.flatten).map fun H'=>(.c (.int .i64 l'.length),H') else none
  | _=>none
theorem I3 (sz:Nat) (x y:SX):opV m C d (.copy sz x y) σ H=(vN m sz (av σ x) (av σ y) H).map fun p=>(p.1,σ,p.2):=by
 simp only [opV,vN]
 cases em H sz (av σ y) with
 | none=>rfl
 | some l' =>
  simp only [Option.bind_some]
  cases av σ x with
  | sl r off len cap z g ex =>
   simp only
   split
   ·rfl
   ·split
    ·rw [Option.map_map];rfl
    ·rfl
  | _=>rfl
def DX (H:ae):AV→Option (AV × ae)
 | .c (.int .i64 n)=>if 0≤n∧n≤aJ then some (.sl H.length 0 n.toNat n.toNat 1 (n.toNat * 1) false,H++[.grow (List.replicate (n.toNat * 1) .undef) 0]) else none
 | _=>none
theorem I4 (x:SX):opV m C d (.mknz x) σ H=(DX H (av σ x)).map fun p=>(p.1,σ,p.2):=by
 simp only [opV,DX]
 split
 ·rename_i e;rw [e];simp only;split<;>rfl
 ·rename_i h
  split
  ·rename_i e;exact (h _ e).elim
  ·rfl
theorem Nv (x:SX):opV m C d (.len .sl x) σ H=(xF (av σ x)).map fun n=>(ai n,σ,H):=by
 simp only [opV,xF]
 split<;>simp_all
theorem BJ (n:Nat) (x:SX):opV m C d (.len (.arr n) x) σ H=some (ai n,σ,H):=rfl
theorem BL (x:SX):opV m C d (.len .str x) σ H=(match av σ x with
  | .c (.string s)=>some (.c (.int .i64 s.size),σ,H)
  | _=>none):=rfl
theorem I5 (x y:SX):opV m C d (.min [x,y]) σ H=(IH (av σ x) (av σ y)).map fun v=>(v,σ,H):=by
 simp only [opV,List.map_cons,List.map_nil,IH]
 cases av σ x with
 | c v=>cases v<;>first | rfl | (simp only [List.foldlM_cons,List.foldlM_nil];cases av σ y with
  | c u=>cases u<;>rfl
  | _=>rfl)
 | _=>rfl
def mx (x y:Int):Int:=if y > x then y else x
def Vn:AV→AV→Option AV
 | .c (.int k x),.c (.int _ y)=>some (.c (.int k (mx x y)))
 | _,_=>none
theorem Nw (k k':IntKind) (a b:Int):Vn (.c (.int k a)) (.c (.int k' b))=some (.c (.int k (mx a b))):=rfl
theorem I6 (f:FuncId) (cs:List SX):opV m C d (.mkfn f cs) σ H=if AV.freeAll (cs.map (av σ))=true then some (.fn f (eb (cs.map (av σ))),σ,H) else none:=rfl
theorem I7 (t:TypeId) (x:SX):opV m C d (.mkif t x) σ H=if AV.free (av σ x)=true then some (.iface t (pln (av σ x)),σ,H) else none:=rfl
theorem runOps_nil:runOps m C [] σ H=some (σ,H):=rfl
theorem runOps_0 {op:SOp} {r:List SOpG}:runOps m C (⟨d,op,none⟩ :: r) σ H=(opV m C d op σ H).bind fun x=>runOps m C r (cW x.2.1 d x.1) x.2.2:=rfl
theorem Ge (dd:Nat) (z:Bool) (k:Nat) (f:Option Nat) (l:List (List AV)):dk (some dd) (lst z k f l) σ H=(lst z k (f.map fun _=>dd) l,σ.map (cr [dd]),H):=by
 rcases bU z k f l with ⟨rfl,rfl,e⟩ | ⟨e,h⟩
 ·rw [e];rfl
 ·rw [e]
  simp only [dk,lst]
  rw [if_neg h]
theorem I8 (dd:Nat) (k:Nat) (f:Option Nat) (l:List (List AV)):dk (some dd) (.vs k f l) σ H=(.vs k (f.map fun _=>dd) l,σ.map (cr [dd]),H):=rfl
theorem Gf (dd:Nat):dk (some dd) bz σ H=(bz,σ.map (cr [dd]),H):=rfl
theorem Gg (k:IntKind) (n:Int):dk d (.c (.int k n)) σ H=(.c (.int k n),σ,H):=by cases d<;>rfl
theorem BM (n:Bool):dk d (ab n) σ H=(ab n,σ,H):=by cases d<;>rfl
theorem Gi (r i g:Nat):dk d (.ptr r i g) σ H=(.ptr r i g,σ,H):=by cases d<;>rfl
theorem BN:dk d (.tup []) σ H=(.tup [],σ,H):=by cases d<;>simp [dk]
theorem BO (k:IntKind) (n:Int) (r:List AV):dk d (.tup (.c (.int k n) :: r)) σ H=(.tup (.c (.int k n) :: eb r),σ,H):=by cases d<;>simp [dk]
theorem BP (xs r:List AV):dk d (.tup (.agg xs :: r)) σ H=(.tup (.agg (eb xs) :: eb r),σ,H):=by cases d<;>simp [dk]
theorem BQ (dd:Nat) (k:Nat) (f:Option Nat) (l:List (List AV)) (r:List AV):dk (some dd) (.tup (.vs k f l :: r)) σ H=(.tup (.vs k (f.map fun _=>dd) l :: eb r),σ.map (cr [dd]),H):=rfl
theorem BR (dd:Nat) (r:List AV):dk (some dd) (.tup (bz :: r)) σ H=(.tup (bz :: eb r),σ.map (cr [dd]),H):=rfl
theorem tj (dd:Nat) (z:Bool) (k:Nat) (f:Option Nat) (l:List (List AV)) (r:List AV):dk (some dd) (.tup (lst z k f l :: r)) σ H=(.tup (lst z k (f.map fun _=>dd) l :: eb r),σ.map (cr [dd]),H):=by
 rcases bU z k f l with ⟨rfl,rfl,e⟩ | ⟨e,h⟩
 ·rw [e];rfl
 ·rw [e]
  simp only [dk,lst]
  rw [if_neg h]
theorem Gj (xs:List AV):dk d (.agg xs) σ H=(.agg (eb xs),σ,H):=by cases d<;>simp [dk]
theorem BS (v:AV):dk none v σ H=(pln v,σ,H):=rfl
end
def xH (m:Md) (C:aY):List DOp→List AV→ae→Option (List AV × ae)
 | [],σ,H=>some (σ,H)
 | d :: r,σ,H=>(eW m C d.o σ H).bind fun p=>xH m C r p.1 p.2
theorem tk (W:FuncId→Bool) (m:Md) (C:aY):∀ (ops:List DOp) (acc:List (DOp × Bool)) (σ:List AV) (H:ae),ops.all (fun d=>d.un.isEmpty)=true→runD W m C acc ops σ H=xH m C ops σ H
 | [],_,_,_,_=>rfl
 | d :: r,acc,σ,H,h=>by
  simp only [List.all_cons,Bool.and_eq_true] at h
  simp only [runD,xH]
  congr 1
  funext x
  have hd:d.un=[]:=by simpa using h.1
  rw [if_pos (by simp [hd]),tk W m C r _ _ _ h.2]
theorem zC {p:VP} {f:FuncId} {σ:List AV} {H:ae} (ks:List Nat) (ops:List DOp) (h:ops.all (fun d=>d.un.isEmpty)=true):execW p f (.drawn ks ops) σ H=(xH (p.md f) (rM p f) ops (kill ks σ) H).map fun x=>⟨.normal,x.1,x.2⟩:=by
 rw [execW_drawn,tk _ _ _ _ _ _ _ h]
theorem I9 (m:Md) (C:aY) (σ:List AV) (H:ae):xH m C [] σ H=some (σ,H):=rfl
theorem Gk (m:Md) (C:aY) (d:DOp) (r:List DOp) (σ:List AV) (H:ae):xH m C (d :: r) σ H=(eW m C d.o σ H).bind fun p=>xH m C r p.1 p.2:=by rw [xH]
section
variable (m:Md) (C:aY) (d:Option Nat) (op:SOp) (σ:List AV) (H:ae)
theorem Nx (h:dz σ d=false):eW m C ⟨d,op,none⟩ σ H=(opV m C d op σ H).bind (qP op d):=by
 unfold eW
 rw [if_neg (fun h'=>absurd h'.2 (by rw [h];simp))]
 rfl
end
theorem Ja (r i g:Nat):F1 (.ptr r i g)=some (.ptr r i g):=rfl
theorem Gl (d i:Nat):F1 (.lptr d i)=some (.lptr d i):=rfl
theorem Ny (f:FuncId) (l:List AV):F1 (.fn f l)=some (.fn f l):=rfl
theorem Nz (l:List AV) (i:Nat):F1 (.vp l i)=some (.vp l i):=rfl
theorem BT (off r i g:Nat):tf off (.ptr r i g)=some (.ptr r (i+off) g):=rfl
theorem zD (off d i:Nat):tf off (.lptr d i)=some (.lptr d (i+off)):=rfl
theorem Gm (off i:Nat) (l:List AV):tf off (.vp l i)=some (.vp l (i+off)):=rfl
attribute [simp] No IV IW IX Np Nq F6 BE IY F7 Nr Ns RO F8 F9 Nt I3 I4 I0 BF Ga Gb I1 Nu I2 Gc Gd BI Nv BJ BL I5 Nw I6 I7
attribute [simp] runOps_nil runOps_0 Ge I8 Gf Gg BM Gi BN BO BP BQ BR tj Gj BS I9 Gk
attribute [simp] execW_seq execW_region execW_ret execW_skip execW_label execW_exit execW_goto execW_block execW_cond execW_scope
attribute [simp] RM Nj Nk zz IQ F0 Bz BA zA Ja Gl Ny Nz BT zD Gm F2 BB zB F3 Nl IR IS IT F4 F5 BC Nm IU Nn dh elems_lst Vm fW
def gd {α:Type} (w:Option Bool) (x y:Option α):Option α:=match w with
 | some true=>x
 | some false=>y
 | none=>none
theorem NA {α:Type} {w w':Option Bool} (x y:Option α) (h:w=w'):gd w x y=gd w' x y:=by rw [h]
theorem adr {α:Type} (b:Bool) (x y:Option α):gd (some b) x y=if b=true then x else y:=by cases b<;>rfl
theorem Jb (m:Md) (C:aY) (d:Option Nat) (op:SOp) (i:Nat) (b:Bool) (r:List SOpG) (σ:List AV) (H:ae):runOps m C (⟨d,op,some (i,b)⟩ :: r) σ H =
  gd (wanted σ (some (i,b))) ((opV m C d op σ H).bind fun x=>runOps m C r (cW x.2.1 d x.1) x.2.2) (runOps m C r (cW σ d (.tup [])) H):=by
 simp only [runOps,gd]
 rfl
theorem NB (m:Md) (C:aY) (d:Option Nat) (op:SOp) (i:Nat) (b:Bool) (σ:List AV) (H:ae) (h:dz σ d=false):eW m C ⟨d,op,some (i,b)⟩ σ H =
  gd (wanted σ (some (i,b))) ((opV m C d op σ H).bind (qP op d)) (some (cW σ d (.tup []),H)):=by
 unfold eW
 rw [if_neg (fun h'=>absurd h'.2 (by rw [h];simp))]
 rfl
attribute [congr] NA
attribute [simp] adr
theorem xI {p:VP} {f:FuncId} {σ:List AV} {H:ae} (ks:List Nat) (ops:List DOp):execW p f (.drawn ks ops) σ H=(if (ops.all fun d=>d.un.isEmpty)=true then xH (p.md f) (rM p f) ops (kill ks σ) H else runD p.W (p.md f) (rM p f) [] ops (kill ks σ) H).map fun x=>⟨.normal,x.1,x.2⟩:=by
 split
 ·rename_i h;exact zC ks ops h
 ·exact execW_drawn _ _ _ _ _ _
theorem Jc (m:Md) (C:aY) (d:Option Nat) (op:SOp) (σ:List AV) (H:ae):eW m C ⟨d,op,none⟩ σ H=if dz σ d=true then (if op.cls=.eff then (opV m C d op σ H).bind (qP op d) else none) else (opV m C d op σ H).bind (qP op d):=by
 split
 ·rename_i h
  split
  ·rename_i h2
   unfold eW
   rw [if_neg (fun h'=>h'.1 h2)]
   rfl
  ·rename_i h2
   unfold eW
   rw [if_pos ⟨h2,h⟩]
 ·rename_i h;exact Nx m C d op σ H (by simpa using h)
theorem Jd (m:Md) (C:aY) (d:Option Nat) (op:SOp) (i:Nat) (b:Bool) (σ:List AV) (H:ae):eW m C ⟨d,op,some (i,b)⟩ σ H=if dz σ d=true then (if op.cls=.eff then gd (wanted σ (some (i,b))) ((opV m C d op σ H).bind (qP op d)) (some (cW σ d (.tup []),H)) else none) else
  gd (wanted σ (some (i,b))) ((opV m C d op σ H).bind (qP op d)) (some (cW σ d (.tup []),H)):=by
 split
 ·rename_i h
  split
  ·rename_i h2
   unfold eW
   rw [if_neg (fun h'=>h'.1 h2)]
   rfl
  ·rename_i h2
   unfold eW
   rw [if_pos ⟨h2,h⟩]
 ·rename_i h;exact NB m C d op i b σ H (by simpa using h)
attribute [simp] Jb Jc Jd xI runD cK aX bd
theorem Je (c:Bool) (n0:Nat) (v:AV) (H:ae):kJ true c n0 v H=some (lW c v,H):=rfl
theorem NC (v:AV):lW false v=lK v:=rfl
theorem ND (v:AV):lW true v=nB v:=rfl
theorem Jf (c:Bool) (n0:Nat) (v:AV) (H:ae):kJ false c n0 v H=(frz n0 H v).map fun v'=>(lW c v',H.take n0++List.replicate (H.length - n0) .other):=rfl
theorem Vo (n0:Nat) (H:ae) (v:Value):frz n0 H (.c v)=some (.c v):=by simp only [frz]
theorem RP (n0:Nat) (H:ae) (k:Nat) (f:Option Nat) (l:List (List AV)):frz n0 H (.vs k f l)=some (.vs k f l):=by simp only [frz]
theorem DY (n0:Nat) (H:ae) (z:Bool) (k:Nat) (f:Option Nat) (l:List (List AV)):frz n0 H (lst z k f l)=some (lst z k f l):=by
 rcases bU z k f l with ⟨_,_,e⟩ | ⟨e,_⟩<;>rw [e]<;>simp only [frz]
theorem NE (n0:Nat) (H:ae) (xs:List AV):frz n0 H (.tup xs)=(nr n0 H xs).map .tup:=by simp only [frz]
theorem NF (n0:Nat) (H:ae) (xs:List AV):frz n0 H (.agg xs)=(nr n0 H xs).map .agg:=by simp only [frz]
theorem Jg (n0:Nat) (H:ae):nr n0 H []=some []:=by simp only [nr]
theorem Gn (n0:Nat) (H:ae) (x:AV) (r:List AV):nr n0 H (x :: r)=(frz n0 H x).bind fun y=>(nr n0 H r).map fun z=>y :: z:=by simp only [nr]
theorem RQ (v:Value):lK (.c v)=.c v:=rfl
theorem Jh (l:List AV):lK (.tup l)=.tup (eb l):=by simp only [lK,pln]
theorem Ji (l:List AV):lK (.agg l)=.agg (eb l):=by simp only [lK,pln]
theorem DZ (k:Nat) (f:Option Nat) (l:List (List AV)):lK (.vs k f l)=.vs k (f.map fun _=>0) l:=by cases f<;>rfl
theorem Jj (z:Bool) (k:Nat) (f:Option Nat) (l:List (List AV)):lK (lst z k f l)=lst z k (f.map fun _=>0) l:=by
 rcases bU z k f l with ⟨rfl,rfl,e⟩ | ⟨e,h⟩
 ·rw [e];rfl
 ·rw [e,DZ,lst,if_neg h]
theorem Jk (r i g:Nat):lK (.ptr r i g)=.ptr r i g:=rfl
theorem NG (b:Bool) (v:Value):lW b (.c v)=.c v:=by cases b<;>rfl
theorem tl (k:Nat) (f:Option Nat) (l:List (List AV)) (r:List AV):nB (.tup (.vs k f l :: r))=.tup (.vs k (f.map fun _=>0) l :: eb r):=by cases f<;>simp [nB,pln,eb]
theorem tq (r:List AV):nB (.tup (bz :: r))=.tup (bz :: eb r):=by simp [nB,pln,eb]
theorem BU (z:Bool) (k:Nat) (f:Option Nat) (l:List (List AV)) (r:List AV):nB (.tup (lst z k f l :: r))=.tup (lst z k (f.map fun _=>0) l :: eb r):=by
 rcases bU z k f l with ⟨rfl,rfl,e⟩ | ⟨e,h⟩
 ·rw [e,tq];rfl
 ·rw [e,tl,lst,if_neg h]
attribute [simp] Je Jf Vo RP DY NE NF Jg Gn RQ Jh Ji DZ Jj Jk NC ND NG tl tq BU
theorem Jl {α β:Type} (c:Prop) [Decidable c] (x y:Option α) (K:α→Option β):(if c then x else y).bind K=if c then x.bind K else y.bind K:=by split<;>rfl
theorem NH {α β:Type} (c:Prop) [Decidable c] (x y:Option α) (K:α→β):(if c then x else y).map K=if c then x.map K else y.map K:=by split<;>rfl
attribute [simp] Jl NH
theorem aU {p:VP} {f:FuncId} {s:bp} {args:List AV} {H:ae} (k:Nat) (hx:p.X f args H=none) (ht:p.T f=some s) (hl:args.length≤s.nslots):callW p f args H =
  (execW p f s.body (L s.nslots (mc 0 args (Tr.full k))) H).bind fun st =>
    if st.e.ends=true then (aN s.res st.σ).bind fun v=>if v.free=true then kJ (p.K f) (p.C f) H.length v st.H else none else none:=by
 rw [callW_eq,hx]
 simp only [ht,Option.bind_some]
 rw [s5 k s.nslots args hl]
theorem ic {m:Md} {d sz bytes c:Nat} {l l':List (List AV)} {x:AV} (hx:∀ H,em H sz x=some l') (h1:(l.length+l'.length) * bytes≤aJ) (h2:l.length+l'.length≤aJ) (σ:List AV) (H:ae) :
  fK m (some d) sz bytes (.vs sz (some c) l) x σ H=some (.vs sz (some d) (l++l'),σ.map (cr [c,d]),H):=by
 simp only [fK,oO,hx,Option.bind_some]
 rw [if_pos ⟨trivial,h1,h2⟩]
theorem xJ {m:Md} {d sz bytes c:Nat} {l l':List (List AV)} {x:AV} (hm:m.row (some d)=false) (hx:∀ H,em H sz x=some l') (h0:l≠[]∨l'≠[]) (h1:(l.length+l'.length) * bytes≤aJ) (h2:l.length+l'.length≤aJ) :
  ∃ cs,∀ (σ:List AV) (H:ae),fK m (some d) sz bytes (lst true sz (some c) l) x σ H=some (.vs sz (some d) (l++l'),σ.map (cr cs),H):=by
 rcases bU true sz (some c) l with ⟨_,rfl,e⟩ | ⟨e,h⟩
 ·refine ⟨[d],fun σ H=>?_⟩
  have hl':l'≠[]:=by simpa using h0
  rw [e]
  simp only [fK,hm,Bool.false_eq_true,if_false,oO,hx,Option.bind_some,List.nil_append]
  rw [if_neg (by simpa using hl'),if_pos ⟨by simpa using h1,by simpa using h2⟩]
 ·exact ⟨[c,d],fun σ H=>by rw [e,ic hx h1 h2]⟩
theorem NI:cq .eql .slice bz bz=some (ab true):=rfl
theorem Jm:cq .neq .slice bz bz=some (ab false):=rfl
theorem Jn (r o l c s g:Nat) (e:Bool):cq .eql .slice (.sl r o l c s g e) bz=some (ab false):=rfl
theorem Gp (r o l c s g:Nat) (e:Bool):cq .neq .slice (.sl r o l c s g e) bz=some (ab true):=rfl
attribute [simp] NI Jm Jn Gp
theorem aS {a b:Nat} (h:Nat.ble a b=true):a≤b:=Nat.le_of_ble_eq_true h
theorem ads (v:Value):ac (.c v)=[.c v]:=rfl
theorem Jo:ac .undef=[.undef]:=rfl
theorem RR (r i g:Nat):ac (.ptr r i g)=[.ptr r i g]:=rfl
theorem Vp (r o l c s g:Nat) (e:Bool):ac (.sl r o l c s g e)=[.sl r o l c s g e]:=rfl
theorem Vq (k:Nat) (f:Option Nat) (l:List (List AV)):ac (.vs k f l)=[.vs k f l]:=rfl
theorem Vr (f:FuncId) (l:List AV):ac (.fn f l)=[.fn f l]:=rfl
theorem Jp (t:TypeId) (x:AV):ac (.iface t x)=[.iface t x]:=rfl
theorem RT (xs:List AV):ac (.agg xs)=xs:=rfl
theorem adt (k:IntKind) (x:Int):AV.one (.c (.int k x))=true:=rfl
theorem adu (x:Bool):AV.one (.c (.bool x))=true:=rfl
theorem adv (x:ByteArray):AV.one (.c (.string x))=true:=rfl
theorem adw:AV.one (.c (.slice none 0 0))=true:=rfl
theorem adx:AV.one (.c (.pointer none))=true:=rfl
theorem Vs:AV.one (.c .nilFunc)=true:=rfl
theorem Vt:AV.one (.c .nilIface)=true:=rfl
theorem RU (r i g:Nat):AV.one (.ptr r i g)=true:=rfl
theorem Vu (r o l c s g:Nat) (e:Bool):AV.one (.sl r o l c s g e)=true:=rfl
theorem Vv (k:Nat) (f:Option Nat) (l:List (List AV)):AV.one (.vs k f l)=true:=rfl
theorem Vw (f:FuncId) (l:List AV):AV.one (.fn f l)=true:=rfl
theorem Jq (t:TypeId) (x:AV):AV.one (.iface t x)=true:=rfl
attribute [simp] ads Jo RR Vp Vq Vr Jp RT adt adu adv adw adx Vs Vt RU Vu Vv Vw Jq
end Go.A.V
