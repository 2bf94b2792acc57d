/- THE VALUE MACHINE: its operations as words for simp. -/
import Derived.Test.YtnmobjhmohcjfaaGreatV12
set_option linter.unusedSimpArgs false
set_option linter.unusedVariables false
set_option linter.unnecessarySimpa false
namespace Go.A.V
open Go Go.A
section
variable (m:Md) (C:aL) (d:Option Nat) (σ:List AV) (H:ae)
theorem Nc (x:SX):opV m C d (.mov x) σ H=some (ak σ x,σ,H):=rfl
theorem IJ (c a b:SX):opV m C d (.pick c a b) σ H=(H5 (ak σ c) (ak σ a) (ak σ b)).map fun v=>(v,σ,H):=by
 simp only [opV,H5]
 split<;>simp_all
theorem IK (d:Nat) (zs:List AV):opV m C (some d) (.lnew zs) σ H=some (.lbox zs,σ.map (ad d),H):=rfl
theorem IL (d k:Nat) (x:SX):opV m C (some d) (.lbox k x) σ H=if (ac (ak σ x)).length=k∧(ac (ak σ x)).all be=true then some (.lbox (ac (ak σ x)),σ.map (ad d),H) else none:=rfl
theorem Nd (zs:List AV):opV m C d (.new zs) σ H=some (.ptr H.length 0 zs.length,σ,H++[.row zs]):=rfl
theorem Nf (k:Nat) (x:SX):opV m C d (.box k x) σ H=if (ac (ak σ x)).length=k∧(ac (ak σ x)).all be=true then some (.ptr H.length 0 k,σ,H++[.row (dQ (ac (ak σ x)))]) else none:=rfl
theorem FV (zs:List AV) (ps:List (Nat × Nat × SX)):opV m C d (.build zs ps) σ H=(cv zs (ps.map fun p=>(p.1,p.2.1,ak σ p.2.2))).map fun l=>(.agg l,σ,H):=rfl
def Vm (m:Md) (d:Option Nat) (len sz:Nat) (cs:List AV) (σ:List AV) (H:ae):Option (AV × List AV × ae):=
 if cs.all be=true then (if m.row d=true then some (.sl H.length 0 len len sz (len * sz) true,σ,H++[.row cs])
    else if cs.length=len * sz then some (.vs sz d (fK sz len cs),σ,H) else none) else none
theorem Bt (len sz:Nat) (zs:List AV) (ps:List (Nat × Nat × SX)):opV m C d (.bslice len sz zs ps) σ H=(cv zs (ps.map fun p=>(p.1,p.2.1,pln (ak σ p.2.2)))).bind fun cs=>Vm m d len sz cs σ H:=rfl
theorem IM (k:Option Nat) (x:SX):opV m C d (.load k x) σ H=(sV σ H k (ak σ x)).map fun v=>(v,σ,H):=by
 simp only [opV,sV]
 split<;>simp_all
theorem FW (k:Option Nat) (x v:SX):opV m C d (.store k x v) σ H=(xt m σ H k (ak σ x) (ak σ v)).map fun p=>(.tup [],p.1,p.2):=by
 simp only [opV,xt]
 split
 ·rename_i e;rw [e];simp only;split<;>rfl
 ·rename_i e;rw [e]
 ·rename_i h1 h2
  split
  ·rename_i e;exact (h1 _ _ _ e).elim
  ·rename_i e;exact (h2 _ _ e).elim
  ·rfl
theorem Ng (x:SX):opV m C d (.chk x) σ H=(FQ (ak σ x)).map fun v=>(v,σ,H):=by
 simp only [opV,FQ]
 split<;>simp_all
theorem Nh (op:BinOp) (ek:EqK) (x y:SX):opV m C d (.bin op ek x y) σ H=(uI op ek (ak σ x) (ak σ y)).map fun v=>(v,σ,H):=by
 simp only [opV,uI]
 cases op<;>first | rfl | (cases ek<;>first | rfl | (simp only;split<;>rfl))
theorem RO (op:UnOp) (x:SX):opV m C d (.un op x) σ H=(unA op (ak σ x)).map fun v=>(v,σ,H):=rfl
def IN (k:IntKind):AV→Option AV
 | .c (.int _ n)=>some (.c (.int k (k.wrap n)))
 | _=>none
theorem FX (k:IntKind) (x:SX):opV m C d (.conv (.int k) x) σ H=(IN k (ak σ x)).map fun v=>(v,σ,H):=by
 simp only [opV,IN]
 split<;>simp_all
theorem FY (k k':IntKind) (n:Int):IN k (.c (.int k' n))=some (.c (.int k (k.wrap n))):=rfl
theorem Ni (x:SX):opV m C d (.conv .toStr x) σ H=(Br H (ak σ x)).map fun v=>(v,σ,H):=by
 simp only [opV,Br]
 cases ak σ x with
 | c v=>cases v<;>first | rfl | (rename_i a l c;cases a<;>first | rfl | (cases l<;>first | rfl | (cases c<;>rfl)))
 | vs k f l=>simp only;split<;>first | rfl | (rw [Option.map_map];rfl)
 | sl r off len cap sz g ex=>simp only;rw [Option.map_map];rfl
 | _=>rfl
theorem IP (sz:Nat) (x:SX) (lo hi mx:Option SX):opV m C d (.cut (.slice sz) x lo hi mx) σ H=(iC sz d (ak σ x) (lo.map (ak σ)) (hi.map (ak σ)) (mx.map (ak σ))).map fun v=>(v,σ,H):=by
 simp only [opV,iC]
 split
 ·rename_i e
  rw [e]
  simp only
  split
  ·simp only [Option.map_map,Option.isSome_map];rfl
  ·rfl
 ·rename_i h
  split
  ·rename_i e;exact (h _ _ _ e).elim
  ·rfl
theorem Bu (x:SX) (lo hi mx:Option SX):opV m C d (.cut .str x lo hi mx) σ H=(km .str (ak σ x) (lo.map (ak σ)) (hi.map (ak σ)) (mx.map (ak σ))).map fun v=>(v,σ,H):=rfl
theorem FZ (off:Nat) (x:SX):opV m C d (.faddr off x) σ H=(sW off (ak σ x)).map fun v=>(v,σ,H):=by
 simp only [opV,sW]
 split<;>simp_all
theorem F0 (sz:Nat) (arr:Option Nat) (x i:SX):opV m C d (.iaddr sz arr x i) σ H=(bW sz arr (ak σ x) (ak σ i)).map fun v=>(v,σ,H):=by
 simp only [opV,bW]
 split<;>first | rfl | (split<;>rfl) | skip
 all_goals simp_all
def adq (arr:Option (Nat × Nat × Option Nat)) (x i:AV):Option AV:=match x,i,arr with
  | .agg xs,.c (.int _ j),some (n,sz,k)=>if 0≤j∧j<n then bd k xs (j.toNat * sz) else none
  | .c (.string s),.c (.int _ j),none=>if 0≤j then (s.data.toList[j.toNat]?).map fun b=>.c (.int .u8 b.toNat) else none
  | _,_,_=>none
theorem IQ (n sz:Nat) (k:Option Nat) (xs:List AV) (kk:IntKind) (j:Int):adq (some (n,sz,k)) (.agg xs) (.c (.int kk j))=if 0≤j∧j<n then bd k xs (j.toNat * sz) else none:=rfl
theorem Nj (x:SX) (i:Nat):opV m C d (.ext x i) σ H=(FF i (ak σ x)).map fun v=>(v,σ,H):=by
 simp only [opV,FF]
 split<;>simp_all
theorem IR (f:FuncId) (xs:List SX):opV m C d (.call f xs) σ H=if AV.freeAll (xs.map (ak σ))=true then (C f (dQ (xs.map (ak σ))) H).map fun p=>cV d p.1 σ p.2 else none:=rfl
def Bv (C:aL) (d:Option Nat) (σ:List AV) (H:ae) (v:AV) (as:List AV):Option (AV × List AV × ae):=match v with
 | .fn f cs=>if AV.freeAll as=true then (C f (dQ as++cs) H).map fun p=>cV d p.1 σ p.2 else none
 | _=>none
theorem F1 (x:SX) (xs:List SX):opV m C d (.callv x xs) σ H=Bv C d σ H (ak σ x) (xs.map (ak σ)):=by
 simp only [opV,Bv]
 split<;>simp_all
theorem F2 (f:FuncId) (cs as:List AV):Bv C d σ H (.fn f cs) as=if AV.freeAll as=true then (C f (dQ as++cs) H).map fun p=>cV d p.1 σ p.2 else none:=rfl
theorem Bw (sz bytes:Nat) (s x:SX):opV m C d (.append sz bytes s x) σ H=fy m d sz bytes (ak σ s) (ak σ x) σ H:=by
 have:opV m C d (.append sz bytes s x) σ H=match d,ak σ s with
  | some d',.c (.slice none 0 0)=>if m.row (some d')=true then (dY H sz (ak σ x)).bind fun l'=>if l'=[] then some (ak σ s,σ,H) else
     if l'.length * bytes≤aw∧l'.length≤aw then some (.sl H.length 0 l'.length l'.length sz (l'.length * sz) false,σ,H++[.grow l'.flatten 0]) else none
    else oB d' sz bytes (ak σ s) (ak σ x) σ H
  | some d',.vs k f l=>oB d' sz bytes (.vs k f l) (ak σ x) σ H
  | _,.sl r off len cap sz' g ex=>if m.wr=true then (dY H sz (ak σ x)).bind fun l'=>if l'=[] then (if len≤cap then some (.sl r off len cap sz' g ex,σ,H) else none) else
     if off=0∧cap=len∧(cap≠0∧ex=false)∧sz'=sz∧g=len * sz∧(len+l'.length) * bytes≤aw∧len+l'.length≤aw then (match H[r]? with
      | some o=>if o.isW=true∧o.cells.length=g then some (.sl r 0 (len+l'.length) (len+l'.length) sz (g+l'.length * sz) false,σ,H.set r (.grow (o.cells++l'.flatten) o.lo)) else none
      | none=>none)
     else if len+l'.length≤cap then (dH H r (off+len * sz) g l'.flatten).map fun H'=>(.sl r off (len+l'.length) cap sz' g ex,σ,H') else none
    else none
  | _,_=>none:=rfl
 rw [this]
 unfold fy
 cases d<;>cases hv:ak σ s<;>first | rfl | skip
 rename_i v
 cases v<;>first | rfl | skip
 rename_i a l c
 cases a<;>first | rfl | skip
 cases l<;>first | rfl | skip
 cases c<;>rfl
def vB (m:Md) (sz:Nat) (x y:AV) (H:ae):Option (AV × ae):=(dY H sz y).bind fun l'=>match x with
  | .sl r off len _ _ g _=>if l'=[] then some (.c (.int .i64 0),H) else if m.wr=true∧l'.length≤len then (dH H r off g l'.flatten).map fun H'=>(.c (.int .i64 l'.length),H') else none
  | _=>none
theorem IS (sz:Nat) (x y:SX):opV m C d (.copy sz x y) σ H=(vB m sz (ak σ x) (ak σ y) H).map fun p=>(p.1,σ,p.2):=by
 simp only [opV,vB]
 cases dY H sz (ak σ y) with
 | none=>rfl
 | some l' =>
  simp only [Option.bind_some]
  cases ak σ x with
  | sl r off len cap z g ex =>
   simp only
   split
   ·rfl
   ·split
    ·rw [Option.map_map];rfl
    ·rfl
  | _=>rfl
def DM (H:ae):AV→Option (AV × ae)
 | .c (.int .i64 n)=>if 0≤n∧n≤aw then some (.sl H.length 0 n.toNat n.toNat 1 (n.toNat * 1) false,H++[.grow (List.replicate (n.toNat * 1) .undef) 0]) else none
 | _=>none
theorem IT (x:SX):opV m C d (.mknz x) σ H=(DM H (ak σ x)).map fun p=>(p.1,σ,p.2):=by
 simp only [opV,DM]
 split
 ·rename_i e;rw [e];simp only;split<;>rfl
 ·rename_i h
  split
  ·rename_i e;exact (h _ e).elim
  ·rfl
theorem Nk (x:SX):opV m C d (.len .sl x) σ H=(xq (ak σ x)).map fun n=>(ai n,σ,H):=by
 simp only [opV,xq]
 split<;>simp_all
theorem Bx (n:Nat) (x:SX):opV m C d (.len (.arr n) x) σ H=some (ai n,σ,H):=rfl
theorem By (x:SX):opV m C d (.len .str x) σ H=(match ak σ x with
  | .c (.string s)=>some (.c (.int .i64 s.size),σ,H)
  | _=>none):=rfl
theorem IU (x y:SX):opV m C d (.min [x,y]) σ H=(Iw (ak σ x) (ak σ y)).map fun v=>(v,σ,H):=by
 simp only [opV,List.map_cons,List.map_nil,Iw]
 cases ak σ x with
 | c v=>cases v<;>first | rfl | (simp only [List.foldlM_cons,List.foldlM_nil];cases ak σ y with
  | c u=>cases u<;>rfl
  | _=>rfl)
 | _=>rfl
def mx (x y:Int):Int:=if y > x then y else x
def Vn:AV→AV→Option AV
 | .c (.int k x),.c (.int _ y)=>some (.c (.int k (mx x y)))
 | _,_=>none
theorem Nl (k k':IntKind) (a b:Int):Vn (.c (.int k a)) (.c (.int k' b))=some (.c (.int k (mx a b))):=rfl
theorem IV (f:FuncId) (cs:List SX):opV m C d (.mkfn f cs) σ H=if AV.freeAll (cs.map (ak σ))=true then some (.fn f (dQ (cs.map (ak σ))),σ,H) else none:=rfl
theorem IW (t:TypeId) (x:SX):opV m C d (.mkif t x) σ H=if AV.free (ak σ x)=true then some (.iface t (pln (ak σ x)),σ,H) else none:=rfl
theorem runOps_nil:runOps m C [] σ H=some (σ,H):=rfl
theorem runOps_0 {op:SOp} {r:List SOpG}:runOps m C (⟨d,op,none⟩ :: r) σ H=(opV m C d op σ H).bind fun x=>runOps m C r (cJ x.2.1 d x.1) x.2.2:=rfl
theorem F3 (dd:Nat) (z:Bool) (k:Nat) (f:Option Nat) (l:List (List AV)):cV (some dd) (lst z k f l) σ H=(lst z k (f.map fun _=>dd) l,σ.map (bV [dd]),H):=by
 rcases bH z k f l with ⟨rfl,rfl,e⟩ | ⟨e,h⟩
 ·rw [e];rfl
 ·rw [e]
  simp only [cV,lst]
  rw [if_neg h]
theorem IX (dd:Nat) (k:Nat) (f:Option Nat) (l:List (List AV)):cV (some dd) (.vs k f l) σ H=(.vs k (f.map fun _=>dd) l,σ.map (bV [dd]),H):=rfl
theorem F4 (dd:Nat):cV (some dd) bc σ H=(bc,σ.map (bV [dd]),H):=rfl
theorem F5 (k:IntKind) (n:Int):cV d (.c (.int k n)) σ H=(.c (.int k n),σ,H):=by cases d<;>rfl
theorem Bz (n:Bool):cV d (ab n) σ H=(ab n,σ,H):=by cases d<;>rfl
theorem F6 (r i g:Nat):cV d (.ptr r i g) σ H=(.ptr r i g,σ,H):=by cases d<;>rfl
theorem BA:cV d (.tup []) σ H=(.tup [],σ,H):=by cases d<;>simp [cV]
theorem BB (k:IntKind) (n:Int) (r:List AV):cV d (.tup (.c (.int k n) :: r)) σ H=(.tup (.c (.int k n) :: dQ r),σ,H):=by cases d<;>simp [cV]
theorem BC (xs r:List AV):cV d (.tup (.agg xs :: r)) σ H=(.tup (.agg (dQ xs) :: dQ r),σ,H):=by cases d<;>simp [cV]
theorem BD (dd:Nat) (k:Nat) (f:Option Nat) (l:List (List AV)) (r:List AV):cV (some dd) (.tup (.vs k f l :: r)) σ H=(.tup (.vs k (f.map fun _=>dd) l :: dQ r),σ.map (bV [dd]),H):=rfl
theorem BE (dd:Nat) (r:List AV):cV (some dd) (.tup (bc :: r)) σ H=(.tup (bc :: dQ r),σ.map (bV [dd]),H):=rfl
theorem sZ (dd:Nat) (z:Bool) (k:Nat) (f:Option Nat) (l:List (List AV)) (r:List AV):cV (some dd) (.tup (lst z k f l :: r)) σ H=(.tup (lst z k (f.map fun _=>dd) l :: dQ r),σ.map (bV [dd]),H):=by
 rcases bH z k f l with ⟨rfl,rfl,e⟩ | ⟨e,h⟩
 ·rw [e];rfl
 ·rw [e]
  simp only [cV,lst]
  rw [if_neg h]
theorem F7 (xs:List AV):cV d (.agg xs) σ H=(.agg (dQ xs),σ,H):=by cases d<;>simp [cV]
theorem BF (v:AV):cV none v σ H=(pln v,σ,H):=rfl
end
def xu (m:Md) (C:aL):List DOp→List AV→ae→Option (List AV × ae)
 | [],σ,H=>some (σ,H)
 | d :: r,σ,H=>(eH m C d.o σ H).bind fun p=>xu m C r p.1 p.2
theorem s5 (W:FuncId→Bool) (m:Md) (C:aL):∀ (ops:List DOp) (acc:List (DOp × Bool)) (σ:List AV) (H:ae),ops.all (fun d=>d.un.isEmpty)=true→runD W m C acc ops σ H=xu m C ops σ H
 | [],_,_,_,_=>rfl
 | d :: r,acc,σ,H,h=>by
  simp only [List.all_cons,Bool.and_eq_true] at h
  simp only [runD,xu]
  congr 1
  funext x
  have hd:d.un=[]:=by simpa using h.1
  rw [if_pos (by simp [hd]),s5 W m C r _ _ _ h.2]
theorem zp {p:VP} {f:FuncId} {σ:List AV} {H:ae} (ks:List Nat) (ops:List DOp) (h:ops.all (fun d=>d.un.isEmpty)=true):execW p f (.drawn ks ops) σ H=(xu (p.md f) (rB p f) ops (kill ks σ) H).map fun x=>⟨.normal,x.1,x.2⟩:=by
 rw [execW_drawn,s5 _ _ _ _ _ _ _ h]
theorem IY (m:Md) (C:aL) (σ:List AV) (H:ae):xu m C [] σ H=some (σ,H):=rfl
theorem F8 (m:Md) (C:aL) (d:DOp) (r:List DOp) (σ:List AV) (H:ae):xu m C (d :: r) σ H=(eH m C d.o σ H).bind fun p=>xu m C r p.1 p.2:=by rw [xu]
section
variable (m:Md) (C:aL) (d:Option Nat) (op:SOp) (σ:List AV) (H:ae)
theorem Nm (h:dk σ d=false):eH m C ⟨d,op,none⟩ σ H=(opV m C d op σ H).bind (qE op d):=by
 unfold eH
 rw [if_neg (fun h'=>absurd h'.2 (by rw [h];simp))]
 rfl
end
theorem IZ (r i g:Nat):FQ (.ptr r i g)=some (.ptr r i g):=rfl
theorem F9 (d i:Nat):FQ (.lptr d i)=some (.lptr d i):=rfl
theorem Nn (f:FuncId) (l:List AV):FQ (.fn f l)=some (.fn f l):=rfl
theorem No (l:List AV) (i:Nat):FQ (.vp l i)=some (.vp l i):=rfl
theorem BG (off r i g:Nat):sW off (.ptr r i g)=some (.ptr r (i+off) g):=rfl
theorem zq (off d i:Nat):sW off (.lptr d i)=some (.lptr d (i+off)):=rfl
theorem Ga (off i:Nat) (l:List AV):sW off (.vp l i)=some (.vp l (i+off)):=rfl
attribute [simp] Nc IJ IK IL Nd Nf FV Bt IM FW Ng Nh RO FX FY Ni IS IT IP Bu FZ F0 IQ Nj IR F1 F2 Bw Nk Bx By IU Nl IV IW
attribute [simp] runOps_nil runOps_0 F3 IX F4 F5 Bz F6 BA BB BC BD BE sZ F7 BF IY F8
attribute [simp] execW_seq execW_region execW_ret execW_skip execW_label execW_exit execW_goto execW_block execW_cond execW_scope
attribute [simp] RM M7 M8 zk IE FP Bn Bo zn IZ F9 Nn No BG zq Ga FR Bp zo FS M9 IF IG IH FT FU Bq Na II Nb cR elems_lst Vm fK
def gd {α:Type} (w:Option Bool) (x y:Option α):Option α:=match w with
 | some true=>x
 | some false=>y
 | none=>none
theorem Np {α:Type} {w w':Option Bool} (x y:Option α) (h:w=w'):gd w x y=gd w' x y:=by rw [h]
theorem adr {α:Type} (b:Bool) (x y:Option α):gd (some b) x y=if b=true then x else y:=by cases b<;>rfl
theorem I0 (m:Md) (C:aL) (d:Option Nat) (op:SOp) (i:Nat) (b:Bool) (r:List SOpG) (σ:List AV) (H:ae):runOps m C (⟨d,op,some (i,b)⟩ :: r) σ H =
  gd (wanted σ (some (i,b))) ((opV m C d op σ H).bind fun x=>runOps m C r (cJ x.2.1 d x.1) x.2.2) (runOps m C r (cJ σ d (.tup [])) H):=by
 simp only [runOps,gd]
 rfl
theorem Nq (m:Md) (C:aL) (d:Option Nat) (op:SOp) (i:Nat) (b:Bool) (σ:List AV) (H:ae) (h:dk σ d=false):eH m C ⟨d,op,some (i,b)⟩ σ H =
  gd (wanted σ (some (i,b))) ((opV m C d op σ H).bind (qE op d)) (some (cJ σ d (.tup []),H)):=by
 unfold eH
 rw [if_neg (fun h'=>absurd h'.2 (by rw [h];simp))]
 rfl
attribute [congr] Np
attribute [simp] adr
theorem xw {p:VP} {f:FuncId} {σ:List AV} {H:ae} (ks:List Nat) (ops:List DOp):execW p f (.drawn ks ops) σ H=(if (ops.all fun d=>d.un.isEmpty)=true then xu (p.md f) (rB p f) ops (kill ks σ) H else runD p.W (p.md f) (rB p f) [] ops (kill ks σ) H).map fun x=>⟨.normal,x.1,x.2⟩:=by
 split
 ·rename_i h;exact zp ks ops h
 ·exact execW_drawn _ _ _ _ _ _
theorem I1 (m:Md) (C:aL) (d:Option Nat) (op:SOp) (σ:List AV) (H:ae):eH m C ⟨d,op,none⟩ σ H=if dk σ d=true then (if op.cls=.eff then (opV m C d op σ H).bind (qE op d) else none) else (opV m C d op σ H).bind (qE op d):=by
 split
 ·rename_i h
  split
  ·rename_i h2
   unfold eH
   rw [if_neg (fun h'=>h'.1 h2)]
   rfl
  ·rename_i h2
   unfold eH
   rw [if_pos ⟨h2,h⟩]
 ·rename_i h;exact Nm m C d op σ H (by simpa using h)
theorem I2 (m:Md) (C:aL) (d:Option Nat) (op:SOp) (i:Nat) (b:Bool) (σ:List AV) (H:ae):eH m C ⟨d,op,some (i,b)⟩ σ H=if dk σ d=true then (if op.cls=.eff then gd (wanted σ (some (i,b))) ((opV m C d op σ H).bind (qE op d)) (some (cJ σ d (.tup []),H)) else none) else
  gd (wanted σ (some (i,b))) ((opV m C d op σ H).bind (qE op d)) (some (cJ σ d (.tup []),H)):=by
 split
 ·rename_i h
  split
  ·rename_i h2
   unfold eH
   rw [if_neg (fun h'=>h'.1 h2)]
   rfl
  ·rename_i h2
   unfold eH
   rw [if_pos ⟨h2,h⟩]
 ·rename_i h;exact Nq m C d op i b σ H (by simpa using h)
attribute [simp] I0 I1 I2 xw runD cw aK aP
theorem I3 (c:Bool) (n0:Nat) (v:AV) (H:ae):ky true c n0 v H=some (lJ c v,H):=rfl
theorem Nr (v:AV):lJ false v=ly v:=rfl
theorem Ns (v:AV):lJ true v=nk v:=rfl
theorem I4 (c:Bool) (n0:Nat) (v:AV) (H:ae):ky false c n0 v H=(frz n0 H v).map fun v'=>(lJ c v',H.take n0++List.replicate (H.length - n0) .other):=rfl
theorem Vo (n0:Nat) (H:ae) (v:Value):frz n0 H (.c v)=some (.c v):=by simp only [frz]
theorem RP (n0:Nat) (H:ae) (k:Nat) (f:Option Nat) (l:List (List AV)):frz n0 H (.vs k f l)=some (.vs k f l):=by simp only [frz]
theorem DN (n0:Nat) (H:ae) (z:Bool) (k:Nat) (f:Option Nat) (l:List (List AV)):frz n0 H (lst z k f l)=some (lst z k f l):=by
 rcases bH z k f l with ⟨_,_,e⟩ | ⟨e,_⟩<;>rw [e]<;>simp only [frz]
theorem Nt (n0:Nat) (H:ae) (xs:List AV):frz n0 H (.tup xs)=(nb n0 H xs).map .tup:=by simp only [frz]
theorem Nu (n0:Nat) (H:ae) (xs:List AV):frz n0 H (.agg xs)=(nb n0 H xs).map .agg:=by simp only [frz]
theorem I5 (n0:Nat) (H:ae):nb n0 H []=some []:=by simp only [nb]
theorem Gb (n0:Nat) (H:ae) (x:AV) (r:List AV):nb n0 H (x :: r)=(frz n0 H x).bind fun y=>(nb n0 H r).map fun z=>y :: z:=by simp only [nb]
theorem RQ (v:Value):ly (.c v)=.c v:=rfl
theorem I6 (l:List AV):ly (.tup l)=.tup (dQ l):=by simp only [ly,pln]
theorem I7 (l:List AV):ly (.agg l)=.agg (dQ l):=by simp only [ly,pln]
theorem DO (k:Nat) (f:Option Nat) (l:List (List AV)):ly (.vs k f l)=.vs k (f.map fun _=>0) l:=by cases f<;>rfl
theorem I8 (z:Bool) (k:Nat) (f:Option Nat) (l:List (List AV)):ly (lst z k f l)=lst z k (f.map fun _=>0) l:=by
 rcases bH z k f l with ⟨rfl,rfl,e⟩ | ⟨e,h⟩
 ·rw [e];rfl
 ·rw [e,DO,lst,if_neg h]
theorem I9 (r i g:Nat):ly (.ptr r i g)=.ptr r i g:=rfl
theorem Nv (b:Bool) (v:Value):lJ b (.c v)=.c v:=by cases b<;>rfl
theorem s6 (k:Nat) (f:Option Nat) (l:List (List AV)) (r:List AV):nk (.tup (.vs k f l :: r))=.tup (.vs k (f.map fun _=>0) l :: dQ r):=by cases f<;>simp [nk,pln,dQ]
theorem s7 (r:List AV):nk (.tup (bc :: r))=.tup (bc :: dQ r):=by simp [nk,pln,dQ]
theorem BI (z:Bool) (k:Nat) (f:Option Nat) (l:List (List AV)) (r:List AV):nk (.tup (lst z k f l :: r))=.tup (lst z k (f.map fun _=>0) l :: dQ r):=by
 rcases bH z k f l with ⟨rfl,rfl,e⟩ | ⟨e,h⟩
 ·rw [e,s7];rfl
 ·rw [e,s6,lst,if_neg h]
attribute [simp] I3 I4 Vo RP DN Nt Nu I5 Gb RQ I6 I7 DO I8 I9 Nr Ns Nv s6 s7 BI
theorem Ja {α β:Type} (c:Prop) [Decidable c] (x y:Option α) (K:α→Option β):(if c then x else y).bind K=if c then x.bind K else y.bind K:=by split<;>rfl
theorem Nw {α β:Type} (c:Prop) [Decidable c] (x y:Option α) (K:α→β):(if c then x else y).map K=if c then x.map K else y.map K:=by split<;>rfl
attribute [simp] Ja Nw
theorem aH {p:VP} {f:FuncId} {s:aW} {args:List AV} {H:ae} (k:Nat) (hx:p.X f args H=none) (ht:p.T f=some s) (hl:args.length≤s.nslots):callW p f args H =
  (execW p f s.body (L s.nslots (lN 0 args (Tr.full k))) H).bind fun st =>
    if st.e.ends=true then (aA s.res st.σ).bind fun v=>if v.free=true then ky (p.K f) (p.C f) H.length v st.H else none else none:=by
 rw [callW_eq,hx]
 simp only [ht,Option.bind_some]
 rw [sP k s.nslots args hl]
theorem gU {m:Md} {d sz bytes c:Nat} {l l':List (List AV)} {x:AV} (hx:∀ H,dY H sz x=some l') (h1:(l.length+l'.length) * bytes≤aw) (h2:l.length+l'.length≤aw) (σ:List AV) (H:ae) :
  fy m (some d) sz bytes (.vs sz (some c) l) x σ H=some (.vs sz (some d) (l++l'),σ.map (bV [c,d]),H):=by
 simp only [fy,oB,hx,Option.bind_some]
 rw [if_pos ⟨trivial,h1,h2⟩]
theorem xy {m:Md} {d sz bytes c:Nat} {l l':List (List AV)} {x:AV} (hm:m.row (some d)=false) (hx:∀ H,dY H sz x=some l') (h0:l≠[]∨l'≠[]) (h1:(l.length+l'.length) * bytes≤aw) (h2:l.length+l'.length≤aw) :
  ∃ cs,∀ (σ:List AV) (H:ae),fy m (some d) sz bytes (lst true sz (some c) l) x σ H=some (.vs sz (some d) (l++l'),σ.map (bV cs),H):=by
 rcases bH true sz (some c) l with ⟨_,rfl,e⟩ | ⟨e,h⟩
 ·refine ⟨[d],fun σ H=>?_⟩
  have hl':l'≠[]:=by simpa using h0
  rw [e]
  simp only [fy,hm,Bool.false_eq_true,if_false,oB,hx,Option.bind_some,List.nil_append]
  rw [if_neg (by simpa using hl'),if_pos ⟨by simpa using h1,by simpa using h2⟩]
 ·exact ⟨[c,d],fun σ H=>by rw [e,gU hx h1 h2]⟩
theorem Nx:bU .eql .slice bc bc=some (ab true):=rfl
theorem Jb:bU .neq .slice bc bc=some (ab false):=rfl
theorem Jc (r o l c s g:Nat) (e:Bool):bU .eql .slice (.sl r o l c s g e) bc=some (ab false):=rfl
theorem Gc (r o l c s g:Nat) (e:Bool):bU .neq .slice (.sl r o l c s g e) bc=some (ab true):=rfl
attribute [simp] Nx Jb Jc Gc
theorem aF {a b:Nat} (h:Nat.ble a b=true):a≤b:=Nat.le_of_ble_eq_true h
theorem ads (v:Value):ac (.c v)=[.c v]:=rfl
theorem Jd:ac .undef=[.undef]:=rfl
theorem RR (r i g:Nat):ac (.ptr r i g)=[.ptr r i g]:=rfl
theorem Vp (r o l c s g:Nat) (e:Bool):ac (.sl r o l c s g e)=[.sl r o l c s g e]:=rfl
theorem Vq (k:Nat) (f:Option Nat) (l:List (List AV)):ac (.vs k f l)=[.vs k f l]:=rfl
theorem Vr (f:FuncId) (l:List AV):ac (.fn f l)=[.fn f l]:=rfl
theorem Je (t:TypeId) (x:AV):ac (.iface t x)=[.iface t x]:=rfl
theorem RT (xs:List AV):ac (.agg xs)=xs:=rfl
theorem adt (k:IntKind) (x:Int):AV.one (.c (.int k x))=true:=rfl
theorem adu (x:Bool):AV.one (.c (.bool x))=true:=rfl
theorem adv (x:ByteArray):AV.one (.c (.string x))=true:=rfl
theorem adw:AV.one (.c (.slice none 0 0))=true:=rfl
theorem adx:AV.one (.c (.pointer none))=true:=rfl
theorem Vs:AV.one (.c .nilFunc)=true:=rfl
theorem Vt:AV.one (.c .nilIface)=true:=rfl
theorem RU (r i g:Nat):AV.one (.ptr r i g)=true:=rfl
theorem Vu (r o l c s g:Nat) (e:Bool):AV.one (.sl r o l c s g e)=true:=rfl
theorem Vv (k:Nat) (f:Option Nat) (l:List (List AV)):AV.one (.vs k f l)=true:=rfl
theorem Vw (f:FuncId) (l:List AV):AV.one (.fn f l)=true:=rfl
theorem Jf (t:TypeId) (x:AV):AV.one (.iface t x)=true:=rfl
attribute [simp] ads Jd RR Vp Vq Vr Je RT adt adu adv adw adx Vs Vt RU Vu Vv Vw Jf
end Go.A.V
