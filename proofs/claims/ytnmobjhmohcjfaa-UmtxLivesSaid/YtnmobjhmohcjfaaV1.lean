/- THE VALUE MACHINE: slices that nobody writes are values with their elements inside; it runs as the abstract machine does. -/
import Derived.Test.YtnmobjhmohcjfaaA19
set_option linter.unusedSimpArgs false
set_option linter.unusedVariables false
set_option linter.unnecessarySimpa false
namespace Go.A.V
open Go Go.A
mutual
def unfl (cs : List Nat) : AV → AV
 | .vs k f l => .vs k (match f with | some c => if cs.contains c then none else some c | none => none) l
 | .agg xs => .agg (unfls cs xs)
 | .tup xs => .tup (unfls cs xs)
 | .lbox xs => .lbox (unfls cs xs)
 | v => v
def unfls (cs : List Nat) : List AV → List AV
 | [] => []
 | x :: r => unfl cs x :: unfls cs r
end
mutual
def pln : AV → AV
 | .vs k _ l => .vs k none l
 | .agg xs => .agg (plns xs)
 | .tup xs => .tup (plns xs)
 | .lbox xs => .lbox (plns xs)
 | v => v
def plns : List AV → List AV
 | [] => []
 | x :: r => pln x :: plns r
end
def isC : AV → Bool
 | .c _ => true
 | _ => false
def chunk (k : Nat) : Nat → List AV → List (List AV)
 | 0,_ => []
 | n + 1,cs => cs.take k :: chunk k n (cs.drop k)
structure Md where
 wr : Bool
 rows : List Nat
def Md.row (m : Md) : Option Nat → Bool
 | some d => m.rows.contains d
 | none => true
def elems (H : Heap) (sz : Nat) : AV → Option (List (List AV))
 | .sl r off len _ _ g _ => if sz = 0 then none else (rdRow0 H r off (len * sz) g).bind fun cs => if cs.all okCell = true then some (chunk sz len cs) else none
 | .c (.slice none 0 0) => some []
 | .vs k _ l => if k = sz then some l else none
 | .c (.string s) => if sz = 1 then some (s.data.toList.map fun b => [.c (.int .u8 b.toNat)]) else none
 | .imm cs => if sz = 1 ∧ (cs.all fun v => okCell (.c v)) = true then some (cs.map fun v => [.c v]) else none
 | _ => none
def appV (d : Nat) (sz bytes : Nat) (s x : AV) (σ : List AV) (H : Heap) : Option (AV × List AV × Heap) :=
 (elems H sz x).bind fun l' => match s with
 | .c (.slice none 0 0) => if l'.isEmpty = true then some (s,σ.map (unfl [d]),H) else
   if l'.length * bytes ≤ appBound ∧ l'.length ≤ appBound then some (.vs sz (some d) l',σ.map (unfl [d]),H) else none
 | .vs k (some c) l => if k = sz ∧ (l.length + l'.length) * bytes ≤ appBound ∧ l.length + l'.length ≤ appBound then
   some (.vs sz (some d) (l ++ l'),σ.map (unfl [c,d]),H) else none
 | _ => none
def recol (d : Option Nat) (v : AV) (σ : List AV) (H : Heap) : AV × List AV × Heap :=
 match d with
 | some d => (match v with
  | .vs k f l => (.vs k (f.map fun _ => d) l,σ.map (unfl [d]),H)
  | .c (.slice none 0 0) => (v,σ.map (unfl [d]),H)
  | .tup (.vs k f l :: r) => (.tup (.vs k (f.map fun _ => d) l :: plns r),σ.map (unfl [d]),H)
  | .tup (.c (.slice none 0 0) :: r) => (.tup (.c (.slice none 0 0) :: plns r),σ.map (unfl [d]),H)
  | v => (pln v,σ,H))
 | none => (pln v,σ,H)
def isNilC : AV → Bool
 | .c (.slice none 0 0) => true
 | _ => false
def isVs : AV → Bool
 | .vs _ _ _ => true
 | _ => false
def opV (m : Md) (C : Oracle) (d : Option Nat) (so : SOp) (σ : List AV) (H : Heap) : Option (AV × List AV × Heap) :=
 let e := evalX σ
 match so with
 | .bad => none
 | .mov x => some (e x,σ,H)
 | .pick c a b => match e c with
  | .c (.bool true) => some (e a,σ,H)
  | .c (.bool false) => some (e b,σ,H)
  | _ => none
 | .lnew zs => match d with
  | some d => some (.lbox zs,σ.map (forget d),H)
  | none => none
 | .lbox k x => match d with
  | some d => if (toCells (e x)).length = k ∧ (toCells (e x)).all okCell = true then some (.lbox (toCells (e x)),σ.map (forget d),H) else none
  | none => none
 | .new zs => some (.ptr H.length 0 zs.length,σ,H ++ [.row zs])
 | .box k x => if (toCells (e x)).length = k ∧ (toCells (e x)).all okCell = true then some (.ptr H.length 0 k,σ,H ++ [.row (plns (toCells (e x)))]) else none
 | .build zs ps => (placeAll zs (ps.map fun (o,k,x) => (o,k,e x))).map fun l => (.agg l,σ,H)
 | .bslice len sz zs ps => (placeAll zs (ps.map fun (o,k,x) => (o,k,pln (e x)))).bind fun cs =>
   if cs.all okCell = true then (if m.row d = true then some (.sl H.length 0 len len sz (len * sz) true,σ,H ++ [.row cs])
    else if cs.length = len * sz then some (.vs sz d (chunk sz len cs),σ,H) else none) else none
 | .load k x => match e x with
  | .vp cs i => (fromCells k cs i).map fun v => (v,σ,H)
  | a => (loadA σ H k a).map fun v => (v,σ,H)
 | .store k x v => match e x with
  | .ptr r i g => if m.wr = true then (storeA σ H k (.ptr r i g) (pln (e v))).map fun (σ',H') => (.tup [],σ',H') else none
  | .lptr s i => (storeA σ H k (.lptr s i) (e v)).map fun (σ',H') => (.tup [],σ',H')
  | _ => none
 | .chk x => match e x with
  | .ptr r i g => some (.ptr r i g,σ,H)
  | .lptr d i => some (.lptr d i,σ,H)
  | .fn f cs => some (.fn f cs,σ,H)
  | .iface t v => some (.iface t v,σ,H)
  | .vp cs i => some (.vp cs i,σ,H)
  | _ => none
 | .bin op ek x y => match op,ek with
  | .eql,.slice => if isVs (e x) = true ∧ isNilC (e y) = true ∨ isNilC (e x) = true ∧ isVs (e y) = true then some (.c (.bool false),σ,H) else (binA .eql .slice (e x) (e y)).map fun v => (v,σ,H)
  | .neq,.slice => if isVs (e x) = true ∧ isNilC (e y) = true ∨ isNilC (e x) = true ∧ isVs (e y) = true then some (.c (.bool true),σ,H) else (binA .neq .slice (e x) (e y)).map fun v => (v,σ,H)
  | op,ek => (binA op ek (e x) (e y)).map fun v => (v,σ,H)
 | .un op x => (unA op (e x)).map fun v => (v,σ,H)
 | .conv k x => match k,e x with
  | .int k,.c (.int _ n) => some (.c (.int k (k.wrap n)),σ,H)
  | .same,.c (.string s) => some (.c (.string s),σ,H)
  | .toStr,.c (.slice none 0 0) => some (.c (.string ⟨#[]⟩),σ,H)
  | .toStr,.vs k _ l => if k = 1 then (bytesOf l.flatten).map fun l => (.c (.string ⟨l.toArray⟩),σ,H) else none
  | .toStr,.sl r off len _ _ g _ => ((rdRow0 H r off len g).bind bytesOf).map fun l => (.c (.string ⟨l.toArray⟩),σ,H)
  | .toBytes,.c (.string s) => if s.size ≤ appBound then some (.vs 1 none (s.data.toList.map fun b => [.c (.int .u8 b.toNat)]),σ,H) else none
  | _,_ => none
 | .mknz sz bytes s x => match e x,s.map e with
  | .c (.int .i64 n),none => if 0 ≤ n ∧ n ≤ appBound then some (.sl H.length 0 n.toNat n.toNat 1 (n.toNat * 1) false,σ,H ++ [.grow (List.replicate (n.toNat * 1) .undef) 0]) else none
  | .c (.int .i64 n),some (.c (.slice none 0 0)) => if 0 < n ∧ n ≤ appBound ∧ n.toNat * bytes ≤ appBound then some (.sl H.length 0 n.toNat n.toNat sz (n.toNat * sz) false,σ,H ++ [.grow (List.replicate (n.toNat * sz) .undef) 0]) else none
  | _,_ => none
 | .mks sz bytes zs l c => match e l,e c with
  | .c (.int _ l),.c (.int _ c) => if 0 ≤ l ∧ l ≤ c ∧ c ≤ appBound ∧ c * bytes ≤ appBound then
    some (.sl H.length 0 l.toNat c.toNat sz (c.toNat * sz) true,σ,H ++ [.row (rep zs c.toNat)]) else none
  | _,_ => none
 | .cut (.arr n sz) x lo hi mx => match e x with
  | .ptr r i g => (cutBounds n n (lo.map e) (hi.map e) (mx.map e)).map fun (l,h,m) => (.sl r (if m = l then i else i + l * sz) (h - l) (m - l) sz g true,σ,H)
  | _ => none
 | .cut .str x lo hi mx => (cutA .str (e x) (lo.map e) (hi.map e) (mx.map e)).map fun v => (v,σ,H)
 | .cut (.slice sz) x lo hi mx => match e x with
  | .vs k _ l => if k = sz then (cutBounds l.length l.length (lo.map e) (hi.map e) (mx.map e)).map fun (a,h,c) => (.vs k (if mx.isSome = true ∧ h = c then d else none) ((l.take h).drop a),σ,H) else none
  | x => (cutA (.slice sz) x (lo.map e) (hi.map e) (mx.map e)).map fun v => (v,σ,H)
 | .faddr off x => match e x with
  | .ptr r i g => some (.ptr r (i + off) g,σ,H)
  | .lptr d i => some (.lptr d (i + off),σ,H)
  | .vp cs i => some (.vp cs (i + off),σ,H)
  | _ => none
 | .fld off k x => match e x with
  | .agg xs => (fromCells k xs off).map fun v => (v,σ,H)
  | _ => none
 | .iaddr sz arr x i => match e x,e i,arr with
  | .vs k _ l,.c (.int _ j),none => if k = sz ∧ 0 ≤ j ∧ j < l.length then some (.vp (l.getD j.toNat []) 0,σ,H) else none
  | .sl r off len _ _ g _,.c (.int _ j),none => if 0 ≤ j ∧ j < len then some (.ptr r (off + j.toNat * sz) g,σ,H) else none
  | .ptr r o g,.c (.int _ j),some n => if 0 ≤ j ∧ j < n then some (.ptr r (o + j.toNat * sz) g,σ,H) else none
  | .lptr d o,.c (.int _ j),some n => if 0 ≤ j ∧ j < n then some (.lptr d (o + j.toNat * sz),σ,H) else none
  | .vp cs o,.c (.int _ j),some n => if 0 ≤ j ∧ j < n then some (.vp cs (o + j.toNat * sz),σ,H) else none
  | _,_,_ => none
 | .idx arr x i => match e x,e i,arr with
  | .agg xs,.c (.int _ j),some (n,sz,k) => if 0 ≤ j ∧ j < n then (fromCells k xs (j.toNat * sz)).map fun v => (v,σ,H) else none
  | .c (.string s),.c (.int _ j),none => if 0 ≤ j then (s.data.toList[j.toNat]?).map fun b => (.c (.int .u8 b.toNat),σ,H) else none
  | _,_,_ => none
 | .ext x i => match e x with
  | .tup xs => (xs[i]?).map fun v => (v,σ,H)
  | _ => none
 | .call f xs => if AV.freeAll (xs.map e) = true then (C f (plns (xs.map e)) H).map fun (v,H') => recol d v σ H' else none
 | .callv x xs => match e x with
  | .fn f cs => if AV.freeAll (xs.map e) = true then (C f (plns (xs.map e) ++ cs) H).map fun (v,H') => recol d v σ H' else none
  | _ => none
 | .append sz bytes s x => match d,e s with
  | some d',.c (.slice none 0 0) => if m.row (some d') = true then (elems H sz (e x)).bind fun l' => if l' = [] then some (e s,σ,H) else
     if l'.length * bytes ≤ appBound ∧ l'.length ≤ appBound then some (.sl H.length 0 l'.length l'.length sz (l'.length * sz) false,σ,H ++ [.grow l'.flatten 0]) else none
    else appV d' sz bytes (e s) (e x) σ H
  | some d',.vs k f l => appV d' sz bytes (.vs k f l) (e x) σ H
  | _,.sl r off len cap sz' g ex => if m.wr = true then (elems H sz (e x)).bind fun l' => if l' = [] then (if len ≤ cap then some (.sl r off len cap sz' g ex,σ,H) else none) else
     if off = 0 ∧ cap = len ∧ (cap ≠ 0 ∧ ex = false) ∧ sz' = sz ∧ g = len * sz ∧ (len + l'.length) * bytes ≤ appBound ∧ len + l'.length ≤ appBound then (match H[r]? with
      | some o => if o.isW = true ∧ o.cells.length = g then some (.sl r 0 (len + l'.length) (len + l'.length) sz (g + l'.length * sz) false,σ,H.set r (.grow (o.cells ++ l'.flatten) o.lo)) else none
      | none => none)
     else if len + l'.length ≤ cap then (wrRow H r (off + len * sz) g l'.flatten).map fun H' => (.sl r off (len + l'.length) cap sz' g ex,σ,H')
     else if len = 0 ∧ ex = true ∧ l'.length * bytes ≤ appBound ∧ l'.length ≤ appBound then some (.sl H.length 0 l'.length l'.length sz (l'.length * sz) false,σ,H ++ [.grow l'.flatten 0]) else none
    else none
  | _,_ => none
 | .copy sz x y => (elems H sz (e y)).bind fun l' => match e x with
  | .sl r off len _ _ g _ => if l' = [] then some (.c (.int .i64 0),σ,H) else if m.wr = true ∧ l'.length ≤ len then (wrRow H r off g l'.flatten).map fun H' => (.c (.int .i64 l'.length),σ,H') else none
  | _ => none
 | .len (.arr n) _ => some (.c (.int .i64 n),σ,H)
 | .len .sl x => match e x with
  | .c (.slice none 0 0) => some (.c (.int .i64 0),σ,H)
  | .sl _ _ len _ _ _ _ => some (.c (.int .i64 len),σ,H)
  | .vs _ _ l => some (.c (.int .i64 l.length),σ,H)
  | _ => none
 | .len .str x => match e x with
  | .c (.string s) => some (.c (.int .i64 s.size),σ,H)
  | _ => none
 | .len .cap x => match e x with
  | .c (.slice none 0 0) => some (.c (.int .i64 0),σ,H)
  | .sl _ _ _ cap _ _ true => some (.c (.int .i64 cap),σ,H)
  | _ => none
 | .min xs => match xs.map e with
  | .c (.int k n) :: r => (r.foldlM minA (.c (.int k n))).map fun v => (v,σ,H)
  | _ => none
 | .max xs => match xs.map e with
  | .c (.int k n) :: r => (r.foldlM maxA (.c (.int k n))).map fun v => (v,σ,H)
  | _ => none
 | .mkfn f cs => if AV.freeAll (cs.map e) = true then some (.fn f (plns (cs.map e)),σ,H) else none
 | .mkif t x => if AV.free (e x) = true then some (.iface t (pln (e x)),σ,H) else none
 | .imm cs => some (.imm cs,σ,H)
def runOps (m : Md) (C : Oracle) : List SOpG → List AV → Heap → Option (List AV × Heap)
 | [],σ,H => some (σ,H)
 | o :: r,σ,H => match wanted σ o.guard with
  | some true => (opV m C o.dst o.op σ H).bind fun (v,σ',H') => runOps m C r (setD σ' o.dst v) H'
  | some false => runOps m C r (setD σ o.dst (.tup [])) H
  | none => none
def keepB (W : FuncId → Bool) (σ : List AV) (d x : SOpG) : Bool :=
 dstNot d.dst x.reads && dstNe d.dst x.dst && d.op.noL && !dstBox σ d.dst && match x.op with
 | .load _ a => match evalX σ a with
  | .vp _ _ => true
  | .lptr s _ => (match d.op with
   | .store _ b _ => (match evalX σ b with
    | .lptr s' _ => s != s'
    | _ => true)
   | _ => true)
  | .ptr _ _ _ => (match d.op with
   | .store _ b _ => (match evalX σ b with
    | .lptr _ _ => true
    | _ => false)
   | .call f _ => !W f
   | .callv _ _ => false
   | .append _ _ _ _ => false
   | .copy _ _ _ => false
   | _ => true)
  | _ => false
 | .conv .toStr y => isVs (evalX σ y) || isNilC (evalX σ y)
 | _ => true
def rdV (so : SOp) (σ : List AV) (H : Heap) : Option AV :=
 match so with
 | .load k x => match evalX σ x with
  | .vp cs i => fromCells k cs i
  | a => loadA σ H k a
 | .conv .toStr x => match evalX σ x with
  | .c (.slice none 0 0) => some (.c (.string ⟨#[]⟩))
  | .vs k _ l => if k = 1 then (bytesOf l.flatten).map fun l => .c (.string ⟨l.toArray⟩) else none
  | .sl r off len _ _ g _ => ((rdRow0 H r off len g).bind bytesOf).map fun l => .c (.string ⟨l.toArray⟩)
  | _ => none
 | _ => none
def sameA (H : Heap) : AV → AV → Bool
 | .c v,.c u => eqV v u
 | .sl r o l c s g e,.sl r' o' l' c' s' g' e' => eqAV (.sl r o l c s g e) (.sl r' o' l' c' s' g' e') && (match H[r]? with
  | some ob => ob.isRow
  | none => false)
 | .ptr r i g,.ptr r' i' g' => eqAV (.ptr r i g) (.ptr r' i' g') && (match H[r]? with
  | some ob => ob.isRow
  | none => false)
 | _,_ => false
def sameV (σ : List AV) (H : Heap) (x : SOpG) : Bool :=
 decide (x.op.cls ≠ .read) || (match x.dst with
  | none => true
  | some d => match wanted σ x.guard with
   | some true => (match rdV x.op σ H,σ[d]? with
    | some v,some u => sameA H v u
    | _,_ => false)
   | some false => true
   | none => false)
mutual
def selfE : AV → Bool
 | .undef => true
 | .c v => eqV v v
 | .ptr _ _ _ => true
 | .sl _ _ _ _ _ _ _ => true
 | .vs _ _ _ => true
 | .vp _ _ => true
 | .lptr _ _ => true
 | .agg xs => selfEs xs
 | _ => false
def selfEs : List AV → Bool
 | [] => true
 | x :: r => selfE x && selfEs r
end
def goodB (σ : List AV) (H : Heap) (d : SOpG) : Bool :=
 dstNot d.dst d.reads && (match d.dst with | some t => decide (t < σ.length) | none => false) && match rdV d.op σ H with
 | some v => selfE v
 | none => false
def stepV (m : Md) (C : Oracle) (o : SOpG) (σ : List AV) (H : Heap) : Option (List AV × Heap) :=
 if o.op.cls ≠ .eff ∧ dstBox σ o.dst = true then none else
 match wanted σ o.guard with
 | some true => (opV m C o.dst o.op σ H).bind fun (v,σ',H') => if v.isBox = true ∧ o.op.cls ≠ .eff then none else some (setD σ' o.dst v,H')
 | some false => some (setD σ o.dst (.tup []),H)
 | none => none
def runD (W : FuncId → Bool) (m : Md) (C : Oracle) : List (DOp × Bool) → List DOp → List AV → Heap → Option (List AV × Heap)
 | _,[],σ,H => some (σ,H)
 | acc,d :: r,σ,H => (stepV m C d.o σ H).bind fun (σ',H') =>
   if (acc.all fun x => !d.un.contains x.1.i || (x.2 && keepB W σ d.o x.1.o) || sameV σ' H' x.1.o) = true ∧ okN d σ = true then
    runD W m C (if d.o.op.cls = .read ∧ (r.any fun e => e.un.contains d.i) = true then (d,goodB σ H d.o) :: acc.map fun x => (x.1,x.2 && keepB W σ d.o x.1.o)
     else acc.map fun x => (x.1,x.2 && keepB W σ d.o x.1.o)) r σ' H' else none
def exec (W : FuncId → Bool) (m : Md) (C : Oracle) (k : Nat) : SCode → List AV → Heap → Option St
 | .skip,σ,H => some ⟨.normal,σ,H⟩
 | .label _,σ,H => some ⟨.normal,σ,H⟩
 | .region ks ops,σ,H => (runOps m C ops (kill ks σ) H).map fun (σ',H') => ⟨.normal,σ',H'⟩
 | .drawn ks ops,σ,H => (runD W m C [] ops (kill ks σ) H).map fun (σ',H') => ⟨.normal,σ',H'⟩
 | .seq a b,σ,H => (exec W m C k a σ H).bind fun s => match s.e with
  | .normal => exec W m C k b s.σ s.H
  | _ => some s
 | .cond x a b,σ,H => match evalX σ x with
  | .c (.bool t) => if t = true then exec W m C k a σ H else exec W m C k b σ H
  | _ => none
 | .block id b,σ,H => (exec W m C k b σ H).map fun s => if s.e = .exit id then ⟨.normal,s.σ,s.H⟩ else s
 | .loop b,σ,H => iter (exec W m C k b) k σ H
 | .exit id,σ,H => some ⟨.exit id,σ,H⟩
 | .goto l,σ,H => some ⟨.goto l,σ,H⟩
 | .ret,σ,H => some ⟨.ret,σ,H⟩
 | .scope b l r,σ,H => (exec W m C k b σ H).bind (jumps (exec W m C k r) l k)
def okK : AV → Bool
 | .c _ => true
 | .agg xs => xs.all isC
 | .fn _ [] => true
 | _ => false
def okX : SX → Bool
 | .t _ => true
 | .k v => okK v
def okXo : Option SX → Bool
 | some x => okX x
 | none => true
def okOp : SOp → Bool
 | .bad => true
 | .mov x => okX x
 | .pick c a b => okX c && okX a && okX b
 | .lnew zs => zs.all isC
 | .lbox _ x => okX x
 | .new zs => zs.all isC
 | .box _ x => okX x
 | .build zs ps => zs.all isC && ps.all fun p => okX p.2.2
 | .bslice _ _ zs ps => zs.all isC && ps.all fun p => okX p.2.2
 | .load _ x => okX x
 | .store _ x v => okX x && okX v
 | .chk x => okX x
 | .bin _ _ x y => okX x && okX y
 | .un _ x => okX x
 | .conv _ x => okX x
 | .mks _ _ zs l c => zs.all isC && okX l && okX c
 | .cut _ x lo hi mx => okX x && okXo lo && okXo hi && okXo mx
 | .faddr _ x => okX x
 | .fld _ _ x => okX x
 | .iaddr _ _ x i => okX x && okX i
 | .idx _ x i => okX x && okX i
 | .ext x _ => okX x
 | .call _ xs => xs.all okX
 | .callv x xs => okX x && xs.all okX
 | .append _ _ s x => okX s && okX x
 | .mknz _ _ s x => okX x && okXo s
 | .copy _ d s => okX d && okX s
 | .len _ x => okX x
 | .min xs => xs.all okX
 | .max xs => xs.all okX
 | .mkfn _ cs => cs.all okX
 | .mkif _ x => okX x
 | .imm _ => true
def okCode : SCode → Bool
 | .region _ ops => ops.all fun o => okOp o.op
 | .drawn _ ops => ops.all fun o => okOp o.o.op
 | .seq a b => okCode a && okCode b
 | .cond x a b => okX x && okCode a && okCode b
 | .block _ b => okCode b
 | .loop b => okCode b
 | .scope b _ r => okCode b && okCode r
 | _ => true
mutual
def frz (n0 : Nat) (H : Heap) : AV → Option AV
 | .ptr r i g => if r < n0 then some (.ptr r i g) else none
 | .sl r off len cap sz g ex => if r < n0 then some (.sl r off len cap sz g ex) else
   if sz = 0 ∨ cap < len then none else (rdRow0 H r off (len * sz) g).bind fun cs => if cs.all okCell = true then some (.vs sz none (chunk sz len cs)) else none
 | .agg xs => (frzs n0 H xs).map .agg
 | .tup xs => (frzs n0 H xs).map .tup
 | .c v => some (.c v)
 | .vs k f l => some (.vs k f l)
 | _ => none
def frzs (n0 : Nat) (H : Heap) : List AV → Option (List AV)
 | [] => some []
 | x :: r => (frz n0 H x).bind fun y => (frzs n0 H r).map fun z => y :: z
end
def norm : AV → AV
 | .vs k (some _) l => .vs k (some 0) l
 | v => pln v
def normT : AV → AV
 | .vs k (some _) l => .vs k (some 0) l
 | .tup (.vs k (some _) l :: r) => .tup (.vs k (some 0) l :: plns r)
 | v => pln v
def normB (c : Bool) (v : AV) : AV := if c = true then normT v else norm v
def finish (keep col : Bool) (n0 : Nat) (v : AV) (H : Heap) : Option (AV × Heap) :=
 if keep = true then some (normB col v,H) else (frz n0 H v).map fun v' => (normB col v',H.take n0 ++ List.replicate (H.length - n0) .other)
structure VP where
 T : FuncId → Option SFun
 X : Oracle
 W : FuncId → Bool
 K : FuncId → Bool
 R : FuncId → List Nat
 C : FuncId → Bool
def VP.md (p : VP) (f : FuncId) : Md := ⟨p.W f,p.R f⟩
def VP.orc (p : VP) (f : FuncId) (C : Oracle) : Oracle := fun g args H => if (p.W f || !p.W g) = true then C g args H else none
def callN (p : VP) : Nat → Oracle
 | 0,_,_,_ => none
 | n + 1,f,args,H => match p.X f args H with
  | some y => some y
  | none => (p.T f).bind fun s => (exec p.W (p.md f) (p.orc f (callN p n)) n s.body (slots0 s.nslots args) H).bind fun st =>
    if st.e.ends = true then (resultsA s.res st.σ).bind fun v => if v.free = true then finish (p.K f) (p.C f) H.length v st.H else none else none
end Go.A.V
