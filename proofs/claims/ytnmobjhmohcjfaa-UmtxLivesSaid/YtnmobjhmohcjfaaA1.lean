/- THE ABSTRACT MACHINE: a deterministic interpreter of loaded Go functions over an abstract heap of rows. -/
import Derived.Calls
import Derived.KernelRfl
set_option linter.unusedSimpArgs false
set_option linter.unusedVariables false
set_option linter.unnecessarySimpa false
namespace Go.A
inductive AV where
  | undef
  | c (v : Value)
  | ptr (r i g : Nat)
  | sl (r off len cap sz g : Nat) (ex : Bool)
  | lbox (xs : List AV)
  | lptr (d i : Nat)
  | agg (xs : List AV)
  | tup (xs : List AV)
  | fn (f : FuncId) (cap : List AV)
  | iface (t : TypeId) (x : AV)
  | map (r : Nat)
  | vs (k : Nat) (f : Option Nat) (l : List (List AV))
  | vp (cs : List AV) (i : Nat)
  | imm (cs : List Value)
  deriving Inhabited
inductive AObj where
  | other
  | old (cs : List AV)
  | row (cs : List AV)
  | grow (cs : List AV) (lo : Nat)
  | map (es : List (AV × AV))
  deriving Inhabited
def AObj.cells : AObj → List AV
  | .old cs => cs
  | .row cs => cs
  | .grow cs _ => cs
  | _ => []
def AObj.lo : AObj → Nat
  | .grow _ lo => lo
  | _ => 0
def AObj.isW : AObj → Bool
  | .row _ => true
  | .grow _ _ => true
  | _ => false
def AObj.isRow : AObj → Bool
  | .old _ => true
  | .row _ => true
  | .grow _ _ => true
  | _ => false
abbrev Heap := List AObj
inductive SX where
  | t (n : Nat)
  | k (v : AV)
  deriving Inhabited
inductive BK where
  | b | i | s
  deriving Inhabited,DecidableEq
inductive EqK where
  | no | bool | ptr | slice | agg (ks : List BK)
  deriving Inhabited,DecidableEq
inductive CutK where
  | str | slice (sz : Nat) | arr (n sz : Nat)
  deriving Inhabited
inductive LenK where
  | sl | str | arr (n : Nat) | cap
  deriving Inhabited
inductive ConvK where
  | int (k : IntKind) | same | toStr | toBytes | mark
  deriving Inhabited
inductive SOp where
  | bad
  | mov (x : SX)
  | pick (c a b : SX)
  | lnew (zs : List AV)
  | lbox (k : Nat) (x : SX)
  | new (zs : List AV)
  | box (k : Nat) (x : SX)
  | build (zs : List AV) (ps : List (Nat × Nat × SX))
  | bslice (len sz : Nat) (zs : List AV) (ps : List (Nat × Nat × SX))
  | load (k : Option Nat) (x : SX)
  | store (k : Option Nat) (x v : SX)
  | chk (x : SX)
  | bin (op : BinOp) (ek : EqK) (x y : SX)
  | un (op : UnOp) (x : SX)
  | conv (k : ConvK) (x : SX)
  | mks (sz bytes : Nat) (zs : List AV) (l c : SX)
  | cut (k : CutK) (x : SX) (lo hi mx : Option SX)
  | faddr (off : Nat) (x : SX)
  | fld (off : Nat) (k : Option Nat) (x : SX)
  | iaddr (sz : Nat) (arr : Option Nat) (x i : SX)
  | idx (arr : Option (Nat × Nat × Option Nat)) (x i : SX)
  | ext (x : SX) (i : Nat)
  | call (f : FuncId) (xs : List SX)
  | callv (x : SX) (xs : List SX)
  | append (sz bytes : Nat) (s x : SX)
  | mknz (sz bytes : Nat) (s : Option SX) (x : SX)
  | copy (sz : Nat) (d s : SX)
  | len (k : LenK) (x : SX)
  | min (xs : List SX)
  | max (xs : List SX)
  | mkfn (f : FuncId) (caps : List SX)
  | mkif (t : TypeId) (x : SX)
  | imm (cs : List Value)
  deriving Inhabited
structure SOpG where
  dst : Option Nat
  op : SOp
  guard : Option (Nat × Bool) := none
  deriving Inhabited
structure DOp where
  i : Nat
  o : SOpG
  un : List Nat := []
  nl : Bool := false
  deriving Inhabited
inductive SCode where
  | skip
  | region (kills : List Nat) (ops : List SOpG)
  | drawn (kills : List Nat) (ops : List DOp)
  | seq (a b : SCode)
  | cond (x : SX) (a b : SCode)
  | block (id : Nat) (b : SCode)
  | loop (b : SCode)
  | scope (b : SCode) (l : Nat) (rest : SCode)
  | label (l : Nat)
  | goto (l : Nat)
  | exit (id : Nat)
  | ret
  deriving Inhabited
inductive SRes where
  | tmp (t : Nat)
  | cell (d : Nat) (k : Option Nat)
  deriving Inhabited
structure SFun where
  body : SCode
  nslots : Nat
  res : List SRes
  deriving Inhabited
def evalX (σ : List AV) : SX → AV
  | .k v => v
  | .t n => match σ.getD n .undef with
    | .lbox _ => .lptr n 0
    | v => v
def toCells : AV → List AV
  | .agg xs => xs
  | v => [v]
def fromCells (k : Option Nat) (cs : List AV) (i : Nat) : Option AV :=
  match k with
  | none => cs[i]?
  | some n => if i + n ≤ cs.length then some (.agg ((cs.drop i).take n)) else none
def putCells (k : Option Nat) (cs : List AV) (i : Nat) (v : AV) : Option (List AV) :=
  match k,v with
  | none,.agg _ => none
  | none,v => if i < cs.length then some (cs.set i v) else none
  | some n,.agg xs => if xs.length = n ∧ i + n ≤ cs.length then some (cs.take i ++ xs ++ cs.drop (i + n)) else none
  | _,_ => none
mutual
def AV.free : AV → Bool
  | .lbox _ => false
  | .lptr _ _ => false
  | .agg xs => AV.freeAll xs
  | .tup xs => AV.freeAll xs
  | .fn _ xs => AV.freeAll xs
  | .iface _ x => AV.free x
  | _ => true
def AV.freeAll : List AV → Bool
  | [] => true
  | x :: r => AV.free x && AV.freeAll r
end
def AV.one : AV → Bool
  | .agg _ => false
  | .tup _ => false
  | .lbox _ => false
  | .undef => false
  | .c (.agg _) => false
  | .c (.tuple _) => false
  | _ => true
abbrev okCell (v : AV) : Bool := v.one && v.free
def rdRow (H : Heap) (r i n g : Nat) : Option (List AV) :=
  match H[r]? with
  | some o => if o.isRow = true ∧ o.lo ≤ g ∧ i + n ≤ g ∧ g ≤ o.cells.length then some ((o.cells.drop i).take n) else none
  | none => none
def rdRow0 (H : Heap) (r i n g : Nat) : Option (List AV) := if n = 0 then some [] else rdRow H r i n g
def wrRow (H : Heap) (r i g : Nat) (xs : List AV) : Option Heap :=
  match H[r]? with
  | some (.row cs) => if g = cs.length ∧ i + xs.length ≤ g ∧ xs.all okCell = true then some (H.set r (.row (cs.take i ++ xs ++ cs.drop (i + xs.length)))) else none
  | some (.grow cs _) => if g = cs.length ∧ i + xs.length ≤ g ∧ xs.all okCell = true then some (H.set r (.grow (cs.take i ++ xs ++ cs.drop (i + xs.length)) cs.length)) else none
  | _ => none
def loadA (σ : List AV) (H : Heap) (k : Option Nat) : AV → Option AV
  | .lptr d i => match σ.getD d .undef with
    | .lbox xs => fromCells k xs i
    | _ => none
  | .ptr r i g => match k with
    | none => (rdRow H r i 1 g).bind fun l => l[0]?
    | some n => (rdRow H r i n g).map .agg
  | _ => none
def storeA (σ : List AV) (H : Heap) (k : Option Nat) (a v : AV) : Option (List AV × Heap) :=
  match a with
  | .lptr d i => match σ.getD d .undef with
    | .lbox xs => if v.free = true then (match k,v with
        | none,v => if v.one = true then (putCells none xs i v).map fun ys => (σ.set d (.lbox ys),H) else none
        | some n,.agg vs => if vs.all okCell = true then (putCells (some n) xs i (.agg vs)).map fun ys => (σ.set d (.lbox ys),H) else none
        | _,_ => none) else none
    | _ => none
  | .ptr r i g => match k,v with
    | none,v => (wrRow H r i g [v]).map fun H' => (σ,H')
    | some n,.agg vs => if vs.length = n then (wrRow H r i g vs).map fun H' => (σ,H') else none
    | _,_ => none
  | _ => none
def intBin (op : BinOp) (k : IntKind) (a b : Int) : Option AV :=
  match op with
  | .add => some (.c (.int k (k.wrap (a + b))))
  | .sub => some (.c (.int k (k.wrap (a - b))))
  | .mul => some (.c (.int k (k.wrap (a * b))))
  | .quo => if b = 0 then none else some (.c (.int k (k.wrap (a.tdiv b))))
  | .rem => if b = 0 then none else some (.c (.int k (a.tmod b)))
  | .and => some (.c (.int k (k.wrap (BitVec.ofInt k.bits a &&& BitVec.ofInt k.bits b).toNat)))
  | .or => some (.c (.int k (k.wrap (BitVec.ofInt k.bits a ||| BitVec.ofInt k.bits b).toNat)))
  | .xor => some (.c (.int k (k.wrap (BitVec.ofInt k.bits a ^^^ BitVec.ofInt k.bits b).toNat)))
  | .andNot => some (.c (.int k (k.wrap (BitVec.ofInt k.bits a &&& ~~~(BitVec.ofInt k.bits b)).toNat)))
  | .eql => some (.c (.bool (a == b)))
  | .neq => some (.c (.bool (a != b)))
  | .lss => some (.c (.bool (decide (a < b))))
  | .leq => some (.c (.bool (decide (a ≤ b))))
  | .gtr => some (.c (.bool (decide (a > b))))
  | .geq => some (.c (.bool (decide (a ≥ b))))
  | _ => none
def strBin (op : BinOp) (a b : ByteArray) : Option AV :=
  match op with
  | .add => if a.size + b.size ≤ 9223372036854775807 then some (.c (.string (a ++ b))) else none
  | .eql => some (.c (.bool (a.toList == b.toList)))
  | .neq => some (.c (.bool !(a.toList == b.toList)))
  | .lss => some (.c (.bool (Op.bytesLess a.toList b.toList)))
  | .leq => some (.c (.bool (Op.bytesLess a.toList b.toList || a.toList == b.toList)))
  | .gtr => some (.c (.bool !(Op.bytesLess a.toList b.toList || a.toList == b.toList)))
  | .geq => some (.c (.bool !(Op.bytesLess a.toList b.toList)))
  | _ => none
def eqScalar : BK → AV → AV → Option Bool
  | .i,.c (.int k a),.c (.int k' b) => if k = k' then some (a == b) else none
  | .b,.c (.bool a),.c (.bool b) => some (a == b)
  | .s,.c (.string a),.c (.string b) => some (a == b)
  | _,_,_ => none
def eqAll : List BK → List AV → List AV → Option Bool
  | [],[],[] => some true
  | k :: ks,x :: xs,y :: ys => match eqScalar k x y with
    | some true => eqAll ks xs ys
    | some false => some false
    | none => none
  | _,_,_ => none
def eqv (ek : EqK) (x y : AV) : Option Bool :=
  match ek,x,y with
  | .bool,.c (.bool a),.c (.bool b) => some (a == b)
  | .ptr,.c (.pointer none),.c (.pointer none) => some true
  | .ptr,.ptr _ _ _,.c (.pointer none) => some false
  | .ptr,.c (.pointer none),.ptr _ _ _ => some false
  | .slice,.c (.slice none _ _),.c (.slice none _ _) => some true
  | .slice,.sl _ _ _ _ _ _ _,.c (.slice none _ _) => some false
  | .slice,.c (.slice none _ _),.sl _ _ _ _ _ _ _ => some false
  | .agg ks,.agg xs,.agg ys => if xs.length = ks.length ∧ ys.length = ks.length then eqAll ks xs ys else none
  | _,_,_ => none
def binA (op : BinOp) (ek : EqK) (x y : AV) : Option AV :=
  match op,x,y with
  | .shl,.c (.int k a),.c (.int _ b) => if b < 0 then none else some (.c (.int k (k.wrap (a * 2 ^ (Min.min b.toNat k.bits)))))
  | .shr,.c (.int k a),.c (.int _ b) => if b < 0 then none else some (.c (.int k (a.fdiv (2 ^ (Min.min b.toNat k.bits)))))
  | op,.c (.int k a),.c (.int k' b) => if k = k' then intBin op k a b else none
  | op,.c (.string a),.c (.string b) => strBin op a b
  | .eql,x,y => (eqv ek x y).map fun b => .c (.bool b)
  | .neq,x,y => (eqv ek x y).map fun b => .c (.bool !b)
  | _,_,_ => none
def unA (op : UnOp) (x : AV) : Option AV :=
  match op,x with
  | .neg,.c (.int k n) => some (.c (.int k (k.wrap (0 - n))))
  | .xor,.c (.int k n) => intBin .xor k (if k.signed then -1 else k.max) n
  | .not,.c (.bool b) => some (.c (.bool !b))
  | _,_ => none
def bytesOf : List AV → Option (List UInt8)
  | [] => some []
  | .c (.int .u8 n) :: r => (bytesOf r).map (UInt8.ofNat n.toNat :: ·)
  | _ :: _ => none
def cutBound (x : AV) (y : Nat) : Option Nat :=
  match x with
  | .c (.int _ i) => if 0 ≤ i ∧ i ≤ y then some i.toNat else none
  | _ => none
def capOf (cap : Nat) : Option AV → Option Nat
  | some v => cutBound v cap
  | none => some cap
def highOf (len m : Nat) : Option AV → Option AV → Option Nat
  | some v,_ => cutBound v m
  | none,none => some len
  | none,some _ => none
def lowOf (h : Nat) : Option AV → Option Nat
  | some v => cutBound v h
  | none => some 0
def cutBounds (len cap : Nat) (lo hi mx : Option AV) : Option (Nat × Nat × Nat) :=
  if len ≤ cap then (capOf cap mx).bind fun m => (highOf len m hi mx).bind fun h => (lowOf h lo).map fun l => (l,h,m) else none
def cutA (k : CutK) (x : AV) (lo hi mx : Option AV) : Option AV :=
  match k,x with
  | .str,.c (.string s) => if mx.isSome then none else
    (cutBounds s.size s.size lo hi none).map fun (l,h,_) => .c (.string (s.extract l h))
  | .slice _,.c (.slice none 0 0) => (cutBounds 0 0 lo hi mx).map fun _ => .c (.slice none 0 0)
  | .slice sz,.sl r off len cap sz' g ex => if (ex || sz' == sz) = true then
    (cutBounds len cap lo hi mx).map fun (l,h,m) => .sl r (if m = l then off else off + l * sz) (h - l) (m - l) sz' g (ex || mx.isSome) else none
  | _,_ => none
def lenA : AV → Option Nat
  | .c (.slice none 0 0) => some 0
  | .sl _ _ len _ _ _ _ => some len
  | .c (.string s) => some s.size
  | .imm cs => some cs.length
  | _ => none
def firstA (H : Heap) (sz n : Nat) : AV → Option (List AV)
  | .c (.slice none 0 0) => if n = 0 then some [] else none
  | .sl r off len _ _ g _ => if n ≤ len then rdRow H r off (n * sz) g else none
  | .c (.string s) => if sz = 1 ∧ n ≤ s.size then some ((s.data.toList.take n).map fun b => .c (.int .u8 b.toNat)) else none
  | .imm cs => if sz = 1 ∧ n ≤ cs.length then some ((cs.take n).map .c) else none
  | _ => none
def appBound : Nat := 1099511627776
def appendA (H : Heap) (sz bytes : Nat) (s x : AV) : Option (AV × Heap) :=
  (lenA x).bind fun n =>
  if n = 0 then (match s with
    | .c (.slice none 0 0) => some (s,H)
    | .sl _ _ len cap _ _ _ => if len ≤ cap then some (s,H) else none
    | _ => none) else
  (firstA H sz n x).bind fun new =>
  match s with
  | .c (.slice none 0 0) => if n * bytes ≤ appBound ∧ n ≤ appBound ∧ new.all okCell = true then some (.sl H.length 0 n n sz (n * sz) false,H ++ [.grow new 0]) else none
  | .sl r off len cap sz' g ex =>
    if len + n ≤ cap then (wrRow H r (off + len * sz) g new).map fun H' => (.sl r off (len + n) cap sz' g ex,H')
    else if (len + n) * bytes ≤ appBound ∧ len + n ≤ appBound ∧ new.all okCell = true then
      (if off = 0 ∧ cap = len ∧ (cap ≠ 0 ∧ ex = false) ∧ sz' = sz ∧ g = len * sz ∧ (H[r]?.map fun o => o.isW && o.cells.length == g) = some true then
        (match H[r]? with
        | some o => some (.sl r 0 (len + n) (len + n) sz (g + n * sz) false,H.set r (.grow (o.cells ++ new) o.lo))
        | none => none)
      else if ex = true then (rdRow0 H r off (len * sz) g).bind fun old => if old.all okCell = true then some (.sl H.length 0 (len + n) (len + n) sz ((len + n) * sz) false,H ++ [.grow (old ++ new) 0]) else none
      else none)
    else none
  | _ => none
def placeAll (cs : List AV) : List (Nat × Nat × AV) → Option (List AV)
  | [] => some cs
  | (off,k,v) :: r => if (toCells v).length = k ∧ off + k ≤ cs.length ∧ (toCells v).all okCell = true then placeAll (cs.take off ++ toCells v ++ cs.drop (off + k)) r else none
def rep (zs : List AV) : Nat → List AV
  | 0 => []
  | n + 1 => zs ++ rep zs n
def minA : AV → AV → Option AV
  | .c (.int k x),.c (.int _ y) => some (.c (.int k (if y < x then y else x)))
  | _,_ => none
def maxA : AV → AV → Option AV
  | .c (.int k x),.c (.int _ y) => some (.c (.int k (if y > x then y else x)))
  | _,_ => none
def forget (d : Nat) : AV → AV
  | .lptr d' i => if d' = d then .undef else .lptr d' i
  | v => v
abbrev Oracle := FuncId → List AV → Heap → Option (AV × Heap)
def opA (C : Oracle) (d : Option Nat) (so : SOp) (σ : List AV) (H : Heap) : Option (AV × List AV × Heap) :=
  let ev := evalX σ
  let pu (v : Option AV) : Option (AV × List AV × Heap) := v.map fun v => (v,σ,H)
  match so with
  | .bad => none
  | .mov x => some (ev x,σ,H)
  | .pick c a b => match ev c with
    | .c (.bool true) => some (ev a,σ,H)
    | .c (.bool false) => some (ev b,σ,H)
    | _ => none
  | .lnew zs => match d with
    | some d => some (.lbox zs,σ.map (forget d),H)
    | none => none
  | .lbox k x => match d with
    | some d => if (toCells (ev x)).length = k ∧ (toCells (ev x)).all okCell = true then some (.lbox (toCells (ev x)),σ.map (forget d),H) else none
    | none => none
  | .new zs => some (.ptr H.length 0 zs.length,σ,H ++ [.row zs])
  | .box k x => if (toCells (ev x)).length = k ∧ (toCells (ev x)).all okCell = true then some (.ptr H.length 0 k,σ,H ++ [.row (toCells (ev x))]) else none
  | .build zs ps => pu ((placeAll zs (ps.map fun (o,k,x) => (o,k,ev x))).map .agg)
  | .bslice len sz zs ps => (placeAll zs (ps.map fun (o,k,x) => (o,k,ev x))).bind fun cs =>
      if cs.all okCell = true then some (.sl H.length 0 len len sz (len * sz) true,σ,H ++ [.row cs]) else none
  | .load k x => pu (loadA σ H k (ev x))
  | .store k x v => (storeA σ H k (ev x) (ev v)).map fun (σ',H') => (.tup [],σ',H')
  | .chk x => match ev x with
    | .ptr r i g => some (.ptr r i g,σ,H)
    | .lptr d i => some (.lptr d i,σ,H)
    | .fn f cs => some (.fn f cs,σ,H)
    | .iface t v => some (.iface t v,σ,H)
    | _ => none
  | .bin op ek x y => pu (binA op ek (ev x) (ev y))
  | .un op x => pu (unA op (ev x))
  | .conv k x => match k,ev x with
    | .int k,.c (.int _ n) => some (.c (.int k (k.wrap n)),σ,H)
    | .same,.c (.string s) => some (.c (.string s),σ,H)
    | .toStr,.c (.slice none 0 0) => some (.c (.string ⟨#[]⟩),σ,H)
    | .toStr,.sl r off len _ _ g _ => ((rdRow0 H r off len g).bind bytesOf).map fun l => (.c (.string ⟨l.toArray⟩),σ,H)
    | .toBytes,.c (.string s) => if s.size ≤ appBound then some (.sl H.length 0 s.size s.size 1 s.size false,σ,H ++ [.grow (s.data.toList.map fun b => .c (.int .u8 b.toNat)) 0]) else none
    | .mark,.sl r off len cap sz g ex => (H[r]?).bind fun o => match o with
      | .row _ => if len ≠ 0 then some (.sl r off len cap sz g ex,σ,H) else none
      | _ => none
    | _,_ => none
  | .mknz sz bytes s x => match ev x,s.map ev with
    | .c (.int .i64 n),none => if 0 ≤ n ∧ n ≤ appBound then some (.sl H.length 0 n.toNat n.toNat 1 (n.toNat * 1) false,σ,H ++ [.grow (List.replicate (n.toNat * 1) .undef) 0]) else none
    | .c (.int .i64 n),some (.c (.slice none 0 0)) => if 0 < n ∧ n ≤ appBound ∧ n.toNat * bytes ≤ appBound then some (.sl H.length 0 n.toNat n.toNat sz (n.toNat * sz) false,σ,H ++ [.grow (List.replicate (n.toNat * sz) .undef) 0]) else none
    | _,_ => none
  | .mks sz bytes zs l c => match ev l,ev c with
    | .c (.int _ l),.c (.int _ c) => if 0 ≤ l ∧ l ≤ c ∧ c ≤ appBound ∧ c * bytes ≤ appBound then
        some (.sl H.length 0 l.toNat c.toNat sz (c.toNat * sz) true,σ,H ++ [.row (rep zs c.toNat)]) else none
    | _,_ => none
  | .cut (.arr n sz) x lo hi mx => match ev x with
    | .ptr r i g => (cutBounds n n (lo.map ev) (hi.map ev) (mx.map ev)).map fun (l,h,m) => (.sl r (if m = l then i else i + l * sz) (h - l) (m - l) sz g true,σ,H)
    | _ => none
  | .cut k x lo hi mx => pu (cutA k (ev x) (lo.map ev) (hi.map ev) (mx.map ev))
  | .faddr off x => match ev x with
    | .ptr r i g => some (.ptr r (i + off) g,σ,H)
    | .lptr d i => some (.lptr d (i + off),σ,H)
    | _ => none
  | .fld off k x => match ev x with
    | .agg xs => pu (fromCells k xs off)
    | _ => none
  | .iaddr sz arr x i => match ev x,ev i,arr with
    | .sl r off len _ _ g _,.c (.int _ j),none => if 0 ≤ j ∧ j < len then some (.ptr r (off + j.toNat * sz) g,σ,H) else none
    | .ptr r o g,.c (.int _ j),some n => if 0 ≤ j ∧ j < n then some (.ptr r (o + j.toNat * sz) g,σ,H) else none
    | .lptr d o,.c (.int _ j),some n => if 0 ≤ j ∧ j < n then some (.lptr d (o + j.toNat * sz),σ,H) else none
    | _,_,_ => none
  | .idx arr x i => match ev x,ev i,arr with
    | .agg xs,.c (.int _ j),some (n,sz,k) => if 0 ≤ j ∧ j < n then pu (fromCells k xs (j.toNat * sz)) else none
    | .c (.string s),.c (.int _ j),none => if 0 ≤ j then pu ((s.data.toList[j.toNat]?).map fun b => .c (.int .u8 b.toNat)) else none
    | _,_,_ => none
  | .ext x i => match ev x with
    | .tup xs => pu xs[i]?
    | _ => none
  | .call f xs => if AV.freeAll (xs.map ev) = true then (C f (xs.map ev) H).map fun (v,H') => (v,σ,H') else none
  | .callv x xs => match ev x with
    | .fn f cs => if AV.freeAll (xs.map ev) = true then (C f (xs.map ev ++ cs) H).map fun (v,H') => (v,σ,H') else none
    | _ => none
  | .append sz bytes s x => (appendA H sz bytes (ev s) (ev x)).map fun (v,H') => (v,σ,H')
  | .copy sz dd ss => (lenA (ev dd)).bind fun nd => (lenA (ev ss)).bind fun ns =>
      (if ns = 0 then some [] else firstA H sz (Min.min ns nd) (ev ss)).bind fun cs => match ev dd with
        | .c (.slice none 0 0) => some (.c (.int .i64 0),σ,H)
        | .sl r off _ _ _ g _ => if Min.min ns nd = 0 then some (.c (.int .i64 0),σ,H) else (wrRow H r off g cs).map fun H' => (.c (.int .i64 (Min.min ns nd : Nat)),σ,H')
        | _ => none
  | .len (.arr n) _ => some (.c (.int .i64 n),σ,H)
  | .len .sl x => match ev x with
    | .c (.slice none 0 0) => some (.c (.int .i64 0),σ,H)
    | .sl _ _ len _ _ _ _ => some (.c (.int .i64 len),σ,H)
    | _ => none
  | .len .str x => match ev x with
    | .c (.string s) => some (.c (.int .i64 s.size),σ,H)
    | _ => none
  | .len .cap x => match ev x with
    | .c (.slice none 0 0) => some (.c (.int .i64 0),σ,H)
    | .sl _ _ _ cap _ _ true => some (.c (.int .i64 cap),σ,H)
    | _ => none
  | .min xs => match xs.map ev with
    | .c (.int k n) :: r => pu (r.foldlM minA (.c (.int k n)))
    | _ => none
  | .max xs => match xs.map ev with
    | .c (.int k n) :: r => pu (r.foldlM maxA (.c (.int k n)))
    | _ => none
  | .mkfn f cs => if AV.freeAll (cs.map ev) = true then some (.fn f (cs.map ev),σ,H) else none
  | .mkif t x => if AV.free (ev x) = true then some (.iface t (ev x),σ,H) else none
  | .imm cs => some (.imm cs,σ,H)
def setD (σ : List AV) (d : Option Nat) (v : AV) : List AV :=
  match d with
  | some d => σ.set d v
  | none => σ
def wanted (σ : List AV) : Option (Nat × Bool) → Option Bool
  | none => some true
  | some (t,want) => match σ.getD t .undef with
    | .c (.bool b) => some (b == want)
    | .tup [] => some false
    | _ => none
def runOps (C : Oracle) : List SOpG → List AV → Heap → Option (List AV × Heap)
  | [],σ,H => some (σ,H)
  | o :: r,σ,H => match wanted σ o.guard with
    | some true => (opA C o.dst o.op σ H).bind fun (v,σ',H') => runOps C r (setD σ' o.dst v) H'
    | some false => runOps C r (setD σ o.dst (.tup [])) H
    | none => none
def AV.isBox : AV → Bool
  | .lbox _ => true
  | _ => false
inductive Cls where
  | pure | read | eff
  deriving DecidableEq
def SOp.cls : SOp → Cls
  | .mov _ => .pure
  | .pick .. => .pure
  | .build .. => .pure
  | .chk _ => .pure
  | .bin .. => .pure
  | .un .. => .pure
  | .conv (.int _) _ => .pure
  | .conv .same _ => .pure
  | .conv .toStr _ => .read
  | .cut .. => .pure
  | .faddr .. => .pure
  | .fld .. => .pure
  | .iaddr .. => .pure
  | .idx .. => .pure
  | .ext .. => .pure
  | .len .. => .pure
  | .min _ => .pure
  | .max _ => .pure
  | .mkfn .. => .pure
  | .mkif .. => .pure
  | .imm _ => .pure
  | .load .. => .read
  | _ => .eff
def rdv (so : SOp) (σ : List AV) (H : Heap) : Option AV :=
  match so with
  | .load k a => loadA σ H k (evalX σ a)
  | .conv .toStr x => match evalX σ x with
    | .c (.slice none 0 0) => some (.c (.string ⟨#[]⟩))
    | .sl r off len _ _ g _ => ((rdRow0 H r off len g).bind bytesOf).map fun l => .c (.string ⟨l.toArray⟩)
    | _ => none
  | _ => none
def eqV : Value → Value → Bool
  | .bool a,.bool b => decide (a = b)
  | .int k a,.int k' b => decide (k = k') && decide (a = b)
  | .float k a,.float k' b => decide (k = k') && decide (a = b)
  | .complex k a b,.complex k' a' b' => decide (k = k') && decide (a = a') && decide (b = b')
  | .string a,.string b => decide (a.data.toList = b.data.toList)
  | .pointer a,.pointer b => decide (a = b)
  | .slice a l c,.slice a' l' c' => decide (a = a') && decide (l = l') && decide (c = c')
  | .map a,.map b => decide (a = b)
  | .nilFunc,.nilFunc => true
  | .nilIface,.nilIface => true
  | _,_ => false
mutual
def eqAV : AV → AV → Bool
  | .undef,.undef => true
  | .c a,.c b => eqV a b
  | .ptr r i g,.ptr r' i' g' => decide (r = r') && decide (i = i') && decide (g = g')
  | .sl r o l c s g e,.sl r' o' l' c' s' g' e' => decide (r = r') && decide (o = o') && decide (l = l') && decide (c = c') && decide (s = s') && decide (g = g') && decide (e = e')
  | .lptr d i,.lptr d' i' => decide (d = d') && decide (i = i')
  | .agg a,.agg b => eqAVs a b
  | .tup a,.tup b => eqAVs a b
  | .fn f a,.fn f' b => decide (f = f') && eqAVs a b
  | .iface t a,.iface t' b => decide (t = t') && eqAV a b
  | .map a,.map b => decide (a = b)
  | _,_ => false
def eqAVs : List AV → List AV → Bool
  | [],[] => true
  | a :: r,b :: q => eqAV a b && eqAVs r q
  | _,_ => false
end
def Same (σ : List AV) (H : Heap) (x : SOpG) : Prop :=
  x.op.cls = .read → ∀ d,x.dst = some d → wanted σ x.guard = some true → ∃ v,rdv x.op σ H = some v ∧ σ[d]? = some v ∧ eqAV v v = true
def sameB (σ : List AV) (H : Heap) (x : SOpG) : Bool :=
  decide (x.op.cls ≠ .read) || (match x.dst with
    | none => true
    | some d => match wanted σ x.guard with
      | some true => (match rdv x.op σ H,σ[d]? with
        | some v,some u => eqAV v u
        | _,_ => false)
      | _ => true)
def dstBox (σ : List AV) : Option Nat → Bool
  | some d => (σ.getD d .undef).isBox
  | none => false
def stepA (C : Oracle) (o : SOpG) (σ : List AV) (H : Heap) : Option (List AV × Heap) :=
  if o.op.cls ≠ .eff ∧ dstBox σ o.dst = true then none else
  match wanted σ o.guard with
  | some true => (opA C o.dst o.op σ H).bind fun (v,σ',H') => if v.isBox = true ∧ o.op.cls ≠ .eff then none else some (setD σ' o.dst v,H')
  | some false => some (setD σ o.dst (.tup []),H)
  | none => none
def AV.isLp : AV → Bool
  | .lptr _ _ => true
  | _ => false
def AV.isLd (d : Nat) : AV → Bool
  | .lptr e _ => e == d
  | _ => false
def dstL (σ : List AV) : Option Nat → Bool
  | some d => (σ.getD d .undef).isLp
  | none => false
def SOpG.badNew (o : SOpG) (σ : List AV) : Bool := match o.op,o.dst with
  | .lnew _,some d => (σ.getD d .undef).isBox || σ.any (AV.isLd d)
  | _,_ => false
def SOp.isNew : SOp → Bool
  | .lnew _ => true
  | _ => false
def okN (d : DOp) (σ : List AV) : Bool := !d.nl || (!dstL σ d.o.dst && !d.o.badNew σ)
def runD (C : Oracle) : List DOp → List DOp → List AV → Heap → Option (List AV × Heap)
  | _,[],σ,H => some (σ,H)
  | acc,d :: r,σ,H => (stepA C d.o σ H).bind fun (σ',H') =>
      if (acc.all fun x => !d.un.contains x.i || sameB σ' H' x.o) = true ∧ okN d σ = true then runD C (d :: acc) r σ' H' else none
def kill : List Nat → List AV → List AV
  | [],σ => σ
  | d :: r,σ => kill r (σ.set d .undef)
inductive AExit where
  | normal | exit (id : Nat) | goto (l : Nat) | ret
  deriving Inhabited,DecidableEq
structure St where
  e : AExit
  σ : List AV
  H : Heap
def iter (f : List AV → Heap → Option St) : Nat → List AV → Heap → Option St
  | 0,_,_ => none
  | n + 1,σ,H => (f σ H).bind fun s => match s.e with
    | .normal => iter f n s.σ s.H
    | _ => some s
def jumps (f : List AV → Heap → Option St) (l : Nat) : Nat → St → Option St
  | 0,_ => none
  | n + 1,s => if s.e = .goto l then (f s.σ s.H).bind (jumps f l n) else some s
def exec (C : Oracle) (k : Nat) : SCode → List AV → Heap → Option St
  | .skip,σ,H => some ⟨.normal,σ,H⟩
  | .label _,σ,H => some ⟨.normal,σ,H⟩
  | .region ks ops,σ,H => (runOps C ops (kill ks σ) H).map fun (σ',H') => ⟨.normal,σ',H'⟩
  | .drawn ks ops,σ,H => (runD C [] ops (kill ks σ) H).map fun (σ',H') => ⟨.normal,σ',H'⟩
  | .seq a b,σ,H => (exec C k a σ H).bind fun s => match s.e with
    | .normal => exec C k b s.σ s.H
    | _ => some s
  | .cond x a b,σ,H => match evalX σ x with
    | .c (.bool t) => if t = true then exec C k a σ H else exec C k b σ H
    | _ => none
  | .block id b,σ,H => (exec C k b σ H).map fun s => if s.e = .exit id then ⟨.normal,s.σ,s.H⟩ else s
  | .loop b,σ,H => iter (exec C k b) k σ H
  | .exit id,σ,H => some ⟨.exit id,σ,H⟩
  | .goto l,σ,H => some ⟨.goto l,σ,H⟩
  | .ret,σ,H => some ⟨.ret,σ,H⟩
  | .scope b l r,σ,H => (exec C k b σ H).bind (jumps (exec C k r) l k)
def resA (σ : List AV) : SRes → Option AV
  | .tmp t => some (evalX σ (.t t))
  | .cell d k => match σ.getD d .undef with
    | .lbox xs => fromCells k xs 0
    | _ => none
def resultsA (rs : List SRes) (σ : List AV) : Option AV :=
  match rs with
  | [r] => resA σ r
  | rs => (rs.mapM (resA σ)).map .tup
def slots0 (n : Nat) (args : List AV) : List AV := args ++ List.replicate (n - args.length) .undef
def AExit.ends : AExit → Bool
  | .normal => true
  | .ret => true
  | _ => false
def callN (T : FuncId → Option SFun) (X : Oracle) : Nat → Oracle
  | 0,_,_,_ => none
  | n + 1,f,args,H => match X f args H with
    | some y => some y
    | none => (T f).bind fun s => (exec (callN T X n) n s.body (slots0 s.nslots args) H).bind fun st =>
        if st.e.ends = true then (resultsA s.res st.σ).bind fun v => if v.free = true then some (v,st.H) else none else none
structure Ann where
  loc : List Nat := []
  kills : List (Nat × List Nat) := []
  imm : List Nat := []
mutual
def ofV : Value → AV
  | .agg cs => .agg (ofVs cs.toList)
  | .tuple cs => .tup (ofVs cs.toList)
  | v => .c v
def ofVs : List Value → List AV
  | [] => []
  | v :: r => ofV v :: ofVs r
end
def okConst : Value → Bool
  | .bool _ => true
  | .int _ _ => true
  | .float _ _ => true
  | .complex _ _ _ => true
  | .string _ => true
  | .pointer none => true
  | .slice none 0 0 => true
  | .map none => true
  | .nilFunc => true
  | .nilIface => true
  | _ => false
def constA (v : Value) : Option AV :=
  match v with
  | .agg cs => if cs.toList.all okConst = true then some (.agg (cs.toList.map .c)) else none
  | v => if okConst v = true then some (.c v) else none
def isIntD : TypeDesc → Bool
  | .int _ => true
  | _ => false
def rX : Operand → Option SX
  | .tmp t => some (.t t)
  | .const v => (constA v).map .k
  | .func f => some (.k (.fn f []))
  | .global _ => none
def rXs (l : List Operand) : Option (List SX) := l.mapM rX
def rXo : Option Operand → Option (Option SX)
  | none => some none
  | some x => (rX x).map some
section
variable (P : Program)
def isU8 (t : TypeId) : Bool :=
  match P.underlying t with
  | some (.int .u8) => true
  | _ => false
def kOf (t : TypeId) : Option (Option Nat) :=
  match P.info? t,P.underlying t with
  | some i,some (.struct _) => some (some i.size)
  | some i,some (.array _ _) => some (some i.size)
  | some i,some _ => if i.size = 1 then some none else none
  | _,_ => none
def szOf (t : TypeId) : Option Nat := (P.info? t).map (·.size)
def bytesOfT (t : TypeId) : Option Nat := (P.info? t).map (·.bytes)
def zerosOf (t : TypeId) : Option (List AV) :=
  (P.info? t).bind fun i => i.zero.bind fun z => if z.cells.toList.all okConst = true ∧ z.cells.size = i.size then some (z.cells.toList.map .c) else none
def bkOf (t : TypeId) : Option BK :=
  match P.underlying t with
  | some .bool => some .b
  | some (.int _) => some .i
  | some .string => some .s
  | _ => none
def fieldKs : List Field → Nat → Option (List BK)
  | [],_ => some []
  | f :: r,i => if f.name ≠ "_" ∧ f.offset = i ∧ szOf P f.type = some 1 then (bkOf P f.type).bind fun k => (fieldKs r (i + 1)).map (k :: ·) else none
def eqKOf (t : TypeId) : EqK :=
  match P.underlying t with
  | some .bool => .bool
  | some (.pointer e) => if szOf P e = some 0 then .no else if (szOf P e).isSome then .ptr else .no
  | some (.slice _) => .slice
  | some (.struct fs) => if P.stoodInHeld t = false ∧ P.eqGuardType P.depth t = false then (match fieldKs P fs.toList 0 with
    | some ks => .agg ks
    | none => .no) else .no
  | _ => .no
def rParts (places : Nat → Option (Nat × Nat)) : List (Nat × Operand) → Option (List (Nat × Nat × SX))
  | [] => some []
  | (i,x) :: r => (places i).bind fun (o,k) => (rX x).bind fun x => (rParts places r).map fun l => (o,k,x) :: l
def isFn (f : FuncId) : Bool :=
  match P.funcs[f]? with
  | some fn => fn.body.isSome && fn.name != "runtime.NumGoroutine"
  | none => false
def isMnz (f : FuncId) : Bool := match P.funcs[f]? with
  | some fn => fn.body.isNone && fn.name == "internal/bytealg.MakeNoZero" && (Extern.findNext fn).isNone && (match fn.resultTypes.toList with
    | [t] => (match P.underlying t with | some (.slice _) => true | _ => false)
    | _ => false)
  | none => false
def constCs : List AV → Option (List Value)
  | [] => some []
  | .c v :: r => (constCs r).map (v :: ·)
  | _ => none
def constX : SX → AV
  | .k v => v
  | .t _ => .undef
def rOp (ann : Ann) (o : Oper) : Option SOp :=
  match o.op with
  | .move x => (rX x).map .mov
  | .assign x => (rX x).map .mov
  | .pick c a b => (rX c).bind fun c => (rX a).bind fun a => (rX b).map fun b => .pick c a b
  | .alloc t => (zerosOf P t).map fun zs => if (o.dst.map ann.loc.contains).getD false = true then .lnew zs else .new zs
  | .box t x => (szOf P t).bind fun k => (rX x).map fun x => if (o.dst.map ann.loc.contains).getD false = true then .lbox k x else .box k x
  | .build t ps => match P.underlying t with
    | some (.struct fs) => if (fs.toList.all fun f => (szOf P f.type).isSome) = false then none else (zerosOf P t).bind fun zs => (rParts (fun i => (fs[i]?).bind fun f => (szOf P f.type).map fun k => (f.offset,k)) ps.toList).map fun ps => .build zs ps
    | some (.array _ e) => (zerosOf P t).bind fun zs => (szOf P e).bind fun k => (rParts (fun i => some (i * k,k)) ps.toList).map fun ps => .build zs ps
    | _ => none
  | .buildSlice t len ps => match P.underlying t with
    | some (.slice e) => if (o.dst.map ann.imm.contains).getD false = true then (szOf P e).bind fun k => (zerosOf P e).bind fun zs => if k ≠ 1 ∨ len * k > 16777216 then none else (rParts (fun i => some (i * k,k)) ps.toList).bind fun ps => (placeAll (rep zs len) (ps.map fun (o,k,x) => (o,k,constX x))).bind fun cs => (constCs cs).map .imm else (szOf P e).bind fun k => (zerosOf P e).bind fun zs => if k = 0 ∨ len * k > 16777216 then none else (rParts (fun i => some (i * k,k)) ps.toList).map fun ps => .bslice len k (rep zs len) ps
    | _ => none
  | .load t a => (kOf P t).bind fun k => (rX a).map fun a => .load k a
  | .store t a v => if o.dst.isSome = true then none else (kOf P t).bind fun k => (rX a).bind fun a => (rX v).map fun v => .store k a v
  | .nilCheck x => (rX x).map .chk
  | .binOp op t x y _ => (rX x).bind fun x => (rX y).map fun y => .bin op (eqKOf P t) x y
  | .unOp op _ x => (rX x).map fun x => .un op x
  | .convert s d x => match P.underlying s,P.underlying d with
    | some _,some (.int k) => (rX x).map fun x => .conv (.int k) x
    | some .string,some .string => (rX x).map fun x => .conv .same x
    | some (.slice e),some .string => if isU8 P e = true then (rX x).map fun x => .conv .toStr x else none
    | some .string,some (.slice e) => if isU8 P e = true ∧ szOf P e = some 1 then (rX x).map fun x => .conv .toBytes x else none
    | some (.slice _),some (.slice e) => if s = d ∧ isU8 P e = true then (rX x).map fun x => .conv .mark x else none
    | _,_ => none
  | .makeSlice t l c => match P.underlying t with
    | some (.slice e) => (szOf P e).bind fun k => (bytesOfT P e).bind fun b => (zerosOf P e).bind fun zs => if k = 0 then none else (rX l).bind fun l => (rX c).map fun c => .mks k b zs l c
    | _ => none
  | .slice t x lo hi mx => (rX x).bind fun x => (rXo lo).bind fun lo => (rXo hi).bind fun hi => (rXo mx).bind fun mx => match P.underlying t with
    | some .string => some (.cut .str x lo hi mx)
    | some (.slice e) => (szOf P e).bind fun k => if k = 0 then none else some (.cut (.slice k) x lo hi mx)
    | some (.array n e) => (szOf P e).bind fun k => if k = 0 then none else some (.cut (.arr n k) x lo hi mx)
    | _ => none
  | .fieldAddr s x f => match P.underlying s with
    | some (.struct fs) => (fs[f]?).bind fun g => (szOf P g.type).bind fun k => if k = 0 then none else (rX x).map fun x => .faddr g.offset x
    | _ => none
  | .field t x f => match P.underlying t with
    | some (.struct fs) => (fs[f]?).bind fun g => (kOf P g.type).bind fun k => (rX x).map fun x => .fld g.offset k x
    | _ => none
  | .indexAddr t x i => (rX x).bind fun x => (rX i).bind fun i => match P.underlying t with
    | some (.array n e) => (szOf P e).bind fun k => if k = 0 then none else some (.iaddr k (some n) x i)
    | some (.slice e) => (szOf P e).bind fun k => if k = 0 then none else some (.iaddr k none x i)
    | _ => none
  | .index t x i => (rX x).bind fun x => (rX i).bind fun i => match P.underlying t with
    | some (.array n e) => (szOf P e).bind fun k => (kOf P e).map fun kk => .idx (some (n,k,kk)) x i
    | some .string => some (.idx none x i)
    | _ => none
  | .extract x i => (rX x).map fun x => .ext x i
  | .call c => match c.callee with
    | .value (.func f) => if isFn P f = true then (rXs c.args.toList).map fun xs => .call f xs else if isMnz P f = true then (match c.args.toList with
      | [x] => (rX x).map (.mknz 1 1 none)
      | _ => none) else none
    | .value x => (rX x).bind fun x => (rXs c.args.toList).map fun xs => .callv x xs
    | .builtin .append => match c.args.toList,c.argTypes.toList with
      | [s,x],[t,u] => match P.underlying t,P.underlying u with
        | some (.slice e),some d => (szOf P e).bind fun k => (bytesOfT P e).bind fun b => if k = 0 ∨ b = 0 ∨ isIntD d = true ∨ (zerosOf P e).isNone = true then (if k ≠ 0 ∧ b ≠ 0 ∧ isIntD d = true ∧ (zerosOf P e).isSome = true then (rX s).bind fun s => (rX x).map fun x => .mknz k b (some s) x else none) else (rX s).bind fun s => (rX x).map fun x => .append k b s x
        | _,_ => none
      | _,_ => none
    | .builtin .copy => match c.args.toList,c.argTypes.toList with
      | [s,x],[t,_] => match P.underlying t with
        | some (.slice e) => (szOf P e).bind fun k => if k = 0 then none else (rX s).bind fun s => (rX x).map fun x => .copy k s x
        | _ => none
      | _,_ => none
    | .builtin .len => match c.args.toList,c.argTypes.toList with
      | [x],[t] => match P.underlying t with
        | some (.slice _) => (rX x).map fun x => .len .sl x
        | some .string => (rX x).map fun x => .len .str x
        | some (.array n _) => (rX x).map fun x => .len (.arr n) x
        | _ => none
      | _,_ => none
    | .builtin .cap => match c.args.toList,c.argTypes.toList with
      | [x],[t] => match P.underlying t with
        | some (.slice _) => (rX x).map fun x => .len .cap x
        | _ => none
      | _,_ => none
    | .builtin .min => (rXs c.args.toList).map .min
    | .builtin .max => (rXs c.args.toList).map .max
    | _ => none
  | .makeFunc (.func f) first caps => if first.size = 0 ∧ isFn P f = true then (rXs caps.toList).map fun xs => .mkfn f xs else none
  | .makeInterface t x => match P.underlying t with
    | some (.interface _) => none
    | some _ => (rX x).map fun x => .mkif t x
    | none => none
  | .panic _ => some .bad
  | _ => none
def rOper (ann : Ann) (ops : Array Oper) (o : Oper) : Option SOpG :=
  (rOp P ann o).bind fun so => match o.guard with
    | none => some { dst := o.dst,op := so }
    | some (j,w) => (ops[j]?).bind fun g => g.dst.map fun t => { dst := o.dst,op := so,guard := some (t,w) }
def findL : SCode → Nat → Option SCode
  | .seq a b,l => match findL a l with
    | some r => some (.seq r b)
    | none => findL b l
  | .label l',l => if l' == l then some .skip else none
  | _,_ => none
def noGoto (l : Nat) : SCode → Bool
  | .seq a b => noGoto l a && noGoto l b
  | .cond _ a b => noGoto l a && noGoto l b
  | .block _ b => noGoto l b
  | .loop b => noGoto l b
  | .scope b _ r => noGoto l b && noGoto l r
  | .goto l' => l' != l
  | _ => true
def labelsOf : Code → List Nat
  | .seq a b => labelsOf a ++ labelsOf b
  | .label l => [l]
  | _ => []
def SX.slots : SX → List Nat
  | .t n => [n]
  | .k _ => []
def xoSlots : Option SX → List Nat
  | some x => x.slots
  | none => []
def SOp.slots : SOp → List Nat
  | .bad => []
  | .mov x => x.slots
  | .pick c a b => c.slots ++ a.slots ++ b.slots
  | .lnew _ => []
  | .lbox _ x => x.slots
  | .new _ => []
  | .box _ x => x.slots
  | .build _ ps => ps.flatMap fun p => p.2.2.slots
  | .bslice _ _ _ ps => ps.flatMap fun p => p.2.2.slots
  | .load _ x => x.slots
  | .store _ x v => x.slots ++ v.slots
  | .chk x => x.slots
  | .bin _ _ x y => x.slots ++ y.slots
  | .un _ x => x.slots
  | .conv _ x => x.slots
  | .mknz _ _ s x => x.slots ++ xoSlots s
  | .mks _ _ _ l c => l.slots ++ c.slots
  | .cut _ x lo hi mx => x.slots ++ xoSlots lo ++ xoSlots hi ++ xoSlots mx
  | .faddr _ x => x.slots
  | .fld _ _ x => x.slots
  | .iaddr _ _ x i => x.slots ++ i.slots
  | .idx _ x i => x.slots ++ i.slots
  | .ext x _ => x.slots
  | .call _ xs => xs.flatMap SX.slots
  | .callv x xs => x.slots ++ xs.flatMap SX.slots
  | .append _ _ s x => s.slots ++ x.slots
  | .copy _ d s => d.slots ++ s.slots
  | .len _ x => x.slots
  | .min xs => xs.flatMap SX.slots
  | .max xs => xs.flatMap SX.slots
  | .mkfn _ xs => xs.flatMap SX.slots
  | .mkif _ x => x.slots
  | .imm _ => []
def SOpG.reads (o : SOpG) : List Nat := o.op.slots ++ (match o.guard with
  | some (t,_) => [t]
  | none => [])
def SOp.noL : SOp → Bool
  | .lnew _ => false
  | .lbox .. => false
  | _ => true
def preAt (ops : Array Oper) (i : Nat) : List Nat :=
  match ops[i]? with
  | some o => (o.after.toList.filter fun e => Region.binds .any e).map (·.on)
  | none => []
def dstNot (d : Option Nat) (l : List Nat) : Bool :=
  match d with
  | some d => !l.contains d
  | none => true
def dstNe (d e : Option Nat) : Bool :=
  match d with
  | some _ => d != e
  | none => true
def ancs (ops : Array Oper) : List Nat :=
  (List.range ops.size).foldl (fun acc i => acc ++ [(preAt ops i).foldl (fun m p => if p < i then m ||| (1 <<< p) ||| acc.getD p 0 else m) 0]) []
def early (ops : Array Oper) (eff mk : Nat → Bool) : Nat → List Nat → List Nat
  | 0,_ => []
  | n + 1,done =>
    let rs := (List.range ops.size).filter fun i => !done.contains i && (preAt ops i).all done.contains
    match rs.find? (fun i => !eff i),rs with
    | some i,_ => i :: early ops eff mk n (i :: done)
    | none,i :: q => let j := ((i :: q).find? fun i => !mk i).getD i; j :: early ops eff mk n (j :: done)
    | none,[] => []
def pairOk (ops : Array Oper) (anc : List Nat) (a x : DOp) : Bool :=
  a.i != x.i && !(preAt ops a.i).contains x.i && (a.o.op.cls != .read || (dstNot x.o.dst a.o.reads && dstNe a.o.dst x.o.dst)) &&
  ((anc.getD x.i 0).testBit a.i ||
    (x.o.op.isNew && x.nl && a.nl && x.o.guard.isNone && x.o.dst.isSome && a.o.op.noL && dstNot x.o.dst a.o.reads && dstNe a.o.dst x.o.dst && x.un.isEmpty && (a.o.op.cls != .read || (dstNot x.o.dst a.o.reads && dstNe a.o.dst x.o.dst))) ||
    (dstNot x.o.dst a.o.reads && dstNe a.o.dst x.o.dst && a.o.op.cls != .eff && x.o.op.noL && dstNot a.o.dst x.o.reads && (a.o.op.cls != .read || x.o.op.cls != .eff || (a.o.dst.isSome && x.un.contains a.i))))
def allPairs {α : Type} (f : α → α → Bool) : List α → Bool
  | [] => true
  | a :: r => r.all (f a) && allPairs f r
def drawOk (ops : Array Oper) (anc : List Nat) (L : List DOp) : Bool :=
  L.length == ops.size &&
  ((List.range ops.size).all fun i => L.any (·.i == i)) &&
  ((List.range ops.size).all fun i => (preAt ops i).all fun p => decide (p < ops.size)) &&
  ((List.range ops.size).all fun j => (List.range ops.size).all fun a => !(anc.getD j 0).testBit a || (preAt ops j).any fun p => decide (p < j) && (a == p || (anc.getD p 0).testBit a)) &&
  (L.all fun d => decide (d.i < ops.size) && !(preAt ops d.i).contains d.i && dstNot d.o.dst d.o.reads && (d.o.op.cls == .eff || d.un.isEmpty)) &&
  allPairs (pairOk ops anc) L
def drawList (ops : Array Oper) (sos : List SOpG) (anc : List Nat) : List Nat → List Nat → List DOp
  | _,[] => []
  | before,i :: r => (match sos[i]? with
    | some so => ⟨i,so,if so.op.cls = .eff ∧ so.op.isNew = false then before.filter (fun b => !(anc.getD i 0).testBit b && (match sos[b]? with | some sb => sb.op.cls == .read | none => false)) else [],(so.op.isNew && !(before.all fun b => (anc.getD i 0).testBit b)) || r.any fun j => (match sos[j]? with | some sj => sj.op.isNew | none => false) && !(anc.getD j 0).testBit i⟩
    | none => ⟨i,default,[],false⟩) :: drawList ops sos anc (before ++ [i]) r
def resolveD (ann : Ann) (ks : List Nat) (ops : Array Oper) : Option SCode :=
  (ops.toList.mapM (rOper P ann ops)).bind fun sos =>
    let anc := ancs ops
    let L := drawList ops sos anc [] (early ops (fun i => ((sos[i]?).map fun s => decide (s.op.cls = .eff)).getD true) (fun i => ((sos[i]?).map fun s => s.op.isNew).getD true) ops.size [])
    if drawOk ops anc L = true then some (.drawn ks L) else none
def resolve (ann : Ann) : Code → Option SCode
  | .skip => some .skip
  | .region id ops d => if d = false then (ops.toList.mapM (rOper P ann ops)).map fun l => .region ((ann.kills.lookup id).getD []) l else resolveD P ann ((ann.kills.lookup id).getD []) ops
  | .seq a b => (resolve ann a).bind fun a => (resolve ann b).map fun b => .seq a b
  | .cond c a b => (rX c).bind fun c => (resolve ann a).bind fun a => (resolve ann b).map fun b => .cond c a b
  | .block id b => (resolve ann b).map fun b => .block id b
  | .loop b => (resolve ann b).map .loop
  | .exit id => some (.exit id)
  | .label l => some (.label l)
  | .goto l => some (.goto l)
  | .ret => some .ret
  | .scope c => match labelsOf c with
    | [l] => (resolve ann c).bind fun s => (findL s l).map fun r => .scope s l r
    | [l,l'] => (resolve ann c).bind fun s => (findL s l).bind fun r => (findL s l').bind fun r' => if l ≠ l' ∧ noGoto l r' = true then some (.scope (.scope s l r) l' r') else none
    | _ => none
  | _ => none
def rRes : ResultVar → Option SRes
  | .tmp t => some (.tmp t)
  | .cell a t => (kOf P t).map fun k => .cell a k
def resolveF (ann : Ann) (f : FuncId) : Option SFun :=
  if isFn P f = false then none else (P.funcs[f]?).bind fun fn => fn.body.bind fun c => (resolve P ann c).bind fun b => (fn.results.toList.mapM (rRes P)).map fun rs => ⟨b,fn.ntmps,rs⟩
end
end Go.A
