/- THE VALUE MACHINE: its operations as words for simp. -/
import Derived.Test.YtnmobjhmohcjfaaV12
set_option linter.unusedSimpArgs false
set_option linter.unusedVariables false
set_option linter.unnecessarySimpa false
namespace Go.A.V
open Go Go.A
section
variable (m : Md) (C : Oracle) (d : Option Nat) (σ : List AV) (H : Heap)
theorem opV_mov (x : SX) : opV m C d (.mov x) σ H = some (evalX σ x,σ,H) := rfl
theorem opV_pick (c a b : SX) : opV m C d (.pick c a b) σ H = (pickV (evalX σ c) (evalX σ a) (evalX σ b)).map fun v => (v,σ,H) := by
 simp only [opV,pickV]
 split <;> simp_all
theorem opV_lnew (d : Nat) (zs : List AV) : opV m C (some d) (.lnew zs) σ H = some (.lbox zs,σ.map (forget d),H) := rfl
theorem opV_lbox (d k : Nat) (x : SX) : opV m C (some d) (.lbox k x) σ H = if (toCells (evalX σ x)).length = k ∧ (toCells (evalX σ x)).all okCell = true then some (.lbox (toCells (evalX σ x)),σ.map (forget d),H) else none := rfl
theorem opV_new (zs : List AV) : opV m C d (.new zs) σ H = some (.ptr H.length 0 zs.length,σ,H ++ [.row zs]) := rfl
theorem opV_box (k : Nat) (x : SX) : opV m C d (.box k x) σ H = if (toCells (evalX σ x)).length = k ∧ (toCells (evalX σ x)).all okCell = true then some (.ptr H.length 0 k,σ,H ++ [.row (plns (toCells (evalX σ x)))]) else none := rfl
theorem opV_build (zs : List AV) (ps : List (Nat × Nat × SX)) : opV m C d (.build zs ps) σ H = (placeAll zs (ps.map fun p => (p.1,p.2.1,evalX σ p.2.2))).map fun l => (.agg l,σ,H) := rfl
def bslW (m : Md) (d : Option Nat) (len sz : Nat) (cs : List AV) (σ : List AV) (H : Heap) : Option (AV × List AV × Heap) :=
 if cs.all okCell = true then (if m.row d = true then some (.sl H.length 0 len len sz (len * sz) true,σ,H ++ [.row cs])
    else if cs.length = len * sz then some (.vs sz d (chunk sz len cs),σ,H) else none) else none
theorem opV_bslice (len sz : Nat) (zs : List AV) (ps : List (Nat × Nat × SX)) : opV m C d (.bslice len sz zs ps) σ H = (placeAll zs (ps.map fun p => (p.1,p.2.1,pln (evalX σ p.2.2)))).bind fun cs => bslW m d len sz cs σ H := rfl
theorem opV_load (k : Option Nat) (x : SX) : opV m C d (.load k x) σ H = (loadV σ H k (evalX σ x)).map fun v => (v,σ,H) := by
 simp only [opV,loadV]
 split <;> simp_all
theorem opV_store (k : Option Nat) (x v : SX) : opV m C d (.store k x v) σ H = (storeV m σ H k (evalX σ x) (evalX σ v)).map fun p => (.tup [],p.1,p.2) := by
 simp only [opV,storeV]
 split
 ·rename_i e; rw [e]; simp only; split <;> rfl
 ·rename_i e; rw [e]
 ·rename_i h1 h2
  split
  ·rename_i e; exact (h1 _ _ _ e).elim
  ·rename_i e; exact (h2 _ _ e).elim
  ·rfl
theorem opV_chk (x : SX) : opV m C d (.chk x) σ H = (chkW (evalX σ x)).map fun v => (v,σ,H) := by
 simp only [opV,chkW]
 split <;> simp_all
theorem opV_bin (op : BinOp) (ek : EqK) (x y : SX) : opV m C d (.bin op ek x y) σ H = (binV op ek (evalX σ x) (evalX σ y)).map fun v => (v,σ,H) := by
 simp only [opV,binV]
 cases op <;> first | rfl | (cases ek <;> first | rfl | (simp only; split <;> rfl))
theorem opV_un (op : UnOp) (x : SX) : opV m C d (.un op x) σ H = (unA op (evalX σ x)).map fun v => (v,σ,H) := rfl
def convI (k : IntKind) : AV → Option AV
 | .c (.int _ n) => some (.c (.int k (k.wrap n)))
 | _ => none
theorem opV_convi (k : IntKind) (x : SX) : opV m C d (.conv (.int k) x) σ H = (convI k (evalX σ x)).map fun v => (v,σ,H) := by
 simp only [opV,convI]
 split <;> simp_all
theorem convI_int (k k' : IntKind) (n : Int) : convI k (.c (.int k' n)) = some (.c (.int k (k.wrap n))) := rfl
theorem opV_str (x : SX) : opV m C d (.conv .toStr x) σ H = (strV H (evalX σ x)).map fun v => (v,σ,H) := by
 simp only [opV,strV]
 cases evalX σ x with
 | c v => cases v <;> first | rfl | (rename_i a l c; cases a <;> first | rfl | (cases l <;> first | rfl | (cases c <;> rfl)))
 | vs k f l => simp only; split <;> first | rfl | (rw [Option.map_map]; rfl)
 | sl r off len cap sz g ex => simp only; rw [Option.map_map]; rfl
 | _ => rfl
theorem opV_cutS (sz : Nat) (x : SX) (lo hi mx : Option SX) : opV m C d (.cut (.slice sz) x lo hi mx) σ H = (cutV sz d (evalX σ x) (lo.map (evalX σ)) (hi.map (evalX σ)) (mx.map (evalX σ))).map fun v => (v,σ,H) := by
 simp only [opV,cutV]
 split
 ·rename_i e
  rw [e]
  simp only
  split
  ·simp only [Option.map_map,Option.isSome_map]; rfl
  ·rfl
 ·rename_i h
  split
  ·rename_i e; exact (h _ _ _ e).elim
  ·rfl
theorem opV_cutStr (x : SX) (lo hi mx : Option SX) : opV m C d (.cut .str x lo hi mx) σ H = (cutA .str (evalX σ x) (lo.map (evalX σ)) (hi.map (evalX σ)) (mx.map (evalX σ))).map fun v => (v,σ,H) := rfl
theorem opV_faddr (off : Nat) (x : SX) : opV m C d (.faddr off x) σ H = (faddrW off (evalX σ x)).map fun v => (v,σ,H) := by
 simp only [opV,faddrW]
 split <;> simp_all
theorem opV_iaddr (sz : Nat) (arr : Option Nat) (x i : SX) : opV m C d (.iaddr sz arr x i) σ H = (iaddrW sz arr (evalX σ x) (evalX σ i)).map fun v => (v,σ,H) := by
 simp only [opV,iaddrW]
 split <;> first | rfl | (split <;> rfl) | skip
 all_goals simp_all
def idxW (arr : Option (Nat × Nat × Option Nat)) (x i : AV) : Option AV := match x,i,arr with
  | .agg xs,.c (.int _ j),some (n,sz,k) => if 0 ≤ j ∧ j < n then fromCells k xs (j.toNat * sz) else none
  | .c (.string s),.c (.int _ j),none => if 0 ≤ j then (s.data.toList[j.toNat]?).map fun b => .c (.int .u8 b.toNat) else none
  | _,_,_ => none
theorem idxW_agg (n sz : Nat) (k : Option Nat) (xs : List AV) (kk : IntKind) (j : Int) : idxW (some (n,sz,k)) (.agg xs) (.c (.int kk j)) = if 0 ≤ j ∧ j < n then fromCells k xs (j.toNat * sz) else none := rfl
theorem opV_ext (x : SX) (i : Nat) : opV m C d (.ext x i) σ H = (extV i (evalX σ x)).map fun v => (v,σ,H) := by
 simp only [opV,extV]
 split <;> simp_all
theorem opV_call (f : FuncId) (xs : List SX) : opV m C d (.call f xs) σ H = if AV.freeAll (xs.map (evalX σ)) = true then (C f (plns (xs.map (evalX σ))) H).map fun p => recol d p.1 σ p.2 else none := rfl
def callvW (C : Oracle) (d : Option Nat) (σ : List AV) (H : Heap) (v : AV) (as : List AV) : Option (AV × List AV × Heap) := match v with
 | .fn f cs => if AV.freeAll as = true then (C f (plns as ++ cs) H).map fun p => recol d p.1 σ p.2 else none
 | _ => none
theorem opV_callv (x : SX) (xs : List SX) : opV m C d (.callv x xs) σ H = callvW C d σ H (evalX σ x) (xs.map (evalX σ)) := by
 simp only [opV,callvW]
 split <;> simp_all
theorem callvW_fn (f : FuncId) (cs as : List AV) : callvW C d σ H (.fn f cs) as = if AV.freeAll as = true then (C f (plns as ++ cs) H).map fun p => recol d p.1 σ p.2 else none := rfl
theorem opV_append (sz bytes : Nat) (s x : SX) : opV m C d (.append sz bytes s x) σ H = appW m d sz bytes (evalX σ s) (evalX σ x) σ H := by
 have : opV m C d (.append sz bytes s x) σ H = match d,evalX σ s with
  | some d',.c (.slice none 0 0) => if m.row (some d') = true then (elems H sz (evalX σ x)).bind fun l' => if l' = [] then some (evalX σ s,σ,H) else
     if l'.length * bytes ≤ appBound ∧ l'.length ≤ appBound then some (.sl H.length 0 l'.length l'.length sz (l'.length * sz) false,σ,H ++ [.grow l'.flatten 0]) else none
    else appV d' sz bytes (evalX σ s) (evalX σ x) σ H
  | some d',.vs k f l => appV d' sz bytes (.vs k f l) (evalX σ x) σ H
  | _,.sl r off len cap sz' g ex => if m.wr = true then (elems H sz (evalX σ x)).bind fun l' => if l' = [] then (if len ≤ cap then some (.sl r off len cap sz' g ex,σ,H) else none) else
     if off = 0 ∧ cap = len ∧ (cap ≠ 0 ∧ ex = false) ∧ sz' = sz ∧ g = len * sz ∧ (len + l'.length) * bytes ≤ appBound ∧ len + l'.length ≤ appBound then (match H[r]? with
      | some o => if o.isW = true ∧ o.cells.length = g then some (.sl r 0 (len + l'.length) (len + l'.length) sz (g + l'.length * sz) false,σ,H.set r (.grow (o.cells ++ l'.flatten) o.lo)) else none
      | none => none)
     else if len + l'.length ≤ cap then (wrRow H r (off + len * sz) g l'.flatten).map fun H' => (.sl r off (len + l'.length) cap sz' g ex,σ,H')
     else if len = 0 ∧ ex = true ∧ l'.length * bytes ≤ appBound ∧ l'.length ≤ appBound then some (.sl H.length 0 l'.length l'.length sz (l'.length * sz) false,σ,H ++ [.grow l'.flatten 0]) else none
    else none
  | _,_ => none := rfl
 rw [this]
 unfold appW
 cases d <;> cases hv : evalX σ s <;> first | rfl | skip
 rename_i v
 cases v <;> first | rfl | skip
 rename_i a l c
 cases a <;> first | rfl | skip
 cases l <;> first | rfl | skip
 cases c <;> rfl
def copyW (m : Md) (sz : Nat) (x y : AV) (H : Heap) : Option (AV × Heap) := (elems H sz y).bind fun l' => match x with
  | .sl r off len _ _ g _ => if l' = [] then some (.c (.int .i64 0),H) else if m.wr = true ∧ l'.length ≤ len then (wrRow H r off g l'.flatten).map fun H' => (.c (.int .i64 l'.length),H') else none
  | _ => none
theorem opV_copy (sz : Nat) (x y : SX) : opV m C d (.copy sz x y) σ H = (copyW m sz (evalX σ x) (evalX σ y) H).map fun p => (p.1,σ,p.2) := by
 simp only [opV,copyW]
 cases elems H sz (evalX σ y) with
 | none => rfl
 | some l' =>
  simp only [Option.bind_some]
  cases evalX σ x with
  | sl r off len cap z g ex =>
   simp only
   split
   ·rfl
   ·split
    ·rw [Option.map_map]; rfl
    ·rfl
  | _ => rfl
def mknzW (H : Heap) (sz bytes : Nat) (s : Option AV) (x : AV) : Option (AV × Heap) := match x,s with
  | .c (.int .i64 n),none => if 0 ≤ n ∧ n ≤ appBound then some (.sl H.length 0 n.toNat n.toNat 1 (n.toNat * 1) false,H ++ [.grow (List.replicate (n.toNat * 1) .undef) 0]) else none
  | .c (.int .i64 n),some (.c (.slice none 0 0)) => if 0 < n ∧ n ≤ appBound ∧ n.toNat * bytes ≤ appBound then some (.sl H.length 0 n.toNat n.toNat sz (n.toNat * sz) false,H ++ [.grow (List.replicate (n.toNat * sz) .undef) 0]) else none
  | _,_ => none
theorem opV_mknz (sz bytes : Nat) (s : Option SX) (x : SX) : opV m C d (.mknz sz bytes s x) σ H = (mknzW H sz bytes (s.map (evalX σ)) (evalX σ x)).map fun p => (p.1,σ,p.2) := by
 simp only [opV,mknzW]
 split
 ·rename_i n e e0; rw [e,e0]; simp only; split <;> rfl
 ·rename_i n e e0; rw [e,e0]; simp only; split <;> rfl
 ·rename_i h1 h2
  split
  ·rename_i n e e0; exact (h1 _ e e0).elim
  ·rename_i n e e0; exact (h2 _ e e0).elim
  ·rfl
theorem opV_len (x : SX) : opV m C d (.len .sl x) σ H = (lenW (evalX σ x)).map fun n => (ai n,σ,H) := by
 simp only [opV,lenW]
 split <;> simp_all
def capW : AV → Option Nat
 | .c (.slice none 0 0) => some 0
 | .sl _ _ _ cap _ _ true => some cap
 | _ => none
theorem opV_cap (x : SX) : opV m C d (.len .cap x) σ H = (capW (evalX σ x)).map fun n => (ai n,σ,H) := by
 simp only [opV,capW]
 split <;> simp_all
@[simp] theorem capW_nil : capW (.c (.slice none 0 0)) = some 0 := rfl
@[simp] theorem capW_sl (r off len cap sz g : Nat) : capW (.sl r off len cap sz g true) = some cap := rfl
theorem opV_lenArr (n : Nat) (x : SX) : opV m C d (.len (.arr n) x) σ H = some (ai n,σ,H) := rfl
theorem opV_lenStr (x : SX) : opV m C d (.len .str x) σ H = (match evalX σ x with
  | .c (.string s) => some (.c (.int .i64 s.size),σ,H)
  | _ => none) := rfl
theorem opV_min2 (x y : SX) : opV m C d (.min [x,y]) σ H = (min2V (evalX σ x) (evalX σ y)).map fun v => (v,σ,H) := by
 simp only [opV,List.map_cons,List.map_nil,min2V]
 cases evalX σ x with
 | c v => cases v <;> first | rfl | (simp only [List.foldlM_cons,List.foldlM_nil]; cases evalX σ y with
  | c u => cases u <;> rfl
  | _ => rfl)
 | _ => rfl
def mx (x y : Int) : Int := if y > x then y else x
def max2V : AV → AV → Option AV
 | .c (.int k x),.c (.int _ y) => some (.c (.int k (mx x y)))
 | _,_ => none
theorem max2V_i (k k' : IntKind) (a b : Int) : max2V (.c (.int k a)) (.c (.int k' b)) = some (.c (.int k (mx a b))) := rfl
theorem opV_mkfn (f : FuncId) (cs : List SX) : opV m C d (.mkfn f cs) σ H = if AV.freeAll (cs.map (evalX σ)) = true then some (.fn f (plns (cs.map (evalX σ))),σ,H) else none := rfl
theorem sameA_c (H : Heap) (v u : Value) : sameA H (.c v) (.c u) = eqV v u := rfl
theorem sameA_ptr {H : Heap} {r : Nat} {cs : List AV} (h : H[r]? = some (.row cs)) (i g : Nat) : sameA H (.ptr r i g) (.ptr r i g) = true := by
 simp [sameA,eqAV,h,AObj.isRow]
attribute [simp] sameA_c
theorem opV_imm (l : List Value) : opV m C d (.imm l) σ H = some (.imm l,σ,H) := rfl
attribute [simp] opV_imm
theorem opV_mkif (t : TypeId) (x : SX) : opV m C d (.mkif t x) σ H = if AV.free (evalX σ x) = true then some (.iface t (pln (evalX σ x)),σ,H) else none := rfl
theorem runOps_nil : runOps m C [] σ H = some (σ,H) := rfl
theorem runOps_0 {op : SOp} {r : List SOpG} : runOps m C (⟨d,op,none⟩ :: r) σ H = (opV m C d op σ H).bind fun x => runOps m C r (setD x.2.1 d x.1) x.2.2 := rfl
theorem recol_lst (dd : Nat) (z : Bool) (k : Nat) (f : Option Nat) (l : List (List AV)) : recol (some dd) (lst z k f l) σ H = (lst z k (f.map fun _ => dd) l,σ.map (unfl [dd]),H) := by
 rcases lst_cases z k f l with ⟨rfl,rfl,e⟩ | ⟨e,h⟩
 ·rw [e]; rfl
 ·rw [e]
  simp only [recol,lst]
  rw [if_neg h]
theorem recol_vs (dd : Nat) (k : Nat) (f : Option Nat) (l : List (List AV)) : recol (some dd) (.vs k f l) σ H = (.vs k (f.map fun _ => dd) l,σ.map (unfl [dd]),H) := rfl
theorem recol_nil (dd : Nat) : recol (some dd) nilS σ H = (nilS,σ.map (unfl [dd]),H) := rfl
theorem recol_int (k : IntKind) (n : Int) : recol d (.c (.int k n)) σ H = (.c (.int k n),σ,H) := by cases d <;> rfl
theorem recol_bool (n : Bool) : recol d (ab n) σ H = (ab n,σ,H) := by cases d <;> rfl
theorem recol_pnil : recol d (.c (.pointer none)) σ H = (.c (.pointer none),σ,H) := by cases d <;> rfl
theorem recol_ptr (r i g : Nat) : recol d (.ptr r i g) σ H = (.ptr r i g,σ,H) := by cases d <;> rfl
theorem recol_sl (r o l c s g : Nat) (e : Bool) : recol d (.sl r o l c s g e) σ H = (.sl r o l c s g e,σ,H) := by cases d <;> rfl
theorem recol_tup0 : recol d (.tup []) σ H = (.tup [],σ,H) := by cases d <;> simp [recol]
theorem recol_tupI (k : IntKind) (n : Int) (r : List AV) : recol d (.tup (.c (.int k n) :: r)) σ H = (.tup (.c (.int k n) :: plns r),σ,H) := by cases d <;> simp [recol]
theorem recol_tupP (p : Option Addr) (r : List AV) : recol d (.tup (.c (.pointer p) :: r)) σ H = (.tup (.c (.pointer p) :: plns r),σ,H) := by cases d <;> simp [recol]
theorem recol_tupR (a i g : Nat) (r : List AV) : recol d (.tup (.ptr a i g :: r)) σ H = (.tup (.ptr a i g :: plns r),σ,H) := by cases d <;> simp [recol]
theorem recol_tupA (xs r : List AV) : recol d (.tup (.agg xs :: r)) σ H = (.tup (.agg (plns xs) :: plns r),σ,H) := by cases d <;> simp [recol]
theorem recol_tupV (dd : Nat) (k : Nat) (f : Option Nat) (l : List (List AV)) (r : List AV) : recol (some dd) (.tup (.vs k f l :: r)) σ H = (.tup (.vs k (f.map fun _ => dd) l :: plns r),σ.map (unfl [dd]),H) := rfl
theorem recol_tupN (dd : Nat) (r : List AV) : recol (some dd) (.tup (nilS :: r)) σ H = (.tup (nilS :: plns r),σ.map (unfl [dd]),H) := rfl
theorem recol_tupL (dd : Nat) (z : Bool) (k : Nat) (f : Option Nat) (l : List (List AV)) (r : List AV) : recol (some dd) (.tup (lst z k f l :: r)) σ H = (.tup (lst z k (f.map fun _ => dd) l :: plns r),σ.map (unfl [dd]),H) := by
 rcases lst_cases z k f l with ⟨rfl,rfl,e⟩ | ⟨e,h⟩
 ·rw [e]; rfl
 ·rw [e]
  simp only [recol,lst]
  rw [if_neg h]
theorem recol_none (v : AV) : recol none v σ H = (pln v,σ,H) := rfl
end
def runS (m : Md) (C : Oracle) : List DOp → List AV → Heap → Option (List AV × Heap)
 | [],σ,H => some (σ,H)
 | d :: r,σ,H => (stepV m C d.o σ H).bind fun p => runS m C r p.1 p.2
theorem runD_plain (W : FuncId → Bool) (m : Md) (C : Oracle) : ∀ (ops : List DOp) (acc : List (DOp × Bool)) (σ : List AV) (H : Heap),ops.all (fun d => d.un.isEmpty && !d.nl) = true → runD W m C acc ops σ H = runS m C ops σ H
 | [],_,_,_,_ => rfl
 | d :: r,acc,σ,H,h => by
  simp only [List.all_cons,Bool.and_eq_true] at h
  simp only [runD,runS]
  congr 1
  funext x
  have hd : d.un = [] := by simpa using h.1.1
  have hok : okN d σ = true := by rw [okN,h.1.2]; rfl
  rw [if_pos (by simp [hd,hok]),runD_plain W m C r _ _ _ h.2]
theorem execW_plain {p : VP} {f : FuncId} {σ : List AV} {H : Heap} (ks : List Nat) (ops : List DOp) (h : ops.all (fun d => d.un.isEmpty && !d.nl) = true) : execW p f (.drawn ks ops) σ H = (runS (p.md f) (orcW p f) ops (kill ks σ) H).map fun x => ⟨.normal,x.1,x.2⟩ := by
 rw [execW_drawn,runD_plain _ _ _ _ _ _ _ h]
theorem runS_nil (m : Md) (C : Oracle) (σ : List AV) (H : Heap) : runS m C [] σ H = some (σ,H) := rfl
theorem runS_cons (m : Md) (C : Oracle) (d : DOp) (r : List DOp) (σ : List AV) (H : Heap) : runS m C (d :: r) σ H = (stepV m C d.o σ H).bind fun p => runS m C r p.1 p.2 := by rw [runS]
section
variable (m : Md) (C : Oracle) (d : Option Nat) (op : SOp) (σ : List AV) (H : Heap)
theorem stepV_0 (h : dstBox σ d = false) : stepV m C ⟨d,op,none⟩ σ H = (opV m C d op σ H).bind (dkeep op d) := by
 unfold stepV
 rw [if_neg (fun h' => absurd h'.2 (by rw [h]; simp))]
 rfl
end
theorem chkW_ptr (r i g : Nat) : chkW (.ptr r i g) = some (.ptr r i g) := rfl
theorem chkW_lptr (d i : Nat) : chkW (.lptr d i) = some (.lptr d i) := rfl
theorem chkW_fn (f : FuncId) (l : List AV) : chkW (.fn f l) = some (.fn f l) := rfl
theorem chkW_vp (l : List AV) (i : Nat) : chkW (.vp l i) = some (.vp l i) := rfl
theorem faddrW_ptr (off r i g : Nat) : faddrW off (.ptr r i g) = some (.ptr r (i + off) g) := rfl
theorem faddrW_lptr (off d i : Nat) : faddrW off (.lptr d i) = some (.lptr d (i + off)) := rfl
theorem faddrW_vp (off i : Nat) (l : List AV) : faddrW off (.vp l i) = some (.vp l (i + off)) := rfl
attribute [simp] opV_mov opV_pick opV_lnew opV_lbox opV_new opV_box opV_build opV_bslice opV_load opV_store opV_chk opV_bin opV_un opV_convi convI_int opV_str opV_copy opV_mknz opV_cutS opV_cutStr opV_faddr opV_iaddr idxW_agg opV_ext opV_call opV_callv callvW_fn opV_append opV_len opV_cap opV_lenArr opV_lenStr opV_min2 max2V_i opV_mkfn opV_mkif
attribute [simp] runOps_nil runOps_0 recol_lst recol_vs recol_nil recol_int recol_bool recol_pnil recol_ptr recol_sl recol_tup0 recol_tupI recol_tupP recol_tupR recol_tupA recol_tupV recol_tupN recol_tupL recol_none runS_nil runS_cons
attribute [simp] execW_seq execW_region execW_ret execW_skip execW_label execW_exit execW_goto execW_block execW_cond execW_scope
attribute [simp] lenW_n lenW_sl lenW_vs lenW_lst loadV_vp loadV_ptr loadV_lptr storeV_ptr storeV_lptr chkW_ptr chkW_lptr chkW_fn chkW_vp faddrW_ptr faddrW_lptr faddrW_vp iaddrW_sl iaddrW_ptr iaddrW_lptr iaddrW_vp binV_cc binV_agg binV_ptr binV_vsn binV_vsn' binA_ptrn binA_ptrn' binA_nn binA_nn' elems_n elems_vs elems_lst bslW chunk
def gd {α : Type} (w : Option Bool) (x y : Option α) : Option α := match w with
 | some true => x
 | some false => y
 | none => none
theorem gd_left {α : Type} {w w' : Option Bool} (x y : Option α) (h : w = w') : gd w x y = gd w' x y := by rw [h]
theorem gd_b {α : Type} (b : Bool) (x y : Option α) : gd (some b) x y = if b = true then x else y := by cases b <;> rfl
theorem runOps_g (m : Md) (C : Oracle) (d : Option Nat) (op : SOp) (i : Nat) (b : Bool) (r : List SOpG) (σ : List AV) (H : Heap) : runOps m C (⟨d,op,some (i,b)⟩ :: r) σ H =
  gd (wanted σ (some (i,b))) ((opV m C d op σ H).bind fun x => runOps m C r (setD x.2.1 d x.1) x.2.2) (runOps m C r (setD σ d (.tup [])) H) := by
 simp only [runOps,gd]
 rfl
theorem stepV_g (m : Md) (C : Oracle) (d : Option Nat) (op : SOp) (i : Nat) (b : Bool) (σ : List AV) (H : Heap) (h : dstBox σ d = false) : stepV m C ⟨d,op,some (i,b)⟩ σ H =
  gd (wanted σ (some (i,b))) ((opV m C d op σ H).bind (dkeep op d)) (some (setD σ d (.tup []),H)) := by
 unfold stepV
 rw [if_neg (fun h' => absurd h'.2 (by rw [h]; simp))]
 rfl
attribute [congr] gd_left
attribute [simp] gd_b
theorem execW_drawn' {p : VP} {f : FuncId} {σ : List AV} {H : Heap} (ks : List Nat) (ops : List DOp) : execW p f (.drawn ks ops) σ H = (if (ops.all fun d => d.un.isEmpty && !d.nl) = true then runS (p.md f) (orcW p f) ops (kill ks σ) H else runD p.W (p.md f) (orcW p f) [] ops (kill ks σ) H).map fun x => ⟨.normal,x.1,x.2⟩ := by
 split
 ·rename_i h; exact execW_plain ks ops h
 ·exact execW_drawn _ _ _ _ _ _
theorem stepV_0' (m : Md) (C : Oracle) (d : Option Nat) (op : SOp) (σ : List AV) (H : Heap) : stepV m C ⟨d,op,none⟩ σ H = if dstBox σ d = true then (if op.cls = .eff then (opV m C d op σ H).bind (dkeep op d) else none) else (opV m C d op σ H).bind (dkeep op d) := by
 split
 ·rename_i h
  split
  ·rename_i h2
   unfold stepV
   rw [if_neg (fun h' => h'.1 h2)]
   rfl
  ·rename_i h2
   unfold stepV
   rw [if_pos ⟨h2,h⟩]
 ·rename_i h; exact stepV_0 m C d op σ H (by simpa using h)
theorem stepV_g' (m : Md) (C : Oracle) (d : Option Nat) (op : SOp) (i : Nat) (b : Bool) (σ : List AV) (H : Heap) : stepV m C ⟨d,op,some (i,b)⟩ σ H = if dstBox σ d = true then (if op.cls = .eff then gd (wanted σ (some (i,b))) ((opV m C d op σ H).bind (dkeep op d)) (some (setD σ d (.tup []),H)) else none) else
  gd (wanted σ (some (i,b))) ((opV m C d op σ H).bind (dkeep op d)) (some (setD σ d (.tup []),H)) := by
 split
 ·rename_i h
  split
  ·rename_i h2
   unfold stepV
   rw [if_neg (fun h' => h'.1 h2)]
   rfl
  ·rename_i h2
   unfold stepV
   rw [if_pos ⟨h2,h⟩]
 ·rename_i h; exact stepV_g m C d op i b σ H (by simpa using h)
attribute [simp] runOps_g stepV_0' stepV_g' execW_drawn' runD goodB keepB sameV
theorem okN_f (i : Nat) (o : SOpG) (un : List Nat) (σ : List AV) : okN ⟨i,o,un,false⟩ σ = true := rfl
def anyT (p : AV → Bool) : Tr → Bool
 | .e => false
 | .n l v r => p v || anyT p l || anyT p r
theorem anyT_get {p : AV → Bool} (h0 : p .undef = false) : ∀ (t : Tr) (q : List Bool),anyT p t = false → p (t.get q) = false
 | .e,q,_ => by cases q <;> simpa [Tr.get] using h0
 | .n l v r,[],h => by simp only [anyT,Bool.or_eq_false_iff] at h; simpa [Tr.get] using h.1.1
 | .n l v r,false :: q,h => by simp only [anyT,Bool.or_eq_false_iff] at h; simpa [Tr.get] using anyT_get h0 l q h.1.2
 | .n l v r,true :: q,h => by simp only [anyT,Bool.or_eq_false_iff] at h; simpa [Tr.get] using anyT_get h0 r q h.2
theorem L_any (n : Nat) (t : Tr) (d : Nat) (h : anyT (AV.isLd d) t = false) : (L n t).any (AV.isLd d) = false := by
 rw [List.any_eq_false]
 intro v hv
 obtain ⟨i,_,rfl⟩ := List.mem_map.1 hv
 rw [anyT_get rfl t _ h]; simp
theorem anyT_full (d : Nat) : ∀ k,anyT (AV.isLd d) (Tr.full k) = false
 | 0 => rfl
 | k + 1 => by
  have h := anyT_full d k
  show (AV.isLd d .undef || anyT (AV.isLd d) (Tr.full k) || anyT (AV.isLd d) (Tr.full k)) = false
  rw [h]; rfl
theorem anyT_n (d : Nat) (l r : Tr) (v : AV) : anyT (AV.isLd d) (.n l v r) = (v.isLd d || anyT (AV.isLd d) l || anyT (AV.isLd d) r) := rfl
attribute [simp] okN_f
theorem finish_k (c : Bool) (n0 : Nat) (v : AV) (H : Heap) : finish true c n0 v H = some (normB c v,H) := rfl
theorem normB_f (v : AV) : normB false v = norm v := rfl
theorem normB_t (v : AV) : normB true v = normT v := rfl
theorem finish_n (c : Bool) (n0 : Nat) (v : AV) (H : Heap) : finish false c n0 v H = (frz n0 H v).map fun v' => (normB c v',H.take n0 ++ List.replicate (H.length - n0) .other) := rfl
theorem frz_c (n0 : Nat) (H : Heap) (v : Value) : frz n0 H (.c v) = some (.c v) := by simp only [frz]
theorem frz_vs (n0 : Nat) (H : Heap) (k : Nat) (f : Option Nat) (l : List (List AV)) : frz n0 H (.vs k f l) = some (.vs k f l) := by simp only [frz]
theorem frz_lst (n0 : Nat) (H : Heap) (z : Bool) (k : Nat) (f : Option Nat) (l : List (List AV)) : frz n0 H (lst z k f l) = some (lst z k f l) := by
 rcases lst_cases z k f l with ⟨_,_,e⟩ | ⟨e,_⟩ <;> rw [e] <;> simp only [frz]
theorem frz_tup (n0 : Nat) (H : Heap) (xs : List AV) : frz n0 H (.tup xs) = (frzs n0 H xs).map .tup := by simp only [frz]
theorem frz_agg (n0 : Nat) (H : Heap) (xs : List AV) : frz n0 H (.agg xs) = (frzs n0 H xs).map .agg := by simp only [frz]
theorem frzs_nil (n0 : Nat) (H : Heap) : frzs n0 H [] = some [] := by simp only [frzs]
theorem frzs_cons (n0 : Nat) (H : Heap) (x : AV) (r : List AV) : frzs n0 H (x :: r) = (frz n0 H x).bind fun y => (frzs n0 H r).map fun z => y :: z := by simp only [frzs]
theorem norm_c (v : Value) : norm (.c v) = .c v := rfl
theorem norm_tup (l : List AV) : norm (.tup l) = .tup (plns l) := by simp only [norm,pln]
theorem norm_vs (k : Nat) (f : Option Nat) (l : List (List AV)) : norm (.vs k f l) = .vs k (f.map fun _ => 0) l := by cases f <;> rfl
theorem norm_lst (z : Bool) (k : Nat) (f : Option Nat) (l : List (List AV)) : norm (lst z k f l) = lst z k (f.map fun _ => 0) l := by
 rcases lst_cases z k f l with ⟨rfl,rfl,e⟩ | ⟨e,h⟩
 ·rw [e]; rfl
 ·rw [e,norm_vs,lst,if_neg h]
theorem norm_ptr (r i g : Nat) : norm (.ptr r i g) = .ptr r i g := rfl
theorem normB_c (b : Bool) (v : Value) : normB b (.c v) = .c v := by cases b <;> rfl
theorem normT_tupV (k : Nat) (f : Option Nat) (l : List (List AV)) (r : List AV) : normT (.tup (.vs k f l :: r)) = .tup (.vs k (f.map fun _ => 0) l :: plns r) := by cases f <;> simp [normT,pln,plns]
theorem normT_tupN (r : List AV) : normT (.tup (nilS :: r)) = .tup (nilS :: plns r) := by simp [normT,pln,plns]
theorem normT_tupL (z : Bool) (k : Nat) (f : Option Nat) (l : List (List AV)) (r : List AV) : normT (.tup (lst z k f l :: r)) = .tup (lst z k (f.map fun _ => 0) l :: plns r) := by
 rcases lst_cases z k f l with ⟨rfl,rfl,e⟩ | ⟨e,h⟩
 ·rw [e,normT_tupN]; rfl
 ·rw [e,normT_tupV,lst,if_neg h]
attribute [simp] finish_k finish_n frz_c frz_vs frz_lst frz_tup frz_agg frzs_nil frzs_cons norm_c norm_tup norm_vs norm_lst norm_ptr normB_f normB_t normB_c normT_tupV normT_tupN normT_tupL
theorem ite_bind {α β : Type} (c : Prop) [Decidable c] (x y : Option α) (K : α → Option β) : (if c then x else y).bind K = if c then x.bind K else y.bind K := by split <;> rfl
theorem ite_map {α β : Type} (c : Prop) [Decidable c] (x y : Option α) (K : α → β) : (if c then x else y).map K = if c then x.map K else y.map K := by split <;> rfl
attribute [simp] ite_bind ite_map
theorem call_L {p : VP} {f : FuncId} {s : SFun} {args : List AV} {H : Heap} (k : Nat) (hx : p.X f args H = none) (ht : p.T f = some s) (hl : args.length ≤ s.nslots) : callW p f args H =
  (execW p f s.body (L s.nslots (putAll 0 args (Tr.full k))) H).bind fun st =>
    if st.e.ends = true then (resultsA s.res st.σ).bind fun v => if v.free = true then finish (p.K f) (p.C f) H.length v st.H else none else none := by
 rw [callW_eq,hx]
 simp only [ht,Option.bind_some]
 rw [slots0_L k s.nslots args hl]
theorem appW_vs {m : Md} {d sz bytes c : Nat} {l l' : List (List AV)} {x : AV} (hx : ∀ H,elems H sz x = some l') (h1 : (l.length + l'.length) * bytes ≤ appBound) (h2 : l.length + l'.length ≤ appBound) (σ : List AV) (H : Heap) :
  appW m (some d) sz bytes (.vs sz (some c) l) x σ H = some (.vs sz (some d) (l ++ l'),σ.map (unfl [c,d]),H) := by
 simp only [appW,appV,hx,Option.bind_some]
 rw [if_pos ⟨trivial,h1,h2⟩]
theorem appW_c {m : Md} {d sz bytes c : Nat} {l l' : List (List AV)} {x : AV} (hm : m.row (some d) = false) (hx : ∀ H,elems H sz x = some l') (h0 : l ≠ [] ∨ l' ≠ []) (h1 : (l.length + l'.length) * bytes ≤ appBound) (h2 : l.length + l'.length ≤ appBound) :
  ∃ cs,∀ (σ : List AV) (H : Heap),appW m (some d) sz bytes (lst true sz (some c) l) x σ H = some (.vs sz (some d) (l ++ l'),σ.map (unfl cs),H) := by
 rcases lst_cases true sz (some c) l with ⟨_,rfl,e⟩ | ⟨e,h⟩
 ·refine ⟨[d],fun σ H => ?_⟩
  have hl' : l' ≠ [] := by simpa using h0
  rw [e]
  simp only [appW,hm,Bool.false_eq_true,if_false,appV,hx,Option.bind_some,List.nil_append]
  rw [if_neg (by simpa using hl'),if_pos ⟨by simpa using h1,by simpa using h2⟩]
 ·exact ⟨[c,d],fun σ H => by rw [e,appW_vs hx h1 h2]⟩
theorem binA_sn : binA .eql .slice nilS nilS = some (ab true) := rfl
theorem binA_sn' : binA .neq .slice nilS nilS = some (ab false) := rfl
theorem binA_ssl (r o l c s g : Nat) (e : Bool) : binA .eql .slice (.sl r o l c s g e) nilS = some (ab false) := rfl
theorem binA_ssl' (r o l c s g : Nat) (e : Bool) : binA .neq .slice (.sl r o l c s g e) nilS = some (ab true) := rfl
attribute [simp] binA_sn binA_sn' binA_ssl binA_ssl'
theorem le_ok {a b : Nat} (h : Nat.ble a b = true) : a ≤ b := Nat.le_of_ble_eq_true h
theorem tc_c (v : Value) : toCells (.c v) = [.c v] := rfl
theorem tc_undef : toCells .undef = [.undef] := rfl
theorem tc_ptr (r i g : Nat) : toCells (.ptr r i g) = [.ptr r i g] := rfl
theorem tc_sl (r o l c s g : Nat) (e : Bool) : toCells (.sl r o l c s g e) = [.sl r o l c s g e] := rfl
theorem tc_vs (k : Nat) (f : Option Nat) (l : List (List AV)) : toCells (.vs k f l) = [.vs k f l] := rfl
theorem tc_fn (f : FuncId) (l : List AV) : toCells (.fn f l) = [.fn f l] := rfl
theorem tc_iface (t : TypeId) (x : AV) : toCells (.iface t x) = [.iface t x] := rfl
theorem tc_agg (xs : List AV) : toCells (.agg xs) = xs := rfl
theorem on_i (k : IntKind) (x : Int) : AV.one (.c (.int k x)) = true := rfl
theorem on_b (x : Bool) : AV.one (.c (.bool x)) = true := rfl
theorem on_s (x : ByteArray) : AV.one (.c (.string x)) = true := rfl
theorem on_n : AV.one (.c (.slice none 0 0)) = true := rfl
theorem on_p : AV.one (.c (.pointer none)) = true := rfl
theorem on_nf : AV.one (.c .nilFunc) = true := rfl
theorem on_ni : AV.one (.c .nilIface) = true := rfl
theorem on_ptr (r i g : Nat) : AV.one (.ptr r i g) = true := rfl
theorem on_sl (r o l c s g : Nat) (e : Bool) : AV.one (.sl r o l c s g e) = true := rfl
theorem on_vs (k : Nat) (f : Option Nat) (l : List (List AV)) : AV.one (.vs k f l) = true := rfl
theorem on_fn (f : FuncId) (l : List AV) : AV.one (.fn f l) = true := rfl
theorem on_iface (t : TypeId) (x : AV) : AV.one (.iface t x) = true := rfl
attribute [simp] tc_c tc_undef tc_ptr tc_sl tc_vs tc_fn tc_iface tc_agg on_i on_b on_s on_n on_p on_nf on_ni on_ptr on_sl on_vs on_fn on_iface
end Go.A.V
