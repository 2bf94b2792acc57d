/- THE VALUE MACHINE: rules, and words for running code by simp. -/
import Derived.Test.YtnmobjhmohcjfaaV11
import Derived.Test.YtnmobjhmohcjfaaAX
set_option linter.unusedSimpArgs false
set_option linter.unusedVariables false
set_option linter.unnecessarySimpa false
namespace Go.A.V
open Go Go.A
section
variable {p : VP} {f : FuncId}
theorem execW_head : ∀ (s : SCode) (σ : List AV) (H : Heap),execW p f s (kill (headK s) σ) H = execW p f s σ H
 | .region ks ops,σ,H => by rw [execW_region,execW_region,headK,kill_kill]
 | .drawn ks ops,σ,H => by rw [execW_drawn,execW_drawn,headK,kill_kill]
 | .seq a b,σ,H => by rw [execW_seq,execW_seq,headK,execW_head a]
 | .block id b,σ,H => by rw [execW_block,execW_block,headK,execW_head b]
 | .loop b,σ,H => by rw [execW_loop p f (kill _ σ),execW_loop p f σ,headK,execW_head b]
 | .scope b l r,σ,H => by rw [execW_scope,execW_scope,headK,execW_head b]
 | .skip,_,_ => rfl
 | .cond _ _ _,_,_ => rfl
 | .label _,_,_ => rfl
 | .goto _,_,_ => rfl
 | .exit _,_,_ => rfl
 | .ret,_,_ => rfl
theorem loop_ends {b : SCode} (I : Nat → List AV → Heap → Prop) (Q : AExit → List AV → Heap → Prop)
  (step : ∀ n σ H,I n σ H → Ends (execW p f b σ H) fun s => match s.e with
   | .normal => ∃ m,m < n ∧ I m (kill (headK b) s.σ) s.H
   | e => Q e s.σ s.H) :
  ∀ (n : Nat) (σ : List AV) (H : Heap),I n (kill (headK b) σ) H → Ends (execW p f (.loop b) σ H) fun s => Q s.e s.σ s.H := by
 intro n
 induction n using Nat.strongRecOn with
 | _ n ih =>
  intro σ H h
  rw [execW_loop,← execW_head b]
  refine (step n _ H h).bind fun s hs => ?_
  obtain ⟨e,σ',H'⟩ := s
  cases e with
  | normal =>
   obtain ⟨m,hm,hI⟩ := hs
   exact ih m hm σ' H' hI
  | exit id => exact Ends.some.2 hs
  | goto l => exact Ends.some.2 hs
  | ret => exact Ends.some.2 hs
theorem jumpW_done {r : SCode} {l : Nat} {s : St} (h : s.e ≠ .goto l) : jumpW p f r l s = some s := by
 rw [jumpW_eq,if_neg h]
theorem jump_rule {r : SCode} {l : Nat} (I : Nat → List AV → Heap → Prop) (Q : AExit → List AV → Heap → Prop)
  (step : ∀ n σ H,I n σ H → Ends (execW p f r σ H) fun s => if s.e = .goto l then ∃ m,m < n ∧ I m (kill (headK r) s.σ) s.H else Q s.e s.σ s.H) :
  ∀ (n : Nat) (σ : List AV) (H : Heap),I n (kill (headK r) σ) H → Ends (jumpW p f r l ⟨.goto l,σ,H⟩) fun s => s.e ≠ .goto l ∧ Q s.e s.σ s.H := by
 intro n
 induction n using Nat.strongRecOn with
 | _ n ih =>
  intro σ H h
  rw [jumpW_eq]
  simp only [if_true]
  rw [← execW_head r]
  refine (step n _ H h).bind fun s hs => ?_
  obtain ⟨e,σ',H'⟩ := s
  by_cases he : e = .goto l
  ·subst he
   simp only [if_true] at hs
   obtain ⟨m,hm,hI⟩ := hs
   exact ih m hm σ' H' hI
  ·simp only [he,if_false] at hs
   rw [jumpW_done (by exact he)]
   exact Ends.some.2 ⟨he,hs⟩
theorem scope_rule {tail : SCode} {l : Nat} (I : Nat → List AV → Heap → Prop) (Q : AExit → List AV → Heap → Prop)
  (step : ∀ n σ H,I n (kill (headK tail) σ) H → Ends (execW p f tail σ H) fun s => if s.e = .goto l then ∃ m,m < n ∧ I m (kill (headK tail) s.σ) s.H else Q s.e s.σ s.H) :
  ∀ (n : Nat) (σ : List AV) (H : Heap),I n (kill (headK tail) σ) H → Ends ((execW p f tail σ H).bind (jumpW p f (.seq .skip tail) l)) fun s => s.e ≠ .goto l ∧ Q s.e s.σ s.H := by
 intro n σ H hI
 refine (step n σ H hI).bind fun s hs => ?_
 obtain ⟨e,σ1,G1⟩ := s
 by_cases he : e = .goto l
 ·subst he
  simp only [if_true] at hs
  obtain ⟨m,hm,hI1⟩ := hs
  exact jump_rule (r := .seq .skip tail) (l := l) (fun z σ G => I z (kill (headK tail) σ) G) Q (fun z σ G hI => by
   have hr : execW p f (.seq .skip tail) σ G = execW p f tail σ G := by
    rw [execW_seq,execW_skip]
    rfl
   rw [hr]
   exact step z σ G hI) m σ1 G1 hI1
 ·simp only [he,if_false] at hs
  rw [jumpW_done (by exact he)]
  exact Ends.some.2 ⟨he,hs⟩
theorem call_rule {s : SFun} {args : List AV} {H : Heap} {Q : AV × Heap → Prop} (hx : p.X f args H = none) (ht : p.T f = some s)
  (h : Ends (execW p f s.body (slots0 s.nslots args) H) fun st => st.e.ends = true ∧ Ends (resultsA s.res st.σ) fun v => v.free = true ∧ Ends (finish (p.K f) (p.C f) H.length v st.H) Q) : Ends (callW p f args H) Q := by
 rw [callW_eq,hx]
 simp only [ht,Option.bind_some]
 refine h.bind fun st ⟨h1,h2⟩ => ?_
 rw [if_pos h1]
 refine h2.bind fun v ⟨h3,h4⟩ => ?_
 rw [if_pos h3]
 exact h4
theorem ends_eq {α : Type} {o : Option α} {x : α} : o = some x ↔ Ends o (fun y => y = x) :=
 ⟨fun h => ⟨x,h,rfl⟩,fun ⟨y,h,e⟩ => by rw [h,e]⟩
end
def lst (z : Bool) (k : Nat) (f : Option Nat) (l : List (List AV)) : AV := if z = true ∧ l = [] then nilS else .vs k f l
theorem lst_nil (k : Nat) (f : Option Nat) : lst true k f [] = nilS := rfl
theorem lst_ne {z : Bool} {k : Nat} {f : Option Nat} {l : List (List AV)} (h : l ≠ []) : lst z k f l = .vs k f l := by simp [lst,h]
theorem lst_f (k : Nat) (f : Option Nat) (l : List (List AV)) : lst false k f l = .vs k f l := rfl
theorem lst_cases (z : Bool) (k : Nat) (f : Option Nat) (l : List (List AV)) : (z = true ∧ l = [] ∧ lst z k f l = nilS) ∨ (lst z k f l = .vs k f l ∧ ¬ (z = true ∧ l = [])) := by
 unfold lst
 split
 ·rename_i h; exact .inl ⟨h.1,h.2,rfl⟩
 ·rename_i h; exact .inr ⟨rfl,h⟩
section
variable (z : Bool) (k : Nat) (f : Option Nat) (l : List (List AV))
theorem lst_box : (lst z k f l).isBox = false := by rcases lst_cases z k f l with ⟨_,_,e⟩ | ⟨e,_⟩ <;> rw [e] <;> rfl
theorem lst_free : (lst z k f l).free = true := by rcases lst_cases z k f l with ⟨_,_,e⟩ | ⟨e,_⟩ <;> rw [e] <;> rfl
theorem lst_one : (lst z k f l).one = true := by rcases lst_cases z k f l with ⟨_,_,e⟩ | ⟨e,_⟩ <;> rw [e] <;> rfl
theorem lst_cells : toCells (lst z k f l) = [lst z k f l] := by rcases lst_cases z k f l with ⟨_,_,e⟩ | ⟨e,_⟩ <;> rw [e] <;> rfl
theorem lst_ev (n : Nat) : ev1 n (lst z k f l) = lst z k f l := by rcases lst_cases z k f l with ⟨_,_,e⟩ | ⟨e,_⟩ <;> rw [e] <;> rfl
theorem lst_forget (n : Nat) : forget n (lst z k f l) = lst z k f l := by rcases lst_cases z k f l with ⟨_,_,e⟩ | ⟨e,_⟩ <;> rw [e] <;> rfl
theorem lst_pln : pln (lst z k f l) = lst z k none l := by unfold lst; split <;> rfl
def unc (cs : List Nat) : Option Nat → Option Nat
 | some c => if cs.contains c then none else some c
 | none => none
theorem lst_unfl (cs : List Nat) : unfl cs (lst z k f l) = lst z k (unc cs f) l := by
 unfold lst
 split
 ·rfl
 ·simp only [unfl,unc]
  cases f <;> rfl
theorem vs_unfl (cs : List Nat) : unfl cs (.vs k f l) = .vs k (unc cs f) l := by
 simp only [unfl,unc]
 cases f <;> rfl
end
theorem unfl_c (cs : List Nat) (v : Value) : unfl cs (.c v) = .c v := rfl
theorem unfl_undef (cs : List Nat) : unfl cs .undef = .undef := rfl
theorem unfl_imm (cs : List Nat) (l : List Value) : unfl cs (.imm l) = .imm l := rfl
attribute [simp] unfl_imm
theorem unfl_ptr (cs : List Nat) (r i g : Nat) : unfl cs (.ptr r i g) = .ptr r i g := rfl
theorem unfl_sl (cs : List Nat) (r o l c s g : Nat) (e : Bool) : unfl cs (.sl r o l c s g e) = .sl r o l c s g e := rfl
theorem unfl_vp (cs : List Nat) (l : List AV) (i : Nat) : unfl cs (.vp l i) = .vp l i := rfl
theorem unfl_lptr (cs : List Nat) (d i : Nat) : unfl cs (.lptr d i) = .lptr d i := rfl
theorem unfl_fn (cs : List Nat) (f : FuncId) (l : List AV) : unfl cs (.fn f l) = .fn f l := rfl
theorem unfl_iface (cs : List Nat) (t : TypeId) (x : AV) : unfl cs (.iface t x) = .iface t x := rfl
theorem unfl_agg (cs : List Nat) (l : List AV) : unfl cs (.agg l) = .agg (unfls cs l) := by simp only [unfl]
theorem unfl_tup (cs : List Nat) (l : List AV) : unfl cs (.tup l) = .tup (unfls cs l) := by simp only [unfl]
theorem unfl_lbox (cs : List Nat) (l : List AV) : unfl cs (.lbox l) = .lbox (unfls cs l) := by simp only [unfl]
theorem unfls_nil (cs : List Nat) : unfls cs [] = [] := by simp only [unfls]
theorem unfls_cons (cs : List Nat) (x : AV) (r : List AV) : unfls cs (x :: r) = unfl cs x :: unfls cs r := by simp only [unfls]
theorem pln_c (v : Value) : pln (.c v) = .c v := rfl
theorem pln_undef : pln .undef = .undef := rfl
theorem pln_ptr (r i g : Nat) : pln (.ptr r i g) = .ptr r i g := rfl
theorem pln_sl (r o l c s g : Nat) (e : Bool) : pln (.sl r o l c s g e) = .sl r o l c s g e := rfl
theorem pln_vp (l : List AV) (i : Nat) : pln (.vp l i) = .vp l i := rfl
theorem pln_lptr (d i : Nat) : pln (.lptr d i) = .lptr d i := rfl
theorem pln_fn (f : FuncId) (l : List AV) : pln (.fn f l) = .fn f l := rfl
theorem pln_iface (t : TypeId) (x : AV) : pln (.iface t x) = .iface t x := rfl
theorem pln_vs (k : Nat) (f : Option Nat) (l : List (List AV)) : pln (.vs k f l) = .vs k none l := rfl
theorem pln_agg (l : List AV) : pln (.agg l) = .agg (plns l) := by simp only [pln]
theorem pln_tup (l : List AV) : pln (.tup l) = .tup (plns l) := by simp only [pln]
theorem plns_nil : plns [] = [] := by simp only [plns]
theorem plns_cons (x : AV) (r : List AV) : plns (x :: r) = pln x :: plns r := by simp only [plns]
attribute [simp] lst_nil lst_f lst_box lst_free lst_one lst_cells lst_ev lst_forget lst_pln lst_unfl vs_unfl unc unfl_c unfl_undef unfl_ptr unfl_sl unfl_vp unfl_lptr unfl_fn unfl_iface unfl_agg unfl_tup unfl_lbox unfls_nil unfls_cons pln_c pln_undef pln_ptr pln_sl pln_vp pln_lptr pln_fn pln_iface pln_vs pln_agg pln_tup plns_nil plns_cons
theorem L_mapF (n : Nat) (t : Tr) (cs : List Nat) : (L n t).map (unfl cs) = L n (t.map (unfl cs)) := by
 apply List.ext_getElem?
 intro j
 rw [List.getElem?_map,L_get,L_get,get_map _ rfl]
 split <;> simp
theorem map_fullF (cs : List Nat) : ∀ k,(Tr.full k).map (unfl cs) = Tr.full k
 | 0 => rfl
 | k + 1 => by simp only [Tr.full,Tr.map,map_fullF cs k,unfl_undef]
attribute [simp] L_mapF map_fullF
theorem isBox_vs (k : Nat) (f : Option Nat) (l : List (List AV)) : AV.isBox (.vs k f l) = false := rfl
theorem isBox_vp (l : List AV) (i : Nat) : AV.isBox (.vp l i) = false := rfl
theorem ev1_vs (n k : Nat) (f : Option Nat) (l : List (List AV)) : ev1 n (.vs k f l) = .vs k f l := rfl
theorem ev1_vp (n : Nat) (l : List AV) (i : Nat) : ev1 n (.vp l i) = .vp l i := rfl
theorem forget_vs (n k : Nat) (f : Option Nat) (l : List (List AV)) : forget n (.vs k f l) = .vs k f l := rfl
theorem forget_vp (n : Nat) (l : List AV) (i : Nat) : forget n (.vp l i) = .vp l i := rfl
theorem isBox_imm (l : List Value) : AV.isBox (.imm l) = false := rfl
theorem ev1_imm (n : Nat) (l : List Value) : ev1 n (.imm l) = .imm l := rfl
theorem forget_imm (n : Nat) (l : List Value) : forget n (.imm l) = .imm l := rfl
attribute [simp] isBox_vs isBox_vp ev1_vs ev1_vp forget_vs forget_vp isBox_imm ev1_imm forget_imm
def lenW : AV → Option Nat
 | .c (.slice none 0 0) => some 0
 | .sl _ _ len _ _ _ _ => some len
 | .vs _ _ l => some l.length
 | _ => none
theorem lenW_n : lenW nilS = some 0 := rfl
theorem lenW_sl (r o l c s g : Nat) (e : Bool) : lenW (.sl r o l c s g e) = some l := rfl
theorem lenW_vs (k : Nat) (f : Option Nat) (l : List (List AV)) : lenW (.vs k f l) = some l.length := rfl
theorem lenW_lst (z : Bool) (k : Nat) (f : Option Nat) (l : List (List AV)) : lenW (lst z k f l) = some l.length := by
 rcases lst_cases z k f l with ⟨_,rfl,e⟩ | ⟨e,_⟩ <;> rw [e] <;> rfl
def loadV (σ : List AV) (H : Heap) (k : Option Nat) : AV → Option AV
 | .vp cs i => fromCells k cs i
 | a => loadA σ H k a
theorem loadV_vp (σ : List AV) (H : Heap) (k : Option Nat) (cs : List AV) (i : Nat) : loadV σ H k (.vp cs i) = fromCells k cs i := rfl
theorem loadV_ptr (σ : List AV) (H : Heap) (k : Option Nat) (r i g : Nat) : loadV σ H k (.ptr r i g) = loadA σ H k (.ptr r i g) := rfl
theorem loadV_lptr (σ : List AV) (H : Heap) (k : Option Nat) (d i : Nat) : loadV σ H k (.lptr d i) = loadA σ H k (.lptr d i) := rfl
def storeV (m : Md) (σ : List AV) (H : Heap) (k : Option Nat) (a v : AV) : Option (List AV × Heap) := match a with
 | .ptr r i g => if m.wr = true then storeA σ H k (.ptr r i g) (pln v) else none
 | .lptr s i => storeA σ H k (.lptr s i) v
 | _ => none
theorem storeV_ptr (m : Md) (σ : List AV) (H : Heap) (k : Option Nat) (r i g : Nat) (v : AV) : storeV m σ H k (.ptr r i g) v = if m.wr = true then storeA σ H k (.ptr r i g) (pln v) else none := rfl
theorem storeV_lptr (m : Md) (σ : List AV) (H : Heap) (k : Option Nat) (d i : Nat) (v : AV) : storeV m σ H k (.lptr d i) v = storeA σ H k (.lptr d i) v := rfl
def chkW : AV → Option AV
 | .ptr r i g => some (.ptr r i g)
 | .lptr d i => some (.lptr d i)
 | .fn f cs => some (.fn f cs)
 | .iface t v => some (.iface t v)
 | .vp cs i => some (.vp cs i)
 | _ => none
def faddrW (off : Nat) : AV → Option AV
 | .ptr r i g => some (.ptr r (i + off) g)
 | .lptr d i => some (.lptr d (i + off))
 | .vp cs i => some (.vp cs (i + off))
 | _ => none
def iaddrW (sz : Nat) (arr : Option Nat) (x i : AV) : Option AV := match x,i,arr with
  | .vs k _ l,.c (.int _ j),none => if k = sz ∧ 0 ≤ j ∧ j < l.length then some (.vp (l.getD j.toNat []) 0) else none
  | .sl r off len _ _ g _,.c (.int _ j),none => if 0 ≤ j ∧ j < len then some (.ptr r (off + j.toNat * sz) g) else none
  | .ptr r o g,.c (.int _ j),some n => if 0 ≤ j ∧ j < n then some (.ptr r (o + j.toNat * sz) g) else none
  | .lptr d o,.c (.int _ j),some n => if 0 ≤ j ∧ j < n then some (.lptr d (o + j.toNat * sz)) else none
  | .vp cs o,.c (.int _ j),some n => if 0 ≤ j ∧ j < n then some (.vp cs (o + j.toNat * sz)) else none
  | _,_,_ => none
theorem iaddrW_sl (sz r off len cap z g : Nat) (e : Bool) (k : IntKind) (j : Int) : iaddrW sz none (.sl r off len cap z g e) (.c (.int k j)) = if 0 ≤ j ∧ j < len then some (.ptr r (off + j.toNat * sz) g) else none := rfl
theorem iaddrW_ptr (sz n r o g : Nat) (k : IntKind) (j : Int) : iaddrW sz (some n) (.ptr r o g) (.c (.int k j)) = if 0 ≤ j ∧ j < n then some (.ptr r (o + j.toNat * sz) g) else none := rfl
theorem iaddrW_lptr (sz n d o : Nat) (k : IntKind) (j : Int) : iaddrW sz (some n) (.lptr d o) (.c (.int k j)) = if 0 ≤ j ∧ j < n then some (.lptr d (o + j.toNat * sz)) else none := rfl
theorem iaddrW_vp (sz n o : Nat) (cs : List AV) (k : IntKind) (j : Int) : iaddrW sz (some n) (.vp cs o) (.c (.int k j)) = if 0 ≤ j ∧ j < n then some (.vp cs (o + j.toNat * sz)) else none := rfl
theorem iaddrW_lst (z : Bool) (k : Nat) (f : Option Nat) {l : List (List AV)} {i : Nat} {cs : List AV} (h : l[i]? = some cs) (kk : IntKind) : iaddrW k none (lst z k f l) (.c (.int kk i)) = some (.vp cs 0) := by
 have hi := (List.getElem?_eq_some_iff.1 h).1
 rw [lst_ne (fun e => by subst e; simp at hi)]
 simp only [iaddrW]
 rw [if_pos ⟨trivial,by omega,by omega⟩,List.getD_eq_getElem?_getD,Int.toNat_natCast,h]
 rfl
def binV (op : BinOp) (ek : EqK) (x y : AV) : Option AV := match op,ek with
  | .eql,.slice => if isVs x = true ∧ isNilC y = true ∨ isNilC x = true ∧ isVs y = true then some (.c (.bool false)) else binA .eql .slice x y
  | .neq,.slice => if isVs x = true ∧ isNilC y = true ∨ isNilC x = true ∧ isVs y = true then some (.c (.bool true)) else binA .neq .slice x y
  | op,ek => binA op ek x y
theorem binV_cc (op : BinOp) (ek : EqK) (x y : Value) : binV op ek (.c x) (.c y) = binA op ek (.c x) (.c y) := by
 unfold binV
 split
 ·rw [if_neg (by simp [isVs])]
 ·rw [if_neg (by simp [isVs])]
 ·rfl
theorem binV_agg (op : BinOp) (ks : List BK) (x y : AV) : binV op (.agg ks) x y = binA op (.agg ks) x y := by cases op <;> rfl
theorem binV_ptr (op : BinOp) (x y : AV) : binV op .ptr x y = binA op .ptr x y := by cases op <;> rfl
theorem binV_vsn (k : Nat) (f : Option Nat) (l : List (List AV)) : binV .eql .slice (.vs k f l) nilS = some (ab false) := rfl
theorem binV_vsn' (k : Nat) (f : Option Nat) (l : List (List AV)) : binV .neq .slice (.vs k f l) nilS = some (ab true) := rfl
theorem binA_ptrn (r i g : Nat) : binA .eql .ptr (.ptr r i g) (.c (.pointer none)) = some (ab false) := rfl
theorem binA_ptrn' (r i g : Nat) : binA .neq .ptr (.ptr r i g) (.c (.pointer none)) = some (ab true) := rfl
theorem binA_nn : binA .eql .ptr (.c (.pointer none)) (.c (.pointer none)) = some (ab true) := rfl
theorem binA_nn' : binA .neq .ptr (.c (.pointer none)) (.c (.pointer none)) = some (ab false) := rfl
def strV (H : Heap) : AV → Option AV
 | .c (.slice none 0 0) => some (.c (.string ⟨#[]⟩))
 | .vs k _ l => if k = 1 then (bytesOf l.flatten).map fun l => .c (.string ⟨l.toArray⟩) else none
 | .sl r off len _ _ g _ => ((rdRow0 H r off len g).bind bytesOf).map fun l => .c (.string ⟨l.toArray⟩)
 | _ => none
def cutV (sz : Nat) (d : Option Nat) (x : AV) (lo hi mx : Option AV) : Option AV := match x with
  | .vs k _ l => if k = sz then (cutBounds l.length l.length lo hi mx).map fun (a,h,c) => .vs k (if mx.isSome = true ∧ h = c then d else none) ((l.take h).drop a) else none
  | x => cutA (.slice sz) x lo hi mx
def cutL (z : Bool) (k : Nat) (f : Option Nat) (l : List (List AV)) (i j : Nat) : AV := lst (z && l.isEmpty) k f ((l.take j).drop i)
theorem cutBound_nat (k : IntKind) {i y : Nat} (h : i ≤ y) : cutBound (.c (.int k i)) y = some i := by simp [cutBound]; omega
theorem cutV_lst (z : Bool) (k : Nat) (f d : Option Nat) (l : List (List AV)) {lo hi : Option AV} {i j : Nat} (h1 : lo = none ∧ i = 0 ∨ ∃ kk,lo = some (.c (.int kk i))) (h2 : hi = none ∧ j = l.length ∨ ∃ kk,hi = some (.c (.int kk j))) (hij : i ≤ j) (hj : j ≤ l.length) :
  cutV k d (lst z k f l) lo hi none = some (cutL z k none l i j) := by
 have hb : cutBounds l.length l.length lo hi none = some (i,j,l.length) := by
  unfold cutBounds
  rw [if_pos (Nat.le_refl _)]
  simp only [capOf,Option.bind_some]
  have e2 : highOf l.length l.length hi none = some j := by
   rcases h2 with ⟨rfl,rfl⟩ | ⟨kk,rfl⟩
   ·rfl
   ·exact cutBound_nat kk hj
  have e1 : lowOf j lo = some i := by
   rcases h1 with ⟨rfl,rfl⟩ | ⟨kk,rfl⟩
   ·rfl
   ·exact cutBound_nat kk hij
  rw [e2,Option.bind_some,e1]
  rfl
 rcases lst_cases z k f l with ⟨rfl,rfl,e⟩ | ⟨e,h⟩
 ·rw [e]
  have hb' : cutBounds 0 0 lo hi none = some (i,j,0) := hb
  simp [cutV,cutA,hb',cutL]
 ·rw [e]
  simp only [cutV,if_true,hb,Option.map_some,cutL]
  rw [show (z && l.isEmpty) = false by cases z <;> cases l <;> simp_all]
  simp
theorem cutV_3 (z : Bool) (k : Nat) (f d : Option Nat) (l : List (List AV)) {lo : Option AV} {i j : Nat} (h1 : lo = none ∧ i = 0 ∨ ∃ kk,lo = some (.c (.int kk i))) (kk1 kk2 : IntKind) (hij : i ≤ j) (hj : j ≤ l.length) :
  cutV k d (lst z k f l) lo (some (.c (.int kk1 j))) (some (.c (.int kk2 j))) = some (cutL z k d l i j) := by
 have hb : cutBounds l.length l.length lo (some (.c (.int kk1 j))) (some (.c (.int kk2 j))) = some (i,j,j) := by
  unfold cutBounds
  rw [if_pos (Nat.le_refl _)]
  simp only [capOf,cutBound_nat kk2 hj,Option.bind_some,highOf,cutBound_nat kk1 (Nat.le_refl j)]
  have e1 : lowOf j lo = some i := by
   rcases h1 with ⟨rfl,rfl⟩ | ⟨kk,rfl⟩
   ·rfl
   ·exact cutBound_nat kk hij
  rw [e1]
  rfl
 rcases lst_cases z k f l with ⟨rfl,rfl,e⟩ | ⟨e,h⟩
 ·rw [e]
  have hb' : cutBounds 0 0 lo (some (.c (.int kk1 j))) (some (.c (.int kk2 j))) = some (i,j,j) := hb
  simp [cutV,cutA,hb',cutL]
 ·rw [e]
  simp only [cutV,if_true,hb,Option.map_some,cutL]
  rw [show (z && l.isEmpty) = false by cases z <;> cases l <;> simp_all]
  simp
theorem elems_n (H : Heap) (sz : Nat) : elems H sz nilS = some [] := rfl
theorem elems_vs (H : Heap) (k : Nat) (f : Option Nat) (l : List (List AV)) : elems H k (.vs k f l) = some l := by simp [elems]
theorem elems_lst (H : Heap) (z : Bool) (k : Nat) (f : Option Nat) (l : List (List AV)) : elems H k (lst z k f l) = some l := by
 rcases lst_cases z k f l with ⟨rfl,rfl,e⟩ | ⟨e,h⟩
 ·rw [e]; rfl
 ·rw [e,elems_vs]
mutual
theorem unfl_congr {cs cs' : List Nat} (h : ∀ c,cs.contains c = cs'.contains c) : ∀ v : AV,unfl cs v = unfl cs' v
 | .vs k f l => by cases f <;> simp only [unfl,h]
 | .agg xs => by simp only [unfl,unfls_congr h xs]
 | .tup xs => by simp only [unfl,unfls_congr h xs]
 | .lbox xs => by simp only [unfl,unfls_congr h xs]
 | .undef => rfl
 | .c _ => rfl
 | .ptr .. => rfl
 | .sl .. => rfl
 | .vp .. => rfl
 | .lptr .. => rfl
 | .fn .. => rfl
 | .iface .. => rfl
 | .map _ => rfl
 | .imm _ => rfl
theorem unfls_congr {cs cs' : List Nat} (h : ∀ c,cs.contains c = cs'.contains c) : ∀ l : List AV,unfls cs l = unfls cs' l
 | [] => rfl
 | x :: r => by simp only [unfls,unfl_congr h x,unfls_congr h r]
end
def appW (m : Md) (d : Option Nat) (sz bytes : Nat) (s x : AV) (σ : List AV) (H : Heap) : Option (AV × List AV × Heap) := match d,s with
  | some d',.c (.slice none 0 0) => if m.row (some d') = true then (elems H sz x).bind fun l' => if l' = [] then some (.c (.slice none 0 0),σ,H) else
     if l'.length * bytes ≤ appBound ∧ l'.length ≤ appBound then some (.sl H.length 0 l'.length l'.length sz (l'.length * sz) false,σ,H ++ [.grow l'.flatten 0]) else none
    else appV d' sz bytes (.c (.slice none 0 0)) x σ H
  | some d',.vs k f l => appV d' sz bytes (.vs k f l) x σ H
  | _,.sl r off len cap sz' g ex => if m.wr = true then (elems H sz x).bind fun l' => if l' = [] then (if len ≤ cap then some (.sl r off len cap sz' g ex,σ,H) else none) else
     if off = 0 ∧ cap = len ∧ (cap ≠ 0 ∧ ex = false) ∧ sz' = sz ∧ g = len * sz ∧ (len + l'.length) * bytes ≤ appBound ∧ len + l'.length ≤ appBound then (match H[r]? with
      | some o => if o.isW = true ∧ o.cells.length = g then some (.sl r 0 (len + l'.length) (len + l'.length) sz (g + l'.length * sz) false,σ,H.set r (.grow (o.cells ++ l'.flatten) o.lo)) else none
      | none => none)
     else if len + l'.length ≤ cap then (wrRow H r (off + len * sz) g l'.flatten).map fun H' => (.sl r off (len + l'.length) cap sz' g ex,σ,H')
     else if len = 0 ∧ ex = true ∧ l'.length * bytes ≤ appBound ∧ l'.length ≤ appBound then some (.sl H.length 0 l'.length l'.length sz (l'.length * sz) false,σ,H ++ [.grow l'.flatten 0]) else none
    else none
  | _,_ => none
theorem appW_lst {m : Md} {d sz bytes : Nat} {l l' : List (List AV)} {x : AV} (hm : m.row (some d) = false) (hx : ∀ H,elems H sz x = some l') (h1 : (l.length + l'.length) * bytes ≤ appBound) (h2 : l.length + l'.length ≤ appBound) (σ : List AV) (H : Heap) :
  appW m (some d) sz bytes (lst true sz (some d) l) x σ H = some (lst true sz (some d) (l ++ l'),σ.map (unfl [d]),H) := by
 have huu : ∀ v : AV,unfl [d,d] v = unfl [d] v := fun v => by
  have hc : ∀ c : Nat,[d,d].contains c = [d].contains c := fun c => by simp
  exact unfl_congr hc v
 rcases lst_cases true sz (some d) l with ⟨_,rfl,e⟩ | ⟨e,h⟩
 ·rw [e]
  simp only [appW,hm,Bool.false_eq_true,if_false,appV,hx,Option.bind_some,List.nil_append]
  cases l' with
  | nil => simp
  | cons c r =>
   rw [if_neg (by simp),if_pos ⟨by simpa using h1,by simpa using h2⟩,lst_ne (by simp)]
 ·rw [e]
  simp only [appW,appV,hx,Option.bind_some]
  rw [if_pos ⟨trivial,h1,h2⟩,lst_ne (by intro e2; simp at e2; exact h ⟨rfl,e2.1⟩)]
  congr 3
  exact List.map_congr_left fun v _ => huu v
end Go.A.V
