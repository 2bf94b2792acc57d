/- THE ABSTRACT MACHINE: words for running code by simp. -/
import Derived.Test.YtekoolanpphbfaaA23
set_option linter.unusedSimpArgs false
set_option linter.unusedVariables false
set_option linter.unnecessarySimpa false
namespace Go.A
open Go

abbrev ai (n : Int) : AV := .c (.int .i64 n)
abbrev ab (b : Bool) : AV := .c (.bool b)
abbrev nilS : AV := .c (.slice none 0 0)

def lenS : AV → Option Nat
  | .c (.slice none 0 0) => some 0
  | .sl _ _ len _ _ _ _ => some len
  | _ => none

section
variable (C : Oracle) (d : Option Nat) (σ : List AV) (H : Heap)
theorem opA_len (x : SX) : opA C d (.len .sl x) σ H = (lenS (evalX σ x)).map fun n => (ai n, σ, H) := by
  simp only [opA, lenS]
  split <;> simp_all
theorem opA_lenArr (n : Nat) (x : SX) : opA C d (.len (.arr n) x) σ H = some (ai n, σ, H) := rfl
theorem opA_mov (x : SX) : opA C d (.mov x) σ H = some (evalX σ x, σ, H) := rfl
def pickV (c a b : AV) : Option AV := match c with
  | .c (.bool true) => some a
  | .c (.bool false) => some b
  | _ => none
theorem opA_pick (c a b : SX) : opA C d (.pick c a b) σ H = (pickV (evalX σ c) (evalX σ a) (evalX σ b)).map fun v => (v, σ, H) := by
  simp only [opA, pickV]
  split <;> simp_all
theorem pickV_t (a b : AV) : pickV (ab true) a b = some a := rfl
theorem pickV_f (a b : AV) : pickV (ab false) a b = some b := rfl
theorem pickV_b (c : Bool) (a b : AV) : pickV (ab c) a b = some (if c = true then a else b) := by cases c <;> rfl
theorem opA_bin (op : BinOp) (ek : EqK) (x y : SX) : opA C d (.bin op ek x y) σ H = (binA op ek (evalX σ x) (evalX σ y)).map fun v => (v, σ, H) := rfl
theorem opA_un (op : UnOp) (x : SX) : opA C d (.un op x) σ H = (unA op (evalX σ x)).map fun v => (v, σ, H) := rfl
theorem opA_load (k : Option Nat) (x : SX) : opA C d (.load k x) σ H = (loadA σ H k (evalX σ x)).map fun v => (v, σ, H) := rfl
theorem opA_store (k : Option Nat) (x v : SX) : opA C d (.store k x v) σ H = (storeA σ H k (evalX σ x) (evalX σ v)).map fun p => (.tup [], p.1, p.2) := rfl
def chkV : AV → Option AV
  | .ptr r i g => some (.ptr r i g)
  | .lptr d i => some (.lptr d i)
  | .fn f cs => some (.fn f cs)
  | .iface t v => some (.iface t v)
  | _ => none
theorem opA_chk (x : SX) : opA C d (.chk x) σ H = (chkV (evalX σ x)).map fun v => (v, σ, H) := by
  simp only [opA, chkV]
  split <;> simp_all
def faddrV (off : Nat) : AV → Option AV
  | .ptr r i g => some (.ptr r (i + off) g)
  | .lptr d i => some (.lptr d (i + off))
  | _ => none
theorem opA_faddr (off : Nat) (x : SX) : opA C d (.faddr off x) σ H = (faddrV off (evalX σ x)).map fun v => (v, σ, H) := by
  simp only [opA, faddrV]
  split <;> simp_all
def iaddrV (sz : Nat) (arr : Option Nat) (x i : AV) : Option AV :=
  match x, i, arr with
  | .sl r off len _ _ g _, .c (.int _ j), none => if 0 ≤ j ∧ j < len then some (.ptr r (off + j.toNat * sz) g) else none
  | .ptr r o g, .c (.int _ j), some n => if 0 ≤ j ∧ j < n then some (.ptr r (o + j.toNat * sz) g) else none
  | .lptr d o, .c (.int _ j), some n => if 0 ≤ j ∧ j < n then some (.lptr d (o + j.toNat * sz)) else none
  | _, _, _ => none
theorem opA_iaddr (sz : Nat) (arr : Option Nat) (x i : SX) : opA C d (.iaddr sz arr x i) σ H = (iaddrV sz arr (evalX σ x) (evalX σ i)).map fun v => (v, σ, H) := by
  simp only [opA, iaddrV]
  split <;> first | rfl | (split <;> rfl) | skip
  all_goals simp_all
theorem opA_call (f : FuncId) (xs : List SX) : opA C d (.call f xs) σ H = if AV.freeAll (xs.map (evalX σ)) = true then (C f (xs.map (evalX σ)) H).map fun p => (p.1, σ, p.2) else none := rfl
theorem opA_append (sz bytes : Nat) (s x : SX) : opA C d (.append sz bytes s x) σ H = (appendA H sz bytes (evalX σ s) (evalX σ x)).map fun p => (p.1, σ, p.2) := rfl
theorem opA_new (zs : List AV) : opA C d (.new zs) σ H = some (.ptr H.length 0 zs.length, σ, H ++ [.row zs]) := rfl
theorem opA_mkfn (f : FuncId) (cs : List SX) : opA C d (.mkfn f cs) σ H = if AV.freeAll (cs.map (evalX σ)) = true then some (.fn f (cs.map (evalX σ)), σ, H) else none := rfl
end

/-- A slice whose elements of k cells read so. -/
def Sl (H : Heap) (k : Nat) (v : AV) (l : List (List AV)) : Prop :=
  (v = nilS ∧ l = []) ∨ ∃ r off cap sz g ex, v = .sl r off l.length cap sz g ex ∧ (l.length ≤ cap ∧ (ex || sz == k) = true) ∧ ∀ (i : Nat) (cs : List AV), l[i]? = some cs → rdRow H r (off + i * k) k g = some cs

theorem Sl.len {H : Heap} {k : Nat} {v : AV} {l : List (List AV)} (h : Sl H k v l) : lenS v = some l.length := by
  rcases h with ⟨rfl, rfl⟩ | ⟨r, off, cap, sz, g, ex, rfl, _, _⟩ <;> rfl
theorem Sl.free {H : Heap} {k : Nat} {v : AV} {l : List (List AV)} (h : Sl H k v l) : v.free = true := by
  rcases h with ⟨rfl, rfl⟩ | ⟨r, off, cap, sz, g, ex, rfl, _, _⟩ <;> rfl
theorem Sl.nb {H : Heap} {k : Nat} {v : AV} {l : List (List AV)} (h : Sl H k v l) : v.isBox = false := by
  rcases h with ⟨rfl, rfl⟩ | ⟨r, off, cap, sz, g, ex, rfl, _, _⟩ <;> rfl
theorem Sl.ev {H : Heap} {k : Nat} {v : AV} {l : List (List AV)} (h : Sl H k v l) (n : Nat) : ev1 n v = v := by
  rcases h with ⟨rfl, rfl⟩ | ⟨r, off, cap, sz, g, ex, rfl, _, _⟩ <;> rfl
/-- One element. -/
theorem Sl.at {H : Heap} {k : Nat} {v : AV} {l : List (List AV)} (h : Sl H k v l) {i : Nat} {cs : List AV} (hi : l[i]? = some cs) : ∃ r o g, (∀ j : Int, j = i → iaddrV k none v (ai j) = some (.ptr r o g)) ∧ rdRow H r o k g = some cs := by
  rcases h with ⟨rfl, rfl⟩ | ⟨r, off, cap, sz, g, ex, rfl, _, h2⟩
  · simp at hi
  · refine ⟨r, off + i * k, g, fun j hj => ?_, h2 i cs hi⟩
    subst hj
    have := (List.getElem?_eq_some_iff.1 hi).1
    simp only [iaddrV]
    rw [if_pos ⟨by omega, by omega⟩]
    simp

theorem wrap_i64 {n : Int} (h1 : -9223372036854775808 ≤ n) (h2 : n ≤ 9223372036854775807) : IntKind.i64.wrap n = n := by
  simp [IntKind.wrap, IntKind.bits, IntKind.signed]
  split <;> omega

theorem isBox_c (v : Value) : AV.isBox (.c v) = false := rfl
theorem isBox_undef  : AV.isBox .undef = false := rfl
theorem isBox_sl (r o l c z g : Nat) (e : Bool) : AV.isBox (.sl r o l c z g e) = false := rfl
theorem isBox_ptr (r o g : Nat) : AV.isBox (.ptr r o g) = false := rfl
theorem isBox_lptr (d o : Nat) : AV.isBox (.lptr d o) = false := rfl
theorem isBox_agg (xs : List AV) : AV.isBox (.agg xs) = false := rfl
theorem isBox_tup (xs : List AV) : AV.isBox (.tup xs) = false := rfl
theorem isBox_fn (f : FuncId) (xs : List AV) : AV.isBox (.fn f xs) = false := rfl
theorem isBox_iface (t : TypeId) (x : AV) : AV.isBox (.iface t x) = false := rfl
theorem isBox_lbox (xs : List AV) : AV.isBox (.lbox xs) = true := rfl
attribute [simp] isBox_lbox isBox_c isBox_undef isBox_sl isBox_ptr isBox_lptr isBox_agg isBox_tup isBox_fn isBox_iface
theorem isBox_ev1 (i : Nat) (v : AV) : (ev1 i v).isBox = false := by cases v <;> rfl
attribute [simp] isBox_ev1
theorem ev1_c (i : Nat) (v : Value) : ev1 i (.c v) = .c v := rfl
theorem ev1_undef (i : Nat) : ev1 i .undef = .undef := rfl
theorem ev1_sl (i r o l c z g : Nat) (e : Bool) : ev1 i (.sl r o l c z g e) = .sl r o l c z g e := rfl
theorem ev1_ptr (i r o g : Nat) : ev1 i (.ptr r o g) = .ptr r o g := rfl
theorem ev1_lptr (i d o : Nat) : ev1 i (.lptr d o) = .lptr d o := rfl
theorem ev1_lbox (i : Nat) (xs : List AV) : ev1 i (.lbox xs) = .lptr i 0 := rfl
theorem ev1_agg (i : Nat) (xs : List AV) : ev1 i (.agg xs) = .agg xs := rfl
theorem ev1_tup (i : Nat) (xs : List AV) : ev1 i (.tup xs) = .tup xs := rfl
theorem ev1_fn (i : Nat) (f : FuncId) (xs : List AV) : ev1 i (.fn f xs) = .fn f xs := rfl
theorem ev1_iface (i : Nat) (t : TypeId) (x : AV) : ev1 i (.iface t x) = .iface t x := rfl
attribute [simp] ev1_c ev1_undef ev1_sl ev1_ptr ev1_lptr ev1_lbox ev1_agg ev1_tup ev1_fn ev1_iface
section
variable (ek : EqK) (k : IntKind) (a b : Int)
theorem binA_add : binA .add ek (.c (.int k a)) (.c (.int k b)) = some (.c (.int k (k.wrap (a + b)))) := by simp [binA, intBin]
theorem binA_sub : binA .sub ek (.c (.int k a)) (.c (.int k b)) = some (.c (.int k (k.wrap (a - b)))) := by simp [binA, intBin]
theorem binA_mul : binA .mul ek (.c (.int k a)) (.c (.int k b)) = some (.c (.int k (k.wrap (a * b)))) := by simp [binA, intBin]
theorem binA_quo : binA .quo ek (.c (.int k a)) (.c (.int k b)) = if b = 0 then none else some (.c (.int k (k.wrap (a.tdiv b)))) := by simp [binA, intBin]
theorem binA_rem : binA .rem ek (.c (.int k a)) (.c (.int k b)) = if b = 0 then none else some (.c (.int k (a.tmod b))) := by simp [binA, intBin]
theorem binA_and : binA .and ek (.c (.int k a)) (.c (.int k b)) = intBin .and k a b := by simp [binA]
theorem binA_or : binA .or ek (.c (.int k a)) (.c (.int k b)) = intBin .or k a b := by simp [binA]
theorem binA_xor : binA .xor ek (.c (.int k a)) (.c (.int k b)) = intBin .xor k a b := by simp [binA]
theorem binA_eql : binA .eql ek (.c (.int k a)) (.c (.int k b)) = some (ab (decide (a = b))) := by simp [binA, intBin]; rfl
theorem binA_neq : binA .neq ek (.c (.int k a)) (.c (.int k b)) = some (ab (decide (a ≠ b))) := by
  simp only [binA, intBin, if_true]
  by_cases h : a = b <;> simp [h]
theorem binA_lss : binA .lss ek (.c (.int k a)) (.c (.int k b)) = some (ab (decide (a < b))) := by simp [binA, intBin]
theorem binA_leq : binA .leq ek (.c (.int k a)) (.c (.int k b)) = some (ab (decide (a ≤ b))) := by simp [binA, intBin]
theorem binA_gtr : binA .gtr ek (.c (.int k a)) (.c (.int k b)) = some (ab (decide (a > b))) := by simp [binA, intBin]
theorem binA_geq : binA .geq ek (.c (.int k a)) (.c (.int k b)) = some (ab (decide (a ≥ b))) := by simp [binA, intBin]
theorem binA_shl (k' : IntKind) : binA .shl ek (.c (.int k a)) (.c (.int k' b)) = if b < 0 then none else some (.c (.int k (k.wrap (a * 2 ^ (Min.min b.toNat k.bits))))) := by simp [binA]
theorem binA_shr (k' : IntKind) : binA .shr ek (.c (.int k a)) (.c (.int k' b)) = if b < 0 then none else some (.c (.int k (a.fdiv (2 ^ (Min.min b.toNat k.bits))))) := by simp [binA]
theorem binA_eqb (x y : Bool) : binA .eql .bool (ab x) (ab y) = some (ab (x == y)) := by simp [binA, eqv]
theorem binA_neb (x y : Bool) : binA .neq .bool (ab x) (ab y) = some (ab (!(x == y))) := by simp [binA, eqv]
theorem unA_not (x : Bool) : unA .not (ab x) = some (ab (!x)) := rfl
theorem unA_neg : unA .neg (.c (.int k a)) = some (.c (.int k (k.wrap (0 - a)))) := rfl
end
attribute [simp] binA_add binA_sub binA_mul binA_quo binA_rem binA_and binA_or binA_xor binA_eql binA_neq binA_lss binA_leq binA_gtr binA_geq binA_shl binA_shr binA_eqb binA_neb unA_not unA_neg
attribute [simp] execW_seq execW_region execW_ret execW_skip execW_label execW_exit execW_goto execW_block execW_cond execW_scope
attribute [simp] runOps_nil runOps_0 runOps_1 runOps_2 kill_nil kill_L wanted_none wanted_L evalX_L evalX_k setD_L setD_none loadA_L loadA_ptr loadA_ptrk andThen AExit.ends resultsA resA unblock
attribute [simp] get_full get_n0 get_n1 get_n2 put_n0 put_n1 put_n2 put_full0 put_full1 put_full2 map_full map_n putAll L_getD L_map fold_full forget
attribute [simp] opA_len opA_lenArr opA_mov opA_pick opA_bin opA_un opA_load opA_store opA_chk opA_faddr opA_iaddr opA_call opA_append opA_new opA_mkfn pickV_b intBin faddrV chkV toCells AV.one AV.free AV.freeAll fromCells
/-- These are n slots. -/
def IsL (n : Nat) (σ : List AV) : Prop := ∃ t, σ = L n t
theorem IsL_L (n : Nat) (t : Tr) : IsL n (L n t) := ⟨t, rfl⟩
attribute [simp] IsL_L
attribute [simp low] get_put
attribute [simp] runD SOp.cls dstBox headK L_get L_set Ends.some
/-! A drawn region none of whose reads is doubtful. -/
def runS (C : Oracle) : List DOp → List AV → Heap → Option (List AV × Heap)
  | [], σ, H => some (σ, H)
  | d :: r, σ, H => (stepA C d.o σ H).bind fun p => runS C r p.1 p.2
theorem runD_plain (C : Oracle) : ∀ (ops acc : List DOp) (σ : List AV) (H : Heap), ops.all (fun d => d.un.isEmpty) = true → runD C acc ops σ H = runS C ops σ H
  | [], _, _, _, _ => rfl
  | d :: r, acc, σ, H, h => by
    simp only [List.all_cons, Bool.and_eq_true, List.isEmpty_iff] at h
    rw [runD, runS]
    congr 1
    funext p
    obtain ⟨σ', H'⟩ := p
    simp only [h.1, List.contains_nil, Bool.not_false, Bool.true_or, List.all_eq_true, implies_true, if_true]
    exact runD_plain C r _ _ _ h.2
theorem execW_plain {T : FuncId → Option SFun} {X : Oracle} {σ : List AV} {H : Heap} (ks : List Nat) (ops : List DOp) (h : ops.all (fun d => d.un.isEmpty) = true) : execW T X (.drawn ks ops) σ H = (runS (callW T X) ops (kill ks σ) H).map fun x => ⟨.normal, x.1, x.2⟩ := by
  rw [execW_drawn, runD_plain _ _ _ _ _ h]
theorem runS_nil (C : Oracle) (σ : List AV) (H : Heap) : runS C [] σ H = some (σ, H) := rfl
theorem runS_cons (C : Oracle) (d : DOp) (r : List DOp) (σ : List AV) (H : Heap) : runS C (d :: r) σ H = (stepA C d.o σ H).bind fun p => runS C r p.1 p.2 := by rw [runS]
def dkeep (op : SOp) (d : Option Nat) (x : AV × List AV × Heap) : Option (List AV × Heap) := if x.1.isBox = true ∧ op.cls ≠ .eff then none else some (setD x.2.1 d x.1, x.2.2)
theorem dkeep_ok (op : SOp) (d : Option Nat) (v : AV) (σ : List AV) (H : Heap) : dkeep op d (v, σ, H) = if v.isBox = true then (if op.cls ≠ .eff then none else some (setD σ d v, H)) else some (setD σ d v, H) := by
  unfold dkeep
  cases h : v.isBox
  · rw [if_neg (by simp), if_neg (by simp)]
  · by_cases hc : op.cls ≠ .eff
    · rw [if_pos ⟨rfl, hc⟩, if_pos rfl, if_pos hc]
    · rw [if_neg (fun q => hc q.2), if_pos rfl, if_neg hc]
theorem stepA_0 (C : Oracle) (d : Option Nat) (op : SOp) (σ : List AV) (H : Heap) (h : dstBox σ d = false) : stepA C ⟨d, op, none⟩ σ H = (opA C d op σ H).bind (dkeep op d) := by
  rw [stepA]
  simp only [h, Bool.false_eq_true, and_false, if_false, wanted_none]
  rfl
theorem stepA_1 (C : Oracle) (d : Option Nat) (op : SOp) (i : Nat) (b : Bool) (σ : List AV) (H : Heap) (h : dstBox σ d = false) (hw : wanted σ (some (i, b)) = some true) : stepA C ⟨d, op, some (i, b)⟩ σ H = (opA C d op σ H).bind (dkeep op d) := by
  rw [stepA]
  simp only [h, Bool.false_eq_true, and_false, if_false, hw]
  rfl
theorem stepA_2 (C : Oracle) (d : Option Nat) (op : SOp) (i : Nat) (b : Bool) (σ : List AV) (H : Heap) (h : dstBox σ d = false) (hw : wanted σ (some (i, b)) = some false) : stepA C ⟨d, op, some (i, b)⟩ σ H = some (setD σ d (.tup []), H) := by
  rw [stepA]
  simp only [h, Bool.false_eq_true, and_false, if_false, hw]
attribute [simp] execW_plain runS_nil runS_cons dkeep_ok stepA_0 stepA_1 stepA_2
/-! Only what comes first is simplified: what comes behind waits for its value. -/
theorem bind_left {α β : Type} {x y : Option α} (K : α → Option β) (h : x = y) : x.bind K = y.bind K := by rw [h]
theorem map_left {α β : Type} {x y : Option α} (K : α → β) (h : x = y) : x.map K = y.map K := by rw [h]
theorem ends_left {α : Type} {x y : Option α} (Q : α → Prop) (h : x = y) : Ends x Q = Ends y Q := by rw [h]
attribute [congr] bind_left map_left ends_left
end Go.A
