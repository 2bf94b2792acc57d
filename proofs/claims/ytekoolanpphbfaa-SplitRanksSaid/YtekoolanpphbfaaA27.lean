/- THE ABSTRACT MACHINE: more words for running code by simp. -/
import Derived.Test.YtekoolanpphbfaaA26
set_option linter.unusedSimpArgs false
set_option linter.unusedVariables false
set_option linter.unnecessarySimpa false
namespace Go.A
open Go

theorem opA_lbox (C : Oracle) (d k : Nat) (σ : List AV) (H : Heap) (x : SX) : opA C (some d) (.lbox k x) σ H = if (toCells (evalX σ x)).length = k ∧ (toCells (evalX σ x)).all okCell = true then some (.lbox (toCells (evalX σ x)), σ.map (forget d), H) else none := rfl
theorem opA_lnew (C : Oracle) (d : Nat) (σ : List AV) (H : Heap) (zs : List AV) : opA C (some d) (.lnew zs) σ H = some (.lbox zs, σ.map (forget d), H) := rfl
theorem opA_build (C : Oracle) (d : Option Nat) (σ : List AV) (H : Heap) (zs : List AV) (ps : List (Nat × Nat × SX)) : opA C d (.build zs ps) σ H = (placeAll zs (ps.map fun p => (p.1, p.2.1, evalX σ p.2.2))).map fun l => (.agg l, σ, H) := by
  simp only [opA]
  rw [Option.map_map]
  rfl
theorem opA_bslice (C : Oracle) (d : Option Nat) (σ : List AV) (H : Heap) (len sz : Nat) (zs : List AV) (ps : List (Nat × Nat × SX)) : opA C d (.bslice len sz zs ps) σ H = (placeAll zs (ps.map fun p => (p.1, p.2.1, evalX σ p.2.2))).bind fun cs =>
      if cs.all okCell = true then some (.sl H.length 0 len len sz (len * sz) true, σ, H ++ [.row cs]) else none := rfl
def fldV (off : Nat) (k : Option Nat) : AV → Option AV
  | .agg xs => fromCells k xs off
  | _ => none
theorem opA_fld (C : Oracle) (d : Option Nat) (σ : List AV) (H : Heap) (off : Nat) (k : Option Nat) (x : SX) : opA C d (.fld off k x) σ H = (fldV off k (evalX σ x)).map fun v => (v, σ, H) := by
  simp only [opA, fldV]
  split <;> simp_all
def callvV (C : Oracle) (σ : List AV) (H : Heap) (v : AV) (as : List AV) : Option (AV × List AV × Heap) := match v with
  | .fn f cs => if AV.freeAll as = true then (C f (as ++ cs) H).map fun p => (p.1, σ, p.2) else none
  | _ => none
theorem opA_callv (C : Oracle) (d : Option Nat) (σ : List AV) (H : Heap) (x : SX) (xs : List SX) : opA C d (.callv x xs) σ H = callvV C σ H (evalX σ x) (xs.map (evalX σ)) := by
  simp only [opA, callvV]
  split <;> simp_all
theorem callvV_fn (C : Oracle) (σ : List AV) (H : Heap) (f : FuncId) (cs as : List AV) : callvV C σ H (.fn f cs) as = if AV.freeAll as = true then (C f (as ++ cs) H).map fun p => (p.1, σ, p.2) else none := rfl
theorem placeAll_nil (cs : List AV) : placeAll cs [] = some cs := rfl
theorem placeAll_cons (cs : List AV) (off k : Nat) (v : AV) (r : List (Nat × Nat × AV)) : placeAll cs ((off, k, v) :: r) = if (toCells v).length = k ∧ off + k ≤ cs.length ∧ (toCells v).all okCell = true then placeAll (cs.take off ++ toCells v ++ cs.drop (off + k)) r else none := rfl
theorem storeA_L (n : Nat) (t : Tr) (H : Heap) (k d i : Nat) (vs : List AV) : storeA (L n t) H (some k) (.lptr d i) (.agg vs) = if d < n then (match t.get (path d) with
    | .lbox xs => if AV.freeAll vs = true then (if vs.all okCell = true then (if vs.length = k ∧ i + k ≤ xs.length then some (L n (t.put (path d) (.lbox (xs.take i ++ vs ++ xs.drop (i + k)))), H) else none) else none) else none
    | _ => none) else none := by
  simp only [storeA, L_getD]
  by_cases h : d < n
  · simp only [h, if_true, AV.free]
    cases t.get (path d) <;> simp only []
    rename_i xs
    by_cases h1 : AV.freeAll vs = true
    · simp only [h1, if_true]
      by_cases h2 : vs.all okCell = true
      · simp only [h2, if_true, putCells]
        by_cases h3 : vs.length = k ∧ i + k ≤ xs.length
        · simp only [h3, and_self, if_true, Option.map_some, L_set]
        · simp only [h3, if_false, Option.map_none]
      · simp only [h2, if_false]; rfl
    · simp only [h1, if_false]; rfl
  · simp only [h, if_false]
theorem storeA_L1 (n : Nat) (t : Tr) (H : Heap) (d i : Nat) (v : AV) : storeA (L n t) H none (.lptr d i) v = if d < n then (match t.get (path d) with
    | .lbox xs => if v.free = true then (if v.one = true then (if i < xs.length then some (L n (t.put (path d) (.lbox (xs.set i v))), H) else none) else none) else none
    | _ => none) else none := by
  simp only [storeA, L_getD]
  by_cases h : d < n
  · simp only [h, if_true]
    cases t.get (path d) <;> simp only []
    rename_i xs
    by_cases h1 : v.free = true
    · simp only [h1, if_true]
      by_cases h2 : v.one = true
      · simp only [h2, if_true]
        have : putCells none xs i v = if i < xs.length then some (xs.set i v) else none := by
          cases v <;> first | rfl | simp [AV.one] at h2
        rw [this]
        split <;> simp [L_set]
      · simp only [h2, if_false]; rfl
    · simp only [h1, if_false]; rfl
  · simp only [h, if_false]
theorem ev1_nb {v : AV} (h : v.isBox = false) (n : Nat) : ev1 n v = v := by cases v <;> first | rfl | simp [AV.isBox] at h
attribute [simp] opA_lbox opA_lnew opA_build opA_bslice opA_fld opA_callv callvV_fn placeAll_nil placeAll_cons storeA_L storeA_L1 fldV

/-- An element, as it is loaded. -/
def elemV : Option Nat → List AV → AV
  | none, c :: _ => c
  | none, [] => .undef
  | some _, cs => .agg cs
theorem load_elem {H : Heap} {r o k g : Nat} {cs : List AV} (h : rdRow H r o k g = some cs) (ld : Option Nat) (hl : ld = some k ∨ (ld = none ∧ k = 1)) (σ : List AV) : loadA σ H ld (.ptr r o g) = some (elemV ld cs) := by
  rcases hl with rfl | ⟨rfl, rfl⟩
  · simp [elemV, h]
  · have hl : cs.length = 1 := by
      unfold rdRow at h
      split at h
      · split at h
        · rename_i hc
          obtain rfl := Option.some.inj h
          simp only [List.length_take, List.length_drop]
          omega
        · simp at h
      · simp at h
    match cs, hl with
    | [c], _ => simp [h, elemV]
end Go.A
namespace Go.A
open Go
section
variable (ks : List BK) (xs ys : List AV)
theorem binA_eqa : binA .eql (.agg ks) (.agg xs) (.agg ys) = if xs.length = ks.length ∧ ys.length = ks.length then (eqAll ks xs ys).map ab else none := by
  simp only [binA, eqv]
  split <;> rfl
theorem binA_nea : binA .neq (.agg ks) (.agg xs) (.agg ys) = if xs.length = ks.length ∧ ys.length = ks.length then (eqAll ks xs ys).map fun b => ab (!b) else none := by
  simp only [binA, eqv]
  split <;> rfl
theorem eqAll_nil : eqAll [] [] [] = some true := rfl
theorem eqAll_i (a b : Int) : eqAll (.i :: ks) (ai a :: xs) (ai b :: ys) = if a = b then eqAll ks xs ys else some false := by
  simp only [eqAll, eqScalar, if_true]
  by_cases h : a = b
  · simp [h]
  · rw [if_neg h, show (a == b) = false by simp [h]]
end
theorem iaddrV_lptr (sz n d o : Nat) (k : IntKind) (j : Int) : iaddrV sz (some n) (.lptr d o) (.c (.int k j)) = if 0 ≤ j ∧ j < n then some (.lptr d (o + j.toNat * sz)) else none := rfl
theorem iaddrV_ptr (sz n r o g : Nat) (k : IntKind) (j : Int) : iaddrV sz (some n) (.ptr r o g) (.c (.int k j)) = if 0 ≤ j ∧ j < n then some (.ptr r (o + j.toNat * sz) g) else none := rfl
theorem iaddrV_sl (sz r off len cap z g : Nat) (e : Bool) (k : IntKind) (j : Int) : iaddrV sz none (.sl r off len cap z g e) (.c (.int k j)) = if 0 ≤ j ∧ j < len then some (.ptr r (off + j.toNat * sz) g) else none := rfl
theorem eqAll_ints : ∀ (xs ys : List Int), xs.length = ys.length → eqAll (List.replicate xs.length .i) (xs.map ai) (ys.map ai) = some (decide (xs = ys))
  | [], [], _ => rfl
  | x :: xs, y :: ys, h => by
    simp only [List.length_cons, List.replicate_succ, List.map_cons]
    rw [eqAll_i, eqAll_ints xs ys (by simpa using h)]
    by_cases hx : x = y <;> simp [hx]
theorem bits_i64 : IntKind.i64.bits = 64 := rfl
theorem bits_u64 : IntKind.u64.bits = 64 := rfl
theorem bits_u8 : IntKind.u8.bits = 8 := rfl
attribute [simp] bits_i64 bits_u64 bits_u8
attribute [simp] binA_eqa binA_nea eqAll_nil eqAll_i iaddrV_lptr iaddrV_ptr iaddrV_sl

/-- A slice that is made of its elements. -/
theorem Sl.made (H : Heap) (k : Nat) (l : List (List AV)) (cells : List AV) (hk : ∀ cs ∈ l, cs.length = k) (hc : cells = l.flatten) (n : Nat) (hn : n = l.length) : Sl (H ++ [.row cells]) k (.sl H.length 0 n n k (n * k) true) l := by
  subst hn; subst hc
  have hlen : l.flatten.length = l.length * k := by
    clear H
    induction l with
    | nil => simp
    | cons c r ih =>
      have h1 := hk c (by simp)
      have h2 := ih fun cs h => hk cs (by simp [h])
      simp only [List.flatten_cons, List.length_append, h1, h2, List.length_cons, Nat.add_mul]
      omega
  refine .inr ⟨_, _, _, _, _, _, rfl, ⟨Nat.le_refl _, by simp⟩, fun i cs hi => ?_⟩
  have hi' := (List.getElem?_eq_some_iff.1 hi).1
  have hle : i * k + k ≤ l.length * k := by
    have := Nat.mul_le_mul_right k (show i + 1 ≤ l.length from hi')
    rw [Nat.add_mul] at this
    omega
  rw [← hlen, rdRow_row (get_new H _) (by omega), Nat.zero_add]
  congr 1
  clear hlen hle hi'
  induction l generalizing i with
  | nil => simp at hi
  | cons c r ih =>
    have h1 := hk c (by simp)
    cases i with
    | zero =>
      simp only [List.getElem?_cons_zero, Option.some.injEq] at hi
      subst hi
      simp [← h1]
    | succ j =>
      simp only [List.getElem?_cons_succ] at hi
      rw [← ih (fun cs h => hk cs (by simp [h])) j hi]
      simp only [List.flatten_cons]
      rw [show (j + 1) * k = c.length + j * k by rw [Nat.add_mul]; omega, List.drop_append, List.drop_eq_nil_of_le (by omega)]
      simp
end Go.A
namespace Go.A
/-- A sequence's parts. -/
def SCode.sl : SCode → SCode
  | .seq a _ => a
  | s => s
def SCode.sr : SCode → SCode
  | .seq _ b => b
  | s => s
theorem sl_seq (a b : SCode) : (SCode.seq a b).sl = a := rfl
theorem sr_seq (a b : SCode) : (SCode.seq a b).sr = b := rfl
attribute [simp] sl_seq sr_seq
end Go.A
namespace Go.A
open Go
theorem eqAV_ci (a : Int) : eqAV (ai a) (ai a) = true := by simp [eqAV, eqV]
theorem eqAV_cb (a : Bool) : eqAV (ab a) (ab a) = true := by simp [eqAV, eqV]
theorem eqAV_agg (a b : List AV) : eqAV (.agg a) (.agg b) = eqAVs a b := by simp [eqAV]
theorem eqAVs_nil : eqAVs [] [] = true := by simp [eqAVs]
theorem eqAVs_cons (a b : AV) (r q : List AV) : eqAVs (a :: r) (b :: q) = (eqAV a b && eqAVs r q) := by simp [eqAVs]
attribute [simp] eqAV_ci eqAV_cb eqAV_agg eqAVs_nil eqAVs_cons
end Go.A
namespace Go.A
theorem stepA_n0 (C : Oracle) (op : SOp) (σ : List AV) (H : Heap) : stepA C ⟨none, op, none⟩ σ H = (opA C none op σ H).bind (dkeep op none) := stepA_0 C none op σ H rfl
theorem stepA_n1 (C : Oracle) (op : SOp) (i : Nat) (b : Bool) (σ : List AV) (H : Heap) (hw : wanted σ (some (i, b)) = some true) : stepA C ⟨none, op, some (i, b)⟩ σ H = (opA C none op σ H).bind (dkeep op none) := stepA_1 C none op i b σ H rfl hw
theorem stepA_n2 (C : Oracle) (op : SOp) (i : Nat) (b : Bool) (σ : List AV) (H : Heap) (hw : wanted σ (some (i, b)) = some false) : stepA C ⟨none, op, some (i, b)⟩ σ H = some (setD σ none (.tup []), H) := stepA_2 C none op i b σ H rfl hw
attribute [simp] stepA_n0 stepA_n1 stepA_n2
end Go.A
