/- THE ABSTRACT MACHINE: slots as a tree, for running code by simp. -/
import Derived.Test.YtekoolanpphbfaaA19
set_option linter.unusedSimpArgs false
set_option linter.unusedVariables false
set_option linter.unnecessarySimpa false
namespace Go.A
open Go

inductive Tr where
  | e
  | n (l : Tr) (v : AV) (r : Tr)

def Tr.get : Tr → List Bool → AV
  | .e, _ => .undef
  | .n _ v _, [] => v
  | .n l _ _, false :: p => l.get p
  | .n _ _ r, true :: p => r.get p

def Tr.put : Tr → List Bool → AV → Tr
  | .e, [], v => .n .e v .e
  | .e, false :: p, v => .n (Tr.put .e p v) .undef .e
  | .e, true :: p, v => .n .e .undef (Tr.put .e p v)
  | .n l _ r, [], v => .n l v r
  | .n l x r, false :: p, v => .n (l.put p v) x r
  | .n l x r, true :: p, v => .n l x (r.put p v)

def Tr.map (f : AV → AV) : Tr → Tr
  | .e => .e
  | .n l v r => .n (l.map f) (f v) (r.map f)

def Tr.full : Nat → Tr
  | 0 => .e
  | k + 1 => .n (Tr.full k) .undef (Tr.full k)

def pathF : Nat → Nat → List Bool
  | 0, _ => []
  | k + 1, m => if m ≤ 1 then [] else (m % 2 == 1) :: pathF k (m / 2)
def path (i : Nat) : List Bool := pathF (i + 2) (i + 1)

theorem get_put : ∀ (t : Tr) (p q : List Bool) (v : AV), (t.put p v).get q = if p = q then v else t.get q
  | .e, [], [], v => by simp [Tr.put, Tr.get]
  | .e, [], b :: q, v => by cases b <;> simp [Tr.put, Tr.get]
  | .e, false :: p, [], v => by simp [Tr.put, Tr.get]
  | .e, true :: p, [], v => by simp [Tr.put, Tr.get]
  | .e, false :: p, false :: q, v => by simp [Tr.put, Tr.get, get_put .e p q v]
  | .e, false :: p, true :: q, v => by simp [Tr.put, Tr.get]
  | .e, true :: p, false :: q, v => by simp [Tr.put, Tr.get]
  | .e, true :: p, true :: q, v => by simp [Tr.put, Tr.get, get_put .e p q v]
  | .n l x r, [], [], v => by simp [Tr.put, Tr.get]
  | .n l x r, [], b :: q, v => by cases b <;> simp [Tr.put, Tr.get]
  | .n l x r, false :: p, [], v => by simp [Tr.put, Tr.get]
  | .n l x r, true :: p, [], v => by simp [Tr.put, Tr.get]
  | .n l x r, false :: p, false :: q, v => by simp [Tr.put, Tr.get, get_put l p q v]
  | .n l x r, false :: p, true :: q, v => by simp [Tr.put, Tr.get]
  | .n l x r, true :: p, false :: q, v => by simp [Tr.put, Tr.get]
  | .n l x r, true :: p, true :: q, v => by simp [Tr.put, Tr.get, get_put r p q v]

theorem get_map (f : AV → AV) (h : f .undef = .undef) : ∀ (t : Tr) (p : List Bool), (t.map f).get p = f (t.get p)
  | .e, p => by cases p <;> simp [Tr.map, Tr.get, h]
  | .n l v r, [] => by simp [Tr.map, Tr.get]
  | .n l v r, false :: p => by simp [Tr.map, Tr.get, get_map f h l p]
  | .n l v r, true :: p => by simp [Tr.map, Tr.get, get_map f h r p]

theorem pathF_inj : ∀ (k k' m m' : Nat), m < k → m' < k' → 0 < m → 0 < m' → pathF k m = pathF k' m' → m = m'
  | 0, _, _, _, h, _, _, _, _ => by omega
  | _ + 1, 0, _, _, _, h, _, _, _ => by omega
  | k + 1, k' + 1, m, m', h, h', hp, hp', he => by
    simp only [pathF] at he
    split at he <;> split at he
    · omega
    · simp at he
    · simp at he
    · simp only [List.cons.injEq] at he
      have := pathF_inj k k' (m / 2) (m' / 2) (by omega) (by omega) (by omega) (by omega) he.2
      have h2 := he.1
      have e1 : (m % 2 == 1) = (m' % 2 == 1) := h2
      have : m % 2 = m' % 2 := by
        rcases Nat.mod_two_eq_zero_or_one m with a | a <;> rcases Nat.mod_two_eq_zero_or_one m' with b | b <;> simp [a, b] at e1 ⊢
      omega

theorem path_inj {i j : Nat} (h : path i = path j) : i = j := by
  have := pathF_inj (i + 2) (j + 2) (i + 1) (j + 1) (by omega) (by omega) (by omega) (by omega) h
  omega

/-- The slots that a tree tells, n of them. -/
def L (n : Nat) (t : Tr) : List AV := (List.range n).map fun i => t.get (path i)

theorem L_length (n : Nat) (t : Tr) : (L n t).length = n := by simp [L]
theorem L_get (n : Nat) (t : Tr) (i : Nat) : (L n t)[i]? = if i < n then some (t.get (path i)) else none := by
  simp only [L, List.getElem?_map, List.getElem?_range]
  split <;> simp_all
theorem L_getD (n : Nat) (t : Tr) (i : Nat) : (L n t).getD i .undef = if i < n then t.get (path i) else .undef := by
  rw [List.getD_eq_getElem?_getD, L_get]
  split <;> simp
theorem L_set (n : Nat) (t : Tr) (i : Nat) (v : AV) : (L n t).set i v = L n (t.put (path i) v) := by
  apply List.ext_getElem?
  intro j
  rw [L_get, List.getElem?_set, L_length, L_get, get_put]
  by_cases e : i = j
  · subst e; simp
  · have : path i ≠ path j := fun h => e (path_inj h)
    simp [e, this]
theorem L_map (n : Nat) (t : Tr) (d : Nat) : (L n t).map (forget d) = L n (t.map (forget d)) := by
  apply List.ext_getElem?
  intro j
  rw [List.getElem?_map, L_get, L_get, get_map _ rfl]
  split <;> simp

def ev1 (i : Nat) : AV → AV
  | .lbox _ => .lptr i 0
  | v => v

theorem evalX_L (n : Nat) (t : Tr) (i : Nat) : evalX (L n t) (.t i) = if i < n then ev1 i (t.get (path i)) else .undef := by
  simp only [evalX, L_getD]
  by_cases h : i < n
  · simp only [h, if_true]
    cases t.get (path i) <;> rfl
  · simp only [h, if_false]
theorem evalX_k (σ : List AV) (v : AV) : evalX σ (.k v) = v := rfl

theorem setD_L (n : Nat) (t : Tr) (i : Nat) (v : AV) : setD (L n t) (some i) v = L n (t.put (path i) v) := L_set n t i v
theorem setD_none (σ : List AV) (v : AV) : setD σ none v = σ := rfl

theorem get_full : ∀ (k : Nat) (p : List Bool), (Tr.full k).get p = .undef
  | 0, p => by cases p <;> rfl
  | k + 1, [] => rfl
  | k + 1, false :: p => by simp [Tr.full, Tr.get, get_full k p]
  | k + 1, true :: p => by simp [Tr.full, Tr.get, get_full k p]
theorem put_full0 (k : Nat) (v : AV) : (Tr.full (k + 1)).put [] v = .n (Tr.full k) v (Tr.full k) := rfl
theorem put_full1 (k : Nat) (p : List Bool) (v : AV) : (Tr.full (k + 1)).put (false :: p) v = .n ((Tr.full k).put p v) .undef (Tr.full k) := rfl
theorem put_full2 (k : Nat) (p : List Bool) (v : AV) : (Tr.full (k + 1)).put (true :: p) v = .n (Tr.full k) .undef ((Tr.full k).put p v) := rfl
theorem fold_full (k : Nat) : Tr.n (Tr.full k) .undef (Tr.full k) = Tr.full (k + 1) := rfl
theorem put_n0 (l r : Tr) (x v : AV) : (Tr.n l x r).put [] v = .n l v r := rfl
theorem put_n1 (l r : Tr) (x v : AV) (p : List Bool) : (Tr.n l x r).put (false :: p) v = .n (l.put p v) x r := rfl
theorem put_n2 (l r : Tr) (x v : AV) (p : List Bool) : (Tr.n l x r).put (true :: p) v = .n l x (r.put p v) := rfl
theorem get_n0 (l r : Tr) (x : AV) : (Tr.n l x r).get [] = x := rfl
theorem get_n1 (l r : Tr) (x : AV) (p : List Bool) : (Tr.n l x r).get (false :: p) = l.get p := rfl
theorem get_n2 (l r : Tr) (x : AV) (p : List Bool) : (Tr.n l x r).get (true :: p) = r.get p := rfl
theorem map_full (d : Nat) : ∀ k, (Tr.full k).map (forget d) = Tr.full k
  | 0 => rfl
  | k + 1 => by simp [Tr.full, Tr.map, map_full d k, forget]
theorem map_n (f : AV → AV) (l r : Tr) (v : AV) : (Tr.n l v r).map f = .n (l.map f) (f v) (r.map f) := rfl

def putAll : Nat → List AV → Tr → Tr
  | _, [], t => t
  | i, v :: r, t => putAll (i + 1) r (t.put (path i) v)

theorem get_putAll : ∀ (vs : List AV) (i : Nat) (t : Tr) (j : Nat), (putAll i vs t).get (path j) = if i ≤ j ∧ j < i + vs.length then vs.getD (j - i) .undef else t.get (path j)
  | [], i, t, j => by
    simp only [putAll, List.length_nil]
    rw [if_neg (by omega)]
  | v :: r, i, t, j => by
    simp only [putAll, List.length_cons]
    rw [get_putAll r (i + 1), get_put]
    by_cases e : j = i
    · subst e
      rw [if_neg (by omega), if_pos rfl, if_pos (by omega)]
      simp
    · have : path i ≠ path j := fun h => e (path_inj h).symm
      rw [if_neg this]
      by_cases h : i + 1 ≤ j ∧ j < i + 1 + r.length
      · rw [if_pos h, if_pos (by omega)]
        rw [show j - i = (j - (i + 1)) + 1 by omega]
        simp
      · rw [if_neg h, if_neg (by omega)]

theorem slots0_L (k n : Nat) (args : List AV) (h : args.length ≤ n) : slots0 n args = L n (putAll 0 args (Tr.full k)) := by
  apply List.ext_getElem?
  intro j
  rw [L_get, get_putAll, get_full]
  unfold slots0
  by_cases e : j < args.length
  · rw [List.getElem?_append_left e, if_pos (by omega), if_pos (by omega)]
    simp [e]
  · rw [List.getElem?_append_right (by omega), List.getElem?_replicate, if_neg (by omega : ¬ (0 ≤ j ∧ j < 0 + args.length))]
    by_cases h2 : j < n
    · rw [if_pos (by omega), if_pos h2]
    · rw [if_neg (by omega), if_neg h2]

theorem loadA_L (n : Nat) (t : Tr) (H : Heap) (k : Option Nat) (d i : Nat) : loadA (L n t) H k (.lptr d i) = if d < n then (match t.get (path d) with
    | .lbox xs => fromCells k xs i
    | _ => none) else none := by
  simp only [loadA, L_getD]
  by_cases h : d < n
  · simp only [h, if_true]
    split <;> simp_all
  · simp only [h, if_false]
theorem loadA_ptr (σ : List AV) (H : Heap) (r i g : Nat) : loadA σ H none (.ptr r i g) = (rdRow H r i 1 g).bind fun l => l[0]? := rfl
theorem loadA_ptrk (σ : List AV) (H : Heap) (r i g k : Nat) : loadA σ H (some k) (.ptr r i g) = (rdRow H r i k g).map .agg := rfl

theorem wanted_none (σ : List AV) : wanted σ none = some true := rfl
theorem wanted_L (n : Nat) (t : Tr) (i : Nat) (b : Bool) : wanted (L n t) (some (i, b)) = if i < n then (match t.get (path i) with
    | .c (.bool x) => some (x == b)
    | .tup [] => some false
    | _ => none) else none := by
  simp only [wanted, L_getD]
  by_cases h : i < n
  · simp only [h, if_true]
    split <;> simp_all
  · simp only [h, if_false]

theorem runOps_nil (C : Oracle) (σ : List AV) (H : Heap) : runOps C [] σ H = some (σ, H) := rfl
/-- An operation that is carried out. -/
theorem runOps_on {C : Oracle} {d : Option Nat} {op : SOp} {gd : Option (Nat × Bool)} {r : List SOpG} {σ : List AV} {H : Heap} (h : wanted σ gd = some true) : runOps C (⟨d, op, gd⟩ :: r) σ H = (opA C d op σ H).bind fun x => runOps C r (setD x.2.1 d x.1) x.2.2 := by
  simp only [runOps, h]
theorem runOps_off {C : Oracle} {d : Option Nat} {op : SOp} {gd : Option (Nat × Bool)} {r : List SOpG} {σ : List AV} {H : Heap} (h : wanted σ gd = some false) : runOps C (⟨d, op, gd⟩ :: r) σ H = runOps C r (setD σ d (.tup [])) H := by
  simp only [runOps, h]

theorem runOps_0 {C : Oracle} {d : Option Nat} {op : SOp} {r : List SOpG} {σ : List AV} {H : Heap} : runOps C (⟨d, op, none⟩ :: r) σ H = (opA C d op σ H).bind fun x => runOps C r (setD x.2.1 d x.1) x.2.2 := runOps_on rfl
theorem runOps_1 {C : Oracle} {d : Option Nat} {op : SOp} {i : Nat} {b : Bool} {r : List SOpG} {σ : List AV} {H : Heap} (h : wanted σ (some (i, b)) = some true) : runOps C (⟨d, op, some (i, b)⟩ :: r) σ H = (opA C d op σ H).bind fun x => runOps C r (setD x.2.1 d x.1) x.2.2 := runOps_on h
theorem runOps_2 {C : Oracle} {d : Option Nat} {op : SOp} {i : Nat} {b : Bool} {r : List SOpG} {σ : List AV} {H : Heap} (h : wanted σ (some (i, b)) = some false) : runOps C (⟨d, op, some (i, b)⟩ :: r) σ H = runOps C r (setD σ d (.tup [])) H := runOps_off h

theorem kill_nil (σ : List AV) : kill [] σ = σ := rfl
theorem kill_L (n : Nat) (t : Tr) (d : Nat) (r : List Nat) : kill (d :: r) (L n t) = kill r (L n (t.put (path d) .undef)) := by
  simp only [kill, L_set]

end Go.A
