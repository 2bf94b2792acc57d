/- THE ABSTRACT MACHINE: bytes and bits. -/
import Derived.Test.YtekoolanpphbfaaAW
set_option linter.unusedSimpArgs false
set_option linter.unusedVariables false
set_option linter.unnecessarySimpa false
namespace Go.A
open Go
set_option linter.unusedSimpArgs false
set_option linter.unusedVariables false

def orI (k : IntKind) (a b : Int) : Int := k.wrap (BitVec.ofInt k.bits a ||| BitVec.ofInt k.bits b).toNat
def andI (k : IntKind) (a b : Int) : Int := k.wrap (BitVec.ofInt k.bits a &&& BitVec.ofInt k.bits b).toNat
def xorI (k : IntKind) (a b : Int) : Int := k.wrap (BitVec.ofInt k.bits a ^^^ BitVec.ofInt k.bits b).toNat
theorem binA_orI (ek : EqK) (k : IntKind) (a b : Int) : binA .or ek (.c (.int k a)) (.c (.int k b)) = some (.c (.int k (orI k a b))) := by simp [binA, intBin, orI]
theorem binA_andI (ek : EqK) (k : IntKind) (a b : Int) : binA .and ek (.c (.int k a)) (.c (.int k b)) = some (.c (.int k (andI k a b))) := by simp [binA, intBin, andI]
theorem ofNat_bv (n : Nat) (a : Nat) : BitVec.ofInt n (a : Int) = BitVec.ofNat n a := by simp

theorem orI_u64 {v b : Nat} (hv : v < 9223372036854775808) (hb : b < 2) : orI .u64 ((2 * v : Nat) : Int) (b : Int) = ((2 * v + b : Nat) : Int) := by
  have h1 : (BitVec.ofNat 64 (2 * v) ||| BitVec.ofNat 64 b).toNat = 2 * v + b := by
    rw [BitVec.toNat_or, BitVec.toNat_ofNat, BitVec.toNat_ofNat, Nat.mod_eq_of_lt (by omega), Nat.mod_eq_of_lt (by omega)]
    have := Nat.two_pow_add_eq_or_of_lt (i := 1) (b := b) (by omega) v
    simpa using this.symm
  unfold orI
  change IntKind.u64.wrap ((BitVec.ofInt 64 ((2 * v : Nat) : Int) ||| BitVec.ofInt 64 (b : Int)).toNat : Int) = _
  rw [ofNat_bv, ofNat_bv, h1]
  exact wrap_u64 (n := ((2 * v + b : Nat) : Int)) (by omega) (by omega)
theorem andI_one {a : Nat} (ha : a < 256) : andI .u8 (a : Int) 1 = ((a % 2 : Nat) : Int) := by
  have h1 : (BitVec.ofNat 8 a &&& BitVec.ofNat 8 1).toNat = a % 2 := by
    rw [BitVec.toNat_and, BitVec.toNat_ofNat, BitVec.toNat_ofNat, Nat.mod_eq_of_lt (by omega)]
    exact Nat.and_one_is_mod a
  have h2 : BitVec.ofInt 8 1 = BitVec.ofNat 8 1 := rfl
  unfold andI
  change IntKind.u8.wrap ((BitVec.ofInt 8 (a : Int) &&& BitVec.ofInt 8 1).toNat : Int) = _
  rw [ofNat_bv, h2, h1]
  exact wrap_u8 (n := ((a % 2 : Nat) : Int)) (by omega) (by omega)
theorem andI_u64 {a : Nat} (ha : a < 18446744073709551616) : andI .u64 (a : Int) 1 = ((a % 2 : Nat) : Int) := by
  have h1 : (BitVec.ofNat 64 a &&& BitVec.ofNat 64 1).toNat = a % 2 := by
    rw [BitVec.toNat_and, BitVec.toNat_ofNat, BitVec.toNat_ofNat, Nat.mod_eq_of_lt (by omega)]
    exact Nat.and_one_is_mod a
  have h2 : BitVec.ofInt 64 1 = BitVec.ofNat 64 1 := rfl
  unfold andI
  change IntKind.u64.wrap ((BitVec.ofInt 64 (a : Int) &&& BitVec.ofInt 64 1).toNat : Int) = _
  rw [ofNat_bv, h2, h1]
  exact wrap_u64 (n := ((a % 2 : Nat) : Int)) (by omega) (by omega)

abbrev au (b : Nat) : AV := .c (.int .u8 (b : Int))
def byteCs (bs : List Nat) : List (List AV) := bs.map fun (b : Nat) => [au b]
def Bytes (bs : List Nat) : Prop := ∀ b ∈ bs, b < 256

/-! Bits, the greatest first. -/
def bits8 (b : Nat) : List Bool := (List.range 8).map fun j => decide (b / 2 ^ (7 - j) % 2 = 1)
def bitsB (bs : List Nat) : List Bool := bs.flatMap bits8
def num (l : List Bool) : Nat := l.foldl (fun v b => 2 * v + b.toNat) 0

theorem num_snoc (l : List Bool) (b : Bool) : num (l ++ [b]) = 2 * num l + b.toNat := by simp [num]
theorem num_lt : ∀ (n : Nat) (l : List Bool), l.length = n → num l < 2 ^ n
  | 0, l, h => by
    have : l = [] := List.eq_nil_of_length_eq_zero h
    subst this
    simp [num]
  | n + 1, l, h => by
    rcases List.eq_nil_or_concat l with rfl | ⟨r, b, rfl⟩
    · simp at h
    · rw [List.concat_eq_append, num_snoc]
      have := num_lt n r (by simpa using h)
      rw [Nat.pow_succ]
      cases b <;> simp <;> omega
theorem bits8_len (b : Nat) : (bits8 b).length = 8 := by simp [bits8]
theorem bitsB_len : ∀ bs : List Nat, (bitsB bs).length = 8 * bs.length
  | [] => rfl
  | b :: r => by
    have := bitsB_len r
    simp only [bitsB, List.flatMap_cons, List.length_append, bits8_len, List.length_cons] at this ⊢
    omega
theorem bitsB_get : ∀ (bs : List Nat) (i b : Nat), bs[i / 8]? = some b → (bitsB bs)[i]? = some (decide (b / 2 ^ (7 - i % 8) % 2 = 1))
  | [], i, b, h => by simp at h
  | x :: r, i, b, h => by
    simp only [bitsB, List.flatMap_cons]
    by_cases hi : i < 8
    · rw [show i / 8 = 0 by omega] at h
      simp at h
      subst h
      rw [List.getElem?_append_left (by rw [bits8_len]; exact hi)]
      simp [bits8, hi, Nat.mod_eq_of_lt hi]
    · rw [show i / 8 = (i - 8) / 8 + 1 by omega] at h
      simp only [List.getElem?_cons_succ] at h
      have := bitsB_get r (i - 8) b h
      rw [List.getElem?_append_right (by rw [bits8_len]; omega), bits8_len]
      rw [show i % 8 = (i - 8) % 8 by omega]
      exact this
end Go.A

namespace Go.A
open Go
set_option linter.unusedSimpArgs false
set_option linter.unusedVariables false

theorem rdRow_some {H : Heap} {r i n g : Nat} {cs : List AV} (h : rdRow H r i n g = some cs) : ∃ o, H[r]? = some o ∧ o.isRow = true ∧ o.lo ≤ g ∧ i + n ≤ g ∧ g ≤ o.cells.length ∧ cs = (o.cells.drop i).take n := by
  unfold rdRow at h
  split at h
  · rename_i o ho
    split at h
    · rename_i hc
      exact ⟨o, ho, hc.1, hc.2.1, hc.2.2.1, hc.2.2.2, (Option.some.inj h).symm⟩
    · simp at h
  · simp at h

theorem drop_take_flatten {k : Nat} : ∀ (l : List (List AV)) (cells : List AV) (off : Nat), (∀ cs ∈ l, cs.length = k) → (∀ (i : Nat) (cs : List AV), l[i]? = some cs → (cells.drop (off + i * k)).take k = cs) → (cells.drop off).take (l.length * k) = l.flatten
  | [], cells, off, _, _ => by simp
  | c :: r, cells, off, hk, h => by
    have h0 := h 0 c rfl
    rw [Nat.zero_mul, Nat.add_zero] at h0
    have ih := drop_take_flatten r cells (off + k) (fun cs hc => hk cs (by simp [hc])) (fun i cs hi => by
      have := h (i + 1) cs (by simpa using hi)
      rw [show off + k + i * k = off + (i + 1) * k by rw [Nat.add_mul]; omega]
      exact this)
    simp only [List.length_cons, List.flatten_cons]
    rw [show (r.length + 1) * k = k + r.length * k by rw [Nat.add_mul]; omega, List.take_add, h0, List.drop_drop, ih]

/-- All elements at once. -/
theorem Sl.bulk {H : Heap} {k : Nat} {v : AV} {l : List (List AV)} (h : Sl H k v l) (hk : ∀ cs ∈ l, cs.length = k) (h0 : l ≠ []) : firstA H k l.length v = some l.flatten := by
  rcases h with ⟨rfl, rfl⟩ | ⟨r, off, cap, sz, g, ex, rfl, ⟨h1, _⟩, h2⟩
  · exact absurd rfl h0
  · simp only [firstA, Nat.le_refl, if_true]
    cases l with
    | nil => exact absurd rfl h0
    | cons c l =>
      have hlast := h2 l.length ((c :: l)[l.length]'(by simp)) (List.getElem?_eq_getElem (by simp))
      obtain ⟨o, ho, a1, a2, a3, a4, _⟩ := rdRow_some hlast
      simp only [rdRow, ho, a1, true_and]
      rw [if_pos ⟨a2, by simp only [List.length_cons, Nat.add_mul]; omega, a4⟩]
      congr 1
      refine drop_take_flatten (c :: l) o.cells off hk fun i cs hi => ?_
      obtain ⟨o', ho', _, _, _, _, hcs⟩ := rdRow_some (h2 i cs hi)
      rw [ho] at ho'
      obtain rfl := Option.some.inj ho'
      exact hcs.symm

theorem Sl.lenA' {H : Heap} {k : Nat} {v : AV} {l : List (List AV)} (h : Sl H k v l) : lenA v = some l.length := by
  rcases h with ⟨rfl, rfl⟩ | ⟨r, off, cap, sz, g, ex, rfl, _, _⟩ <;> rfl

theorem OwnG.append {H0 : Heap} {k : Nat} {v : AV} {l : List (List AV)} {M : Heap} (h : OwnG H0 k v l M) (bytes : Nat) {x : AV} {l' : List (List AV)} (hx : Sl M k x l') (hk : ∀ cs ∈ l', cs.length = k) (hok : l'.flatten.all okCell = true) (hb : (l.length + l'.length) * bytes ≤ appBound) (hb' : l.length + l'.length ≤ appBound) :
    ∃ v' M', appendA M k bytes v x = some (v', M') ∧ OwnG H0 k v' (l ++ l') M' := by
  by_cases h0 : l' = []
  · subst h0
    refine ⟨v, M, ?_, by simpa using h⟩
    obtain ⟨N, h1, h2, ⟨rfl, rfl⟩ | ⟨h3, r, h4, h5, rfl, h7⟩⟩ := h
    · simp [appendA, hx.lenA']
    · simp [appendA, hx.lenA']
  · have hpos : 0 < l'.length := List.length_pos_iff.2 h0
    have hbulk := hx.bulk hk h0
    have hfl := flatten_len hk
    obtain ⟨N, h1, h2, ⟨rfl, rfl⟩ | ⟨h3, r, h4, h5, rfl, h7⟩⟩ := h
    · refine ⟨.sl M.length 0 l'.length l'.length k (l'.length * k) false, M ++ [.grow l'.flatten 0], ?_, N ++ [.grow l'.flatten 0], by rw [h1]; simp, by simpa using hk, .inr ⟨by simpa using h0, M.length, by rw [h1]; simp, by simp, by simp, by simp⟩⟩
      simp only [appendA, hx.lenA', Option.bind_some, hbulk]
      rw [if_neg (by omega), if_pos ⟨by simpa using hb, by simpa using hb', hok⟩]
    · have hl := flatten_len h2
      refine ⟨.sl r 0 (l.length + l'.length) (l.length + l'.length) k (l.length * k + l'.length * k) false, M.set r (.grow (l.flatten ++ l'.flatten) 0), ?_, N.set (r - H0.length) (.grow (l.flatten ++ l'.flatten) 0), ?_, ?_, .inr ⟨by simp [h3], r, h4, by simpa using h5, by simp [Nat.add_mul], ?_⟩⟩
      · simp only [appendA, hx.lenA', Option.bind_some, hbulk]
        rw [if_neg (by omega), if_neg (by omega), if_pos ⟨hb, hb', hok⟩, if_pos ⟨trivial, trivial, by
          have := List.length_pos_iff.2 h3
          simp; omega, trivial, trivial, by simp [h7, AObj.isW, AObj.cells, hl]⟩, h7]
        rfl
      · rw [h1, List.set_append_right _ _ h4]
      · intro c hc
        rcases List.mem_append.1 hc with hc | hc
        · exact h2 c hc
        · exact hk c hc
      · rw [List.getElem?_set_self h5]
        simp

end Go.A

namespace Go.A
open Go
set_option linter.unusedSimpArgs false
set_option linter.unusedVariables false

theorem opA_box (C : Oracle) (d : Option Nat) (σ : List AV) (H : Heap) (k : Nat) (x : SX) : opA C d (.box k x) σ H = if (toCells (evalX σ x)).length = k ∧ (toCells (evalX σ x)).all okCell = true then some (.ptr H.length 0 k, σ, H ++ [.row (toCells (evalX σ x))]) else none := rfl
def mn (x y : Int) : Int := if y < x then y else x
def min2V : AV → AV → Option AV
  | .c (.int k x), y => minA (.c (.int k x)) y
  | _, _ => none
theorem opA_min2 (C : Oracle) (d : Option Nat) (σ : List AV) (H : Heap) (x y : SX) : opA C d (.min [x, y]) σ H = (min2V (evalX σ x) (evalX σ y)).map fun v => (v, σ, H) := by
  simp only [opA, min2V, List.map_cons, List.map_nil]
  cases evalX σ x <;> first | rfl | skip
  rename_i v
  cases v <;> first | rfl | (simp only [List.foldlM_cons, List.foldlM_nil]; cases minA _ _ <;> rfl)
theorem min2V_i (a b : Int) : min2V (ai a) (ai b) = some (ai (mn a b)) := rfl
def extV (i : Nat) : AV → Option AV
  | .tup xs => xs[i]?
  | _ => none
theorem opA_ext (C : Oracle) (d : Option Nat) (σ : List AV) (H : Heap) (x : SX) (i : Nat) : opA C d (.ext x i) σ H = (extV i (evalX σ x)).map fun v => (v, σ, H) := by
  simp only [opA, extV]
  split <;> simp_all
theorem extV_0 (a : AV) (r : List AV) : extV 0 (.tup (a :: r)) = some a := rfl
theorem extV_1 (a b : AV) (r : List AV) : extV 1 (.tup (a :: b :: r)) = some b := rfl
theorem extV_2 (a b c : AV) (r : List AV) : extV 2 (.tup (a :: b :: c :: r)) = some c := rfl
attribute [simp] opA_box opA_min2 min2V_i opA_ext extV_0 extV_1 extV_2
end Go.A

namespace Go.A
open Go
set_option linter.unusedSimpArgs false
set_option linter.unusedVariables false

theorem OwnG.swap {H H' N : Heap} {k : Nat} {v : AV} {l : List (List AV)} (h : OwnG H k v l (H ++ N)) (hl : H'.length = H.length) : OwnG H' k v l (H' ++ N) := by
  obtain ⟨N', h1, h2, h3⟩ := h
  obtain rfl := List.append_cancel_left h1
  refine ⟨N, rfl, h2, ?_⟩
  rcases h3 with h3 | ⟨h3, r, h4, h5, h6, h7⟩
  · exact .inl h3
  · refine .inr ⟨h3, r, by omega, by simp at h5 ⊢; omega, h6, ?_⟩
    rw [List.getElem?_append_right (by omega)] at h7 ⊢
    rw [hl]; exact h7

/-- A slice that lives in N alone, whatever lies ahead of it, as long as it is as long as H, and behind it. -/
structure Fresh (H N : Heap) (k : Nat) (v : AV) (l : List (List AV)) : Prop where
  free : v.free = true
  nb : v.isBox = false
  sl : ∀ H' : Heap, H'.length = H.length → ∀ N' : Heap, Sl (H' ++ N ++ N') k v l
theorem Fresh.nil (H N : Heap) (k : Nat) : Fresh H N k nilS [] := ⟨rfl, rfl, fun _ _ _ => .inl ⟨rfl, rfl⟩⟩
theorem OwnG.fresh {H N : Heap} {k : Nat} {v : AV} {l : List (List AV)} (h : OwnG H k v l (H ++ N)) : Fresh H N k v l :=
  ⟨h.free, h.nb, fun H' hl N' => by exact ((h.swap hl).grow N').sl⟩
theorem Fresh.more {H N : Heap} {k : Nat} {v : AV} {l : List (List AV)} (h : Fresh H N k v l) (N1 : Heap) : Fresh H (N ++ N1) k v l :=
  ⟨h.free, h.nb, fun H' hl N' => by have := h.sl H' hl (N1 ++ N'); simpa [List.append_assoc] using this⟩
/-- What is fresh behind H ++ A is so behind H. -/
theorem Fresh.left {H A N : Heap} {k : Nat} {v : AV} {l : List (List AV)} (h : Fresh (H ++ A) N k v l) : Fresh H (A ++ N) k v l :=
  ⟨h.free, h.nb, fun H' hl N' => by have := h.sl (H' ++ A) (by simp [hl]) N'; simpa [List.append_assoc] using this⟩
theorem Fresh.ev {H N : Heap} {k : Nat} {v : AV} {l : List (List AV)} (h : Fresh H N k v l) (n : Nat) : ev1 n v = v := ev1_nb h.nb n
theorem Fresh.here {H N : Heap} {k : Nat} {v : AV} {l : List (List AV)} (h : Fresh H N k v l) : Sl (H ++ N) k v l := by simpa using h.sl H rfl []

section
variable {T : FuncId → Option SFun} {X : Oracle}
theorem scope_rule {tail : SCode} {l : Nat} (I : Nat → List AV → Heap → Prop) (Q : AExit → List AV → Heap → Prop)
    (step : ∀ n σ H, I n (kill (headK tail) σ) H → Ends (execW T X tail σ H) fun s => if s.e = .goto l then ∃ m, m < n ∧ I m (kill (headK tail) s.σ) s.H else Q s.e s.σ s.H) :
    ∀ (n : Nat) (σ : List AV) (H : Heap), I n (kill (headK tail) σ) H → Ends ((execW T X tail σ H).bind (jumpW T X (.seq .skip tail) l)) fun s => s.e ≠ .goto l ∧ Q s.e s.σ s.H := by
  intro n σ H hI
  refine (step n σ H hI).bind fun s hs => ?_
  obtain ⟨e, σ1, G1⟩ := s
  by_cases he : e = .goto l
  · subst he
    simp only [if_true] at hs
    obtain ⟨m, hm, hI1⟩ := hs
    exact jump_rule (T := T) (X := X) (r := .seq .skip tail) (l := l) (fun z σ G => I z (kill (headK tail) σ) G) Q (fun z σ G hI => by
      have hr : execW T X (.seq .skip tail) σ G = execW T X tail σ G := by
        rw [execW_seq, execW_skip]
        rfl
      rw [hr]
      exact step z σ G hI) m σ1 G1 hI1
  · simp only [he, if_false] at hs
    rw [jumpW_done (by exact he)]
    exact Ends.some.2 ⟨he, hs⟩
end
end Go.A

namespace Go.A
open Go
set_option linter.unusedSimpArgs false
set_option linter.unusedVariables false

/-- All that can be read in M reads the same in M'. -/
def HLe (M M' : Heap) : Prop := ∀ r i n g cs, rdRow M r i n g = some cs → rdRow M' r i n g = some cs
theorem HLe.refl (M : Heap) : HLe M M := fun _ _ _ _ _ h => h
theorem HLe.trans {A B C : Heap} (h : HLe A B) (k : HLe B C) : HLe A C := fun r i n g cs e => k r i n g cs (h r i n g cs e)
theorem HLe.app (M N : Heap) : HLe M (M ++ N) := fun _ _ _ _ _ h => rdRow_append h
theorem Sl.le {M M' : Heap} (hl : HLe M M') {k : Nat} {v : AV} {l : List (List AV)} (h : Sl M k v l) : Sl M' k v l := by
  rcases h with h | ⟨r, off, cap, sz, g, ex, rfl, h1, h2⟩
  · exact .inl h
  · exact .inr ⟨r, off, cap, sz, g, ex, rfl, h1, fun i cs hi => hl _ _ _ _ _ (h2 i cs hi)⟩
theorem HLe.setGrow {M : Heap} {r lo : Nat} {c new : List AV} (h : M[r]? = some (.grow c lo)) : HLe M (M.set r (.grow (c ++ new) lo)) := by
  intro r' i n g cs hr
  by_cases hc : r = r'
  · subst hc
    obtain ⟨o, h1, h2, h3, h4, h5, rfl⟩ := rdRow_some hr
    rw [h] at h1
    obtain rfl := Option.some.inj h1
    have hlt : r < M.length := (List.getElem?_eq_some_iff.1 h).1
    simp only [AObj.lo, AObj.cells] at h3 h5
    simp only [rdRow, List.getElem?_set_self hlt, AObj.isRow, AObj.lo, AObj.cells]
    rw [if_pos ⟨trivial, h3, h4, by simp; omega⟩]
    congr 1
    rw [List.drop_append_of_le_length (by omega), List.take_append_of_le_length (by simp; omega)]
  · simp only [rdRow] at hr ⊢
    rw [List.getElem?_set_ne hc]
    exact hr

def NLe (n : Nat) (N N' : Heap) : Prop := ∀ H' : Heap, H'.length = n → HLe (H' ++ N) (H' ++ N')
theorem NLe.refl (n : Nat) (N : Heap) : NLe n N N := fun _ _ => HLe.refl _
theorem NLe.trans {n : Nat} {A B C : Heap} (h : NLe n A B) (k : NLe n B C) : NLe n A C := fun H' e => (h H' e).trans (k H' e)
theorem NLe.app (n : Nat) (N X : Heap) : NLe n N (N ++ X) := fun H' _ => by rw [← List.append_assoc]; exact HLe.app _ _
theorem Fresh.le {H N N' : Heap} {k : Nat} {v : AV} {l : List (List AV)} (h : Fresh H N k v l) (hl : NLe H.length N N') : Fresh H N' k v l :=
  ⟨h.free, h.nb, fun H' e X => by
    have := h.sl H' e []
    rw [List.append_nil] at this
    exact (this.le (hl H' e)).grow⟩

theorem OwnG.push2 {H N : Heap} {k : Nat} {v : AV} {l : List (List AV)} (h : OwnG H k v l (H ++ N)) (bytes : Nat) (cs : List AV) (hk : cs.length = k) (hok : cs.all okCell = true) (hb : (l.length + 1) * bytes ≤ appBound) (hb' : l.length + 1 ≤ appBound) (g : Nat) (hg : g = k) :
    ∃ v' N', appendA ((H ++ N) ++ [.row cs]) k bytes v (.sl (H ++ N).length 0 1 1 k g true) = some (v', H ++ N') ∧ OwnG H k v' (l ++ [cs]) (H ++ N') ∧ NLe H.length N N' := by
  obtain ⟨v', M', h1, h2⟩ := h.push bytes cs hk hok hb hb' g hg
  obtain ⟨N', rfl⟩ := h2.ext
  refine ⟨v', N', h1, h2, ?_⟩
  subst hg
  have hrd : rdRow ((H ++ N) ++ [AObj.row cs]) (H ++ N).length 0 g g = some cs := by
    have := rdRow_row (get_new (H ++ N) (.row cs)) (i := 0) (n := g) (by omega)
    rw [hk] at this
    simpa [← hk] using this
  obtain ⟨N0, e0, k2, ⟨rfl, rfl⟩ | ⟨k3, r, k4, k5, rfl, k7⟩⟩ := h
  · simp only [appendA, lenA, Option.bind_some, firstA] at h1
    simp only [Nat.one_ne_zero, if_false, Nat.le_refl, if_true, Nat.one_mul, hrd, Option.bind_some] at h1
    rw [if_pos ⟨by simpa using hb, by simpa using hb', hok⟩] at h1
    have h1' := (Prod.mk.inj (Option.some.inj h1)).2
    rw [List.append_assoc, List.append_assoc] at h1'
    have := List.append_cancel_left h1'
    rw [← this]
    exact NLe.app _ _ _
  · have h' : ((H ++ N) ++ [AObj.row cs])[r]? = some (.grow l.flatten 0) := by rw [List.getElem?_append_left k5, k7]
    have hl := flatten_len k2
    have hl0 : 0 < l.length := List.length_pos_iff.2 k3
    simp only [appendA, lenA, Option.bind_some, firstA] at h1
    simp only [Nat.one_ne_zero, if_false, Nat.le_refl, if_true, Nat.one_mul, hrd, Option.bind_some] at h1
    rw [if_neg (by omega), if_pos ⟨hb, hb', hok⟩, if_pos ⟨trivial, trivial, by simp; omega, trivial, trivial, by rw [h']; simp [AObj.isW, AObj.cells, hl]⟩, h'] at h1
    have h1' := (Prod.mk.inj (Option.some.inj h1)).2
    simp only [AObj.cells, AObj.lo] at h1'
    intro H' hH'
    have e1 : (H ++ N ++ [AObj.row cs]).set r (.grow (l.flatten ++ cs) 0) = H ++ (N ++ [AObj.row cs]).set (r - H.length) (.grow (l.flatten ++ cs) 0) := by
      rw [List.append_assoc, List.set_append_right _ _ k4]
    have e2 : (H' ++ N ++ [AObj.row cs]).set r (.grow (l.flatten ++ cs) 0) = H' ++ (N ++ [AObj.row cs]).set (r - H.length) (.grow (l.flatten ++ cs) 0) := by
      rw [List.append_assoc, List.set_append_right _ _ (by omega), hH']
    rw [e1] at h1'
    rw [← List.append_cancel_left h1', ← e2]
    refine (HLe.app (H' ++ N) [AObj.row cs]).trans (HLe.setGrow ?_)
    rw [List.getElem?_append_left (by simp at k5 ⊢; omega), List.getElem?_append_right (by omega), hH', ← List.getElem?_append_right k4, k7]

/-- A slice of slices of bytes. -/
def Fs (M : Heap) (v : AV) (ff : List (List Nat)) : Prop :=
  ∃ vs : List AV, Sl M 1 v (vs.map fun x => [x]) ∧ vs.length = ff.length ∧ ∀ (i : Nat) (x : AV) (b : List Nat), vs[i]? = some x → ff[i]? = some b → Sl M 1 x (byteCs b)
theorem Fs.le {M M' : Heap} (hl : HLe M M') {v : AV} {ff : List (List Nat)} (h : Fs M v ff) : Fs M' v ff := by
  obtain ⟨vs, h1, h2, h3⟩ := h
  exact ⟨vs, h1.le hl, h2, fun i x b e f => (h3 i x b e f).le hl⟩
theorem Fs.nil (M : Heap) : Fs M nilS [] := ⟨[], .inl ⟨rfl, rfl⟩, rfl, by simp⟩
theorem Fs.len {M : Heap} {v : AV} {ff : List (List Nat)} (h : Fs M v ff) : lenS v = some ff.length := by
  obtain ⟨vs, h1, h2, _⟩ := h
  rw [h1.len, List.length_map, h2]
theorem Fs.free {M : Heap} {v : AV} {ff : List (List Nat)} (h : Fs M v ff) : v.free = true := by
  obtain ⟨vs, h1, h2, _⟩ := h
  exact h1.free
theorem Fs.nb {M : Heap} {v : AV} {ff : List (List Nat)} (h : Fs M v ff) : v.isBox = false := by
  obtain ⟨vs, h1, h2, _⟩ := h
  exact h1.nb
theorem Fs.one {M : Heap} {v : AV} {ff : List (List Nat)} (h : Fs M v ff) : v.one = true ∧ toCells v = [v] := by
  obtain ⟨vs, h1, h2, _⟩ := h
  rcases h1 with ⟨rfl, _⟩ | ⟨r, off, cap, sz, g, ex, rfl, _, _⟩ <;> exact ⟨rfl, rfl⟩
theorem Sl.one {M : Heap} {k : Nat} {v : AV} {l : List (List AV)} (h : Sl M k v l) : v.one = true ∧ toCells v = [v] := by
  rcases h with ⟨rfl, _⟩ | ⟨r, off, cap, sz, g, ex, rfl, _, _⟩ <;> exact ⟨rfl, rfl⟩
/-- Element i of a slice of slices. -/
theorem Fs.at {M : Heap} {v : AV} {ff : List (List Nat)} (h : Fs M v ff) {i : Nat} {b : List Nat} (hi : ff[i]? = some b) :
    ∃ r o g x, (∀ j : Int, j = i → iaddrV 1 none v (ai j) = some (.ptr r o g)) ∧ rdRow M r o 1 g = some [x] ∧ Sl M 1 x (byteCs b) := by
  obtain ⟨vs, h1, h2, h3⟩ := h
  have hlt : i < ff.length := (List.getElem?_eq_some_iff.1 hi).1
  obtain ⟨x, hx⟩ : ∃ x, vs[i]? = some x := ⟨_, List.getElem?_eq_getElem (by omega)⟩
  obtain ⟨r, o, g, p1, p2⟩ := h1.at (i := i) (cs := [x]) (by simp [hx])
  exact ⟨r, o, g, x, p1, p2, h3 i x b hx hi⟩

/-- An own growing slice of fresh slices of bytes. -/
structure OwnF (H : Heap) (v : AV) (ff : List (List Nat)) (N : Heap) : Prop where
  ex : ∃ vs : List AV, OwnG H 1 v (vs.map fun x => [x]) (H ++ N) ∧ vs.length = ff.length ∧ ∀ (i : Nat) (x : AV) (b : List Nat), vs[i]? = some x → ff[i]? = some b → Fresh H N 1 x (byteCs b)
theorem OwnF.nil (H N : Heap) : OwnF H nilS [] N := ⟨[], by simpa using OwnG.nil H N 1, rfl, by simp⟩
theorem OwnF.free {H N : Heap} {v : AV} {ff : List (List Nat)} (h : OwnF H v ff N) : v.free = true := by
  obtain ⟨vs, h1, _⟩ := h.ex
  exact h1.free
theorem OwnF.nb {H N : Heap} {v : AV} {ff : List (List Nat)} (h : OwnF H v ff N) : v.isBox = false := by
  obtain ⟨vs, h1, _⟩ := h.ex
  exact h1.nb
theorem OwnF.fs {H N : Heap} {v : AV} {ff : List (List Nat)} (h : OwnF H v ff N) (H' X : Heap) (hH : H'.length = H.length) : Fs (H' ++ N ++ X) v ff := by
  obtain ⟨vs, h1, h2, h3⟩ := h.ex
  exact ⟨vs, (h1.fresh.sl H' hH X), h2, fun i x b e f => (h3 i x b e f).sl H' hH X⟩
theorem OwnF.grow {H N : Heap} {v : AV} {ff : List (List Nat)} (h : OwnF H v ff N) (X : Heap) : OwnF H v ff (N ++ X) := by
  obtain ⟨vs, h1, h2, h3⟩ := h.ex
  exact ⟨vs, by rw [← List.append_assoc]; exact h1.grow X, h2, fun i x b e f => (h3 i x b e f).more X⟩
theorem OwnG.left {H A N : Heap} {k : Nat} {v : AV} {l : List (List AV)} (h : OwnG (H ++ A) k v l (H ++ A ++ N)) : OwnG H k v l (H ++ (A ++ N)) := by
  obtain ⟨N', h1, h2, h3⟩ := h
  refine ⟨A ++ N, rfl, h2, ?_⟩
  rcases h3 with h3 | ⟨h3, r, h4, h5, h6, h7⟩
  · exact .inl h3
  · exact .inr ⟨h3, r, by simp at h4; omega, by simp at h5 ⊢; omega, h6, by rw [← List.append_assoc]; exact h7⟩
theorem OwnF.left {H A N : Heap} {v : AV} {ff : List (List Nat)} (h : OwnF (H ++ A) v ff N) : OwnF H v ff (A ++ N) := by
  obtain ⟨vs, h1, h2, h3⟩ := h.ex
  exact ⟨vs, h1.left, h2, fun i x b e f => (h3 i x b e f).left⟩
/-- One more. -/
theorem OwnF.push {H N : Heap} {v : AV} {ff : List (List Nat)} (h : OwnF H v ff N) {x : AV} {b : List Nat} (hx : Fresh H N 1 x (byteCs b)) (bytes : Nat) (hb : (ff.length + 1) * bytes ≤ appBound) (hb' : ff.length + 1 ≤ appBound) :
    ∃ v' N', appendA ((H ++ N) ++ [.row [x]]) 1 bytes v (.sl (H ++ N).length 0 1 1 1 1 true) = some (v', H ++ N') ∧ OwnF H v' (ff ++ [b]) N' := by
  obtain ⟨vs, h1, h2, h3⟩ := h.ex
  have hx1 := hx.here.one
  have hok : okCell x = true := by
    show (x.one && x.free) = true
    rw [hx1.1, hx.free]; rfl
  obtain ⟨v', N', p1, p2, p3⟩ := h1.push2 bytes [x] rfl (by rw [List.all_cons, hok]; rfl) (by simpa [h2] using hb) (by simpa [h2] using hb') 1 rfl
  refine ⟨v', N', p1, ⟨vs ++ [x], by simpa using p2, by simp [h2], fun i y c e f => ?_⟩⟩
  by_cases hi : i < vs.length
  · rw [List.getElem?_append_left hi] at e
    rw [List.getElem?_append_left (by omega)] at f
    exact (h3 i y c e f).le p3
  · have hlt := (List.getElem?_eq_some_iff.1 e).1
    simp at hlt
    have : i = vs.length := by omega
    subst this
    rw [List.getElem?_append_right (Nat.le_refl _)] at e
    rw [h2, List.getElem?_append_right (Nat.le_refl _)] at f
    simp at e f
    subst e; subst f
    exact hx.le p3
end Go.A

namespace Go.A
open Go
set_option linter.unusedSimpArgs false
set_option linter.unusedVariables false

theorem Ends.block {β : Type} {f : Option St} {g : St → St} {K : St → Option β} {P : AExit → List AV → Heap → Prop} {R : β → Prop} (h : Ends f fun s => P s.e s.σ s.H)
    (hK : ∀ e σ H, P e σ H → Ends (K (g ⟨e, σ, H⟩)) R) : Ends ((f.map g).bind K) R := by
  obtain ⟨⟨e, σ, H⟩, rfl, q⟩ := h
  exact hK e σ H q
theorem loop_ends {T : FuncId → Option SFun} {X : Oracle} {b : SCode} (I : Nat → List AV → Heap → Prop) (Q : AExit → List AV → Heap → Prop)
    (step : ∀ n σ H, I n σ H → Ends (execW T X b σ H) fun s => match s.e with
      | .normal => ∃ m, m < n ∧ I m (kill (headK b) s.σ) s.H
      | e => Q e s.σ s.H) (n : Nat) (σ : List AV) (H : Heap) (h : I n (kill (headK b) σ) H) : Ends (execW T X (.loop b) σ H) fun s => Q s.e s.σ s.H :=
  (loop_rule I Q step n σ H h).mono fun _ h => h.2

def boolCs (l : List Bool) : List (List AV) := l.map fun b => [ab b]
end Go.A

namespace Go.A
open Go
set_option linter.unusedSimpArgs false
set_option linter.unusedVariables false

/-- An own growing slice of slices of bytes that lie in H. -/
structure OwnP (H : Heap) (v : AV) (ff : List (List Nat)) (N : Heap) : Prop where
  ex : ∃ vs : List AV, OwnG H 1 v (vs.map fun x => [x]) (H ++ N) ∧ vs.length = ff.length ∧ ∀ (i : Nat) (x : AV) (b : List Nat), vs[i]? = some x → ff[i]? = some b → Sl H 1 x (byteCs b)
theorem OwnP.nil (H N : Heap) : OwnP H nilS [] N := ⟨[], by simpa using OwnG.nil H N 1, rfl, by simp⟩
theorem OwnP.free {H N : Heap} {v : AV} {ff : List (List Nat)} (h : OwnP H v ff N) : v.free = true := by
  obtain ⟨vs, h1, _⟩ := h.ex
  exact h1.free
theorem OwnP.nb {H N : Heap} {v : AV} {ff : List (List Nat)} (h : OwnP H v ff N) : v.isBox = false := by
  obtain ⟨vs, h1, _⟩ := h.ex
  exact h1.nb
theorem OwnP.fs {H N : Heap} {v : AV} {ff : List (List Nat)} (h : OwnP H v ff N) (X : Heap) : Fs (H ++ N ++ X) v ff := by
  obtain ⟨vs, h1, h2, h3⟩ := h.ex
  exact ⟨vs, (h1.fresh.sl H rfl X), h2, fun i x b e f => by rw [List.append_assoc]; exact (h3 i x b e f).grow⟩
theorem OwnP.push {H N : Heap} {v : AV} {ff : List (List Nat)} (h : OwnP H v ff N) {x : AV} {b : List Nat} (hx : Sl H 1 x (byteCs b)) (bytes : Nat) (hb : (ff.length + 1) * bytes ≤ appBound) (hb' : ff.length + 1 ≤ appBound) :
    ∃ v' N', appendA ((H ++ N) ++ [.row [x]]) 1 bytes v (.sl (H ++ N).length 0 1 1 1 1 true) = some (v', H ++ N') ∧ OwnP H v' (ff ++ [b]) N' := by
  obtain ⟨vs, h1, h2, h3⟩ := h.ex
  have hok : okCell x = true := by
    show (x.one && x.free) = true
    rw [hx.one.1, hx.free]; rfl
  obtain ⟨v', N', p1, p2, p3⟩ := h1.push2 bytes [x] rfl (by rw [List.all_cons, hok]; rfl) (by simpa [h2] using hb) (by simpa [h2] using hb') 1 rfl
  refine ⟨v', N', p1, ⟨vs ++ [x], by simpa using p2, by simp [h2], fun i y c e f => ?_⟩⟩
  by_cases hi : i < vs.length
  · rw [List.getElem?_append_left hi] at e
    rw [List.getElem?_append_left (by omega)] at f
    exact h3 i y c e f
  · have hlt := (List.getElem?_eq_some_iff.1 e).1
    simp at hlt
    have : i = vs.length := by omega
    subst this
    rw [List.getElem?_append_right (Nat.le_refl _)] at e
    rw [h2, List.getElem?_append_right (Nat.le_refl _)] at f
    simp at e f
    subst e; subst f
    exact hx
end Go.A

namespace Go.A
open Go
set_option linter.unusedSimpArgs false
set_option linter.unusedVariables false

theorem toList_loop (l : List UInt8) : ∀ (k i : Nat) (r : List UInt8), l.length - i = k → ByteArray.toList.loop ⟨l.toArray⟩ i r = r.reverse ++ l.drop i
  | 0, i, r, h => by
    unfold ByteArray.toList.loop
    have hs : (⟨l.toArray⟩ : ByteArray).size = l.length := by simp [ByteArray.size]
    rw [if_neg (by rw [hs]; omega), List.drop_eq_nil_of_le (by omega)]
    simp
  | k + 1, i, r, h => by
    unfold ByteArray.toList.loop
    have hs : (⟨l.toArray⟩ : ByteArray).size = l.length := by simp [ByteArray.size]
    rw [if_pos (by rw [hs]; omega), toList_loop l k (i + 1) _ (by omega)]
    have hg : (⟨l.toArray⟩ : ByteArray).get! i = l[i]'(by omega) := by
      simp [ByteArray.get!, show i < l.length by omega]
    rw [hg, List.reverse_cons, List.append_assoc, List.drop_eq_getElem_cons (show i < l.length by omega)]
    rfl
theorem toList_mk (l : List UInt8) : (⟨l.toArray⟩ : ByteArray).toList = l := by
  rw [ByteArray.toList, toList_loop l _ 0 [] rfl]
  simp

def strB (bs : List Nat) : ByteArray := ⟨(bs.map UInt8.ofNat).toArray⟩
theorem map_ofNat_inj : ∀ {a b : List Nat}, Bytes a → Bytes b → a.map UInt8.ofNat = b.map UInt8.ofNat → a = b
  | [], [], _, _, _ => rfl
  | [], b :: r, _, _, h => by simp at h
  | a :: r, [], _, _, h => by simp at h
  | a :: r, b :: s, ha, hb, h => by
    simp only [List.map_cons, List.cons.injEq] at h
    have h1 : a = b := by
      have e := congrArg UInt8.toNat h.1
      have ha1 := ha a (by simp)
      have hb1 := hb b (by simp)
      simp only [UInt8.toNat_ofNat'] at e
      omega
    rw [h1, map_ofNat_inj (fun x hx => ha x (by simp [hx])) (fun x hx => hb x (by simp [hx])) h.2]
theorem strB_eq {a b : List Nat} (ha : Bytes a) (hb : Bytes b) : ((strB a).toList == (strB b).toList) = decide (a = b) := by
  rw [strB, strB, toList_mk, toList_mk]
  by_cases h : a = b
  · subst h; simp
  · have : a.map UInt8.ofNat ≠ b.map UInt8.ofNat := fun e => h (map_ofNat_inj ha hb e)
    simp [h, this]
theorem binA_strEq (ek : EqK) {a b : List Nat} (ha : Bytes a) (hb : Bytes b) : binA .eql ek (.c (.string (strB a))) (.c (.string (strB b))) = some (ab (decide (a = b))) := by
  simp only [binA, strBin]
  rw [strB_eq ha hb]
theorem binA_strNe (ek : EqK) {a b : List Nat} (ha : Bytes a) (hb : Bytes b) : binA .neq ek (.c (.string (strB a))) (.c (.string (strB b))) = some (ab (!decide (a = b))) := by
  simp only [binA, strBin]
  rw [strB_eq ha hb]

def toStrV (H : Heap) : AV → Option AV
  | .c (.slice none 0 0) => some (.c (.string ⟨#[]⟩))
  | .sl r off len _ _ g _ => ((rdRow0 H r off len g).bind bytesOf).map fun l => .c (.string ⟨l.toArray⟩)
  | _ => none
theorem opA_toStr (C : Oracle) (d : Option Nat) (σ : List AV) (H : Heap) (x : SX) : opA C d (.conv .toStr x) σ H = (toStrV H (evalX σ x)).map fun v => (v, σ, H) := by
  simp only [opA, toStrV]
  split <;> simp_all
  rw [← Option.map_bind]
  cases rdRow0 H _ _ _ _ <;> simp [Function.comp_def]
theorem bytesOf_au : ∀ bs : List Nat, bytesOf (bs.map fun b => au b) = some (bs.map UInt8.ofNat)
  | [] => rfl
  | b :: r => by
    simp only [List.map_cons, bytesOf, bytesOf_au r, Option.map_some]
    rfl
theorem byteCs_flat : ∀ bs : List Nat, (byteCs bs).flatten = bs.map fun b => au b
  | [] => rfl
  | b :: r => by
    have := byteCs_flat r
    simp only [byteCs] at this
    simp only [byteCs, List.map_cons, List.flatten_cons, this]
    rfl
theorem Sl.str {H : Heap} {v : AV} {bs : List Nat} (h : Sl H 1 v (byteCs bs)) : toStrV H v = some (.c (.string (strB bs))) := by
  have hone : ∀ cs ∈ byteCs bs, cs.length = 1 := fun cs h => by
    obtain ⟨b, _, rfl⟩ := List.mem_map.1 h
    rfl
  have hl : (byteCs bs).length = bs.length := by simp [byteCs]
  by_cases h0 : byteCs bs = []
  · have hb : bs = [] := List.length_eq_zero_iff.1 (by rw [← hl, h0]; rfl)
    subst hb
    rcases h with ⟨rfl, _⟩ | ⟨r, off, cap, sz, g, ex, rfl, _, _⟩
    · rfl
    · simp [toStrV, rdRow0, bytesOf, strB, byteCs]
  · have hb := h.bulk hone h0
    rw [byteCs_flat] at hb
    have hne : bs.length ≠ 0 := fun e => h0 (List.length_eq_zero_iff.1 (by rw [hl, e]))
    rcases h with ⟨rfl, e⟩ | ⟨r, off, cap, sz, g, ex, rfl, _, _⟩
    · exact absurd e h0
    · simp only [firstA, hl, Nat.le_refl, if_true, Nat.mul_one] at hb
      simp only [toStrV, rdRow0, hl, if_neg hne, hb, Option.bind_some, bytesOf_au, Option.map_some]
      rfl
attribute [simp] opA_toStr
end Go.A

namespace Go.A
open Go
set_option linter.unusedSimpArgs false
set_option linter.unusedVariables false

/-- As OwnG, but elements may have been written: what was read through older slices is gone. -/
def OwnL (H : Heap) (k : Nat) (v : AV) (l : List (List AV)) (M : Heap) : Prop :=
  ∃ N, M = H ++ N ∧ (∀ cs ∈ l, cs.length = k) ∧ ((l = [] ∧ v = nilS) ∨ (l ≠ [] ∧ ∃ r lo, H.length ≤ r ∧ r < M.length ∧ lo ≤ l.length * k ∧ v = .sl r 0 l.length l.length k (l.length * k) false ∧ M[r]? = some (.grow l.flatten lo)))
theorem OwnL.nil (H N : Heap) (k : Nat) : OwnL H k nilS [] (H ++ N) := ⟨N, rfl, by simp, .inl ⟨rfl, rfl⟩⟩
theorem OwnL.free {H : Heap} {k : Nat} {v : AV} {l : List (List AV)} {M : Heap} (h : OwnL H k v l M) : v.free = true := by
  obtain ⟨N, _, _, ⟨_, rfl⟩ | ⟨_, r, lo, _, _, _, rfl, _⟩⟩ := h <;> rfl
theorem OwnL.nb {H : Heap} {k : Nat} {v : AV} {l : List (List AV)} {M : Heap} (h : OwnL H k v l M) : v.isBox = false := by
  obtain ⟨N, _, _, ⟨_, rfl⟩ | ⟨_, r, lo, _, _, _, rfl, _⟩⟩ := h <;> rfl
theorem OwnL.ev {H : Heap} {k : Nat} {v : AV} {l : List (List AV)} {M : Heap} (h : OwnL H k v l M) (n : Nat) : ev1 n v = v := ev1_nb h.nb n
theorem OwnL.one {H : Heap} {k : Nat} {v : AV} {l : List (List AV)} {M : Heap} (h : OwnL H k v l M) : v.one = true ∧ toCells v = [v] := by
  obtain ⟨N, _, _, ⟨_, rfl⟩ | ⟨_, r, lo, _, _, _, rfl, _⟩⟩ := h <;> exact ⟨rfl, rfl⟩
theorem OwnL.ext {H : Heap} {k : Nat} {v : AV} {l : List (List AV)} {M : Heap} (h : OwnL H k v l M) : ∃ N, M = H ++ N := by
  obtain ⟨N, h, _⟩ := h
  exact ⟨N, h⟩
theorem OwnL.grow {H : Heap} {k : Nat} {v : AV} {l : List (List AV)} {M : Heap} (h : OwnL H k v l M) (N' : Heap) : OwnL H k v l (M ++ N') := by
  obtain ⟨N, h1, h2, h3⟩ := h
  refine ⟨N ++ N', by rw [h1, List.append_assoc], h2, ?_⟩
  rcases h3 with h3 | ⟨h3, r, lo, h4, h5, h6, h7, h8⟩
  · exact .inl h3
  · exact .inr ⟨h3, r, lo, h4, by simp; omega, h6, h7, by rw [List.getElem?_append_left h5, h8]⟩
theorem OwnL.swap {H H' N : Heap} {k : Nat} {v : AV} {l : List (List AV)} (h : OwnL H k v l (H ++ N)) (hl : H'.length = H.length) : OwnL H' k v l (H' ++ N) := by
  obtain ⟨N', h1, h2, h3⟩ := h
  obtain rfl := List.append_cancel_left h1
  refine ⟨N, rfl, h2, ?_⟩
  rcases h3 with h3 | ⟨h3, r, lo, h4, h5, h6, h7, h8⟩
  · exact .inl h3
  · refine .inr ⟨h3, r, lo, by omega, by simp at h5 ⊢; omega, h6, h7, ?_⟩
    rw [List.getElem?_append_right (by omega)] at h8 ⊢
    rw [hl]; exact h8
theorem OwnL.sl {H : Heap} {k : Nat} {v : AV} {l : List (List AV)} {M : Heap} (h : OwnL H k v l M) : Sl M k v l := by
  obtain ⟨N, h1, h2, ⟨rfl, rfl⟩ | ⟨h3, r, lo, h4, h5, h6, rfl, h8⟩⟩ := h
  · exact .inl ⟨rfl, rfl⟩
  · refine .inr ⟨r, 0, l.length, k, l.length * k, false, rfl, ⟨Nat.le_refl _, by simp⟩, fun i cs hi => ?_⟩
    have hl := flatten_len h2
    have hi' := (List.getElem?_eq_some_iff.1 hi).1
    have hle : i * k + k ≤ l.length * k := by
      have := Nat.mul_le_mul_right k (show i + 1 ≤ l.length from hi')
      rw [Nat.add_mul] at this
      omega
    simp only [rdRow, h8, AObj.isRow, AObj.lo, AObj.cells]
    rw [if_pos ⟨trivial, h6, by omega, by omega⟩, Nat.zero_add, flatten_at h2 hi]
theorem OwnL.push {H : Heap} {k : Nat} {v : AV} {l : List (List AV)} {M : Heap} (h : OwnL H k v l M) (bytes : Nat) (cs : List AV) (hk : cs.length = k) (hok : cs.all okCell = true) (hb : (l.length + 1) * bytes ≤ appBound) (hb' : l.length + 1 ≤ appBound) (g : Nat) (hg : g = k) :
    ∃ v' M', appendA (M ++ [.row cs]) k bytes v (.sl M.length 0 1 1 k g true) = some (v', M') ∧ OwnL H k v' (l ++ [cs]) M' := by
  subst hg
  have hrd : rdRow (M ++ [AObj.row cs]) M.length 0 g g = some cs := by
    have := rdRow_row (get_new M (.row cs)) (i := 0) (n := g) (by omega)
    rw [hk] at this
    simpa [← hk] using this
  obtain ⟨N, h1, h2, ⟨rfl, rfl⟩ | ⟨h3, r, lo, h4, h5, h6, rfl, h7⟩⟩ := h
  · refine ⟨.sl (M.length + 1) 0 1 1 g (1 * g) false, (M ++ [.row cs]) ++ [.grow cs 0], ?_, N ++ [.row cs] ++ [.grow cs 0], by rw [h1]; simp, by simpa using hk, .inr ⟨by simp, M.length + 1, 0, by rw [h1]; simp; omega, by simp, by simp, by simp, by simp⟩⟩
    simp only [appendA, lenA, Option.bind_some, firstA]
    simp only [Nat.one_ne_zero, if_false, Nat.le_refl, if_true, Nat.one_mul, hrd, Option.bind_some]
    rw [if_pos ⟨by simpa using hb, by simpa using hb', hok⟩]
    simp
  · have h' : (M ++ [AObj.row cs])[r]? = some (.grow l.flatten lo) := by rw [List.getElem?_append_left h5, h7]
    have hl := flatten_len h2
    have hl0 : 0 < l.length := List.length_pos_iff.2 h3
    refine ⟨.sl r 0 (l.length + 1) (l.length + 1) g (l.length * g + 1 * g) false, (M ++ [AObj.row cs]).set r (.grow (l.flatten ++ cs) lo), ?_, (N ++ [AObj.row cs]).set (r - H.length) (.grow (l.flatten ++ cs) lo), ?_, ?_, .inr ⟨by simp, r, lo, h4, by simp; omega, by simp [Nat.add_mul]; omega, by simp [Nat.add_mul], ?_⟩⟩
    · simp only [appendA, lenA, Option.bind_some, firstA]
      simp only [Nat.one_ne_zero, if_false, Nat.le_refl, if_true, Nat.one_mul, hrd, Option.bind_some]
      rw [if_neg (by omega), if_pos ⟨hb, hb', hok⟩, if_pos ⟨trivial, trivial, by simp; omega, trivial, trivial, by rw [h']; simp [AObj.isW, AObj.cells, hl]⟩, h']
      rfl
    · rw [h1, List.append_assoc, List.set_append_right _ _ h4]
    · intro c hc
      rcases List.mem_append.1 hc with hc | hc
      · exact h2 c hc
      · simp at hc; rw [hc]; exact hk
    · rw [List.getElem?_set_self (by simp; omega)]
      simp

/-- Element i of one cell each, looked at and written. -/
theorem OwnL.put {H : Heap} {v : AV} {xs : List AV} {M : Heap} (h : OwnL H 1 v (xs.map fun x => [x]) M) {i : Nat} {x y : AV} (hi : xs[i]? = some x) (hy : okCell y = true) :
    ∃ r g M', (∀ j : Int, j = i → iaddrV 1 none v (ai j) = some (.ptr r i g)) ∧ rdRow M r i 1 g = some [x] ∧ (∀ σ, storeA σ M none (.ptr r i g) y = some (σ, M')) ∧ OwnL H 1 v ((xs.set i y).map fun x => [x]) M' ∧ H.length ≤ r ∧ M'.length = M.length := by
  have hfl : ∀ l : List AV, (l.map fun x => [x]).flatten = l := by
    intro l
    induction l with
    | nil => rfl
    | cons a r ih => simp [ih]
  have hilt := (List.getElem?_eq_some_iff.1 hi).1
  obtain ⟨N, h1, h2, ⟨e, rfl⟩ | ⟨h3, r, lo, h4, h5, h6, rfl, h7⟩⟩ := h
  · have : xs = [] := by simpa using e
    subst this
    simp at hilt
  · rw [hfl] at h7
    simp only [List.length_map, Nat.mul_one] at h6 ⊢
    refine ⟨r, xs.length, M.set r (.grow (xs.set i y) xs.length), ?_, ?_, ?_, ⟨N.set (r - H.length) (.grow (xs.set i y) xs.length), ?_, ?_, .inr ⟨?_, r, xs.length, h4, by simpa using h5, by simp, by simp, ?_⟩⟩, h4, by simp⟩
    · intro j hj
      subst hj
      rw [iaddrV_sl, if_pos ⟨by omega, by omega⟩]
      simp
    · simp only [rdRow, h7, AObj.isRow, AObj.lo, AObj.cells]
      rw [if_pos ⟨trivial, h6, by omega, by omega⟩]
      rw [List.drop_eq_getElem_cons hilt]
      rw [List.getElem?_eq_getElem hilt] at hi
      rw [Option.some.inj hi]
      rfl
    · intro σ
      have hw : wrRow M r i xs.length [y] = some (M.set r (.grow (xs.set i y) xs.length)) := by
        simp only [wrRow, h7]
        rw [if_pos ⟨trivial, by simp; omega, by simpa using hy⟩]
        congr 3
        simp [List.set_eq_take_append_cons_drop, hilt]
      simp only [storeA, hw, Option.map_some]
    · rw [h1, List.set_append_right _ _ h4]
    · intro c hc
      obtain ⟨a, _, rfl⟩ := List.mem_map.1 hc
      rfl
    · intro e
      have : (xs.set i y).length = 0 := by
        have := congrArg List.length e
        simpa using this
      simp at this
      subst this
      simp at hilt
    · rw [List.getElem?_set_self h5, hfl]
end Go.A

namespace Go.A
open Go
set_option linter.unusedSimpArgs false
set_option linter.unusedVariables false

theorem orI_u8 {c x : Nat} (hc : c < 256) (hx : x < 256) : orI .u8 (c : Int) (x : Int) = ((c ||| x : Nat) : Int) := by
  have hlt : c ||| x < 2 ^ 8 := Nat.or_lt_two_pow (by omega) (by omega)
  simp only [orI, ofNat_bv, BitVec.toNat_or, BitVec.toNat_ofNat]
  show IntKind.u8.wrap ((c % 2 ^ 8 ||| x % 2 ^ 8 : Nat) : Int) = _
  rw [Nat.mod_eq_of_lt (by omega), Nat.mod_eq_of_lt (by omega)]
  exact wrap_u8 (by omega) (by omega)

/-- The bytes that bits are: the last one's rest is noughts. -/
structure PackR (bits : List Bool) (l : List Nat) : Prop where
  len : l.length = (bits.length + 7) / 8
  byte : Bytes l
  eq : bitsB l = bits ++ List.replicate (8 * l.length - bits.length) false
theorem PackR.nil : PackR [] [] := ⟨rfl, fun b h => by simp at h, rfl⟩

theorem bitsB_at {bs : List Nat} {i b : Nat} (h : bs[i / 8]? = some b) : (bitsB bs)[i]? = some (b.testBit (7 - i % 8)) := by
  rw [bitsB_get bs i b h, Nat.testBit_eq_decide_div_mod_eq]
theorem bits8_inj {a b : Nat} (ha : a < 256) (hb : b < 256) (h : bits8 a = bits8 b) : a = b := by
  apply Nat.eq_of_testBit_eq
  intro t
  by_cases ht : t < 8
  · have e := congrArg (fun l => l[7 - t]?) h
    simp only [bits8, List.getElem?_map, List.getElem?_range, show 7 - t < 8 by omega, Option.map_some, show 7 - (7 - t) = t by omega] at e
    rw [Nat.testBit_eq_decide_div_mod_eq, Nat.testBit_eq_decide_div_mod_eq]
    simpa using e
  · rw [Nat.testBit_lt_two_pow, Nat.testBit_lt_two_pow]
    · exact Nat.lt_of_lt_of_le hb (Nat.pow_le_pow_right (n := 2) (by omega) (show 8 ≤ t by omega))
    · exact Nat.lt_of_lt_of_le ha (Nat.pow_le_pow_right (n := 2) (by omega) (show 8 ≤ t by omega))
theorem bitsB_inj : ∀ {a b : List Nat}, Bytes a → Bytes b → bitsB a = bitsB b → a = b
  | [], [], _, _, _ => rfl
  | [], b :: r, _, _, h => by
    have := congrArg List.length h
    rw [bitsB_len, bitsB_len] at this
    simp at this
  | a :: r, [], _, _, h => by
    have := congrArg List.length h
    rw [bitsB_len, bitsB_len] at this
    simp at this
  | a :: r, b :: s, ha, hb, h => by
    simp only [bitsB, List.flatMap_cons] at h
    have h1 := List.append_inj h (by rw [bits8_len, bits8_len])
    rw [bits8_inj (ha a (by simp)) (hb b (by simp)) h1.1, bitsB_inj (fun x hx => ha x (by simp [hx])) (fun x hx => hb x (by simp [hx])) h1.2]
theorem PackR.uniq {bits : List Bool} {a b : List Nat} (ha : PackR bits a) (hb : PackR bits b) : a = b :=
  bitsB_inj ha.byte hb.byte (by rw [ha.eq, hb.eq, ha.len, hb.len])

/-- There is room for a bit more. -/
theorem PackR.room {bits : List Bool} {l : List Nat} (h : PackR bits l) (h8 : bits.length % 8 = 0) : (l ++ [0]).length = bits.length / 8 + 1 ∧ Bytes (l ++ [0]) ∧ bitsB (l ++ [0]) = bits ++ List.replicate (8 * (l ++ [0]).length - bits.length) false := by
  have hl := h.len
  refine ⟨by simp; omega, ?_, ?_⟩
  · intro b hb
    rcases List.mem_append.1 hb with hb | hb
    · exact h.byte b hb
    · simp at hb; omega
  · have e := h.eq
    rw [show 8 * l.length - bits.length = 0 by omega] at e
    simp only [List.replicate_zero, List.append_nil] at e
    have e0 : bitsB [0] = List.replicate 8 false := by decide
    have : bitsB (l ++ [0]) = bitsB l ++ bitsB [0] := by simp [bitsB]
    rw [this, e, e0]
    congr 2
    simp
    omega
theorem PackR.full {bits : List Bool} {l : List Nat} (h : PackR bits l) (h8 : bits.length % 8 ≠ 0) : l.length = bits.length / 8 + 1 ∧ Bytes l ∧ bitsB l = bits ++ List.replicate (8 * l.length - bits.length) false :=
  ⟨by have := h.len; omega, h.byte, h.eq⟩

theorem PackR.snoc {bits : List Bool} {l : List Nat} (h1 : l.length = bits.length / 8 + 1) (h2 : Bytes l) (h3 : bitsB l = bits ++ List.replicate (8 * l.length - bits.length) false) (b : Bool) {c : Nat} (hc : l[bits.length / 8]? = some c) :
    PackR (bits ++ [b]) (l.set (bits.length / 8) (c ||| b.toNat * 2 ^ (7 - bits.length % 8))) := by
  have hc256 := h2 c (List.mem_of_getElem? hc)
  have hx : b.toNat * 2 ^ (7 - bits.length % 8) < 2 ^ 8 := by
    have : 2 ^ (7 - bits.length % 8) ≤ 2 ^ 7 := Nat.pow_le_pow_right (by omega) (by omega)
    cases b
    · simp
    · simp only [Bool.toNat_true, Nat.one_mul]
      omega
  have hor : c ||| b.toNat * 2 ^ (7 - bits.length % 8) < 2 ^ 8 := Nat.or_lt_two_pow (by omega) hx
  refine ⟨by simp; omega, ?_, ?_⟩
  · intro x hx
    obtain ⟨j, hj⟩ := List.getElem?_of_mem hx
    rw [List.getElem?_set] at hj
    split at hj
    · split at hj
      · obtain rfl := Option.some.inj hj
        omega
      · simp at hj
    · exact h2 x (List.mem_of_getElem? hj)
  · apply List.ext_getElem?
    intro j
    have hj3 := congrArg (fun l => l[j]?) h3
    by_cases hjn : j < 8 * l.length
    · obtain ⟨x, hx⟩ : ∃ x, l[j / 8]? = some x := ⟨_, List.getElem?_eq_getElem (by omega)⟩
      have e1 : (bitsB (l.set (bits.length / 8) (c ||| b.toNat * 2 ^ (7 - bits.length % 8))))[j]? = some (x.testBit (7 - j % 8) || (b && decide (j = bits.length))) := by
        by_cases hji : bits.length / 8 = j / 8
        · have : (l.set (bits.length / 8) (c ||| b.toNat * 2 ^ (7 - bits.length % 8)))[j / 8]? = some (c ||| b.toNat * 2 ^ (7 - bits.length % 8)) := by
            rw [hji, List.getElem?_set_self (by omega)]
          rw [bitsB_at this]
          rw [hji, hx] at hc
          obtain rfl := Option.some.inj hc
          rw [Nat.testBit_or]
          congr 2
          cases b
          · simp
          · simp only [Bool.toNat_true, Nat.one_mul, Bool.true_and, Nat.testBit_two_pow]
            apply decide_eq_decide.2
            omega
        · have : (l.set (bits.length / 8) (c ||| b.toNat * 2 ^ (7 - bits.length % 8)))[j / 8]? = some x := by
            rw [List.getElem?_set_ne hji, hx]
          rw [bitsB_at this, decide_eq_false (show ¬ j = bits.length by intro h; rw [h] at hji; exact hji rfl)]
          simp
      rw [e1]
      rw [bitsB_at hx] at hj3
      simp only [List.length_set, List.append_assoc, List.singleton_append]
      rcases Nat.lt_trichotomy j bits.length with hlt | heq | hgt
      · rw [List.getElem?_append_left hlt] at hj3 ⊢
        rw [← hj3, decide_eq_false (by omega)]
        simp
      · rw [List.getElem?_append_right (by omega)] at hj3 ⊢
        have h0 : j - bits.length = 0 := by omega
        rw [h0] at hj3 ⊢
        rw [List.getElem?_replicate, if_pos (by omega)] at hj3
        simp only [List.getElem?_cons_zero]
        rw [Option.some.inj hj3, decide_eq_true heq]
        simp
      · rw [List.getElem?_append_right (by omega)] at hj3 ⊢
        obtain ⟨m, hm⟩ : ∃ m, j - bits.length = m + 1 := ⟨j - bits.length - 1, by omega⟩
        rw [hm] at hj3 ⊢
        rw [List.getElem?_replicate, if_pos (by omega)] at hj3
        rw [List.getElem?_cons_succ, List.getElem?_replicate, if_pos (by simp; omega), Option.some.inj hj3, decide_eq_false (by omega)]
        simp
    · rw [List.getElem?_eq_none_iff.2 (by rw [bitsB_len, List.length_set]; omega), List.getElem?_eq_none_iff.2 (by simp; omega)]
end Go.A

namespace Go.A
open Go
set_option linter.unusedSimpArgs false

def idxLp (k : Nat) (ld : Option Nat) : SCode :=
  .seq (.region [6, 18] [⟨(some 9), .bin .lss .no (.t 8) (.t 7), none⟩])
  (.seq (.cond (.t 9)
    (.skip)
    (.exit 0))
  (.seq (.block 1 (.seq (.region [9] [⟨(some 10), .mov (.t 8), none⟩,
      ⟨(some 5), .mov (.t 10), none⟩])
    (.seq (.region [10] [⟨(some 11), .mov (.t 1), none⟩,
      ⟨(some 12), .mov (.t 0), none⟩,
      ⟨(some 13), .mov (.t 5), none⟩,
      ⟨(some 14), .iaddr k none (.t 12) (.t 13), none⟩,
      ⟨(some 15), .load ld (.t 14), none⟩,
      ⟨(some 16), .callv (.t 11) [(.t 15)], none⟩])
    (.cond (.t 16)
      (.seq (.region [0, 1, 7, 8, 11, 12, 13, 14, 15, 16] [⟨(some 17), .mov (.t 5), none⟩,
        ⟨(some 4), .mov (.t 17), none⟩])
      (.ret))
      (.skip)))))
  (.region [5, 11, 12, 13, 14, 15, 16] [⟨(some 18), .bin .add .no (.t 8) (.k (.c (.int .i64 1))), none⟩,
    ⟨(some 8), .mov (.t 18), none⟩])))
def idxCode (k : Nat) (ld : Option Nat) : SCode :=
  .seq (.region [] [⟨(some 4), .mov (.k (.c (.int .i64 0))), none⟩])
  (.seq (.seq (.region [4] [⟨(some 6), .mov (.t 0), none⟩,
    ⟨(some 7), .len .sl (.t 6), none⟩,
    ⟨(some 8), .mov (.k (.c (.int .i64 0))), none⟩])
  (.block 0 (.loop (idxLp k ld))))
  (.seq (.region [0, 1, 7, 8, 9] [⟨(some 4), .mov (.k (.c (.int .i64 (-1)))), none⟩])
  (.ret)))
def idxFun (k : Nat) (ld : Option Nat) : SFun := ⟨idxCode k ld, 19, [.tmp 4]⟩
def cntFun (f : FuncId) : SFun := ⟨.seq (.region [] [⟨(some 4), .mov (.k (.c (.bool false))), none⟩])
  (.seq (.region [4] [⟨(some 5), .mov (.t 0), none⟩,
    ⟨(some 6), .mov (.t 1), none⟩,
    ⟨(some 7), .call f [(.t 5), (.t 6)], none⟩,
    ⟨(some 8), .bin .geq .no (.t 7) (.k (.c (.int .i64 0))), none⟩,
    ⟨(some 4), .mov (.t 8), none⟩])
  (.ret)), 9, [.tmp 4]⟩

/-- A slice's elements are plain: no box, no box's address. -/
def Plains (ld : Option Nat) (l : List (List AV)) : Prop := ∀ cs ∈ l, (elemV ld cs).free = true ∧ (elemV ld cs).isBox = false

section
variable {T : FuncId → Option SFun} {X : Oracle} {k : Nat} {ld : Option Nat}

theorem idx_loop (hl : ld = some k ∨ (ld = none ∧ k = 1)) {H : Heap} {va : AV} {la : List (List AV)} (ha : Sl H k va la) (hpl : Plains ld la) (hm : la.length ≤ 1000000000) {f : FuncId} {cs : List AV} {p : List AV → Bool}
    (hf : ∀ N, ∀ a ∈ la, ∃ N', callW T X f (elemV ld a :: cs) (H ++ N) = some (ab (p a), H ++ N')) :
    ∀ (n : Nat) (σ : List AV) (H1 : Heap), (n ≤ la.length ∧ (∀ (j : Nat) a, j < la.length - n → la[j]? = some a → p a = false) ∧ (∃ N, H1 = H ++ N) ∧ kill (headK (idxLp k ld)) σ = L 19 ((((((Tr.full 5).put (path 0) va).put (path 1) (.fn f cs)).put (path 7) (ai la.length)).put (path 8) (ai ((la.length : Int) - n))))) →
      Ends (execW T X (.loop (idxLp k ld)) σ H1) fun s => (∃ N, s.H = H ++ N) ∧ IsL 19 s.σ ∧ ((s.e = .exit 0 ∧ la.any p = false) ∨ (s.e = .ret ∧ la.any p = true ∧ resultsA [.tmp 4] s.σ = some (ai (la.findIdx p)))) := by
  intro n σ H1 hI
  have := loop_rule (T := T) (X := X) (b := idxLp k ld) (fun n σ H1 => n ≤ la.length ∧ (∀ (j : Nat) a, j < la.length - n → la[j]? = some a → p a = false) ∧ (∃ N, H1 = H ++ N) ∧ σ = L 19 ((((((Tr.full 5).put (path 0) va).put (path 1) (.fn f cs)).put (path 7) (ai la.length)).put (path 8) (ai ((la.length : Int) - n)))))
    (fun e σ H1 => (∃ N, H1 = H ++ N) ∧ IsL 19 σ ∧ ((e = .exit 0 ∧ la.any p = false) ∨ (e = .ret ∧ la.any p = true ∧ resultsA [.tmp 4] σ = some (ai (la.findIdx p))))) ?_ n σ H1 hI
  · exact this.mono fun s hs => hs.2
  · clear hI σ n H1
    rintro n σ M ⟨hn, hj, ⟨N, hM⟩, rfl⟩
    by_cases hz : n = 0
    · subst hz
      simp -implicitDefEqProofs [idxLp, ha.ev]
      refine ⟨⟨N, hM⟩, ?_⟩
      intro a hm2
      obtain ⟨j, hj2⟩ := List.getElem?_of_mem hm2
      exact hj j a (by have := (List.getElem?_eq_some_iff.1 hj2).1; omega) hj2
    · obtain ⟨a, hx⟩ : ∃ x, la[la.length - n]? = some x := ⟨_, List.getElem?_eq_getElem (by omega)⟩
      have ha1 : Sl M k va la := hM ▸ ha.grow
      obtain ⟨r, o, g, p1, p2⟩ := ha1.at (cs := a) (i := la.length - n) hx
      have q1 := p1 ((la.length : Int) - n) (by omega)
      have q2 := load_elem p2 ld hl
      have ham := List.mem_of_getElem? hx
      obtain ⟨e1, e2⟩ := hpl a ham
      have e3 := ev1_nb e2
      obtain ⟨N', hc⟩ := hf N a ham
      rw [← hM] at hc
      cases hp : p a with
      | true =>
        rw [hp] at hc
        have hfi : la.findIdx p = la.length - n := by
          rw [List.findIdx_eq (by omega)]
          have h1 := (List.getElem?_eq_some_iff.1 hx).2
          refine ⟨by rw [h1, hp], fun j hj2 => ?_⟩
          exact hj j _ hj2 (List.getElem?_eq_getElem (by omega))
        have hfi' : ((la.findIdx p : Nat) : Int) = (la.length : Int) - n := by omega
        simp -implicitDefEqProofs [idxLp, ha.ev, ha.nb, q1, q2, e1, e2, e3, show (la.length : Int) - n < la.length by omega, hc]
        exact ⟨⟨a, ham, hp⟩, hfi'.symm⟩
      | false =>
        rw [hp] at hc
        have hw : IntKind.i64.wrap ((la.length : Int) - n + 1) = (la.length : Int) - (n - 1 : Nat) := by rw [wrap_i64 (by omega) (by omega)]; omega
        simp -implicitDefEqProofs [idxLp, ha.ev, ha.nb, q1, q2, e1, e2, e3, show (la.length : Int) - n < la.length by omega, hc, hw]
        refine ⟨n - 1, by omega, by omega, ?_, rfl⟩
        intro j b h hb
        by_cases hjn : j = la.length - n
        · subst hjn; rw [hx] at hb; obtain rfl := Option.some.inj hb; exact hp
        · exact hj j b (by omega) hb

theorem idx_call {f0 : FuncId} (hT : T f0 = some (idxFun k ld)) (hX : ∀ args H, X f0 args H = none) (hl : ld = some k ∨ (ld = none ∧ k = 1)) {H : Heap} {va : AV} {la : List (List AV)} (ha : Sl H k va la) (hpl : Plains ld la) (hm : la.length ≤ 1000000000) {f : FuncId} {cs : List AV} {p : List AV → Bool}
    (hf : ∀ N, ∀ a ∈ la, ∃ N', callW T X f (elemV ld a :: cs) (H ++ N) = some (ab (p a), H ++ N')) :
    ∃ N, callW T X f0 [va, .fn f cs] H = some (ai (if la.any p = true then (la.findIdx p : Int) else -1), H ++ N) := by
  have e1 : lenS va = some la.length := ha.len
  suffices h : Ends (callW T X f0 [va, .fn f cs] H) fun y => y.1 = ai (if la.any p = true then (la.findIdx p : Int) else -1) ∧ ∃ N, y.2 = H ++ N by
    obtain ⟨⟨v, G⟩, h1, h2, N, h3⟩ := h
    simp only at h2 h3; subst h2; subst h3
    exact ⟨N, h1⟩
  refine call_rule (hX _ _) hT ?_
  rw [idxFun, slots0_L 5 19 _ (by simp)]
  simp -implicitDefEqProofs [idxCode, ha.ev, e1]
  refine ((idx_loop hl ha hpl hm hf la.length _ H ⟨Nat.le_refl _, by intro j a hj; omega, ⟨[], by simp⟩, ?_⟩).map (R := fun s => (∃ N, s.H = H ++ N) ∧ IsL 19 s.σ ∧ ((s.e = .normal ∧ la.any p = false) ∨ (s.e = .ret ∧ la.any p = true ∧ resultsA [.tmp 4] s.σ = some (ai (la.findIdx p))))) ?_).bind ?_
  · simp -implicitDefEqProofs [idxLp]
  · rintro ⟨e, σ, G⟩ ⟨h1, ht, h2⟩
    rcases h2 with ⟨h2, h3⟩ | ⟨h2, h3, h5⟩ <;> simp only at h1 h2 ht <;> subst h2
    · exact ⟨h1, ht, .inl ⟨by simp [unblock], h3⟩⟩
    · exact ⟨h1, ht, .inr ⟨by simp [unblock], h3, by simpa using h5⟩⟩
  · rintro ⟨e, σ, G⟩ ⟨⟨N, h1⟩, ⟨t, ht⟩, h2⟩
    rcases h2 with ⟨h2, h3⟩ | ⟨h2, h3, h5⟩ <;> simp only at h1 h2 ht <;> subst h1 <;> subst h2 <;> subst ht
    · simp -implicitDefEqProofs [h3]
      intro x hx
      have := List.any_eq_false.1 h3 x hx
      simpa using this
    · simp at h5
      simp -implicitDefEqProofs [h5, h3]
      exact List.any_eq_true.1 h3

theorem cnt_call {f0 f1 : FuncId} (hT1 : T f1 = some (cntFun f0)) (hX1 : ∀ args H, X f1 args H = none) (hT : T f0 = some (idxFun k ld)) (hX : ∀ args H, X f0 args H = none) (hl : ld = some k ∨ (ld = none ∧ k = 1)) {H : Heap} {va : AV} {la : List (List AV)} (ha : Sl H k va la) (hpl : Plains ld la) (hm : la.length ≤ 1000000000) {f : FuncId} {cs : List AV} (hcs : AV.freeAll cs = true) {p : List AV → Bool}
    (hf : ∀ N, ∀ a ∈ la, ∃ N', callW T X f (elemV ld a :: cs) (H ++ N) = some (ab (p a), H ++ N')) :
    ∃ N, callW T X f1 [va, .fn f cs] H = some (ab (la.any p), H ++ N) := by
  obtain ⟨N, h1⟩ := idx_call hT hX hl ha hpl hm hf
  refine ⟨N, ?_⟩
  rw [callW_eq, hX1]
  simp only [hT1, Option.bind_some, cntFun]
  rw [slots0_L 4 9 _ (by simp)]
  cases h : la.any p with
  | true =>
    rw [if_pos h] at h1
    have h0 : (0 : Int) ≤ (la.findIdx p : Nat) := by omega
    simp -implicitDefEqProofs [ha.ev, ha.free, hcs, h1, h0]
  | false =>
    rw [if_neg (by simp [h])] at h1
    simp -implicitDefEqProofs [ha.ev, ha.free, hcs, h1]
end
end Go.A
