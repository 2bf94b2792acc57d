/- THE ABSTRACT MACHINE: bytes and bits. -/
import Derived.Test.YtnmobjhmohcjfaaAW
set_option linter.unusedSimpArgs false
set_option linter.unusedVariables false
set_option linter.unnecessarySimpa false
namespace Go.A
open Go
set_option linter.unusedSimpArgs false
set_option linter.unusedVariables false

abbrev au (b : Nat) : AV := .c (.int .u8 (b : Int))
def byteCs (bs : List Nat) : List (List AV) := bs.map fun (b : Nat) => [au b]
def Bytes (bs : List Nat) : Prop := ∀ b ∈ bs, b < 256

/-! Bits, the greatest first. -/
def bits8 (b : Nat) : List Bool := (List.range 8).map fun j => decide (b / 2 ^ (7 - j) % 2 = 1)
def bitsB (bs : List Nat) : List Bool := bs.flatMap bits8
end Go.A

namespace Go.A
open Go
set_option linter.unusedSimpArgs false
set_option linter.unusedVariables false

end Go.A

namespace Go.A
open Go
set_option linter.unusedSimpArgs false
set_option linter.unusedVariables false

theorem opA_box (C : Oracle) (d : Option Nat) (σ : List AV) (H : Heap) (k : Nat) (x : SX) : opA C d (.box k x) σ H = if (toCells (evalX σ x)).length = k ∧ (toCells (evalX σ x)).all okCell = true then some (.ptr H.length 0 k, σ, H ++ [.row (toCells (evalX σ x))]) else none := rfl
def mn (x y : Int) : Int := if y < x then y else x
def min2V : AV → AV → Option AV
  | .c (.int k x), y => minA (.c (.int k x)) y
  | _, _ => none
theorem min2V_i (a b : Int) : min2V (ai a) (ai b) = some (ai (mn a b)) := rfl
def extV (i : Nat) : AV → Option AV
  | .tup xs => xs[i]?
  | _ => none
theorem extV_0 (a : AV) (r : List AV) : extV 0 (.tup (a :: r)) = some a := rfl
theorem extV_1 (a b : AV) (r : List AV) : extV 1 (.tup (a :: b :: r)) = some b := rfl
theorem extV_2 (a b c : AV) (r : List AV) : extV 2 (.tup (a :: b :: c :: r)) = some c := rfl
attribute [simp] opA_box min2V_i extV_0 extV_1 extV_2
end Go.A

namespace Go.A
open Go
set_option linter.unusedSimpArgs false
set_option linter.unusedVariables false

section
variable {T : FuncId → Option SFun} {X : Oracle}
end
end Go.A

namespace Go.A
open Go
set_option linter.unusedSimpArgs false
set_option linter.unusedVariables false

end Go.A

namespace Go.A
open Go
set_option linter.unusedSimpArgs false
set_option linter.unusedVariables false

theorem Ends.block {β : Type} {f : Option St} {g : St → St} {K : St → Option β} {P : AExit → List AV → Heap → Prop} {R : β → Prop} (h : Ends f fun s => P s.e s.σ s.H)
    (hK : ∀ e σ H, P e σ H → Ends (K (g ⟨e, σ, H⟩)) R) : Ends ((f.map g).bind K) R := by
  obtain ⟨⟨e, σ, H⟩, rfl, q⟩ := h
  exact hK e σ H q
end Go.A

namespace Go.A
open Go
set_option linter.unusedSimpArgs false
set_option linter.unusedVariables false

end Go.A

namespace Go.A
open Go
set_option linter.unusedSimpArgs false
set_option linter.unusedVariables false

theorem toList_loop (l : List UInt8) : ∀ (k i : Nat) (r : List UInt8), l.length - i = k → ByteArray.toList.loop ⟨l.toArray⟩ i r = r.reverse ++ l.drop i
  | 0, i, r, h => by
    unfold ByteArray.toList.loop
    have hs : (⟨l.toArray⟩ : ByteArray).size = l.length := by simp [ByteArray.size]
    rw [if_neg (by rw [hs]; omega), List.drop_eq_nil_of_le (by omega)]
    simp
  | k + 1, i, r, h => by
    unfold ByteArray.toList.loop
    have hs : (⟨l.toArray⟩ : ByteArray).size = l.length := by simp [ByteArray.size]
    rw [if_pos (by rw [hs]; omega), toList_loop l k (i + 1) _ (by omega)]
    have hg : (⟨l.toArray⟩ : ByteArray).get! i = l[i]'(by omega) := by
      simp [ByteArray.get!, show i < l.length by omega]
    rw [hg, List.reverse_cons, List.append_assoc, List.drop_eq_getElem_cons (show i < l.length by omega)]
    rfl
theorem toList_mk (l : List UInt8) : (⟨l.toArray⟩ : ByteArray).toList = l := by
  rw [ByteArray.toList, toList_loop l _ 0 [] rfl]
  simp

def strB (bs : List Nat) : ByteArray := ⟨(bs.map UInt8.ofNat).toArray⟩
theorem map_ofNat_inj : ∀ {a b : List Nat}, Bytes a → Bytes b → a.map UInt8.ofNat = b.map UInt8.ofNat → a = b
  | [], [], _, _, _ => rfl
  | [], b :: r, _, _, h => by simp at h
  | a :: r, [], _, _, h => by simp at h
  | a :: r, b :: s, ha, hb, h => by
    simp only [List.map_cons, List.cons.injEq] at h
    have h1 : a = b := by
      have e := congrArg UInt8.toNat h.1
      have ha1 := ha a (by simp)
      have hb1 := hb b (by simp)
      simp only [UInt8.toNat_ofNat'] at e
      omega
    rw [h1, map_ofNat_inj (fun x hx => ha x (by simp [hx])) (fun x hx => hb x (by simp [hx])) h.2]
theorem strB_eq {a b : List Nat} (ha : Bytes a) (hb : Bytes b) : ((strB a).toList == (strB b).toList) = decide (a = b) := by
  rw [strB, strB, toList_mk, toList_mk]
  by_cases h : a = b
  · subst h; simp
  · have : a.map UInt8.ofNat ≠ b.map UInt8.ofNat := fun e => h (map_ofNat_inj ha hb e)
    simp [h, this]
theorem binA_strEq (ek : EqK) {a b : List Nat} (ha : Bytes a) (hb : Bytes b) : binA .eql ek (.c (.string (strB a))) (.c (.string (strB b))) = some (ab (decide (a = b))) := by
  simp only [binA, strBin]
  rw [strB_eq ha hb]
theorem bytesOf_au : ∀ bs : List Nat, bytesOf (bs.map fun b => au b) = some (bs.map UInt8.ofNat)
  | [] => rfl
  | b :: r => by
    simp only [List.map_cons, bytesOf, bytesOf_au r, Option.map_some]
    rfl
theorem byteCs_flat : ∀ bs : List Nat, (byteCs bs).flatten = bs.map fun b => au b
  | [] => rfl
  | b :: r => by
    have := byteCs_flat r
    simp only [byteCs] at this
    simp only [byteCs, List.map_cons, List.flatten_cons, this]
    rfl
end Go.A

namespace Go.A
open Go
set_option linter.unusedSimpArgs false
set_option linter.unusedVariables false

end Go.A

namespace Go.A
open Go
set_option linter.unusedSimpArgs false
set_option linter.unusedVariables false

end Go.A

namespace Go.A
open Go
set_option linter.unusedSimpArgs false

def idxLp (k : Nat) (ld : Option Nat) : SCode :=
  .seq (.region [6, 18] [⟨(some 9), .bin .lss .no (.t 8) (.t 7), none⟩])
  (.seq (.cond (.t 9)
    (.skip)
    (.exit 0))
  (.seq (.block 1 (.seq (.region [9] [⟨(some 10), .mov (.t 8), none⟩,
      ⟨(some 5), .mov (.t 10), none⟩])
    (.seq (.region [10] [⟨(some 11), .mov (.t 1), none⟩,
      ⟨(some 12), .mov (.t 0), none⟩,
      ⟨(some 13), .mov (.t 5), none⟩,
      ⟨(some 14), .iaddr k none (.t 12) (.t 13), none⟩,
      ⟨(some 15), .load ld (.t 14), none⟩,
      ⟨(some 16), .callv (.t 11) [(.t 15)], none⟩])
    (.cond (.t 16)
      (.seq (.region [0, 1, 7, 8, 11, 12, 13, 14, 15, 16] [⟨(some 17), .mov (.t 5), none⟩,
        ⟨(some 4), .mov (.t 17), none⟩])
      (.ret))
      (.skip)))))
  (.region [5, 11, 12, 13, 14, 15, 16] [⟨(some 18), .bin .add .no (.t 8) (.k (.c (.int .i64 1))), none⟩,
    ⟨(some 8), .mov (.t 18), none⟩])))
def idxCode (k : Nat) (ld : Option Nat) : SCode :=
  .seq (.region [] [⟨(some 4), .mov (.k (.c (.int .i64 0))), none⟩])
  (.seq (.seq (.region [4] [⟨(some 6), .mov (.t 0), none⟩,
    ⟨(some 7), .len .sl (.t 6), none⟩,
    ⟨(some 8), .mov (.k (.c (.int .i64 0))), none⟩])
  (.block 0 (.loop (idxLp k ld))))
  (.seq (.region [0, 1, 7, 8, 9] [⟨(some 4), .mov (.k (.c (.int .i64 (-1)))), none⟩])
  (.ret)))
def idxFun (k : Nat) (ld : Option Nat) : SFun := ⟨idxCode k ld, 19, [.tmp 4]⟩
def cntFun (f : FuncId) : SFun := ⟨.seq (.region [] [⟨(some 4), .mov (.k (.c (.bool false))), none⟩])
  (.seq (.region [4] [⟨(some 5), .mov (.t 0), none⟩,
    ⟨(some 6), .mov (.t 1), none⟩,
    ⟨(some 7), .call f [(.t 5), (.t 6)], none⟩,
    ⟨(some 8), .bin .geq .no (.t 7) (.k (.c (.int .i64 0))), none⟩,
    ⟨(some 4), .mov (.t 8), none⟩])
  (.ret)), 9, [.tmp 4]⟩

section
variable {T : FuncId → Option SFun} {X : Oracle} {k : Nat} {ld : Option Nat}

end
end Go.A
