/- THE ABSTRACT MACHINE: bytes and bits. -/
import Derived.Test.YtnmobjhmohcjfaaAW
set_option linter.unusedSimpArgs false
set_option linter.unusedVariables false
set_option linter.unnecessarySimpa false
namespace Go.A
open Go
def orI (k : IntKind) (a b : Int) : Int := k.wrap (BitVec.ofInt k.bits a ||| BitVec.ofInt k.bits b).toNat
def andI (k : IntKind) (a b : Int) : Int := k.wrap (BitVec.ofInt k.bits a &&& BitVec.ofInt k.bits b).toNat
theorem binA_orI (ek : EqK) (k : IntKind) (a b : Int) : binA .or ek (.c (.int k a)) (.c (.int k b)) = some (.c (.int k (orI k a b))) := by simp [binA,intBin,orI]
theorem binA_andI (ek : EqK) (k : IntKind) (a b : Int) : binA .and ek (.c (.int k a)) (.c (.int k b)) = some (.c (.int k (andI k a b))) := by simp [binA,intBin,andI]
theorem ofNat_bv (n : Nat) (a : Nat) : BitVec.ofInt n (a : Int) = BitVec.ofNat n a := by simp
theorem andI_u64 {a : Nat} (ha : a < 18446744073709551616) : andI .u64 (a : Int) 1 = ((a % 2 : Nat) : Int) := by
 have h1 : (BitVec.ofNat 64 a &&& BitVec.ofNat 64 1).toNat = a % 2 := by
  rw [BitVec.toNat_and,BitVec.toNat_ofNat,BitVec.toNat_ofNat,Nat.mod_eq_of_lt (by omega)]
  exact Nat.and_one_is_mod a
 have h2 : BitVec.ofInt 64 1 = BitVec.ofNat 64 1 := rfl
 unfold andI
 change IntKind.u64.wrap ((BitVec.ofInt 64 (a : Int) &&& BitVec.ofInt 64 1).toNat : Int) = _
 rw [ofNat_bv,h2,h1]
 exact wrap_u64 (n := ((a % 2 : Nat) : Int)) (by omega) (by omega)
abbrev au (b : Nat) : AV := .c (.int .u8 (b : Int))
def byteCs (bs : List Nat) : List (List AV) := bs.map fun (b : Nat) => [au b]
def Bytes (bs : List Nat) : Prop := ∀ b ∈ bs,b < 256
def bits8 (b : Nat) : List Bool := (List.range 8).map fun j => decide (b / 2 ^ (7 - j) % 2 = 1)
def bitsB (bs : List Nat) : List Bool := bs.flatMap bits8
def num (l : List Bool) : Nat := l.foldl (fun v b => 2 * v + b.toNat) 0
theorem num_snoc (l : List Bool) (b : Bool) : num (l ++ [b]) = 2 * num l + b.toNat := by simp [num]
theorem bits8_len (b : Nat) : (bits8 b).length = 8 := by simp [bits8]
theorem bitsB_len : ∀ bs : List Nat,(bitsB bs).length = 8 * bs.length
 | [] => rfl
 | b :: r => by
  have := bitsB_len r
  simp only [bitsB,List.flatMap_cons,List.length_append,bits8_len,List.length_cons] at this ⊢
  omega
theorem bitsB_get : ∀ (bs : List Nat) (i b : Nat),bs[i / 8]? = some b → (bitsB bs)[i]? = some (decide (b / 2 ^ (7 - i % 8) % 2 = 1))
 | [],i,b,h => by simp at h
 | x :: r,i,b,h => by
  simp only [bitsB,List.flatMap_cons]
  by_cases hi : i < 8
  ·rw [show i / 8 = 0 by omega] at h
   simp at h
   subst h
   rw [List.getElem?_append_left (by rw [bits8_len]; exact hi)]
   simp [bits8,hi,Nat.mod_eq_of_lt hi]
  ·rw [show i / 8 = (i - 8) / 8 + 1 by omega] at h
   simp only [List.getElem?_cons_succ] at h
   have := bitsB_get r (i - 8) b h
   rw [List.getElem?_append_right (by rw [bits8_len]; omega),bits8_len]
   rw [show i % 8 = (i - 8) % 8 by omega]
   exact this
end Go.A

namespace Go.A
open Go
end Go.A

namespace Go.A
open Go
def mn (x y : Int) : Int := if y < x then y else x
def min2V : AV → AV → Option AV
 | .c (.int k x),y => minA (.c (.int k x)) y
 | _,_ => none
theorem min2V_i (a b : Int) : min2V (ai a) (ai b) = some (ai (mn a b)) := rfl
def extV (i : Nat) : AV → Option AV
 | .tup xs => xs[i]?
 | _ => none
theorem extV_0 (a : AV) (r : List AV) : extV 0 (.tup (a :: r)) = some a := rfl
theorem extV_1 (a b : AV) (r : List AV) : extV 1 (.tup (a :: b :: r)) = some b := rfl
theorem extV_2 (a b c : AV) (r : List AV) : extV 2 (.tup (a :: b :: c :: r)) = some c := rfl
attribute [simp] min2V_i extV_0 extV_1 extV_2
end Go.A

namespace Go.A
open Go
section
variable {T : FuncId → Option SFun} {X : Oracle}
end
end Go.A

namespace Go.A
open Go
end Go.A

namespace Go.A
open Go
theorem Ends.block {β : Type} {f : Option St} {g : St → St} {K : St → Option β} {P : AExit → List AV → Heap → Prop} {R : β → Prop} (h : Ends f fun s => P s.e s.σ s.H)
  (hK : ∀ e σ H,P e σ H → Ends (K (g ⟨e,σ,H⟩)) R) : Ends ((f.map g).bind K) R := by
 obtain ⟨⟨e,σ,H⟩,rfl,q⟩ := h
 exact hK e σ H q
end Go.A

namespace Go.A
open Go
end Go.A

namespace Go.A
open Go
theorem toList_loop (l : List UInt8) : ∀ (k i : Nat) (r : List UInt8),l.length - i = k → ByteArray.toList.loop ⟨l.toArray⟩ i r = r.reverse ++ l.drop i
 | 0,i,r,h => by
  unfold ByteArray.toList.loop
  have hs : (⟨l.toArray⟩ : ByteArray).size = l.length := by simp [ByteArray.size]
  rw [if_neg (by rw [hs]; omega),List.drop_eq_nil_of_le (by omega)]
  simp
 | k + 1,i,r,h => by
  unfold ByteArray.toList.loop
  have hs : (⟨l.toArray⟩ : ByteArray).size = l.length := by simp [ByteArray.size]
  rw [if_pos (by rw [hs]; omega),toList_loop l k (i + 1) _ (by omega)]
  have hg : (⟨l.toArray⟩ : ByteArray).get! i = l[i]'(by omega) := by
   simp [ByteArray.get!,show i < l.length by omega]
  rw [hg,List.reverse_cons,List.append_assoc,List.drop_eq_getElem_cons (show i < l.length by omega)]
  rfl
theorem toList_mk (l : List UInt8) : (⟨l.toArray⟩ : ByteArray).toList = l := by
 rw [ByteArray.toList,toList_loop l _ 0 [] rfl]
 simp
def strB (bs : List Nat) : ByteArray := ⟨(bs.map UInt8.ofNat).toArray⟩
theorem map_ofNat_inj : ∀ {a b : List Nat},Bytes a → Bytes b → a.map UInt8.ofNat = b.map UInt8.ofNat → a = b
 | [],[],_,_,_ => rfl
 | [],b :: r,_,_,h => by simp at h
 | a :: r,[],_,_,h => by simp at h
 | a :: r,b :: s,ha,hb,h => by
  simp only [List.map_cons,List.cons.injEq] at h
  have h1 : a = b := by
   have e := congrArg UInt8.toNat h.1
   have ha1 := ha a (by simp)
   have hb1 := hb b (by simp)
   simp only [UInt8.toNat_ofNat'] at e
   omega
  rw [h1,map_ofNat_inj (fun x hx => ha x (by simp [hx])) (fun x hx => hb x (by simp [hx])) h.2]
theorem strB_eq {a b : List Nat} (ha : Bytes a) (hb : Bytes b) : ((strB a).toList == (strB b).toList) = decide (a = b) := by
 rw [strB,strB,toList_mk,toList_mk]
 by_cases h : a = b
 ·subst h; simp
 ·have : a.map UInt8.ofNat ≠ b.map UInt8.ofNat := fun e => h (map_ofNat_inj ha hb e)
  simp [h,this]
theorem binA_strEq (ek : EqK) {a b : List Nat} (ha : Bytes a) (hb : Bytes b) : binA .eql ek (.c (.string (strB a))) (.c (.string (strB b))) = some (ab (decide (a = b))) := by
 simp only [binA,strBin]
 rw [strB_eq ha hb]
theorem bytesOf_au : ∀ bs : List Nat,bytesOf (bs.map fun b => au b) = some (bs.map UInt8.ofNat)
 | [] => rfl
 | b :: r => by
  simp only [List.map_cons,bytesOf,bytesOf_au r,Option.map_some]
  rfl
theorem byteCs_flat : ∀ bs : List Nat,(byteCs bs).flatten = bs.map fun b => au b
 | [] => rfl
 | b :: r => by
  have := byteCs_flat r
  simp only [byteCs] at this
  simp only [byteCs,List.map_cons,List.flatten_cons,this]
  rfl
end Go.A

namespace Go.A
open Go
end Go.A

namespace Go.A
open Go
theorem orI_u8 {c x : Nat} (hc : c < 256) (hx : x < 256) : orI .u8 (c : Int) (x : Int) = ((c ||| x : Nat) : Int) := by
 have hlt : c ||| x < 2 ^ 8 := Nat.or_lt_two_pow (by omega) (by omega)
 simp only [orI,ofNat_bv,BitVec.toNat_or,BitVec.toNat_ofNat]
 show IntKind.u8.wrap ((c % 2 ^ 8 ||| x % 2 ^ 8 : Nat) : Int) = _
 rw [Nat.mod_eq_of_lt (by omega),Nat.mod_eq_of_lt (by omega)]
 exact wrap_u8 (by omega) (by omega)
structure PackR (bits : List Bool) (l : List Nat) : Prop where
 len : l.length = (bits.length + 7) / 8
 byte : Bytes l
 eq : bitsB l = bits ++ List.replicate (8 * l.length - bits.length) false
theorem PackR.nil : PackR [] [] := ⟨rfl,fun b h => by simp at h,rfl⟩
theorem bitsB_at {bs : List Nat} {i b : Nat} (h : bs[i / 8]? = some b) : (bitsB bs)[i]? = some (b.testBit (7 - i % 8)) := by
 rw [bitsB_get bs i b h,Nat.testBit_eq_decide_div_mod_eq]
theorem bits8_inj {a b : Nat} (ha : a < 256) (hb : b < 256) (h : bits8 a = bits8 b) : a = b := by
 apply Nat.eq_of_testBit_eq
 intro t
 by_cases ht : t < 8
 ·have e := congrArg (fun l => l[7 - t]?) h
  simp only [bits8,List.getElem?_map,List.getElem?_range,show 7 - t < 8 by omega,Option.map_some,show 7 - (7 - t) = t by omega] at e
  rw [Nat.testBit_eq_decide_div_mod_eq,Nat.testBit_eq_decide_div_mod_eq]
  simpa using e
 ·rw [Nat.testBit_lt_two_pow,Nat.testBit_lt_two_pow]
  ·exact Nat.lt_of_lt_of_le hb (Nat.pow_le_pow_right (n := 2) (by omega) (show 8 ≤ t by omega))
  ·exact Nat.lt_of_lt_of_le ha (Nat.pow_le_pow_right (n := 2) (by omega) (show 8 ≤ t by omega))
theorem bitsB_inj : ∀ {a b : List Nat},Bytes a → Bytes b → bitsB a = bitsB b → a = b
 | [],[],_,_,_ => rfl
 | [],b :: r,_,_,h => by
  have := congrArg List.length h
  rw [bitsB_len,bitsB_len] at this
  simp at this
 | a :: r,[],_,_,h => by
  have := congrArg List.length h
  rw [bitsB_len,bitsB_len] at this
  simp at this
 | a :: r,b :: s,ha,hb,h => by
  simp only [bitsB,List.flatMap_cons] at h
  have h1 := List.append_inj h (by rw [bits8_len,bits8_len])
  rw [bits8_inj (ha a (by simp)) (hb b (by simp)) h1.1,bitsB_inj (fun x hx => ha x (by simp [hx])) (fun x hx => hb x (by simp [hx])) h1.2]
theorem PackR.uniq {bits : List Bool} {a b : List Nat} (ha : PackR bits a) (hb : PackR bits b) : a = b :=
 bitsB_inj ha.byte hb.byte (by rw [ha.eq,hb.eq,ha.len,hb.len])
theorem PackR.room {bits : List Bool} {l : List Nat} (h : PackR bits l) (h8 : bits.length % 8 = 0) : (l ++ [0]).length = bits.length / 8 + 1 ∧ Bytes (l ++ [0]) ∧ bitsB (l ++ [0]) = bits ++ List.replicate (8 * (l ++ [0]).length - bits.length) false := by
 have hl := h.len
 refine ⟨by simp; omega,?_,?_⟩
 ·intro b hb
  rcases List.mem_append.1 hb with hb | hb
  ·exact h.byte b hb
  ·simp at hb; omega
 ·have e := h.eq
  rw [show 8 * l.length - bits.length = 0 by omega] at e
  simp only [List.replicate_zero,List.append_nil] at e
  have e0 : bitsB [0] = List.replicate 8 false := by decide
  have : bitsB (l ++ [0]) = bitsB l ++ bitsB [0] := by simp [bitsB]
  rw [this,e,e0]
  congr 2
  simp
  omega
theorem PackR.full {bits : List Bool} {l : List Nat} (h : PackR bits l) (h8 : bits.length % 8 ≠ 0) : l.length = bits.length / 8 + 1 ∧ Bytes l ∧ bitsB l = bits ++ List.replicate (8 * l.length - bits.length) false :=
 ⟨by have := h.len; omega,h.byte,h.eq⟩
theorem PackR.snoc {bits : List Bool} {l : List Nat} (h1 : l.length = bits.length / 8 + 1) (h2 : Bytes l) (h3 : bitsB l = bits ++ List.replicate (8 * l.length - bits.length) false) (b : Bool) {c : Nat} (hc : l[bits.length / 8]? = some c) :
  PackR (bits ++ [b]) (l.set (bits.length / 8) (c ||| b.toNat * 2 ^ (7 - bits.length % 8))) := by
 have hc256 := h2 c (List.mem_of_getElem? hc)
 have hx : b.toNat * 2 ^ (7 - bits.length % 8) < 2 ^ 8 := by
  have : 2 ^ (7 - bits.length % 8) ≤ 2 ^ 7 := Nat.pow_le_pow_right (by omega) (by omega)
  cases b
  ·simp
  ·simp only [Bool.toNat_true,Nat.one_mul]
   omega
 have hor : c ||| b.toNat * 2 ^ (7 - bits.length % 8) < 2 ^ 8 := Nat.or_lt_two_pow (by omega) hx
 refine ⟨by simp; omega,?_,?_⟩
 ·intro x hx
  obtain ⟨j,hj⟩ := List.getElem?_of_mem hx
  rw [List.getElem?_set] at hj
  split at hj
  ·split at hj
   ·obtain rfl := Option.some.inj hj
    omega
   ·simp at hj
  ·exact h2 x (List.mem_of_getElem? hj)
 ·apply List.ext_getElem?
  intro j
  have hj3 := congrArg (fun l => l[j]?) h3
  by_cases hjn : j < 8 * l.length
  ·obtain ⟨x,hx⟩ : ∃ x,l[j / 8]? = some x := ⟨_,List.getElem?_eq_getElem (by omega)⟩
   have e1 : (bitsB (l.set (bits.length / 8) (c ||| b.toNat * 2 ^ (7 - bits.length % 8))))[j]? = some (x.testBit (7 - j % 8) || (b && decide (j = bits.length))) := by
    by_cases hji : bits.length / 8 = j / 8
    ·have : (l.set (bits.length / 8) (c ||| b.toNat * 2 ^ (7 - bits.length % 8)))[j / 8]? = some (c ||| b.toNat * 2 ^ (7 - bits.length % 8)) := by
      rw [hji,List.getElem?_set_self (by omega)]
     rw [bitsB_at this]
     rw [hji,hx] at hc
     obtain rfl := Option.some.inj hc
     rw [Nat.testBit_or]
     congr 2
     cases b
     ·simp
     ·simp only [Bool.toNat_true,Nat.one_mul,Bool.true_and,Nat.testBit_two_pow]
      apply decide_eq_decide.2
      omega
    ·have : (l.set (bits.length / 8) (c ||| b.toNat * 2 ^ (7 - bits.length % 8)))[j / 8]? = some x := by
      rw [List.getElem?_set_ne hji,hx]
     rw [bitsB_at this,decide_eq_false (show ¬ j = bits.length by intro h; rw [h] at hji; exact hji rfl)]
     simp
   rw [e1]
   rw [bitsB_at hx] at hj3
   simp only [List.length_set,List.append_assoc,List.singleton_append]
   rcases Nat.lt_trichotomy j bits.length with hlt | heq | hgt
   ·rw [List.getElem?_append_left hlt] at hj3 ⊢
    rw [← hj3,decide_eq_false (by omega)]
    simp
   ·rw [List.getElem?_append_right (by omega)] at hj3 ⊢
    have h0 : j - bits.length = 0 := by omega
    rw [h0] at hj3 ⊢
    rw [List.getElem?_replicate,if_pos (by omega)] at hj3
    simp only [List.getElem?_cons_zero]
    rw [Option.some.inj hj3,decide_eq_true heq]
    simp
   ·rw [List.getElem?_append_right (by omega)] at hj3 ⊢
    obtain ⟨m,hm⟩ : ∃ m,j - bits.length = m + 1 := ⟨j - bits.length - 1,by omega⟩
    rw [hm] at hj3 ⊢
    rw [List.getElem?_replicate,if_pos (by omega)] at hj3
    rw [List.getElem?_cons_succ,List.getElem?_replicate,if_pos (by simp; omega),Option.some.inj hj3,decide_eq_false (by omega)]
    simp
  ·rw [List.getElem?_eq_none_iff.2 (by rw [bitsB_len,List.length_set]; omega),List.getElem?_eq_none_iff.2 (by simp; omega)]
end Go.A

namespace Go.A
open Go
def idxLp (k : Nat) (ld : Option Nat) : SCode :=
 .seq (.region [6,18] [⟨some 9,.bin .lss .no (.t 8) (.t 7),none⟩])
 (.seq (.cond (.t 9)
  (.skip)
  (.exit 0))
 (.seq (.block 1 (.seq (.region [9] [⟨some 10,.mov (.t 8),none⟩,
   ⟨some 5,.mov (.t 10),none⟩])
  (.seq (.region [10] [⟨some 11,.mov (.t 1),none⟩,
   ⟨some 12,.mov (.t 0),none⟩,
   ⟨some 13,.mov (.t 5),none⟩,
   ⟨some 14,.iaddr k none (.t 12) (.t 13),none⟩,
   ⟨some 15,.load ld (.t 14),none⟩,
   ⟨some 16,.callv (.t 11) [(.t 15)],none⟩])
  (.cond (.t 16)
   (.seq (.region [0,1,7,8,11,12,13,14,15,16] [⟨some 17,.mov (.t 5),none⟩,
    ⟨some 4,.mov (.t 17),none⟩])
   (.ret))
   (.skip)))))
 (.region [5,11,12,13,14,15,16] [⟨some 18,.bin .add .no (.t 8) (.k (.c (.int .i64 1))),none⟩,
  ⟨some 8,.mov (.t 18),none⟩])))
def idxCode (k : Nat) (ld : Option Nat) : SCode :=
 .seq (.region [] [⟨some 4,.mov (.k (.c (.int .i64 0))),none⟩])
 (.seq (.seq (.region [4] [⟨some 6,.mov (.t 0),none⟩,
  ⟨some 7,.len .sl (.t 6),none⟩,
  ⟨some 8,.mov (.k (.c (.int .i64 0))),none⟩])
 (.block 0 (.loop (idxLp k ld))))
 (.seq (.region [0,1,7,8,9] [⟨some 4,.mov (.k (.c (.int .i64 (-1)))),none⟩])
 (.ret)))
def idxFun (k : Nat) (ld : Option Nat) : SFun := ⟨idxCode k ld,19,[.tmp 4]⟩
def cntFun (f : FuncId) : SFun := ⟨.seq (.region [] [⟨some 4,.mov (.k (.c (.bool false))),none⟩])
 (.seq (.region [4] [⟨some 5,.mov (.t 0),none⟩,
  ⟨some 6,.mov (.t 1),none⟩,
  ⟨some 7,.call f [(.t 5),(.t 6)],none⟩,
  ⟨some 8,.bin .geq .no (.t 7) (.k (.c (.int .i64 0))),none⟩,
  ⟨some 4,.mov (.t 8),none⟩])
 (.ret)),9,[.tmp 4]⟩
section
variable {T : FuncId → Option SFun} {X : Oracle} {k : Nat} {ld : Option Nat}
end
end Go.A
