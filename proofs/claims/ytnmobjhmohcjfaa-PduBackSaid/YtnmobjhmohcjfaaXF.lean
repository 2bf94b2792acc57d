/- status: a number, read. -/
import Derived.Test.YtnmobjhmohcjfaaXE
set_option linter.unusedSimpArgs false
set_option linter.unusedVariables false
set_option linter.unnecessarySimpa false
namespace Go.A.V.S
open Go Go.A
set_option linter.unusedSimpArgs false
set_option linter.unusedVariables false
def RS (H : Heap) (b : Bs) (a : Nat) (e : Int) : Heap := H ++ [.row [bv b,ai a],.row [.ptr H.length 0 2,ai e]]
theorem RS_at (H : Heap) (b : Bs) (a : Nat) (e : Int) : (RS H b a e)[H.length + 1]? = some (.row [.ptr H.length 0 2,ai e]) := by simp [RS]
theorem RS_0 (H : Heap) (b : Bs) (a : Nat) (e : Int) : rdRow (RS H b a e) (H.length + 1) 0 1 2 = some [.ptr H.length 0 2] := by simp [rdRow,RS_at,AObj.isRow,AObj.lo,AObj.cells]
theorem RS_1 (H : Heap) (b : Bs) (a : Nat) (e : Int) : rdRow (RS H b a e) (H.length + 1) 1 1 2 = some [ai e] := by simp [rdRow,RS_at,AObj.isRow,AObj.lo,AObj.cells]
theorem RS_w (H : Heap) (b : Bs) (a : Nat) (e e' : Int) : wrRow (RS H b a e) (H.length + 1) 1 2 [ai e'] = some (RS H b a e') := by
 simp only [wrRow,RS_at]
 simp [RS]
theorem RS_st (H : Heap) (b : Bs) (a : Nat) (e e' : Int) (σ : List AV) : storeA σ (RS H b a e) none (.ptr (H.length + 1) 1 2) (ai e') = some (σ,RS H b a e') := by
 simp only [storeA,RS_w,Option.map_some]
theorem st_get_err {e : Int} (he : e ≠ 0) (H : Heap) (b : Bs) (a : Nat) (n : Int) : callW P f_q46 [.ptr (H.length + 1) 0 2,ai n] (RS H b a e) = some (ai 0,RS H b a e) := by
 have r1 := RS_1 H b a e
 have hl : (RS H b a e).length = H.length + 2 := by simp [RS]
 generalize RS H b a e = G at *
 rw [call_L 5 rfl (rfl : P.T f_q46 = some F_q46) (le_ok rfl)]; simp -implicitDefEqProofs [-toCells,-AV.one,-forget,F_q46,c_q46,r1,he,hl]
 exact List.take_of_length_le (by omega)
theorem st_get_ok (H : Heap) (b : Bs) (hb : b.2.length ≤ 8192) (hby : Bytes b.2) {a : Nat} (ha : a ≤ 8 * b.2.length) (n : Nat) (hn : n ≤ 16) : callW P f_q46 [.ptr (H.length + 1) 0 2,ai n] (RS H b a 0) =
  if a + n ≤ 8 * b.2.length then some (ai (numAt b.2 a n : Nat),RS H b (a + n) 0) else some (ai 0,RS H b a 8) := by
 have r1 := RS_1 H b a 0
 have r0 := RS_0 H b a 0
 have hg := Get (H := RS H b a 0) (rr := H.length) (b := b) (by simp [RS]) hb hby ha n (by omega)
 have hRD : ∀ a' : Nat,RD (RS H b a 0) H.length b a' = RS H b a' 0 := fun a' => by simp [RD,RS]
 simp only [hRD] at hg
 by_cases c : a + n ≤ 8 * b.2.length
 ·rw [if_pos c] at hg ⊢
  have w1 := RS_st H b (a + n) 0 0
  have hlt := numAt_lt (bs := b.2) (a := a) (n := n) c
  have h16 : 2 ^ n ≤ 2 ^ 16 := Nat.pow_le_pow_right (by omega) hn
  have e16 : (2 : Nat) ^ 16 = 65536 := by decide
  have wv : IntKind.i64.wrap ((numAt b.2 a n : Nat) : Int) = (numAt b.2 a n : Nat) := wrap_i64 (by omega) (by omega)
  have l1 : (RS H b a 0).length = H.length + 2 := by simp [RS]
  have l2 : (RS H b (a + n) 0).length = H.length + 2 := by simp [RS]
  generalize RS H b (a + n) 0 = G2 at *
  generalize RS H b a 0 = G at *
  generalize numAt b.2 a n = v at *
  clear hRD
  rw [call_L 5 rfl (rfl : P.T f_q46 = some F_q46) (le_ok rfl)]; simp -implicitDefEqProofs [-toCells,-AV.one,-forget,F_q46,c_q46,r1,r0,hg,w1,wv,l1,l2]
  exact List.take_of_length_le (by omega)
 ·rw [if_neg c] at hg ⊢
  have w1 := RS_st H b a 0 8
  have l1 : (RS H b a 0).length = H.length + 2 := by simp [RS]
  have l2 : (RS H b a 8).length = H.length + 2 := by simp [RS]
  have wz : IntKind.i64.wrap 0 = 0 := rfl
  generalize RS H b a 8 = G2 at *
  generalize RS H b a 0 = G at *
  clear hRD
  rw [call_L 5 rfl (rfl : P.T f_q46 = some F_q46) (le_ok rfl)]; simp -implicitDefEqProofs [-toCells,-AV.one,-forget,F_q46,c_q46,r1,r0,hg,w1,wz,l1,l2]
  exact List.take_of_length_le (by omega)
end Go.A.V.S

namespace Go.A.V.S
open Go Go.A
set_option linter.unusedSimpArgs false
set_option linter.unusedVariables false
def gS (bs : List Nat) (a e n : Nat) : Nat × Nat × Nat := if e ≠ 0 then (0,a,e) else if a + n ≤ 8 * bs.length then (numAt bs a n,a + n,0) else (0,a,8)
theorem gS_le {bs : List Nat} {a : Nat} (h : a ≤ 8 * bs.length) (e n : Nat) : (gS bs a e n).2.1 ≤ 8 * bs.length := by
 unfold gS; split
 ·exact h
 ·split
  ·assumption
  ·exact h
theorem gS_lt (bs : List Nat) (a e n : Nat) : (gS bs a e n).1 < 2 ^ n := by
 unfold gS; split
 ·exact Nat.two_pow_pos _
 ·split
  ·exact numAt_lt (by assumption)
  ·exact Nat.two_pow_pos _
theorem st_get (H : Heap) (b : Bs) (hb : b.2.length ≤ 8192) (hby : Bytes b.2) {a : Nat} (ha : a ≤ 8 * b.2.length) (e n : Nat) (hn : n ≤ 16) (n' : Int) (hn' : n' = n) : callW P f_q46 [.ptr (H.length + 1) 0 2,ai n'] (RS H b a e) =
  some (ai ((gS b.2 a e n).1 : Nat),RS H b (gS b.2 a e n).2.1 ((gS b.2 a e n).2.2 : Nat)) := by
 subst hn'
 by_cases he : e = 0
 ·subst he
  have h := st_get_ok H b hb hby ha n hn
  rw [gS,if_neg (by simp)]
  by_cases c : a + n ≤ 8 * b.2.length
  ·rw [if_pos c] at h ⊢; exact h
  ·rw [if_neg c] at h ⊢; exact h
 ·rw [gS,if_pos he]
  exact st_get_err (e := e) (by omega) H b a n
end Go.A.V.S

namespace Go.A.V.S
open Go Go.A
set_option linter.unusedSimpArgs false
set_option linter.unusedVariables false
theorem eq1 (v : Nat) : decide ((v : Int) = 1) = decide (v = 1) := decide_eq_decide.2 (by omega)
theorem st_miss_np {w ow : Nat} (hw : w = 10 ∨ w = 16) (F : stepF w ow) (H : Heap) (b : Bs) (hb : b.2.length ≤ 8192) (hby : Bytes b.2) {a : Nat} (ha : a ≤ 8 * b.2.length) (e : Nat)
  {v1 a1 e1 v2 a2 e2 v3 a3 e3 : Nat} (g1 : gS b.2 a e w = (v1,a1,e1)) (g2 : gS b.2 a1 e1 1 = (v2,a2,e2)) (g3 : gS b.2 a2 e2 1 = (v3,a3,e3)) (h3 : v3 ≠ 1) :
  callW P f_q47 [.ptr (H.length + 1) 0 2,ai w] (RS H b a e) = some (.tup [.agg [ai v1,ab false,ai 0,ai 0],ab (decide (v2 = 1))],RS H b a3 e3) := by
 have k1 := st_get H b hb hby ha e w (by omega) w rfl
 have la1 := gS_le ha e w
 rw [g1] at k1 la1
 have k2 := st_get H b hb hby la1 e1 1 (by omega) 1 rfl
 have la2 := gS_le la1 e1 1
 rw [g2] at k2 la2
 have k3 := st_get H b hb hby la2 e2 1 (by omega) 1 rfl
 rw [g3] at k3
 have q3 : decide ((v3 : Int) = 1) = false := decide_eq_false (by omega)
 have q3' : ¬ (v3 : Int) = 1 := by omega
 have q2 := eq1 v2
 have l0 : (RS H b a e).length = H.length + 2 := by simp [RS]
 have l3 : (RS H b a3 e3).length = H.length + 2 := by simp [RS]
 simp only at k1 k2 k3
 generalize RS H b a3 e3 = G3 at *
 generalize RS H b a2 e2 = G2 at *
 generalize RS H b a1 e1 = G1 at *
 generalize RS H b a e = G0 at *
 clear g1 g2 g3
 rw [call_L 6 rfl (rfl : P.T f_q47 = some F_q47) (le_ok rfl)]; simp -implicitDefEqProofs [-toCells,-AV.one,-forget,F_q47,c_q47,k1,k2,k3,q3,q3',q2,l0,l3]
 exact List.take_of_length_le (by omega)
theorem and_low_i (t k : Nat) (hk : k ≤ 16) (ht : t < 70000) : (BitVec.ofNat 64 t &&& BitVec.ofNat 64 (2 ^ k - 1)).toNat = t % 2 ^ k := by
 have h16 : 2 ^ k ≤ 2 ^ 16 := Nat.pow_le_pow_right (by omega) hk
 have e16 : (2 : Nat) ^ 16 = 65536 := by decide
 rw [BitVec.toNat_and,BitVec.toNat_ofNat,BitVec.toNat_ofNat,Nat.mod_eq_of_lt (by omega),Nat.mod_eq_of_lt (by omega),Nat.and_two_pow_sub_one_eq_mod]
end Go.A.V.S

namespace Go.A.V.S
open Go Go.A
set_option linter.unusedSimpArgs false
set_option linter.unusedVariables false
theorem st_miss_p {w ow : Nat} (hw : w = 10 ∨ w = 16) (F : stepF w ow) (hsi : IntKind.i64.wrap (1 * 2 ^ ow) = ((2 ^ ow : Nat) : Int)) (H : Heap) (b : Bs) (hb : b.2.length ≤ 8192) (hby : Bytes b.2) {a : Nat} (ha : a ≤ 8 * b.2.length) (e : Nat)
  {v1 a1 e1 v2 a2 e2 a3 e3 v4 a4 e4 v5 a5 e5 : Nat} (g1 : gS b.2 a e w = (v1,a1,e1)) (g2 : gS b.2 a1 e1 1 = (v2,a2,e2)) (g3 : gS b.2 a2 e2 1 = (1,a3,e3)) (g4 : gS b.2 a3 e3 ow = (v4,a4,e4)) (g5 : gS b.2 a4 e4 ow = (v5,a5,e5)) :
  callW P f_q47 [.ptr (H.length + 1) 0 2,ai w] (RS H b a e) = some (.tup [.agg [ai v1,ab true,ai v4,ai ((v5 + 1) % 2 ^ ow : Nat)],ab (decide (v2 = 1))],RS H b a5 e5) := by
 have ho := F.o16
 have k1 := st_get H b hb hby ha e w (by omega) w rfl
 have la1 := gS_le ha e w
 rw [g1] at k1 la1
 have k2 := st_get H b hb hby la1 e1 1 (by omega) 1 rfl
 have la2 := gS_le la1 e1 1
 rw [g2] at k2 la2
 have k3 := st_get H b hb hby la2 e2 1 (by omega) 1 rfl
 have la3 := gS_le la2 e2 1
 rw [g3] at k3 la3
 have k4 := st_get H b hb hby la3 e3 ow (by omega) ow rfl
 have la4 := gS_le la3 e3 ow
 rw [g4] at k4 la4
 have k5 := st_get H b hb hby la4 e4 ow (by omega) ow rfl
 have lt5 := gS_lt b.2 a4 e4 ow
 rw [g5] at k5 lt5
 have h16 : 2 ^ ow ≤ 2 ^ 16 := Nat.pow_le_pow_right (by omega) ho.1
 have e16 : (2 : Nat) ^ 16 = 65536 := by decide
 have hpos : 1 ≤ 2 ^ ow := Nat.one_le_two_pow
 have q2 := eq1 v2
 have l0 : (RS H b a e).length = H.length + 2 := by simp [RS]
 have l5 : (RS H b a5 e5).length = H.length + 2 := by simp [RS]
 have hmn : min ow 64 = ow := by omega
 have hw0 : ¬ (ow : Int) < 0 := by omega
 have hpp' : IntKind.i64.wrap (2 ^ ow) = ((2 ^ ow : Nat) : Int) := by rw [← hsi,Int.one_mul]
 have hs1 : IntKind.i64.wrap (((2 ^ ow : Nat) : Int) - 1) = ((2 ^ ow - 1 : Nat) : Int) := by rw [wrap_i64 (by omega) (by omega)]; omega
 obtain ⟨v6,h6⟩ : ∃ t,v5 + 1 = t := ⟨_,rfl⟩
 have w6 : IntKind.i64.wrap ((v5 : Int) + 1) = (v6 : Int) := by rw [wrap_i64 (by omega) (by omega)]; omega
 have hA := and_low_i v6 ow ho.1 (by simp only at lt5; omega)
 have hoc := F.cl
 rw [h6]
 obtain ⟨v7,h7⟩ : ∃ t,v6 % 2 ^ ow = t := ⟨_,rfl⟩
 have h7l : v7 < 2 ^ ow := by rw [← h7]; exact Nat.mod_lt _ (by omega)
 have w7 : IntKind.i64.wrap (v7 : Int) = v7 := wrap_i64 (by omega) (by omega)
 rw [h7] at hA ⊢
 simp only at k1 k2 k3 k4 k5
 generalize RS H b a5 e5 = G5 at *
 generalize RS H b a4 e4 = G4 at *
 generalize RS H b a3 e3 = G3 at *
 generalize RS H b a2 e2 = G2 at *
 generalize RS H b a1 e1 = G1 at *
 generalize RS H b a e = G0 at *
 clear g1 g2 g3 g4 g5
 generalize 2 ^ ow - 1 = pm at *
 generalize ((2 ^ ow : Nat) : Int) = pw at *
 rw [call_L 6 rfl (rfl : P.T f_q47 = some F_q47) (le_ok rfl)]; simp -implicitDefEqProofs [-toCells,-AV.one,-forget,F_q47,c_q47,keepB,goodB_L,sameV,dstNot,dstNe,SOpG.reads,SOp.slots,SX.slots,SOp.noL,rdV,selfE_lst,selfE,selfEs,eqV,k1,k2,k3,q2,hoc,k4,hmn,hw0,hsi,hpp',hs1,k5,w6,l0,l5]
 erw [hA]
 exact ⟨w7,List.take_of_length_le (by omega)⟩
end Go.A.V.S

namespace Go.A.V.S
open Go Go.A
set_option linter.unusedSimpArgs false
set_option linter.unusedVariables false
def missR (bs : List Nat) (a e w : Nat) : Ms × Bool × Nat × Nat :=
 let r1 := gS bs a e w
 let r2 := gS bs r1.2.1 r1.2.2 1
 let r3 := gS bs r2.2.1 r2.2.2 1
 if r3.1 = 1 then
  let r4 := gS bs r3.2.1 r3.2.2 (offWd w)
  let r5 := gS bs r4.2.1 r4.2.2 (offWd w)
  (⟨r1.1,true,r4.1,((r5.1 + 1) % 2 ^ offWd w : Nat)⟩,decide (r2.1 = 1),r5.2.1,r5.2.2)
 else (⟨r1.1,false,0,0⟩,decide (r2.1 = 1),r3.2.1,r3.2.2)
theorem st_miss {w ow : Nat} (hw : w = 10 ∨ w = 16) (F : stepF w ow) (hsi : IntKind.i64.wrap (1 * 2 ^ ow) = ((2 ^ ow : Nat) : Int)) (H : Heap) (b : Bs) (hb : b.2.length ≤ 8192) (hby : Bytes b.2) {a : Nat} (ha : a ≤ 8 * b.2.length) (e : Nat) :
  callW P f_q47 [.ptr (H.length + 1) 0 2,ai w] (RS H b a e) = some (.tup [.agg (missR b.2 a e w).1.v,ab (missR b.2 a e w).2.1],RS H b (missR b.2 a e w).2.2.1 ((missR b.2 a e w).2.2.2 : Nat)) := by
 obtain ⟨⟨v1,a1,e1⟩,g1⟩ : ∃ t,gS b.2 a e w = t := ⟨_,rfl⟩
 obtain ⟨⟨v2,a2,e2⟩,g2⟩ : ∃ t,gS b.2 a1 e1 1 = t := ⟨_,rfl⟩
 obtain ⟨⟨v3,a3,e3⟩,g3⟩ : ∃ t,gS b.2 a2 e2 1 = t := ⟨_,rfl⟩
 by_cases h3 : v3 = 1
 ·subst h3
  obtain ⟨⟨v4,a4,e4⟩,g4⟩ : ∃ t,gS b.2 a3 e3 ow = t := ⟨_,rfl⟩
  obtain ⟨⟨v5,a5,e5⟩,g5⟩ : ∃ t,gS b.2 a4 e4 ow = t := ⟨_,rfl⟩
  have h := st_miss_p hw F hsi H b hb hby ha e g1 g2 g3 g4 g5
  simp only [missR,g1,g2,g3,F.of,g4,g5,if_true,Ms.v]
  exact h
 ·have h := st_miss_np hw F H b hb hby ha e g1 g2 g3 h3
  simp only [missR,g1,g2,g3,if_neg h3,Ms.v]
  exact h
theorem missR_le {bs : List Nat} {a : Nat} (h : a ≤ 8 * bs.length) (e w : Nat) : (missR bs a e w).2.2.1 ≤ 8 * bs.length := by
 simp only [missR]
 split
 ·exact gS_le (gS_le (gS_le (gS_le (gS_le h _ _) _ _) _ _) _ _) _ _
 ·exact gS_le (gS_le (gS_le h _ _) _ _) _ _
end Go.A.V.S

namespace Go.A.V.S
open Go Go.A
set_option linter.unusedSimpArgs false
set_option linter.unusedVariables false
def readM (bs : List Nat) (w : Nat) : Nat → Nat → Nat → Bool → List Ms → Nat × List Ms
 | 0,_,_,_,_ => (2,[])
 | z + 1,a,e,more,out =>
  if e ≠ 0 then (e,[]) else
  if more = true then
   (if out.length = 32 then (2,[]) else
    if (missR bs a e w).2.2.2 = 0 ∧ missOk (missR bs a e w).1 (qW w) (rW w) = false then (3,[]) else
    readM bs w z (missR bs a e w).2.2.1 (missR bs a e w).2.2.2 (missR bs a e w).2.1 (out ++ [(missR bs a e w).1]))
  else if numAt bs a (padN a) = 0 ∧ bs.length - (a + padN a) / 8 = 0 then (0,out) else (3,[])
def readS (bs : List Nat) (w : Int) : Nat × Nat × List Ms :=
 if w = 10 ∨ w = 16 then
  (if bs.length = 0 then (8,0,[]) else if ¬ numAt bs 0 1 = 0 then (4,0,[]) else if ¬ numAt bs 1 3 = 0 then (3,0,[]) else
   let r1 := gS bs 0 0 4
   let r2 := gS bs r1.2.1 r1.2.2 w.toNat
   let r3 := gS bs r2.2.1 r2.2.2 1
   let r := readM bs w.toNat 34 r3.2.1 r3.2.2 (decide (r3.1 = 1)) []
   (r.1,if r.1 = 0 then r2.1 else 0,r.2))
 else (9,0,[])
end Go.A.V.S

namespace Go.A.V.S
open Go Go.A
set_option linter.unusedSimpArgs false
set_option linter.unusedVariables false
def InvSr (H : Heap) (w : Nat) (b : Bs) (ack : Nat) (R : Nat × List Ms) (z : Nat) (σ : List AV) (G : Heap) : Prop :=
 ∃ (a e : Nat) (more : Bool) (out : List Ms),z + out.length = 34 ∧ out.length ≤ 32 ∧ a ≤ 8 * b.2.length ∧ readM b.2 w z a e more out = R ∧ G = RS H b a e ∧
  σ = L 114 ((((((Tr.full 7).put (path 1) (ai w)).put (path 4) (.lbox [ai 0,nilS])).put (path 6) (.ptr (H.length + 1) 0 2)).put (path 7) (.lbox [ai ack,lst true 4 (some 94) (mvs out)])).put (path 8) (ab more))
def PostSr (H : Heap) (b : Bs) (ack : Nat) (R : Nat × List Ms) (e : AExit) (σ : List AV) (G : Heap) : Prop :=
 e = .ret ∧ (∃ (a' : Nat) (e' : Int),G = RS H b a' e') ∧ ∃ c,resultsA F_q19.res σ = some (.tup [.agg [ai (if R.1 = 0 then (ack : Int) else 0),lst true 4 c (mvs R.2)],ai (R.1 : Nat)])
theorem lst_nil (z : Nat) (k : Option Nat) : lst true z k (mvs []) = nilS := rfl
theorem mvs_snoc (l : List Ms) (m : Ms) : mvs (l ++ [m]) = mvs l ++ [m.v] := by simp [mvs]
set_option maxHeartbeats 2000000 in
theorem stRead_tail {H : Heap} {w : Nat} (hw : w = 10 ∨ w = 16) {b : Bs} (hb : b.2.length ≤ 8192) (hby : Bytes b.2)
  (hmiss : ∀ a,a ≤ 8 * b.2.length → callW P f_q47 [.ptr (H.length + 1) 0 2,ai w] (RS H b a 0) = some (.tup [.agg (missR b.2 a 0 w).1.v,ab (missR b.2 a 0 w).2.1],RS H b (missR b.2 a 0 w).2.2.1 ((missR b.2 a 0 w).2.2.2 : Nat))) (ack : Nat) (R : Nat × List Ms) (z : Nat) (σ : List AV) (G : Heap) (hI : InvSr H w b ack R z (kill (headK tsc0_q19) σ) G) :
  Ends ((execW P f_q19 tsc0_q19 σ G).bind (jumpW P f_q19 sc0_q19 0)) fun s => PostSr H b ack R s.e s.σ s.H := by
 refine scope_ends (InvSr H w b ack R) (PostSr H b ack R) rfl ?_ z σ G hI
 clear hI z σ G
 rintro z σ G ⟨a,e,more,out,hz,ho,ha,hR,rfl,hσ⟩
 rw [← execW_head,hσ]
 have r1 := RS_1 H b a e
 have r0 := RS_0 H b a e
 have l0 : (RS H b a e).length = H.length + 2 := by simp [RS]
 have hlen := mvs_len out
 obtain ⟨z',rfl⟩ : ∃ z',z = z' + 1 := ⟨z - 1,by omega⟩
 rw [readM] at hR
 by_cases he : e = 0
 ·subst he
  rw [if_neg (by simp)] at hR
  replace r1 : rdRow (RS H b a 0) (H.length + 1) 1 1 2 = some [ai 0] := r1
  replace r0 : rdRow (RS H b a 0) (H.length + 1) 0 1 2 = some [.ptr H.length 0 2] := r0
  replace l0 : (RS H b a 0).length = H.length + 2 := l0
  show Ends (execW P f_q19 _ _ (RS H b a 0)) _
  cases more with
  | true =>
   rw [if_pos rfl] at hR
   by_cases h32 : out.length = 32
   ·have h32' : (out.length : Int) = 32 := by omega
    rw [if_pos h32] at hR
    subst hR
    have hex : ∃ (a' : Nat) (e' : Int),RS H b a 0 = RS H b a' e' := ⟨a,0,rfl⟩
    generalize RS H b a 0 = G at *
    clear hby hσ
    simp -implicitDefEqProofs [-toCells,-AV.one,-forget,c_q19,tsc0_q19,keepB,goodB_L,sameV,dstNot,dstNe,SOpG.reads,SOp.slots,SX.slots,SOp.noL,rdV,selfE_lst,selfE,selfEs,eqV,r1,h32',hlen]
    exact ⟨rfl,hex,none,by simp [F_q19,mvs]⟩
   have h32' : ¬ (out.length : Int) = 32 := by omega
   rw [if_neg h32] at hR
   have k1 := hmiss a ha
   have hle := missR_le ha 0 w
   obtain ⟨⟨M,mo,a1,e1⟩,hm⟩ : ∃ t,missR b.2 a 0 w = t := ⟨_,rfl⟩
   rw [hm] at k1 hle hR
   simp only at k1 hle hR
   have k2 := fun H => st_isMiss hw M H
   have q1 := RS_1 H b a1 e1
   have l1 : (RS H b a1 e1).length = H.length + 2 := by simp [RS]
   have hap := fun σ H => appW_lst (m := P.md f_q19) (d := 94) (sz := 4) (bytes := 32) (l := mvs out) (l' := [M.v]) (x := .vs 4 (some 93) [M.v]) (R_q19 94) (fun H => elems_vs H 4 (some 93) [M.v]) (by rw [hlen]; simp [appBound]; omega) (by rw [hlen]; simp [appBound]; omega) σ H
   rw [← mvs_snoc] at hap
   have hex : ∃ (a' : Nat) (e' : Int),RS H b a1 e1 = RS H b a' e' := ⟨a1,e1,rfl⟩
   have hinv : ∀ σ,σ = L 114 ((((((Tr.full 7).put (path 1) (ai w)).put (path 4) (.lbox [ai 0,nilS])).put (path 6) (.ptr (H.length + 1) 0 2)).put (path 7) (.lbox [ai ack,lst true 4 (some 94) (mvs (out ++ [M]))])).put (path 8) (ab mo)) → readM b.2 w z' a1 e1 mo (out ++ [M]) = R → ∃ m,m < z' + 1 ∧ InvSr H w b ack R m σ (RS H b a1 e1) := fun σ h1 h2 => ⟨z',by omega,a1,e1,mo,out ++ [M],by simp; omega,by simp; omega,hle,h2,rfl,h1⟩
   obtain ⟨mv,hmv⟩ : ∃ t,missOk M (qW w) (rW w) = t := ⟨_,rfl⟩
   rw [hmv] at k2 hR
   generalize hG1 : RS H b a1 e1 = G1 at *
   generalize RS H b a 0 = G at *
   generalize mvs (out ++ [M]) = lo at *
   generalize readM b.2 w z' a1 e1 mo (out ++ [M]) = R2 at *
   obtain ⟨sn,pa,fr,to⟩ := M
   simp only [Ms.v] at k1 k2 hap
   clear hby hσ hm hmiss r0
   by_cases he1 : e1 = 0
   ·subst he1
    replace q1 : rdRow G1 (H.length + 1) 1 1 2 = some [ai 0] := q1
    cases mv with
    | false =>
     rw [if_pos (by simp)] at hR
     subst hR
     simp -implicitDefEqProofs [-toCells,-AV.one,-forget,c_q19,tsc0_q19,keepB,goodB_L,sameV,dstNot,dstNe,SOpG.reads,SOp.slots,SX.slots,SOp.noL,rdV,selfE_lst,selfE,selfEs,eqV,r1,h32',hlen,k1,k2,q1,l0,l1]
     exact ⟨rfl,hex,none,by simp [F_q19,mvs]⟩
    | true =>
     rw [if_neg (by simp)] at hR
     simp -implicitDefEqProofs [-toCells,-AV.one,-forget,c_q19,tsc0_q19,keepB,goodB_L,sameV,dstNot,dstNe,SOpG.reads,SOp.slots,SX.slots,SOp.noL,rdV,selfE_lst,selfE,selfEs,eqV,r1,h32',hlen,k1,k2,q1,l0,l1,hap]
     exact hinv _ (by simp) hR
   ·rw [if_neg (fun h => he1 h.1)] at hR
    have he1' : ¬ (e1 : Int) = 0 := by omega
    simp -implicitDefEqProofs [-toCells,-AV.one,-forget,c_q19,tsc0_q19,keepB,goodB_L,sameV,dstNot,dstNe,SOpG.reads,SOp.slots,SX.slots,SOp.noL,rdV,selfE_lst,selfE,selfEs,eqV,r1,h32',hlen,k1,q1,l0,l1,he1,he1',hap]
    exact hinv _ (by simp) hR
  | false =>
   rw [if_neg (by simp)] at hR
   have hRD : ∀ a' : Nat,RD (RS H b a 0) H.length b a' = RS H b a' 0 := fun a' => by simp [RD,RS]
   obtain ⟨vb,a',hv,hc⟩ := Rest (H := RS H b a 0) (rr := H.length) (b := b) (by omega) hb hby ha
   simp only [hRD] at hc
   have hvl := bv_len vb
   have hex : ∃ (a'' : Nat) (e' : Int),RS H b a' 0 = RS H b a'' e' := ⟨a',0,rfl⟩
   have l1 : (RS H b a' 0).length = H.length + 2 := by simp [RS]
   generalize RS H b a' 0 = G1 at *
   generalize RS H b a 0 = G at *
   clear hby hσ hmiss
   by_cases hn : numAt b.2 a (padN a) = 0
   ·rw [if_pos hn] at hc
    have hv' := hv hn
    by_cases hl : b.2.length - (a + padN a) / 8 = 0
    ·have hl' : ¬ (vb.2.length : Int) > 0 := by omega
     have hl'' : ¬ 0 < (vb.2.length : Int) := by omega
     rw [if_pos ⟨hn,hl⟩] at hR
     subst hR
     have hl3 : vb.2.length = 0 := by omega
     rw [hl3] at hvl
     clear hv hv' hn hl hRD
     simp -implicitDefEqProofs [-toCells,-AV.one,-forget,c_q19,tsc0_q19,keepB,goodB_L,sameV,dstNot,dstNe,SOpG.reads,SOp.slots,SX.slots,SOp.noL,rdV,selfE_lst,selfE,selfEs,eqV,r1,r0,hc,l0,l1,hvl]
     exact ⟨rfl,hex,some 94,by simp [F_q19]⟩
    ·have hl' : (vb.2.length : Int) > 0 := by omega
     have hl'' : 0 < (vb.2.length : Int) := by omega
     rw [if_neg (fun h => hl h.2)] at hR
     subst hR
     obtain ⟨v,hvv⟩ : ∃ t,vb.2.length = t := ⟨_,rfl⟩
     rw [hvv] at hvl hl' hl''
     have hl3 : 0 < v := by omega
     clear hv hv' hn hl hRD
     simp -implicitDefEqProofs [-toCells,-AV.one,-forget,c_q19,tsc0_q19,keepB,goodB_L,sameV,dstNot,dstNe,SOpG.reads,SOp.slots,SX.slots,SOp.noL,rdV,selfE_lst,selfE,selfEs,eqV,r1,r0,hc,l0,l1,hvl,hl',hl'',hl3]
     exact ⟨rfl,hex,none,by simp [F_q19,mvs]⟩
   ·rw [if_neg hn] at hc
    rw [if_neg (fun h => hn h.1)] at hR
    subst hR
    clear hv hn hRD
    simp -implicitDefEqProofs [-toCells,-AV.one,-forget,c_q19,tsc0_q19,keepB,goodB_L,sameV,dstNot,dstNe,SOpG.reads,SOp.slots,SX.slots,SOp.noL,rdV,selfE_lst,selfE,selfEs,eqV,r1,r0,hc,l0,l1]
    exact ⟨rfl,hex,none,by simp [F_q19,mvs]⟩
 ·have he' : ¬ (e : Int) = 0 := by omega
  rw [if_pos he] at hR
  subst hR
  have hex : ∃ (a' : Nat) (e' : Int),RS H b a e = RS H b a' e' := ⟨a,e,rfl⟩
  generalize RS H b a e = G at *
  clear hby hσ
  simp -implicitDefEqProofs [-toCells,-AV.one,-forget,c_q19,tsc0_q19,keepB,goodB_L,sameV,dstNot,dstNe,SOpG.reads,SOp.slots,SX.slots,SOp.noL,rdV,selfE_lst,selfE,selfEs,eqV,r1,he,he']
  exact ⟨rfl,hex,none,by simp [F_q19,mvs,he]⟩
end Go.A.V.S
