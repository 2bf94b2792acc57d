/- status.Read, whole. -/
import Derived.Test.YtnmobjhmohcjfaaXF
import Derived.Test.YtnmobjhmohcjfaaXC
set_option linter.unusedSimpArgs false
set_option linter.unusedVariables false
set_option linter.unnecessarySimpa false
namespace Go.A.V.S
open Go Go.A
set_option linter.unusedSimpArgs false
set_option linter.unusedVariables false
def readSV (bs : List Nat) (w : Int) : AV := .tup [.agg [ai ((readS bs w).2.1 : Nat),lst true 4 none (mvs (readS bs w).2.2)],ai ((readS bs w).1 : Nat)]
set_option maxRecDepth 20000 in
theorem and112 : ∀ b : Fin 256,andI .u8 ((b.val : Nat) : Int) 112 = ((num [decide (b.val / 2 ^ 6 % 2 = 1),decide (b.val / 2 ^ 5 % 2 = 1),decide (b.val / 2 ^ 4 % 2 = 1)] * 16 : Nat) : Int) := by decide
theorem numAt_13 {bs : List Nat} {b : Nat} (h : bs[0]? = some b) : numAt bs 1 3 = num [decide (b / 2 ^ 6 % 2 = 1),decide (b / 2 ^ 5 % 2 = 1),decide (b / 2 ^ 4 % 2 = 1)] := by
 cases bs with
 | nil => simp at h
 | cons x r =>
  simp only [List.getElem?_cons_zero,Option.some.injEq] at h
  subst h
  rfl
set_option maxHeartbeats 2000000 in
theorem st_Read {w ow : Nat} (hw : w = 10 ∨ w = 16) (F : stepF w ow) (hsi : IntKind.i64.wrap (1 * 2 ^ ow) = ((2 ^ ow : Nat) : Int)) (b : Bs) (hb : b.2.length ≤ 8192) (hby : Bytes b.2) (H : Heap) :
  ∃ k : Nat,callW P f_q19 [bv b,ai w] H = some (readSV b.2 w,H ++ List.replicate k .other) := by
 have hW : ∀ H,callW P f_q45 [ai w] H = some (ab true,H) := fun H => by rw [st_isWidth,decide_eq_true (by omega)]
 have hwi : (w : Int) = 10 ∨ (w : Int) = 16 := by omega
 have hlen := bv_len b
 by_cases h0 : b.2.length = 0
 ·have hR : readS b.2 w = (8,0,[]) := by rw [readS,if_pos hwi,if_pos h0]
  have h0' : (b.2.length : Int) = 0 := by omega
  have h0'' : b.2 = [] := List.length_eq_zero_iff.1 h0
  refine ⟨0,?_⟩
  rw [readSV,hR]
  clear hR hby
  rw [call_L 7 rfl (rfl : P.T f_q19 = some F_q19) (le_ok rfl)]; simp -implicitDefEqProofs [-toCells,-AV.one,-forget,F_q19,c_q19,hW,hlen,h0,h0',h0'',mvs]
 have h0' : ¬ (b.2.length : Int) = 0 := by omega
 have h0'' : ¬ b.2 = [] := fun h => h0 (by rw [h]; rfl)
 obtain ⟨b0,hb0⟩ : ∃ x,b.2[0]? = some x := ⟨_,List.getElem?_eq_getElem (by omega)⟩
 have hb256 := hby b0 (List.mem_of_getElem? hb0)
 have q1 : iaddrW 1 none (bv b) (.c (.int .i64 0)) = some (.vp [au b0] 0) := bv_at hb0 .i64
 have a128 := and128 ⟨b0,hb256⟩
 have a112 := and112 ⟨b0,hb256⟩
 simp only at a128 a112
 have n0 : numAt b.2 0 1 = b0 / 128 % 2 := numAt_bit (a := 0) hb0
 have n1 := numAt_13 hb0
 rw [← n1] at a112
 by_cases hz : numAt b.2 0 1 = 0
 case neg =>
  have hR : readS b.2 w = (4,0,[]) := by rw [readS,if_pos hwi,if_neg h0,if_pos hz]
  rw [if_pos (by omega)] at a128
  refine ⟨0,?_⟩
  rw [readSV,hR]
  clear hR hby
  rw [call_L 7 rfl (rfl : P.T f_q19 = some F_q19) (le_ok rfl)]; simp -implicitDefEqProofs [-toCells,-AV.one,-forget,F_q19,c_q19,-decide_not,-binA_and,binA_andI,hW,hlen,h0,h0',h0'',q1,a128,mvs]
 rw [if_neg (by omega)] at a128
 by_cases h3 : numAt b.2 1 3 = 0
 case neg =>
  have hR : readS b.2 w = (3,0,[]) := by rw [readS,if_pos hwi,if_neg h0,if_neg (not_not_intro hz),if_pos h3]
  refine ⟨0,?_⟩
  rw [readSV,hR]
  obtain ⟨v,hv⟩ : ∃ t,numAt b.2 1 3 * 16 = t := ⟨_,rfl⟩
  have hv0 : ¬ v = 0 := by omega
  have hv0' : ¬ (v : Int) = 0 := by omega
  rw [hv] at a112
  clear hR hby n1 h3 hv hz n0
  rw [call_L 7 rfl (rfl : P.T f_q19 = some F_q19) (le_ok rfl)]; simp -implicitDefEqProofs [-toCells,-AV.one,-forget,F_q19,c_q19,-decide_not,-binA_and,binA_andI,hW,hlen,h0,h0',h0'',q1,a128,a112,hv0,hv0',mvs]
 rw [h3] at a112
 replace a112 : andI .u8 (b0 : Int) 112 = 0 := a112
 obtain ⟨z,hr⟩ := bits_Read b hb H
 obtain ⟨b',hb'⟩ : ∃ t : Bs,(z,b.2) = t := ⟨_,rfl⟩
 have e2 : b.2 = b'.2 := by rw [← hb']
 rw [hb'] at hr
 refine ⟨2,?_⟩
 rw [e2] at hb hby h0 hz h3 ⊢
 have k1 := st_get H b' hb hby (a := 0) (by omega) 0 4 (by omega) 4 rfl
 have la1 := gS_le (bs := b'.2) (a := 0) (by omega) 0 4
 obtain ⟨⟨v1,a1,e1⟩,g1⟩ : ∃ t,gS b'.2 0 0 4 = t := ⟨_,rfl⟩
 rw [g1] at k1 la1
 have k2 := st_get H b' hb hby la1 e1 w (by omega) w rfl
 have la2 := gS_le la1 e1 w
 obtain ⟨⟨v2,a2,e2'⟩,g2⟩ : ∃ t,gS b'.2 a1 e1 w = t := ⟨_,rfl⟩
 replace g2 : gS b'.2 a1 e1 w = (v2,a2,e2') := g2
 simp only at k2 la2
 rw [g2] at k2 la2
 have k3 := st_get H b' hb hby la2 e2' 1 (by omega) 1 rfl
 have la3 := gS_le la2 e2' 1
 obtain ⟨⟨v3,a3,e3⟩,g3⟩ : ∃ t,gS b'.2 a2 e2' 1 = t := ⟨_,rfl⟩
 simp only at k3 la3
 rw [g3] at k3 la3
 simp only at k1 k2 k3 la3
 have hR : readS b'.2 w = ((readM b'.2 w 34 a3 e3 (decide (v3 = 1)) []).1,(if (readM b'.2 w 34 a3 e3 (decide (v3 = 1)) []).1 = 0 then v2 else 0),(readM b'.2 w 34 a3 e3 (decide (v3 = 1)) []).2) := by
  rw [readS,if_pos hwi,if_neg h0,if_neg (not_not_intro hz),if_neg (not_not_intro h3)]
  simp only [Int.toNat_natCast,g1,g2,g3]
 rw [readSV,hR]
 have htail := stRead_tail (H := H) hw hb hby (fun a ha => st_miss hw F hsi H b' hb hby ha 0) v2 (readM b'.2 w 34 a3 e3 (decide (v3 = 1)) []) 34
 have hinv : ∀ σ,σ = L 114 ((((((Tr.full 7).put (path 1) (ai w)).put (path 4) (.lbox [ai 0,nilS])).put (path 6) (.ptr (H.length + 1) 0 2)).put (path 7) (.lbox [ai v2,nilS])).put (path 8) (ab (decide (v3 = 1)))) → InvSr H w b' v2 (readM b'.2 w 34 a3 e3 (decide (v3 = 1)) []) 34 σ (RS H b' a3 e3) := fun σ h => ⟨a3,e3,_,[],by simp,by simp,la3,rfl,rfl,h⟩
 obtain ⟨R,hRR⟩ : ∃ t,readM b'.2 w 34 a3 e3 (decide (v3 = 1)) [] = t := ⟨_,rfl⟩
 rw [hRR] at hR htail hinv ⊢
 have hone := eq1 v3
 replace k1 : callW P f_q46 [.ptr (H.length + 1) 0 2,ai 4] (H ++ [.row [bv b',ai 0],.row [.ptr H.length 0 2,ai 0]]) = some (ai v1,RS H b' a1 e1) := k1
 have l1 : (RS H b' a1 e1).length = H.length + 2 := by simp [RS]
 have l2 : (RS H b' a2 e2').length = H.length + 2 := by simp [RS]
 have l3 : (RS H b' a3 e3).length = H.length + 2 := by simp [RS]
 generalize RS H b' a3 e3 = G3 at *
 generalize RS H b' a2 e2' = G2 at *
 generalize RS H b' a1 e1 = G1 at *
 rw [ends_eq]
 clear hRR hR g1 g2 g3 n0 n1
 refine call_post 7 114 rfl (rfl : P.T f_q19 = some F_q19) rfl (le_ok rfl) (PostSr H b' v2 R) ?_ ?_
 ·rintro e σ G ⟨rfl,⟨a',e',rfl⟩,c,h2⟩
  refine ⟨rfl,_,h2,by simp,?_⟩
  simp [RS]
  split <;> rfl
 rw [F_q19]; simp -implicitDefEqProofs [-toCells,-AV.one,-forget,c_q19,-decide_not,-binA_and,binA_andI,keepB,goodB_L,sameV,dstNot,dstNe,SOpG.reads,SOp.slots,SX.slots,SOp.noL,rdV,selfE_lst,selfE,selfEs,eqV,hW,hlen,h0',h0'',q1,a128,a112,hr,k1,k2,k3,hone]
 refine htail _ _ (hinv _ ?_)
 simp [tsc0_q19]
theorem st_Read_any (b : Bs) (hb : b.2.length ≤ 8192) (hby : Bytes b.2) (w : Int) (H : Heap) :
  ∃ k : Nat,callW P f_q19 [bv b,ai w] H = some (readSV b.2 w,H ++ List.replicate k .other) := by
 by_cases h10 : w = 10
 ·subst h10
  exact st_Read (w := 10) (.inl rfl) step10 rfl b hb hby H
 by_cases h16 : w = 16
 ·subst h16
  exact st_Read (w := 16) (.inr rfl) step16 rfl b hb hby H
 have hW : ∀ H,callW P f_q45 [ai w] H = some (ab false,H) := fun H => by rw [st_isWidth,decide_eq_false (by omega)]
 have hR : readS b.2 w = (9,0,[]) := by rw [readS,if_neg (by omega)]
 refine ⟨0,?_⟩
 rw [readSV,hR]
 clear hR hby
 rw [call_L 7 rfl (rfl : P.T f_q19 = some F_q19) (le_ok rfl)]; simp -implicitDefEqProofs [-toCells,-AV.one,-forget,F_q19,c_q19,hW,mvs]
end Go.A.V.S

namespace Go.A.V.S
open Go Go.A
set_option linter.unusedSimpArgs false
set_option linter.unusedVariables false
theorem gS_ok {bs : List Nat} {a e n : Nat} (h : (gS bs a e n).2.2 = 0) : e = 0 ∧ gS bs a e n = (numAt bs a n,a + n,0) ∧ a + n ≤ 8 * bs.length := by
 unfold gS at h ⊢
 by_cases he : e = 0
 ·subst he
  rw [if_neg (by simp)] at h ⊢
  by_cases c : a + n ≤ 8 * bs.length
  ·rw [if_pos c]; exact ⟨rfl,rfl,c⟩
  ·rw [if_neg c] at h; simp at h
 ·rw [if_pos he] at h; exact (he h).elim
theorem rW_eq {w : Nat} (hw : w = 10 ∨ w = 16) : rW w = 2 ^ offWd w := by rcases hw with rfl | rfl <;> rfl
theorem offWd_le (w : Int) : 15 ≤ offWd w ∧ offWd w ≤ 16 := by simp only [offWd]; split <;> omega
theorem toE_of {v k : Nat} (h : v < 2 ^ k) (hk : 1 ≤ 2 ^ k) (m : Ms) (hm : m.to = ((v + 1) % 2 ^ k : Nat)) : toE m k = v := by
 rw [toE,hm]
 by_cases e : v + 1 = 2 ^ k
 ·rw [e,Nat.mod_self]; simp; omega
 ·rw [Nat.mod_eq_of_lt (by omega),if_neg (by omega),Int.toNat_natCast]; omega
theorem missR_put {bs : List Nat} {a e w : Nat} (h : (missR bs a e w).2.2.2 = 0) :
  e = 0 ∧ ∃ n,(missR bs a e w).2.2.1 = a + n ∧ a + n ≤ 8 * bs.length ∧ mBits w (missR bs a e w).1 (missR bs a e w).2.1 = sl bs a n := by
 obtain ⟨r1,g1⟩ : ∃ t,gS bs a e w = t := ⟨_,rfl⟩
 obtain ⟨r2,g2⟩ : ∃ t,gS bs r1.2.1 r1.2.2 1 = t := ⟨_,rfl⟩
 obtain ⟨r3,g3⟩ : ∃ t,gS bs r2.2.1 r2.2.2 1 = t := ⟨_,rfl⟩
 have back : r3.2.2 = 0 → e = 0 ∧ r1 = (numAt bs a w,a + w,0) ∧ r2 = (numAt bs (a + w) 1,a + w + 1,0) ∧ r3 = (numAt bs (a + w + 1) 1,a + w + 1 + 1,0) ∧ a + w + 1 + 1 ≤ 8 * bs.length := by
  intro h3
  rw [← g3] at h3
  obtain ⟨x1,x2,x3⟩ := gS_ok h3
  have x1' := x1
  rw [← g2] at x1'
  obtain ⟨y1,y2,y3⟩ := gS_ok x1'
  have y1' := y1
  rw [← g1] at y1'
  obtain ⟨z1,z2,z3⟩ := gS_ok y1'
  rw [g1] at z2
  rw [g2,z2] at y2
  rw [g3,y2] at x2
  rw [y2] at x3
  exact ⟨z1,z2,y2,x2,x3⟩
 simp only [missR,g1,g2,g3] at h ⊢
 by_cases hp : r3.1 = 1
 ·rw [if_pos hp] at h ⊢
  obtain ⟨r4,g4⟩ : ∃ t,gS bs r3.2.1 r3.2.2 (offWd w) = t := ⟨_,rfl⟩
  obtain ⟨r5,g5⟩ : ∃ t,gS bs r4.2.1 r4.2.2 (offWd w) = t := ⟨_,rfl⟩
  rw [g4,g5] at h ⊢
  simp only at h ⊢
  rw [← g5] at h
  obtain ⟨x1,x2,x3⟩ := gS_ok h
  rw [← g4] at x1
  obtain ⟨y1,y2,y3⟩ := gS_ok x1
  obtain ⟨z0,z1,z2,z3,z4⟩ := back y1
  rw [g4,z3] at y2
  rw [z3] at y3
  simp only at y2 y3
  rw [g5,y2] at x2
  rw [y2] at x3
  simp only at x2 x3
  have hlt := numAt_lt x3
  subst z1 z2 z3 y2 x2
  refine ⟨z0,w + 2 + 2 * offWd w,by simp only; omega,by omega,?_⟩
  simp only at hp ⊢
  have o3 := sl_one z4
  rw [decide_eq_true hp] at o3
  rw [mBits,toE_of hlt (Nat.one_le_two_pow) _ rfl]
  simp only [Int.toNat_natCast,if_true]
  have j1 : sl bs a w ++ sl bs (a + w) 1 = sl bs a (w + 1) := sl_app bs a w 1
  have j2 : sl bs a (w + 1) ++ sl bs (a + w + 1) 1 = sl bs a (w + 2) := sl_app bs a (w + 1) 1
  have j3 : sl bs a (w + 2) ++ sl bs (a + w + 1 + 1) (offWd w + offWd w) = sl bs a (w + 2 + (offWd w + offWd w)) := sl_app bs a (w + 2) (offWd w + offWd w)
  have j4 := sl_app bs (a + w + 1 + 1) (offWd w) (offWd w)
  rw [sl_num (by omega),sl_one (by omega),o3,sl_num y3,sl_num x3,j1,j2,j4,j3]
  congr 1; omega
 ·rw [if_neg hp] at h ⊢
  simp only at h ⊢
  obtain ⟨z0,z1,z2,z3,z4⟩ := back h
  subst z1 z2 z3
  simp only at hp ⊢
  have o3 := sl_one z4
  rw [decide_eq_false hp] at o3
  refine ⟨z0,w + 2,by omega,by omega,?_⟩
  rw [mBits]
  simp only [Int.toNat_natCast,Bool.false_eq_true,if_false,List.append_nil]
  have j1 : sl bs a w ++ sl bs (a + w) 1 = sl bs a (w + 1) := sl_app bs a w 1
  have j2 : sl bs a (w + 1) ++ sl bs (a + w + 1) 1 = sl bs a (w + 2) := sl_app bs a (w + 1) 1
  rw [sl_num (by omega),sl_one (by omega),o3,j1,j2]
theorem readM_put {bs : List Nat} {w : Nat} : ∀ (z a e : Nat) (more : Bool) (out ms : List Ms),a ≤ 8 * bs.length → out.length ≤ 32 → readM bs w z a e more out = (0,ms) →
  e = 0 ∧ ∃ r,ms = out ++ r ∧ ms.length ≤ 32 ∧ more = decide (0 < r.length) ∧ (∀ m ∈ r,missOk m (qW w) (rW w) = true) ∧ ∃ n,a + n ≤ 8 * bs.length ∧ msBits w r = sl bs a n ∧ numAt bs (a + n) (padN (a + n)) = 0 ∧ bs.length - (a + n + padN (a + n)) / 8 = 0
 | 0,_,_,_,_,_,_,_,h => by rw [readM] at h; simp at h
 | z + 1,a,e,more,out,ms,ha,ho,h => by
  rw [readM] at h
  by_cases he : e = 0
  ·rw [if_neg (not_not_intro he)] at h
   refine ⟨he,?_⟩
   subst he
   cases more with
   | true =>
    rw [if_pos rfl] at h
    by_cases h32 : out.length = 32
    ·rw [if_pos h32] at h; simp at h
    rw [if_neg h32] at h
    by_cases hc : (missR bs a 0 w).2.2.2 = 0 ∧ missOk (missR bs a 0 w).1 (qW w) (rW w) = false
    ·rw [if_pos hc] at h; simp at h
    rw [if_neg hc] at h
    obtain ⟨k1,r,k2,k3,k4,k5,n,k6,k7,k8,k9⟩ := readM_put z _ _ _ _ _ (missR_le ha 0 w) (by simp; omega) h
    obtain ⟨_,n1,l1,l2,l3⟩ := missR_put k1
    rw [l1] at k6 k7 k8 k9
    have hok : missOk (missR bs a 0 w).1 (qW w) (rW w) = true := by
     cases hh : missOk (missR bs a 0 w).1 (qW w) (rW w) with
     | true => rfl
     | false => exact (hc ⟨k1,hh⟩).elim
    refine ⟨(missR bs a 0 w).1 :: r,by rw [k2]; simp,k3,by simp,?_,n1 + n,by omega,?_,?_,?_⟩
    ·intro m hm
     rcases List.mem_cons.1 hm with rfl | hm
     ·exact hok
     ·exact k5 m hm
    ·rw [msBits,← k4,l3,k7,sl_app]
    ·rw [← Nat.add_assoc]; exact k8
    ·rw [← Nat.add_assoc]; exact k9
   | false =>
    rw [if_neg (by simp)] at h
    by_cases hc : numAt bs a (padN a) = 0 ∧ bs.length - (a + padN a) / 8 = 0
    ·rw [if_pos hc] at h
     obtain ⟨_,rfl⟩ := Prod.mk.inj h
     exact ⟨[],by simp,ho,by simp,by simp,0,by omega,by rw [msBits,sl,List.take_zero],hc.1,hc.2⟩
    ·rw [if_neg hc] at h; simp at h
  ·rw [if_pos he] at h
   exact (he (Prod.mk.inj h).1).elim
theorem put_againS {bs : List Nat} (hby : Bytes bs) {w : Int} {ack : Nat} {ms : List Ms} (z : Bool) (h : readS bs w = (0,ack,ms)) :
  (w = 10 ∨ w = 16) ∧ bs.length ≠ 0 ∧ numAt bs 0 1 = 0 ∧ stOk ⟨ack,z,ms⟩ w.toNat = true ∧ PackR (sBits ⟨ack,z,ms⟩ w.toNat) bs := by
 unfold readS at h
 by_cases hw : w = 10 ∨ w = 16
 case neg => rw [if_neg hw] at h; simp at h
 rw [if_pos hw] at h
 by_cases h1 : bs.length = 0
 ·rw [if_pos h1] at h; simp at h
 rw [if_neg h1] at h
 by_cases h2 : numAt bs 0 1 = 0
 case neg => rw [if_pos h2] at h; simp at h
 rw [if_neg (not_not_intro h2)] at h
 by_cases h3 : numAt bs 1 3 = 0
 case neg => rw [if_pos h3] at h; simp at h
 rw [if_neg (not_not_intro h3)] at h
 refine ⟨hw,h1,h2,?_⟩
 obtain ⟨wn,rfl,hwn⟩ : ∃ wn : Nat,w = wn ∧ (wn = 10 ∨ wn = 16) := by
  rcases hw with rfl | rfl
  ·exact ⟨10,rfl,.inl rfl⟩
  ·exact ⟨16,rfl,.inr rfl⟩
 have htn : ((wn : Nat) : Int).toNat = wn := by simp
 rw [htn] at h ⊢
 obtain ⟨r1,g1⟩ : ∃ t,gS bs 0 0 4 = t := ⟨_,rfl⟩
 obtain ⟨r2,g2⟩ : ∃ t,gS bs r1.2.1 r1.2.2 wn = t := ⟨_,rfl⟩
 obtain ⟨r3,g3⟩ : ∃ t,gS bs r2.2.1 r2.2.2 1 = t := ⟨_,rfl⟩
 simp only [g1,g2,g3] at h
 have a1 : r1.2.1 ≤ 8 * bs.length := by rw [← g1]; exact gS_le (by omega) _ _
 have a2 : r2.2.1 ≤ 8 * bs.length := by rw [← g2]; exact gS_le a1 _ _
 have a3 : r3.2.1 ≤ 8 * bs.length := by rw [← g3]; exact gS_le a2 _ _
 obtain ⟨R,hR⟩ : ∃ t,readM bs wn 34 r3.2.1 r3.2.2 (decide (r3.1 = 1)) [] = t := ⟨_,rfl⟩
 rw [hR] at h
 simp only [Prod.mk.injEq] at h
 obtain ⟨q1,q2,q3⟩ := h
 rw [if_pos q1] at q2
 have hR' : readM bs wn 34 r3.2.1 r3.2.2 (decide (r3.1 = 1)) [] = (0,ms) := by rw [hR,← q1,← q3]
 obtain ⟨k1,r,k2,k3,k4,k5,n,k6,k7,k8,k9⟩ := readM_put 34 _ _ _ _ _ a3 (by simp) hR'
 rw [List.nil_append] at k2
 subst k2
 rw [← g3] at k1
 obtain ⟨x1,x2,x3⟩ := gS_ok k1
 have x1' := x1
 rw [← g2] at x1'
 obtain ⟨y1,y2,y3⟩ := gS_ok x1'
 have y1' := y1
 rw [← g1] at y1'
 obtain ⟨_,z2,z3⟩ := gS_ok y1'
 rw [g1,Nat.zero_add] at z2
 rw [g2,z2] at y2
 rw [z2] at y3
 rw [g3,y2] at x2
 rw [y2] at x3
 subst z2 y2 x2
 simp only at q2 y3 x3 k4 k6 k7 k8 k9
 subst q2
 have hlt := numAt_lt y3
 have hlt' : numAt bs 4 wn < qW wn := hlt
 constructor
 ·simp only [stOk,Bool.and_eq_true,decide_eq_true_eq,Bool.not_eq_true',List.any_eq_false]
  refine ⟨⟨⟨by omega,by omega⟩,k3⟩,fun m hm => ?_⟩
  rw [k5 m hm]; simp
 ·have o0 : sl bs 0 1 = [false] := by rw [← sl_one (by omega),h2]; rfl
  have o1 : sl bs 1 3 = [false,false,false] := by rw [← sl_num (by omega),h3]; rfl
  have o4 : [false,false,false,false] = sl bs 0 4 := by
   have := sl_app bs 0 1 3
   rw [o0,Nat.zero_add,o1] at this
   exact this
  have hx : sBits ⟨(numAt bs 4 wn : Nat),z,ms⟩ wn = sl bs 0 (4 + wn + 1 + n) := by
   have j1 := sl_app bs 0 4 wn
   have j2 := sl_app bs 0 (4 + wn) 1
   have j3 := sl_app bs 0 (4 + wn + 1) n
   rw [Nat.zero_add] at j1 j2 j3
   rw [sBits]
   simp only [Int.toNat_natCast]
   rw [o4,← k4,sl_num y3,sl_one x3,k7,j1,j2,j3]
  obtain ⟨t,ht⟩ : ∃ t,4 + wn + 1 + n = t := ⟨_,rfl⟩
  rw [ht] at hx k6 k8 k9
  have hp := padN_le k6
  have hpd : padN t < 8 := by simp only [padN]; omega
  have h8 : t + padN t = 8 * bs.length := by simp only [padN] at hp hpd k9 ⊢; omega
  have hxl : (sl bs 0 t).length = t := sl_len (by omega)
  refine ⟨by rw [hx,hxl]; omega,hby,?_⟩
  rw [hx,hxl]
  have ez := sl_num (bs := bs) (a := t) (n := padN t) hp
  rw [k8] at ez
  have ez2 : bitsOf 0 (padN t) = List.replicate (padN t) false := by
   rw [bitsOf,List.eq_replicate_iff]; simp
  rw [ez2] at ez
  have hb := sl_take bs bs.length
  rw [List.take_length] at hb
  have j := sl_app bs 0 t (padN t)
  rw [Nat.zero_add] at j
  rw [hb,← h8,← j,← ez]
  congr 2; omega
end Go.A.V.S

namespace Go.A.V.S
open Go Go.A
set_option linter.unusedSimpArgs false
set_option linter.unusedVariables false
theorem gS_part {bs : List Nat} {pre x post : List Bool} (h : bitsB bs = pre ++ x ++ post) {a n : Nat} (ha : pre.length = a) (hn : x.length = n) : gS bs a 0 n = (num x,a + n,0) := by
 have hl := congrArg List.length h
 simp only [List.length_append,bitsB_len] at hl
 rw [gS,if_neg (by simp),if_pos (by omega),numAt_part h ha hn]
theorem Ms.ext {m : Ms} {a c d : Int} {b : Bool} (h1 : m.sn = a) (h2 : m.part = b) (h3 : m.fr = c) (h4 : m.to = d) : (⟨a,b,c,d⟩ : Ms) = m := by
 cases m; simp_all
theorem missR_back {bs : List Nat} {w : Nat} (hw : w = 10 ∨ w = 16) {m : Ms} {more : Bool} {pre post : List Bool} {a : Nat} (hok : missOk m (2 ^ w) (rW w) = true) (hB : bitsB bs = pre ++ mBits w m more ++ post) (ha : pre.length = a) :
  missR bs a 0 w = (m,more,a + (mBits w m more).length,0) := by
 rw [rW_eq hw] at hok
 have how := offWd_le w
 obtain ⟨k,hk⟩ : ∃ t,offWd w = t := ⟨_,rfl⟩
 rw [hk] at hok how
 have hk1 : 1 ≤ 2 ^ k := Nat.one_le_two_pow
 have hlen := mBits_len hw m more
 simp only [missOk,Bool.and_eq_true,decide_eq_true_eq] at hok
 obtain ⟨⟨⟨⟨⟨s0,s1⟩,f0⟩,t0⟩,t1⟩,pp⟩ := hok
 obtain ⟨X,hX⟩ : ∃ t,bitsOf m.sn.toNat w = t := ⟨_,rfl⟩
 have lX : X.length = w := by rw [← hX,bitsOf_len]
 have vX : num X = m.sn.toNat := by rw [← hX]; exact num_bitsOf w _ (by omega)
 rw [missR,hk]
 cases hp : m.part with
 | true =>
  rw [hp,if_pos rfl] at pp
  rw [hp,if_pos rfl,hk] at hlen
  obtain ⟨F,hF⟩ : ∃ t,bitsOf m.fr.toNat k = t := ⟨_,rfl⟩
  obtain ⟨E,hE⟩ : ∃ t,bitsOf (toE m k) k = t := ⟨_,rfl⟩
  have lF : F.length = k := by rw [← hF,bitsOf_len]
  have lE : E.length = k := by rw [← hE,bitsOf_len]
  have hfr : m.fr.toNat < 2 ^ k := by
   by_cases ht : m.to = 0
   ·rw [if_pos ht] at pp; have := of_decide_eq_true pp; omega
   ·rw [if_neg ht] at pp; have := of_decide_eq_true pp; omega
  have hte : toE m k < 2 ^ k := by rw [toE]; split <;> omega
  have vF : num F = m.fr.toNat := by rw [← hF]; exact num_bitsOf k _ hfr
  have vE : num E = toE m k := by rw [← hE]; exact num_bitsOf k _ hte
  have hto : (((toE m k + 1) % 2 ^ k : Nat) : Int) = m.to := by
   rw [toE]
   by_cases ht : m.to = 0
   ·rw [if_pos ht,show 2 ^ k - 1 + 1 = 2 ^ k by omega,Nat.mod_self,ht]; rfl
   ·rw [if_neg ht,show m.to.toNat - 1 + 1 = m.to.toNat by omega,Nat.mod_eq_of_lt (by omega)]; omega
  have hm : mBits w m more = X ++ [more] ++ [true] ++ (F ++ E) := by simp only [mBits,hp,if_true,hk,hX,hF,hE]
  rw [hm] at hB
  have g1 := gS_part (pre := pre) (x := X) (post := [more] ++ [true] ++ F ++ E ++ post) (by rw [hB]; simp) ha lX
  have g2 := gS_part (pre := pre ++ X) (x := [more]) (post := [true] ++ F ++ E ++ post) (by rw [hB]; simp) (by rw [List.length_append,ha,lX]) rfl
  have g3 := gS_part (pre := pre ++ X ++ [more]) (x := [true]) (post := F ++ E ++ post) (by rw [hB]; simp) (by rw [List.length_append,List.length_append,ha,lX]) rfl
  have g4 := gS_part (pre := pre ++ X ++ [more] ++ [true]) (x := F) (post := E ++ post) (by rw [hB]; simp) (by rw [List.length_append,List.length_append,List.length_append,ha,lX]) lF
  have g5 := gS_part (pre := pre ++ X ++ [more] ++ [true] ++ F) (x := E) (post := post) (by rw [hB]; simp) (by rw [List.length_append,List.length_append,List.length_append,List.length_append,ha,lX,lF]) lE
  simp only [List.length_cons,List.length_nil,Nat.zero_add] at g2 g3 g4 g5
  rw [num_one] at g2 g3
  simp only [g1,g2,g3,g4,g5]
  rw [if_pos (show true.toNat = 1 from rfl),vE,hto,vX,vF,hlen]
  have hM : (⟨(m.sn.toNat : Nat),true,(m.fr.toNat : Nat),m.to⟩ : Ms) = m := Ms.ext (by omega) hp (by omega) rfl
  rw [hM]
  refine Prod.ext rfl (Prod.ext ?_ (Prod.ext ?_ rfl))
  ·cases more <;> rfl
  ·show a + w + 1 + 1 + k + k = a + (w + 2 + 2 * k); omega
 | false =>
  rw [hp,if_neg (by simp)] at pp
  rw [hp,if_neg (by simp)] at hlen
  simp only [Bool.and_eq_true,decide_eq_true_eq] at pp
  have hm : mBits w m more = X ++ [more] ++ [false] := by simp [mBits,hp,hX]
  rw [hm] at hB
  have g1 := gS_part (pre := pre) (x := X) (post := [more] ++ [false] ++ post) (by rw [hB]; simp) ha lX
  have g2 := gS_part (pre := pre ++ X) (x := [more]) (post := [false] ++ post) (by rw [hB]; simp) (by rw [List.length_append,ha,lX]) rfl
  have g3 := gS_part (pre := pre ++ X ++ [more]) (x := [false]) (post := post) (by rw [hB]; simp) (by rw [List.length_append,List.length_append,ha,lX]) rfl
  simp only [List.length_cons,List.length_nil,Nat.zero_add] at g2 g3
  rw [num_one] at g2 g3
  simp only [g1,g2,g3]
  rw [if_neg (by simp),vX,hlen]
  have hM : (⟨(m.sn.toNat : Nat),false,0,0⟩ : Ms) = m := Ms.ext (by omega) hp (by omega) (by omega)
  rw [hM]
  refine Prod.ext rfl (Prod.ext ?_ (Prod.ext ?_ rfl))
  ·cases more <;> rfl
  ·show a + w + 1 + 1 = a + (w + 2 + 0); omega
theorem readM_back {bs : List Nat} {w : Nat} (hw : w = 10 ∨ w = 16) : ∀ (r : List Ms) (z : Nat) (pre post : List Bool) (a : Nat) (out : List Ms),bitsB bs = pre ++ msBits w r ++ post → pre.length = a → (∃ k,k < 8 ∧ post = List.replicate k false) →
  (∀ m ∈ r,missOk m (2 ^ w) (rW w) = true) → out.length + r.length ≤ 32 → r.length < z → readM bs w z a 0 (decide (0 < r.length)) out = (0,out ++ r)
 | _,0,_,_,_,_,_,_,_,_,_,h => by omega
 | [],z + 1,pre,post,a,out,hB,ha,hk,hv,hl,_ => by
  obtain ⟨k,hk8,rfl⟩ := hk
  rw [msBits,List.append_nil] at hB
  have hlen := congrArg List.length hB
  simp only [List.length_append,bitsB_len,List.length_replicate] at hlen
  have hp : padN a = k := by simp only [padN]; omega
  rw [readM,if_neg (by simp),if_neg (by simp),hp]
  have h1 : numAt bs a k = 0 := by
   rw [numAt_part (pre := pre) (x := List.replicate k false) (post := []) (by rw [hB]; simp) ha (by simp)]
   clear hp hlen hB hk8
   induction k with
   | zero => rfl
   | succ k ih => rw [List.replicate_succ',num_snoc,ih]; rfl
  rw [if_pos ⟨h1,by omega⟩,List.append_nil]
 | m :: r,z + 1,pre,post,a,out,hB,ha,hk,hv,hl,hz => by
  rw [msBits] at hB
  simp only [List.length_cons] at hl hz
  have h1 := missR_back hw (hv m (by simp)) (more := decide (0 < r.length)) (pre := pre) (post := msBits w r ++ post) (a := a) (by rw [hB]; simp) ha
  have ih := readM_back hw r z (pre ++ mBits w m (decide (0 < r.length))) post (a + (mBits w m (decide (0 < r.length))).length) (out ++ [m]) (by rw [hB]; simp) (by rw [List.length_append,ha]) hk (fun x hx => hv x (by simp [hx])) (by simp; omega) (by omega)
  rw [readM,if_neg (by simp),if_pos (by simp),if_neg (by omega),h1]
  rw [if_neg (by rintro ⟨_,h⟩; rw [show qW w = 2 ^ w from rfl,hv m (by simp)] at h; simp at h)]
  show readM bs w z (a + _) 0 _ _ = _
  rw [ih]; simp
theorem read_backS {s : St} {w : Int} {out : List Nat} (hw : w = 10 ∨ w = 16) (hok : stOk s w.toNat = true) (hp : PackR (sBits s w.toNat) out) :
  readS out w = (0,s.ack.toNat,s.ms) ∧ out.length ≠ 0 ∧ numAt out 0 1 = 0 ∧ 0 ≤ s.ack := by
 obtain ⟨wn,rfl,hwn⟩ : ∃ wn : Nat,w = wn ∧ (wn = 10 ∨ wn = 16) := by
  rcases hw with rfl | rfl
  ·exact ⟨10,rfl,.inl rfl⟩
  ·exact ⟨16,rfl,.inr rfl⟩
 have htn : ((wn : Nat) : Int).toNat = wn := by simp
 rw [htn] at hok hp
 obtain ⟨⟨a0,a1⟩,hl,hv⟩ := stOk_iff hok
 have hB := hp.eq
 have hlen := hp.len
 obtain ⟨A,hA⟩ : ∃ t,bitsOf s.ack.toNat wn = t := ⟨_,rfl⟩
 have lA : A.length = wn := by rw [← hA,bitsOf_len]
 have vA : num A = s.ack.toNat := by rw [← hA]; exact num_bitsOf wn _ (by omega)
 obtain ⟨P,hP⟩ : ∃ t,List.replicate (8 * out.length - (sBits s wn).length) false = t := ⟨_,rfl⟩
 have hPk : ∃ k,k < 8 ∧ P = List.replicate k false := ⟨_,by omega,hP.symm⟩
 rw [hP,sBits,hA] at hB
 have g0 := numAt_part (pre := []) (x := [false]) (post := [false,false,false] ++ A ++ [decide (0 < s.ms.length)] ++ msBits wn s.ms ++ P) (by rw [hB]; simp) rfl rfl
 have g00 := numAt_part (pre := [false]) (x := [false,false,false]) (post := A ++ [decide (0 < s.ms.length)] ++ msBits wn s.ms ++ P) (by rw [hB]; simp) rfl rfl
 have g1 := gS_part (pre := []) (x := [false,false,false,false]) (post := A ++ [decide (0 < s.ms.length)] ++ msBits wn s.ms ++ P) (by rw [hB]; simp) rfl rfl
 have g2 := gS_part (pre := [false,false,false,false]) (x := A) (post := [decide (0 < s.ms.length)] ++ msBits wn s.ms ++ P) (by rw [hB]; simp) rfl lA
 have g3 := gS_part (pre := [false,false,false,false] ++ A) (x := [decide (0 < s.ms.length)]) (post := msBits wn s.ms ++ P) (by rw [hB]; simp) rfl rfl
 have hR := readM_back hwn s.ms 34 ([false,false,false,false] ++ A ++ [decide (0 < s.ms.length)]) P (4 + wn + 1) [] hB (by simp [lA]; omega) hPk hv (by simp; omega) (by omega)
 have lL : ([false,false,false,false] ++ A).length = 4 + wn := by simp [lA]; omega
 simp only [List.length_cons,List.length_nil,Nat.zero_add,lL] at g0 g00 g1 g2 g3
 have hne : out.length ≠ 0 := fun e => by
  have := congrArg List.length hB
  rw [bitsB_len,e] at this
  simp at this
 have n0 : numAt out 0 1 = 0 := g0
 refine ⟨?_,hne,n0,a0⟩
 have hb1 : (decide (num [decide (0 < s.ms.length)] = 1)) = decide (0 < s.ms.length) := by cases decide (0 < s.ms.length) <;> rfl
 rw [readS,if_pos hw,if_neg hne,if_neg (not_not_intro n0),if_neg (not_not_intro (by exact g00)),htn]
 rw [show num [false,false,false,false] = 0 from rfl] at g1
 simp only [g1,g2,g3,hb1,hR,if_true,vA,List.nil_append]
end Go.A.V.S
