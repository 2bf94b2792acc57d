/- status.Read, whole. -/
import Derived.Test.YtnmobjhmohcjfaaXF
import Derived.Test.YtnmobjhmohcjfaaXC
set_option linter.unusedSimpArgs false
set_option linter.unusedVariables false
set_option linter.unnecessarySimpa false
namespace Go.A.V.S
open Go Go.A
set_option linter.unusedSimpArgs false
set_option linter.unusedVariables false
def readSV (bs : List Nat) (w : Int) : AV := .tup [.agg [ai ((readS bs w).2.1 : Nat), lst true 4 none (mvs (readS bs w).2.2)], ai ((readS bs w).1 : Nat)]
set_option maxRecDepth 20000 in
theorem and112 : ∀ b : Fin 256, andI .u8 ((b.val : Nat) : Int) 112 = ((num [decide (b.val / 2 ^ 6 % 2 = 1), decide (b.val / 2 ^ 5 % 2 = 1), decide (b.val / 2 ^ 4 % 2 = 1)] * 16 : Nat) : Int) := by decide
theorem numAt_13 {bs : List Nat} {b : Nat} (h : bs[0]? = some b) : numAt bs 1 3 = num [decide (b / 2 ^ 6 % 2 = 1), decide (b / 2 ^ 5 % 2 = 1), decide (b / 2 ^ 4 % 2 = 1)] := by
  cases bs with
  | nil => simp at h
  | cons x r =>
    simp only [List.getElem?_cons_zero, Option.some.injEq] at h
    subst h
    rfl
set_option maxHeartbeats 2000000 in
theorem st_Read {w ow : Nat} (hw : w = 10 ∨ w = 16) (F : stepF w ow) (hsi : IntKind.i64.wrap (1 * 2 ^ ow) = ((2 ^ ow : Nat) : Int)) (b : Bs) (hb : b.2.length ≤ 8192) (hby : Bytes b.2) (H : Heap) :
    ∃ k : Nat, callW P f_q15 [bv b, ai w] H = some (readSV b.2 w, H ++ List.replicate k .other) := by
  have hW : ∀ H, callW P f_q36 [ai w] H = some (ab true, H) := fun H => by rw [st_isWidth, decide_eq_true (by omega)]
  have hwi : (w : Int) = 10 ∨ (w : Int) = 16 := by omega
  have hlen := bv_len b
  by_cases h0 : b.2.length = 0
  · have hR : readS b.2 w = (8, 0, []) := by rw [readS, if_pos hwi, if_pos h0]
    have h0' : (b.2.length : Int) = 0 := by omega
    have h0'' : b.2 = [] := List.length_eq_zero_iff.1 h0
    refine ⟨0, ?_⟩
    rw [readSV, hR]
    clear hR hby
    rw [call_L 7 rfl (rfl : P.T f_q15 = some F_q15) (le_ok rfl)]; simp -implicitDefEqProofs [-toCells, -AV.one, -forget, F_q15, c_q15, hW, hlen, h0, h0', h0'', mvs]
  have h0' : ¬ (b.2.length : Int) = 0 := by omega
  have h0'' : ¬ b.2 = [] := fun h => h0 (by rw [h]; rfl)
  obtain ⟨b0, hb0⟩ : ∃ x, b.2[0]? = some x := ⟨_, List.getElem?_eq_getElem (by omega)⟩
  have hb256 := hby b0 (List.mem_of_getElem? hb0)
  have q1 : iaddrW 1 none (bv b) (.c (.int .i64 0)) = some (.vp [au b0] 0) := bv_at hb0 .i64
  have a128 := and128 ⟨b0, hb256⟩
  have a112 := and112 ⟨b0, hb256⟩
  simp only at a128 a112
  have n0 : numAt b.2 0 1 = b0 / 128 % 2 := numAt_bit (a := 0) hb0
  have n1 := numAt_13 hb0
  rw [← n1] at a112
  by_cases hz : numAt b.2 0 1 = 0
  case neg =>
    have hR : readS b.2 w = (4, 0, []) := by rw [readS, if_pos hwi, if_neg h0, if_pos hz]
    rw [if_pos (by omega)] at a128
    refine ⟨0, ?_⟩
    rw [readSV, hR]
    clear hR hby
    rw [call_L 7 rfl (rfl : P.T f_q15 = some F_q15) (le_ok rfl)]; simp -implicitDefEqProofs [-toCells, -AV.one, -forget, F_q15, c_q15, -decide_not, -binA_and, binA_andI, hW, hlen, h0, h0', h0'', q1, a128, mvs]
  rw [if_neg (by omega)] at a128
  by_cases h3 : numAt b.2 1 3 = 0
  case neg =>
    have hR : readS b.2 w = (3, 0, []) := by rw [readS, if_pos hwi, if_neg h0, if_neg (not_not_intro hz), if_pos h3]
    refine ⟨0, ?_⟩
    rw [readSV, hR]
    obtain ⟨v, hv⟩ : ∃ t, numAt b.2 1 3 * 16 = t := ⟨_, rfl⟩
    have hv0 : ¬ v = 0 := by omega
    have hv0' : ¬ (v : Int) = 0 := by omega
    rw [hv] at a112
    clear hR hby n1 h3 hv hz n0
    rw [call_L 7 rfl (rfl : P.T f_q15 = some F_q15) (le_ok rfl)]; simp -implicitDefEqProofs [-toCells, -AV.one, -forget, F_q15, c_q15, -decide_not, -binA_and, binA_andI, hW, hlen, h0, h0', h0'', q1, a128, a112, hv0, hv0', mvs]
  rw [h3] at a112
  replace a112 : andI .u8 (b0 : Int) 112 = 0 := a112
  obtain ⟨z, hr⟩ := bits_Read b hb H
  obtain ⟨b', hb'⟩ : ∃ t : Bs, (z, b.2) = t := ⟨_, rfl⟩
  have e2 : b.2 = b'.2 := by rw [← hb']
  rw [hb'] at hr
  refine ⟨2, ?_⟩
  rw [e2] at hb hby h0 hz h3 ⊢
  have k1 := st_get H b' hb hby (a := 0) (by omega) 0 4 (by omega) 4 rfl
  have la1 := gS_le (bs := b'.2) (a := 0) (by omega) 0 4
  obtain ⟨⟨v1, a1, e1⟩, g1⟩ : ∃ t, gS b'.2 0 0 4 = t := ⟨_, rfl⟩
  rw [g1] at k1 la1
  have k2 := st_get H b' hb hby la1 e1 w (by omega) w rfl
  have la2 := gS_le la1 e1 w
  obtain ⟨⟨v2, a2, e2'⟩, g2⟩ : ∃ t, gS b'.2 a1 e1 w = t := ⟨_, rfl⟩
  replace g2 : gS b'.2 a1 e1 w = (v2, a2, e2') := g2
  simp only at k2 la2
  rw [g2] at k2 la2
  have k3 := st_get H b' hb hby la2 e2' 1 (by omega) 1 rfl
  have la3 := gS_le la2 e2' 1
  obtain ⟨⟨v3, a3, e3⟩, g3⟩ : ∃ t, gS b'.2 a2 e2' 1 = t := ⟨_, rfl⟩
  simp only at k3 la3
  rw [g3] at k3 la3
  simp only at k1 k2 k3 la3
  have hR : readS b'.2 w = ((readM b'.2 w 34 a3 e3 (decide (v3 = 1)) []).1, (if (readM b'.2 w 34 a3 e3 (decide (v3 = 1)) []).1 = 0 then v2 else 0), (readM b'.2 w 34 a3 e3 (decide (v3 = 1)) []).2) := by
    rw [readS, if_pos hwi, if_neg h0, if_neg (not_not_intro hz), if_neg (not_not_intro h3)]
    simp only [Int.toNat_natCast, g1, g2, g3]
  rw [readSV, hR]
  have htail := stRead_tail (H := H) hw hb hby (fun a ha => st_miss hw F hsi H b' hb hby ha 0) v2 (readM b'.2 w 34 a3 e3 (decide (v3 = 1)) []) 34
  have hinv : ∀ σ, σ = L 114 ((((((Tr.full 7).put (path 1) (ai w)).put (path 4) (.lbox [ai 0, nilS])).put (path 6) (.ptr (H.length + 1) 0 2)).put (path 7) (.lbox [ai v2, nilS])).put (path 8) (ab (decide (v3 = 1)))) → InvSr H w b' v2 (readM b'.2 w 34 a3 e3 (decide (v3 = 1)) []) 34 σ (RS H b' a3 e3) := fun σ h => ⟨a3, e3, _, [], by simp, by simp, la3, rfl, rfl, h⟩
  obtain ⟨R, hRR⟩ : ∃ t, readM b'.2 w 34 a3 e3 (decide (v3 = 1)) [] = t := ⟨_, rfl⟩
  rw [hRR] at hR htail hinv ⊢
  have hone := eq1 v3
  replace k1 : callW P f_q37 [.ptr (H.length + 1) 0 2, ai 4] (H ++ [.row [bv b', ai 0], .row [.ptr H.length 0 2, ai 0]]) = some (ai v1, RS H b' a1 e1) := k1
  have l1 : (RS H b' a1 e1).length = H.length + 2 := by simp [RS]
  have l2 : (RS H b' a2 e2').length = H.length + 2 := by simp [RS]
  have l3 : (RS H b' a3 e3).length = H.length + 2 := by simp [RS]
  generalize RS H b' a3 e3 = G3 at *
  generalize RS H b' a2 e2' = G2 at *
  generalize RS H b' a1 e1 = G1 at *
  rw [ends_eq]
  clear hRR hR g1 g2 g3 n0 n1
  refine call_post 7 114 rfl (rfl : P.T f_q15 = some F_q15) rfl (le_ok rfl) (PostSr H b' v2 R) ?_ ?_
  · rintro e σ G ⟨rfl, ⟨a', e', rfl⟩, c, h2⟩
    refine ⟨rfl, _, h2, by simp, ?_⟩
    simp [RS]
    split <;> rfl
  rw [F_q15]; simp -implicitDefEqProofs [-toCells, -AV.one, -forget, c_q15, -decide_not, -binA_and, binA_andI, keepB, goodB_L, sameV, dstNot, dstNe, SOpG.reads, SOp.slots, SX.slots, SOp.noL, rdV, selfE_lst, selfE, selfEs, eqV, hW, hlen, h0', h0'', q1, a128, a112, hr, k1, k2, k3, hone]
  refine htail _ _ (hinv _ ?_)
  simp [tsc0_q15]
theorem st_Read_any (b : Bs) (hb : b.2.length ≤ 8192) (hby : Bytes b.2) (w : Int) (H : Heap) :
    ∃ k : Nat, callW P f_q15 [bv b, ai w] H = some (readSV b.2 w, H ++ List.replicate k .other) := by
  by_cases h10 : w = 10
  · subst h10
    exact st_Read (w := 10) (.inl rfl) step10 rfl b hb hby H
  by_cases h16 : w = 16
  · subst h16
    exact st_Read (w := 16) (.inr rfl) step16 rfl b hb hby H
  have hW : ∀ H, callW P f_q36 [ai w] H = some (ab false, H) := fun H => by rw [st_isWidth, decide_eq_false (by omega)]
  have hR : readS b.2 w = (9, 0, []) := by rw [readS, if_neg (by omega)]
  refine ⟨0, ?_⟩
  rw [readSV, hR]
  clear hR hby
  rw [call_L 7 rfl (rfl : P.T f_q15 = some F_q15) (le_ok rfl)]; simp -implicitDefEqProofs [-toCells, -AV.one, -forget, F_q15, c_q15, hW, mvs]
end Go.A.V.S

namespace Go.A.V.S
open Go Go.A
set_option linter.unusedSimpArgs false
set_option linter.unusedVariables false
end Go.A.V.S

namespace Go.A.V.S
open Go Go.A
set_option linter.unusedSimpArgs false
set_option linter.unusedVariables false
end Go.A.V.S
