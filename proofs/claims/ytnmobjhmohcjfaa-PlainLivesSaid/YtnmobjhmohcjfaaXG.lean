/- Which configs may be. -/
import Derived.Test.YtnmobjhmohcjfaaXA
import Derived.Test.YtnmobjhmohcjfaaV14
import Derived.Test.YtnmobjhmohcjfaaXF
set_option linter.unusedSimpArgs false
set_option linter.unusedVariables false
set_option linter.unnecessarySimpa false
namespace Go.A.V.S
open Go Go.A
set_option linter.unusedSimpArgs false
set_option linter.unusedVariables false
structure Cfg where
  mode : Int
  bits : Int
  window : Int
  reorder : Int
  pollRetx : Int
  prohibit : Int
  pollPDU : Int
  pollByte : Int
  maxRetx : Int
  queue : Int
def Cfg.v (c : Cfg) : List AV := [ai c.mode, ai c.bits, ai c.window, ai c.reorder, ai c.pollRetx, ai c.prohibit, ai c.pollPDU, ai c.pollByte, ai c.maxRetx, ai c.queue]
def inn (x : Int × Int × Int) : Bool := !decide (x.1 < x.2.1 ∨ x.1 > x.2.2)
def tri (x : Int × Int × Int) : List AV := [ai x.1, ai x.2.1, ai x.2.2]
def Cfg.tm (c : Cfg) : Bool := decide ([c.mode, c.bits, c.window, c.reorder, c.pollRetx, c.prohibit, c.pollPDU, c.pollByte, c.maxRetx, c.queue] = [0, 0, 0, 0, 0, 0, 0, 0, 0, c.queue])
def Cfg.plainUM (c : Cfg) : Bool := decide ([c.mode, c.bits, c.window, c.reorder, c.pollRetx, c.prohibit, c.pollPDU, c.pollByte, c.maxRetx, c.queue] = [1, c.bits, c.window, c.reorder, 0, 0, 0, 0, 0, c.queue])
def Cfg.um (c : Cfg) : Bool := decide (c.bits = 5 ∨ c.bits = 10) && (c.plainUM && [(c.window, (1, if c.bits = 5 then 16 else 512)), (c.reorder, (1, 1000))].all inn)
def Cfg.am (c : Cfg) : Bool := decide (c.bits = 10 ∨ c.bits = 16) && [(c.window, (1, if c.bits = 10 then 512 else 32768)), (c.reorder, (1, 1000)), (c.pollRetx, (1, 1000)), (c.prohibit, (0, 1000)), (c.pollPDU, (1, 1000)), (c.pollByte, (1, 20000)), (c.maxRetx, (1, 32))].all inn
def Cfg.chk (c : Cfg) : Nat :=
  if c.mode = 0 ∨ c.mode = 1 ∨ c.mode = 2 then (if (if c.mode = 0 then c.tm else if c.mode = 1 then c.um else c.am) && [(c.queue, ((1 : Int), (20000 : Int)))].all inn then 0 else 1) else 9
theorem within_1 (a b c : Int) (H : Heap) : callW P f_pdu_within_1 [.agg [ai a, ai b, ai c]] H = some (ab (!inn (a, b, c)), H) := by
  by_cases h1 : a < b
  · rw [call_L 5 rfl (rfl : P.T f_pdu_within_1 = some F_pdu_within_1) (le_ok rfl)]; simp -implicitDefEqProofs (disch := first | omega | (simp; done) | fail) [-toCells, -AV.one, -forget, F_pdu_within_1, c_pdu_within_1, cmp_ilt, cmp_ilf, cmp_ile, cmp_ilg, cmp_ine, cmp_nlt, cmp_nlf, cmp_nle, cmp_nne, wrap_i64, wrap_u64, inn, h1]
  · by_cases h2 : a > c
    · have h2' : c < a := h2
      rw [call_L 5 rfl (rfl : P.T f_pdu_within_1 = some F_pdu_within_1) (le_ok rfl)]; simp -implicitDefEqProofs (disch := first | omega | (simp; done) | fail) [-toCells, -AV.one, -forget, F_pdu_within_1, c_pdu_within_1, cmp_ilt, cmp_ilf, cmp_ile, cmp_ilg, cmp_ine, cmp_nlt, cmp_nlf, cmp_nle, cmp_nne, wrap_i64, wrap_u64, inn, h1, h2, h2']
    · have h2' : ¬ c < a := h2
      rw [call_L 5 rfl (rfl : P.T f_pdu_within_1 = some F_pdu_within_1) (le_ok rfl)]; simp -implicitDefEqProofs (disch := first | omega | (simp; done) | fail) [-toCells, -AV.one, -forget, F_pdu_within_1, c_pdu_within_1, cmp_ilt, cmp_ilf, cmp_ile, cmp_ilg, cmp_ine, cmp_nlt, cmp_nlf, cmp_nle, cmp_nne, wrap_i64, wrap_u64, inn, h1, h2, h2']
theorem within_l (x : Int × Int × Int) (r : List (Int × Int × Int)) (hr : r.length ≤ 100) (H : Heap) : callW P f_pdu_within [.vs 3 none ((x :: r).map tri)] H = some (ab ((x :: r).all inn), H) := by
  have h := fun H => cnt_call (f1 := f_slices_ContainsFunc_s_3_int_3_int) (f0 := f_slices_IndexFunc_s_3_int_3_int) (k := 3) (ld := some 3) (z := true) (l := (x :: r).map tri) (f := f_pdu_within_1) (cs := []) (p := fun c => match c with
    | [.c (.int _ a), .c (.int _ b), .c (.int _ c)] => !inn (a, b, c)
    | _ => false) (H := H) rfl (fun _ _ => rfl) rfl rfl rfl (fun _ _ => rfl) rfl (.inl rfl) (fun c hc => by obtain ⟨n, _, rfl⟩ := List.mem_map.1 hc; rfl) (by rw [List.length_map, List.length_cons]; omega) rfl rfl (fun c hc => by obtain ⟨n, _, rfl⟩ := List.mem_map.1 hc; exact ⟨rfl, rfl, rfl⟩)
    (fun c hc => by
      obtain ⟨n, _, rfl⟩ := List.mem_map.1 hc
      exact within_1 _ _ _ H)
  have e : (((x :: r).map tri).any fun c => match c with
    | [.c (.int _ a), .c (.int _ b), .c (.int _ c)] => !inn (a, b, c)
    | _ => false) = !((x :: r).all inn) := by
    rw [List.any_map, List.all_eq_not_any_not, Bool.not_not]
    rfl
  replace h : ∀ H, callW P f_slices_ContainsFunc_s_3_int_3_int [.vs 3 none ((x :: r).map tri), .fn f_pdu_within_1 []] H = some (ab (!((x :: r).all inn)), H) := fun H => by rw [← e]; exact h H
  generalize (x :: r).all inn = bb at *
  have hf : ((x :: r).map tri).length = r.length + 1 := by simp
  generalize (x :: r).map tri = l at *
  rw [call_L 3 rfl (rfl : P.T f_pdu_within = some F_pdu_within) (le_ok rfl)]; simp -implicitDefEqProofs [-toCells, -AV.one, -forget, F_pdu_within, c_pdu_within, h]
theorem cfg_eq (a0 a1 a2 a3 a4 a5 a6 a7 a8 a9 b0 b1 b2 b3 b4 b5 b6 b7 b8 b9 : Int) : binA .eql (.agg [.i, .i, .i, .i, .i, .i, .i, .i, .i, .i]) (.agg [ai a0, ai a1, ai a2, ai a3, ai a4, ai a5, ai a6, ai a7, ai a8, ai a9]) (.agg [ai b0, ai b1, ai b2, ai b3, ai b4, ai b5, ai b6, ai b7, ai b8, ai b9]) = some (ab (decide ([a0, a1, a2, a3, a4, a5, a6, a7, a8, a9] = [b0, b1, b2, b3, b4, b5, b6, b7, b8, b9]))) := by
  rw [binA_eqa, if_pos ⟨rfl, rfl⟩]
  exact congrArg (Option.map ab) (eqAll_ints [a0, a1, a2, a3, a4, a5, a6, a7, a8, a9] [b0, b1, b2, b3, b4, b5, b6, b7, b8, b9] rfl)
theorem pdu_isTM (c : Cfg) (H : Heap) : callW P f_pdu_isTM [.agg c.v] H = some (ab c.tm, H) := by
  obtain ⟨mo, bi, wi, re, pr, ph, pp, pb, mr, q⟩ := c
  have hE := cfg_eq mo bi wi re pr ph pp pb mr q 0 0 0 0 0 0 0 0 0 q
  replace hE : _ = some (ab (Cfg.tm ⟨mo, bi, wi, re, pr, ph, pp, pb, mr, q⟩)) := hE
  generalize Cfg.tm ⟨mo, bi, wi, re, pr, ph, pp, pb, mr, q⟩ = t at *
  rw [call_L 4 rfl (rfl : P.T f_pdu_isTM = some F_pdu_isTM) (le_ok rfl)]; simp -implicitDefEqProofs [-toCells, -AV.one, -forget, F_pdu_isTM, c_pdu_isTM, Cfg.v, hE]
theorem pdu_isUM (c : Cfg) (H : Heap) : callW P f_pdu_isUM [.agg c.v] H = some (ab c.um, H) := by
  obtain ⟨mo, bi, wi, re, pr, ph, pp, pb, mr, q⟩ := c
  by_cases h5 : bi = 5
  · subst h5
    have hE := cfg_eq mo 5 wi re pr ph pp pb mr q 1 5 wi re 0 0 0 0 0 q
    replace hE : _ = some (ab (Cfg.plainUM ⟨mo, 5, wi, re, pr, ph, pp, pb, mr, q⟩)) := hE
    have hW := fun H => within_l (wi, (1, 16)) [(re, (1, 1000))] (by simp) H
    replace hW : ∀ H, callW P f_pdu_within [.vs 3 none [[ai wi, ai 1, ai 16], [ai re, ai 1, ai 1000]]] H = _ := hW
    rw [Cfg.um]
    simp only [decide_true, Bool.true_and, true_or, if_true]
    generalize Cfg.plainUM ⟨mo, 5, wi, re, pr, ph, pp, pb, mr, q⟩ = t at *
    generalize List.all [(wi, ((1 : Int), (16 : Int))), (re, (1, 1000))] inn = t2 at *
    cases t with
    | true => rw [call_L 6 rfl (rfl : P.T f_pdu_isUM = some F_pdu_isUM) (le_ok rfl)]; simp -implicitDefEqProofs (disch := first | omega | (simp; done) | fail) [-toCells, -AV.one, -forget, F_pdu_isUM, c_pdu_isUM, cmp_ilt, cmp_ilf, cmp_ile, cmp_ilg, cmp_ine, cmp_nlt, cmp_nlf, cmp_nle, cmp_nne, wrap_i64, wrap_u64, keepB, -goodB, goodB_L, sameV, dstNot, dstNe, SOpG.reads, SOp.slots, SX.slots, SOp.noL, rdV_load, selfE_lst, selfE, selfEs, eqV, Cfg.v, hE, hW]
    | false => rw [call_L 6 rfl (rfl : P.T f_pdu_isUM = some F_pdu_isUM) (le_ok rfl)]; simp -implicitDefEqProofs (disch := first | omega | (simp; done) | fail) [-toCells, -AV.one, -forget, F_pdu_isUM, c_pdu_isUM, cmp_ilt, cmp_ilf, cmp_ile, cmp_ilg, cmp_ine, cmp_nlt, cmp_nlf, cmp_nle, cmp_nne, wrap_i64, wrap_u64, keepB, -goodB, goodB_L, sameV, dstNot, dstNe, SOpG.reads, SOp.slots, SX.slots, SOp.noL, rdV_load, selfE_lst, selfE, selfEs, eqV, Cfg.v, hE]
  by_cases h10 : bi = 10
  · subst h10
    have hE := cfg_eq mo 10 wi re pr ph pp pb mr q 1 10 wi re 0 0 0 0 0 q
    replace hE : _ = some (ab (Cfg.plainUM ⟨mo, 10, wi, re, pr, ph, pp, pb, mr, q⟩)) := hE
    have hW := fun H => within_l (wi, (1, 512)) [(re, (1, 1000))] (by simp) H
    replace hW : ∀ H, callW P f_pdu_within [.vs 3 none [[ai wi, ai 1, ai 512], [ai re, ai 1, ai 1000]]] H = _ := hW
    rw [Cfg.um]
    simp only [show ¬ (10 : Int) = 5 by decide, decide_true, Bool.true_and, or_true, if_false]
    generalize Cfg.plainUM ⟨mo, 10, wi, re, pr, ph, pp, pb, mr, q⟩ = t at *
    generalize List.all [(wi, ((1 : Int), (512 : Int))), (re, (1, 1000))] inn = t2 at *
    cases t with
    | true => rw [call_L 6 rfl (rfl : P.T f_pdu_isUM = some F_pdu_isUM) (le_ok rfl)]; simp -implicitDefEqProofs (disch := first | omega | (simp; done) | fail) [-toCells, -AV.one, -forget, F_pdu_isUM, c_pdu_isUM, cmp_ilt, cmp_ilf, cmp_ile, cmp_ilg, cmp_ine, cmp_nlt, cmp_nlf, cmp_nle, cmp_nne, wrap_i64, wrap_u64, keepB, -goodB, goodB_L, sameV, dstNot, dstNe, SOpG.reads, SOp.slots, SX.slots, SOp.noL, rdV_load, selfE_lst, selfE, selfEs, eqV, Cfg.v, hE, hW]
    | false => rw [call_L 6 rfl (rfl : P.T f_pdu_isUM = some F_pdu_isUM) (le_ok rfl)]; simp -implicitDefEqProofs (disch := first | omega | (simp; done) | fail) [-toCells, -AV.one, -forget, F_pdu_isUM, c_pdu_isUM, cmp_ilt, cmp_ilf, cmp_ile, cmp_ilg, cmp_ine, cmp_nlt, cmp_nlf, cmp_nle, cmp_nne, wrap_i64, wrap_u64, keepB, -goodB, goodB_L, sameV, dstNot, dstNe, SOpG.reads, SOp.slots, SX.slots, SOp.noL, rdV_load, selfE_lst, selfE, selfEs, eqV, Cfg.v, hE]
  rw [Cfg.um, decide_eq_false (by simp only; omega), Bool.false_and]
  rw [call_L 6 rfl (rfl : P.T f_pdu_isUM = some F_pdu_isUM) (le_ok rfl)]; simp -implicitDefEqProofs [-toCells, -AV.one, -forget, F_pdu_isUM, c_pdu_isUM, Cfg.v, h5, h10]
end Go.A.V.S

namespace Go.A.V.S
open Go Go.A
set_option linter.unusedSimpArgs false
set_option linter.unusedVariables false
set_option maxHeartbeats 1000000 in
theorem pdu_isAM (c : Cfg) (H : Heap) : callW P f_pdu_isAM [.agg c.v] H = some (ab c.am, H) := by
  obtain ⟨mo, bi, wi, re, pr, ph, pp, pb, mr, q⟩ := c
  by_cases h5 : bi = 10
  · subst h5
    have hW := fun H => within_l (wi, (1, 512)) [(re, (1, 1000)), (pr, (1, 1000)), (ph, (0, 1000)), (pp, (1, 1000)), (pb, (1, 20000)), (mr, (1, 32))] (by simp) H
    replace hW : ∀ H, callW P f_pdu_within [.vs 3 none [[ai wi, ai 1, ai 512], [ai re, ai 1, ai 1000], [ai pr, ai 1, ai 1000], [ai ph, ai 0, ai 1000], [ai pp, ai 1, ai 1000], [ai pb, ai 1, ai 20000], [ai mr, ai 1, ai 32]]] H = _ := hW
    rw [Cfg.am]
    simp only [decide_true, Bool.true_and, true_or, if_true]
    generalize List.all [(wi, ((1 : Int), (512 : Int))), (re, (1, 1000)), (pr, (1, 1000)), (ph, (0, 1000)), (pp, (1, 1000)), (pb, (1, 20000)), (mr, (1, 32))] inn = t2 at *
    have w9 : IntKind.i64.wrap 9 = 9 := rfl
    have w2 : IntKind.i64.wrap 512 = 512 := rfl
    rw [call_L 6 rfl (rfl : P.T f_pdu_isAM = some F_pdu_isAM) (le_ok rfl)]; simp -implicitDefEqProofs [-toCells, -AV.one, -forget, F_pdu_isAM, c_pdu_isAM, keepB, -goodB, goodB_L, sameV, dstNot, dstNe, SOpG.reads, SOp.slots, SX.slots, SOp.noL, rdV_load, selfE_lst, selfE, selfEs, eqV, Cfg.v, hW, w9, w2]
  by_cases h10 : bi = 16
  · subst h10
    have hW := fun H => within_l (wi, (1, 32768)) [(re, (1, 1000)), (pr, (1, 1000)), (ph, (0, 1000)), (pp, (1, 1000)), (pb, (1, 20000)), (mr, (1, 32))] (by simp) H
    replace hW : ∀ H, callW P f_pdu_within [.vs 3 none [[ai wi, ai 1, ai 32768], [ai re, ai 1, ai 1000], [ai pr, ai 1, ai 1000], [ai ph, ai 0, ai 1000], [ai pp, ai 1, ai 1000], [ai pb, ai 1, ai 20000], [ai mr, ai 1, ai 32]]] H = _ := hW
    rw [Cfg.am]
    simp only [show ¬ (16 : Int) = 10 by decide, decide_true, Bool.true_and, or_true, if_false]
    generalize List.all [(wi, ((1 : Int), (32768 : Int))), (re, (1, 1000)), (pr, (1, 1000)), (ph, (0, 1000)), (pp, (1, 1000)), (pb, (1, 20000)), (mr, (1, 32))] inn = t2 at *
    have w9 : IntKind.i64.wrap 15 = 15 := rfl
    have w2 : IntKind.i64.wrap 32768 = 32768 := rfl
    rw [call_L 6 rfl (rfl : P.T f_pdu_isAM = some F_pdu_isAM) (le_ok rfl)]; simp -implicitDefEqProofs [-toCells, -AV.one, -forget, F_pdu_isAM, c_pdu_isAM, keepB, -goodB, goodB_L, sameV, dstNot, dstNe, SOpG.reads, SOp.slots, SX.slots, SOp.noL, rdV_load, selfE_lst, selfE, selfEs, eqV, Cfg.v, hW, w9, w2]
  rw [Cfg.am, decide_eq_false (by simp only; omega), Bool.false_and]
  rw [call_L 6 rfl (rfl : P.T f_pdu_isAM = some F_pdu_isAM) (le_ok rfl)]; simp -implicitDefEqProofs [-toCells, -AV.one, -forget, F_pdu_isAM, c_pdu_isAM, Cfg.v, h5, h10]
theorem pdu_Check (c : Cfg) (H : Heap) : callW P f_pdu_Check [.agg c.v] H = some (ai c.chk, H) := by
  have h1 := fun H => pdu_isTM c H
  have h2 := fun H => pdu_isUM c H
  have h3 := fun H => pdu_isAM c H
  have hW := fun H => within_l (c.queue, (1, 20000)) [] (by simp) H
  replace hW : ∀ H, callW P f_pdu_within [.vs 3 none [[ai c.queue, ai 1, ai 20000]]] H = _ := hW
  rw [Cfg.chk]
  generalize List.all [(c.queue, ((1 : Int), (20000 : Int)))] inn = b at *
  generalize c.tm = t1 at *
  generalize c.um = t2 at *
  generalize c.am = t3 at *
  obtain ⟨mo, bi, wi, re, pr, ph, pp, pb, mr, q⟩ := c
  simp only [Cfg.v] at h1 h2 h3 hW ⊢
  by_cases m0 : mo = 0
  · subst m0
    rw [if_pos (show (0 : Int) = 0 ∨ (0 : Int) = 1 ∨ (0 : Int) = 2 by decide), if_pos (show (0 : Int) = 0 from rfl)]
    cases t1 with
    | true =>
      cases b with
      | true => rw [call_L 5 rfl (rfl : P.T f_pdu_Check = some F_pdu_Check) (le_ok rfl)]; simp -implicitDefEqProofs [-toCells, -AV.one, -forget, F_pdu_Check, c_pdu_Check, h1, hW]
      | false => rw [call_L 5 rfl (rfl : P.T f_pdu_Check = some F_pdu_Check) (le_ok rfl)]; simp -implicitDefEqProofs [-toCells, -AV.one, -forget, F_pdu_Check, c_pdu_Check, h1, hW]
    | false => rw [call_L 5 rfl (rfl : P.T f_pdu_Check = some F_pdu_Check) (le_ok rfl)]; simp -implicitDefEqProofs [-toCells, -AV.one, -forget, F_pdu_Check, c_pdu_Check, h1]
  by_cases m1 : mo = 1
  · subst m1
    rw [if_pos (show (1 : Int) = 0 ∨ (1 : Int) = 1 ∨ (1 : Int) = 2 by decide), if_neg (show ¬ (1 : Int) = 0 by decide), if_pos (show (1 : Int) = 1 from rfl)]
    cases t2 with
    | true =>
      cases b with
      | true => rw [call_L 5 rfl (rfl : P.T f_pdu_Check = some F_pdu_Check) (le_ok rfl)]; simp -implicitDefEqProofs [-toCells, -AV.one, -forget, F_pdu_Check, c_pdu_Check, h2, hW]
      | false => rw [call_L 5 rfl (rfl : P.T f_pdu_Check = some F_pdu_Check) (le_ok rfl)]; simp -implicitDefEqProofs [-toCells, -AV.one, -forget, F_pdu_Check, c_pdu_Check, h2, hW]
    | false => rw [call_L 5 rfl (rfl : P.T f_pdu_Check = some F_pdu_Check) (le_ok rfl)]; simp -implicitDefEqProofs [-toCells, -AV.one, -forget, F_pdu_Check, c_pdu_Check, h2]
  by_cases m2 : mo = 2
  · subst m2
    rw [if_pos (show (2 : Int) = 0 ∨ (2 : Int) = 1 ∨ (2 : Int) = 2 by decide), if_neg (show ¬ (2 : Int) = 0 by decide), if_neg (show ¬ (2 : Int) = 1 by decide)]
    cases t3 with
    | true =>
      cases b with
      | true => rw [call_L 5 rfl (rfl : P.T f_pdu_Check = some F_pdu_Check) (le_ok rfl)]; simp -implicitDefEqProofs [-toCells, -AV.one, -forget, F_pdu_Check, c_pdu_Check, h3, hW]
      | false => rw [call_L 5 rfl (rfl : P.T f_pdu_Check = some F_pdu_Check) (le_ok rfl)]; simp -implicitDefEqProofs [-toCells, -AV.one, -forget, F_pdu_Check, c_pdu_Check, h3, hW]
    | false => rw [call_L 5 rfl (rfl : P.T f_pdu_Check = some F_pdu_Check) (le_ok rfl)]; simp -implicitDefEqProofs [-toCells, -AV.one, -forget, F_pdu_Check, c_pdu_Check, h3]
  rw [if_neg (show ¬ (mo = 0 ∨ mo = 1 ∨ mo = 2) by omega)]
  rw [call_L 5 rfl (rfl : P.T f_pdu_Check = some F_pdu_Check) (le_ok rfl)]; simp -implicitDefEqProofs [-toCells, -AV.one, -forget, F_pdu_Check, c_pdu_Check, m0, m1, m2]
end Go.A.V.S

namespace Go.A.V.S
open Go Go.A
set_option linter.unusedSimpArgs false
set_option linter.unusedVariables false
/-- Two rows that are there. -/
structure Bt (H : Heap) (rq rs : Nat) : Prop where
  q : rq < H.length
  s : rs < H.length
  ne : rq ≠ rs
/-- A unit that is a text. -/
def rawV (e : Nat) (b : Bs) : AV := .tup [.agg [ai 0, bv b, ai 0, ai 0, nilS, ab false, ai 0, ai 0, ab false, ab false, ai 0, nilS, ai 0, nilS], ai e]
theorem raw_Read (b : Bs) (h0 : b.2.length ≠ 0) (h1 : b.2.length ≤ 1000) (H : Heap) : callW P f_pdu_readRaw [bv b] H = some (rawV 0 b, H) := by
  have hlen := bv_len b
  have hc := fun H => Clone_bs b (by omega) H
  have h0' : ¬ (b.2.length : Int) = 0 := by omega
  have h1' : ¬ (1000 : Int) < b.2.length := by omega
  have h1'' : ¬ (b.2.length : Int) > 1000 := by omega
  have hf : bv b = lst b.1 1 none (byteCs b.2) := rfl
  rw [rawV]
  obtain ⟨n, hn⟩ : ∃ t, b.2.length = t := ⟨_, rfl⟩
  rw [hn] at hlen h0 h0' h1 h1' h1''
  rw [hf] at hlen hc ⊢
  rw [call_L 5 rfl (rfl : P.T f_pdu_readRaw = some F_pdu_readRaw) (le_ok rfl)]; simp -implicitDefEqProofs [-toCells, -AV.one, -forget, F_pdu_readRaw, c_pdu_readRaw, hlen, h0, h0', h1, h1', h1'', hc]
section
variable {H : Heap} {rq rs : Nat} {q : QM} {z : Bool}
theorem Bt.app (h : Bt H rq rs) (X : Heap) : Bt (H ++ X) rq rs := ⟨by rw [List.length_append]; have := h.q; omega, by rw [List.length_append]; have := h.s; omega, h.ne⟩
end
end Go.A.V.S
