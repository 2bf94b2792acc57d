/- What must come of fixed calls (pdu). -/
import Derived.Test.YtnmobjhmohcjfaaXI
import Derived.Test.YtnmobjhmohcjfaaXC
import Derived.Test.YtnmobjhmohcjfaaXD
import Derived.Test.YtnmobjhmohcjfaaXG
set_option linter.unusedSimpArgs false
set_option linter.unusedVariables false
set_option linter.unnecessarySimpa false
namespace Go.A.V.S
open Go Go.A
set_option linter.unusedSimpArgs false
set_option linter.unusedVariables false
def cU : Cfg := ⟨2, 10, 512, 4, 8, 3, 4, 500, 4, 5000⟩
theorem pdu_Usual2 (H : Heap) : callW P f_q1 [ai 2] H = some (.agg cU.v, H) := by
  rw [call_L 5 rfl (rfl : P.T f_q1 = some F_q1) (le_ok rfl)]; simp -implicitDefEqProofs [-toCells, -AV.one, -forget, F_q1, c_q1, cU, Cfg.v]
theorem cU_chk : cU.chk = 0 := by decide
set_option maxRecDepth 100000 in
theorem al_s : readS [0, 20] 10 = (0, 5, []) := by decide
set_option maxRecDepth 100000 in
theorem al_r : readR [128, 5, 65] 10 = (0, [[65]]) := by decide
set_option maxRecDepth 100000 in
theorem al_sn : hSN [128, 5, 65] 10 = 5 := by decide
theorem al_1 {z : Bool} {e : Nat} {x : Un} (h : ReadP cU (z, [0, 20]) e x) : e = 0 ∧ x = ⟨3, (true, []), um0, am0, ⟨5, true, []⟩⟩ := by
  have n0 : numAt [0, 20] 0 1 = 0 := by decide
  cases h with
  | bad h => exact (h cU_chk).elim
  | none _ m => exact absurd m (by decide)
  | long _ m => exact absurd m (by decide)
  | raw _ m => exact absurd m (by decide)
  | umE _ m => exact absurd m (by decide)
  | um _ m => exact absurd m (by decide)
  | stE _ _ _ _ e =>
    exact absurd (congrArg Prod.fst al_s) e
  | st _ _ _ _ ack ms e =>
    have := al_s.symm.trans e
    simp only [Prod.mk.injEq] at this
    obtain ⟨_, rfl, rfl⟩ := this
    exact ⟨rfl, rfl⟩
  | amE _ _ n => exact (n.elim (by simp) (fun h => h n0)).elim
  | am _ _ n => exact (n.elim (by simp) (fun h => h n0)).elim
theorem al_2 {z : Bool} {e : Nat} {x : Un} (h : ReadP cU (z, [128, 5, 65]) e x) : e = 0 ∧ x.kind = 2 ∧ x.am.sn = 5 := by
  have n0 : numAt [128, 5, 65] 0 1 = 1 := by decide
  cases h with
  | bad h => exact (h cU_chk).elim
  | none _ m => exact absurd m (by decide)
  | long _ m => exact absurd m (by decide)
  | raw _ m => exact absurd m (by decide)
  | umE _ m => exact absurd m (by decide)
  | um _ m => exact absurd m (by decide)
  | stE _ _ _ n => exact absurd (n0.symm.trans n) (by decide)
  | st _ _ _ n => exact absurd (n0.symm.trans n) (by decide)
  | amE _ _ _ e => exact absurd (congrArg Prod.fst al_r) e
  | am _ _ _ out e => exact ⟨rfl, rfl, congrArg (fun n : Nat => (n : Int)) al_sn⟩
def uK1 : Un := ⟨1, (true, []), um0, am0, st0⟩
theorem al_3 {e : Nat} {out : List Nat} (h : WriteP cU uK1 e out) : e = 7 ∧ out = [] := by
  cases h with
  | bad h => exact (h cU_chk).elim
  | rawE _ m => exact absurd m (by decide)
  | raw _ m => exact absurd m (by decide)
  | umE _ m => exact absurd m (by decide)
  | um _ m => exact absurd m (by decide)
  | amE _ _ k => exact absurd k (by decide)
  | am _ _ k => exact absurd k (by decide)
  | stE _ _ k => exact absurd k (by decide)
  | st _ _ k => exact absurd k (by decide)
  | state => exact ⟨rfl, rfl⟩
set_option maxHeartbeats 1000000 in
theorem pAlive (H : Heap) : ∃ k, callW P f_q3 [] H = some (ab true, H ++ List.replicate k .other) := by
  have u1 := fun H => pdu_Usual2 H
  obtain ⟨e1, x1, k1, p1, c1⟩ := pdu_Read cU (false, [0, 20]) (by decide) (show ∀ b ∈ [0, 20], b < 256 from by decide) H
  obtain ⟨rfl, rfl⟩ := al_1 p1
  obtain ⟨G1, hG1⟩ : ∃ t, H ++ List.replicate k1 AObj.other = t := ⟨_, rfl⟩
  rw [hG1] at c1
  obtain ⟨e2, x2, k2, p2, c2⟩ := pdu_Read cU (false, [128, 5, 65]) (by decide) (show ∀ b ∈ [128, 5, 65], b < 256 from by decide) G1
  obtain ⟨rfl, q1, q2⟩ := al_2 p2
  rw [← hG1, oth_app, hG1] at c2
  obtain ⟨G2, hG2⟩ : ∃ t, H ++ List.replicate (k1 + k2) AObj.other = t := ⟨_, rfl⟩
  rw [hG2] at c2
  obtain ⟨e3, z3, out, k3, p3, c3⟩ := pdu_Write cU uK1 ⟨by decide, by decide, by decide, by decide, by decide, by decide⟩ G2
  obtain ⟨rfl, rfl⟩ := al_3 p3
  rw [← hG2, oth_app, hG2] at c3
  obtain ⟨G3, hG3⟩ : ∃ t, H ++ List.replicate (k1 + k2 + k3) AObj.other = t := ⟨_, rfl⟩
  rw [hG3] at c3
  have d1 := fun H => pdu_Check ⟨0, 0, 0, 0, 0, 0, 0, 0, 0, 0⟩ H
  have d2 := fun H => pdu_Check ⟨3, 0, 0, 0, 0, 0, 0, 0, 0, 0⟩ H
  have v1 : (Cfg.chk ⟨0, 0, 0, 0, 0, 0, 0, 0, 0, 0⟩) = 1 := by decide
  have v2 : (Cfg.chk ⟨3, 0, 0, 0, 0, 0, 0, 0, 0, 0⟩) = 9 := by decide
  rw [v1] at d1
  rw [v2] at d2
  obtain ⟨kk, r, um, ⟨po, fi, sn, pa, la, off, z0, ff⟩, st⟩ := x2
  simp only at q1 q2
  subst q1 q2
  replace u1 : ∀ H, callW P f_q1 [ai 2] H = some (.agg [ai 2, ai 10, ai 512, ai 4, ai 8, ai 3, ai 4, ai 500, ai 4, ai 5000], H) := u1
  replace c1 : callW P f_q4 [.agg [ai 2, ai 10, ai 512, ai 4, ai 8, ai 3, ai 4, ai 500, ai 4, ai 5000], .vs 1 none [[.c (.int .u8 0)], [.c (.int .u8 20)]]] H = some (.tup [.agg [ai 3, nilS, ai 0, ai 0, nilS, ab false, ai 0, ai 0, ab false, ab false, ai 0, nilS, ai 5, nilS], ai 0], G1) := c1
  simp only [Un.v] at c2
  replace c2 : callW P f_q4 [.agg [ai 2, ai 10, ai 512, ai 4, ai 8, ai 3, ai 4, ai 500, ai 4, ai 5000], .vs 1 none [[.c (.int .u8 128)], [.c (.int .u8 5)], [.c (.int .u8 65)]]] G1 = some (.tup [.agg [ai 2, bv r, ai um.fi, ai um.sn, lst um.z 1 none (bvs um.ff), ab po, ai fi, ai 5, ab pa, ab la, ai off, lst z0 1 none (bvs ff), ai st.ack, lst st.z 4 none (mvs st.ms)], ai 0], G2) := c2
  replace c3 : callW P f_q5 [.agg [ai 2, ai 10, ai 512, ai 4, ai 8, ai 3, ai 4, ai 500, ai 4, ai 5000], .agg [ai 1, nilS, ai 0, ai 0, nilS, ab false, ai 0, ai 0, ab false, ab false, ai 0, nilS, ai 0, nilS]] G2 = some (.tup [bv (z3, []), ai 7], G3) := c3
  replace d1 : ∀ H, callW P f_q6 [.agg [ai 0, ai 0, ai 0, ai 0, ai 0, ai 0, ai 0, ai 0, ai 0, ai 0]] H = some (ai 1, H) := d1
  replace d2 : ∀ H, callW P f_q6 [.agg [ai 3, ai 0, ai 0, ai 0, ai 0, ai 0, ai 0, ai 0, ai 0, ai 0]] H = some (ai 9, H) := d2
  refine ⟨k1 + k2 + k3, ?_⟩
  clear p1 p2 p3 v1 v2
  rw [call_L 7 rfl (rfl : P.T f_q3 = some F_q3) (le_ok rfl)]; simp -implicitDefEqProofs [-toCells, -AV.one, -forget, F_q3, c_q3, u1, c1, c2, c3, d1, d2]
  rw [← hG3]
  simp
end Go.A.V.S

namespace Go.A.V.S
open Go Go.A
set_option linter.unusedSimpArgs false
set_option linter.unusedVariables false
end Go.A.V.S

namespace Go.A.V.S
open Go Go.A
set_option linter.unusedSimpArgs false
set_option linter.unusedVariables false
/-- What read tells, for PduKinds. -/
theorem kinds_of {c : Cfg} {b : Bs} {e : Nat} {x : Un} (hby : Bytes b.2) (h : ReadP c b e x) :
    (c.chk ≠ 0 ∧ e = c.chk ∧ x.kind = 0) ∨ (c.chk = 0 ∧ e ≠ 0 ∧ (c.mode ≠ 0 ∨ b.2.length = 0 ∨ 1000 < b.2.length)) ∨
    (c.chk = 0 ∧ e = 0 ∧ ((c.mode = 0 ∧ x.kind = 0 ∧ x.raw = b) ∨ (c.mode = 1 ∧ x.kind = 1 ∧ 0 < x.um.ff.length) ∨
      (c.mode = 2 ∧ b.2.length ≠ 0 ∧ ((x.kind = 3 ∧ numAt b.2 0 1 = 0) ∨ (x.kind = 2 ∧ numAt b.2 0 1 ≠ 0))))) := by
  cases h with
  | bad h => exact .inl ⟨h, rfl, rfl⟩
  | none h m l => exact .inr (.inl ⟨h, by simp, .inr (.inl l)⟩)
  | long h m l => exact .inr (.inl ⟨h, by simp, .inr (.inr l)⟩)
  | raw h m => exact .inr (.inr ⟨h, rfl, .inl ⟨m, rfl, rfl⟩⟩)
  | umE h m e => exact .inr (.inl ⟨h, e, .inl (by omega)⟩)
  | um h m out e =>
    obtain ⟨a1, a2, a3⟩ := put_againU (q := umOf b.2 c.bits.toNat out) hby e ⟨rfl, rfl⟩
    have := (sizeU_pos (p := umOf b.2 c.bits.toNat out) (w := c.bits) (by omega)).2.2.2.1
    exact .inr (.inr ⟨h, rfl, .inr (.inl ⟨m, rfl, by simp only; omega⟩)⟩)
  | stE h m _ _ e => exact .inr (.inl ⟨h, e, .inl (by omega)⟩)
  | st h m l n => exact .inr (.inr ⟨h, rfl, .inr (.inr ⟨m, l, .inl ⟨rfl, n⟩⟩)⟩)
  | amE h m _ e => exact .inr (.inl ⟨h, e, .inl (by omega)⟩)
  | am h m n out e =>
    have hn := (readR_ok e).2.2.1
    have hl : b.2.length ≠ 0 := fun h0 => by
      have : b.2 = [] := List.length_eq_zero_iff.1 h0
      rw [this] at hn
      exact hn (by decide)
    exact .inr (.inr ⟨h, rfl, .inr (.inr ⟨m, hl, .inr ⟨rfl, hn⟩⟩)⟩)
set_option maxHeartbeats 1000000 in
theorem lPduKinds (c : Cfg) (b : Bs) (hby : Bytes b.2) (H : Heap) : ∃ k, callW P f_q0 [.agg c.v, bv b] H = some (ab true, H ++ List.replicate k .other) := by
  have hlen := bv_len b
  by_cases h41 : 4100 < b.2.length
  · have h41' : (b.2.length : Int) > 4100 := by omega
    have h41'' : (4100 : Int) < b.2.length := by omega
    obtain ⟨k, hA⟩ := pAlive H
    refine ⟨k, ?_⟩
    obtain ⟨N, hN⟩ : ∃ t, List.replicate k AObj.other = t := ⟨_, rfl⟩
    have hNl : List.replicate N.length AObj.other = N := by rw [← hN]; simp
    rw [hN] at hA ⊢
    obtain ⟨n, hn⟩ : ∃ t, b.2.length = t := ⟨_, rfl⟩
    rw [hn] at hlen h41 h41' h41''
    simp only [Cfg.v]
    clear hn hN
    rw [call_L 7 rfl (rfl : P.T f_q0 = some F_q0) (le_ok rfl)]; simp -implicitDefEqProofs [-toCells, -AV.one, -forget, F_q0, c_q0, hlen, h41, h41', h41'', hA, hNl]
  have h41' : ¬ (b.2.length : Int) > 4100 := by omega
  have h41'' : ¬ (4100 : Int) < b.2.length := by omega
  obtain ⟨e, x, k1, p1, c1⟩ := pdu_Read c b (by omega) hby H
  have hC := fun H => pdu_Check c H
  obtain ⟨G1, hG1⟩ : ∃ t, H ++ List.replicate k1 AObj.other = t := ⟨_, rfl⟩
  rw [hG1] at c1
  obtain ⟨k2, hA⟩ := pAlive G1
  rw [← hG1, oth_app, hG1] at hA
  obtain ⟨N, hN⟩ : ∃ t, List.replicate (k1 + k2) AObj.other = t := ⟨_, rfl⟩
  have hNl : List.replicate N.length AObj.other = N := by rw [← hN]; simp
  refine ⟨k1 + k2, ?_⟩
  rw [hN] at hA ⊢
  have hk := kinds_of hby p1
  simp only [Cfg.v, Un.v] at c1 hC ⊢
  obtain ⟨n, hn⟩ : ∃ t, b.2.length = t := ⟨_, rfl⟩
  rcases hk with ⟨h, rfl, h0⟩ | ⟨h, he, h0⟩ | ⟨h, rfl, ⟨m, h0, h1⟩ | ⟨m, h0, h1⟩ | ⟨m, hl, h0⟩⟩
  · rw [h0] at c1
    rw [hn] at hlen h41 h41' h41''
    obtain ⟨n2, hn2⟩ : ∃ t, c.chk = t := ⟨_, rfl⟩
    rw [hn2] at c1 hC h
    have h' : ¬ (n2 : Int) = 0 := by omega
    clear hn hN p1 hG1 hn2 hby
    rw [call_L 7 rfl (rfl : P.T f_q0 = some F_q0) (le_ok rfl)]; simp -implicitDefEqProofs [-toCells, -AV.one, -forget, F_q0, c_q0, hlen, h41, h41', h41'', hA, hNl, hC, c1, h, h']
  · rw [h] at hC
    replace hC : ∀ H, callW P f_q6 [.agg [ai c.mode, ai c.bits, ai c.window, ai c.reorder, ai c.pollRetx, ai c.prohibit, ai c.pollPDU, ai c.pollByte, ai c.maxRetx, ai c.queue]] H = some (ai 0, H) := hC
    have he' : ¬ (e : Int) = 0 := by omega
    rw [hn] at hlen h41 h41' h41'' h0
    clear hn hN p1 hG1 hby h
    by_cases m0 : c.mode = 0
    · have h0 : n = 0 ∨ 1000 < n := h0.resolve_left (fun h => h m0)
      obtain ⟨mo, bi, wi, re, pr, ph, pp, pb, mr, q⟩ := c
      simp only at m0 c1 hC
      subst m0
      by_cases n0 : n = 0
      · have n0' : (n : Int) = 0 := by omega
        rw [call_L 7 rfl (rfl : P.T f_q0 = some F_q0) (le_ok rfl)]; simp -implicitDefEqProofs [-toCells, -AV.one, -forget, F_q0, c_q0, hlen, h41, h41', h41'', hA, hNl, hC, c1, he, he', n0, n0']
      · have n0' : ¬ (n : Int) = 0 := by omega
        have n1 : 1000 < n := by omega
        have n1' : (1000 : Int) < n := by omega
        have n1'' : (n : Int) > 1000 := by omega
        rw [call_L 7 rfl (rfl : P.T f_q0 = some F_q0) (le_ok rfl)]; simp -implicitDefEqProofs [-toCells, -AV.one, -forget, F_q0, c_q0, hlen, h41, h41', h41'', hA, hNl, hC, c1, he, he', n0, n0', n1, n1', n1'']
    · rw [call_L 7 rfl (rfl : P.T f_q0 = some F_q0) (le_ok rfl)]; simp -implicitDefEqProofs [-toCells, -AV.one, -forget, F_q0, c_q0, hlen, h41, h41', h41'', hA, hNl, hC, c1, he, he', m0]
  · rw [h] at hC
    replace hC : ∀ H, callW P f_q6 [.agg [ai c.mode, ai c.bits, ai c.window, ai c.reorder, ai c.pollRetx, ai c.prohibit, ai c.pollPDU, ai c.pollByte, ai c.maxRetx, ai c.queue]] H = some (ai 0, H) := hC
    rw [h0, h1] at c1
    have hs := fun H => bv_str H b
    have hst := binA_strEq .no hby hby
    rw [decide_eq_true rfl] at hst
    rw [hn] at hlen h41 h41' h41''
    clear hn hN p1 hG1 hby h h1
    obtain ⟨mo, bi, wi, re, pr, ph, pp, pb, mr, q⟩ := c
    simp only at m c1 hC
    subst m
    rw [call_L 7 rfl (rfl : P.T f_q0 = some F_q0) (le_ok rfl)]; simp -implicitDefEqProofs [-toCells, -AV.one, -forget, F_q0, c_q0, hlen, h41, h41', h41'', hA, hNl, hC, c1, hs, hst]
  · rw [h] at hC
    replace hC : ∀ H, callW P f_q6 [.agg [ai c.mode, ai c.bits, ai c.window, ai c.reorder, ai c.pollRetx, ai c.prohibit, ai c.pollPDU, ai c.pollByte, ai c.maxRetx, ai c.queue]] H = some (ai 0, H) := hC
    rw [h0] at c1
    have hfl := bvs_len x.um.ff
    obtain ⟨n2, hn2⟩ : ∃ t, x.um.ff.length = t := ⟨_, rfl⟩
    rw [hn2] at hfl h1
    have h1' : (0 : Int) < n2 := by omega
    have h1'' : (n2 : Int) > 0 := by omega
    rw [hn] at hlen h41 h41' h41''
    clear hn hN p1 hG1 hby h hn2
    obtain ⟨mo, bi, wi, re, pr, ph, pp, pb, mr, q⟩ := c
    simp only at m c1 hC
    subst m
    rw [call_L 7 rfl (rfl : P.T f_q0 = some F_q0) (le_ok rfl)]; simp -implicitDefEqProofs [-toCells, -AV.one, -forget, F_q0, c_q0, hlen, h41, h41', h41'', hA, hNl, hC, c1, hfl, h1, h1', h1'']
  · rw [h] at hC
    replace hC : ∀ H, callW P f_q6 [.agg [ai c.mode, ai c.bits, ai c.window, ai c.reorder, ai c.pollRetx, ai c.prohibit, ai c.pollPDU, ai c.pollByte, ai c.maxRetx, ai c.queue]] H = some (ai 0, H) := hC
    obtain ⟨b0, hb0⟩ : ∃ x, b.2[0]? = some x := ⟨_, List.getElem?_eq_getElem (by omega)⟩
    have hb256 := hby b0 (List.mem_of_getElem? hb0)
    have q1 : iaddrW 1 none (bv b) (.c (.int .i64 0)) = some (.vp [au b0] 0) := bv_at hb0 .i64
    have n0 : numAt b.2 0 1 = b0 / 128 % 2 := numAt_bit (a := 0) hb0
    rw [hn] at hlen h41 h41' h41''
    rcases h0 with ⟨h0, h1⟩ | ⟨h0, h1⟩
    · have g1 : (b0 : Int) < 128 := by omega
      have g2 : ¬ (128 : Int) ≤ b0 := by omega
      have g3 : b0 < 128 := by omega
      have g4 : ¬ 128 ≤ b0 := by omega
      have g5 : ¬ (b0 : Int) ≥ 128 := by omega
      rw [h0] at c1
      clear hn hN p1 hG1 hby h h1 n0 hl hb256
      obtain ⟨mo, bi, wi, re, pr, ph, pp, pb, mr, q⟩ := c
      simp only at m c1 hC
      subst m
      rw [call_L 7 rfl (rfl : P.T f_q0 = some F_q0) (le_ok rfl)]; simp -implicitDefEqProofs [-toCells, -AV.one, -forget, F_q0, c_q0, hlen, h41, h41', h41'', hA, hNl, hC, c1, q1, g1, g2, g3, g4, g5, keepB, -goodB, goodB_L, sameV, dstNot, dstNe, SOpG.reads, SOp.slots, SX.slots, SOp.noL, rdV_load, selfE_lst, selfE, selfEs, eqV]
    · have g1 : ¬ (b0 : Int) < 128 := by omega
      have g2 : (128 : Int) ≤ b0 := by omega
      have g3 : ¬ b0 < 128 := by omega
      have g4 : 128 ≤ b0 := by omega
      have g5 : (b0 : Int) ≥ 128 := by omega
      rw [h0] at c1
      clear hn hN p1 hG1 hby h h1 n0 hl hb256
      obtain ⟨mo, bi, wi, re, pr, ph, pp, pb, mr, q⟩ := c
      simp only at m c1 hC
      subst m
      rw [call_L 7 rfl (rfl : P.T f_q0 = some F_q0) (le_ok rfl)]; simp -implicitDefEqProofs [-toCells, -AV.one, -forget, F_q0, c_q0, hlen, h41, h41', h41'', hA, hNl, hC, c1, q1, g1, g2, g3, g4, g5, keepB, -goodB, goodB_L, sameV, dstNot, dstNe, SOpG.reads, SOp.slots, SX.slots, SOp.noL, rdV_load, selfE_lst, selfE, selfEs, eqV]
end Go.A.V.S

namespace Go.A.V.S
open Go Go.A
set_option linter.unusedSimpArgs false
set_option linter.unusedVariables false
section
variable {c : Cfg} {b y : Bs} {u x v : Un} {H G G1 G2 G3 G4 N : Heap} {n e e4 : Nat} {z2 z3 : Bool}
end
end Go.A.V.S

namespace Go.A.V.S
open Go Go.A
set_option linter.unusedSimpArgs false
set_option linter.unusedVariables false
end Go.A.V.S

namespace Go.A.V.S
open Go Go.A Go.A.V
set_option linter.unusedSimpArgs false
set_option linter.unusedVariables false
theorem iss_cfg {vs : List AV} (h : V.CT.iss [.i .i64, .i .i64, .i .i64, .i .i64, .i .i64, .i .i64, .i .i64, .i .i64, .i .i64, .i .i64] vs) : ∃ c : Cfg, vs = c.v := by
  obtain ⟨c0, r0, rfl, h0, h⟩ := iss_cons h
  obtain ⟨c1, r1, rfl, h1, h⟩ := iss_cons h
  obtain ⟨c2, r2, rfl, h2, h⟩ := iss_cons h
  obtain ⟨c3, r3, rfl, h3, h⟩ := iss_cons h
  obtain ⟨c4, r4, rfl, h4, h⟩ := iss_cons h
  obtain ⟨c5, r5, rfl, h5, h⟩ := iss_cons h
  obtain ⟨c6, r6, rfl, h6, h⟩ := iss_cons h
  obtain ⟨c7, r7, rfl, h7, h⟩ := iss_cons h
  obtain ⟨c8, r8, rfl, h8, h⟩ := iss_cons h
  obtain ⟨c9, r9, rfl, h9, h⟩ := iss_cons h
  obtain rfl := iss_nil h
  obtain ⟨a0, rfl, _⟩ := is_i h0
  obtain ⟨a1, rfl, _⟩ := is_i h1
  obtain ⟨a2, rfl, _⟩ := is_i h2
  obtain ⟨a3, rfl, _⟩ := is_i h3
  obtain ⟨a4, rfl, _⟩ := is_i h4
  obtain ⟨a5, rfl, _⟩ := is_i h5
  obtain ⟨a6, rfl, _⟩ := is_i h6
  obtain ⟨a7, rfl, _⟩ := is_i h7
  obtain ⟨a8, rfl, _⟩ := is_i h8
  obtain ⟨a9, rfl, _⟩ := is_i h9
  exact ⟨⟨a0, a1, a2, a3, a4, a5, a6, a7, a8, a9⟩, rfl⟩
theorem pduKinds_all (u0 : List AV) (h0 : V.CT.iss [.i .i64, .i .i64, .i .i64, .i .i64, .i .i64, .i .i64, .i .i64, .i .i64, .i .i64, .i .i64] u0) (c1 : AV) (i1 : V.CT.is (.sl [.i .u8]) c1) :
    ∃ H', callW P f_q0 [.agg u0, c1] [] = some (ab true, H') := by
  obtain ⟨c, rfl⟩ := iss_cfg h0
  obtain ⟨b, rfl, hb⟩ := is_bytes i1
  obtain ⟨k, h⟩ := lPduKinds c b hb []
  exact ⟨_, h⟩
end Go.A.V.S
