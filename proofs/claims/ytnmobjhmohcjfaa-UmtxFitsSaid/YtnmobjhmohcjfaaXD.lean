/- umd: sizes. -/
import Derived.Test.YtnmobjhmohcjfaaXB
import Derived.Test.YtnmobjhmohcjfaaV14
import Derived.Test.YtnmobjhmohcjfaaXA
import Derived.Test.YtnmobjhmohcjfaaXC
set_option linter.unusedSimpArgs false
set_option linter.unusedVariables false
set_option linter.unnecessarySimpa false
namespace Go.A.V.S
open Go Go.A
set_option linter.unusedSimpArgs false
set_option linter.unusedVariables false
/-- A packet that is not acknowledged. -/
structure Um where
  fi : Int
  sn : Int
  z : Bool
  ff : List Bs
def Um.f (p : Um) : AV := lst p.z 1 none (bvs p.ff)
def Um.v (p : Um) : List AV := [ai p.fi, ai p.sn, p.f]
def baseU (p : Um) (w : Nat) : Nat := w / 5 + lsize (p.ff.length - 1) 11
def sizeU (p : Um) (w : Int) : Nat :=
  if ¬ (w = 5 ∨ w = 10) then 0 else if p.fi < 0 then 0 else if 3 < p.fi then 0 else if ¬ (0 ≤ p.sn ∧ p.sn < (2 ^ w.toNat : Nat)) then 0
  else if p.ff.length < 1 then 0 else if 24 < p.ff.length then 0 else sumR (baseU p w.toNat) (bb p.ff)
theorem umd_isWidth (w : Int) (H : Heap) : callW P f_umd_isWidth [ai w] H = some (ab (decide (w = 5 ∨ w = 10)), H) := by
  rw [call_L 4 rfl (rfl : P.T f_umd_isWidth = some F_umd_isWidth) (le_ok rfl)]; simp -implicitDefEqProofs [-toCells, -AV.one, -forget, F_umd_isWidth, c_umd_isWidth]
  split <;> simp_all
theorem umd_head (w : Nat) (h : w ≤ 100) (H : Heap) : callW P f_umd_head [ai w] H = some (ai (w / 5 : Nat), H) := by
  have e : IntKind.i64.wrap ((w : Int).tdiv 5) = ((w / 5 : Nat) : Int) := by
    rw [Int.tdiv_eq_ediv_of_nonneg (by omega), wrap_i64 (by omega) (by omega)]; omega
  have e2 : IntKind.i64.wrap ((w : Int) / 5) = ((w / 5 : Nat) : Int) := by
    rw [wrap_i64 (by omega) (by omega)]; omega
  obtain ⟨d, hd⟩ : ∃ t, w / 5 = t := ⟨_, rfl⟩
  rw [hd] at e e2 ⊢
  rw [call_L 3 rfl (rfl : P.T f_umd_head = some F_umd_head) (le_ok rfl)]; simp -implicitDefEqProofs [-toCells, -AV.one, -forget, F_umd_head, c_umd_head, e, e2]
section
variable {H : Heap}
def InvUs (H : Heap) (Q : List AV) (z0 : Bool) (ff : List Bs) (n0 : Nat) (z : Nat) (σ : List AV) (G : Heap) : Prop :=
  ∃ (i n : Nat), i + z = ff.length ∧ n ≤ 4000 ∧ sumR n0 (bb ff) = sumR n ((bb ff).drop i) ∧ G = H ∧ σ = L 63 ((((((Tr.full 7).put (path 2) (.lbox Q)).put (path 5) (ai n)).put (path 27) (lst z0 1 none (bvs ff))).put (path 28) (ai ff.length)).put (path 29) (ai i))
def PostUs (H : Heap) (ff : List Bs) (n0 : Nat) (e : AExit) (σ : List AV) (G : Heap) : Prop :=
  G = H ∧ ((e = .exit 0 ∧ kill [2, 27, 28, 29, 30] σ = L 63 ((Tr.full 7).put (path 5) (ai (sumR n0 (bb ff) : Nat)))) ∨ (e = .ret ∧ sumR n0 (bb ff) = 0 ∧ resultsA F_umd_size.res σ = some (ai 0)))
theorem bbdrop {ff : List Bs} {i : Nat} {x : Bs} (hx : ff[i]? = some x) : (bb ff).drop i = x.2 :: (bb ff).drop (i + 1) := by
  have h2 := bb_at hx
  have hi2 : i < (bb ff).length := (List.getElem?_eq_some_iff.1 h2).1
  rw [List.drop_eq_getElem_cons hi2]
  rw [List.getElem?_eq_getElem hi2] at h2
  rw [Option.some.inj h2]
set_option maxHeartbeats 1000000 in
theorem loopUs {z0 : Bool} {ff : List Bs} (fi sn : Int) (hl : ff.length ≤ 24) (hs : ∀ f ∈ ff, f.2.length ≤ 100000) (n0 : Nat) (z : Nat) (σ : List AV) (G : Heap) (hI : InvUs H [ai fi, ai sn, lst z0 1 none (bvs ff)] z0 ff n0 z (kill (headK lp0_umd_size) σ) G) :
    Ends (execW P f_umd_size (.loop lp0_umd_size) σ G) fun s => PostUs H ff n0 s.e s.σ s.H := by
  refine loop_ends (fun z σ G => InvUs H [ai fi, ai sn, lst z0 1 none (bvs ff)] z0 ff n0 z σ G) (PostUs H ff n0) ?_ z σ G hI
  clear hI z σ G
  rintro z σ G ⟨i, n, hz, hn4, hsum, rfl, rfl⟩
  have hla : (bvs ff).length = ff.length := bvs_len ff
  by_cases hi : i < ff.length
  · obtain ⟨x, hx⟩ : ∃ x, ff[i]? = some x := ⟨_, List.getElem?_eq_getElem hi⟩
    have hxs := hs x (List.mem_of_getElem? hx)
    have q1 := bvs_at hx z0 none .i64
    rw [bbdrop hx, sumR, List.length_drop, bb_len] at hsum
    have hxl := bv_len x
    obtain ⟨xl, hxl'⟩ : ∃ t, x.2.length = t := ⟨_, rfl⟩
    rw [hxl'] at hxl hsum hxs
    by_cases c1 : xl = 0
    · rw [if_pos c1] at hsum
      simp -implicitDefEqProofs (disch := first | omega | (simp; done) | fail) [-toCells, -AV.one, -forget, c_umd_size, cmp_ilt, cmp_ilf, cmp_ile, cmp_ilg, cmp_ine, cmp_nlt, cmp_nlf, cmp_nle, cmp_nne, cmp_neq, wrap_i64, wrap_u64, wrap_u8, lp0_umd_size, hla, q1, hxl]
      exact ⟨rfl, .inr ⟨rfl, hsum, by simp [F_umd_size]⟩⟩
    rw [if_neg c1] at hsum
    by_cases c2 : 2047 < xl ∧ i + 1 < ff.length
    · rw [if_pos ⟨c2.1, by omega⟩] at hsum
      simp -implicitDefEqProofs (disch := first | omega | (simp; done) | fail) [-toCells, -AV.one, -forget, c_umd_size, cmp_ilt, cmp_ilf, cmp_ile, cmp_ilg, cmp_ine, cmp_nlt, cmp_nlf, cmp_nle, cmp_nne, cmp_neq, wrap_i64, wrap_u64, wrap_u8, lp0_umd_size, hla, q1, hxl]
      exact ⟨rfl, .inr ⟨rfl, hsum, by simp [F_umd_size]⟩⟩
    rw [if_neg (by omega)] at hsum
    by_cases c5 : 2047 < xl
    · by_cases c4 : 4000 < n + xl
      · rw [if_pos (by omega)] at hsum
        simp -implicitDefEqProofs (disch := first | omega | (simp; done) | fail) [-toCells, -AV.one, -forget, c_umd_size, cmp_ilt, cmp_ilf, cmp_ile, cmp_ilg, cmp_ine, cmp_nlt, cmp_nlf, cmp_nle, cmp_nne, cmp_neq, wrap_i64, wrap_u64, wrap_u8, lp0_umd_size, hla, q1, hxl]
        exact ⟨rfl, .inr ⟨rfl, hsum, by simp [F_umd_size]⟩⟩
      · rw [if_neg (by omega)] at hsum
        simp -implicitDefEqProofs (disch := first | omega | (simp; done) | fail) [-toCells, -AV.one, -forget, c_umd_size, cmp_ilt, cmp_ilf, cmp_ile, cmp_ilg, cmp_ine, cmp_nlt, cmp_nlf, cmp_nle, cmp_nne, cmp_neq, wrap_i64, wrap_u64, wrap_u8, lp0_umd_size, hla, q1, hxl]
        exact ⟨z - 1, by omega, i + 1, n + xl, by omega, by omega, hsum, rfl, by simp⟩
    · by_cases c4 : 4000 < n + xl
      · rw [if_pos (by omega)] at hsum
        simp -implicitDefEqProofs (disch := first | omega | (simp; done) | fail) [-toCells, -AV.one, -forget, c_umd_size, cmp_ilt, cmp_ilf, cmp_ile, cmp_ilg, cmp_ine, cmp_nlt, cmp_nlf, cmp_nle, cmp_nne, cmp_neq, wrap_i64, wrap_u64, wrap_u8, lp0_umd_size, hla, q1, hxl]
        exact ⟨rfl, .inr ⟨rfl, hsum, by simp [F_umd_size]⟩⟩
      · rw [if_neg (by omega)] at hsum
        simp -implicitDefEqProofs (disch := first | omega | (simp; done) | fail) [-toCells, -AV.one, -forget, c_umd_size, cmp_ilt, cmp_ilf, cmp_ile, cmp_ilg, cmp_ine, cmp_nlt, cmp_nlf, cmp_nle, cmp_nne, cmp_neq, wrap_i64, wrap_u64, wrap_u8, lp0_umd_size, hla, q1, hxl]
        exact ⟨z - 1, by omega, i + 1, n + xl, by omega, by omega, hsum, rfl, by simp⟩
  · have hnil : (bb ff).drop i = [] := List.drop_eq_nil_of_le (by rw [bb_len]; omega)
    rw [hnil, sumR] at hsum
    rw [← hsum]
    simp -implicitDefEqProofs (disch := first | omega | (simp; done) | fail) [-toCells, -AV.one, -forget, c_umd_size, cmp_ilt, cmp_ilf, cmp_ile, cmp_ilg, cmp_ine, cmp_nlt, cmp_nlf, cmp_nle, cmp_nne, cmp_neq, wrap_i64, wrap_u64, wrap_u8, lp0_umd_size, hla]
    exact ⟨rfl, .inl ⟨rfl, by simp⟩⟩
end
theorem umd_size (p : Um) (hs : ∀ f ∈ p.ff, f.2.length ≤ 100000) (hfl : p.ff.length ≤ 100000) {w : Nat} (hw : w ≤ 100) (H : Heap) :
    callW P f_umd_size [.agg p.v, ai w] H = some (ai (if p.ff.length < 1 ∨ 24 < p.ff.length then 0 else sumR (baseU p w) (bb p.ff) : Nat), H) := by
  obtain ⟨fi, sn, z0, ff⟩ := p
  simp only at hs hfl
  have hla : (bvs ff).length = ff.length := bvs_len ff
  have hh := fun H => umd_head w hw H
  by_cases h1 : ff.length < 1 ∨ 24 < ff.length
  · rw [if_pos h1]
    rcases h1 with h1 | h1
    · rw [call_L 7 rfl (rfl : P.T f_umd_size = some F_umd_size) (le_ok rfl)]; simp -implicitDefEqProofs (disch := first | omega | (simp; done) | fail) [-toCells, -AV.one, -forget, F_umd_size, c_umd_size, cmp_ilt, cmp_ilf, cmp_ile, cmp_ilg, cmp_ine, cmp_nlt, cmp_nlf, cmp_nle, cmp_nne, cmp_neq, wrap_i64, wrap_u64, wrap_u8, Um.v, Um.f, hla]
    · rw [call_L 7 rfl (rfl : P.T f_umd_size = some F_umd_size) (le_ok rfl)]; simp -implicitDefEqProofs (disch := first | omega | (simp; done) | fail) [-toCells, -AV.one, -forget, F_umd_size, c_umd_size, cmp_ilt, cmp_ilf, cmp_ile, cmp_ilg, cmp_ine, cmp_nlt, cmp_nlf, cmp_nle, cmp_nne, cmp_neq, wrap_i64, wrap_u64, wrap_u8, Um.v, Um.f, hla]
  rw [if_neg h1, baseU]
  have hL := fun H => lens_Size (ff.length - 1) 11 (.inl rfl) (by omega) H
  have hll := lsize_le (n := ff.length - 1) (w := 11) (.inl rfl) (by omega)
  obtain ⟨k, hk⟩ : ∃ t, ff.length - 1 = t := ⟨_, rfl⟩
  have wk : IntKind.i64.wrap ((ff.length : Int) - 1) = (k : Int) := by rw [wrap_i64 (by omega) (by omega)]; omega
  simp only
  rw [hk] at hL hll ⊢
  replace hL : ∀ H, callW P f_lens_Size [ai k, ai 11] H = some (ai (lsize k 11 : Nat), H) := hL
  obtain ⟨hd, hhd⟩ : ∃ t, w / 5 = t := ⟨_, rfl⟩
  rw [hhd] at hh ⊢
  obtain ⟨ls, hls⟩ : ∃ t, lsize k 11 = t := ⟨_, rfl⟩
  rw [hls] at hL hll ⊢
  have wn : IntKind.i64.wrap ((hd : Int) + ls) = ((hd + ls : Nat) : Int) := by rw [wrap_i64 (by omega) (by omega)]; omega
  obtain ⟨n0, hn0⟩ : ∃ t, hd + ls = t := ⟨_, rfl⟩
  rw [hn0] at wn ⊢
  rw [ends_eq]
  have hF := loopUs (H := H) (z0 := z0) (ff := ff) fi sn (by omega) hs n0 ff.length
  refine call_post 7 63 rfl (rfl : P.T f_umd_size = some F_umd_size) rfl (le_ok rfl) (fun e σ G => e = .ret ∧ G = H ∧ resultsA F_umd_size.res σ = some (ai (sumR n0 (bb ff) : Nat))) ?_ ?_
  · rintro e σ G ⟨rfl, rfl, h⟩
    exact ⟨rfl, _, h, rfl, by simp⟩
  have g1 : ¬ (ff.length : Int) < 1 := by omega
  have g1' : ¬ ff.length < 1 := by omega
  have g2 : ¬ (ff.length : Int) > 24 := by omega
  have g2' : ¬ (24 : Int) < ff.length := by omega
  have g2'' : ¬ 24 < ff.length := by omega
  have g3 : ¬ ff = [] := fun e => by subst e; simp at g1'
  rw [F_umd_size]; simp -implicitDefEqProofs [-toCells, -AV.one, -forget, c_umd_size, Um.v, Um.f, hla, g1, g1', g2, g2', g2'', g3, hh, wk, hL, wn, keepB, -goodB, goodB_L, sameV, dstNot, dstNe, SOpG.reads, SOp.slots, SX.slots, SOp.noL, rdV_load, selfE_lst, selfE, selfEs, eqV]
  repeat rw [Option.bind_assoc]
  refine Ends.block (P := PostUs H ff n0) (hF _ _ ⟨0, n0, by omega, by omega, by simp, rfl, by simp [lp0_umd_size]⟩) ?_
  rintro e σ1 G1 ⟨rfl, ⟨rfl, c⟩ | ⟨rfl, c1, c2⟩⟩
  · generalize sumR n0 (bb ff) = s at *
    simp -implicitDefEqProofs (disch := first | omega | (simp; done) | fail) [-toCells, -AV.one, -forget, c_umd_size, cmp_ilt, cmp_ilf, cmp_ile, cmp_ilg, cmp_ine, cmp_nlt, cmp_nlf, cmp_nle, cmp_nne, cmp_neq, wrap_i64, wrap_u64, wrap_u8, c]
  · simp [F_umd_size] at c2
    rw [c1]
    simp -implicitDefEqProofs (disch := first | omega | (simp; done) | fail) [-toCells, -AV.one, -forget, c_umd_size, cmp_ilt, cmp_ilf, cmp_ile, cmp_ilg, cmp_ine, cmp_nlt, cmp_nlf, cmp_nle, cmp_nne, cmp_neq, wrap_i64, wrap_u64, wrap_u8, c2]
theorem sn_Right5 (H : Heap) : callW P f_seqnum_Right [.agg [ai 5]] H = some (ab true, H) := by
  rw [call_L 5 rfl (rfl : P.T f_seqnum_Right = some F_seqnum_Right) (le_ok rfl)]; simp -implicitDefEqProofs [-toCells, -AV.one, -forget, F_seqnum_Right, c_seqnum_Right, binA_nea, eqAll_i]
theorem sn_Size5 (H : Heap) : callW P f_seqnum_Space_Size [.agg [ai 5]] H = some (ai 32, H) := by
  have h := fun H => sn_Right5 H
  rw [call_L 4 rfl (rfl : P.T f_seqnum_Space_Size = some F_seqnum_Space_Size) (le_ok rfl)]; simp -implicitDefEqProofs [-toCells, -AV.one, -forget, F_seqnum_Space_Size, c_seqnum_Space_Size, h]
  try rfl
theorem sn_Is5 {w : Nat} (hw : w = 5 ∨ w = 10) (n : Int) (H : Heap) : callW P f_seqnum_Space_Is [.agg [ai w], ai n] H = some (ab (decide (0 ≤ n ∧ n < (2 ^ w : Nat))), H) := by
  rcases hw with rfl | rfl
  · have h79 := fun H => sn_Size5 H
    show callW P f_seqnum_Space_Is [.agg [ai 5], ai n] H = some (ab (decide (0 ≤ n ∧ n < 32)), H)
    by_cases h0 : n ≥ 0
    · have h0' : 0 ≤ n := h0
      rw [call_L 4 rfl (rfl : P.T f_seqnum_Space_Is = some F_seqnum_Space_Is) (le_ok rfl)]; simp -implicitDefEqProofs [-toCells, -AV.one, -forget, F_seqnum_Space_Is, c_seqnum_Space_Is, h79, h0, h0']
    · have h0' : ¬ 0 ≤ n := h0
      rw [call_L 4 rfl (rfl : P.T f_seqnum_Space_Is = some F_seqnum_Space_Is) (le_ok rfl)]; simp -implicitDefEqProofs [-toCells, -AV.one, -forget, F_seqnum_Space_Is, c_seqnum_Space_Is, h79, h0, h0']
  · exact sn_Is (.inl rfl) n H
theorem umd_Size (p : Um) (hs : ∀ f ∈ p.ff, f.2.length ≤ 100000) (hfl : p.ff.length ≤ 100000) (w : Int) (H : Heap) :
    callW P f_umd_Size [.agg p.v, ai w] H = some (ai (sizeU p w : Nat), H) := by
  have hW := fun H => umd_isWidth w H
  by_cases hw : w = 5 ∨ w = 10
  · obtain ⟨wn, rfl, hwn⟩ : ∃ wn : Nat, w = wn ∧ (wn = 5 ∨ wn = 10) := by
      rcases hw with rfl | rfl
      · exact ⟨5, rfl, .inl rfl⟩
      · exact ⟨10, rfl, .inr rfl⟩
    rw [decide_eq_true hw] at hW
    have htn : ((wn : Nat) : Int).toNat = wn := by simp
    have hI := fun H => sn_Is5 hwn p.sn H
    have hS := fun H => umd_size p hs hfl (w := wn) (by omega) H
    rw [sizeU, if_neg (not_not_intro hw), htn]
    have e : (if p.ff.length < 1 then 0 else if 24 < p.ff.length then 0 else sumR (baseU p wn) (bb p.ff)) = (if p.ff.length < 1 ∨ 24 < p.ff.length then 0 else sumR (baseU p wn) (bb p.ff)) := by
      by_cases a1 : p.ff.length < 1
      · rw [if_pos a1, if_pos (.inl a1)]
      · by_cases a2 : 24 < p.ff.length
        · rw [if_neg a1, if_pos a2, if_pos (.inr a2)]
        · rw [if_neg a1, if_neg a2, if_neg (by omega)]
    rw [e]
    obtain ⟨n, hn⟩ : ∃ t, (if p.ff.length < 1 ∨ 24 < p.ff.length then 0 else sumR (baseU p wn) (bb p.ff)) = t := ⟨_, rfl⟩
    rw [hn] at hS ⊢
    obtain ⟨fi, sn, z0, ff⟩ := p
    simp only at hI
    simp only [Um.v, Um.f] at hS
    clear hn e hs hfl
    by_cases c1 : fi < 0
    · rw [if_pos c1]
      rw [call_L 6 rfl (rfl : P.T f_umd_Size = some F_umd_Size) (le_ok rfl)]; simp -implicitDefEqProofs (disch := first | omega | (simp; done) | fail) [-toCells, -AV.one, -forget, F_umd_Size, c_umd_Size, cmp_ilt, cmp_ilf, cmp_ile, cmp_ilg, cmp_ine, cmp_nlt, cmp_nlf, cmp_nle, cmp_nne, cmp_neq, wrap_i64, wrap_u64, wrap_u8, Um.v, Um.f, hW]
    rw [if_neg c1]
    by_cases c2 : 3 < fi
    · rw [if_pos c2]
      rw [call_L 6 rfl (rfl : P.T f_umd_Size = some F_umd_Size) (le_ok rfl)]; simp -implicitDefEqProofs (disch := first | omega | (simp; done) | fail) [-toCells, -AV.one, -forget, F_umd_Size, c_umd_Size, cmp_ilt, cmp_ilf, cmp_ile, cmp_ilg, cmp_ine, cmp_nlt, cmp_nlf, cmp_nle, cmp_nne, cmp_neq, wrap_i64, wrap_u64, wrap_u8, Um.v, Um.f, hW]
    rw [if_neg c2]
    simp only
    by_cases c3 : 0 ≤ sn ∧ sn < (2 ^ wn : Nat)
    · rw [decide_eq_true c3] at hI
      rw [if_neg (not_not_intro c3)]
      clear c3
      rw [call_L 6 rfl (rfl : P.T f_umd_Size = some F_umd_Size) (le_ok rfl)]; simp -implicitDefEqProofs (disch := first | omega | (simp; done) | fail) [-toCells, -AV.one, -forget, F_umd_Size, c_umd_Size, cmp_ilt, cmp_ilf, cmp_ile, cmp_ilg, cmp_ine, cmp_nlt, cmp_nlf, cmp_nle, cmp_nne, cmp_neq, wrap_i64, wrap_u64, wrap_u8, Um.v, Um.f, hW, hI, hS]
    · rw [decide_eq_false c3] at hI
      rw [if_pos c3]
      clear c3
      rw [call_L 6 rfl (rfl : P.T f_umd_Size = some F_umd_Size) (le_ok rfl)]; simp -implicitDefEqProofs (disch := first | omega | (simp; done) | fail) [-toCells, -AV.one, -forget, F_umd_Size, c_umd_Size, cmp_ilt, cmp_ilf, cmp_ile, cmp_ilg, cmp_ine, cmp_nlt, cmp_nlf, cmp_nle, cmp_nne, cmp_neq, wrap_i64, wrap_u64, wrap_u8, Um.v, Um.f, hW, hI]
  · rw [decide_eq_false hw] at hW
    rw [sizeU, if_pos hw]
    obtain ⟨fi, sn, z0, ff⟩ := p
    clear hs hfl
    rw [call_L 6 rfl (rfl : P.T f_umd_Size = some F_umd_Size) (le_ok rfl)]; simp -implicitDefEqProofs (disch := first | omega | (simp; done) | fail) [-toCells, -AV.one, -forget, F_umd_Size, c_umd_Size, cmp_ilt, cmp_ilf, cmp_ile, cmp_ilg, cmp_ine, cmp_nlt, cmp_nlf, cmp_nle, cmp_nne, cmp_neq, wrap_i64, wrap_u64, wrap_u8, Um.v, Um.f, hW]
theorem umd_Right (p : Um) (hs : ∀ f ∈ p.ff, f.2.length ≤ 100000) (hfl : p.ff.length ≤ 100000) (w : Int) (H : Heap) :
    callW P f_umd_Right [.agg p.v, ai w] H = some (ab (decide (0 < sizeU p w)), H) := by
  have h := fun H => umd_Size p hs hfl w H
  obtain ⟨n, hn⟩ : ∃ n, sizeU p w = n := ⟨_, rfl⟩
  rw [hn] at h ⊢
  obtain ⟨fi, sn, z0, ff⟩ := p
  simp only [Um.v, Um.f] at h
  clear hs hfl hn
  by_cases h0 : 0 < n
  · rw [call_L 4 rfl (rfl : P.T f_umd_Right = some F_umd_Right) (le_ok rfl)]; simp -implicitDefEqProofs (disch := first | omega | (simp; done) | fail) [-toCells, -AV.one, -forget, F_umd_Right, c_umd_Right, cmp_ilt, cmp_ilf, cmp_ile, cmp_ilg, cmp_ine, cmp_nlt, cmp_nlf, cmp_nle, cmp_nne, cmp_neq, wrap_i64, wrap_u64, wrap_u8, Um.v, Um.f, h]
  · rw [call_L 4 rfl (rfl : P.T f_umd_Right = some F_umd_Right) (le_ok rfl)]; simp -implicitDefEqProofs (disch := first | omega | (simp; done) | fail) [-toCells, -AV.one, -forget, F_umd_Right, c_umd_Right, cmp_ilt, cmp_ilf, cmp_ile, cmp_ilg, cmp_ine, cmp_nlt, cmp_nlf, cmp_nle, cmp_nne, cmp_neq, wrap_i64, wrap_u64, wrap_u8, Um.v, Um.f, h]
end Go.A.V.S

namespace Go.A.V.S
open Go Go.A
set_option linter.unusedSimpArgs false
set_option linter.unusedVariables false
def InvFu (H : Heap) (zl : Bool) (l : List Nat) (bs : List Nat) (z : Nat) (σ : List AV) (G : Heap) : Prop :=
  ∃ (i : Nat) (b : Bs) (out : List Bs), i + z = l.length ∧ out.length = i ∧ b.2.length ≤ 10000 ∧ cutF bs l = (cutF b.2 (l.drop i)).map (fun r => out.map (·.2) ++ r) ∧ G = H ∧
    σ = L 49 (((((Tr.full 6).put (path 0) (bv b)).put (path 1) (lst zl 1 none (nvs l))).put (path 6) (lst true 1 (some 32) (bvs out))).put (path 7) (ai i))
def PostFu (H : Heap) (l : List Nat) (bs : List Nat) (e : AExit) (σ : List AV) (G : Heap) : Prop :=
  e = .ret ∧ G = H ∧ ∃ out : List Bs, out.map (·.2) = (fieldsR bs l).2 ∧ resultsA F_umd_fields.res σ = some (.tup [lst true 1 (some 48) (bvs out), ai ((fieldsR bs l).1 : Nat)])
theorem ufields_tail {H : Heap} {zl : Bool} {l bs : List Nat} (hll : l.length ≤ 23) (hsm : ∀ n ∈ l, n ≤ 2047) (hnov : (l.any fun n => decide (2047 < n)) = false) (z : Nat) (σ : List AV) (G : Heap) (hI : InvFu H zl l bs z (kill (headK tsc0_umd_fields) σ) G) :
    Ends ((execW P f_umd_fields tsc0_umd_fields σ G).bind (jumpW P f_umd_fields sc0_umd_fields 0)) fun s => PostFu H l bs s.e s.σ s.H := by
  refine scope_ends (InvFu H zl l bs) (PostFu H l bs) rfl ?_ z σ G hI
  clear hI z σ G
  rintro z σ G ⟨i, b, out, hz, ho, hb, hcut, rfl, hσ⟩
  rw [← execW_head, hσ]
  have hlen : (nvs l).length = l.length := nvs_len l
  have hR : fieldsR bs l = match cutF bs l with
    | none => (8, [])
    | some ff => (0, ff) := by rw [fieldsR, hnov]; rfl
  by_cases hi : i < l.length
  · have hi' : (i : Int) < l.length := by omega
    obtain ⟨n, hn⟩ : ∃ n, l[i]? = some n := ⟨_, List.getElem?_eq_getElem hi⟩
    have hn2 := hsm n (List.mem_of_getElem? hn)
    have q1 := nvs_at hn zl none .i64
    have hdr : l.drop i = n :: l.drop (i + 1) := by
      rw [List.drop_eq_getElem_cons hi]
      rw [List.getElem?_eq_getElem hi] at hn
      rw [Option.some.inj hn]
    rw [hdr, cutF] at hcut
    by_cases hc : b.2.length < n
    · have hc' : (n : Int) > b.2.length := by omega
      have hc'' : (b.2.length : Int) < n := by omega
      rw [if_pos hc, Option.map_none] at hcut
      rw [hcut] at hR
      simp -implicitDefEqProofs [-toCells, -AV.one, -forget, c_umd_fields, tsc0_umd_fields, hlen, hi, hi', q1, hc, hc', hc'']
      exact ⟨rfl, rfl, [], by rw [hR]; rfl, by rw [hR]; simp [F_umd_fields, bvs]⟩
    · have hc' : ¬ (n : Int) > b.2.length := by omega
      have hc'' : ¬ (b.2.length : Int) < n := by omega
      rw [if_neg hc] at hcut
      have c1 := fun d => bv_to3 (b := b) (j := n) (by omega) .i64 .i64 d
      have c3 := fun d => bv_from (b := b) (i := n) (by omega) .i64 d
      have e1 := bcut_to b n
      have e2 := bcut_from b n
      obtain ⟨x, hx⟩ : ∃ x, bcut b 0 n = x := ⟨_, rfl⟩
      obtain ⟨y, hy⟩ : ∃ y, bcut b n b.2.length = y := ⟨_, rfl⟩
      rw [hx] at c1 e1
      rw [hy] at c3 e2
      have c2 := fun H => Clone_bs x (by rw [e1]; simp; omega) H
      have hap := fun σ H => app1 (m := P.md f_umd_fields) (d := 32) (bytes := 24) (v := bv x) (R_umd_fields 32) (by omega) (by rw [bvs_len]; omega) (l := bvs out) (some 31) σ H
      rw [← bvs_snoc] at hap
      have w6 : IntKind.i64.wrap ((i : Int) + 1) = ((i + 1 : Nat) : Int) := by rw [wrap_i64 (by omega) (by omega)]; omega
      obtain ⟨i1, hi1⟩ : ∃ t, i + 1 = t := ⟨_, rfl⟩
      rw [hi1] at w6 hcut
      simp -implicitDefEqProofs [-toCells, -AV.one, -forget, c_umd_fields, tsc0_umd_fields, hlen, hi, hi', q1, hc, hc', hc'', c1, bvf, c2, hap, c3, w6]
      refine ⟨z - 1, by omega, i1, y, out ++ [x], by omega, by simp; omega, by rw [e2]; simp; omega, ?_, rfl, by simp⟩
      rw [hcut, e2]
      cases cutF (b.2.drop n) (l.drop i1) with
      | none => rfl
      | some r => simp [e1]
  · have hi' : ¬ (i : Int) < l.length := by omega
    have hd : l.drop i = [] := List.drop_eq_nil_of_le (by omega)
    rw [hd, cutF] at hcut
    by_cases h0 : b.2.length = 0
    · have h0' : (b.2.length : Int) = 0 := by omega
      have h0'' : b.2 = [] := List.length_eq_zero_iff.1 h0
      rw [if_pos h0, Option.map_none] at hcut
      rw [hcut] at hR
      simp -implicitDefEqProofs [-toCells, -AV.one, -forget, c_umd_fields, tsc0_umd_fields, hlen, hi, hi', h0, h0', h0'']
      exact ⟨rfl, rfl, [], by rw [hR]; rfl, by rw [hR]; simp [F_umd_fields, bvs]⟩
    · have h0' : ¬ (b.2.length : Int) = 0 := by omega
      have h0'' : ¬ b.2 = [] := fun h => h0 (by rw [h]; rfl)
      rw [if_neg h0] at hcut
      rw [hcut] at hR
      have c2 := fun H => Clone_bs b (by omega) H
      have hg : ((out.length + 1) * 24 : Nat) ≤ 100000 := by omega
      obtain ⟨cs, hap⟩ := appW_c (m := P.md f_umd_fields) (d := 48) (sz := 1) (bytes := 24) (c := 32) (l := bvs out) (l' := [[bv b]]) (x := .vs 1 (some 47) [[bv b]]) (R_umd_fields 48) (fun H => elems_vs H 1 (some 47) [[bv b]]) (.inr (by simp)) (by simp [bvs_len, appBound]; omega) (by simp [bvs_len, appBound]; omega)
      rw [← bvs_snoc] at hap
      simp -implicitDefEqProofs [-toCells, -AV.one, -forget, c_umd_fields, tsc0_umd_fields, hlen, hi, hi', h0, h0', h0'', c2, bvf, hap]
      refine ⟨rfl, rfl, out ++ [b], by rw [hR]; simp, ?_⟩
      have hne : bvs (out ++ [b]) ≠ [] := by simp [bvs]
      rw [hR]
      simp [F_umd_fields, lst_ne hne]
theorem umd_fields {zl : Bool} {l : List Nat} (b : Bs) (hb : b.2.length ≤ 10000) (hll : l.length ≤ 23) (hsm : ∀ n ∈ l, n ≤ 2047) (H : Heap) : ∃ out : List Bs, out.map (·.2) = (fieldsR b.2 l).2 ∧ callW P f_umd_fields [bv b, lst zl 1 none (nvs l)] H = some (.tup [lst true 1 none (bvs out), ai ((fieldsR b.2 l).1 : Nat)], H) := by
  have hany : (l.any fun n => decide (2047 < n)) = false := by
    refine List.any_eq_false.2 fun n hn => ?_
    have := hsm n hn
    simp; omega
  have key : Ends (callW P f_umd_fields [bv b, lst zl 1 none (nvs l)] H) fun y => ∃ out : List Bs, out.map (·.2) = (fieldsR b.2 l).2 ∧ y = (.tup [lst true 1 none (bvs out), ai ((fieldsR b.2 l).1 : Nat)], H) := by
    refine call_post 6 49 rfl (rfl : P.T f_umd_fields = some F_umd_fields) rfl (le_ok rfl) (PostFu H l b.2) ?_ ?_
    · rintro e σ G ⟨rfl, rfl, out, h1, h2⟩
      exact ⟨rfl, _, h2, by simp, by simp; exact ⟨out, h1, rfl⟩⟩
    rw [F_umd_fields]; simp -implicitDefEqProofs [-toCells, -AV.one, -forget, c_umd_fields]
    refine ufields_tail (zl := zl) hll hsm hany l.length _ _ ?_
    refine ⟨0, b, [], by omega, rfl, hb, ?_, rfl, by simp [tsc0_umd_fields, bvs]⟩
    simp
  obtain ⟨y, h1, out, h2, rfl⟩ := key
  exact ⟨out, h2, h1⟩
end Go.A.V.S

namespace Go.A.V.S
open Go Go.A
set_option linter.unusedSimpArgs false
set_option linter.unusedVariables false
def uN0 (w : Nat) : Nat := 8 * (w / 5) - 3 - w
def uFI (bs : List Nat) (w : Nat) : Nat := numAt bs (uN0 w) 2
def uMore (bs : List Nat) (w : Nat) : Bool := decide (numAt bs (uN0 w + 2) 1 = 1)
def uSN (bs : List Nat) (w : Nat) : Nat := numAt bs (uN0 w + 3) w
def restU (d : List Nat) (more : Bool) : Nat × List (List Nat) :=
  if more = true then (if (lensR d 11).2 = 0 then fieldsR (d.drop (lsize (lensR d 11).1 11)) (lvals d 11 (lensR d 11).1) else ((lensR d 11).2, [])) else fieldsR d []
/-- What bytes are: an error, or a packet's fields. -/
def readU (bs : List Nat) (w : Int) : Nat × List (List Nat) :=
  if w = 5 ∨ w = 10 then (if 4000 < bs.length then (2, []) else if bs.length < w.toNat / 5 then (8, []) else if numAt bs 0 (uN0 w.toNat) = 0 then restU (bs.drop (w.toNat / 5)) (uMore bs w.toNat) else (3, [])) else (9, [])
def readUV (bs : List Nat) (w : Int) (f : AV) : AV := .tup [.agg (if (readU bs w).1 = 0 then [ai (uFI bs w.toNat : Nat), ai (uSN bs w.toNat : Nat), f] else [ai 0, ai 0, nilS]), ai ((readU bs w).1 : Nat)]
theorem lvals_small {bs : List Nat} {c : Nat} (hc : c * 12 ≤ 8 * bs.length) : ∀ n ∈ lvals bs 11 c, n ≤ 2047 := by
  intro n hn
  obtain ⟨k, hk, rfl⟩ := List.mem_map.1 hn
  have hk' : k < c := by simpa using hk
  have : k * 12 + 12 ≤ c * 12 := by
    have := Nat.mul_le_mul_right 12 (show k + 1 ≤ c from hk')
    omega
  have h := numAt_lt (bs := bs) (a := k * (11 + 1) + 1) (n := 11) (by omega)
  have : (2 : Nat) ^ 11 = 2048 := by decide
  simp only [lnum]
  omega
set_option maxHeartbeats 2000000 in
theorem umd_Read5 (b : Bs) (hb : b.2.length ≤ 8192) (hby : Bytes b.2) (H : Heap) :
    ∃ (out : List Bs) (k : Nat), out.map (·.2) = (readU b.2 5).2 ∧ callW P f_umd_Read [bv b, ai 5] H = some (readUV b.2 5 (lst true 1 none (bvs out)), H ++ List.replicate k .other) := by
  have hW : ∀ H, callW P f_umd_isWidth [ai 5] H = some (ab true, H) := fun H => by rw [umd_isWidth, decide_eq_true (by omega)]
  have hh : ∀ H, callW P f_umd_head [ai 5] H = some (ai 1, H) := fun H => umd_head 5 (by omega) H
  have hlen := bv_len b
  have hw : (5 : Int) = 5 ∨ (5 : Int) = 10 := by omega
  by_cases c1 : 4000 < b.2.length
  · have hR : readU b.2 5 = (2, []) := by rw [readU, if_pos hw, if_pos c1]
    refine ⟨[], 0, by rw [hR]; rfl, ?_⟩
    rw [readUV, hR]
    clear hby hR
    rw [call_L 7 rfl (rfl : P.T f_umd_Read = some F_umd_Read) (le_ok rfl)]; simp -implicitDefEqProofs (disch := first | omega | (simp; done) | fail) [-toCells, -AV.one, -forget, F_umd_Read, c_umd_Read, cmp_ilt, cmp_ilf, cmp_ile, cmp_ilg, cmp_ine, cmp_nlt, cmp_nlf, cmp_nle, cmp_nne, cmp_neq, wrap_i64, wrap_u64, wrap_u8, hW, hlen]
  by_cases c2 : b.2.length < 1
  · have hR : readU b.2 5 = (8, []) := by rw [readU, if_pos hw, if_neg c1, if_pos (show b.2.length < Int.toNat 5 / 5 from c2)]
    refine ⟨[], 0, by rw [hR]; rfl, ?_⟩
    rw [readUV, hR]
    clear hby hR
    rw [call_L 7 rfl (rfl : P.T f_umd_Read = some F_umd_Read) (le_ok rfl)]; simp -implicitDefEqProofs (disch := first | omega | (simp; done) | fail) [-toCells, -AV.one, -forget, F_umd_Read, c_umd_Read, cmp_ilt, cmp_ilf, cmp_ile, cmp_ilg, cmp_ine, cmp_nlt, cmp_nlf, cmp_nle, cmp_nne, cmp_neq, wrap_i64, wrap_u64, wrap_u8, hW, hlen, hh]
  have hR : readU b.2 5 = if numAt b.2 0 0 = 0 then restU (b.2.drop 1) (uMore b.2 5) else (3, []) := by rw [readU, if_pos hw, if_neg c1, if_neg (show ¬ b.2.length < Int.toNat 5 / 5 from c2)]; rfl
  obtain ⟨z, r1⟩ := bits_Read b hb H
  have g1 := Get (H := H ++ [.row [bv (z, b.2), ai 0]]) (rr := H.length) (b := (z, b.2)) (by simp) hb hby (a := 0) (by omega) 0 (by omega)
  have g2 := Get (H := H ++ [.row [bv (z, b.2), ai 0]]) (rr := H.length) (b := (z, b.2)) (by simp) hb hby (a := 0) (by simp only; omega) 2 (by omega)
  have g3 := Get (H := H ++ [.row [bv (z, b.2), ai 0]]) (rr := H.length) (b := (z, b.2)) (by simp) hb hby (a := 0 + 2) (by simp only; omega) 1 (by omega)
  have g4 := Get (H := H ++ [.row [bv (z, b.2), ai 0]]) (rr := H.length) (b := (z, b.2)) (by simp) hb hby (a := 0 + 3) (by simp only; omega) 5 (by omega)
  rw [if_pos (by simp only; omega)] at g1 g2 g3 g4
  have hfin : ∀ a, RD (H ++ [.row [bv (z, b.2), ai 0]]) H.length (z, b.2) a = H ++ [.row [bv (z, b.2), ai a]] := fun a => RD_new _ _ _ _
  simp only [hfin] at g1 g2 g3 g4
  obtain ⟨v0, hv0⟩ : ∃ t, numAt b.2 0 0 = t := ⟨_, rfl⟩
  obtain ⟨v1, hv1⟩ : ∃ t, numAt b.2 0 2 = t := ⟨_, rfl⟩
  obtain ⟨v2, hv2⟩ : ∃ t, numAt b.2 (0 + 2) 1 = t := ⟨_, rfl⟩
  obtain ⟨v3, hv3⟩ : ∃ t, numAt b.2 (0 + 3) 5 = t := ⟨_, rfl⟩
  have b1 : v1 < 2 ^ 2 := by rw [← hv1]; exact numAt_lt (by omega)
  have b3 : v3 < 2 ^ 5 := by rw [← hv3]; exact numAt_lt (by omega)
  have e1 : uFI b.2 5 = v1 := hv1
  have e2 : uMore b.2 5 = decide (v2 = 1) := by rw [← hv2]; rfl
  have e3 : uSN b.2 5 = v3 := hv3
  rw [hv0] at g1 hR
  rw [hv1] at g2
  rw [hv2] at g3
  rw [hv3] at g4
  rw [e2] at hR
  have i1 : IntKind.i64.wrap (v1 : Int) = v1 := wrap_i64 (by omega) (by omega)
  have i3 : IntKind.i64.wrap (v3 : Int) = v3 := wrap_i64 (by omega) (by simp at b3; omega)
  replace g1 : callW P f_bits_Reader_Get [.ptr H.length 0 2, ai 0] (H ++ [.row [bv (z, b.2), ai 0]]) = some (.tup [.c (.int .u64 v0), ai 0], H ++ [.row [bv (z, b.2), ai 0]]) := g1
  replace g2 : callW P f_bits_Reader_Get [.ptr H.length 0 2, ai 2] (H ++ [.row [bv (z, b.2), ai 0]]) = some (.tup [.c (.int .u64 v1), ai 0], H ++ [.row [bv (z, b.2), ai 2]]) := g2
  replace g3 : callW P f_bits_Reader_Get [.ptr H.length 0 2, ai 1] (H ++ [.row [bv (z, b.2), ai 2]]) = some (.tup [.c (.int .u64 v2), ai 0], H ++ [.row [bv (z, b.2), ai 3]]) := g3
  replace g4 : callW P f_bits_Reader_Get [.ptr H.length 0 2, ai 5] (H ++ [.row [bv (z, b.2), ai 3]]) = some (.tup [.c (.int .u64 v3), ai 0], H ++ [.row [bv (z, b.2), ai 8]]) := g4
  have n1 : ¬ (4000 : Int) < b.2.length := by omega
  have n1' : ¬ (b.2.length : Int) > 4000 := by omega
  have n2 : ¬ (b.2.length : Int) < 1 := by omega
  have w8 : IntKind.i64.wrap 8 = 8 := rfl
  have w5 : IntKind.i64.wrap 5 = 5 := rfl
  have w0 : IntKind.i64.wrap 0 = 0 := rfl
  by_cases hz : v0 = 0
  · rw [if_pos hz] at hR
    subst hz
    replace g1 : callW P f_bits_Reader_Get [.ptr H.length 0 2, ai 0] (H ++ [.row [bv (z, b.2), ai 0]]) = some (.tup [.c (.int .u64 0), ai 0], H ++ [.row [bv (z, b.2), ai 0]]) := g1
    have d1 := fun d => bv_from (b := b) (i := 1) (by omega) .i64 d
    replace d1 : ∀ d, cutV 1 d (bv b) (some (ai 1)) none none = some (bv (bcut b 1 b.2.length)) := d1
    obtain ⟨b', hb'⟩ : ∃ t, bcut b 1 b.2.length = t := ⟨_, rfl⟩
    have hb3 : b'.2 = b.2.drop 1 := by rw [← hb', bcut_from]
    rw [hb'] at d1
    rw [← hb3] at hR
    by_cases hm : v2 = 1
    · subst hm
      replace g3 : callW P f_bits_Reader_Get [.ptr H.length 0 2, ai 1] (H ++ [.row [bv (z, b.2), ai 2]]) = some (.tup [.c (.int .u64 1), ai 0], H ++ [.row [bv (z, b.2), ai 3]]) := g3
      rw [restU, if_pos (by decide)] at hR
      have l1 := fun H => lens_Read b' (by rw [hb3]; simp; omega) (fun x hx => hby x (by rw [hb3] at hx; exact List.mem_of_mem_drop hx)) (w := 11) (.inl rfl) H
      by_cases he : (lensR b'.2 11).2 = 0
      · rw [if_pos he] at hR
        have hok2 := lensR_ok he
        obtain ⟨cn, hcn⟩ : ∃ x, (lensR b'.2 11).1 = x := ⟨_, rfl⟩
        have hres : resL b'.2 11 none = .tup [lst true 1 none (nvs (lvals b'.2 11 cn)), ai (lsize cn 11 : Nat), ai 0] := by rw [resL, if_pos he, hcn]
        rw [hcn] at hok2 hR
        rw [hres] at l1
        have hsm := lvals_small (bs := b'.2) (c := cn) (by omega)
        have hsz : lsize cn 11 ≤ b'.2.length := by
          have : lsize cn 11 = (cn * (11 + 1) + 7) / 8 := by rw [lsize, if_neg (by omega)]
          omega
        obtain ⟨k, hk⟩ : ∃ x, lsize cn 11 = x := ⟨_, rfl⟩
        rw [hk] at hsz l1 hR
        replace l1 : ∀ H, callW P f_lens_Read [bv b', ai 11] H = some (.tup [lst true 1 none (nvs (lvals b'.2 11 cn)), ai k, ai 0], H ++ [.other]) := l1
        have f1 := fun d => bv_from (b := b') (i := k) hsz .i64 d
        obtain ⟨b2, hb2'⟩ : ∃ t, bcut b' k b'.2.length = t := ⟨_, rfl⟩
        have hb4 : b2.2 = b'.2.drop k := by rw [← hb2', bcut_from]
        rw [hb2'] at f1
        rw [← hb4] at hR
        have hll : (lvals b'.2 11 cn).length ≤ 23 := by rw [lvals_len]; omega
        obtain ⟨ls, hls⟩ : ∃ t, lvals b'.2 11 cn = t := ⟨_, rfl⟩
        rw [hls] at l1 hR hll hsm
        obtain ⟨out, q0, q1⟩ := umd_fields (zl := true) (l := ls) b2 (by rw [hb4, hb3]; simp; omega) hll hsm (H ++ [.row [bv (z, b.2), ai 8], .other])
        obtain ⟨ee, he4⟩ : ∃ x, (fieldsR b2.2 ls).1 = x := ⟨_, rfl⟩
        rw [he4] at q1
        refine ⟨out, 2, by rw [hR]; exact q0, ?_⟩
        rw [readUV, hR, he4, show uFI b.2 (Int.toNat 5) = v1 from e1, show uSN b.2 (Int.toNat 5) = v3 from e3]
        by_cases hee : ee = 0
        · have hee' : (ee : Int) = 0 := by omega
          rw [call_L 7 rfl (rfl : P.T f_umd_Read = some F_umd_Read) (le_ok rfl)]; simp -implicitDefEqProofs [-toCells, -AV.one, -forget, F_umd_Read, c_umd_Read, w8, w5, w0, hW, hh, hlen, c1, c2, n1, n1', n2, r1, g1, g2, g3, g4, d1, l1, f1, q1, hee, hee', i1, i3, keepB, -goodB, goodB_L, sameV, dstNot, dstNe, SOpG.reads, SOp.slots, SX.slots, SOp.noL, rdV_load, selfE_lst, selfE, selfEs, eqV]
        · have hee' : ¬ (ee : Int) = 0 := by omega
          rw [call_L 7 rfl (rfl : P.T f_umd_Read = some F_umd_Read) (le_ok rfl)]; simp -implicitDefEqProofs [-toCells, -AV.one, -forget, F_umd_Read, c_umd_Read, w8, w5, w0, hW, hh, hlen, c1, c2, n1, n1', n2, r1, g1, g2, g3, g4, d1, l1, f1, q1, hee, hee', i1, i3, keepB, -goodB, goodB_L, sameV, dstNot, dstNe, SOpG.reads, SOp.slots, SX.slots, SOp.noL, rdV_load, selfE_lst, selfE, selfEs, eqV]
      · rw [if_neg he] at hR
        obtain ⟨ee, hee⟩ : ∃ x, (lensR b'.2 11).2 = x := ⟨_, rfl⟩
        have hres : resL b'.2 11 none = .tup [nilS, ai 0, ai (ee : Nat)] := by rw [resL, if_neg he, hee]
        rw [hee] at he hR
        rw [hres] at l1
        replace l1 : ∀ H, callW P f_lens_Read [bv b', ai 11] H = some (.tup [nilS, ai 0, ai (ee : Nat)], H ++ [.other]) := l1
        have he' : ¬ (ee : Int) = 0 := by omega
        refine ⟨[], 2, by rw [hR]; rfl, ?_⟩
        rw [readUV, hR]
        rw [call_L 7 rfl (rfl : P.T f_umd_Read = some F_umd_Read) (le_ok rfl)]; simp -implicitDefEqProofs [-toCells, -AV.one, -forget, F_umd_Read, c_umd_Read, w8, w5, w0, hW, hh, hlen, c1, c2, n1, n1', n2, r1, g1, g2, g3, g4, d1, l1, he, he', keepB, -goodB, goodB_L, sameV, dstNot, dstNe, SOpG.reads, SOp.slots, SX.slots, SOp.noL, rdV_load, selfE_lst, selfE, selfEs, eqV]
    · have hm' : ¬ (v2 : Int) = 1 := by omega
      rw [decide_eq_false hm, restU, if_neg (by decide)] at hR
      obtain ⟨out, q0, q1⟩ := umd_fields (zl := true) (l := []) b' (by rw [hb3]; simp; omega) (by simp) (by simp) (H ++ [.row [bv (z, b.2), ai 8]])
      rw [nvs, List.map_nil, lst_nil] at q1
      obtain ⟨ee, he4⟩ : ∃ x, (fieldsR b'.2 []).1 = x := ⟨_, rfl⟩
      rw [he4] at q1
      refine ⟨out, 1, by rw [hR]; exact q0, ?_⟩
      rw [readUV, hR, he4, show uFI b.2 (Int.toNat 5) = v1 from e1, show uSN b.2 (Int.toNat 5) = v3 from e3]
      by_cases hee : ee = 0
      · have hee' : (ee : Int) = 0 := by omega
        rw [call_L 7 rfl (rfl : P.T f_umd_Read = some F_umd_Read) (le_ok rfl)]; simp -implicitDefEqProofs [-toCells, -AV.one, -forget, F_umd_Read, c_umd_Read, w8, w5, w0, hW, hh, hlen, c1, c2, n1, n1', n2, r1, g1, g2, g3, g4, hm, hm', d1, q1, hee, hee', i1, i3, keepB, -goodB, goodB_L, sameV, dstNot, dstNe, SOpG.reads, SOp.slots, SX.slots, SOp.noL, rdV_load, selfE_lst, selfE, selfEs, eqV]
      · have hee' : ¬ (ee : Int) = 0 := by omega
        rw [call_L 7 rfl (rfl : P.T f_umd_Read = some F_umd_Read) (le_ok rfl)]; simp -implicitDefEqProofs [-toCells, -AV.one, -forget, F_umd_Read, c_umd_Read, w8, w5, w0, hW, hh, hlen, c1, c2, n1, n1', n2, r1, g1, g2, g3, g4, hm, hm', d1, q1, hee, hee', i1, i3, keepB, -goodB, goodB_L, sameV, dstNot, dstNe, SOpG.reads, SOp.slots, SX.slots, SOp.noL, rdV_load, selfE_lst, selfE, selfEs, eqV]
  · rw [if_neg hz] at hR
    have hz' : ¬ (v0 : Int) = 0 := by omega
    refine ⟨[], 1, by rw [hR]; rfl, ?_⟩
    rw [readUV, hR]
    rw [call_L 7 rfl (rfl : P.T f_umd_Read = some F_umd_Read) (le_ok rfl)]; simp -implicitDefEqProofs [-toCells, -AV.one, -forget, F_umd_Read, c_umd_Read, w8, w5, w0, hW, hh, hlen, c1, c2, n1, n1', n2, r1, g1, g2, g3, g4, hz, hz', keepB, -goodB, goodB_L, sameV, dstNot, dstNe, SOpG.reads, SOp.slots, SX.slots, SOp.noL, rdV_load, selfE_lst, selfE, selfEs, eqV]
set_option maxHeartbeats 2000000 in
theorem umd_Read10 (b : Bs) (hb : b.2.length ≤ 8192) (hby : Bytes b.2) (H : Heap) :
    ∃ (out : List Bs) (k : Nat), out.map (·.2) = (readU b.2 10).2 ∧ callW P f_umd_Read [bv b, ai 10] H = some (readUV b.2 10 (lst true 1 none (bvs out)), H ++ List.replicate k .other) := by
  have hW : ∀ H, callW P f_umd_isWidth [ai 10] H = some (ab true, H) := fun H => by rw [umd_isWidth, decide_eq_true (by omega)]
  have hh : ∀ H, callW P f_umd_head [ai 10] H = some (ai 2, H) := fun H => umd_head 10 (by omega) H
  have hlen := bv_len b
  have hw : (10 : Int) = 5 ∨ (10 : Int) = 10 := by omega
  by_cases c1 : 4000 < b.2.length
  · have hR : readU b.2 10 = (2, []) := by rw [readU, if_pos hw, if_pos c1]
    refine ⟨[], 0, by rw [hR]; rfl, ?_⟩
    rw [readUV, hR]
    clear hby hR
    rw [call_L 7 rfl (rfl : P.T f_umd_Read = some F_umd_Read) (le_ok rfl)]; simp -implicitDefEqProofs (disch := first | omega | (simp; done) | fail) [-toCells, -AV.one, -forget, F_umd_Read, c_umd_Read, cmp_ilt, cmp_ilf, cmp_ile, cmp_ilg, cmp_ine, cmp_nlt, cmp_nlf, cmp_nle, cmp_nne, cmp_neq, wrap_i64, wrap_u64, wrap_u8, hW, hlen]
  by_cases c2 : b.2.length < 2
  · have hR : readU b.2 10 = (8, []) := by rw [readU, if_pos hw, if_neg c1, if_pos (show b.2.length < Int.toNat 10 / 5 from c2)]
    refine ⟨[], 0, by rw [hR]; rfl, ?_⟩
    rw [readUV, hR]
    clear hby hR
    rw [call_L 7 rfl (rfl : P.T f_umd_Read = some F_umd_Read) (le_ok rfl)]; simp -implicitDefEqProofs (disch := first | omega | (simp; done) | fail) [-toCells, -AV.one, -forget, F_umd_Read, c_umd_Read, cmp_ilt, cmp_ilf, cmp_ile, cmp_ilg, cmp_ine, cmp_nlt, cmp_nlf, cmp_nle, cmp_nne, cmp_neq, wrap_i64, wrap_u64, wrap_u8, hW, hlen, hh]
  have hR : readU b.2 10 = if numAt b.2 0 3 = 0 then restU (b.2.drop 2) (uMore b.2 10) else (3, []) := by rw [readU, if_pos hw, if_neg c1, if_neg (show ¬ b.2.length < Int.toNat 10 / 5 from c2)]; rfl
  obtain ⟨z, r1⟩ := bits_Read b hb H
  have g1 := Get (H := H ++ [.row [bv (z, b.2), ai 0]]) (rr := H.length) (b := (z, b.2)) (by simp) hb hby (a := 0) (by omega) 3 (by omega)
  have g2 := Get (H := H ++ [.row [bv (z, b.2), ai 0]]) (rr := H.length) (b := (z, b.2)) (by simp) hb hby (a := 3) (by simp only; omega) 2 (by omega)
  have g3 := Get (H := H ++ [.row [bv (z, b.2), ai 0]]) (rr := H.length) (b := (z, b.2)) (by simp) hb hby (a := 3 + 2) (by simp only; omega) 1 (by omega)
  have g4 := Get (H := H ++ [.row [bv (z, b.2), ai 0]]) (rr := H.length) (b := (z, b.2)) (by simp) hb hby (a := 3 + 3) (by simp only; omega) 10 (by omega)
  rw [if_pos (by simp only; omega)] at g1 g2 g3 g4
  have hfin : ∀ a, RD (H ++ [.row [bv (z, b.2), ai 0]]) H.length (z, b.2) a = H ++ [.row [bv (z, b.2), ai a]] := fun a => RD_new _ _ _ _
  simp only [hfin] at g1 g2 g3 g4
  obtain ⟨v0, hv0⟩ : ∃ t, numAt b.2 0 3 = t := ⟨_, rfl⟩
  obtain ⟨v1, hv1⟩ : ∃ t, numAt b.2 3 2 = t := ⟨_, rfl⟩
  obtain ⟨v2, hv2⟩ : ∃ t, numAt b.2 (3 + 2) 1 = t := ⟨_, rfl⟩
  obtain ⟨v3, hv3⟩ : ∃ t, numAt b.2 (3 + 3) 10 = t := ⟨_, rfl⟩
  have b1 : v1 < 2 ^ 2 := by rw [← hv1]; exact numAt_lt (by omega)
  have b3 : v3 < 2 ^ 10 := by rw [← hv3]; exact numAt_lt (by omega)
  have e1 : uFI b.2 10 = v1 := hv1
  have e2 : uMore b.2 10 = decide (v2 = 1) := by rw [← hv2]; rfl
  have e3 : uSN b.2 10 = v3 := hv3
  rw [hv0] at g1 hR
  rw [hv1] at g2
  rw [hv2] at g3
  rw [hv3] at g4
  rw [e2] at hR
  have i1 : IntKind.i64.wrap (v1 : Int) = v1 := wrap_i64 (by omega) (by omega)
  have i3 : IntKind.i64.wrap (v3 : Int) = v3 := wrap_i64 (by omega) (by simp at b3; omega)
  replace g1 : callW P f_bits_Reader_Get [.ptr H.length 0 2, ai 3] (H ++ [.row [bv (z, b.2), ai 0]]) = some (.tup [.c (.int .u64 v0), ai 0], H ++ [.row [bv (z, b.2), ai 3]]) := g1
  replace g2 : callW P f_bits_Reader_Get [.ptr H.length 0 2, ai 2] (H ++ [.row [bv (z, b.2), ai 3]]) = some (.tup [.c (.int .u64 v1), ai 0], H ++ [.row [bv (z, b.2), ai 5]]) := g2
  replace g3 : callW P f_bits_Reader_Get [.ptr H.length 0 2, ai 1] (H ++ [.row [bv (z, b.2), ai 5]]) = some (.tup [.c (.int .u64 v2), ai 0], H ++ [.row [bv (z, b.2), ai 6]]) := g3
  replace g4 : callW P f_bits_Reader_Get [.ptr H.length 0 2, ai 10] (H ++ [.row [bv (z, b.2), ai 6]]) = some (.tup [.c (.int .u64 v3), ai 0], H ++ [.row [bv (z, b.2), ai 16]]) := g4
  have n1 : ¬ (4000 : Int) < b.2.length := by omega
  have n1' : ¬ (b.2.length : Int) > 4000 := by omega
  have n2 : ¬ (b.2.length : Int) < 2 := by omega
  have w8 : IntKind.i64.wrap 16 = 16 := rfl
  have w5 : IntKind.i64.wrap 13 = 13 := rfl
  have w0 : IntKind.i64.wrap 3 = 3 := rfl
  by_cases hz : v0 = 0
  · rw [if_pos hz] at hR
    subst hz
    replace g1 : callW P f_bits_Reader_Get [.ptr H.length 0 2, ai 3] (H ++ [.row [bv (z, b.2), ai 0]]) = some (.tup [.c (.int .u64 0), ai 0], H ++ [.row [bv (z, b.2), ai 3]]) := g1
    have d1 := fun d => bv_from (b := b) (i := 2) (by omega) .i64 d
    replace d1 : ∀ d, cutV 1 d (bv b) (some (ai 2)) none none = some (bv (bcut b 2 b.2.length)) := d1
    obtain ⟨b', hb'⟩ : ∃ t, bcut b 2 b.2.length = t := ⟨_, rfl⟩
    have hb3 : b'.2 = b.2.drop 2 := by rw [← hb', bcut_from]
    rw [hb'] at d1
    rw [← hb3] at hR
    by_cases hm : v2 = 1
    · subst hm
      replace g3 : callW P f_bits_Reader_Get [.ptr H.length 0 2, ai 1] (H ++ [.row [bv (z, b.2), ai 5]]) = some (.tup [.c (.int .u64 1), ai 0], H ++ [.row [bv (z, b.2), ai 6]]) := g3
      rw [restU, if_pos (by decide)] at hR
      have l1 := fun H => lens_Read b' (by rw [hb3]; simp; omega) (fun x hx => hby x (by rw [hb3] at hx; exact List.mem_of_mem_drop hx)) (w := 11) (.inl rfl) H
      by_cases he : (lensR b'.2 11).2 = 0
      · rw [if_pos he] at hR
        have hok2 := lensR_ok he
        obtain ⟨cn, hcn⟩ : ∃ x, (lensR b'.2 11).1 = x := ⟨_, rfl⟩
        have hres : resL b'.2 11 none = .tup [lst true 1 none (nvs (lvals b'.2 11 cn)), ai (lsize cn 11 : Nat), ai 0] := by rw [resL, if_pos he, hcn]
        rw [hcn] at hok2 hR
        rw [hres] at l1
        have hsm := lvals_small (bs := b'.2) (c := cn) (by omega)
        have hsz : lsize cn 11 ≤ b'.2.length := by
          have : lsize cn 11 = (cn * (11 + 1) + 7) / 8 := by rw [lsize, if_neg (by omega)]
          omega
        obtain ⟨k, hk⟩ : ∃ x, lsize cn 11 = x := ⟨_, rfl⟩
        rw [hk] at hsz l1 hR
        replace l1 : ∀ H, callW P f_lens_Read [bv b', ai 11] H = some (.tup [lst true 1 none (nvs (lvals b'.2 11 cn)), ai k, ai 0], H ++ [.other]) := l1
        have f1 := fun d => bv_from (b := b') (i := k) hsz .i64 d
        obtain ⟨b2, hb2'⟩ : ∃ t, bcut b' k b'.2.length = t := ⟨_, rfl⟩
        have hb4 : b2.2 = b'.2.drop k := by rw [← hb2', bcut_from]
        rw [hb2'] at f1
        rw [← hb4] at hR
        have hll : (lvals b'.2 11 cn).length ≤ 23 := by rw [lvals_len]; omega
        obtain ⟨ls, hls⟩ : ∃ t, lvals b'.2 11 cn = t := ⟨_, rfl⟩
        rw [hls] at l1 hR hll hsm
        obtain ⟨out, q0, q1⟩ := umd_fields (zl := true) (l := ls) b2 (by rw [hb4, hb3]; simp; omega) hll hsm (H ++ [.row [bv (z, b.2), ai 16], .other])
        obtain ⟨ee, he4⟩ : ∃ x, (fieldsR b2.2 ls).1 = x := ⟨_, rfl⟩
        rw [he4] at q1
        refine ⟨out, 2, by rw [hR]; exact q0, ?_⟩
        rw [readUV, hR, he4, show uFI b.2 (Int.toNat 10) = v1 from e1, show uSN b.2 (Int.toNat 10) = v3 from e3]
        by_cases hee : ee = 0
        · have hee' : (ee : Int) = 0 := by omega
          rw [call_L 7 rfl (rfl : P.T f_umd_Read = some F_umd_Read) (le_ok rfl)]; simp -implicitDefEqProofs [-toCells, -AV.one, -forget, F_umd_Read, c_umd_Read, w8, w5, w0, hW, hh, hlen, c1, c2, n1, n1', n2, r1, g1, g2, g3, g4, d1, l1, f1, q1, hee, hee', i1, i3, keepB, -goodB, goodB_L, sameV, dstNot, dstNe, SOpG.reads, SOp.slots, SX.slots, SOp.noL, rdV_load, selfE_lst, selfE, selfEs, eqV]
        · have hee' : ¬ (ee : Int) = 0 := by omega
          rw [call_L 7 rfl (rfl : P.T f_umd_Read = some F_umd_Read) (le_ok rfl)]; simp -implicitDefEqProofs [-toCells, -AV.one, -forget, F_umd_Read, c_umd_Read, w8, w5, w0, hW, hh, hlen, c1, c2, n1, n1', n2, r1, g1, g2, g3, g4, d1, l1, f1, q1, hee, hee', i1, i3, keepB, -goodB, goodB_L, sameV, dstNot, dstNe, SOpG.reads, SOp.slots, SX.slots, SOp.noL, rdV_load, selfE_lst, selfE, selfEs, eqV]
      · rw [if_neg he] at hR
        obtain ⟨ee, hee⟩ : ∃ x, (lensR b'.2 11).2 = x := ⟨_, rfl⟩
        have hres : resL b'.2 11 none = .tup [nilS, ai 0, ai (ee : Nat)] := by rw [resL, if_neg he, hee]
        rw [hee] at he hR
        rw [hres] at l1
        replace l1 : ∀ H, callW P f_lens_Read [bv b', ai 11] H = some (.tup [nilS, ai 0, ai (ee : Nat)], H ++ [.other]) := l1
        have he' : ¬ (ee : Int) = 0 := by omega
        refine ⟨[], 2, by rw [hR]; rfl, ?_⟩
        rw [readUV, hR]
        rw [call_L 7 rfl (rfl : P.T f_umd_Read = some F_umd_Read) (le_ok rfl)]; simp -implicitDefEqProofs [-toCells, -AV.one, -forget, F_umd_Read, c_umd_Read, w8, w5, w0, hW, hh, hlen, c1, c2, n1, n1', n2, r1, g1, g2, g3, g4, d1, l1, he, he', keepB, -goodB, goodB_L, sameV, dstNot, dstNe, SOpG.reads, SOp.slots, SX.slots, SOp.noL, rdV_load, selfE_lst, selfE, selfEs, eqV]
    · have hm' : ¬ (v2 : Int) = 1 := by omega
      rw [decide_eq_false hm, restU, if_neg (by decide)] at hR
      obtain ⟨out, q0, q1⟩ := umd_fields (zl := true) (l := []) b' (by rw [hb3]; simp; omega) (by simp) (by simp) (H ++ [.row [bv (z, b.2), ai 16]])
      rw [nvs, List.map_nil, lst_nil] at q1
      obtain ⟨ee, he4⟩ : ∃ x, (fieldsR b'.2 []).1 = x := ⟨_, rfl⟩
      rw [he4] at q1
      refine ⟨out, 1, by rw [hR]; exact q0, ?_⟩
      rw [readUV, hR, he4, show uFI b.2 (Int.toNat 10) = v1 from e1, show uSN b.2 (Int.toNat 10) = v3 from e3]
      by_cases hee : ee = 0
      · have hee' : (ee : Int) = 0 := by omega
        rw [call_L 7 rfl (rfl : P.T f_umd_Read = some F_umd_Read) (le_ok rfl)]; simp -implicitDefEqProofs [-toCells, -AV.one, -forget, F_umd_Read, c_umd_Read, w8, w5, w0, hW, hh, hlen, c1, c2, n1, n1', n2, r1, g1, g2, g3, g4, hm, hm', d1, q1, hee, hee', i1, i3, keepB, -goodB, goodB_L, sameV, dstNot, dstNe, SOpG.reads, SOp.slots, SX.slots, SOp.noL, rdV_load, selfE_lst, selfE, selfEs, eqV]
      · have hee' : ¬ (ee : Int) = 0 := by omega
        rw [call_L 7 rfl (rfl : P.T f_umd_Read = some F_umd_Read) (le_ok rfl)]; simp -implicitDefEqProofs [-toCells, -AV.one, -forget, F_umd_Read, c_umd_Read, w8, w5, w0, hW, hh, hlen, c1, c2, n1, n1', n2, r1, g1, g2, g3, g4, hm, hm', d1, q1, hee, hee', i1, i3, keepB, -goodB, goodB_L, sameV, dstNot, dstNe, SOpG.reads, SOp.slots, SX.slots, SOp.noL, rdV_load, selfE_lst, selfE, selfEs, eqV]
  · rw [if_neg hz] at hR
    have hz' : ¬ (v0 : Int) = 0 := by omega
    refine ⟨[], 1, by rw [hR]; rfl, ?_⟩
    rw [readUV, hR]
    rw [call_L 7 rfl (rfl : P.T f_umd_Read = some F_umd_Read) (le_ok rfl)]; simp -implicitDefEqProofs [-toCells, -AV.one, -forget, F_umd_Read, c_umd_Read, w8, w5, w0, hW, hh, hlen, c1, c2, n1, n1', n2, r1, g1, g2, g3, g4, hz, hz', keepB, -goodB, goodB_L, sameV, dstNot, dstNe, SOpG.reads, SOp.slots, SX.slots, SOp.noL, rdV_load, selfE_lst, selfE, selfEs, eqV]
end Go.A.V.S

namespace Go.A.V.S
open Go Go.A
set_option linter.unusedSimpArgs false
set_option linter.unusedVariables false
section
variable {H : Heap}
def InvUl (H : Heap) (z1 : Bool) (r : List Bs) (z : Nat) (σ : List AV) (G : Heap) : Prop :=
  ∃ i : Nat, i + z = r.length ∧ G = H ∧ σ = L 23 (((((Tr.full 5).put (path 3) (lst true 1 (some 20) (nvs (((bb r).take i).map (·.length))))).put (path 10) (lst z1 1 none (bvs r))).put (path 11) (ai r.length)).put (path 12) (ai i))
def PostUl (H : Heap) (r : List Bs) (e : AExit) (σ : List AV) (G : Heap) : Prop :=
  G = H ∧ e = .exit 0 ∧ kill [10, 11, 12, 13] σ = L 23 ((Tr.full 5).put (path 3) (lst true 1 (some 20) (nvs ((bb r).map (·.length)))))
theorem loopUl {z1 : Bool} {r : List Bs} (hl : r.length ≤ 100) (z : Nat) (σ : List AV) (G : Heap)
    (hI : InvUl H z1 r z (kill (headK lp0_umd_lengths) σ) G) :
    Ends (execW P f_umd_lengths (.loop lp0_umd_lengths) σ G) fun s => PostUl H r s.e s.σ s.H := by
  refine loop_ends (fun z σ G => InvUl H z1 r z σ G) (PostUl H r) ?_ z σ G hI
  clear hI z σ G
  rintro z σ G ⟨i, hz, rfl, rfl⟩
  have hla : (bvs r).length = r.length := bvs_len r
  by_cases hi : i < r.length
  · have hi' : (i : Int) < r.length := by omega
    obtain ⟨x, hx⟩ : ∃ x, r[i]? = some x := ⟨_, List.getElem?_eq_getElem hi⟩
    have q1 := bvs_at hx z1 none .i64
    have hxl := bv_len x
    have hsn : ((bb r).take (i + 1)).map (·.length) = ((bb r).take i).map (·.length) ++ [x.2.length] := by rw [take_snoc (bb_at hx)]; simp
    have hap := fun σ H => app1 (m := P.md f_umd_lengths) (d := 20) (bytes := 8) (v := ai x.2.length) (R_umd_lengths 20) (by omega) (by rw [nvs_len]; simp [bb_len]; omega) (l := nvs (((bb r).take i).map (·.length))) (some 19) σ H
    rw [← nvs_snoc, ← hsn] at hap
    have w6 : IntKind.i64.wrap ((i : Int) + 1) = ((i + 1 : Nat) : Int) := by rw [wrap_i64 (by omega) (by omega)]; omega
    obtain ⟨i1, hi1⟩ : ∃ t, i + 1 = t := ⟨_, rfl⟩
    rw [hi1] at w6 hap
    generalize nvs (((bb r).take i).map (·.length)) = L0 at *
    have hres : ∀ σ, σ = L 23 (((((Tr.full 5).put (path 3) (lst true 1 (some 20) (nvs (((bb r).take i1).map (·.length))))).put (path 10) (lst z1 1 none (bvs r))).put (path 11) (ai r.length)).put (path 12) (ai i1)) → ∃ m, m < z ∧ InvUl G z1 r m σ G := fun σ e => ⟨z - 1, by omega, i1, by omega, rfl, e⟩
    generalize nvs (((bb r).take i1).map (·.length)) = L1 at *
    simp -implicitDefEqProofs [-toCells, -AV.one, -forget, c_umd_lengths, lp0_umd_lengths, hla, hi, hi', q1, hxl, hap, w6]
    exact hres _ (by simp)
  · have hi' : ¬ (i : Int) < r.length := by omega
    have hall : (bb r).take i = bb r := List.take_of_length_le (by rw [bb_len]; omega)
    rw [hall]
    obtain ⟨L0, hL0⟩ : ∃ t, nvs ((bb r).map (·.length)) = t := ⟨_, rfl⟩
    rw [hL0]
    simp -implicitDefEqProofs [-toCells, -AV.one, -forget, c_umd_lengths, lp0_umd_lengths, hla, hi, hi']
    exact ⟨rfl, rfl, by rw [hL0]; simp⟩
theorem umd_lengths {z0 : Bool} {ff : List Bs} (h1 : 1 ≤ ff.length) (hl : ff.length ≤ 24) (H : Heap) :
    callW P f_umd_lengths [lst z0 1 none (bvs ff)] H = some (lst true 1 (some 0) (nvs ((bb (ff.take (ff.length - 1))).map (·.length))), H) := by
  obtain ⟨l1, hl1⟩ : ∃ t, ff.length - 1 = t := ⟨_, rfl⟩
  obtain ⟨r, hr⟩ : ∃ t, ff.take l1 = t := ⟨_, rfl⟩
  have hrl : r.length = l1 := by rw [← hr, List.length_take]; omega
  rw [hl1, hr]
  have wl : IntKind.i64.wrap ((ff.length : Int) - 1) = (l1 : Int) := by rw [wrap_i64 (by omega) (by omega)]; omega
  have hla : (bvs ff).length = ff.length := bvs_len ff
  have hcut : ∀ d, cutV 1 d (lst z0 1 none (bvs ff)) none (some (ai l1)) none = some (lst (z0 && (bvs ff).isEmpty) 1 none (bvs r)) := fun d => by
    have h := cutV_lst (lo := none) (hi := some (ai l1)) (i := 0) (j := l1) z0 1 none d (bvs ff) (.inl ⟨rfl, rfl⟩) (.inr ⟨.i64, rfl⟩) (by omega) (by rw [hla]; omega)
    rw [h, cutL, List.drop_zero, ← hr, bvs, bvs, List.map_take]
  have hrb : (bvs r).length = l1 := by rw [bvs_len, hrl]
  suffices hend : Ends (callW P f_umd_lengths [lst z0 1 none (bvs ff)] H) fun y => y = (lst true 1 (some 0) (nvs ((bb r).map (·.length))), H) by
    obtain ⟨y, h2, rfl⟩ := hend
    exact h2
  refine call_post 5 23 rfl (rfl : P.T f_umd_lengths = some F_umd_lengths) rfl (le_ok rfl) (fun e σ G => e = .ret ∧ G = H ∧ resultsA F_umd_lengths.res σ = some (lst true 1 (some 20) (nvs ((bb r).map (·.length))))) ?_ ?_
  · rintro e σ G ⟨rfl, rfl, h2⟩
    refine ⟨rfl, _, h2, by simp, ?_⟩
    simp
  obtain ⟨L0, hL0⟩ : ∃ t, nvs ((bb r).map (·.length)) = t := ⟨_, rfl⟩
  rw [F_umd_lengths]; simp -implicitDefEqProofs [-toCells, -AV.one, -forget, c_umd_lengths, hla, wl, hcut, hrb]
  repeat rw [Option.bind_assoc]
  refine Ends.block (P := PostUl H r) (loopUl (z1 := z0 && (bvs ff).isEmpty) (by omega) r.length _ _ ⟨0, by omega, rfl, by simp [lp0_umd_lengths, nvs, bb, hrl]⟩) ?_
  rintro e σ1 G2 ⟨rfl, rfl, k2⟩
  rw [hL0] at k2 ⊢
  simp -implicitDefEqProofs [-toCells, -AV.one, -forget, c_umd_lengths, k2]
end
end Go.A.V.S

namespace Go.A.V.S
open Go Go.A
set_option linter.unusedSimpArgs false
set_option linter.unusedVariables false

def uBits (p : Um) (w : Nat) : List Bool :=
  ((if w = 10 then [false, false, false] else []) ++ bitsOf p.fi.toNat 2 ++ [decide (1 < p.ff.length)]) ++ bitsOf p.sn.toNat w
def lenU (p : Um) : List Nat := (bb (p.ff.take (p.ff.length - 1))).map (·.length)
/-- The bytes of a packet. -/
def WrU (p : Um) (w : Nat) (out : List Nat) : Prop := ∃ hb lb, PackR (uBits p w) hb ∧ PackR (lBits 11 (lenU p)) lb ∧ out = hb ++ lb ++ (bb p.ff).flatten
theorem uBits_len (p : Um) {w : Nat} (hw : w = 5 ∨ w = 10) : (uBits p w).length = 8 * (w / 5) := by
  unfold uBits
  rcases hw with rfl | rfl <;> simp [bitsOf_len]
theorem sizeU_pos {p : Um} {w : Int} (h : sizeU p w ≠ 0) : (w = 5 ∨ w = 10) ∧ (0 ≤ p.fi ∧ p.fi ≤ 3) ∧ (0 ≤ p.sn ∧ p.sn < (2 ^ w.toNat : Nat)) ∧ 1 ≤ p.ff.length ∧ p.ff.length ≤ 24 ∧ sizeU p w = sumR (baseU p w.toNat) (bb p.ff) := by
  rw [sizeU] at h ⊢
  by_cases c1 : w = 5 ∨ w = 10
  · rw [if_neg (not_not_intro c1)] at h ⊢
    by_cases c2 : p.fi < 0
    · rw [if_pos c2] at h; exact (h rfl).elim
    rw [if_neg c2] at h ⊢
    by_cases c3 : 3 < p.fi
    · rw [if_pos c3] at h; exact (h rfl).elim
    rw [if_neg c3] at h ⊢
    by_cases c4 : 0 ≤ p.sn ∧ p.sn < (2 ^ w.toNat : Nat)
    · rw [if_neg (not_not_intro c4)] at h ⊢
      by_cases c5 : p.ff.length < 1
      · rw [if_pos c5] at h; exact (h rfl).elim
      rw [if_neg c5] at h ⊢
      by_cases c6 : 24 < p.ff.length
      · rw [if_pos c6] at h; exact (h rfl).elim
      rw [if_neg c6]
      exact ⟨c1, ⟨by omega, by omega⟩, c4, by omega, by omega, rfl⟩
    · rw [if_pos c4] at h; exact (h rfl).elim
  · rw [if_pos c1] at h; exact (h rfl).elim
theorem bitsOf_z {w n0 : Nat} (hw : w = 5 ∧ n0 = 0 ∨ w = 10 ∧ n0 = 3) : bitsOf 0 n0 = (if w = 10 then [false, false, false] else []) := by
  rcases hw with ⟨rfl, rfl⟩ | ⟨rfl, rfl⟩ <;> decide
theorem lens_ok {p : Um} {n : Nat} (h : sumR n (bb p.ff) ≠ 0) : ∀ n ∈ lenU p, 1 ≤ n ∧ n < 2 ^ 11 := fun n hn => by
  obtain ⟨s1, s2, s3, s4⟩ := sumR_pos (bb p.ff) _ h
  rw [lenU] at hn
  obtain ⟨b, hb1, rfl⟩ := List.mem_map.1 hn
  have hdr : bb (p.ff.take (p.ff.length - 1)) = (bb p.ff).dropLast := by rw [List.dropLast_eq_take, bb_len, bb, bb, List.map_take]
  rw [hdr] at hb1
  have h2 := s2 b hb1
  have h3 := s1 b (List.mem_of_mem_take (by rw [List.dropLast_eq_take] at hb1; exact hb1))
  have : (2 : Nat) ^ 11 = 2048 := by decide
  omega
section
variable {H : Heap}
set_option maxHeartbeats 2000000 in
theorem umd_Write_ok (p : Um) (hs : ∀ f ∈ p.ff, f.2.length ≤ 100000) (hfl : p.ff.length ≤ 100000) {w n0 : Nat} (hw : w = 5 ∧ n0 = 0 ∨ w = 10 ∧ n0 = 3) (H : Heap) (h0 : sizeU p w ≠ 0) :
    ∃ out k, WrU p w out ∧ callW P f_umd_Write [.agg p.v, ai w] H = some (.tup [.vs 1 none (byteCs out), ai 0], H ++ List.replicate k .other) := by
  obtain ⟨c1, ⟨hf0, hf3⟩, ⟨hs0, hs1⟩, hl1, hl24, hsz⟩ := sizeU_pos h0
  have h37 := fun H => umd_isWidth w H
  rw [decide_eq_true c1] at h37
  have hR := fun H => umd_Right p hs hfl w H
  rw [decide_eq_true (by omega)] at hR
  have htn : ((w : Nat) : Int).toNat = w := by simp
  rw [htn] at hs1 hsz
  rw [hsz] at h0
  have hlens := lens_ok h0
  obtain ⟨s1, s2, s3, s4⟩ := sumR_pos (bb p.ff) _ h0
  have hbne : bb p.ff ≠ [] := fun e => by have := congrArg List.length e; rw [bb_len] at this; simp at this; rw [this] at hl1; simp at hl1
  have hdl := s3 hbne
  clear s1 s2 s3 s4 hbne h0 hsz
  have hul := uBits_len p (w := w) (by omega)
  have huB : uBits p w = bitsOf 0 n0 ++ bitsOf p.fi.toNat 2 ++ [decide (1 < p.ff.length)] ++ bitsOf p.sn.toNat w := by rw [uBits, bitsOf_z hw]
  have hW : ∀ hb lb, PackR (uBits p w) hb → PackR (lBits 11 (lenU p)) lb → WrU p w (hb ++ lb ++ (bb p.ff).flatten) := fun hb lb a b => ⟨hb, lb, a, b, rfl⟩
  have hlu : lenU p = (bb (p.ff.take (p.ff.length - 1))).map (·.length) := rfl
  have hll : (lenU p).length = p.ff.length - 1 := by rw [hlu]; simp [bb_len]
  generalize WrU p w = WW at *
  generalize lenU p = ls at *
  generalize uBits p w = ub at *
  obtain ⟨fi, sn, z0, ff⟩ := p
  simp only [Um.v, Um.f] at *
  have hld := fun H => umd_lengths (z0 := z0) hl1 hl24 H
  rw [← hlu] at hld
  have hJ := fun H => bytes_Join (z0 := z0) hfl (by omega : (bb ff).flatten.length ≤ 1000000) H
  generalize (bb ff).flatten = data at *
  clear hs hfl hlu
  obtain ⟨fn, rfl⟩ : ∃ n : Nat, fi = n := ⟨fi.toNat, by omega⟩
  obtain ⟨sn', rfl⟩ : ∃ n : Nat, sn = n := ⟨sn.toNat, by omega⟩
  have hw16 : 2 ^ w ≤ 2 ^ 10 := Nat.pow_le_pow_right (by omega) (by omega)
  have e16 : (2 : Nat) ^ 10 = 1024 := by decide
  have hsn2 : sn' < 2 ^ w := by omega
  have wfi : IntKind.u64.wrap (fn : Int) = fn := wrap_u64 (by omega) (by omega)
  have wsn : IntKind.u64.wrap (sn' : Int) = sn' := wrap_u64 (by omega) (by omega)
  have hh := fun H => umd_head w (by omega) H
  have w8 : IntKind.i64.wrap (8 * ((w / 5 : Nat) : Int)) = (n0 + 3 + w : Nat) := by rcases hw with ⟨rfl, rfl⟩ | ⟨rfl, rfl⟩ <;> rfl
  have w5 : IntKind.i64.wrap (((n0 + 3 + w : Nat) : Int) - 3) = (n0 + w : Nat) := by rcases hw with ⟨rfl, rfl⟩ | ⟨rfl, rfl⟩ <;> rfl
  have w0 : IntKind.i64.wrap (((n0 + w : Nat) : Int) - w) = n0 := by rcases hw with ⟨rfl, rfl⟩ | ⟨rfl, rfl⟩ <;> rfl
  generalize ((w / 5 : Nat) : Int) = hd at *
  generalize ((n0 + 3 + w : Nat) : Int) = q8 at *
  generalize ((n0 + w : Nat) : Int) = q5 at *
  have hla : (bvs ff).length = ff.length := bvs_len ff
  obtain ⟨l1, hl1e⟩ : ∃ t, ff.length - 1 = t := ⟨_, rfl⟩
  have wl : IntKind.i64.wrap ((ff.length : Int) - 1) = (l1 : Int) := by rw [wrap_i64 (by omega) (by omega)]; omega
  have c0 := bits_New H
  have hcs : ∀ a b : List Nat, byteCs a ++ byteCs b = byteCs (a ++ b) := fun a b => by simp [byteCs]
  obtain ⟨x1, y1, e1, n1, p1, k1⟩ := put1 (H := H) (l := []) (bits := []) (m := 0) rfl PackR.nil (by omega) 0 n0 (by omega) (Nat.two_pow_pos _) 0 n0 rfl rfl
  obtain ⟨x2, y2, e2, n2, p2, k2⟩ := put1 (H := H) n1 p1 (by omega) fn 2 (by omega) (by simp; omega) fn 2 rfl rfl
  by_cases hl0 : l1 = 0
  · have hls0 : ls = [] := List.length_eq_zero_iff.1 (by omega)
    obtain ⟨x3, y3, e3, n3, p3, k3⟩ := put1 (H := H) n2 p2 (by omega) 0 1 (by omega) (by decide) 0 1 rfl rfl
    obtain ⟨x4, y4, e4, n4, p4, k4⟩ := put1 (H := H) n3 p3 (by omega) sn' w (by omega) hsn2 sn' w rfl rfl
    have hb : ub = x4 := by rw [huB, e4, e3, e2, e1, bitsOf_0, decide_eq_false (by omega), Int.toNat_natCast, Int.toNat_natCast, List.nil_append]
    have hx0 : x4 ≠ [] := fun e => by rw [e, List.length_nil] at n4; omega
    have c9 := bits_Bytes (H := H) p4 hx0 (by omega)
    obtain ⟨t1, t2⟩ := WN_fin (H := H) y4 hx0
    generalize WN H x4 y4 = G0 at *
    obtain ⟨zd, fd, kd, hD⟩ := hJ G0
    have hyl : y4.length ≤ 100 := by have := p4.len; omega
    have wz : IntKind.u64.wrap 0 = 0 := rfl
    have hmn : mn (l1 : Int) 1 = 0 := by rw [mn, if_neg (by omega)]; omega
    have hap := fun (f : Option Nat) σ H => appW_vs (m := P.md f_umd_Write) (d := 70) (bytes := 1) (c := 50) (l := byteCs y4) (l' := byteCs data) (x := lst zd 1 f (byteCs data)) (fun H => elems_lst zd f 1 _ H) (by simp [byteCs_len, appBound]; omega) (by simp [byteCs_len, appBound]; omega) σ H
    have hres := hW y4 [] (by rw [hb]; exact p4) (by rw [hls0]; exact PackR.nil)
    rw [List.append_nil] at hres
    rw [hcs] at hap
    generalize y4 ++ data = out at *
    have t1' : (G0 ++ List.replicate kd AObj.other).take H.length = H := by rw [List.take_append_of_le_length (by omega), t1]
    have t2' : (G0 ++ List.replicate kd AObj.other).length = H.length + (2 + kd) := by simp [t2]; omega
    generalize G0 ++ List.replicate kd AObj.other = G1 at *
    refine ⟨out, 2 + kd, hres, ?_⟩
    clear hres hW huB hlens hls0 hb
    rw [call_L 7 rfl (rfl : P.T f_umd_Write = some F_umd_Write) (le_ok rfl)]; simp -implicitDefEqProofs [-toCells, -AV.one, -forget, F_umd_Write, c_umd_Write, keepB, goodB_L, sameV, dstNot, dstNe, SOpG.reads, SOp.slots, SX.slots, SOp.noL, rdV, selfE_lst, selfE, selfEs, eqV, h37, hR, c0, hla, wl, hmn, wz, hh, w8, w5, w0, k1, wfi, k2, k3, wsn, k4, c9, hD, hap, t1', t2']
  · have hl0p : 0 < l1 := by omega
    obtain ⟨x3, y3, e3, n3, p3, k3⟩ := put1 (H := H) n2 p2 (by omega) 1 1 (by omega) (by decide) 1 1 rfl rfl
    obtain ⟨x4, y4, e4, n4, p4, k4⟩ := put1 (H := H) n3 p3 (by omega) sn' w (by omega) hsn2 sn' w rfl rfl
    have hb : ub = x4 := by rw [huB, e4, e3, e2, e1, bitsOf_1, decide_eq_true (by omega), Int.toNat_natCast, Int.toNat_natCast, List.nil_append]
    have hx0 : x4 ≠ [] := fun e => by rw [e, List.length_nil] at n4; omega
    have c9 := bits_Bytes (H := H) p4 hx0 (by omega)
    obtain ⟨t1, t2⟩ := WN_fin (H := H) y4 hx0
    generalize WN H x4 y4 = G0 at *
    obtain ⟨lb, hpb, hL⟩ := lens_Write (z0 := true) (l := ls) (w := 11) (by omega) (by omega) (.inl rfl) hlens G0
    replace hL : callW P f_lens_Write [lst true 1 none (nvs ls), ai 11] G0 = some (.tup [.vs 1 none (byteCs lb), ai 0], G0 ++ List.replicate 2 .other) := hL
    have hlbl := hpb.len
    have hlb2 := lBits_le (w := 11) (.inl rfl) (l := ls) (by omega)
    obtain ⟨zd, fd, kd, hD⟩ := hJ (G0 ++ List.replicate 2 .other)
    rw [oth_app] at hD
    generalize G0 ++ List.replicate 2 AObj.other = GL at *
    have hyl : y4.length ≤ 100 := by have := p4.len; omega
    have wz : IntKind.u64.wrap 1 = 1 := rfl
    have hmn : mn (l1 : Int) 1 = 1 := by
      by_cases h : l1 = 1
      · rw [h]; rfl
      · rw [mn, if_pos (by omega)]
    have hap1 := fun σ H => appW_vs (m := P.md f_umd_Write) (d := 65) (bytes := 1) (c := 50) (l := byteCs y4) (l' := byteCs lb) (x := .vs 1 none (byteCs lb)) (fun H => elems_vs H 1 none (byteCs lb)) (by simp [byteCs_len, appBound]; omega) (by simp [byteCs_len, appBound]; omega) σ H
    have hap := fun (f : Option Nat) σ H => appW_vs (m := P.md f_umd_Write) (d := 70) (bytes := 1) (c := 65) (l := byteCs (y4 ++ lb)) (l' := byteCs data) (x := lst zd 1 f (byteCs data)) (fun H => elems_lst zd f 1 _ H) (by simp [byteCs_len, appBound]; omega) (by simp [byteCs_len, appBound]; omega) σ H
    have hres := hW y4 lb (by rw [hb]; exact p4) hpb
    rw [hcs] at hap1
    rw [hcs] at hap
    generalize y4 ++ lb = yl at *
    generalize yl ++ data = out at *
    have t1' : (G0 ++ List.replicate (2 + kd) AObj.other).take H.length = H := by rw [List.take_append_of_le_length (by omega), t1]
    have t2' : (G0 ++ List.replicate (2 + kd) AObj.other).length = H.length + (2 + (2 + kd)) := by simp [t2]; omega
    generalize G0 ++ List.replicate (2 + kd) AObj.other = G1 at *
    refine ⟨out, 2 + (2 + kd), hres, ?_⟩
    clear hres hW huB hlens hb
    rw [call_L 7 rfl (rfl : P.T f_umd_Write = some F_umd_Write) (le_ok rfl)]; simp -implicitDefEqProofs [-toCells, -AV.one, -forget, F_umd_Write, c_umd_Write, keepB, goodB_L, sameV, dstNot, dstNe, SOpG.reads, SOp.slots, SX.slots, SOp.noL, rdV, selfE_lst, selfE, selfEs, eqV, h37, hR, c0, hla, wl, hmn, wz, hh, w8, w5, w0, k1, wfi, k2, k3, wsn, k4, c9, hld, hL, hap1, hD, hap, t1', t2']
end
end Go.A.V.S

namespace Go.A.V.S
open Go Go.A
set_option linter.unusedSimpArgs false
set_option linter.unusedVariables false
theorem umd_Write (p : Um) (hs : ∀ f ∈ p.ff, f.2.length ≤ 100000) (hfl : p.ff.length ≤ 100000) (w : Int) (H : Heap) :
    (¬ (w = 5 ∨ w = 10) → callW P f_umd_Write [.agg p.v, ai w] H = some (.tup [nilS, ai 9], H)) ∧
    ((w = 5 ∨ w = 10) → sizeU p w = 0 → callW P f_umd_Write [.agg p.v, ai w] H = some (.tup [nilS, ai 3], H)) ∧
    (sizeU p w ≠ 0 → ∃ out k, WrU p w.toNat out ∧ callW P f_umd_Write [.agg p.v, ai w] H = some (.tup [.vs 1 none (byteCs out), ai 0], H ++ List.replicate k .other)) := by
  have h37 := fun H => umd_isWidth w H
  have hR := fun H => umd_Right p hs hfl w H
  refine ⟨fun hw => ?_, fun hw h0 => ?_, fun h0 => ?_⟩
  · rw [decide_eq_false hw] at h37
    obtain ⟨fi, sn, z0, ff⟩ := p
    rw [call_L 7 rfl (rfl : P.T f_umd_Write = some F_umd_Write) (le_ok rfl)]; simp -implicitDefEqProofs [-toCells, -AV.one, -forget, F_umd_Write, c_umd_Write, Um.v, Um.f, h37]
  · rw [decide_eq_true hw] at h37
    rw [h0] at hR
    replace hR : ∀ H, callW P f_umd_Right [.agg p.v, ai w] H = some (ab false, H) := hR
    obtain ⟨fi, sn, z0, ff⟩ := p
    simp only [Um.v, Um.f] at hR
    rw [call_L 7 rfl (rfl : P.T f_umd_Write = some F_umd_Write) (le_ok rfl)]; simp -implicitDefEqProofs [-toCells, -AV.one, -forget, F_umd_Write, c_umd_Write, Um.v, Um.f, h37, hR]
  · obtain ⟨c1, -⟩ := sizeU_pos h0
    rcases c1 with rfl | rfl
    · exact umd_Write_ok p hs hfl (w := 5) (n0 := 0) (.inl ⟨rfl, rfl⟩) H h0
    · exact umd_Write_ok p hs hfl (w := 10) (n0 := 3) (.inr ⟨rfl, rfl⟩) H h0
end Go.A.V.S

namespace Go.A.V.S
open Go Go.A
set_option linter.unusedSimpArgs false
set_option linter.unusedVariables false
theorem lenU_eq (p : Um) : lenU p = (bb p.ff).dropLast.map (·.length) := by
  rw [lenU, List.dropLast_eq_take, bb_len, bb, bb, List.map_take]
def uZ (w : Nat) : List Bool := if w = 10 then [false, false, false] else []
theorem headU_back {p : Um} {w : Nat} {hb : List Nat} (hw : w = 5 ∨ w = 10) (hfi : 0 ≤ p.fi ∧ p.fi ≤ 3) (hsn : 0 ≤ p.sn ∧ p.sn < (2 ^ w : Nat)) (hp : PackR (uBits p w) hb) (rest : List Nat) :
    hb.length = w / 5 ∧ numAt (hb ++ rest) 0 (uN0 w) = 0 ∧ uMore (hb ++ rest) w = decide (1 < p.ff.length) ∧ (uFI (hb ++ rest) w : Int) = p.fi ∧ (uSN (hb ++ rest) w : Int) = p.sn := by
  have hul := uBits_len p hw
  obtain ⟨fi, sn, z, ff⟩ := p
  simp only at hfi hsn
  obtain ⟨fn, rfl⟩ : ∃ n : Nat, fi = n := ⟨fi.toNat, by omega⟩
  obtain ⟨sn', rfl⟩ : ∃ n : Nat, sn = n := ⟨sn.toNat, by omega⟩
  have hsn2 : sn' < 2 ^ w := by omega
  have lF : (bitsOf fn 2).length = 2 := bitsOf_len _ _
  have vF : num (bitsOf fn 2) = fn := num_bitsOf 2 fn (by simp; omega)
  obtain ⟨F, hF⟩ : ∃ t, bitsOf fn 2 = t := ⟨_, rfl⟩
  rw [hF] at lF vF
  obtain ⟨mo, hmo⟩ : ∃ t, decide (1 < ff.length) = t := ⟨_, rfl⟩
  obtain ⟨R, hR⟩ : ∃ t, bitsB rest = t := ⟨_, rfl⟩
  have lS : (bitsOf sn' w).length = w := bitsOf_len _ _
  have vS := num_bitsOf w sn' hsn2
  obtain ⟨S, hS⟩ : ∃ t, bitsOf sn' w = t := ⟨_, rfl⟩
  rw [hS] at lS vS
  have hx : uBits ⟨fn, sn', z, ff⟩ w = uZ w ++ F ++ [mo] ++ S := by simp only [uBits, uZ, Int.toNat_natCast, hF, hmo, hS]
  have lZ : (uZ w).length = uN0 w := by rcases hw with rfl | rfl <;> rfl
  have vZ : num (uZ w) = 0 := by rcases hw with rfl | rfl <;> rfl
  generalize uZ w = Z at *
  obtain ⟨e1, e2⟩ := packR_exact hp (by rw [hul]; omega)
  rw [hx] at e1
  have hB : bitsB (hb ++ rest) = Z ++ F ++ [mo] ++ S ++ R := by rw [bitsB_app, e1, hR]
  generalize hb ++ rest = bs at *
  have n0 : numAt bs 0 (uN0 w) = num Z := numAt_part (pre := []) (post := F ++ [mo] ++ S ++ R) (by rw [hB] <;> simp) rfl lZ
  have n1 : numAt bs (uN0 w) 2 = num F := numAt_part (pre := Z) (post := [mo] ++ S ++ R) (by rw [hB] <;> simp) lZ lF
  have n2 : numAt bs (uN0 w + 2) 1 = num [mo] := numAt_part (pre := Z ++ F) (post := S ++ R) (by rw [hB] <;> simp) (by simp [lZ, lF]) rfl
  have n3 : numAt bs (uN0 w + 3) w = num S := numAt_part (pre := Z ++ F ++ [mo]) (post := R) (by rw [hB] <;> simp) (by simp [lZ, lF]) lS
  rw [num_one] at n2
  refine ⟨by omega, by rw [n0, vZ], ?_, by rw [uFI, n1, vF], by rw [uSN, n3, vS]⟩
  rw [uMore, n2]
  cases mo <;> simp [hmo]
theorem read_backU {p : Um} {w : Int} {out : List Nat} (h0 : sizeU p w ≠ 0) (h : WrU p w.toNat out) :
    readU out w = (0, bb p.ff) ∧ out.length = sizeU p w ∧ (uFI out w.toNat : Int) = p.fi ∧ (uSN out w.toNat : Int) = p.sn := by
  obtain ⟨hw, hfi, hsn, hf1, hf24, hsz⟩ := sizeU_pos h0
  obtain ⟨wn, rfl, hwn⟩ : ∃ wn : Nat, w = wn ∧ (wn = 5 ∨ wn = 10) := by
    rcases hw with rfl | rfl
    · exact ⟨5, rfl, .inl rfl⟩
    · exact ⟨10, rfl, .inr rfl⟩
  have htn : ((wn : Nat) : Int).toNat = wn := by simp
  rw [htn] at hsn hsz h ⊢
  obtain ⟨s1, s2, s3, s4⟩ := sumR_pos (bb p.ff) (baseU p wn) (by rw [← hsz]; exact h0)
  have hbne : bb p.ff ≠ [] := fun e => by have := congrArg List.length e; rw [bb_len] at this; simp at this; rw [this] at hf1; simp at hf1
  have hdl := s3 hbne
  obtain ⟨hb, lb, hpk, hpl, rfl⟩ := h
  rw [List.append_assoc]
  obtain ⟨b1, b2, b3, b4, b5⟩ := headU_back hwn hfi hsn hpk (lb ++ (bb p.ff).flatten)
  have hll : (lenU p).length = p.ff.length - 1 := by rw [lenU_eq, List.length_map, List.length_dropLast, bb_len]
  have hlens : ∀ n ∈ lenU p, 1 ≤ n ∧ n ≤ 2047 := fun n hn => by
    rw [lenU_eq] at hn
    obtain ⟨b, hb1, rfl⟩ := List.mem_map.1 hn
    have h2 := s2 b hb1
    have h3 := s1 b (List.mem_of_mem_take (by rw [List.dropLast_eq_take] at hb1; exact hb1))
    omega
  have hlens2 : ∀ n ∈ lenU p, 1 ≤ n ∧ n < 2 ^ 11 := fun n hn => by
    have h2 := hlens n hn
    have : (2 : Nat) ^ 11 = 2048 := by decide
    omega
  have hcut := cutF_back (bb p.ff) hbne s1
  rw [← lenU_eq] at hcut
  have hany : ((lenU p).any fun n => decide (2047 < n)) = false := by
    refine List.any_eq_false.2 fun n hn => ?_
    have := (hlens n hn).2
    simp; omega
  have hfields : fieldsR (bb p.ff).flatten (lenU p) = (0, bb p.ff) := by rw [fieldsR, if_neg (by rw [hany]; simp), hcut]
  have hlb : lb.length = lsize (p.ff.length - 1) 11 := by
    by_cases h1 : 1 ≤ (lenU p).length
    · rw [← hll]; exact ((lback hpl hlens2 h1 (by omega) []).2.2).symm
    · have h2 := hpl.len
      rw [lBits_len, show (lenU p).length = 0 by omega] at h2
      rw [lsize, if_pos (by omega)]
      simp at h2; simp [h2]
  have hbase : baseU p wn = hb.length + lb.length := by rw [baseU, b1, hlb]
  rw [hbase] at hdl s4
  refine ⟨?_, ?_, b4, b5⟩
  · rw [readU, if_pos hw, if_neg (by simp only [List.length_append]; omega), htn, if_neg (by simp only [List.length_append]; omega), if_pos b2]
    have hd : (hb ++ (lb ++ (bb p.ff).flatten)).drop (wn / 5) = lb ++ (bb p.ff).flatten := by rw [← b1, List.drop_left]
    rw [restU, hd, b3]
    by_cases h1 : 1 < p.ff.length
    · rw [decide_eq_true h1, if_pos rfl]
      obtain ⟨c1, c2, c3⟩ := lback hpl hlens2 (by omega) (by omega) (bb p.ff).flatten
      rw [c1]
      simp only [if_true]
      rw [c2, c3, List.drop_left]
      exact hfields
    · rw [decide_eq_false h1, if_neg (by simp)]
      have hl0 : lb = [] := List.length_eq_zero_iff.1 (by rw [hlb, lsize, if_pos (by omega)])
      have hL0 : lenU p = [] := List.length_eq_zero_iff.1 (by omega)
      rw [hl0, List.nil_append]
      rw [hL0] at hfields
      exact hfields
  · rw [hsz, hbase, s4]; simp only [List.length_append]; omega
theorem readU_ok {bs : List Nat} {w : Int} {ff : List (List Nat)} (h : readU bs w = (0, ff)) :
    (w = 5 ∨ w = 10) ∧ bs.length ≤ 4000 ∧ w.toNat / 5 ≤ bs.length ∧ numAt bs 0 (uN0 w.toNat) = 0 ∧ restU (bs.drop (w.toNat / 5)) (uMore bs w.toNat) = (0, ff) := by
  unfold readU at h
  by_cases hw : w = 5 ∨ w = 10
  · rw [if_pos hw] at h
    by_cases c1 : 4000 < bs.length
    · rw [if_pos c1] at h; simp at h
    rw [if_neg c1] at h
    by_cases c2 : bs.length < w.toNat / 5
    · rw [if_pos c2] at h; simp at h
    rw [if_neg c2] at h
    by_cases c3 : numAt bs 0 (uN0 w.toNat) = 0
    · rw [if_pos c3] at h
      exact ⟨hw, by omega, by omega, c3, h⟩
    · rw [if_neg c3] at h; simp at h
  · rw [if_neg hw] at h; simp at h
end Go.A.V.S
