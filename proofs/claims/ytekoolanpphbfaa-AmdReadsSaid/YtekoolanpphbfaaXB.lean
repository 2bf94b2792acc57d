/- How many bytes a packet has. -/
import Derived.Test.YtekoolanpphbfaaXA
import Derived.Test.YtekoolanpphbfaaAX
set_option linter.unusedSimpArgs false
set_option linter.unusedVariables false
set_option linter.unnecessarySimpa false
namespace Go.A.V.S
open Go Go.A
set_option linter.unusedSimpArgs false
set_option linter.unusedVariables false

def base (p : Pk) (w : Nat) : Nat := headV p.part w + lsize (p.ff.length - 1) (lenWd w)
def sizeR (p : Pk) (w : Int) : Nat :=
  if ¬ (w = 10 ∨ w = 16) then 0 else if p.fi < 0 then 0 else if 3 < p.fi then 0 else if ¬ (0 ≤ p.sn ∧ p.sn < (2 ^ w.toNat : Nat)) then 0
  else if p.part = false ∧ p.last = true then 0 else if p.part = false ∧ p.off ≠ 0 then 0 else if p.off < 0 then 0 else if (2 ^ offWd w : Nat) ≤ p.off then 0
  else if p.ff.length < 1 then 0 else if 24 < p.ff.length then 0 else sumR (base p w.toNat) (bb p.ff)

section
variable {H : Heap}
def InvS (H : Heap) (Q : List AV) (z0 : Bool) (ff : List Bs) (n0 : Nat) (z : Nat) (σ : List AV) (G : Heap) : Prop :=
  ∃ (i n : Nat), i + z = ff.length ∧ n ≤ 4000 ∧ sumR n0 (bb ff) = sumR n ((bb ff).drop i) ∧ G = H ∧ σ = L 118 ((((((Tr.full 7).put (path 2) (.lbox Q)).put (path 6) (ai n)).put (path 82) (lst z0 1 none (bvs ff))).put (path 83) (ai ff.length)).put (path 84) (ai i))
def PostS (H : Heap) (ff : List Bs) (n0 : Nat) (e : AExit) (σ : List AV) (G : Heap) : Prop :=
  G = H ∧ ((e = .exit 1 ∧ kill [2, 82, 83, 84, 85] σ = L 118 ((Tr.full 7).put (path 6) (ai (sumR n0 (bb ff) : Nat)))) ∨ (e = .ret ∧ sumR n0 (bb ff) = 0 ∧ resultsA F_amd_Size.res σ = some (ai 0)))
theorem loopS {z0 : Bool} {ff : List Bs} (po : Bool) (fi sn : Int) (pa la : Bool) (off : Int) (hl : ff.length ≤ 24) (hs : ∀ f ∈ ff, f.2.length ≤ 100000) (n0 : Nat) (z : Nat) (σ : List AV) (G : Heap) (hI : InvS H (pktV po fi sn pa la off (lst z0 1 none (bvs ff))) z0 ff n0 z (kill (headK lp0_amd_Size) σ) G) :
    Ends (execW P f_amd_Size (.loop lp0_amd_Size) σ G) fun s => PostS H ff n0 s.e s.σ s.H := by
  refine loop_ends (fun z σ G => InvS H (pktV po fi sn pa la off (lst z0 1 none (bvs ff))) z0 ff n0 z σ G) (PostS H ff n0) ?_ z σ G hI
  clear hI z σ G
  rintro z σ G ⟨i, n, hz, hn4, hsum, rfl, rfl⟩
  have hla : (bvs ff).length = ff.length := bvs_len ff
  by_cases hi : i < ff.length
  · have hi' : (i : Int) < ff.length := by omega
    obtain ⟨x, hx⟩ : ∃ x, ff[i]? = some x := ⟨_, List.getElem?_eq_getElem hi⟩
    have hxs := hs x (List.mem_of_getElem? hx)
    have q1 := bvs_at hx z0 none .i64
    have hdrop : (bb ff).drop i = x.2 :: (bb ff).drop (i + 1) := by
      have h2 := bb_at hx
      have hi2 : i < (bb ff).length := by rw [bb_len]; exact hi
      rw [List.drop_eq_getElem_cons hi2]
      rw [List.getElem?_eq_getElem hi2] at h2
      rw [Option.some.inj h2]
    rw [hdrop, sumR, List.length_drop, bb_len] at hsum
    have hxl := bv_len x
    have wl : IntKind.i64.wrap ((ff.length : Int) - 1) = (ff.length : Int) - 1 := wrap_i64 (by omega) (by omega)
    have w4 : IntKind.i64.wrap (4000 - (n : Int)) = 4000 - (n : Int) := wrap_i64 (by omega) (by omega)
    have w5 : IntKind.i64.wrap ((n : Int) + x.2.length) = ((n + x.2.length : Nat) : Int) := by rw [wrap_i64 (by omega) (by omega)]; omega
    have w6 : IntKind.i64.wrap ((i : Int) + 1) = ((i + 1 : Nat) : Int) := by rw [wrap_i64 (by omega) (by omega)]; omega
    obtain ⟨xl, hxl'⟩ : ∃ t, x.2.length = t := ⟨_, rfl⟩
    rw [hxl'] at hxl hsum w5 hxs
    obtain ⟨i1, hi1⟩ : ∃ t, i + 1 = t := ⟨_, rfl⟩
    rw [hi1] at w6 hsum
    obtain ⟨n1, hn1⟩ : ∃ t, n + xl = t := ⟨_, rfl⟩
    rw [hn1] at w5 hsum
    by_cases c1 : xl = 0
    · have c1' : (xl : Int) = 0 := by omega
      rw [if_pos c1] at hsum
      simp -implicitDefEqProofs [-toCells, -AV.one, -forget, c_amd_Size, lp0_amd_Size, hla, hi, hi', q1, hxl, hxl', c1, c1']
      exact ⟨rfl, .inr ⟨rfl, hsum, by simp [F_amd_Size]⟩⟩
    · have c1' : ¬ (xl : Int) = 0 := by omega
      have c0 : ¬ x.2 = [] := fun h => c1 (by rw [← hxl', h]; rfl)
      rw [if_neg c1] at hsum
      by_cases c2 : xl > 2047
      · have c2' : (xl : Int) > 2047 := by omega
        have c2'' : (2047 : Int) < xl := by omega
        have c2''' : 2047 < xl := by omega
        by_cases c3 : (i : Int) < (ff.length : Int) - 1
        · rw [if_pos ⟨c2, by omega⟩] at hsum
          simp -implicitDefEqProofs [-toCells, -AV.one, -forget, c_amd_Size, lp0_amd_Size, pktV, hla, hi, hi', q1, hxl, hxl', c0, c1, c1', c2, c2', c2'', c2''', wl, c3]
          exact ⟨rfl, .inr ⟨rfl, hsum, by simp [F_amd_Size]⟩⟩
        · rw [if_neg (by omega)] at hsum
          by_cases c4 : (xl : Int) > 4000 - (n : Int)
          · have c4' : 4000 - (n : Int) < xl := c4
            rw [if_pos (by omega)] at hsum
            simp -implicitDefEqProofs [-toCells, -AV.one, -forget, c_amd_Size, lp0_amd_Size, pktV, hla, hi, hi', q1, hxl, hxl', c0, c1, c1', c2, c2', c2'', c2''', wl, c3, w4, c4, c4']
            exact ⟨rfl, .inr ⟨rfl, hsum, by simp [F_amd_Size]⟩⟩
          · have c4' : ¬ 4000 - (n : Int) < xl := c4
            rw [if_neg (by omega)] at hsum
            simp -implicitDefEqProofs [-toCells, -AV.one, -forget, c_amd_Size, lp0_amd_Size, pktV, hla, hi, hi', q1, hxl, hxl', c0, c1, c1', c2, c2', c2'', c2''', wl, c3, w4, c4, c4', w5, w6]
            exact ⟨z - 1, by omega, i1, n1, by omega, by omega, hsum, rfl, by simp [pktV]⟩
      · have c2' : ¬ (xl : Int) > 2047 := by omega
        have c2'' : ¬ (2047 : Int) < xl := by omega
        have c2''' : ¬ 2047 < xl := by omega
        rw [if_neg (by omega)] at hsum
        by_cases c4 : (xl : Int) > 4000 - (n : Int)
        · have c4' : 4000 - (n : Int) < xl := c4
          rw [if_pos (by omega)] at hsum
          simp -implicitDefEqProofs [-toCells, -AV.one, -forget, c_amd_Size, lp0_amd_Size, pktV, hla, hi, hi', q1, hxl, hxl', c0, c1, c1', c2, c2', c2'', c2''', w4, c4, c4']
          exact ⟨rfl, .inr ⟨rfl, hsum, by simp [F_amd_Size]⟩⟩
        · have c4' : ¬ 4000 - (n : Int) < xl := c4
          rw [if_neg (by omega)] at hsum
          simp -implicitDefEqProofs [-toCells, -AV.one, -forget, c_amd_Size, lp0_amd_Size, pktV, hla, hi, hi', q1, hxl, hxl', c0, c1, c1', c2, c2', c2'', c2''', w4, c4, c4', w5, w6]
          exact ⟨z - 1, by omega, i1, n1, by omega, by omega, hsum, rfl, by simp [pktV]⟩
  · have hi' : ¬ (i : Int) < ff.length := by omega
    have hnil : (bb ff).drop i = [] := List.drop_eq_nil_of_le (by rw [bb_len]; omega)
    rw [hnil, sumR] at hsum
    rw [← hsum]
    simp -implicitDefEqProofs [-toCells, -AV.one, -forget, c_amd_Size, lp0_amd_Size, hla, hi, hi']
    exact ⟨rfl, .inl ⟨rfl, by simp⟩⟩
set_option maxHeartbeats 4000000 in
theorem amd_Size (p : Pk) (hs : ∀ f ∈ p.ff, f.2.length ≤ 100000) (hfl : p.ff.length ≤ 100000) (w : Int) (H : Heap) :
    callW P f_amd_Size [.agg p.v, ai w] H = some (ai (sizeR p w : Nat), H) := by
  obtain ⟨po, fi, sn, pa, la, off, z0, ff⟩ := p
  simp only at hfl hs
  have h37 := fun H => amd_isWidth w H
  have hla : (bvs ff).length = ff.length := bvs_len ff
  by_cases hw : w = 10 ∨ w = 16
  · have hwd : decide (w = 10 ∨ w = 16) = true := by simp [hw]
    rw [hwd] at h37
    obtain ⟨wn, rfl, hwn⟩ : ∃ wn : Nat, w = wn ∧ (wn = 10 ∨ wn = 16) := by
      rcases hw with rfl | rfl
      · exact ⟨10, rfl, .inl rfl⟩
      · exact ⟨16, rfl, .inr rfl⟩
    have htn : ((wn : Nat) : Int).toNat = wn := by simp
    by_cases c1 : fi < 0
    · have hR : sizeR ⟨po, fi, sn, pa, la, off, z0, ff⟩ wn = 0 := by rw [sizeR, if_neg (not_not_intro hw), if_pos c1]
      rw [hR]
      rw [call_L 7 rfl (rfl : P.T f_amd_Size = some F_amd_Size) (le_ok rfl)]; simp -implicitDefEqProofs [-toCells, -AV.one, -forget, F_amd_Size, c_amd_Size, Pk.v, Pk.f, pktV, h37, c1]
    · by_cases c2 : fi > 3
      · have c2' : 3 < fi := c2
        have hR : sizeR ⟨po, fi, sn, pa, la, off, z0, ff⟩ wn = 0 := by rw [sizeR, if_neg (not_not_intro hw), if_neg c1, if_pos c2]
        rw [hR]
        rw [call_L 7 rfl (rfl : P.T f_amd_Size = some F_amd_Size) (le_ok rfl)]; simp -implicitDefEqProofs [-toCells, -AV.one, -forget, F_amd_Size, c_amd_Size, Pk.v, Pk.f, pktV, h37, c1, c2, c2']
      · have c2' : ¬ 3 < fi := c2
        have h51 := fun H => sn_Is hwn sn H
        by_cases c3 : 0 ≤ sn ∧ sn < (2 ^ wn : Nat)
        · rw [decide_eq_true c3] at h51
          have o52 := fun H => amd_offsetWidth wn H
          have hoz : ¬ ((offWd wn : Nat) : Int) < 0 := by omega
          have how : offWd wn ≤ 16 := by simp only [offWd]; split <;> omega
          have how2 : ((2 ^ offWd wn : Nat) : Int) = 2 ^ offWd wn := by simp
          have hom : min (offWd wn) 64 = offWd wn := by omega
          have hlt64 : (2 : Int) ^ offWd wn ≤ 65536 := by
            rw [← how2]
            have : 2 ^ offWd wn ≤ 2 ^ 16 := Nat.pow_le_pow_right (by omega) how
            have : (2 : Nat) ^ 16 = 65536 := by decide
            omega
          have hge1 : (0 : Int) < 2 ^ offWd wn := by
            rw [← how2]
            have : 0 < 2 ^ offWd (wn : Int) := Nat.pow_pos (by omega)
            omega
          have hp : IntKind.i64.wrap (1 * 2 ^ offWd wn) = 2 ^ offWd wn := by rw [Int.one_mul]; exact wrap_i64 (by omega) (by omega)
          have hp' : IntKind.i64.wrap (2 ^ offWd wn) = 2 ^ offWd wn := wrap_i64 (by omega) (by omega)
          have hpre : sizeR ⟨po, fi, sn, pa, la, off, z0, ff⟩ wn = if pa = false ∧ la = true then 0 else if pa = false ∧ off ≠ 0 then 0 else if off < 0 then 0 else if (2 ^ offWd wn : Nat) ≤ off then 0 else if ff.length < 1 then 0 else if 24 < ff.length then 0 else sumR (base ⟨po, fi, sn, pa, la, off, z0, ff⟩ wn) (bb ff) := by
            rw [sizeR, if_neg (not_not_intro hw), if_neg c1, if_neg c2, if_neg (by rw [htn]; exact not_not_intro c3), htn]
          rw [hpre]
          by_cases z1 : pa = false ∧ la = true
          · obtain ⟨rfl, rfl⟩ := z1
            rw [if_pos ⟨rfl, rfl⟩]
            rw [call_L 7 rfl (rfl : P.T f_amd_Size = some F_amd_Size) (le_ok rfl)]; simp -implicitDefEqProofs [-toCells, -AV.one, -forget, F_amd_Size, c_amd_Size, keepB, goodB_L, sameV, dstNot, dstNe, SOpG.reads, SOp.slots, SX.slots, SOp.noL, rdV, selfE_lst, selfE, selfEs, eqV, Pk.v, Pk.f, pktV, h37, c1, c2, c2', h51]
          · rw [if_neg z1]
            by_cases z2 : pa = false ∧ off ≠ 0
            · obtain ⟨rfl, z2⟩ := z2
              have hl : la = false := by simpa using z1
              subst hl
              rw [if_pos ⟨rfl, z2⟩]
              rw [call_L 7 rfl (rfl : P.T f_amd_Size = some F_amd_Size) (le_ok rfl)]; simp -implicitDefEqProofs [-toCells, -AV.one, -forget, F_amd_Size, c_amd_Size, keepB, goodB_L, sameV, dstNot, dstNe, SOpG.reads, SOp.slots, SX.slots, SOp.noL, rdV, selfE_lst, selfE, selfEs, eqV, Pk.v, Pk.f, pktV, h37, c1, c2, c2', h51, z2]
            · rw [if_neg z2]
              have hz : pa = true ∨ (pa = false ∧ la = false ∧ off = 0) := by
                cases pa
                · exact .inr ⟨rfl, by simpa using z1, by simpa using z2⟩
                · exact .inl rfl
              by_cases c6 : off < 0
              · rw [if_pos c6]
                rcases hz with rfl | ⟨rfl, rfl, rfl⟩
                · rw [call_L 7 rfl (rfl : P.T f_amd_Size = some F_amd_Size) (le_ok rfl)]; simp -implicitDefEqProofs [-toCells, -AV.one, -forget, F_amd_Size, c_amd_Size, keepB, goodB_L, sameV, dstNot, dstNe, SOpG.reads, SOp.slots, SX.slots, SOp.noL, rdV, selfE_lst, selfE, selfEs, eqV, Pk.v, Pk.f, pktV, h37, c1, c2, c2', h51, c6]
                · omega
              · rw [if_neg c6]
                by_cases c7 : (2 ^ offWd wn : Nat) ≤ off
                · rw [if_pos c7]
                  have c7' : off ≥ (2 ^ offWd wn : Nat) := c7
                  rw [how2] at c7 c7'
                  rcases hz with rfl | ⟨rfl, rfl, rfl⟩
                  · rw [call_L 7 rfl (rfl : P.T f_amd_Size = some F_amd_Size) (le_ok rfl)]; simp -implicitDefEqProofs [-toCells, -AV.one, -forget, F_amd_Size, c_amd_Size, keepB, goodB_L, sameV, dstNot, dstNe, SOpG.reads, SOp.slots, SX.slots, SOp.noL, rdV, selfE_lst, selfE, selfEs, eqV, Pk.v, Pk.f, pktV, h37, c1, c2, c2', h51, o52, c6, hoz, hom, hp, hp', c7, c7']
                  · omega
                · rw [if_neg c7]
                  have c7' : ¬ off ≥ (2 ^ offWd wn : Nat) := c7
                  rw [how2] at c7 c7'
                  by_cases c8 : ff.length < 1
                  · rw [if_pos c8]
                    have c8' : (ff.length : Int) < 1 := by omega
                    have c8'' : ff = [] := List.length_eq_zero_iff.1 (by omega)
                    subst c8''
                    have hb0 : bvs [] = [] := rfl
                    rcases hz with rfl | ⟨rfl, rfl, rfl⟩
                    · rw [call_L 7 rfl (rfl : P.T f_amd_Size = some F_amd_Size) (le_ok rfl)]; simp -implicitDefEqProofs [-toCells, -AV.one, -forget, F_amd_Size, c_amd_Size, keepB, goodB_L, sameV, dstNot, dstNe, SOpG.reads, SOp.slots, SX.slots, SOp.noL, rdV, selfE_lst, selfE, selfEs, eqV, Pk.v, Pk.f, pktV, h37, c1, c2, c2', h51, o52, c6, hoz, hom, hp, hp', c7, c7', hb0]
                    · rw [call_L 7 rfl (rfl : P.T f_amd_Size = some F_amd_Size) (le_ok rfl)]; simp -implicitDefEqProofs [-toCells, -AV.one, -forget, F_amd_Size, c_amd_Size, keepB, goodB_L, sameV, dstNot, dstNe, SOpG.reads, SOp.slots, SX.slots, SOp.noL, rdV, selfE_lst, selfE, selfEs, eqV, Pk.v, Pk.f, pktV, h37, c1, c2, c2', h51, o52, c6, hoz, hom, hp, hp', c7, c7', hb0]
                  · rw [if_neg c8]
                    have c8' : ¬ (ff.length : Int) < 1 := by omega
                    have c8'' : ¬ ff = [] := fun h => c8 (by rw [h]; decide)
                    by_cases c9 : 24 < ff.length
                    · rw [if_pos c9]
                      have c9' : (24 : Int) < ff.length := by omega
                      have c9'' : (ff.length : Int) > 24 := by omega
                      rcases hz with rfl | ⟨rfl, rfl, rfl⟩
                      · rw [call_L 7 rfl (rfl : P.T f_amd_Size = some F_amd_Size) (le_ok rfl)]; simp -implicitDefEqProofs [-toCells, -AV.one, -forget, F_amd_Size, c_amd_Size, keepB, goodB_L, sameV, dstNot, dstNe, SOpG.reads, SOp.slots, SX.slots, SOp.noL, rdV, selfE_lst, selfE, selfEs, eqV, Pk.v, Pk.f, pktV, h37, c1, c2, c2', h51, o52, c6, hoz, hom, hp, hp', c7, c7', hla, c8, c8', c8'', c9, c9', c9'']
                      · rw [call_L 7 rfl (rfl : P.T f_amd_Size = some F_amd_Size) (le_ok rfl)]; simp -implicitDefEqProofs [-toCells, -AV.one, -forget, F_amd_Size, c_amd_Size, keepB, goodB_L, sameV, dstNot, dstNe, SOpG.reads, SOp.slots, SX.slots, SOp.noL, rdV, selfE_lst, selfE, selfEs, eqV, Pk.v, Pk.f, pktV, h37, c1, c2, c2', h51, o52, c6, hoz, hom, hp, hp', c7, c7', hla, c8, c8', c8'', c9, c9', c9'']
                    · rw [if_neg c9]
                      have c9' : ¬ (24 : Int) < ff.length := by omega
                      have c9'' : ¬ (ff.length : Int) > 24 := by omega
                      have hlw : lenWd wn = 11 ∨ lenWd wn = 15 := by rcases hwn with rfl | rfl <;> simp [lenWd]
                      have h28 := fun H => amd_Head pa wn H
                      have h41 := fun H => amd_lenWidth wn H
                      have h53 := fun H => lens_Size (ff.length - 1) (lenWd wn) hlw (by omega) H
                      have hls := lsize_le (n := ff.length - 1) hlw (by omega)
                      have hhv : headV pa (wn : Int) ≤ 5 := by rw [headV_eq hwn]; split <;> split <;> omega
                      have hbase : base ⟨po, fi, sn, pa, la, off, z0, ff⟩ wn = headV pa wn + lsize (ff.length - 1) (lenWd wn) := rfl
                      rw [hbase]
                      have wl : IntKind.i64.wrap ((ff.length : Int) - 1) = ((ff.length - 1 : Nat) : Int) := by rw [wrap_i64 (by omega) (by omega)]; omega
                      obtain ⟨hv, hhve⟩ : ∃ t, headV pa (wn : Int) = t := ⟨_, rfl⟩
                      obtain ⟨ls, hlse⟩ : ∃ t, lsize (ff.length - 1) (lenWd wn) = t := ⟨_, rfl⟩
                      rw [hhve] at h28 hhv ⊢
                      rw [hlse] at h53 hls ⊢
                      obtain ⟨lw, hlwe⟩ : ∃ t, lenWd wn = t := ⟨_, rfl⟩
                      rw [hlwe] at h41 h53
                      obtain ⟨l1, hl1⟩ : ∃ t, ff.length - 1 = t := ⟨_, rfl⟩
                      rw [hl1] at h53 wl
                      have wb : IntKind.i64.wrap ((hv : Int) + ls) = ((hv + ls : Nat) : Int) := by rw [wrap_i64 (by omega) (by omega)]; omega
                      obtain ⟨n0, hn0⟩ : ∃ t, hv + ls = t := ⟨_, rfl⟩
                      rw [hn0] at wb ⊢
                      rw [ends_eq]
                      refine call_post 7 118 rfl (rfl : P.T f_amd_Size = some F_amd_Size) rfl (le_ok rfl) (fun e σ G => e = .ret ∧ resultsA F_amd_Size.res σ = some (ai (sumR n0 (bb ff) : Nat)) ∧ G = H) ?_ ?_
                      · rintro e σ G ⟨rfl, q2, rfl⟩
                        exact ⟨rfl, _, q2, rfl, by simp⟩
                      rcases hz with rfl | ⟨rfl, rfl, rfl⟩
                      · rw [F_amd_Size]; simp -implicitDefEqProofs [-toCells, -AV.one, -forget, c_amd_Size, keepB, goodB_L, sameV, dstNot, dstNe, SOpG.reads, SOp.slots, SX.slots, SOp.noL, rdV, selfE_lst, selfE, selfEs, eqV, Pk.v, Pk.f, pktV, h37, c1, c2, c2', h51, o52, c6, hoz, hom, hp, hp', c7, c7', hla, c8, c8', c8'', c9, c9', c9'', h28, wl, h41, h53, wb]
                        repeat rw [Option.bind_assoc]
                        refine Ends.block (P := PostS H ff n0) (loopS (z0 := z0) po fi sn true la off (by omega) hs n0 ff.length _ _ ⟨0, n0, by omega, by omega, by simp, rfl, by simp [lp0_amd_Size, pktV]⟩) ?_
                        rintro e σ1 G1 ⟨rfl, ⟨rfl, k2⟩ | ⟨rfl, k1, k2⟩⟩
                        · simp -implicitDefEqProofs [-toCells, -AV.one, -forget, c_amd_Size, k2]
                        · rw [k1]
                          simp -implicitDefEqProofs [-toCells, -AV.one, -forget, c_amd_Size]
                          simpa [F_amd_Size] using k2
                      · rw [F_amd_Size]; simp -implicitDefEqProofs [-toCells, -AV.one, -forget, c_amd_Size, keepB, goodB_L, sameV, dstNot, dstNe, SOpG.reads, SOp.slots, SX.slots, SOp.noL, rdV, selfE_lst, selfE, selfEs, eqV, Pk.v, Pk.f, pktV, h37, c1, c2, c2', h51, o52, c6, hoz, hom, hp, hp', c7, c7', hla, c8, c8', c8'', c9, c9', c9'', h28, wl, h41, h53, wb]
                        repeat rw [Option.bind_assoc]
                        refine Ends.block (P := PostS H ff n0) (loopS (z0 := z0) po fi sn false false 0 (by omega) hs n0 ff.length _ _ ⟨0, n0, by omega, by omega, by simp, rfl, by simp [lp0_amd_Size, pktV]⟩) ?_
                        rintro e σ1 G1 ⟨rfl, ⟨rfl, k2⟩ | ⟨rfl, k1, k2⟩⟩
                        · simp -implicitDefEqProofs [-toCells, -AV.one, -forget, c_amd_Size, k2]
                        · rw [k1]
                          simp -implicitDefEqProofs [-toCells, -AV.one, -forget, c_amd_Size]
                          simpa [F_amd_Size] using k2
        · rw [decide_eq_false c3] at h51
          have hR : sizeR ⟨po, fi, sn, pa, la, off, z0, ff⟩ wn = 0 := by rw [sizeR, if_neg (not_not_intro hw), if_neg c1, if_neg c2, if_pos (by rw [htn]; exact c3)]
          rw [hR]
          rw [call_L 7 rfl (rfl : P.T f_amd_Size = some F_amd_Size) (le_ok rfl)]; simp -implicitDefEqProofs [-toCells, -AV.one, -forget, F_amd_Size, c_amd_Size, Pk.v, Pk.f, pktV, h37, c1, c2, c2', h51]
  · have hwd : decide (w = 10 ∨ w = 16) = false := by simp [hw]
    rw [hwd] at h37
    have hR : sizeR ⟨po, fi, sn, pa, la, off, z0, ff⟩ w = 0 := by rw [sizeR, if_pos hw]
    rw [hR]
    rw [call_L 7 rfl (rfl : P.T f_amd_Size = some F_amd_Size) (le_ok rfl)]; simp -implicitDefEqProofs [-toCells, -AV.one, -forget, F_amd_Size, c_amd_Size, Pk.v, Pk.f, pktV, h37]
end
end Go.A.V.S

namespace Go.A.V.S
open Go Go.A
set_option linter.unusedSimpArgs false
set_option linter.unusedVariables false

theorem sumR_pos : ∀ (ff : List (List Nat)) (n : Nat), sumR n ff ≠ 0 → (∀ f ∈ ff, f.length ≠ 0) ∧ (∀ f ∈ ff.dropLast, f.length ≤ 2047) ∧ (ff ≠ [] → n + ff.flatten.length ≤ 4000) ∧ sumR n ff = n + ff.flatten.length
  | [], n, h => ⟨by simp, by simp, fun h => (h rfl).elim, by simp [sumR]⟩
  | f :: r, n, h => by
    rw [sumR] at h ⊢
    by_cases c1 : f.length = 0
    · rw [if_pos c1] at h; exact (h rfl).elim
    · rw [if_neg c1] at h ⊢
      by_cases c2 : 2047 < f.length ∧ 0 < r.length
      · rw [if_pos c2] at h; exact (h rfl).elim
      · rw [if_neg c2] at h ⊢
        by_cases c3 : 4000 < f.length + n
        · rw [if_pos c3] at h; exact (h rfl).elim
        · rw [if_neg c3] at h ⊢
          obtain ⟨h1, h2, h3, h4⟩ := sumR_pos r (n + f.length) h
          refine ⟨?_, ?_, fun _ => ?_, ?_⟩
          · intro x hx
            rcases List.mem_cons.1 hx with rfl | hx
            · exact c1
            · exact h1 x hx
          · cases r with
            | nil => simp
            | cons g s =>
              intro x hx
              rw [List.dropLast_cons_cons] at hx
              rcases List.mem_cons.1 hx with rfl | hx
              · simp at c2; omega
              · exact h2 x hx
          · rw [List.flatten_cons, List.length_append]
            cases r with
            | nil => simp; omega
            | cons g s => have := h3 (by simp); omega
          · rw [h4, List.flatten_cons, List.length_append]; omega
theorem sizeR_pos {p : Pk} {w : Int} (h : sizeR p w ≠ 0) : okH p w.toNat ∧ (w = 10 ∨ w = 16) ∧ 1 ≤ p.ff.length ∧ p.ff.length ≤ 24 ∧ sizeR p w = sumR (base p w.toNat) (bb p.ff) ∧ (p.part = true ∨ (p.part = false ∧ p.last = false ∧ p.off = 0)) := by
  have h0 := h
  unfold sizeR at h
  by_cases hw : w = 10 ∨ w = 16
  · rw [if_neg (not_not_intro hw)] at h
    by_cases c1 : p.fi < 0
    · rw [if_pos c1] at h; exact (h rfl).elim
    rw [if_neg c1] at h
    by_cases c2 : 3 < p.fi
    · rw [if_pos c2] at h; exact (h rfl).elim
    rw [if_neg c2] at h
    by_cases c3 : 0 ≤ p.sn ∧ p.sn < (2 ^ w.toNat : Nat)
    · rw [if_neg (not_not_intro c3)] at h
      by_cases z1 : p.part = false ∧ p.last = true
      · rw [if_pos z1] at h; exact (h rfl).elim
      rw [if_neg z1] at h
      by_cases z2 : p.part = false ∧ p.off ≠ 0
      · rw [if_pos z2] at h; exact (h rfl).elim
      rw [if_neg z2] at h
      by_cases c6 : p.off < 0
      · rw [if_pos c6] at h; exact (h rfl).elim
      rw [if_neg c6] at h
      by_cases c7 : ((2 ^ offWd w : Nat) : Int) ≤ p.off
      · rw [if_pos c7] at h; exact (h rfl).elim
      rw [if_neg c7] at h
      by_cases c8 : p.ff.length < 1
      · rw [if_pos c8] at h; exact (h rfl).elim
      rw [if_neg c8] at h
      by_cases c9 : 24 < p.ff.length
      · rw [if_pos c9] at h; exact (h rfl).elim
      rw [if_neg c9] at h
      have htn : ((w.toNat : Nat) : Int) = w := by omega
      refine ⟨⟨by omega, ⟨by omega, by omega⟩, c3, ⟨by omega, by rw [htn]; omega⟩⟩, hw, by omega, by omega, ?_, ?_⟩
      · rw [sizeR, if_neg (not_not_intro hw), if_neg c1, if_neg c2, if_neg (not_not_intro c3), if_neg z1, if_neg z2, if_neg c6, if_neg c7, if_neg c8, if_neg c9]
      · cases hp : p.part with
        | true => exact .inl rfl
        | false =>
          rw [hp] at z1 z2
          exact .inr ⟨rfl, by simpa using z1, by simpa using z2⟩
    · rw [if_pos c3] at h; exact (h rfl).elim
  · rw [if_pos hw] at h; exact (h rfl).elim

theorem elems_lst (z : Bool) (f : Option Nat) (k : Nat) (l : List (List AV)) (H : Heap) : elems H k (lst z k f l) = some l := by
  rcases lst_cases z k f l with ⟨_, h, e⟩ | ⟨e, _⟩
  · rw [e, h]; rfl
  · rw [e]; simp [elems]
section
variable {H : Heap}
theorem amd_Data (p : Pk) (hl : p.ff.length ≤ 100000) (hs : (bb p.ff).flatten.length ≤ 1000000) (H : Heap) :
    ∃ z f k, callW P f_amd_Data [.agg p.v] H = some (lst z 1 f (byteCs (bb p.ff).flatten), H ++ List.replicate k .other) := by
  obtain ⟨po, fi, sn, pa, la, off, z0, ff⟩ := p
  simp only at hl hs
  obtain ⟨z, f, k, h⟩ := bytes_Join (z0 := z0) hl hs H
  refine ⟨z, f.map fun _ => 0, k, ?_⟩
  rw [call_L 3 rfl (rfl : P.T f_amd_Data = some F_amd_Data) (le_ok rfl)]; simp -implicitDefEqProofs [-toCells, -AV.one, -forget, F_amd_Data, c_amd_Data, Pk.v, Pk.f, pktV, h]
  rfl
theorem amd_Right (p : Pk) (hs : ∀ f ∈ p.ff, f.2.length ≤ 100000) (hfl : p.ff.length ≤ 100000) (w : Int) (H : Heap) :
    callW P f_amd_Right [.agg p.v, ai w] H = some (ab (decide (0 < sizeR p w)), H) := by
  have h := fun H => amd_Size p hs hfl w H
  obtain ⟨n, hn⟩ : ∃ n, sizeR p w = n := ⟨_, rfl⟩
  rw [hn] at h ⊢
  obtain ⟨po, fi, sn, pa, la, off, z0, ff⟩ := p
  simp only [Pk.v, Pk.f, pktV] at h
  by_cases h0 : (n : Int) > 0
  · have h0' : 0 < n := by omega
    have h0'' : (0 : Int) < n := h0
    rw [call_L 4 rfl (rfl : P.T f_amd_Right = some F_amd_Right) (le_ok rfl)]; simp -implicitDefEqProofs [-toCells, -AV.one, -forget, F_amd_Right, c_amd_Right, Pk.v, Pk.f, pktV, h, h0, h0', h0'']
  · have h0' : ¬ 0 < n := by omega
    have h0'' : ¬ (0 : Int) < n := h0
    rw [call_L 4 rfl (rfl : P.T f_amd_Right = some F_amd_Right) (le_ok rfl)]; simp -implicitDefEqProofs [-toCells, -AV.one, -forget, F_amd_Right, c_amd_Right, Pk.v, Pk.f, pktV, h, h0, h0', h0'']
def InvY (H : Heap) (Q : List AV) (w : Int) (hv : AV) (z1 : Bool) (r : List Bs) (z : Nat) (σ : List AV) (G : Heap) : Prop :=
  ∃ i : Nat, i + z = r.length ∧ G = H ∧ σ = L 62 ((((((((Tr.full 6).put (path 1) (ai w)).put (path 2) (.lbox Q)).put (path 6) (hv)).put (path 7) (lst true 1 (some 40) (nvs (((bb r).take i).map (·.length))))).put (path 30) (lst z1 1 none (bvs r))).put (path 31) (ai r.length)).put (path 32) (ai i))
def PostY (H : Heap) (Q : List AV) (w : Int) (hv : AV) (r : List Bs) (e : AExit) (σ : List AV) (G : Heap) : Prop :=
  G = H ∧ e = .exit 1 ∧ kill [30, 31, 32, 33] σ = L 62 (((((Tr.full 6).put (path 1) (ai w)).put (path 2) (.lbox Q)).put (path 6) (hv)).put (path 7) (lst true 1 (some 40) (nvs ((bb r).map (·.length)))))
theorem loopY {z1 : Bool} {r : List Bs} (po : Bool) (fi sn : Int) (pa la : Bool) (off : Int) (z0 : Bool) (ff : List Bs) (w : Int) (hb : List Nat) (hl : r.length ≤ 100) (z : Nat) (σ : List AV) (G : Heap)
    (hI : InvY H (pktV po fi sn pa la off (lst z0 1 none (bvs ff))) w (.vs 1 (some 23) (byteCs hb)) z1 r z (kill (headK lp0_amd_Write) σ) G) :
    Ends (execW P f_amd_Write (.loop lp0_amd_Write) σ G) fun s => PostY H (pktV po fi sn pa la off (lst z0 1 none (bvs ff))) w (.vs 1 (some 23) (byteCs hb)) r s.e s.σ s.H := by
  refine loop_ends (fun z σ G => InvY H (pktV po fi sn pa la off (lst z0 1 none (bvs ff))) w (.vs 1 (some 23) (byteCs hb)) z1 r z σ G) (PostY H (pktV po fi sn pa la off (lst z0 1 none (bvs ff))) w (.vs 1 (some 23) (byteCs hb)) r) ?_ z σ G hI
  clear hI z σ G
  rintro z σ G ⟨i, hz, rfl, rfl⟩
  have hla : (bvs r).length = r.length := bvs_len r
  by_cases hi : i < r.length
  · have hi' : (i : Int) < r.length := by omega
    obtain ⟨x, hx⟩ : ∃ x, r[i]? = some x := ⟨_, List.getElem?_eq_getElem hi⟩
    have q1 := bvs_at hx z1 none .i64
    have hxl := bv_len x
    have hsn : ((bb r).take (i + 1)).map (·.length) = ((bb r).take i).map (·.length) ++ [x.2.length] := by rw [take_snoc (bb_at hx)]; simp
    have hap := fun σ H => app1 (m := P.md f_amd_Write) (d := 40) (bytes := 8) (v := ai x.2.length) (R_amd_Write 40) (by omega) (by rw [nvs_len]; simp [bb_len]; omega) (l := nvs (((bb r).take i).map (·.length))) (some 39) σ H
    rw [← nvs_snoc, ← hsn] at hap
    have w6 : IntKind.i64.wrap ((i : Int) + 1) = ((i + 1 : Nat) : Int) := by rw [wrap_i64 (by omega) (by omega)]; omega
    obtain ⟨i1, hi1⟩ : ∃ t, i + 1 = t := ⟨_, rfl⟩
    rw [hi1] at w6 hap
    generalize nvs (((bb r).take i).map (·.length)) = L0 at *
    have hres : ∀ σ, σ = L 62 ((((((((Tr.full 6).put (path 1) (ai w)).put (path 2) (.lbox (pktV po fi sn pa la off (lst z0 1 none (bvs ff))))).put (path 6) (.vs 1 (some 23) (byteCs hb))).put (path 7) (lst true 1 (some 40) (nvs (((bb r).take i1).map (·.length))))).put (path 30) (lst z1 1 none (bvs r))).put (path 31) (ai r.length)).put (path 32) (ai i1)) → ∃ m, m < z ∧ InvY G (pktV po fi sn pa la off (lst z0 1 none (bvs ff))) w (.vs 1 (some 23) (byteCs hb)) z1 r m σ G := fun σ e => ⟨z - 1, by omega, i1, by omega, rfl, e⟩
    generalize nvs (((bb r).take i1).map (·.length)) = L1 at *
    simp -implicitDefEqProofs [-toCells, -AV.one, -forget, c_amd_Write, lp0_amd_Write, pktV, hla, hi, hi', q1, hxl, hap, w6]
    exact hres _ (by simp [pktV])
  · have hi' : ¬ (i : Int) < r.length := by omega
    have hall : (bb r).take i = bb r := List.take_of_length_le (by rw [bb_len]; omega)
    rw [hall]
    obtain ⟨L0, hL0⟩ : ∃ t, nvs ((bb r).map (·.length)) = t := ⟨_, rfl⟩
    rw [hL0]
    simp -implicitDefEqProofs [-toCells, -AV.one, -forget, c_amd_Write, lp0_amd_Write, pktV, hla, hi, hi']
    exact ⟨rfl, rfl, by rw [hL0]; simp [pktV]⟩
end
end Go.A.V.S

namespace Go.A.V.S
open Go Go.A
set_option linter.unusedSimpArgs false
set_option linter.unusedVariables false

def lenL (p : Pk) : List Nat := (bb (p.ff.take (p.ff.length - 1))).map (·.length)
/-- The bytes of a packet. -/
def WrB (p : Pk) (w : Nat) (out : List Nat) : Prop := ∃ hb lb, PackR (hBits p w) hb ∧ PackR (lBits (lenWd w) (lenL p)) lb ∧ out = hb ++ lb ++ (bb p.ff).flatten
theorem hBits_len (p : Pk) {w : Nat} (hw : w = 10 ∨ w = 16) : (hBits p w).length ≤ 60 := by
  have h1 : ∀ x : Int, offWd x ≤ 16 := fun x => by simp only [offWd]; split <;> omega
  have h10 := h1 10
  have h16 := h1 16
  unfold hBits
  rcases hw with rfl | rfl <;> (simp [bitsOf_len]; repeat' split) <;> simp [bitsOf_len] <;> omega
theorem lBits_le {w : Nat} (hw : w = 11 ∨ w = 15) {l : List Nat} (h : l.length ≤ 23) : (lBits w l).length ≤ 368 := by
  rw [lBits_len]
  have : l.length * (w + 1) ≤ 23 * 16 := Nat.mul_le_mul h (by omega)
  omega
set_option maxHeartbeats 2000000 in
theorem amd_Write (p : Pk) (hs : ∀ f ∈ p.ff, f.2.length ≤ 100000) (hfl : p.ff.length ≤ 100000) (w : Int) (H : Heap) :
    (¬ (w = 10 ∨ w = 16) → callW P f_amd_Write [.agg p.v, ai w] H = some (.tup [nilS, ai 9], H)) ∧
    ((w = 10 ∨ w = 16) → sizeR p w = 0 → callW P f_amd_Write [.agg p.v, ai w] H = some (.tup [nilS, ai 3], H)) ∧
    (sizeR p w ≠ 0 → ∃ out k, WrB p w.toNat out ∧ callW P f_amd_Write [.agg p.v, ai w] H = some (.tup [.vs 1 none (byteCs out), ai 0], H ++ List.replicate k .other)) := by
  have h37 := fun H => amd_isWidth w H
  have hR := fun H => amd_Right p hs hfl w H
  refine ⟨fun hw => ?_, fun hw h0 => ?_, fun h0 => ?_⟩
  · rw [decide_eq_false hw] at h37
    obtain ⟨po, fi, sn, pa, la, off, z0, ff⟩ := p
    rw [call_L 6 rfl (rfl : P.T f_amd_Write = some F_amd_Write) (le_ok rfl)]; simp -implicitDefEqProofs [-toCells, -AV.one, -forget, F_amd_Write, c_amd_Write, Pk.v, Pk.f, pktV, h37]
  · rw [decide_eq_true hw] at h37
    rw [h0] at hR
    replace hR : ∀ H, callW P f_amd_Right [.agg p.v, ai w] H = some (ab false, H) := hR
    obtain ⟨po, fi, sn, pa, la, off, z0, ff⟩ := p
    simp only [Pk.v, Pk.f, pktV] at hR
    rw [call_L 6 rfl (rfl : P.T f_amd_Write = some F_amd_Write) (le_ok rfl)]; simp -implicitDefEqProofs [-toCells, -AV.one, -forget, F_amd_Write, c_amd_Write, Pk.v, Pk.f, pktV, h37, hR]
  · obtain ⟨hok, hw, hf1, hf24, hsz, hpz⟩ := sizeR_pos h0
    rw [decide_eq_true hw] at h37
    rw [decide_eq_true (by omega)] at hR
    obtain ⟨wn, rfl, hwn⟩ : ∃ wn : Nat, w = wn ∧ (wn = 10 ∨ wn = 16) := by
      rcases hw with rfl | rfl
      · exact ⟨10, rfl, .inl rfl⟩
      · exact ⟨16, rfl, .inr rfl⟩
    have htn : ((wn : Nat) : Int).toNat = wn := by simp
    rw [htn] at hok hsz ⊢
    obtain ⟨s1, s2, s3, s4⟩ := sumR_pos (bb p.ff) (base p wn) (by rw [← hsz]; exact h0)
    have hbne : bb p.ff ≠ [] := fun e => by have := congrArg List.length e; rw [bb_len] at this; simp at this; rw [this] at hf1; simp at hf1
    have hdl := s3 hbne
    obtain ⟨hb, k1, hpk, hH⟩ := amd_head (H := H) hok hfl
    have hbl := hpk.len
    have hbl2 := hBits_len p hwn
    obtain ⟨G1, hG1⟩ : ∃ t, H ++ List.replicate k1 .other = t := ⟨_, rfl⟩
    rw [hG1] at hH
    obtain ⟨l1, hl1⟩ : ∃ t, p.ff.length - 1 = t := ⟨_, rfl⟩
    obtain ⟨r, hr⟩ : ∃ t, p.ff.take l1 = t := ⟨_, rfl⟩
    have hrl : r.length = l1 := by rw [← hr, List.length_take]; omega
    have hls : lenL p = (bb r).map (·.length) := by rw [lenL, hl1, hr]
    have hlw : lenWd wn = 11 ∨ lenWd wn = 15 := by rcases hwn with rfl | rfl <;> simp [lenWd]
    have h41 := fun H => amd_lenWidth wn H
    have hlens : ∀ n ∈ lenL p, 1 ≤ n ∧ n < 2 ^ lenWd wn := fun n hn => by
      rw [hls] at hn
      obtain ⟨b, hb1, rfl⟩ := List.mem_map.1 hn
      have hdr : bb r = (bb p.ff).dropLast := by rw [List.dropLast_eq_take, bb_len, hl1, ← hr, bb, bb, List.map_take]
      rw [hdr] at hb1
      have h2 := s2 b hb1
      have h3 := s1 b (List.mem_of_mem_take (by rw [List.dropLast_eq_take] at hb1; exact hb1))
      have : 2 ^ 11 ≤ 2 ^ lenWd wn := Nat.pow_le_pow_right (by omega) (by omega)
      have : (2 : Nat) ^ 11 = 2048 := by decide
      omega
    have hll : (lenL p).length = l1 := by rw [hls]; simp [bb_len, hrl]
    have wl : IntKind.i64.wrap ((p.ff.length : Int) - 1) = (l1 : Int) := by rw [wrap_i64 (by omega) (by omega)]; omega
    have hla : (bvs p.ff).length = p.ff.length := bvs_len p.ff
    have hcut : ∀ d, cutV 1 d (lst p.z 1 none (bvs p.ff)) none (some (ai l1)) none = some (lst (p.z && (bvs p.ff).isEmpty) 1 none (bvs r)) := fun d => by
      have h := cutV_lst (lo := none) (hi := some (ai l1)) (i := 0) (j := l1) p.z 1 none d (bvs p.ff) (.inl ⟨rfl, rfl⟩) (.inr ⟨.i64, rfl⟩) (by omega) (by rw [hla]; omega)
      rw [h, cutL, List.drop_zero, ← hr, bvs, bvs, List.map_take]
    have hrb : (bvs r).length = l1 := by rw [bvs_len, hrl]
    suffices hend : Ends (callW P f_amd_Write [.agg p.v, ai wn] H) fun y => ∃ out k, WrB p wn out ∧ y = (.tup [.vs 1 none (byteCs out), ai 0], H ++ List.replicate k .other) by
      obtain ⟨y, h2, out, k, h3, rfl⟩ := hend
      exact ⟨out, k, h3, h2⟩
    refine call_post 6 62 rfl (rfl : P.T f_amd_Write = some F_amd_Write) rfl (le_ok rfl) (fun e σ G => e = .ret ∧ ∃ out k, WrB p wn out ∧ G = H ++ List.replicate k .other ∧ resultsA F_amd_Write.res σ = some (.tup [.vs 1 (some 61) (byteCs out), ai 0])) ?_ ?_
    · rintro e σ G ⟨rfl, out, k, h1, rfl, h2⟩
      refine ⟨rfl, _, h2, rfl, ?_⟩
      simp
      exact ⟨out, h1, rfl⟩
    have hH' := hH
    have hd := fun H => amd_Data p hfl (by omega) H
    obtain ⟨data, hdata⟩ : ∃ t, (bb p.ff).flatten = t := ⟨_, rfl⟩
    rw [hdata] at hd hdl
    have hfin : ∀ lb, PackR (lBits (lenWd wn) (lenL p)) lb → WrB p wn (hb ++ lb ++ data) := fun lb h => ⟨hb, lb, hpk, h, by rw [hdata]⟩
    have hcs : ∀ a b : List Nat, byteCs a ++ byteCs b = byteCs (a ++ b) := fun a b => by simp [byteCs]
    have hlnv : (nvs (lenL p)).length = l1 := by rw [nvs_len, hll]
    obtain ⟨ls, hls'⟩ : ∃ t, lenL p = t := ⟨_, rfl⟩
    rw [hls'] at hlnv hlens hfin hll
    have hk1 : ∀ k2, G1 ++ List.replicate k2 AObj.other = H ++ List.replicate (k1 + k2) .other := fun k2 => by rw [← hG1, oth_app]
    by_cases hl0 : l1 = 0
    · have hls0 : ls = [] := List.length_eq_zero_iff.1 (by omega)
      have hnil : lst true 1 (some 40) (nvs ls) = .c (.slice none 0 0) := by rw [hls0]; rfl
      obtain ⟨zd, fd, k3, hD⟩ := hd G1
      rw [hk1] at hD
      obtain ⟨G3, hG3⟩ : ∃ t, H ++ List.replicate (k1 + k3) AObj.other = t := ⟨_, rfl⟩
      rw [hG3] at hD
      have hap := fun (f : Option Nat) σ H => appW_vs (m := P.md f_amd_Write) (d := 61) (bytes := 1) (c := 23) (l := byteCs hb) (l' := byteCs data) (x := lst zd 1 f (byteCs data)) (fun H => elems_lst zd f 1 _ H) (by simp [byteCs_len, appBound]; omega) (by simp [byteCs_len, appBound]; omega) σ H
      have hres := hfin [] (by rw [hls0]; exact PackR.nil)
      rw [List.append_nil] at hres
      rw [hcs] at hap
      obtain ⟨out, hout⟩ : ∃ t, hb ++ data = t := ⟨_, rfl⟩
      rw [hout] at hap hres
      have hgl : ∀ out', out' = out → ∃ o k, WrB p wn o ∧ G3 = H ++ List.replicate k .other ∧ byteCs out' = byteCs o := fun out' e => ⟨out, _, hres, hG3.symm, by rw [e]⟩
      obtain ⟨po, fi, sn, pa, la, off, z0, ff⟩ := p
      simp only [Pk.v, Pk.f, pktV] at hR hH hD
      simp only at wl hla hcut
      generalize WrB ⟨po, fi, sn, pa, la, off, z0, ff⟩ wn = WW at *
      rw [F_amd_Write]; simp -implicitDefEqProofs [-toCells, -AV.one, -forget, c_amd_Write, Pk.v, Pk.f, pktV, h37, hR, hH, hla, wl, hcut, hrb]
      repeat rw [Option.bind_assoc]
      refine Ends.block (P := PostY G1 (pktV po fi sn pa la off (lst z0 1 none (bvs ff))) wn (.vs 1 (some 23) (byteCs hb)) r) (loopY (z1 := z0 && (bvs ff).isEmpty) po fi sn pa la off z0 ff wn hb (by omega) r.length _ _ ⟨0, by omega, rfl, by simp [lp0_amd_Write, pktV, nvs, bb, hrl]⟩) ?_
      rintro e σ1 G2 ⟨rfl, rfl, k2⟩
      rw [← hls, hls', hnil] at k2
      simp only [pktV] at k2
      simp -implicitDefEqProofs [-toCells, -AV.one, -forget, c_amd_Write, k2, hD, hap]
      exact ⟨out, hres, ⟨_, hG3.symm⟩, rfl⟩
    · have hl0' : (l1 : Int) > 0 := by omega
      have hl0'' : (0 : Int) < l1 := by omega
      have hl0p : 0 < l1 := by omega
      obtain ⟨lb, hpb, hL⟩ := lens_Write (z0 := true) (l := ls) (by omega) (by omega) hlw hlens G1
      have hlbl := hpb.len
      have hlb2 := lBits_le hlw (l := ls) (by omega)
      rw [hk1] at hL
      obtain ⟨G4, hG4⟩ : ∃ t, H ++ List.replicate (k1 + 2) AObj.other = t := ⟨_, rfl⟩
      rw [hG4] at hL
      obtain ⟨zd, fd, k3, hD⟩ := hd G4
      rw [← hG4, oth_app, hG4] at hD
      obtain ⟨G3, hG3⟩ : ∃ t, H ++ List.replicate (k1 + 2 + k3) AObj.other = t := ⟨_, rfl⟩
      rw [hG3] at hD
      have hap1 := fun σ H => appW_vs (m := P.md f_amd_Write) (d := 57) (bytes := 1) (c := 23) (l := byteCs hb) (l' := byteCs lb) (x := .vs 1 none (byteCs lb)) (fun H => elems_vs H 1 none (byteCs lb)) (by simp [byteCs_len, appBound]; omega) (by simp [byteCs_len, appBound]; omega) σ H
      have hap := fun (f : Option Nat) σ H => appW_vs (m := P.md f_amd_Write) (d := 61) (bytes := 1) (c := 57) (l := byteCs (hb ++ lb)) (l' := byteCs data) (x := lst zd 1 f (byteCs data)) (fun H => elems_lst zd f 1 _ H) (by simp [byteCs_len, appBound]; omega) (by simp [byteCs_len, appBound]; omega) σ H
      have hres := hfin lb hpb
      rw [hcs] at hap1
      rw [hcs] at hap
      obtain ⟨hb2, hhb2⟩ : ∃ t, hb ++ lb = t := ⟨_, rfl⟩
      rw [hhb2] at hap1 hap hres
      obtain ⟨out, hout⟩ : ∃ t, hb2 ++ data = t := ⟨_, rfl⟩
      rw [hout] at hap hres
      have h41' := h41
      obtain ⟨lw, hlwe⟩ : ∃ t, lenWd wn = t := ⟨_, rfl⟩
      rw [hlwe] at h41' hL
      obtain ⟨po, fi, sn, pa, la, off, z0, ff⟩ := p
      simp only [Pk.v, Pk.f, pktV] at hR hH hD
      simp only at wl hla hcut
      generalize WrB ⟨po, fi, sn, pa, la, off, z0, ff⟩ wn = WW at *
      rw [F_amd_Write]; simp -implicitDefEqProofs [-toCells, -AV.one, -forget, c_amd_Write, Pk.v, Pk.f, pktV, h37, hR, hH, hla, wl, hcut, hrb]
      repeat rw [Option.bind_assoc]
      refine Ends.block (P := PostY G1 (pktV po fi sn pa la off (lst z0 1 none (bvs ff))) wn (.vs 1 (some 23) (byteCs hb)) r) (loopY (z1 := z0 && (bvs ff).isEmpty) po fi sn pa la off z0 ff wn hb (by omega) r.length _ _ ⟨0, by omega, rfl, by simp [lp0_amd_Write, pktV, nvs, bb, hrl]⟩) ?_
      rintro e σ1 G2 ⟨rfl, rfl, k2⟩
      rw [← hls, hls'] at k2
      simp only [pktV] at k2
      simp -implicitDefEqProofs [-toCells, -AV.one, -forget, c_amd_Write, k2, hlnv, hl0, hl0', hl0'', hl0p, h41', hL, hap1, hD, hap]
      exact ⟨out, hres, ⟨_, hG3.symm⟩, rfl⟩
end Go.A.V.S

namespace Go.A.V.S
open Go Go.A
set_option linter.unusedSimpArgs false
set_option linter.unusedVariables false

theorem lst_str (H : Heap) (z : Bool) (f : Option Nat) (l : List Nat) : strV H (lst z 1 f (byteCs l)) = some (.c (.string (strB l))) := by
  have h : ∀ f, strV H (.vs 1 f (byteCs l)) = some (.c (.string (strB l))) := fun f => by
    simp only [strV]
    rw [if_pos trivial, Go.A.byteCs_flat, bytesOf_au]
    rfl
  rcases lst_cases z 1 f (byteCs l) with ⟨_, e1, e⟩ | ⟨e, _⟩
  · have : l = [] := by simpa [byteCs] using e1
    subst this
    rw [e]; rfl
  · rw [e]; exact h f
theorem bv_str (H : Heap) (b : Bs) : strV H (bv b) = some (.c (.string (strB b.2))) := lst_str H b.1 none b.2
def BytesF (ff : List Bs) : Prop := ∀ b ∈ ff, Bytes b.2
section
variable {H : Heap} {za zb : Bool} {fa fb : List Bs}
def InvE (H : Heap) (za zb : Bool) (fa fb : List Bs) (z : Nat) (σ : List AV) (G : Heap) : Prop :=
  ∃ i : Nat, i + z = fa.length ∧ (bb fa).take i = (bb fb).take i ∧ G = H ∧ σ = L 28 ((((Tr.full 5).put (path 0) (lst za 1 none (bvs fa))).put (path 1) (lst zb 1 none (bvs fb))).put (path 5) (ai i))
def PostQ (H : Heap) (fa fb : List Bs) (e : AExit) (σ : List AV) (G : Heap) : Prop :=
  G = H ∧ ((e = .exit 0 ∧ bb fa = bb fb ∧ kill [0, 1, 5, 11, 12, 13, 14] σ = L 28 (Tr.full 5)) ∨ (e = .ret ∧ bb fa ≠ bb fb ∧ resultsA F_R09_SameFields.res σ = some (ab false)))
theorem same_loop (hl : fa.length = fb.length) (hs : fa.length ≤ 100000) (hba : BytesF fa) (hbb : BytesF fb) (z : Nat) (σ : List AV) (G : Heap) (hI : InvE H za zb fa fb z (kill (headK lp0_R09_SameFields) σ) G) :
    Ends (execW P f_R09_SameFields (.loop lp0_R09_SameFields) σ G) fun s => PostQ H fa fb s.e s.σ s.H := by
  refine loop_ends (fun z σ G => InvE H za zb fa fb z σ G) (PostQ H fa fb) ?_ z σ G hI
  clear hI z σ G
  rintro z σ G ⟨i, hz, heq, rfl, rfl⟩
  have hla : (bvs fa).length = fa.length := bvs_len fa
  by_cases hi : i < fa.length
  · have hi' : (i : Int) < fa.length := by omega
    obtain ⟨x, hx⟩ : ∃ x, fa[i]? = some x := ⟨_, List.getElem?_eq_getElem hi⟩
    obtain ⟨y, hy⟩ : ∃ y, fb[i]? = some y := ⟨_, List.getElem?_eq_getElem (by omega)⟩
    have q1 := bvs_at hx za none .i64
    have q2 := bvs_at hy zb none .i64
    have hne := binA_strNe .no (hba x (List.mem_of_getElem? hx)) (hbb y (List.mem_of_getElem? hy))
    have w1 : IntKind.i64.wrap ((i : Int) + 1) = ((i + 1 : Nat) : Int) := by rw [wrap_i64 (by omega) (by omega)]; omega
    obtain ⟨i1, hi1⟩ : ∃ i1, i + 1 = i1 := ⟨_, rfl⟩
    rw [hi1] at w1
    by_cases hxy : x.2 = y.2
    · rw [decide_eq_true hxy] at hne
      simp -implicitDefEqProofs [-toCells, -AV.one, -forget, c_R09_SameFields, lp0_R09_SameFields, hla, hi, hi', q1, q2, bv_str, hne, w1]
      refine ⟨z - 1, by omega, i1, by omega, ?_, rfl, by simp⟩
      rw [← hi1, take_snoc (bb_at hx), take_snoc (bb_at hy), heq, hxy]
    · rw [decide_eq_false hxy] at hne
      simp -implicitDefEqProofs [-toCells, -AV.one, -forget, c_R09_SameFields, lp0_R09_SameFields, hla, hi, hi', q1, q2, bv_str, hne, w1]
      refine ⟨rfl, .inr ⟨rfl, ?_, by simp [F_R09_SameFields]⟩⟩
      intro h
      have h1 := bb_at hx
      rw [h, bb_at hy] at h1
      exact hxy (Option.some.inj h1).symm
  · have hi' : ¬ (i : Int) < fa.length := by omega
    rw [List.take_of_length_le (by rw [bb_len]; omega), List.take_of_length_le (by rw [bb_len]; omega)] at heq
    simp -implicitDefEqProofs [-toCells, -AV.one, -forget, c_R09_SameFields, lp0_R09_SameFields, hla, hi, hi']
    exact ⟨rfl, .inl ⟨rfl, heq, by simp⟩⟩
theorem rSameFields (hs : fa.length ≤ 100000) (hs2 : fb.length ≤ 100000) (hba : BytesF fa) (hbb : BytesF fb) (H : Heap) :
    callW P f_R09_SameFields [lst za 1 none (bvs fa), lst zb 1 none (bvs fb)] H = some (ab (decide (bb fa = bb fb)), H) := by
  have hla : (bvs fa).length = fa.length := bvs_len fa
  have hlb : (bvs fb).length = fb.length := bvs_len fb
  by_cases hl : fa.length = fb.length
  · have hl' : (fa.length : Int) = fb.length := by omega
    rw [ends_eq]
    refine call_post 5 28 rfl (rfl : P.T f_R09_SameFields = some F_R09_SameFields) rfl (le_ok rfl) (fun e σ G => e = .ret ∧ G = H ∧ resultsA F_R09_SameFields.res σ = some (ab (decide (bb fa = bb fb)))) ?_ ?_
    · rintro e σ G ⟨rfl, rfl, h⟩
      exact ⟨rfl, _, h, rfl, by simp⟩
    rw [F_R09_SameFields]; simp -implicitDefEqProofs [-toCells, -AV.one, -forget, c_R09_SameFields, hla, hlb, hl, hl']
    repeat rw [Option.bind_assoc]
    refine Ends.block (P := PostQ H fa fb) (same_loop (za := za) (zb := zb) hl hs hba hbb fa.length _ _ ⟨0, by omega, by simp, rfl, by simp [lp0_R09_SameFields]⟩) ?_
    rintro e σ1 G1 ⟨rfl, ⟨rfl, c1, c2⟩ | ⟨rfl, c1, c2⟩⟩
    · simp -implicitDefEqProofs [-toCells, -AV.one, -forget, c_R09_SameFields, c2, c1]
    · simp [F_R09_SameFields] at c2
      simp -implicitDefEqProofs [-toCells, -AV.one, -forget, c_R09_SameFields, c2, c1]
  · have hl' : ¬ (fa.length : Int) = fb.length := by omega
    have hne : bb fa ≠ bb fb := fun h => hl (by have := congrArg List.length h; rwa [bb_len, bb_len] at this)
    rw [call_L 5 rfl (rfl : P.T f_R09_SameFields = some F_R09_SameFields) (le_ok rfl)]; simp -implicitDefEqProofs [-toCells, -AV.one, -forget, F_R09_SameFields, c_R09_SameFields, hla, hlb, hl, hl', hne]
end
/-- Are packets equal? -/
def Pk.eq (p q : Pk) : Bool := decide (p.poll = q.poll) && decide (p.fi = q.fi) && decide (p.sn = q.sn) && decide (p.part = q.part) && decide (p.last = q.last) && decide (p.off = q.off) && decide (bb p.ff = bb q.ff)
theorem lAs (p : Pk) (H : Heap) : callW P f_L10_As [.agg p.v] H = some (.agg p.v, H) := by
  obtain ⟨po, fi, sn, pa, la, off, z0, ff⟩ := p
  rw [call_L 5 rfl (rfl : P.T f_L10_As = some F_L10_As) (le_ok rfl)]; simp -implicitDefEqProofs [-toCells, -AV.one, -forget, F_L10_As, c_L10_As, Pk.v, Pk.f, pktV]
set_option maxHeartbeats 1000000 in
theorem rSame (p q : Pk) (hs : p.ff.length ≤ 100000) (hs2 : q.ff.length ≤ 100000) (hba : BytesF p.ff) (hbb : BytesF q.ff) (H : Heap) :
    callW P f_R10_Same [.agg p.v, .agg q.v] H = some (ab (p.eq q), H) := by
  have hf := fun H => rSameFields (za := p.z) (zb := q.z) hs hs2 hba hbb H
  obtain ⟨po, fi, sn, pa, la, off, z0, ff⟩ := p
  obtain ⟨po2, fi2, sn2, pa2, la2, off2, z02, ff2⟩ := q
  simp only at hf
  simp only [Pk.eq]
  by_cases h1 : po = po2
  · by_cases h2 : fi = fi2
    · by_cases h3 : sn = sn2
      · by_cases h4 : pa = pa2
        · by_cases h5 : la = la2
          · by_cases h6 : off = off2
            · rw [call_L 6 rfl (rfl : P.T f_R10_Same = some F_R10_Same) (le_ok rfl)]; simp -implicitDefEqProofs [-toCells, -AV.one, -forget, F_R10_Same, c_R10_Same, Pk.v, Pk.f, pktV, h1, h2, h3, h4, h5, h6, hf]
            · rw [call_L 6 rfl (rfl : P.T f_R10_Same = some F_R10_Same) (le_ok rfl)]; simp -implicitDefEqProofs [-toCells, -AV.one, -forget, F_R10_Same, c_R10_Same, Pk.v, Pk.f, pktV, h1, h2, h3, h4, h5, h6]
          · rw [call_L 6 rfl (rfl : P.T f_R10_Same = some F_R10_Same) (le_ok rfl)]; simp -implicitDefEqProofs [-toCells, -AV.one, -forget, F_R10_Same, c_R10_Same, Pk.v, Pk.f, pktV, h1, h2, h3, h4, h5]
        · rw [call_L 6 rfl (rfl : P.T f_R10_Same = some F_R10_Same) (le_ok rfl)]; simp -implicitDefEqProofs [-toCells, -AV.one, -forget, F_R10_Same, c_R10_Same, Pk.v, Pk.f, pktV, h1, h2, h3, h4]
      · rw [call_L 6 rfl (rfl : P.T f_R10_Same = some F_R10_Same) (le_ok rfl)]; simp -implicitDefEqProofs [-toCells, -AV.one, -forget, F_R10_Same, c_R10_Same, Pk.v, Pk.f, pktV, h1, h2, h3]
    · rw [call_L 6 rfl (rfl : P.T f_R10_Same = some F_R10_Same) (le_ok rfl)]; simp -implicitDefEqProofs [-toCells, -AV.one, -forget, F_R10_Same, c_R10_Same, Pk.v, Pk.f, pktV, h1, h2]
  · rw [call_L 6 rfl (rfl : P.T f_R10_Same = some F_R10_Same) (le_ok rfl)]; simp -implicitDefEqProofs [-toCells, -AV.one, -forget, F_R10_Same, c_R10_Same, Pk.v, Pk.f, pktV, h1]
end Go.A.V.S

namespace Go.A.V.S
open Go Go.A
set_option linter.unusedSimpArgs false
set_option linter.unusedVariables false

section
variable {H : Heap} {z0 : Bool} {ff : List Bs}
end
end Go.A.V.S

namespace Go.A.V.S
open Go Go.A
set_option linter.unusedSimpArgs false
set_option linter.unusedVariables false

def pk1 : Pk := ⟨false, 0, 5, false, false, 0, false, [(false, [65])]⟩
def pk2 : Pk := ⟨true, 1, 300, true, true, 7, false, [(false, [1, 2]), (false, [3])]⟩
def pk3 : Pk := ⟨false, 0, 0, false, false, 1, false, [(false, [1])]⟩
theorem packD {x : List Bool} {l : List Nat} (h1 : l.length = (x.length + 7) / 8) (h2 : ∀ b ∈ l, b < 256) (h3 : bitsB l = x ++ List.replicate (8 * l.length - x.length) false) : PackR x l := ⟨h1, h2, h3⟩
theorem pk1_out {out : List Nat} (h : WrB pk1 10 out) : out = [128, 5, 65] := by
  obtain ⟨hb, lb, h1, h2, rfl⟩ := h
  have e1 : hb = [128, 5] := h1.uniq (packD (by decide) (by decide) (by decide))
  have e2 : lb = [] := h2.uniq PackR.nil
  rw [e1, e2]; rfl
theorem pk2_out {out : List Nat} (h : WrB pk2 16 out) : out = [238, 1, 44, 0, 7, 0, 2, 1, 2, 3] := by
  obtain ⟨hb, lb, h1, h2, rfl⟩ := h
  have e1 : hb = [238, 1, 44, 0, 7] := h1.uniq (packD (by decide) (by decide) (by decide))
  have e2 : lb = [0, 2] := h2.uniq (packD (by decide) (by decide) (by decide))
  rw [e1, e2]; rfl
theorem vs_str (H : Heap) (f : Option Nat) (l : List Nat) : strV H (.vs 1 f (byteCs l)) = some (.c (.string (strB l))) := lst_str H false f l
set_option maxHeartbeats 1000000 in
theorem lAlive (H : Heap) : ∃ k, callW P f_L10_alive [] H = some (ab true, H ++ List.replicate k .other) := by
  have s1 : sizeR pk1 10 ≠ 0 := by decide
  have s2 : sizeR pk2 16 ≠ 0 := by decide
  have s3 : sizeR pk3 10 = 0 := by decide
  obtain ⟨o1, k1, p1, c1⟩ := (amd_Write pk1 (by decide) (by decide) 10 H).2.2 s1
  have e1 := pk1_out p1
  subst e1
  obtain ⟨G1, hG1⟩ : ∃ t, H ++ List.replicate k1 AObj.other = t := ⟨_, rfl⟩
  rw [hG1] at c1
  obtain ⟨o2, k2, p2, c2⟩ := (amd_Write pk2 (by decide) (by decide) 16 G1).2.2 s2
  have e2 := pk2_out p2
  subst e2
  rw [← hG1, oth_app, hG1] at c2
  obtain ⟨G2, hG2⟩ : ∃ t, H ++ List.replicate (k1 + k2) AObj.other = t := ⟨_, rfl⟩
  rw [hG2] at c2
  obtain ⟨out3, k3, p3, c3⟩ := amd_Read (false, [238, 1, 44, 0, 7, 0, 2, 1, 2, 3]) (by decide) (show ∀ b ∈ [238, 1, 44, 0, 7, 0, 2, 1, 2, 3], b < 256 from by decide) 16 G2
  have r3 : readR [238, 1, 44, 0, 7, 0, 2, 1, 2, 3] 16 = (0, [[1, 2], [3]]) := by decide
  have v3 : ∀ f, readV [238, 1, 44, 0, 7, 0, 2, 1, 2, 3] 16 f = .tup [.agg [ab true, ai 1, ai 300, ab true, ab true, ai 7, f], ai 0] := fun f => by
    rw [readV, r3]; rfl
  simp only at c3
  rw [v3, ← hG2, oth_app, hG2] at c3
  obtain ⟨G3, hG3⟩ : ∃ t, H ++ List.replicate (k1 + k2 + k3) AObj.other = t := ⟨_, rfl⟩
  rw [hG3] at c3
  obtain ⟨out4, k4, p4, c4⟩ := amd_Read (false, [0]) (by decide) (show ∀ b ∈ [0], b < 256 from by decide) 10 G3
  have r4 : readR [0] 10 = (4, []) := by decide
  have v4 : ∀ f, readV [0] 10 f = .tup [.agg [ab false, ai 0, ai 0, ab false, ab false, ai 0, nilS], ai 4] := fun f => by
    rw [readV, r4]; rfl
  simp only at c4
  rw [v4, ← hG3, oth_app, hG3] at c4
  obtain ⟨G4, hG4⟩ : ∃ t, H ++ List.replicate (k1 + k2 + k3 + k4) AObj.other = t := ⟨_, rfl⟩
  rw [hG4] at c4
  have c5 := (amd_Write pk3 (by decide) (by decide) 10 G4).2.1 (.inl rfl) s3
  replace c1 : callW P f_amd_Write [.agg [ab false, ai 0, ai 5, ab false, ab false, ai 0, .vs 1 none [[.vs 1 none [[.c (.int .u8 65)]]]]], ai 10] H = _ := c1
  replace c2 : callW P f_amd_Write [.agg [ab true, ai 1, ai 300, ab true, ab true, ai 7, .vs 1 none [[.vs 1 none [[.c (.int .u8 1)], [.c (.int .u8 2)]]], [.vs 1 none [[.c (.int .u8 3)]]]]], ai 16] G1 = _ := c2
  replace c3 : callW P f_amd_Read [.vs 1 none (byteCs [238, 1, 44, 0, 7, 0, 2, 1, 2, 3]), ai 16] G2 = _ := c3
  replace c4 : callW P f_amd_Read [.vs 1 none [[.c (.int .u8 0)]], ai 10] G3 = _ := c4
  replace c5 : callW P f_amd_Write [.agg [ab false, ai 0, ai 0, ab false, ab false, ai 1, .vs 1 none [[.vs 1 none [[.c (.int .u8 1)]]]]], ai 10] G4 = _ := c5
  have b1 : binA .eql .no (.c (.string (strB [128, 5, 65]))) (.c (.string ⟨#[128, 5, 65]⟩)) = some (ab true) := by
    rw [show (⟨#[128, 5, 65]⟩ : ByteArray) = strB [128, 5, 65] from rfl]
    exact (binA_strEq .no (show ∀ b ∈ [128, 5, 65], b < 256 from by decide) (show ∀ b ∈ [128, 5, 65], b < 256 from by decide)).trans (by simp)
  have b2 : binA .eql .no (.c (.string (strB [238, 1, 44, 0, 7, 0, 2, 1, 2, 3]))) (.c (.string ⟨#[238, 1, 44, 0, 7, 0, 2, 1, 2, 3]⟩)) = some (ab true) := by
    rw [show (⟨#[238, 1, 44, 0, 7, 0, 2, 1, 2, 3]⟩ : ByteArray) = strB [238, 1, 44, 0, 7, 0, 2, 1, 2, 3] from rfl]
    exact (binA_strEq .no (show ∀ b ∈ [238, 1, 44, 0, 7, 0, 2, 1, 2, 3], b < 256 from by decide) (show ∀ b ∈ [238, 1, 44, 0, 7, 0, 2, 1, 2, 3], b < 256 from by decide)).trans (by simp)
  obtain ⟨l1, hl1⟩ : ∃ t, byteCs [128, 5, 65] = t := ⟨_, rfl⟩
  obtain ⟨l2, hl2⟩ : ∃ t, byteCs [238, 1, 44, 0, 7, 0, 2, 1, 2, 3] = t := ⟨_, rfl⟩
  have t1 : ∀ H f, strV H (.vs 1 f l1) = some (.c (.string (strB [128, 5, 65]))) := fun H f => by rw [← hl1]; exact vs_str H f _
  have t2 : ∀ H f, strV H (.vs 1 f l2) = some (.c (.string (strB [238, 1, 44, 0, 7, 0, 2, 1, 2, 3]))) := fun H f => by rw [← hl2]; exact vs_str H f _
  rw [hl1] at c1
  rw [hl2] at c2 c3
  generalize strB [128, 5, 65] = sb1 at *
  generalize strB [238, 1, 44, 0, 7, 0, 2, 1, 2, 3] = sb2 at *
  refine ⟨k1 + k2 + k3 + k4, ?_⟩
  rw [call_L 7 rfl (rfl : P.T f_L10_alive = some F_L10_alive) (le_ok rfl)]; simp -implicitDefEqProofs [-toCells, -AV.one, -forget, F_L10_alive, c_L10_alive, c1, c2, c3, c4, c5, t1, t2, b1, b2]
  rw [← hG4]
  simp
end Go.A.V.S
