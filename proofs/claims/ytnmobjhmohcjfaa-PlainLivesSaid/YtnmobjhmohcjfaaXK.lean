/- The reference's sizes. -/
import Derived.Test.YtnmobjhmohcjfaaXB
import Derived.Test.YtnmobjhmohcjfaaV14
import Derived.Test.YtnmobjhmohcjfaaXG
set_option linter.unusedSimpArgs false
set_option linter.unusedVariables false
set_option linter.unnecessarySimpa false
namespace Go.A.V.S
open Go Go.A
set_option linter.unusedSimpArgs false
set_option linter.unusedVariables false
/-- How many numbers of so many bits there are. -/
def sz2 (b : Int) : Nat := if b < 1 ∨ 16 < b then 0 else 2 ^ b.toNat
section
variable {H : Heap}
def InvZ2 (H : Heap) (b : Nat) (z : Nat) (σ : List AV) (G : Heap) : Prop :=
  ∃ (i n : Nat), i + z = b ∧ n = 2 ^ i ∧ G = H ∧ σ = L 19 ((((Tr.full 5).put (path 0) (ai b)).put (path 3) (ai n)).put (path 4) (ai i))
def PostZ2 (H : Heap) (m : Nat) (e : AExit) (σ : List AV) (G : Heap) : Prop :=
  G = H ∧ e = .exit 0 ∧ kill [0, 4, 11, 12, 13] σ = L 19 ((Tr.full 5).put (path 3) (ai m))
theorem loopZ2 {b m : Nat} (hb : b ≤ 16) (hm : m = 2 ^ b) (z : Nat) (σ : List AV) (G : Heap) (hI : InvZ2 H b z (kill (headK lp0_R02_Size) σ) G) :
    Ends (execW P f_R02_Size (.loop lp0_R02_Size) σ G) fun s => PostZ2 H m s.e s.σ s.H := by
  refine loop_ends (fun z σ G => InvZ2 H b z σ G) (PostZ2 H m) ?_ z σ G hI
  clear hI z σ G
  rintro z σ G ⟨i, n, hz, hn, rfl, rfl⟩
  have hp : n ≤ 65536 := by
    rw [hn]
    calc 2 ^ i ≤ 2 ^ 16 := Nat.pow_le_pow_right (by omega) (by omega)
      _ = 65536 := by decide
  by_cases hi : i < b
  · have hn2 : 2 * n = 2 ^ (i + 1) := by rw [Nat.pow_succ]; omega
    clear hn
    simp -implicitDefEqProofs (disch := first | omega | (simp; done) | fail) [-toCells, -AV.one, -forget, c_R02_Size, cmp_ilt, cmp_ilf, cmp_ile, cmp_ilg, cmp_ine, cmp_nlt, cmp_nlf, cmp_nle, cmp_nne, wrap_i64, wrap_u64, lp0_R02_Size]
    exact ⟨z - 1, by omega, i + 1, 2 * n, by omega, hn2, rfl, by simp⟩
  · have : i = b := by omega
    subst this
    obtain rfl : n = m := by rw [hn, hm]
    clear hn hm
    simp -implicitDefEqProofs (disch := first | omega | (simp; done) | fail) [-toCells, -AV.one, -forget, c_R02_Size, cmp_ilt, cmp_ilf, cmp_ile, cmp_ilg, cmp_ine, cmp_nlt, cmp_nlf, cmp_nle, cmp_nne, wrap_i64, wrap_u64, lp0_R02_Size]
    exact ⟨rfl, rfl, by simp⟩
theorem rSize02 (b : Int) (H : Heap) : callW P f_R02_Size [ai b] H = some (ai (sz2 b : Nat), H) := by
  by_cases hb : b < 1 ∨ 16 < b
  · rw [sz2, if_pos hb]
    rcases hb with hb | hb
    · rw [call_L 5 rfl (rfl : P.T f_R02_Size = some F_R02_Size) (le_ok rfl)]; simp -implicitDefEqProofs (disch := first | omega | (simp; done) | fail) [-toCells, -AV.one, -forget, F_R02_Size, c_R02_Size, cmp_ilt, cmp_ilf, cmp_ile, cmp_ilg, cmp_ine, cmp_nlt, cmp_nlf, cmp_nle, cmp_nne, wrap_i64, wrap_u64]
    · rw [call_L 5 rfl (rfl : P.T f_R02_Size = some F_R02_Size) (le_ok rfl)]; simp -implicitDefEqProofs (disch := first | omega | (simp; done) | fail) [-toCells, -AV.one, -forget, F_R02_Size, c_R02_Size, cmp_ilt, cmp_ilf, cmp_ile, cmp_ilg, cmp_ine, cmp_nlt, cmp_nlf, cmp_nle, cmp_nne, wrap_i64, wrap_u64]
  · rw [sz2, if_neg hb]
    obtain ⟨n, rfl⟩ : ∃ n : Nat, b = n := ⟨b.toNat, by omega⟩
    obtain ⟨m, hm⟩ : ∃ t, 2 ^ (n : Int).toNat = t := ⟨_, rfl⟩
    rw [hm, ends_eq]
    have hl := loopZ2 (H := H) (b := n) (m := m) (by omega) (by rw [← hm]; simp) n
    clear hm
    refine call_post 5 19 rfl (rfl : P.T f_R02_Size = some F_R02_Size) rfl (le_ok rfl) (fun e σ G => e = .ret ∧ G = H ∧ resultsA F_R02_Size.res σ = some (ai m)) ?_ ?_
    · rintro e σ G ⟨rfl, rfl, h⟩
      exact ⟨rfl, _, h, rfl, by simp⟩
    rw [F_R02_Size]; simp -implicitDefEqProofs (disch := first | omega | (simp; done) | fail) [-toCells, -AV.one, -forget, c_R02_Size, cmp_ilt, cmp_ilf, cmp_ile, cmp_ilg, cmp_ine, cmp_nlt, cmp_nlf, cmp_nle, cmp_nne, wrap_i64, wrap_u64]
    repeat rw [Option.bind_assoc]
    refine Ends.block (P := PostZ2 H m) (hl _ _ ⟨0, 1, by omega, rfl, rfl, by simp [lp0_R02_Size]⟩) ?_
    rintro e σ1 G1 ⟨rfl, rfl, c⟩
    simp -implicitDefEqProofs (disch := first | omega | (simp; done) | fail) [-toCells, -AV.one, -forget, c_R02_Size, cmp_ilt, cmp_ilf, cmp_ile, cmp_ilg, cmp_ine, cmp_nlt, cmp_nlf, cmp_nle, cmp_nne, wrap_i64, wrap_u64, c]
end
end Go.A.V.S

namespace Go.A.V.S
open Go Go.A
set_option linter.unusedSimpArgs false
set_option linter.unusedVariables false
def inD (x a b : Int) : Bool := decide (a ≤ x) && decide (x ≤ b)
theorem rIs12 (x a b : Int) (H : Heap) : callW P f_R12_is [ai x, ai a, ai b] H = some (ab (inD x a b), H) := by
  by_cases h1 : a ≤ x
  · by_cases h2 : x ≤ b
    · rw [inD, decide_eq_true h1, decide_eq_true h2]
      rw [call_L 5 rfl (rfl : P.T f_R12_is = some F_R12_is) (le_ok rfl)]; simp -implicitDefEqProofs (disch := first | omega | (simp; done) | fail) [-toCells, -AV.one, -forget, F_R12_is, c_R12_is, cmp_ilt, cmp_ilf, cmp_ile, cmp_ilg, cmp_ine, cmp_nlt, cmp_nlf, cmp_nle, cmp_nne, wrap_i64, wrap_u64, h1, h2]
    · rw [inD, decide_eq_true h1, decide_eq_false h2]
      rw [call_L 5 rfl (rfl : P.T f_R12_is = some F_R12_is) (le_ok rfl)]; simp -implicitDefEqProofs (disch := first | omega | (simp; done) | fail) [-toCells, -AV.one, -forget, F_R12_is, c_R12_is, cmp_ilt, cmp_ilf, cmp_ile, cmp_ilg, cmp_ine, cmp_nlt, cmp_nlf, cmp_nle, cmp_nne, wrap_i64, wrap_u64, h1, h2]
  · rw [inD, decide_eq_false h1]
    rw [call_L 5 rfl (rfl : P.T f_R12_is = some F_R12_is) (le_ok rfl)]; simp -implicitDefEqProofs (disch := first | omega | (simp; done) | fail) [-toCells, -AV.one, -forget, F_R12_is, c_R12_is, cmp_ilt, cmp_ilf, cmp_ile, cmp_ilg, cmp_ine, cmp_nlt, cmp_nlf, cmp_nle, cmp_nne, wrap_i64, wrap_u64, h1]
theorem inD_inn (x a b : Int) : inD x a b = inn (x, (a, b)) := by
  simp only [inD, inn]
  by_cases h1 : a ≤ x <;> by_cases h2 : x ≤ b <;> simp [h1, h2] <;> omega
/-- What the document asks of a config's other numbers. -/
def Cfg.oth (c : Cfg) : Bool := decide (c.pollRetx = 0) && (decide (c.prohibit = 0) && (decide (c.pollPDU = 0) && (decide (c.pollByte = 0) && decide (c.maxRetx = 0))))
def Cfg.d0 (c : Cfg) : Bool := inD c.queue 1 20000 && (decide (c.bits = 0) && (decide (c.window = 0) && (decide (c.reorder = 0) && c.oth)))
def Cfg.d1 (c : Cfg) (h : Int) : Bool := inD c.queue 1 20000 && (inD c.window 1 h && (inD c.reorder 1 1000 && c.oth))
def Cfg.d2 (c : Cfg) (h : Int) : Bool := inD c.queue 1 20000 && (inD c.window 1 h && (inD c.reorder 1 1000 && (inD c.pollRetx 1 1000 && (inD c.prohibit 0 1000 && (inD c.pollPDU 1 1000 && (inD c.pollByte 1 20000 && inD c.maxRetx 1 32))))))
section
variable {bi wi re pr ph pp pb mr q : Int} {H : Heap}
theorem chk_d0 : callW P f_R12_Check [.agg (Cfg.v ⟨0, bi, wi, re, pr, ph, pp, pb, mr, q⟩)] H = some (ai (cond (Cfg.d0 ⟨0, bi, wi, re, pr, ph, pp, pb, mr, q⟩) 0 1), H) := by
  have h1 := fun H => rIs12 q 1 20000 H
  have h2 := fun H => rSize02 bi H
  obtain ⟨s, hs⟩ : ∃ t, sz2 bi = t := ⟨_, rfl⟩
  rw [hs] at h2
  obtain ⟨s2, hs2⟩ : ∃ t : Int, IntKind.i64.wrap ((s : Int).tdiv 2) = t := ⟨_, rfl⟩
  clear hs
  simp only [Cfg.d0]
  generalize inD q 1 20000 = iq at *
  by_cases pr_0 : pr = 0
  case neg =>
   cases iq with
   | false => rw [call_L 8 rfl (rfl : P.T f_R12_Check = some F_R12_Check) (le_ok rfl)]; simp -implicitDefEqProofs [-toCells, -AV.one, -forget, F_R12_Check, c_R12_Check, Cfg.v, Cfg.d0, Cfg.d1, Cfg.d2, Cfg.oth, h1, h2, hs2, pr_0]
   | true =>
    by_cases bi_0 : bi = 0
    case neg => rw [call_L 8 rfl (rfl : P.T f_R12_Check = some F_R12_Check) (le_ok rfl)]; simp -implicitDefEqProofs [-toCells, -AV.one, -forget, F_R12_Check, c_R12_Check, Cfg.v, Cfg.d0, Cfg.d1, Cfg.d2, Cfg.oth, h1, h2, hs2, pr_0, bi_0]
    subst bi_0
    by_cases wi_0 : wi = 0
    case neg => rw [call_L 8 rfl (rfl : P.T f_R12_Check = some F_R12_Check) (le_ok rfl)]; simp -implicitDefEqProofs [-toCells, -AV.one, -forget, F_R12_Check, c_R12_Check, Cfg.v, Cfg.d0, Cfg.d1, Cfg.d2, Cfg.oth, h1, h2, hs2, pr_0, wi_0]
    subst wi_0
    by_cases re_0 : re = 0
    case neg => rw [call_L 8 rfl (rfl : P.T f_R12_Check = some F_R12_Check) (le_ok rfl)]; simp -implicitDefEqProofs [-toCells, -AV.one, -forget, F_R12_Check, c_R12_Check, Cfg.v, Cfg.d0, Cfg.d1, Cfg.d2, Cfg.oth, h1, h2, hs2, pr_0, re_0]
    subst re_0
    rw [call_L 8 rfl (rfl : P.T f_R12_Check = some F_R12_Check) (le_ok rfl)]; simp -implicitDefEqProofs [-toCells, -AV.one, -forget, F_R12_Check, c_R12_Check, Cfg.v, Cfg.d0, Cfg.d1, Cfg.d2, Cfg.oth, h1, h2, hs2, pr_0]
  subst pr_0
  by_cases ph_0 : ph = 0
  case neg =>
   cases iq with
   | false => rw [call_L 8 rfl (rfl : P.T f_R12_Check = some F_R12_Check) (le_ok rfl)]; simp -implicitDefEqProofs [-toCells, -AV.one, -forget, F_R12_Check, c_R12_Check, Cfg.v, Cfg.d0, Cfg.d1, Cfg.d2, Cfg.oth, h1, h2, hs2, ph_0]
   | true =>
    by_cases bi_0 : bi = 0
    case neg => rw [call_L 8 rfl (rfl : P.T f_R12_Check = some F_R12_Check) (le_ok rfl)]; simp -implicitDefEqProofs [-toCells, -AV.one, -forget, F_R12_Check, c_R12_Check, Cfg.v, Cfg.d0, Cfg.d1, Cfg.d2, Cfg.oth, h1, h2, hs2, ph_0, bi_0]
    subst bi_0
    by_cases wi_0 : wi = 0
    case neg => rw [call_L 8 rfl (rfl : P.T f_R12_Check = some F_R12_Check) (le_ok rfl)]; simp -implicitDefEqProofs [-toCells, -AV.one, -forget, F_R12_Check, c_R12_Check, Cfg.v, Cfg.d0, Cfg.d1, Cfg.d2, Cfg.oth, h1, h2, hs2, ph_0, wi_0]
    subst wi_0
    by_cases re_0 : re = 0
    case neg => rw [call_L 8 rfl (rfl : P.T f_R12_Check = some F_R12_Check) (le_ok rfl)]; simp -implicitDefEqProofs [-toCells, -AV.one, -forget, F_R12_Check, c_R12_Check, Cfg.v, Cfg.d0, Cfg.d1, Cfg.d2, Cfg.oth, h1, h2, hs2, ph_0, re_0]
    subst re_0
    rw [call_L 8 rfl (rfl : P.T f_R12_Check = some F_R12_Check) (le_ok rfl)]; simp -implicitDefEqProofs [-toCells, -AV.one, -forget, F_R12_Check, c_R12_Check, Cfg.v, Cfg.d0, Cfg.d1, Cfg.d2, Cfg.oth, h1, h2, hs2, ph_0]
  subst ph_0
  by_cases pp_0 : pp = 0
  case neg =>
   cases iq with
   | false => rw [call_L 8 rfl (rfl : P.T f_R12_Check = some F_R12_Check) (le_ok rfl)]; simp -implicitDefEqProofs [-toCells, -AV.one, -forget, F_R12_Check, c_R12_Check, Cfg.v, Cfg.d0, Cfg.d1, Cfg.d2, Cfg.oth, h1, h2, hs2, pp_0]
   | true =>
    by_cases bi_0 : bi = 0
    case neg => rw [call_L 8 rfl (rfl : P.T f_R12_Check = some F_R12_Check) (le_ok rfl)]; simp -implicitDefEqProofs [-toCells, -AV.one, -forget, F_R12_Check, c_R12_Check, Cfg.v, Cfg.d0, Cfg.d1, Cfg.d2, Cfg.oth, h1, h2, hs2, pp_0, bi_0]
    subst bi_0
    by_cases wi_0 : wi = 0
    case neg => rw [call_L 8 rfl (rfl : P.T f_R12_Check = some F_R12_Check) (le_ok rfl)]; simp -implicitDefEqProofs [-toCells, -AV.one, -forget, F_R12_Check, c_R12_Check, Cfg.v, Cfg.d0, Cfg.d1, Cfg.d2, Cfg.oth, h1, h2, hs2, pp_0, wi_0]
    subst wi_0
    by_cases re_0 : re = 0
    case neg => rw [call_L 8 rfl (rfl : P.T f_R12_Check = some F_R12_Check) (le_ok rfl)]; simp -implicitDefEqProofs [-toCells, -AV.one, -forget, F_R12_Check, c_R12_Check, Cfg.v, Cfg.d0, Cfg.d1, Cfg.d2, Cfg.oth, h1, h2, hs2, pp_0, re_0]
    subst re_0
    rw [call_L 8 rfl (rfl : P.T f_R12_Check = some F_R12_Check) (le_ok rfl)]; simp -implicitDefEqProofs [-toCells, -AV.one, -forget, F_R12_Check, c_R12_Check, Cfg.v, Cfg.d0, Cfg.d1, Cfg.d2, Cfg.oth, h1, h2, hs2, pp_0]
  subst pp_0
  by_cases pb_0 : pb = 0
  case neg =>
   cases iq with
   | false => rw [call_L 8 rfl (rfl : P.T f_R12_Check = some F_R12_Check) (le_ok rfl)]; simp -implicitDefEqProofs [-toCells, -AV.one, -forget, F_R12_Check, c_R12_Check, Cfg.v, Cfg.d0, Cfg.d1, Cfg.d2, Cfg.oth, h1, h2, hs2, pb_0]
   | true =>
    by_cases bi_0 : bi = 0
    case neg => rw [call_L 8 rfl (rfl : P.T f_R12_Check = some F_R12_Check) (le_ok rfl)]; simp -implicitDefEqProofs [-toCells, -AV.one, -forget, F_R12_Check, c_R12_Check, Cfg.v, Cfg.d0, Cfg.d1, Cfg.d2, Cfg.oth, h1, h2, hs2, pb_0, bi_0]
    subst bi_0
    by_cases wi_0 : wi = 0
    case neg => rw [call_L 8 rfl (rfl : P.T f_R12_Check = some F_R12_Check) (le_ok rfl)]; simp -implicitDefEqProofs [-toCells, -AV.one, -forget, F_R12_Check, c_R12_Check, Cfg.v, Cfg.d0, Cfg.d1, Cfg.d2, Cfg.oth, h1, h2, hs2, pb_0, wi_0]
    subst wi_0
    by_cases re_0 : re = 0
    case neg => rw [call_L 8 rfl (rfl : P.T f_R12_Check = some F_R12_Check) (le_ok rfl)]; simp -implicitDefEqProofs [-toCells, -AV.one, -forget, F_R12_Check, c_R12_Check, Cfg.v, Cfg.d0, Cfg.d1, Cfg.d2, Cfg.oth, h1, h2, hs2, pb_0, re_0]
    subst re_0
    rw [call_L 8 rfl (rfl : P.T f_R12_Check = some F_R12_Check) (le_ok rfl)]; simp -implicitDefEqProofs [-toCells, -AV.one, -forget, F_R12_Check, c_R12_Check, Cfg.v, Cfg.d0, Cfg.d1, Cfg.d2, Cfg.oth, h1, h2, hs2, pb_0]
  subst pb_0
  by_cases mr_0 : mr = 0
  case neg =>
   cases iq with
   | false => rw [call_L 8 rfl (rfl : P.T f_R12_Check = some F_R12_Check) (le_ok rfl)]; simp -implicitDefEqProofs [-toCells, -AV.one, -forget, F_R12_Check, c_R12_Check, Cfg.v, Cfg.d0, Cfg.d1, Cfg.d2, Cfg.oth, h1, h2, hs2, mr_0]
   | true =>
    by_cases bi_0 : bi = 0
    case neg => rw [call_L 8 rfl (rfl : P.T f_R12_Check = some F_R12_Check) (le_ok rfl)]; simp -implicitDefEqProofs [-toCells, -AV.one, -forget, F_R12_Check, c_R12_Check, Cfg.v, Cfg.d0, Cfg.d1, Cfg.d2, Cfg.oth, h1, h2, hs2, mr_0, bi_0]
    subst bi_0
    by_cases wi_0 : wi = 0
    case neg => rw [call_L 8 rfl (rfl : P.T f_R12_Check = some F_R12_Check) (le_ok rfl)]; simp -implicitDefEqProofs [-toCells, -AV.one, -forget, F_R12_Check, c_R12_Check, Cfg.v, Cfg.d0, Cfg.d1, Cfg.d2, Cfg.oth, h1, h2, hs2, mr_0, wi_0]
    subst wi_0
    by_cases re_0 : re = 0
    case neg => rw [call_L 8 rfl (rfl : P.T f_R12_Check = some F_R12_Check) (le_ok rfl)]; simp -implicitDefEqProofs [-toCells, -AV.one, -forget, F_R12_Check, c_R12_Check, Cfg.v, Cfg.d0, Cfg.d1, Cfg.d2, Cfg.oth, h1, h2, hs2, mr_0, re_0]
    subst re_0
    rw [call_L 8 rfl (rfl : P.T f_R12_Check = some F_R12_Check) (le_ok rfl)]; simp -implicitDefEqProofs [-toCells, -AV.one, -forget, F_R12_Check, c_R12_Check, Cfg.v, Cfg.d0, Cfg.d1, Cfg.d2, Cfg.oth, h1, h2, hs2, mr_0]
  subst mr_0
  cases iq with
  | false => rw [call_L 8 rfl (rfl : P.T f_R12_Check = some F_R12_Check) (le_ok rfl)]; simp -implicitDefEqProofs [-toCells, -AV.one, -forget, F_R12_Check, c_R12_Check, Cfg.v, Cfg.d0, Cfg.d1, Cfg.d2, Cfg.oth, h1, h2, hs2]
  | true =>
   by_cases bi_0 : bi = 0
   case neg => rw [call_L 8 rfl (rfl : P.T f_R12_Check = some F_R12_Check) (le_ok rfl)]; simp -implicitDefEqProofs [-toCells, -AV.one, -forget, F_R12_Check, c_R12_Check, Cfg.v, Cfg.d0, Cfg.d1, Cfg.d2, Cfg.oth, h1, h2, hs2, bi_0]
   subst bi_0
   by_cases wi_0 : wi = 0
   case neg => rw [call_L 8 rfl (rfl : P.T f_R12_Check = some F_R12_Check) (le_ok rfl)]; simp -implicitDefEqProofs [-toCells, -AV.one, -forget, F_R12_Check, c_R12_Check, Cfg.v, Cfg.d0, Cfg.d1, Cfg.d2, Cfg.oth, h1, h2, hs2, wi_0]
   subst wi_0
   by_cases re_0 : re = 0
   case neg => rw [call_L 8 rfl (rfl : P.T f_R12_Check = some F_R12_Check) (le_ok rfl)]; simp -implicitDefEqProofs [-toCells, -AV.one, -forget, F_R12_Check, c_R12_Check, Cfg.v, Cfg.d0, Cfg.d1, Cfg.d2, Cfg.oth, h1, h2, hs2, re_0]
   subst re_0
   rw [call_L 8 rfl (rfl : P.T f_R12_Check = some F_R12_Check) (le_ok rfl)]; simp -implicitDefEqProofs [-toCells, -AV.one, -forget, F_R12_Check, c_R12_Check, Cfg.v, Cfg.d0, Cfg.d1, Cfg.d2, Cfg.oth, h1, h2, hs2]
theorem chk_d1_5 : callW P f_R12_Check [.agg (Cfg.v ⟨1, 5, wi, re, pr, ph, pp, pb, mr, q⟩)] H = some (ai (cond (Cfg.d1 ⟨1, 5, wi, re, pr, ph, pp, pb, mr, q⟩ 16) 0 1), H) := by
  have h1 := fun H => rIs12 q 1 20000 H
  have h2 := fun H => rIs12 wi 1 16 H
  have h3 := fun H => rIs12 re 1 1000 H
  have h4 : ∀ H, callW P f_R02_Size [ai 5] H = some (ai 32, H) := fun H => rSize02 5 H
  have wh : IntKind.i64.wrap 16 = 16 := rfl
  simp only [Cfg.d1]
  generalize inD q 1 20000 = iq at *
  generalize inD wi 1 16 = iw at *
  generalize inD re 1 1000 = ir at *
  by_cases pr_0 : pr = 0
  case neg =>
   cases iq with
   | false => rw [call_L 8 rfl (rfl : P.T f_R12_Check = some F_R12_Check) (le_ok rfl)]; simp -implicitDefEqProofs [-toCells, -AV.one, -forget, F_R12_Check, c_R12_Check, Cfg.v, Cfg.d0, Cfg.d1, Cfg.d2, Cfg.oth, h1, h2, h3, h4, wh, pr_0]
   | true =>
    cases iw with
    | false => rw [call_L 8 rfl (rfl : P.T f_R12_Check = some F_R12_Check) (le_ok rfl)]; simp -implicitDefEqProofs [-toCells, -AV.one, -forget, F_R12_Check, c_R12_Check, Cfg.v, Cfg.d0, Cfg.d1, Cfg.d2, Cfg.oth, h1, h2, h3, h4, wh, pr_0]
    | true =>
     cases ir with
     | false => rw [call_L 8 rfl (rfl : P.T f_R12_Check = some F_R12_Check) (le_ok rfl)]; simp -implicitDefEqProofs [-toCells, -AV.one, -forget, F_R12_Check, c_R12_Check, Cfg.v, Cfg.d0, Cfg.d1, Cfg.d2, Cfg.oth, h1, h2, h3, h4, wh, pr_0]
     | true =>
      rw [call_L 8 rfl (rfl : P.T f_R12_Check = some F_R12_Check) (le_ok rfl)]; simp -implicitDefEqProofs [-toCells, -AV.one, -forget, F_R12_Check, c_R12_Check, Cfg.v, Cfg.d0, Cfg.d1, Cfg.d2, Cfg.oth, h1, h2, h3, h4, wh, pr_0]
  subst pr_0
  by_cases ph_0 : ph = 0
  case neg =>
   cases iq with
   | false => rw [call_L 8 rfl (rfl : P.T f_R12_Check = some F_R12_Check) (le_ok rfl)]; simp -implicitDefEqProofs [-toCells, -AV.one, -forget, F_R12_Check, c_R12_Check, Cfg.v, Cfg.d0, Cfg.d1, Cfg.d2, Cfg.oth, h1, h2, h3, h4, wh, ph_0]
   | true =>
    cases iw with
    | false => rw [call_L 8 rfl (rfl : P.T f_R12_Check = some F_R12_Check) (le_ok rfl)]; simp -implicitDefEqProofs [-toCells, -AV.one, -forget, F_R12_Check, c_R12_Check, Cfg.v, Cfg.d0, Cfg.d1, Cfg.d2, Cfg.oth, h1, h2, h3, h4, wh, ph_0]
    | true =>
     cases ir with
     | false => rw [call_L 8 rfl (rfl : P.T f_R12_Check = some F_R12_Check) (le_ok rfl)]; simp -implicitDefEqProofs [-toCells, -AV.one, -forget, F_R12_Check, c_R12_Check, Cfg.v, Cfg.d0, Cfg.d1, Cfg.d2, Cfg.oth, h1, h2, h3, h4, wh, ph_0]
     | true =>
      rw [call_L 8 rfl (rfl : P.T f_R12_Check = some F_R12_Check) (le_ok rfl)]; simp -implicitDefEqProofs [-toCells, -AV.one, -forget, F_R12_Check, c_R12_Check, Cfg.v, Cfg.d0, Cfg.d1, Cfg.d2, Cfg.oth, h1, h2, h3, h4, wh, ph_0]
  subst ph_0
  by_cases pp_0 : pp = 0
  case neg =>
   cases iq with
   | false => rw [call_L 8 rfl (rfl : P.T f_R12_Check = some F_R12_Check) (le_ok rfl)]; simp -implicitDefEqProofs [-toCells, -AV.one, -forget, F_R12_Check, c_R12_Check, Cfg.v, Cfg.d0, Cfg.d1, Cfg.d2, Cfg.oth, h1, h2, h3, h4, wh, pp_0]
   | true =>
    cases iw with
    | false => rw [call_L 8 rfl (rfl : P.T f_R12_Check = some F_R12_Check) (le_ok rfl)]; simp -implicitDefEqProofs [-toCells, -AV.one, -forget, F_R12_Check, c_R12_Check, Cfg.v, Cfg.d0, Cfg.d1, Cfg.d2, Cfg.oth, h1, h2, h3, h4, wh, pp_0]
    | true =>
     cases ir with
     | false => rw [call_L 8 rfl (rfl : P.T f_R12_Check = some F_R12_Check) (le_ok rfl)]; simp -implicitDefEqProofs [-toCells, -AV.one, -forget, F_R12_Check, c_R12_Check, Cfg.v, Cfg.d0, Cfg.d1, Cfg.d2, Cfg.oth, h1, h2, h3, h4, wh, pp_0]
     | true =>
      rw [call_L 8 rfl (rfl : P.T f_R12_Check = some F_R12_Check) (le_ok rfl)]; simp -implicitDefEqProofs [-toCells, -AV.one, -forget, F_R12_Check, c_R12_Check, Cfg.v, Cfg.d0, Cfg.d1, Cfg.d2, Cfg.oth, h1, h2, h3, h4, wh, pp_0]
  subst pp_0
  by_cases pb_0 : pb = 0
  case neg =>
   cases iq with
   | false => rw [call_L 8 rfl (rfl : P.T f_R12_Check = some F_R12_Check) (le_ok rfl)]; simp -implicitDefEqProofs [-toCells, -AV.one, -forget, F_R12_Check, c_R12_Check, Cfg.v, Cfg.d0, Cfg.d1, Cfg.d2, Cfg.oth, h1, h2, h3, h4, wh, pb_0]
   | true =>
    cases iw with
    | false => rw [call_L 8 rfl (rfl : P.T f_R12_Check = some F_R12_Check) (le_ok rfl)]; simp -implicitDefEqProofs [-toCells, -AV.one, -forget, F_R12_Check, c_R12_Check, Cfg.v, Cfg.d0, Cfg.d1, Cfg.d2, Cfg.oth, h1, h2, h3, h4, wh, pb_0]
    | true =>
     cases ir with
     | false => rw [call_L 8 rfl (rfl : P.T f_R12_Check = some F_R12_Check) (le_ok rfl)]; simp -implicitDefEqProofs [-toCells, -AV.one, -forget, F_R12_Check, c_R12_Check, Cfg.v, Cfg.d0, Cfg.d1, Cfg.d2, Cfg.oth, h1, h2, h3, h4, wh, pb_0]
     | true =>
      rw [call_L 8 rfl (rfl : P.T f_R12_Check = some F_R12_Check) (le_ok rfl)]; simp -implicitDefEqProofs [-toCells, -AV.one, -forget, F_R12_Check, c_R12_Check, Cfg.v, Cfg.d0, Cfg.d1, Cfg.d2, Cfg.oth, h1, h2, h3, h4, wh, pb_0]
  subst pb_0
  by_cases mr_0 : mr = 0
  case neg =>
   cases iq with
   | false => rw [call_L 8 rfl (rfl : P.T f_R12_Check = some F_R12_Check) (le_ok rfl)]; simp -implicitDefEqProofs [-toCells, -AV.one, -forget, F_R12_Check, c_R12_Check, Cfg.v, Cfg.d0, Cfg.d1, Cfg.d2, Cfg.oth, h1, h2, h3, h4, wh, mr_0]
   | true =>
    cases iw with
    | false => rw [call_L 8 rfl (rfl : P.T f_R12_Check = some F_R12_Check) (le_ok rfl)]; simp -implicitDefEqProofs [-toCells, -AV.one, -forget, F_R12_Check, c_R12_Check, Cfg.v, Cfg.d0, Cfg.d1, Cfg.d2, Cfg.oth, h1, h2, h3, h4, wh, mr_0]
    | true =>
     cases ir with
     | false => rw [call_L 8 rfl (rfl : P.T f_R12_Check = some F_R12_Check) (le_ok rfl)]; simp -implicitDefEqProofs [-toCells, -AV.one, -forget, F_R12_Check, c_R12_Check, Cfg.v, Cfg.d0, Cfg.d1, Cfg.d2, Cfg.oth, h1, h2, h3, h4, wh, mr_0]
     | true =>
      rw [call_L 8 rfl (rfl : P.T f_R12_Check = some F_R12_Check) (le_ok rfl)]; simp -implicitDefEqProofs [-toCells, -AV.one, -forget, F_R12_Check, c_R12_Check, Cfg.v, Cfg.d0, Cfg.d1, Cfg.d2, Cfg.oth, h1, h2, h3, h4, wh, mr_0]
  subst mr_0
  cases iq with
  | false => rw [call_L 8 rfl (rfl : P.T f_R12_Check = some F_R12_Check) (le_ok rfl)]; simp -implicitDefEqProofs [-toCells, -AV.one, -forget, F_R12_Check, c_R12_Check, Cfg.v, Cfg.d0, Cfg.d1, Cfg.d2, Cfg.oth, h1, h2, h3, h4, wh]
  | true =>
   cases iw with
   | false => rw [call_L 8 rfl (rfl : P.T f_R12_Check = some F_R12_Check) (le_ok rfl)]; simp -implicitDefEqProofs [-toCells, -AV.one, -forget, F_R12_Check, c_R12_Check, Cfg.v, Cfg.d0, Cfg.d1, Cfg.d2, Cfg.oth, h1, h2, h3, h4, wh]
   | true =>
    cases ir with
    | false => rw [call_L 8 rfl (rfl : P.T f_R12_Check = some F_R12_Check) (le_ok rfl)]; simp -implicitDefEqProofs [-toCells, -AV.one, -forget, F_R12_Check, c_R12_Check, Cfg.v, Cfg.d0, Cfg.d1, Cfg.d2, Cfg.oth, h1, h2, h3, h4, wh]
    | true =>
     rw [call_L 8 rfl (rfl : P.T f_R12_Check = some F_R12_Check) (le_ok rfl)]; simp -implicitDefEqProofs [-toCells, -AV.one, -forget, F_R12_Check, c_R12_Check, Cfg.v, Cfg.d0, Cfg.d1, Cfg.d2, Cfg.oth, h1, h2, h3, h4, wh]
theorem chk_d1_10 : callW P f_R12_Check [.agg (Cfg.v ⟨1, 10, wi, re, pr, ph, pp, pb, mr, q⟩)] H = some (ai (cond (Cfg.d1 ⟨1, 10, wi, re, pr, ph, pp, pb, mr, q⟩ 512) 0 1), H) := by
  have h1 := fun H => rIs12 q 1 20000 H
  have h2 := fun H => rIs12 wi 1 512 H
  have h3 := fun H => rIs12 re 1 1000 H
  have h4 : ∀ H, callW P f_R02_Size [ai 10] H = some (ai 1024, H) := fun H => rSize02 10 H
  have wh : IntKind.i64.wrap 512 = 512 := rfl
  simp only [Cfg.d1]
  generalize inD q 1 20000 = iq at *
  generalize inD wi 1 512 = iw at *
  generalize inD re 1 1000 = ir at *
  by_cases pr_0 : pr = 0
  case neg =>
   cases iq with
   | false => rw [call_L 8 rfl (rfl : P.T f_R12_Check = some F_R12_Check) (le_ok rfl)]; simp -implicitDefEqProofs [-toCells, -AV.one, -forget, F_R12_Check, c_R12_Check, Cfg.v, Cfg.d0, Cfg.d1, Cfg.d2, Cfg.oth, h1, h2, h3, h4, wh, pr_0]
   | true =>
    cases iw with
    | false => rw [call_L 8 rfl (rfl : P.T f_R12_Check = some F_R12_Check) (le_ok rfl)]; simp -implicitDefEqProofs [-toCells, -AV.one, -forget, F_R12_Check, c_R12_Check, Cfg.v, Cfg.d0, Cfg.d1, Cfg.d2, Cfg.oth, h1, h2, h3, h4, wh, pr_0]
    | true =>
     cases ir with
     | false => rw [call_L 8 rfl (rfl : P.T f_R12_Check = some F_R12_Check) (le_ok rfl)]; simp -implicitDefEqProofs [-toCells, -AV.one, -forget, F_R12_Check, c_R12_Check, Cfg.v, Cfg.d0, Cfg.d1, Cfg.d2, Cfg.oth, h1, h2, h3, h4, wh, pr_0]
     | true =>
      rw [call_L 8 rfl (rfl : P.T f_R12_Check = some F_R12_Check) (le_ok rfl)]; simp -implicitDefEqProofs [-toCells, -AV.one, -forget, F_R12_Check, c_R12_Check, Cfg.v, Cfg.d0, Cfg.d1, Cfg.d2, Cfg.oth, h1, h2, h3, h4, wh, pr_0]
  subst pr_0
  by_cases ph_0 : ph = 0
  case neg =>
   cases iq with
   | false => rw [call_L 8 rfl (rfl : P.T f_R12_Check = some F_R12_Check) (le_ok rfl)]; simp -implicitDefEqProofs [-toCells, -AV.one, -forget, F_R12_Check, c_R12_Check, Cfg.v, Cfg.d0, Cfg.d1, Cfg.d2, Cfg.oth, h1, h2, h3, h4, wh, ph_0]
   | true =>
    cases iw with
    | false => rw [call_L 8 rfl (rfl : P.T f_R12_Check = some F_R12_Check) (le_ok rfl)]; simp -implicitDefEqProofs [-toCells, -AV.one, -forget, F_R12_Check, c_R12_Check, Cfg.v, Cfg.d0, Cfg.d1, Cfg.d2, Cfg.oth, h1, h2, h3, h4, wh, ph_0]
    | true =>
     cases ir with
     | false => rw [call_L 8 rfl (rfl : P.T f_R12_Check = some F_R12_Check) (le_ok rfl)]; simp -implicitDefEqProofs [-toCells, -AV.one, -forget, F_R12_Check, c_R12_Check, Cfg.v, Cfg.d0, Cfg.d1, Cfg.d2, Cfg.oth, h1, h2, h3, h4, wh, ph_0]
     | true =>
      rw [call_L 8 rfl (rfl : P.T f_R12_Check = some F_R12_Check) (le_ok rfl)]; simp -implicitDefEqProofs [-toCells, -AV.one, -forget, F_R12_Check, c_R12_Check, Cfg.v, Cfg.d0, Cfg.d1, Cfg.d2, Cfg.oth, h1, h2, h3, h4, wh, ph_0]
  subst ph_0
  by_cases pp_0 : pp = 0
  case neg =>
   cases iq with
   | false => rw [call_L 8 rfl (rfl : P.T f_R12_Check = some F_R12_Check) (le_ok rfl)]; simp -implicitDefEqProofs [-toCells, -AV.one, -forget, F_R12_Check, c_R12_Check, Cfg.v, Cfg.d0, Cfg.d1, Cfg.d2, Cfg.oth, h1, h2, h3, h4, wh, pp_0]
   | true =>
    cases iw with
    | false => rw [call_L 8 rfl (rfl : P.T f_R12_Check = some F_R12_Check) (le_ok rfl)]; simp -implicitDefEqProofs [-toCells, -AV.one, -forget, F_R12_Check, c_R12_Check, Cfg.v, Cfg.d0, Cfg.d1, Cfg.d2, Cfg.oth, h1, h2, h3, h4, wh, pp_0]
    | true =>
     cases ir with
     | false => rw [call_L 8 rfl (rfl : P.T f_R12_Check = some F_R12_Check) (le_ok rfl)]; simp -implicitDefEqProofs [-toCells, -AV.one, -forget, F_R12_Check, c_R12_Check, Cfg.v, Cfg.d0, Cfg.d1, Cfg.d2, Cfg.oth, h1, h2, h3, h4, wh, pp_0]
     | true =>
      rw [call_L 8 rfl (rfl : P.T f_R12_Check = some F_R12_Check) (le_ok rfl)]; simp -implicitDefEqProofs [-toCells, -AV.one, -forget, F_R12_Check, c_R12_Check, Cfg.v, Cfg.d0, Cfg.d1, Cfg.d2, Cfg.oth, h1, h2, h3, h4, wh, pp_0]
  subst pp_0
  by_cases pb_0 : pb = 0
  case neg =>
   cases iq with
   | false => rw [call_L 8 rfl (rfl : P.T f_R12_Check = some F_R12_Check) (le_ok rfl)]; simp -implicitDefEqProofs [-toCells, -AV.one, -forget, F_R12_Check, c_R12_Check, Cfg.v, Cfg.d0, Cfg.d1, Cfg.d2, Cfg.oth, h1, h2, h3, h4, wh, pb_0]
   | true =>
    cases iw with
    | false => rw [call_L 8 rfl (rfl : P.T f_R12_Check = some F_R12_Check) (le_ok rfl)]; simp -implicitDefEqProofs [-toCells, -AV.one, -forget, F_R12_Check, c_R12_Check, Cfg.v, Cfg.d0, Cfg.d1, Cfg.d2, Cfg.oth, h1, h2, h3, h4, wh, pb_0]
    | true =>
     cases ir with
     | false => rw [call_L 8 rfl (rfl : P.T f_R12_Check = some F_R12_Check) (le_ok rfl)]; simp -implicitDefEqProofs [-toCells, -AV.one, -forget, F_R12_Check, c_R12_Check, Cfg.v, Cfg.d0, Cfg.d1, Cfg.d2, Cfg.oth, h1, h2, h3, h4, wh, pb_0]
     | true =>
      rw [call_L 8 rfl (rfl : P.T f_R12_Check = some F_R12_Check) (le_ok rfl)]; simp -implicitDefEqProofs [-toCells, -AV.one, -forget, F_R12_Check, c_R12_Check, Cfg.v, Cfg.d0, Cfg.d1, Cfg.d2, Cfg.oth, h1, h2, h3, h4, wh, pb_0]
  subst pb_0
  by_cases mr_0 : mr = 0
  case neg =>
   cases iq with
   | false => rw [call_L 8 rfl (rfl : P.T f_R12_Check = some F_R12_Check) (le_ok rfl)]; simp -implicitDefEqProofs [-toCells, -AV.one, -forget, F_R12_Check, c_R12_Check, Cfg.v, Cfg.d0, Cfg.d1, Cfg.d2, Cfg.oth, h1, h2, h3, h4, wh, mr_0]
   | true =>
    cases iw with
    | false => rw [call_L 8 rfl (rfl : P.T f_R12_Check = some F_R12_Check) (le_ok rfl)]; simp -implicitDefEqProofs [-toCells, -AV.one, -forget, F_R12_Check, c_R12_Check, Cfg.v, Cfg.d0, Cfg.d1, Cfg.d2, Cfg.oth, h1, h2, h3, h4, wh, mr_0]
    | true =>
     cases ir with
     | false => rw [call_L 8 rfl (rfl : P.T f_R12_Check = some F_R12_Check) (le_ok rfl)]; simp -implicitDefEqProofs [-toCells, -AV.one, -forget, F_R12_Check, c_R12_Check, Cfg.v, Cfg.d0, Cfg.d1, Cfg.d2, Cfg.oth, h1, h2, h3, h4, wh, mr_0]
     | true =>
      rw [call_L 8 rfl (rfl : P.T f_R12_Check = some F_R12_Check) (le_ok rfl)]; simp -implicitDefEqProofs [-toCells, -AV.one, -forget, F_R12_Check, c_R12_Check, Cfg.v, Cfg.d0, Cfg.d1, Cfg.d2, Cfg.oth, h1, h2, h3, h4, wh, mr_0]
  subst mr_0
  cases iq with
  | false => rw [call_L 8 rfl (rfl : P.T f_R12_Check = some F_R12_Check) (le_ok rfl)]; simp -implicitDefEqProofs [-toCells, -AV.one, -forget, F_R12_Check, c_R12_Check, Cfg.v, Cfg.d0, Cfg.d1, Cfg.d2, Cfg.oth, h1, h2, h3, h4, wh]
  | true =>
   cases iw with
   | false => rw [call_L 8 rfl (rfl : P.T f_R12_Check = some F_R12_Check) (le_ok rfl)]; simp -implicitDefEqProofs [-toCells, -AV.one, -forget, F_R12_Check, c_R12_Check, Cfg.v, Cfg.d0, Cfg.d1, Cfg.d2, Cfg.oth, h1, h2, h3, h4, wh]
   | true =>
    cases ir with
    | false => rw [call_L 8 rfl (rfl : P.T f_R12_Check = some F_R12_Check) (le_ok rfl)]; simp -implicitDefEqProofs [-toCells, -AV.one, -forget, F_R12_Check, c_R12_Check, Cfg.v, Cfg.d0, Cfg.d1, Cfg.d2, Cfg.oth, h1, h2, h3, h4, wh]
    | true =>
     rw [call_L 8 rfl (rfl : P.T f_R12_Check = some F_R12_Check) (le_ok rfl)]; simp -implicitDefEqProofs [-toCells, -AV.one, -forget, F_R12_Check, c_R12_Check, Cfg.v, Cfg.d0, Cfg.d1, Cfg.d2, Cfg.oth, h1, h2, h3, h4, wh]
theorem chk_d2_10 : callW P f_R12_Check [.agg (Cfg.v ⟨2, 10, wi, re, pr, ph, pp, pb, mr, q⟩)] H = some (ai (cond (Cfg.d2 ⟨2, 10, wi, re, pr, ph, pp, pb, mr, q⟩ 512) 0 1), H) := by
  have h1 := fun H => rIs12 q 1 20000 H
  have h2 := fun H => rIs12 wi 1 512 H
  have h3 := fun H => rIs12 re 1 1000 H
  have h4 : ∀ H, callW P f_R02_Size [ai 10] H = some (ai 1024, H) := fun H => rSize02 10 H
  have wh : IntKind.i64.wrap 512 = 512 := rfl
  have g_pr := fun H => rIs12 pr 1 1000 H
  have g_ph := fun H => rIs12 ph 0 1000 H
  have g_pp := fun H => rIs12 pp 1 1000 H
  have g_pb := fun H => rIs12 pb 1 20000 H
  have g_mr := fun H => rIs12 mr 1 32 H
  simp only [Cfg.d2]
  generalize inD q 1 20000 = iq at *
  generalize inD wi 1 512 = iw at *
  generalize inD re 1 1000 = ir at *
  generalize inD pr 1 1000 = i_pr at *
  generalize inD ph 0 1000 = i_ph at *
  generalize inD pp 1 1000 = i_pp at *
  generalize inD pb 1 20000 = i_pb at *
  generalize inD mr 1 32 = i_mr at *
  cases iq with
  | false => rw [call_L 8 rfl (rfl : P.T f_R12_Check = some F_R12_Check) (le_ok rfl)]; simp -implicitDefEqProofs [-toCells, -AV.one, -forget, F_R12_Check, c_R12_Check, Cfg.v, Cfg.d0, Cfg.d1, Cfg.d2, Cfg.oth, h1, h2, h3, h4, wh, g_pr, g_ph, g_pp, g_pb, g_mr]
  | true =>
   cases iw with
   | false => rw [call_L 8 rfl (rfl : P.T f_R12_Check = some F_R12_Check) (le_ok rfl)]; simp -implicitDefEqProofs [-toCells, -AV.one, -forget, F_R12_Check, c_R12_Check, Cfg.v, Cfg.d0, Cfg.d1, Cfg.d2, Cfg.oth, h1, h2, h3, h4, wh, g_pr, g_ph, g_pp, g_pb, g_mr]
   | true =>
    cases ir with
    | false => rw [call_L 8 rfl (rfl : P.T f_R12_Check = some F_R12_Check) (le_ok rfl)]; simp -implicitDefEqProofs [-toCells, -AV.one, -forget, F_R12_Check, c_R12_Check, Cfg.v, Cfg.d0, Cfg.d1, Cfg.d2, Cfg.oth, h1, h2, h3, h4, wh, g_pr, g_ph, g_pp, g_pb, g_mr]
    | true =>
     cases i_pr with
     | false => rw [call_L 8 rfl (rfl : P.T f_R12_Check = some F_R12_Check) (le_ok rfl)]; simp -implicitDefEqProofs [-toCells, -AV.one, -forget, F_R12_Check, c_R12_Check, Cfg.v, Cfg.d0, Cfg.d1, Cfg.d2, Cfg.oth, h1, h2, h3, h4, wh, g_pr, g_ph, g_pp, g_pb, g_mr]
     | true =>
      cases i_ph with
      | false => rw [call_L 8 rfl (rfl : P.T f_R12_Check = some F_R12_Check) (le_ok rfl)]; simp -implicitDefEqProofs [-toCells, -AV.one, -forget, F_R12_Check, c_R12_Check, Cfg.v, Cfg.d0, Cfg.d1, Cfg.d2, Cfg.oth, h1, h2, h3, h4, wh, g_pr, g_ph, g_pp, g_pb, g_mr]
      | true =>
       cases i_pp with
       | false => rw [call_L 8 rfl (rfl : P.T f_R12_Check = some F_R12_Check) (le_ok rfl)]; simp -implicitDefEqProofs [-toCells, -AV.one, -forget, F_R12_Check, c_R12_Check, Cfg.v, Cfg.d0, Cfg.d1, Cfg.d2, Cfg.oth, h1, h2, h3, h4, wh, g_pr, g_ph, g_pp, g_pb, g_mr]
       | true =>
        cases i_pb with
        | false => rw [call_L 8 rfl (rfl : P.T f_R12_Check = some F_R12_Check) (le_ok rfl)]; simp -implicitDefEqProofs [-toCells, -AV.one, -forget, F_R12_Check, c_R12_Check, Cfg.v, Cfg.d0, Cfg.d1, Cfg.d2, Cfg.oth, h1, h2, h3, h4, wh, g_pr, g_ph, g_pp, g_pb, g_mr]
        | true =>
         cases i_mr with
         | false => rw [call_L 8 rfl (rfl : P.T f_R12_Check = some F_R12_Check) (le_ok rfl)]; simp -implicitDefEqProofs [-toCells, -AV.one, -forget, F_R12_Check, c_R12_Check, Cfg.v, Cfg.d0, Cfg.d1, Cfg.d2, Cfg.oth, h1, h2, h3, h4, wh, g_pr, g_ph, g_pp, g_pb, g_mr]
         | true =>
          rw [call_L 8 rfl (rfl : P.T f_R12_Check = some F_R12_Check) (le_ok rfl)]; simp -implicitDefEqProofs [-toCells, -AV.one, -forget, F_R12_Check, c_R12_Check, Cfg.v, Cfg.d0, Cfg.d1, Cfg.d2, Cfg.oth, h1, h2, h3, h4, wh, g_pr, g_ph, g_pp, g_pb, g_mr]
theorem chk_d2_16 : callW P f_R12_Check [.agg (Cfg.v ⟨2, 16, wi, re, pr, ph, pp, pb, mr, q⟩)] H = some (ai (cond (Cfg.d2 ⟨2, 16, wi, re, pr, ph, pp, pb, mr, q⟩ 32768) 0 1), H) := by
  have h1 := fun H => rIs12 q 1 20000 H
  have h2 := fun H => rIs12 wi 1 32768 H
  have h3 := fun H => rIs12 re 1 1000 H
  have h4 : ∀ H, callW P f_R02_Size [ai 16] H = some (ai 65536, H) := fun H => rSize02 16 H
  have wh : IntKind.i64.wrap 32768 = 32768 := rfl
  have g_pr := fun H => rIs12 pr 1 1000 H
  have g_ph := fun H => rIs12 ph 0 1000 H
  have g_pp := fun H => rIs12 pp 1 1000 H
  have g_pb := fun H => rIs12 pb 1 20000 H
  have g_mr := fun H => rIs12 mr 1 32 H
  simp only [Cfg.d2]
  generalize inD q 1 20000 = iq at *
  generalize inD wi 1 32768 = iw at *
  generalize inD re 1 1000 = ir at *
  generalize inD pr 1 1000 = i_pr at *
  generalize inD ph 0 1000 = i_ph at *
  generalize inD pp 1 1000 = i_pp at *
  generalize inD pb 1 20000 = i_pb at *
  generalize inD mr 1 32 = i_mr at *
  cases iq with
  | false => rw [call_L 8 rfl (rfl : P.T f_R12_Check = some F_R12_Check) (le_ok rfl)]; simp -implicitDefEqProofs [-toCells, -AV.one, -forget, F_R12_Check, c_R12_Check, Cfg.v, Cfg.d0, Cfg.d1, Cfg.d2, Cfg.oth, h1, h2, h3, h4, wh, g_pr, g_ph, g_pp, g_pb, g_mr]
  | true =>
   cases iw with
   | false => rw [call_L 8 rfl (rfl : P.T f_R12_Check = some F_R12_Check) (le_ok rfl)]; simp -implicitDefEqProofs [-toCells, -AV.one, -forget, F_R12_Check, c_R12_Check, Cfg.v, Cfg.d0, Cfg.d1, Cfg.d2, Cfg.oth, h1, h2, h3, h4, wh, g_pr, g_ph, g_pp, g_pb, g_mr]
   | true =>
    cases ir with
    | false => rw [call_L 8 rfl (rfl : P.T f_R12_Check = some F_R12_Check) (le_ok rfl)]; simp -implicitDefEqProofs [-toCells, -AV.one, -forget, F_R12_Check, c_R12_Check, Cfg.v, Cfg.d0, Cfg.d1, Cfg.d2, Cfg.oth, h1, h2, h3, h4, wh, g_pr, g_ph, g_pp, g_pb, g_mr]
    | true =>
     cases i_pr with
     | false => rw [call_L 8 rfl (rfl : P.T f_R12_Check = some F_R12_Check) (le_ok rfl)]; simp -implicitDefEqProofs [-toCells, -AV.one, -forget, F_R12_Check, c_R12_Check, Cfg.v, Cfg.d0, Cfg.d1, Cfg.d2, Cfg.oth, h1, h2, h3, h4, wh, g_pr, g_ph, g_pp, g_pb, g_mr]
     | true =>
      cases i_ph with
      | false => rw [call_L 8 rfl (rfl : P.T f_R12_Check = some F_R12_Check) (le_ok rfl)]; simp -implicitDefEqProofs [-toCells, -AV.one, -forget, F_R12_Check, c_R12_Check, Cfg.v, Cfg.d0, Cfg.d1, Cfg.d2, Cfg.oth, h1, h2, h3, h4, wh, g_pr, g_ph, g_pp, g_pb, g_mr]
      | true =>
       cases i_pp with
       | false => rw [call_L 8 rfl (rfl : P.T f_R12_Check = some F_R12_Check) (le_ok rfl)]; simp -implicitDefEqProofs [-toCells, -AV.one, -forget, F_R12_Check, c_R12_Check, Cfg.v, Cfg.d0, Cfg.d1, Cfg.d2, Cfg.oth, h1, h2, h3, h4, wh, g_pr, g_ph, g_pp, g_pb, g_mr]
       | true =>
        cases i_pb with
        | false => rw [call_L 8 rfl (rfl : P.T f_R12_Check = some F_R12_Check) (le_ok rfl)]; simp -implicitDefEqProofs [-toCells, -AV.one, -forget, F_R12_Check, c_R12_Check, Cfg.v, Cfg.d0, Cfg.d1, Cfg.d2, Cfg.oth, h1, h2, h3, h4, wh, g_pr, g_ph, g_pp, g_pb, g_mr]
        | true =>
         cases i_mr with
         | false => rw [call_L 8 rfl (rfl : P.T f_R12_Check = some F_R12_Check) (le_ok rfl)]; simp -implicitDefEqProofs [-toCells, -AV.one, -forget, F_R12_Check, c_R12_Check, Cfg.v, Cfg.d0, Cfg.d1, Cfg.d2, Cfg.oth, h1, h2, h3, h4, wh, g_pr, g_ph, g_pp, g_pb, g_mr]
         | true =>
          rw [call_L 8 rfl (rfl : P.T f_R12_Check = some F_R12_Check) (le_ok rfl)]; simp -implicitDefEqProofs [-toCells, -AV.one, -forget, F_R12_Check, c_R12_Check, Cfg.v, Cfg.d0, Cfg.d1, Cfg.d2, Cfg.oth, h1, h2, h3, h4, wh, g_pr, g_ph, g_pp, g_pb, g_mr]
theorem chk_dx_1 (n1 : ¬ bi = 5) (n2 : ¬ bi = 10) : callW P f_R12_Check [.agg (Cfg.v ⟨1, bi, wi, re, pr, ph, pp, pb, mr, q⟩)] H = some (ai 1, H) := by
  have h1 := fun H => rIs12 q 1 20000 H
  have h2 := fun H => rSize02 bi H
  obtain ⟨s, hs⟩ : ∃ t, sz2 bi = t := ⟨_, rfl⟩
  rw [hs] at h2
  obtain ⟨s2, hs2⟩ : ∃ t : Int, IntKind.i64.wrap ((s : Int).tdiv 2) = t := ⟨_, rfl⟩
  clear hs
  generalize inD q 1 20000 = iq at *
  by_cases pr_0 : pr = 0
  case neg =>
   cases iq with
   | false => rw [call_L 8 rfl (rfl : P.T f_R12_Check = some F_R12_Check) (le_ok rfl)]; simp -implicitDefEqProofs [-toCells, -AV.one, -forget, F_R12_Check, c_R12_Check, Cfg.v, Cfg.d0, Cfg.d1, Cfg.d2, Cfg.oth, h1, h2, hs2, n1, n2, pr_0]
   | true =>
    rw [call_L 8 rfl (rfl : P.T f_R12_Check = some F_R12_Check) (le_ok rfl)]; simp -implicitDefEqProofs [-toCells, -AV.one, -forget, F_R12_Check, c_R12_Check, Cfg.v, Cfg.d0, Cfg.d1, Cfg.d2, Cfg.oth, h1, h2, hs2, n1, n2, pr_0]
  subst pr_0
  by_cases ph_0 : ph = 0
  case neg =>
   cases iq with
   | false => rw [call_L 8 rfl (rfl : P.T f_R12_Check = some F_R12_Check) (le_ok rfl)]; simp -implicitDefEqProofs [-toCells, -AV.one, -forget, F_R12_Check, c_R12_Check, Cfg.v, Cfg.d0, Cfg.d1, Cfg.d2, Cfg.oth, h1, h2, hs2, n1, n2, ph_0]
   | true =>
    rw [call_L 8 rfl (rfl : P.T f_R12_Check = some F_R12_Check) (le_ok rfl)]; simp -implicitDefEqProofs [-toCells, -AV.one, -forget, F_R12_Check, c_R12_Check, Cfg.v, Cfg.d0, Cfg.d1, Cfg.d2, Cfg.oth, h1, h2, hs2, n1, n2, ph_0]
  subst ph_0
  by_cases pp_0 : pp = 0
  case neg =>
   cases iq with
   | false => rw [call_L 8 rfl (rfl : P.T f_R12_Check = some F_R12_Check) (le_ok rfl)]; simp -implicitDefEqProofs [-toCells, -AV.one, -forget, F_R12_Check, c_R12_Check, Cfg.v, Cfg.d0, Cfg.d1, Cfg.d2, Cfg.oth, h1, h2, hs2, n1, n2, pp_0]
   | true =>
    rw [call_L 8 rfl (rfl : P.T f_R12_Check = some F_R12_Check) (le_ok rfl)]; simp -implicitDefEqProofs [-toCells, -AV.one, -forget, F_R12_Check, c_R12_Check, Cfg.v, Cfg.d0, Cfg.d1, Cfg.d2, Cfg.oth, h1, h2, hs2, n1, n2, pp_0]
  subst pp_0
  by_cases pb_0 : pb = 0
  case neg =>
   cases iq with
   | false => rw [call_L 8 rfl (rfl : P.T f_R12_Check = some F_R12_Check) (le_ok rfl)]; simp -implicitDefEqProofs [-toCells, -AV.one, -forget, F_R12_Check, c_R12_Check, Cfg.v, Cfg.d0, Cfg.d1, Cfg.d2, Cfg.oth, h1, h2, hs2, n1, n2, pb_0]
   | true =>
    rw [call_L 8 rfl (rfl : P.T f_R12_Check = some F_R12_Check) (le_ok rfl)]; simp -implicitDefEqProofs [-toCells, -AV.one, -forget, F_R12_Check, c_R12_Check, Cfg.v, Cfg.d0, Cfg.d1, Cfg.d2, Cfg.oth, h1, h2, hs2, n1, n2, pb_0]
  subst pb_0
  by_cases mr_0 : mr = 0
  case neg =>
   cases iq with
   | false => rw [call_L 8 rfl (rfl : P.T f_R12_Check = some F_R12_Check) (le_ok rfl)]; simp -implicitDefEqProofs [-toCells, -AV.one, -forget, F_R12_Check, c_R12_Check, Cfg.v, Cfg.d0, Cfg.d1, Cfg.d2, Cfg.oth, h1, h2, hs2, n1, n2, mr_0]
   | true =>
    rw [call_L 8 rfl (rfl : P.T f_R12_Check = some F_R12_Check) (le_ok rfl)]; simp -implicitDefEqProofs [-toCells, -AV.one, -forget, F_R12_Check, c_R12_Check, Cfg.v, Cfg.d0, Cfg.d1, Cfg.d2, Cfg.oth, h1, h2, hs2, n1, n2, mr_0]
  subst mr_0
  cases iq with
  | false => rw [call_L 8 rfl (rfl : P.T f_R12_Check = some F_R12_Check) (le_ok rfl)]; simp -implicitDefEqProofs [-toCells, -AV.one, -forget, F_R12_Check, c_R12_Check, Cfg.v, Cfg.d0, Cfg.d1, Cfg.d2, Cfg.oth, h1, h2, hs2, n1, n2]
  | true =>
   rw [call_L 8 rfl (rfl : P.T f_R12_Check = some F_R12_Check) (le_ok rfl)]; simp -implicitDefEqProofs [-toCells, -AV.one, -forget, F_R12_Check, c_R12_Check, Cfg.v, Cfg.d0, Cfg.d1, Cfg.d2, Cfg.oth, h1, h2, hs2, n1, n2]
theorem chk_dx_2 (n1 : ¬ bi = 10) (n2 : ¬ bi = 16) : callW P f_R12_Check [.agg (Cfg.v ⟨2, bi, wi, re, pr, ph, pp, pb, mr, q⟩)] H = some (ai 1, H) := by
  have h1 := fun H => rIs12 q 1 20000 H
  have h2 := fun H => rSize02 bi H
  obtain ⟨s, hs⟩ : ∃ t, sz2 bi = t := ⟨_, rfl⟩
  rw [hs] at h2
  obtain ⟨s2, hs2⟩ : ∃ t : Int, IntKind.i64.wrap ((s : Int).tdiv 2) = t := ⟨_, rfl⟩
  clear hs
  generalize inD q 1 20000 = iq at *
  cases iq with
  | false => rw [call_L 8 rfl (rfl : P.T f_R12_Check = some F_R12_Check) (le_ok rfl)]; simp -implicitDefEqProofs [-toCells, -AV.one, -forget, F_R12_Check, c_R12_Check, Cfg.v, Cfg.d0, Cfg.d1, Cfg.d2, Cfg.oth, h1, h2, hs2, n1, n2]
  | true =>
   rw [call_L 8 rfl (rfl : P.T f_R12_Check = some F_R12_Check) (le_ok rfl)]; simp -implicitDefEqProofs [-toCells, -AV.one, -forget, F_R12_Check, c_R12_Check, Cfg.v, Cfg.d0, Cfg.d1, Cfg.d2, Cfg.oth, h1, h2, hs2, n1, n2]
end
end Go.A.V.S

namespace Go.A.V.S
open Go Go.A
set_option linter.unusedSimpArgs false
set_option linter.unusedVariables false
theorem all1 {α : Type} (f : α → Bool) (a : α) : [a].all f = f a := by simp
theorem chk_c0 {bi wi re pr ph pp pb mr q : Int} : Cfg.chk ⟨0, bi, wi, re, pr, ph, pp, pb, mr, q⟩ = cond (Cfg.d0 ⟨0, bi, wi, re, pr, ph, pp, pb, mr, q⟩) 0 1 := by
  have h : (Cfg.tm ⟨0, bi, wi, re, pr, ph, pp, pb, mr, q⟩ && [(q, ((1 : Int), (20000 : Int)))].all inn) = Cfg.d0 ⟨0, bi, wi, re, pr, ph, pp, pb, mr, q⟩ := by
    rw [all1, ← inD_inn, Bool.eq_iff_iff]
    simp only [Cfg.tm, Cfg.d0, Cfg.oth, Bool.and_eq_true, decide_eq_true_eq, List.cons.injEq, and_true, true_and]
    constructor
    · rintro ⟨⟨h1, h2, h3, h4, h5, h6, h7, h8⟩, h9⟩; exact ⟨h9, h1, h2, h3, h4, h5, h6, h7, h8⟩
    · rintro ⟨h9, h1, h2, h3, h4, h5, h6, h7, h8⟩; exact ⟨⟨h1, h2, h3, h4, h5, h6, h7, h8⟩, h9⟩
  rw [Cfg.chk, if_pos (.inl rfl)]
  simp only [if_true, h]
  cases Cfg.d0 ⟨0, bi, wi, re, pr, ph, pp, pb, mr, q⟩ <;> rfl
theorem um_plain {bi wi re pr ph pp pb mr q : Int} : Cfg.plainUM ⟨1, bi, wi, re, pr, ph, pp, pb, mr, q⟩ = Cfg.oth ⟨1, bi, wi, re, pr, ph, pp, pb, mr, q⟩ := by
  rw [Bool.eq_iff_iff]
  simp only [Cfg.plainUM, Cfg.oth, Bool.and_eq_true, decide_eq_true_eq, List.cons.injEq, and_true, true_and]
theorem chk_c1 {bi wi re pr ph pp pb mr q : Int} (hb : bi = 5 ∨ bi = 10) : Cfg.chk ⟨1, bi, wi, re, pr, ph, pp, pb, mr, q⟩ = cond (Cfg.d1 ⟨1, bi, wi, re, pr, ph, pp, pb, mr, q⟩ (if bi = 5 then 16 else 512)) 0 1 := by
  have h : (Cfg.um ⟨1, bi, wi, re, pr, ph, pp, pb, mr, q⟩ && [(q, ((1 : Int), (20000 : Int)))].all inn) = Cfg.d1 ⟨1, bi, wi, re, pr, ph, pp, pb, mr, q⟩ (if bi = 5 then 16 else 512) := by
    rw [Cfg.um, um_plain, decide_eq_true hb, Bool.true_and, all1, Cfg.d1]
    simp only [List.all_cons, List.all_nil, Bool.and_true, inD_inn]
    cases inn (q, ((1 : Int), (20000 : Int))) <;> cases inn (wi, ((1 : Int), if bi = 5 then (16 : Int) else 512)) <;> cases inn (re, ((1 : Int), (1000 : Int))) <;> cases Cfg.oth ⟨1, bi, wi, re, pr, ph, pp, pb, mr, q⟩ <;> rfl
  rw [Cfg.chk, if_pos (.inr (.inl rfl))]
  simp only [show ¬ (1 : Int) = 0 by decide, if_false, if_true, h]
  cases Cfg.d1 ⟨1, bi, wi, re, pr, ph, pp, pb, mr, q⟩ (if bi = 5 then 16 else 512) <;> rfl
theorem chk_c2 {bi wi re pr ph pp pb mr q : Int} (hb : bi = 10 ∨ bi = 16) : Cfg.chk ⟨2, bi, wi, re, pr, ph, pp, pb, mr, q⟩ = cond (Cfg.d2 ⟨2, bi, wi, re, pr, ph, pp, pb, mr, q⟩ (if bi = 10 then 512 else 32768)) 0 1 := by
  have h : (Cfg.am ⟨2, bi, wi, re, pr, ph, pp, pb, mr, q⟩ && [(q, ((1 : Int), (20000 : Int)))].all inn) = Cfg.d2 ⟨2, bi, wi, re, pr, ph, pp, pb, mr, q⟩ (if bi = 10 then 512 else 32768) := by
    rw [Cfg.am, decide_eq_true hb, Bool.true_and, all1, Cfg.d2]
    simp only [List.all_cons, List.all_nil, Bool.and_true, inD_inn]
    rw [Bool.and_comm]
  rw [Cfg.chk, if_pos (.inr (.inr rfl))]
  simp only [show ¬ (2 : Int) = 0 by decide, show ¬ (2 : Int) = 1 by decide, if_false, h]
  cases Cfg.d2 ⟨2, bi, wi, re, pr, ph, pp, pb, mr, q⟩ (if bi = 10 then 512 else 32768) <;> rfl
theorem chk_cx {mo bi wi re pr ph pp pb mr q : Int} (h : (mo = 1 ∧ ¬ (bi = 5 ∨ bi = 10)) ∨ (mo = 2 ∧ ¬ (bi = 10 ∨ bi = 16))) : Cfg.chk ⟨mo, bi, wi, re, pr, ph, pp, pb, mr, q⟩ = 1 := by
  rcases h with ⟨rfl, h⟩ | ⟨rfl, h⟩
  · rw [Cfg.chk, if_pos (.inr (.inl rfl))]
    simp only [show ¬ (1 : Int) = 0 by decide, if_false, if_true]
    rw [Cfg.um, decide_eq_false h]; rfl
  · rw [Cfg.chk, if_pos (.inr (.inr rfl))]
    simp only [show ¬ (2 : Int) = 0 by decide, show ¬ (2 : Int) = 1 by decide, if_false]
    rw [Cfg.am, decide_eq_false h]; rfl
end Go.A.V.S

namespace Go.A.V.S
open Go Go.A
set_option linter.unusedSimpArgs false
set_option linter.unusedVariables false
theorem cond_i (b : Bool) : ((cond b 0 1 : Nat) : Int) = cond b 0 1 := by cases b <;> rfl
theorem rCheck (c : Cfg) (H : Heap) : callW P f_R12_Check [.agg c.v] H = some (ai c.chk, H) := by
  obtain ⟨mo, bi, wi, re, pr, ph, pp, pb, mr, q⟩ := c
  by_cases m0 : mo = 0
  · subst m0
    rw [chk_c0, cond_i]; exact chk_d0
  by_cases m1 : mo = 1
  · subst m1
    by_cases h5 : bi = 5
    · subst h5
      rw [chk_c1 (.inl rfl), cond_i]; exact chk_d1_5
    by_cases h10 : bi = 10
    · subst h10
      rw [chk_c1 (.inr rfl), cond_i]; exact chk_d1_10
    rw [chk_cx (.inl ⟨rfl, fun h => h.elim h5 h10⟩)]
    exact chk_dx_1 h5 h10
  by_cases m2 : mo = 2
  · subst m2
    by_cases h5 : bi = 10
    · subst h5
      rw [chk_c2 (.inl rfl), cond_i]; exact chk_d2_10
    by_cases h10 : bi = 16
    · subst h10
      rw [chk_c2 (.inr rfl), cond_i]; exact chk_d2_16
    rw [chk_cx (.inr ⟨rfl, fun h => h.elim h5 h10⟩)]
    exact chk_dx_2 h5 h10
  rw [show Cfg.chk ⟨mo, bi, wi, re, pr, ph, pp, pb, mr, q⟩ = 9 by rw [Cfg.chk, if_neg (by simp only; omega)]]
  have h1 := fun H => rIs12 q 1 20000 H
  have h2 := fun H => rSize02 bi H
  obtain ⟨s, hs⟩ : ∃ t, sz2 bi = t := ⟨_, rfl⟩
  rw [hs] at h2
  generalize inD q 1 20000 = iq at *
  clear hs
  rw [call_L 8 rfl (rfl : P.T f_R12_Check = some F_R12_Check) (le_ok rfl)]; simp -implicitDefEqProofs [-toCells, -AV.one, -forget, F_R12_Check, c_R12_Check, Cfg.v, h1, h2, m0, m1, m2]
end Go.A.V.S
