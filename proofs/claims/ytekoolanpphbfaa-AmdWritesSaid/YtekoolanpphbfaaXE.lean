/- The reference: heads' sizes, widths; bits. -/
import Derived.Test.YtekoolanpphbfaaXB
import Derived.Test.YtekoolanpphbfaaV14
import Derived.Test.YtekoolanpphbfaaXA
import Derived.Test.YtekoolanpphbfaaXC
set_option linter.unusedSimpArgs false
set_option linter.unusedVariables false
set_option linter.unnecessarySimpa false
namespace Go.A.V.S
open Go Go.A
set_option linter.unusedSimpArgs false
set_option linter.unusedVariables false

def bls (l : List Bool) : List (List AV) := l.map fun b => [ab b]
theorem bls_len (l : List Bool) : (bls l).length = l.length := by simp [bls]
theorem bls_snoc (l : List Bool) (b : Bool) : bls (l ++ [b]) = bls l ++ [[ab b]] := by simp [bls]
theorem bls_at {l : List Bool} {i : Nat} {b : Bool} (h : l[i]? = some b) (z : Bool) (f : Option Nat) (k : IntKind) : iaddrW 1 none (lst z 1 f (bls l)) (.c (.int k i)) = some (.vp [ab b] 0) := iaddrW_lst _ _ _ (by simp [bls, h]) k
theorem rHead (part : Bool) (w : Int) (H : Heap) : callW P f_R10_Head [ab part, ai w] H = some (ai (headV part w : Nat), H) := by
  have h2 : IntKind.i64.wrap 4 = 4 := rfl
  have h3 : IntKind.i64.wrap 5 = 5 := rfl
  by_cases h10 : w = 10
  · subst h10
    cases part
    · rw [call_L 5 rfl (rfl : P.T f_R10_Head = some F_R10_Head) (le_ok rfl)]; simp -implicitDefEqProofs [-toCells, -AV.one, -forget, F_R10_Head, c_R10_Head, headV, h2, h3]
    · rw [call_L 5 rfl (rfl : P.T f_R10_Head = some F_R10_Head) (le_ok rfl)]; simp -implicitDefEqProofs [-toCells, -AV.one, -forget, F_R10_Head, c_R10_Head, headV, h2, h3]
  · by_cases h16 : w = 16
    · subst h16
      cases part
      · rw [call_L 5 rfl (rfl : P.T f_R10_Head = some F_R10_Head) (le_ok rfl)]; simp -implicitDefEqProofs [-toCells, -AV.one, -forget, F_R10_Head, c_R10_Head, headV, h2, h3]
      · rw [call_L 5 rfl (rfl : P.T f_R10_Head = some F_R10_Head) (le_ok rfl)]; simp -implicitDefEqProofs [-toCells, -AV.one, -forget, F_R10_Head, c_R10_Head, headV, h2, h3]
    · cases part
      · rw [call_L 5 rfl (rfl : P.T f_R10_Head = some F_R10_Head) (le_ok rfl)]; simp -implicitDefEqProofs [-toCells, -AV.one, -forget, F_R10_Head, c_R10_Head, headV, h10, h16]
      · rw [call_L 5 rfl (rfl : P.T f_R10_Head = some F_R10_Head) (le_ok rfl)]; simp -implicitDefEqProofs [-toCells, -AV.one, -forget, F_R10_Head, c_R10_Head, headV, h10, h16]
theorem rWidths (w : Int) (H : Heap) : callW P f_R10_widths [ai w] H = some (.tup [ai (lenWd w : Nat), ai (offWd w : Nat)], H) := by
  rw [call_L 3 rfl (rfl : P.T f_R10_widths = some F_R10_widths) (le_ok rfl)]; simp -implicitDefEqProofs [-toCells, -AV.one, -forget, F_R10_widths, c_R10_widths, lenWd, offWd]
  split <;> simp_all

section
variable {H : Heap}
def InvB (H : Heap) (va : Bs) (i b : Nat) (z : Nat) (σ : List AV) (G : Heap) : Prop :=
  ∃ (j w : Nat), j + z = 8 ∧ w = 128 / 2 ^ j ∧ G = H ∧ σ = L 32 (((((Tr.full 6).put (path 0) (bv va)).put (path 3) (lst true 1 (some 30) (bls (bitsB (va.2.take i) ++ (bits8 b).take j)))).put (path 4) (ai i)).put (path 5) (au w))
def PostB (H : Heap) (va : Bs) (i b : Nat) (e : AExit) (σ : List AV) (G : Heap) : Prop :=
  e = .exit 2 ∧ G = H ∧ kill [5, 16, 17] σ = L 32 ((((Tr.full 6).put (path 0) (bv va)).put (path 3) (lst true 1 (some 30) (bls (bitsB (va.2.take i) ++ bits8 b)))).put (path 4) (ai i))
def InvO (H : Heap) (va : Bs) (z : Nat) (σ : List AV) (G : Heap) : Prop :=
  ∃ i : Nat, i + z = va.2.length ∧ G = H ∧ σ = L 32 ((((Tr.full 6).put (path 0) (bv va)).put (path 3) (lst true 1 (some 30) (bls (bitsB (va.2.take i))))).put (path 4) (ai i))
def PostO (H : Heap) (va : Bs) (e : AExit) (σ : List AV) (G : Heap) : Prop :=
  e = .exit 0 ∧ G = H ∧ kill [0, 4, 6, 7, 8, 9, 10, 11, 12, 13] σ = L 32 ((Tr.full 6).put (path 3) (lst true 1 (some 30) (bls (bitsB va.2))))
/-! Bits got -/
def InvT (zx : Bool) (x : List Bool) (H : Heap) (a n : Nat) (z : Nat) (σ : List AV) (G : Heap) : Prop :=
  ∃ (k i v : Nat), k + z = n ∧ a + k = i ∧ v = numB x a k ∧ G = H ∧ σ = L 45 ((((((Tr.full 6).put (path 0) (lst zx 1 none (bls x))).put (path 1) (ai a)).put (path 2) (ai n)).put (path 9) (.c (.int .u64 (v : Int)))).put (path 10) (ai i))
def PostT (H : Heap) (x : List Bool) (a n : Nat) (e : AExit) (σ : List AV) (G : Heap) : Prop :=
  e = .exit 0 ∧ G = H ∧ kill [0, 10, 26, 27, 28, 29, 30] σ = L 45 ((((Tr.full 6).put (path 1) (ai a)).put (path 2) (ai n)).put (path 9) (.c (.int .u64 (numB x a n : Nat))))
end
end Go.A.V.S

namespace Go.A.V.S
open Go Go.A
set_option linter.unusedSimpArgs false
set_option linter.unusedVariables false
theorem app1c {m : Md} {d c bytes : Nat} {l : List (List AV)} {v : AV} (hm : m.row (some d) = false) (hb : bytes ≤ 1000) (h : l.length ≤ 100000) (f : Option Nat) :
    ∃ cs, (cs = [d] ∨ cs = [c, d]) ∧ ∀ (σ : List AV) (H : Heap), appW m (some d) 1 bytes (lst true 1 (some c) l) (.vs 1 f [[v]]) σ H = some (lst true 1 (some d) (l ++ [[v]]), σ.map (unfl cs), H) := by
  have h1 : (l.length + 1) * bytes ≤ appBound := by
    have : (l.length + 1) * bytes ≤ 100001 * 1000 := Nat.mul_le_mul (by omega) hb
    simp only [appBound]; omega
  have h2 : l.length + 1 ≤ appBound := by simp only [appBound]; omega
  have hne : lst true 1 (some d) (l ++ [[v]]) = .vs 1 (some d) (l ++ [[v]]) := lst_ne (by simp)
  rcases lst_cases true 1 (some c) l with ⟨_, rfl, e⟩ | ⟨e, h3⟩
  · refine ⟨[d], .inl rfl, fun σ H => ?_⟩
    rw [e, hne]
    simp only [appW, hm, Bool.false_eq_true, if_false, appV, elems_vs, Option.bind_some, List.nil_append]
    rw [if_neg (by simp), if_pos ⟨by simpa using h1, by simpa using h2⟩]
  · refine ⟨[c, d], .inr rfl, fun σ H => ?_⟩
    rw [e, hne, appW_vs (fun H => elems_vs H 1 f [[v]]) h1 h2]
theorem tdivu2 (u : Nat) (h : u < 2 ^ 64) : IntKind.u64.wrap ((u : Int).tdiv 2) = ((u / 2 : Nat) : Int) ∧ IntKind.u64.wrap ((u : Int) / 2) = ((u / 2 : Nat) : Int) ∧ (u : Int).tmod 2 = ((u % 2 : Nat) : Int) ∧ (u : Int) % 2 = ((u % 2 : Nat) : Int) ∧ IntKind.u64.wrap ((u % 2 : Nat) : Int) = ((u % 2 : Nat) : Int) := by
  have e : (u : Int) / 2 = ((u / 2 : Nat) : Int) := by omega
  have e2 : (u : Int) % 2 = ((u % 2 : Nat) : Int) := by omega
  refine ⟨?_, ?_, ?_, e2, wrap_u64 (by omega) (by omega)⟩
  · rw [Int.tdiv_eq_ediv_of_nonneg (by omega), e]; exact wrap_u64 (by omega) (by omega)
  · rw [e]; exact wrap_u64 (by omega) (by omega)
  · rw [Int.tmod_eq_emod_of_nonneg (by omega), e2]
section
variable {H : Heap}
def InvT1 (H : Heap) (v n : Nat) (z : Nat) (σ : List AV) (G : Heap) : Prop :=
  ∃ (i u : Nat), i + z = n ∧ u = v / 2 ^ i ∧ G = H ∧ σ = L 21 ((((Tr.full 5).put (path 0) (.c (.int .u64 u))).put (path 1) (ai n)).put (path 5) (ai i))
def PostT1 (H : Heap) (v n : Nat) (e : AExit) (σ : List AV) (G : Heap) : Prop :=
  G = H ∧ e = .exit 0 ∧ ∃ u : Nat, u = v / 2 ^ n ∧ kill [1, 5, 12, 13, 14] σ = L 21 ((Tr.full 5).put (path 0) (.c (.int .u64 u)))
theorem loopT1 {v n : Nat} (hv : v < 2 ^ 64) (hn : n ≤ 64) (z : Nat) (σ : List AV) (G : Heap) (hI : InvT1 H v n z (kill (headK lp0_R01_fits) σ) G) :
    Ends (execW P f_R01_fits (.loop lp0_R01_fits) σ G) fun s => PostT1 H v n s.e s.σ s.H := by
  refine loop_ends (fun z σ G => InvT1 H v n z σ G) (PostT1 H v n) ?_ z σ G hI
  clear hI z σ G
  rintro z σ G ⟨i, u, hz, hu, rfl, rfl⟩
  have hu64 : u < 2 ^ 64 := by
    have := Nat.div_le_self v (2 ^ i); omega
  by_cases hi : i < n
  · obtain ⟨d1, d2, _⟩ := tdivu2 u hu64
    have hu2 : u / 2 = v / 2 ^ (i + 1) := by rw [hu, Nat.div_div_eq_div_mul, Nat.pow_succ]
    obtain ⟨u2, hu2'⟩ : ∃ t, u / 2 = t := ⟨_, rfl⟩
    rw [hu2'] at d1 d2 hu2
    clear hu
    simp -implicitDefEqProofs (disch := first | omega | (simp; done) | fail) [-toCells, -AV.one, -forget, c_R01_fits, cmp_ilt, cmp_ilf, cmp_ile, cmp_ilg, cmp_ine, cmp_ieq, cmp_nlt, cmp_nlf, cmp_nle, cmp_nlg, cmp_nne, cmp_neq, wrap_i64, wrap_u64, wrap_u8, lp0_R01_fits, d1, d2]
    exact ⟨z - 1, by omega, i + 1, u2, by omega, hu2, rfl, by simp⟩
  · obtain rfl : i = n := by omega
    have hu' : ∃ u' : Nat, u' = v / 2 ^ i ∧ u = u' := ⟨u, hu, rfl⟩
    clear hu
    simp -implicitDefEqProofs (disch := first | omega | (simp; done) | fail) [-toCells, -AV.one, -forget, c_R01_fits, cmp_ilt, cmp_ilf, cmp_ile, cmp_ilg, cmp_ine, cmp_ieq, cmp_nlt, cmp_nlf, cmp_nle, cmp_nlg, cmp_nne, cmp_neq, wrap_i64, wrap_u64, wrap_u8, lp0_R01_fits]
    obtain ⟨u', h1, rfl⟩ := hu'
    exact ⟨rfl, rfl, u, h1, by simp⟩
theorem rFits {v n : Nat} (hv : v < 2 ^ 64) (hn : n ≤ 64) (hvn : v < 2 ^ n) (H : Heap) : callW P f_R01_fits [.c (.int .u64 v), ai n] H = some (ab true, H) := by
  rw [ends_eq]
  have hl := loopT1 (H := H) hv hn n
  refine call_post 5 21 rfl (rfl : P.T f_R01_fits = some F_R01_fits) rfl (le_ok rfl) (fun e σ G => e = .ret ∧ G = H ∧ resultsA F_R01_fits.res σ = some (ab true)) ?_ ?_
  · rintro e σ G ⟨rfl, rfl, h⟩
    exact ⟨rfl, _, h, rfl, by simp⟩
  rw [F_R01_fits]; simp -implicitDefEqProofs (disch := first | omega | (simp; done) | fail) [-toCells, -AV.one, -forget, c_R01_fits, cmp_ilt, cmp_ilf, cmp_ile, cmp_ilg, cmp_ine, cmp_ieq, cmp_nlt, cmp_nlf, cmp_nle, cmp_nlg, cmp_nne, cmp_neq, wrap_i64, wrap_u64, wrap_u8]
  repeat rw [Option.bind_assoc]
  refine Ends.block (P := PostT1 H v n) (hl _ _ ⟨0, v, by omega, by simp, rfl, by simp [lp0_R01_fits]⟩) ?_
  rintro e σ1 G1 ⟨rfl, rfl, u, hu, c⟩
  obtain rfl : u = 0 := by rw [hu]; exact Nat.div_eq_of_lt hvn
  replace c : kill [1, 5, 12, 13, 14] σ1 = L 21 ((Tr.full 5).put (path 0) (.c (.int .u64 0))) := c
  simp -implicitDefEqProofs (disch := first | omega | (simp; done) | fail) [-toCells, -AV.one, -forget, c_R01_fits, cmp_ilt, cmp_ilf, cmp_ile, cmp_ilg, cmp_ine, cmp_ieq, cmp_nlt, cmp_nlf, cmp_nle, cmp_nlg, cmp_nne, cmp_neq, wrap_i64, wrap_u64, wrap_u8, c]
def lowB (v i : Nat) : List Bool := (List.range i).map fun j => decide (v / 2 ^ j % 2 = 1)
theorem lowB_succ (v i : Nat) : lowB v (i + 1) = lowB v i ++ [decide (v / 2 ^ i % 2 = 1)] := by simp [lowB, List.range_succ]
theorem lowB_len (v i : Nat) : (lowB v i).length = i := by simp [lowB]
theorem lowB_at {v i j : Nat} (h : j < i) : (lowB v i)[j]? = some (decide (v / 2 ^ j % 2 = 1)) := by simp [lowB, h]
def InvT2 (H : Heap) (x : AV) (v n : Nat) (z : Nat) (σ : List AV) (G : Heap) : Prop :=
  ∃ (i u : Nat), i + z = n ∧ u = v / 2 ^ i ∧ G = H ∧ σ = L 53 (((((((Tr.full 6).put (path 0) (x)).put (path 1) (.c (.int .u64 u))).put (path 2) (ai n)).put (path 8) (lst true 1 (some 33) (bls (lowB v i)))).put (path 9) (nilS)).put (path 10) (ai i))
def PostT2 (H : Heap) (x : AV) (v n : Nat) (e : AExit) (σ : List AV) (G : Heap) : Prop :=
  G = H ∧ e = .exit 0 ∧ kill [1, 10, 23, 24, 25] σ = L 53 (((((Tr.full 6).put (path 0) (x)).put (path 2) (ai n)).put (path 8) (lst true 1 (some 33) (bls (lowB v n)))).put (path 9) (nilS))
theorem loopT2 {zx : Bool} {x : List Bool} {v n : Nat} (hv : v < 2 ^ 64) (hn : n ≤ 64) (z : Nat) (σ : List AV) (G : Heap) (hI : InvT2 H (lst zx 1 none (bls x)) v n z (kill (headK lp0_R01_Put) σ) G) :
    Ends (execW P f_R01_Put (.loop lp0_R01_Put) σ G) fun s => PostT2 H (lst zx 1 none (bls x)) v n s.e s.σ s.H := by
  refine loop_ends (fun z σ G => InvT2 H (lst zx 1 none (bls x)) v n z σ G) (PostT2 H (lst zx 1 none (bls x)) v n) ?_ z σ G hI
  clear hI z σ G
  rintro z σ G ⟨i, u, hz, hu, rfl, rfl⟩
  have hu64 : u < 2 ^ 64 := by
    have := Nat.div_le_self v (2 ^ i); omega
  by_cases hi : i < n
  · obtain ⟨d1, d2, d3, d4, d5⟩ := tdivu2 u hu64
    have hu2 : u / 2 = v / 2 ^ (i + 1) := by rw [hu, Nat.div_div_eq_div_mul, Nat.pow_succ]
    have hsn := lowB_succ v i
    rw [← hu] at hsn
    obtain ⟨u2, hu2'⟩ : ∃ t, u / 2 = t := ⟨_, rfl⟩
    rw [hu2'] at d1 d2 hu2
    obtain ⟨r, hr⟩ : ∃ t, u % 2 = t := ⟨_, rfl⟩
    rw [hr] at d3 d4 d5 hsn
    have hd : decide ((r : Int) = 1) = decide (r = 1) := decide_eq_decide.2 (by omega)
    clear hu
    have hap := fun σ H => app1 (m := P.md f_R01_Put) (d := 33) (bytes := 1) (v := ab (decide (r = 1))) (R_R01_Put 33) (by omega) (by rw [bls_len, lowB_len]; omega) (l := bls (lowB v i)) (some 32) σ H
    rw [← bls_snoc, ← hsn] at hap
    generalize bls (lowB v i) = L0 at *
    have hres : ∀ σ, σ = L 53 (((((((Tr.full 6).put (path 0) (lst zx 1 none (bls x))).put (path 1) (.c (.int .u64 u2))).put (path 2) (ai n)).put (path 8) (lst true 1 (some 33) (bls (lowB v (i + 1))))).put (path 9) (nilS)).put (path 10) (ai (i + 1 : Nat))) → ∃ m, m < z ∧ InvT2 G (lst zx 1 none (bls x)) v n m σ G := fun σ e => ⟨z - 1, by omega, i + 1, u2, by omega, hu2, rfl, e⟩
    generalize bls (lowB v (i + 1)) = L1 at *
    simp -implicitDefEqProofs (disch := first | omega | (simp; done) | fail) [-toCells, -AV.one, -forget, c_R01_Put, cmp_ilt, cmp_ilf, cmp_ile, cmp_ilg, cmp_ine, cmp_ieq, cmp_nlt, cmp_nlf, cmp_nle, cmp_nlg, cmp_nne, cmp_neq, wrap_i64, wrap_u64, wrap_u8, lp0_R01_Put, d1, d2, d3, d4, d5, hd, hap]
    exact hres _ (by simp)
  · obtain rfl : i = n := by omega
    clear hu
    simp -implicitDefEqProofs (disch := first | omega | (simp; done) | fail) [-toCells, -AV.one, -forget, c_R01_Put, cmp_ilt, cmp_ilf, cmp_ile, cmp_ilg, cmp_ine, cmp_ieq, cmp_nlt, cmp_nlf, cmp_nle, cmp_nlg, cmp_nne, cmp_neq, wrap_i64, wrap_u64, wrap_u8, lp0_R01_Put]
    exact ⟨rfl, rfl, by simp⟩
def InvT3 (H : Heap) (x : List Bool) (v n : Nat) (z : Nat) (σ : List AV) (G : Heap) : Prop :=
  ∃ (c : Nat) (i : Int), (c = 38 ∨ c = 51) ∧ i = (z : Int) - 1 ∧ z ≤ n ∧ G = H ∧ σ = L 53 ((((Tr.full 6).put (path 8) (lst true 1 (some 33) (bls (lowB v n)))).put (path 9) (lst true 1 (some c) (bls (x ++ (bitsOf v n).take (n - z))))).put (path 11) (ai i))
def PostT3 (H : Heap) (x : List Bool) (v n : Nat) (e : AExit) (σ : List AV) (G : Heap) : Prop :=
  G = H ∧ e = .exit 2 ∧ ∃ c, kill [8, 11, 41, 42] σ = L 53 ((Tr.full 6).put (path 9) (lst true 1 (some c) (bls (x ++ bitsOf v n))))
theorem loopT3 {x : List Bool} {v n : Nat} (hx : x.length ≤ 65536) (hn : n ≤ 64) (z : Nat) (σ : List AV) (G : Heap) (hI : InvT3 H x v n z (kill (headK lp1_R01_Put) σ) G) :
    Ends (execW P f_R01_Put (.loop lp1_R01_Put) σ G) fun s => PostT3 H x v n s.e s.σ s.H := by
  refine loop_ends (fun z σ G => InvT3 H x v n z σ G) (PostT3 H x v n) ?_ z σ G hI
  clear hI z σ G
  rintro z σ G ⟨c, i, hc, hi, hz, rfl, rfl⟩
  cases z with
  | succ z =>
    obtain rfl : i = (z : Int) := by omega
    have q1 := bls_at (lowB_at (v := v) (i := n) (j := z) (by omega)) true (some 33) .i64
    have hsn := bitsOf_take (v := v) (n := n) (i := z) (by omega)
    obtain ⟨cs, hcs, hap⟩ := app1c (m := P.md f_R01_Put) (d := 51) (c := c) (bytes := 1) (v := ab (decide (v / 2 ^ z % 2 = 1))) (R_R01_Put 51) (by omega) (by rw [bls_len, List.length_append, List.length_take, bitsOf_len]; omega) (l := bls (x ++ (bitsOf v n).take (n - (z + 1)))) (some 50)
    rw [← bls_snoc, List.append_assoc, ← hsn] at hap
    obtain ⟨b, hb⟩ : ∃ t, decide (v / 2 ^ z % 2 = 1) = t := ⟨_, rfl⟩
    rw [hb] at hap q1
    generalize bls (x ++ (bitsOf v n).take (n - (z + 1))) = L0 at *
    have hres : ∀ σ, σ = L 53 ((((Tr.full 6).put (path 8) (lst true 1 (some 33) (bls (lowB v n)))).put (path 9) (lst true 1 (some 51) (bls (x ++ (bitsOf v n).take (n - z))))).put (path 11) (ai ((z : Int) - 1))) → ∃ m, m < z + 1 ∧ InvT3 G x v n m σ G := fun σ e => ⟨z, by omega, 51, (z : Int) - 1, .inr rfl, rfl, by omega, rfl, e⟩
    generalize bls (x ++ (bitsOf v n).take (n - z)) = L1 at *
    generalize bls (lowB v n) = L2 at *
    rcases hcs with rfl | rfl
    · simp -implicitDefEqProofs (disch := first | omega | (simp; done) | fail) [-toCells, -AV.one, -forget, c_R01_Put, cmp_ilt, cmp_ilf, cmp_ile, cmp_ilg, cmp_ine, cmp_ieq, cmp_nlt, cmp_nlf, cmp_nle, cmp_nlg, cmp_nne, cmp_neq, wrap_i64, wrap_u64, wrap_u8, lp1_R01_Put, q1, hap]
      exact hres _ (by simp)
    · rcases hc with rfl | rfl
      · simp -implicitDefEqProofs (disch := first | omega | (simp; done) | fail) [-toCells, -AV.one, -forget, c_R01_Put, cmp_ilt, cmp_ilf, cmp_ile, cmp_ilg, cmp_ine, cmp_ieq, cmp_nlt, cmp_nlf, cmp_nle, cmp_nlg, cmp_nne, cmp_neq, wrap_i64, wrap_u64, wrap_u8, lp1_R01_Put, q1, hap]
        exact hres _ (by simp)
      · simp -implicitDefEqProofs (disch := first | omega | (simp; done) | fail) [-toCells, -AV.one, -forget, c_R01_Put, cmp_ilt, cmp_ilf, cmp_ile, cmp_ilg, cmp_ine, cmp_ieq, cmp_nlt, cmp_nlf, cmp_nle, cmp_nlg, cmp_nne, cmp_neq, wrap_i64, wrap_u64, wrap_u8, lp1_R01_Put, q1, hap]
        exact hres _ (by simp)
  | zero =>
    obtain rfl : i = -1 := by omega
    have ht : (bitsOf v n).take (n - 0) = bitsOf v n := List.take_of_length_le (by rw [bitsOf_len]; omega)
    rw [ht]
    simp -implicitDefEqProofs (disch := first | omega | (simp; done) | fail) [-toCells, -AV.one, -forget, c_R01_Put, cmp_ilt, cmp_ilf, cmp_ile, cmp_ilg, cmp_ine, cmp_ieq, cmp_nlt, cmp_nlf, cmp_nle, cmp_nlg, cmp_nne, cmp_neq, wrap_i64, wrap_u64, wrap_u8, lp1_R01_Put]
    exact ⟨rfl, rfl, c, by simp⟩
theorem rPut {zx : Bool} {x : List Bool} (hx : x.length ≤ 60000) {v n : Nat} (hn : n ≤ 63) (hvn : v < 2 ^ n) (H : Heap) :
    callW P f_R01_Put [lst zx 1 none (bls x), .c (.int .u64 v), ai n] H = some (.tup [lst true 1 (some 0) (bls (x ++ bitsOf v n)), ai 0], H) := by
  have hv : v < 2 ^ 64 := Nat.lt_of_lt_of_le hvn (Nat.pow_le_pow_right (by omega) (by omega))
  have hf := fun H => rFits (H := H) hv (by omega : n ≤ 64) hvn
  rw [ends_eq]
  have hl := loopT2 (H := H) (zx := zx) (x := x) hv (by omega : n ≤ 64) n
  have hl2 := loopT3 (H := H) (x := x) (v := v) (n := n) (by omega) (by omega) n
  have hbl := bls_len x
  have hap := fun σ H => appW_lst (m := P.md f_R01_Put) (d := 38) (bytes := 1) (sz := 1) (l := []) (l' := bls x) (x := lst zx 1 none (bls x)) (R_R01_Put 38) (fun H => Go.A.V.elems_lst H zx 1 none _) (by simp [bls_len, appBound]; omega) (by simp [bls_len, appBound]; omega) σ H
  rw [lst_nil, List.nil_append] at hap
  refine call_post 6 53 rfl (rfl : P.T f_R01_Put = some F_R01_Put) rfl (le_ok rfl) (fun e σ G => e = .ret ∧ G = H ∧ ∃ c, resultsA F_R01_Put.res σ = some (.tup [lst true 1 (some c) (bls (x ++ bitsOf v n)), ai 0])) ?_ ?_
  · rintro e σ G ⟨rfl, rfl, c, h⟩
    exact ⟨rfl, _, h, by simp, by simp⟩
  rw [F_R01_Put]; simp -implicitDefEqProofs (disch := first | omega | (simp; done) | fail) [-toCells, -AV.one, -forget, c_R01_Put, cmp_ilt, cmp_ilf, cmp_ile, cmp_ilg, cmp_ine, cmp_ieq, cmp_nlt, cmp_nlf, cmp_nle, cmp_nlg, cmp_nne, cmp_neq, wrap_i64, wrap_u64, wrap_u8, hf, hbl]
  repeat rw [Option.bind_assoc]
  refine Ends.block (P := PostT2 H (lst zx 1 none (bls x)) v n) (hl _ _ ⟨0, v, by omega, by simp, rfl, by simp [lp0_R01_Put, lowB, bls]⟩) ?_
  rintro e σ1 G1 ⟨rfl, rfl, c⟩
  obtain ⟨L2, hL2⟩ : ∃ t, bls (lowB v n) = t := ⟨_, rfl⟩
  rw [hL2] at c
  obtain ⟨L1, hL1⟩ : ∃ t, bls x = t := ⟨_, rfl⟩
  rw [hL1] at c hap
  simp -implicitDefEqProofs (disch := first | omega | (simp; done) | fail) [-toCells, -AV.one, -forget, c_R01_Put, cmp_ilt, cmp_ilf, cmp_ile, cmp_ilg, cmp_ine, cmp_ieq, cmp_nlt, cmp_nlf, cmp_nle, cmp_nlg, cmp_nne, cmp_neq, wrap_i64, wrap_u64, wrap_u8, c, hap]
  repeat rw [Option.bind_assoc]
  refine Ends.block (P := PostT3 G1 x v n) (hl2 _ _ ⟨38, (n : Int) - 1, .inl rfl, rfl, by omega, rfl, by simp [lp1_R01_Put, hL2, hL1]⟩) ?_
  rintro e σ1 G1 ⟨rfl, rfl, cc, c⟩
  generalize bls (x ++ bitsOf v n) = L0 at *
  simp -implicitDefEqProofs (disch := first | omega | (simp; done) | fail) [-toCells, -AV.one, -forget, c_R01_Put, cmp_ilt, cmp_ilf, cmp_ile, cmp_ilg, cmp_ine, cmp_ieq, cmp_nlt, cmp_nlf, cmp_nle, cmp_nlg, cmp_nne, cmp_neq, wrap_i64, wrap_u64, wrap_u8, c]
  exact ⟨cc, rfl⟩
end
end Go.A.V.S

namespace Go.A.V.S
open Go Go.A
set_option linter.unusedSimpArgs false
set_option linter.unusedVariables false
theorem bits8_num : ∀ l : List Bool, l.length = 8 → bits8 (num l) = l := by
  intro l h
  match l, h with
  | [a, b, c, d, e, f, g, x], _ => revert a b c d e f g x; decide
def padB (l : List Bool) : List Bool := l ++ List.replicate (8 * ((l.length + 7) / 8) - l.length) false
theorem padB_len (l : List Bool) : (padB l).length = 8 * ((l.length + 7) / 8) := by simp [padB]; omega
theorem padB_at {l : List Bool} {j : Nat} (h : j < 8 * ((l.length + 7) / 8)) : (padB l)[j]? = some (if h : j < l.length then l[j] else false) := by
  rw [padB]
  by_cases c : j < l.length
  · rw [List.getElem?_append_left c, List.getElem?_eq_getElem c, dif_pos c]
  · rw [List.getElem?_append_right (by omega), List.getElem?_replicate, if_pos (by omega), dif_neg c]
/-! ### A row that grows -/
def bys (o : List Nat) : List AV := o.map fun b => au b
theorem bys_len (o : List Nat) : (bys o).length = o.length := by simp [bys]
theorem bys_app (a b : List Nat) : bys (a ++ b) = bys a ++ bys b := by simp [bys]
def rw0 (r n : Nat) : AV := .sl r 0 n n 1 n false
def bval (r m : Nat) : AV := if m = 0 then nilS else rw0 r m
theorem bval_ev (n r m : Nat) : ev1 n (bval r m) = bval r m := by unfold bval; split <;> rfl
theorem bval_box (r m : Nat) : (bval r m).isBox = false := by unfold bval; split <;> rfl
theorem bval_free (r m : Nat) : (bval r m).free = true := by unfold bval; split <;> rfl
theorem bval_one (r m : Nat) : (bval r m).one = true := by unfold bval; split <;> rfl
theorem bval_cells (r m : Nat) : toCells (bval r m) = [bval r m] := by unfold bval; split <;> rfl
theorem bval_unfl (cs : List Nat) (r m : Nat) : unfl cs (bval r m) = bval r m := by unfold bval; split <;> rfl
theorem bval_forget (n r m : Nat) : forget n (bval r m) = bval r m := by unfold bval; split <;> rfl
theorem bval_pln (r m : Nat) : pln (bval r m) = bval r m := by unfold bval; split <;> rfl
theorem bval_norm (r m : Nat) : norm (bval r m) = bval r m := by unfold bval; split <;> rfl
theorem bval_len (r m : Nat) : lenW (bval r m) = some m := by
  unfold bval
  split
  · rename_i h; rw [h]; rfl
  · rfl
theorem bval_recol (d : Option Nat) (r m : Nat) (σ : List AV) (H : Heap) (h : m ≠ 0) : recol d (bval r m) σ H = (bval r m, σ, H) := by
  rw [bval, if_neg h]; cases d <;> rfl
attribute [simp] bval_ev bval_box bval_free bval_one bval_cells bval_unfl bval_forget bval_pln bval_norm bval_len
theorem byteCs_flat' (l : List Nat) : (byteCs l).flatten = bys l := by
  induction l with
  | nil => rfl
  | cons a r ih =>
    have : byteCs (a :: r) = [au a] :: byteCs r := rfl
    rw [this, List.flatten_cons, ih]; rfl
/-- The heap with a row of bytes at its end. -/
def BH (H : Heap) (o : List Nat) : Heap := if o = [] then H else H ++ [.grow (bys o) 0]
theorem app_bh {m : Md} (hm : m.wr = true) {d : Nat} (hr : m.row (some d) = true) {H : Heap} {o l : List Nat} {x : AV} (hx : ∀ H, elems H 1 x = some (byteCs l)) (hl : o.length + l.length ≤ 1000000) (σ : List AV) :
    appW m (some d) 1 1 (bval H.length o.length) x σ (BH H o) = some (bval H.length (o ++ l).length, σ, BH H (o ++ l)) := by
  by_cases h0 : o = []
  · subst h0
    by_cases h1 : l = []
    · subst h1
      simp only [bval, BH, appW, hr, hx, if_true, Option.bind_some, List.length_nil, byteCs, List.map_nil, List.append_nil]
    · have hne : ¬ byteCs l = [] := by simpa [byteCs] using h1
      have hl0 : l.length ≠ 0 := fun e => h1 (List.length_eq_zero_iff.1 e)
      simp only [List.length_nil] at hl
      simp only [bval, BH, appW, hr, hx, if_true, Option.bind_some, List.length_nil, List.nil_append, h1, if_false, hne, hl0]
      rw [if_pos ⟨by rw [byteCs_len]; simp only [appBound]; omega, by rw [byteCs_len]; simp only [appBound]; omega⟩, byteCs_flat', byteCs_len, Nat.mul_one]
      rfl
  · have ho0 : o.length ≠ 0 := fun e => h0 (List.length_eq_zero_iff.1 e)
    have hol : (o ++ l).length ≠ 0 := by rw [List.length_append]; omega
    have hol' : o ++ l ≠ [] := fun e => hol (by rw [e]; rfl)
    have hget : (H ++ [AObj.grow (bys o) 0])[H.length]? = some (.grow (bys o) 0) := by simp
    simp only [bval, BH, h0, ho0, hol, hol', if_false, rw0]
    by_cases h1 : l = []
    · subst h1
      have : byteCs ([] : List Nat) = [] := rfl
      simp only [appW, hm, if_true, hx, Option.bind_some, this, List.append_nil]
      rw [if_pos (Nat.le_refl _)]
    · have hne : ¬ byteCs l = [] := by simpa [byteCs] using h1
      simp only [appW, hm, if_true, hx, Option.bind_some, hne, if_false]
      rw [if_pos (by simp [ho0, byteCs_len, appBound]; omega), hget]
      simp only [AObj.isW, AObj.cells, AObj.lo, bys_len, true_and, if_true]
      rw [byteCs_flat', ← bys_app, byteCs_len, List.length_append, Nat.mul_one]
      simp
theorem frz_bh (H : Heap) (o : List Nat) : frz H.length (BH H o) (bval H.length o.length) = some (lst true 1 none (byteCs o)) := by
  by_cases h0 : o = []
  · subst h0
    simp [bval, byteCs]
  · have ho0 : o.length ≠ 0 := fun e => h0 (List.length_eq_zero_iff.1 e)
    have hne : byteCs o ≠ [] := by simpa [byteCs] using h0
    have hget : (H ++ [AObj.grow (bys o) 0])[H.length]? = some (.grow (bys o) 0) := by simp
    have hrd : rdRow0 (H ++ [AObj.grow (bys o) 0]) H.length 0 (o.length * 1) o.length = some (bys o) := by
      rw [rdRow0, if_neg (by omega), rdRow, hget]
      simp only [AObj.isRow, AObj.lo, AObj.cells, bys_len]
      rw [if_pos ⟨trivial, by omega, by omega, by omega⟩, List.drop_zero, List.take_of_length_le (by rw [bys_len]; omega)]
    have hok : (bys o).all okCell = true := by
      refine List.all_eq_true.2 fun x hx => ?_
      obtain ⟨b, _, rfl⟩ := List.mem_map.1 hx
      rfl
    have hch : ∀ l : List Nat, chunk 1 l.length (bys l) = byteCs l := by
      intro l
      induction l with
      | nil => rfl
      | cons x r ih =>
        have e1 : bys (x :: r) = au x :: bys r := rfl
        have e2 : byteCs (x :: r) = [au x] :: byteCs r := rfl
        rw [e1, e2, List.length_cons, chunk, List.take_succ_cons, List.take_zero, List.drop_succ_cons, List.drop_zero, ih]
    simp only [bval, BH, h0, ho0, if_false, rw0, frz]
    rw [if_neg (by omega), if_neg (by omega), hrd, Option.bind_some, if_pos hok, hch, lst_ne hne]
theorem oth_bh (H : Heap) (o : List Nat) : ∃ k, List.take H.length (BH H o) ++ List.replicate ((BH H o).length - H.length) AObj.other = H ++ List.replicate k .other := by
  refine ⟨(BH H o).length - H.length, ?_⟩
  congr 1
  unfold BH
  split <;> simp
theorem norm_sl (r o l c s g : Nat) (e : Bool) : norm (.sl r o l c s g e) = .sl r o l c s g e := rfl
attribute [simp] norm_sl
section
variable {H : Heap}
def InvB1 (H : Heap) (r : Nat) (x : AV) (l : List Bool) (m : Nat) (z : Nat) (σ : List AV) (G : Heap) : Prop :=
  ∃ (k v : Nat), k + z = 8 ∧ v = num (((padB l).drop (8 * m)).take k) ∧ v < 2 ^ k ∧ G = H ∧ σ = L 40 ((((((Tr.full 6).put (path 0) (x)).put (path 3) (bval r m)).put (path 4) (ai (8 * (m : Int)))).put (path 5) (.c (.int .u8 v))).put (path 6) (ai k))
def PostB1 (H : Heap) (r : Nat) (x : AV) (l : List Bool) (m : Nat) (e : AExit) (σ : List AV) (G : Heap) : Prop :=
  G = H ∧ e = .exit 2 ∧ ∃ v : Nat, v = num (((padB l).drop (8 * m)).take 8) ∧ v < 256 ∧ kill [6, 13, 14] σ = L 40 (((((Tr.full 6).put (path 0) (x)).put (path 3) (bval r m)).put (path 4) (ai (8 * (m : Int)))).put (path 5) (.c (.int .u8 v)))
theorem loopB1 {zx : Bool} {l : List Bool} (hl : l.length ≤ 65536) {m : Nat} (hm : m < (l.length + 7) / 8) (r : Nat) (z : Nat) (σ : List AV) (G : Heap) (hI : InvB1 H r (lst zx 1 none (bls l)) l m z (kill (headK lp0_R01_Bytes) σ) G) :
    Ends (execW P f_R01_Bytes (.loop lp0_R01_Bytes) σ G) fun s => PostB1 H r (lst zx 1 none (bls l)) l m s.e s.σ s.H := by
  refine loop_ends (fun z σ G => InvB1 H r (lst zx 1 none (bls l)) l m z σ G) (PostB1 H r (lst zx 1 none (bls l)) l m) ?_ z σ G hI
  clear hI z σ G
  rintro z σ G ⟨k, v, hk, hv, hv2, rfl, rfl⟩
  have hbl := bls_len l
  by_cases hk8 : k < 8
  · have hv128 : v < 128 := Nat.lt_of_lt_of_le hv2 (by
      have : (2 : Nat) ^ k ≤ 2 ^ 7 := Nat.pow_le_pow_right (by omega) (by omega)
      omega)
    have hat := padB_at (l := l) (j := 8 * m + k) (by omega)
    have hnext : ((padB l).drop (8 * m)).take (k + 1) = ((padB l).drop (8 * m)).take k ++ [if h : 8 * m + k < l.length then l[8 * m + k] else false] := by
      rw [List.take_add_one, List.getElem?_drop, hat]; rfl
    have hnum : num (((padB l).drop (8 * m)).take (k + 1)) = 2 * v + (if h : 8 * m + k < l.length then l[8 * m + k] else false).toNat := by rw [hnext, num_snoc, ← hv]
    clear hnext hat hv
    have hp2 : 2 ^ (k + 1) = 2 * 2 ^ k := by rw [Nat.pow_succ]; omega
    have hres : ∀ (v' : Nat) σ, v' = num (((padB l).drop (8 * m)).take (k + 1)) → v' ≤ 2 * v + 1 → σ = L 40 ((((((Tr.full 6).put (path 0) (lst zx 1 none (bls l))).put (path 3) (bval r m)).put (path 4) (ai (8 * (m : Int)))).put (path 5) (.c (.int .u8 v'))).put (path 6) (ai (k + 1 : Nat))) → ∃ m', m' < z ∧ InvB1 G r (lst zx 1 none (bls l)) l m m' σ G := fun v' σ e1 e2 e3 => ⟨z - 1, by omega, k + 1, v', by omega, e1, by omega, rfl, e3⟩
    clear hv2 hp2
    by_cases c : 8 * m + k < l.length
    · rw [dif_pos c] at hnum
      obtain ⟨b, hb⟩ : ∃ t, l[8 * m + k] = t := ⟨_, rfl⟩
      have q1 := bls_at (show l[8 * m + k]? = some b by rw [List.getElem?_eq_getElem c, hb]) zx none .i64
      have ecast : (((8 * m + k : Nat)) : Int) = 8 * (m : Int) + k := by omega
      rw [ecast] at q1
      rw [hb] at hnum
      cases b with
      | true =>
        simp -implicitDefEqProofs (disch := first | omega | (simp; done) | fail) [-toCells, -AV.one, -forget, c_R01_Bytes, cmp_ilt, cmp_ilf, cmp_ile, cmp_ilg, cmp_ine, cmp_ieq, cmp_nlt, cmp_nlf, cmp_nle, cmp_nlg, cmp_nne, cmp_neq, wrap_i64, wrap_u64, wrap_u8, lp0_R01_Bytes, hbl, q1]
        exact hres (2 * v + 1) _ (by rw [hnum]; rfl) (by omega) (by simp)
      | false =>
        simp -implicitDefEqProofs (disch := first | omega | (simp; done) | fail) [-toCells, -AV.one, -forget, c_R01_Bytes, cmp_ilt, cmp_ilf, cmp_ile, cmp_ilg, cmp_ine, cmp_ieq, cmp_nlt, cmp_nlf, cmp_nle, cmp_nlg, cmp_nne, cmp_neq, wrap_i64, wrap_u64, wrap_u8, lp0_R01_Bytes, hbl, q1]
        exact hres (2 * v) _ (by rw [hnum]; rfl) (by omega) (by simp)
    · rw [dif_neg c] at hnum
      simp -implicitDefEqProofs (disch := first | omega | (simp; done) | fail) [-toCells, -AV.one, -forget, c_R01_Bytes, cmp_ilt, cmp_ilf, cmp_ile, cmp_ilg, cmp_ine, cmp_ieq, cmp_nlt, cmp_nlf, cmp_nle, cmp_nlg, cmp_nne, cmp_neq, wrap_i64, wrap_u64, wrap_u8, lp0_R01_Bytes, hbl]
      exact hres (2 * v) _ (by rw [hnum]; rfl) (by omega) (by simp)
  · obtain rfl : k = 8 := by omega
    have hx : ∃ v' : Nat, v' = num (((padB l).drop (8 * m)).take 8) ∧ v' < 256 ∧ v = v' := ⟨v, hv, by simpa using hv2, rfl⟩
    clear hv hv2
    simp -implicitDefEqProofs (disch := first | omega | (simp; done) | fail) [-toCells, -AV.one, -forget, c_R01_Bytes, cmp_ilt, cmp_ilf, cmp_ile, cmp_ilg, cmp_ine, cmp_ieq, cmp_nlt, cmp_nlf, cmp_nle, cmp_nlg, cmp_nne, cmp_neq, wrap_i64, wrap_u64, wrap_u8, lp0_R01_Bytes]
    obtain ⟨v', h1, h2, rfl⟩ := hx
    exact ⟨rfl, rfl, v, h1, h2, by simp⟩
def InvB2 (H : Heap) (x : AV) (l : List Bool) (z : Nat) (σ : List AV) (G : Heap) : Prop :=
  ∃ (m : Nat) (o : List Nat), m + z = (l.length + 7) / 8 ∧ o.length = m ∧ Bytes o ∧ bitsB o = (padB l).take (8 * m) ∧ G = BH H o ∧ σ = L 40 ((((Tr.full 6).put (path 0) (x)).put (path 3) (bval H.length m)).put (path 4) (ai (8 * (m : Int))))
def PostB2 (H : Heap) (l : List Bool) (e : AExit) (σ : List AV) (G : Heap) : Prop :=
  e = .exit 0 ∧ ∃ o, PackR l o ∧ G = BH H o ∧ kill [0, 4, 7, 8, 9, 10] σ = L 40 ((Tr.full 6).put (path 3) (bval H.length o.length))
theorem loopB2 {zx : Bool} {l : List Bool} (hl : l.length ≤ 65536) (z : Nat) (σ : List AV) (G : Heap) (hI : InvB2 H (lst zx 1 none (bls l)) l z (kill (headK lp1_R01_Bytes) σ) G) :
    Ends (execW P f_R01_Bytes (.loop lp1_R01_Bytes) σ G) fun s => PostB2 H l s.e s.σ s.H := by
  refine loop_ends (fun z σ G => InvB2 H (lst zx 1 none (bls l)) l z σ G) (PostB2 H l) ?_ z σ G hI
  clear hI z σ G
  rintro z σ G ⟨m, o, hm, ho, hb, hbits, rfl, rfl⟩
  have hbl := bls_len l
  by_cases hlt : m < (l.length + 7) / 8
  · have hin := loopB1 (H := BH H o) (zx := zx) hl hlt H.length 8
    have hap := fun (v : Nat) (f : Option Nat) σ => app_bh (m := P.md f_R01_Bytes) rfl (d := 38) (R_R01_Bytes 38) (H := H) (o := o) (l := [v]) (x := .vs 1 f [[.c (.int .u8 v)]]) (fun H => elems_vs H 1 f _) (by simp; omega) σ
    have hol : ∀ v : Nat, (o ++ [v]).length = m + 1 := fun v => by simp [ho]
    simp only [hol, ho] at hap
    obtain ⟨G0, hG0⟩ : ∃ t, BH H o = t := ⟨_, rfl⟩
    rw [hG0] at hin hap ⊢
    simp -implicitDefEqProofs (disch := first | omega | (simp; done) | fail) [-toCells, -AV.one, -forget, c_R01_Bytes, cmp_ilt, cmp_ilf, cmp_ile, cmp_ilg, cmp_ine, cmp_ieq, cmp_nlt, cmp_nlf, cmp_nle, cmp_nlg, cmp_nne, cmp_neq, wrap_i64, wrap_u64, wrap_u8, lp1_R01_Bytes, hbl]
    repeat rw [Option.bind_assoc]
    refine Ends.block (P := PostB1 G0 H.length (lst zx 1 none (bls l)) l m) (hin _ _ ⟨0, 0, by omega, by simp [num], by simp, rfl, by simp [lp0_R01_Bytes]⟩) ?_
    rintro e σ1 G1 ⟨rfl, rfl, v, hv, hv2, c⟩
    have hres : ∀ σ, σ = L 40 ((((Tr.full 6).put (path 0) (lst zx 1 none (bls l))).put (path 3) (bval H.length (m + 1))).put (path 4) (ai (8 * ((m + 1 : Nat) : Int)))) → ∃ m', m' < z ∧ InvB2 H (lst zx 1 none (bls l)) l m' σ (BH H (o ++ [v])) := fun σ e => ⟨z - 1, by omega, m + 1, o ++ [v], by omega, by simp [ho], fun b hb' => by
        rcases List.mem_append.1 hb' with h | h
        · exact hb b h
        · simp at h; omega, by
        have h8 : (((padB l).drop (8 * m)).take 8).length = 8 := by rw [List.length_take, List.length_drop, padB_len]; omega
        have : bitsB (o ++ [v]) = bitsB o ++ bits8 v := by simp [bitsB]
        rw [this, hbits, hv, bits8_num _ h8, ← List.take_add, show 8 * m + 8 = 8 * (m + 1) by omega], rfl, e⟩
    clear hv hbits
    have hap' := hap v
    obtain ⟨G2, hG2⟩ : ∃ t, BH H (o ++ [v]) = t := ⟨_, rfl⟩
    rw [hG2] at hap' hres
    obtain ⟨b1, hb1⟩ : ∃ t, bval H.length (m + 1) = t := ⟨_, rfl⟩
    simp -implicitDefEqProofs (disch := first | omega | (simp; done) | fail) [-toCells, -AV.one, -forget, c_R01_Bytes, cmp_ilt, cmp_ilf, cmp_ile, cmp_ilg, cmp_ine, cmp_ieq, cmp_nlt, cmp_nlf, cmp_nle, cmp_nlg, cmp_nne, cmp_neq, wrap_i64, wrap_u64, wrap_u8, c, hap']
    refine hres _ ?_
    have e8 : 8 * (((m + 1 : Nat)) : Int) = 8 * (m : Int) + 8 := by omega
    rw [e8]
    simp [lp1_R01_Bytes]
  · have hmm : m = (l.length + 7) / 8 := by omega
    have hpk : PackR l o := by
      refine ⟨by omega, hb, ?_⟩
      rw [hbits, List.take_of_length_le (by rw [padB_len]; omega), padB, ho, ← hmm]
    clear hbits
    obtain ⟨G0, hG0⟩ : ∃ t, BH H o = t := ⟨_, rfl⟩
    rw [hG0]
    simp -implicitDefEqProofs (disch := first | omega | (simp; done) | fail) [-toCells, -AV.one, -forget, c_R01_Bytes, cmp_ilt, cmp_ilf, cmp_ile, cmp_ilg, cmp_ine, cmp_ieq, cmp_nlt, cmp_nlf, cmp_nle, cmp_nlg, cmp_nne, cmp_neq, wrap_i64, wrap_u64, wrap_u8, lp1_R01_Bytes, hbl]
    exact ⟨rfl, o, hpk, hG0.symm, by rw [ho]; simp⟩
theorem rBytes {zx : Bool} {l : List Bool} (hl : l.length ≤ 65536) (H : Heap) :
    ∃ o, PackR l o ∧ callW P f_R01_Bytes [lst zx 1 none (bls l)] H = some (bval H.length o.length, BH H o) := by
  suffices hs : Ends (callW P f_R01_Bytes [lst zx 1 none (bls l)] H) fun y => ∃ o, PackR l o ∧ y = (bval H.length o.length, BH H o) by
    obtain ⟨y, h2, o, h3, rfl⟩ := hs
    exact ⟨o, h3, h2⟩
  have hl2 := loopB2 (H := H) (zx := zx) hl ((l.length + 7) / 8)
  refine call_post 6 40 rfl (rfl : P.T f_R01_Bytes = some F_R01_Bytes) rfl (le_ok rfl) (fun e σ G => e = .ret ∧ ∃ o, PackR l o ∧ G = BH H o ∧ resultsA F_R01_Bytes.res σ = some (bval H.length o.length)) ?_ ?_
  · rintro e σ G ⟨rfl, o, h1, rfl, h⟩
    exact ⟨rfl, _, h, by simp, by simp; exact ⟨o, h1, rfl, rfl⟩⟩
  rw [F_R01_Bytes]; simp -implicitDefEqProofs (disch := first | omega | (simp; done) | fail) [-toCells, -AV.one, -forget, c_R01_Bytes, cmp_ilt, cmp_ilf, cmp_ile, cmp_ilg, cmp_ine, cmp_ieq, cmp_nlt, cmp_nlf, cmp_nle, cmp_nlg, cmp_nne, cmp_neq, wrap_i64, wrap_u64, wrap_u8]
  repeat rw [Option.bind_assoc]
  refine Ends.block (P := PostB2 H l) (hl2 _ _ ⟨0, [], by omega, rfl, by simp [Bytes], by simp [bitsB], rfl, by simp [lp1_R01_Bytes, bval]⟩) ?_
  rintro e σ1 G1 ⟨rfl, o, hp, rfl, c⟩
  have hx : ∃ o', PackR l o' ∧ BH H o = BH H o' ∧ bval H.length o.length = bval H.length o'.length := ⟨o, hp, rfl, rfl⟩
  generalize BH H o = G0 at *
  simp -implicitDefEqProofs (disch := first | omega | (simp; done) | fail) [-toCells, -AV.one, -forget, c_R01_Bytes, cmp_ilt, cmp_ilf, cmp_ile, cmp_ilg, cmp_ine, cmp_ieq, cmp_nlt, cmp_nlf, cmp_nle, cmp_nlg, cmp_nne, cmp_neq, wrap_i64, wrap_u64, wrap_u8, c]
  exact hx
end
end Go.A.V.S

namespace Go.A.V.S
open Go Go.A
set_option linter.unusedSimpArgs false
set_option linter.unusedVariables false
section
variable {H : Heap}
def InvU1 (H : Heap) (b : Nat) (z : Nat) (σ : List AV) (G : Heap) : Prop :=
  ∃ (i n : Nat), i + z = b ∧ n = 2 ^ i ∧ G = H ∧ σ = L 13 ((((Tr.full 4).put (path 0) (ai b)).put (path 3) (ai n)).put (path 4) (ai i))
def PostU1 (H : Heap) (m : Nat) (e : AExit) (σ : List AV) (G : Heap) : Prop :=
  G = H ∧ e = .exit 0 ∧ kill [0, 4, 5, 6, 7] σ = L 13 ((Tr.full 4).put (path 3) (ai m))
theorem loopU1 {b m : Nat} (hb : b ≤ 16) (hm : m = 2 ^ b) (z : Nat) (σ : List AV) (G : Heap) (hI : InvU1 H b z (kill (headK lp0_R08_top) σ) G) :
    Ends (execW P f_R08_top (.loop lp0_R08_top) σ G) fun s => PostU1 H m s.e s.σ s.H := by
  refine loop_ends (fun z σ G => InvU1 H b z σ G) (PostU1 H m) ?_ z σ G hI
  clear hI z σ G
  rintro z σ G ⟨i, n, hz, hn, rfl, rfl⟩
  have hp : n ≤ 65536 := by
    rw [hn]
    calc 2 ^ i ≤ 2 ^ 16 := Nat.pow_le_pow_right (by omega) (by omega)
      _ = 65536 := by decide
  by_cases hi : i < b
  · have hn2 : 2 * n = 2 ^ (i + 1) := by rw [Nat.pow_succ]; omega
    clear hn
    simp -implicitDefEqProofs (disch := first | omega | (simp; done) | fail) [-toCells, -AV.one, -forget, c_R08_top, cmp_ilt, cmp_ilf, cmp_ile, cmp_ilg, cmp_ine, cmp_ieq, cmp_nlt, cmp_nlf, cmp_nle, cmp_nlg, cmp_nne, cmp_neq, wrap_i64, wrap_u64, wrap_u8, lp0_R08_top]
    exact ⟨z - 1, by omega, i + 1, 2 * n, by omega, hn2, rfl, by simp⟩
  · have : i = b := by omega
    subst this
    obtain rfl : n = m := by rw [hn, hm]
    clear hn hm
    simp -implicitDefEqProofs (disch := first | omega | (simp; done) | fail) [-toCells, -AV.one, -forget, c_R08_top, cmp_ilt, cmp_ilf, cmp_ile, cmp_ilg, cmp_ine, cmp_ieq, cmp_nlt, cmp_nlf, cmp_nle, cmp_nlg, cmp_nne, cmp_neq, wrap_i64, wrap_u64, wrap_u8, lp0_R08_top]
    exact ⟨rfl, rfl, by simp⟩
theorem rTop {n m : Nat} (hn : n ≤ 16) (hm : m = 2 ^ n) (H : Heap) : callW P f_R08_top [ai n] H = some (ai m, H) := by
  rw [ends_eq]
  have hl := loopU1 (H := H) hn hm n
  clear hm
  refine call_post 4 13 rfl (rfl : P.T f_R08_top = some F_R08_top) rfl (le_ok rfl) (fun e σ G => e = .ret ∧ G = H ∧ resultsA F_R08_top.res σ = some (ai m)) ?_ ?_
  · rintro e σ G ⟨rfl, rfl, h⟩
    exact ⟨rfl, _, h, rfl, by simp⟩
  rw [F_R08_top]; simp -implicitDefEqProofs (disch := first | omega | (simp; done) | fail) [-toCells, -AV.one, -forget, c_R08_top, cmp_ilt, cmp_ilf, cmp_ile, cmp_ilg, cmp_ine, cmp_ieq, cmp_nlt, cmp_nlf, cmp_nle, cmp_nlg, cmp_nne, cmp_neq, wrap_i64, wrap_u64, wrap_u8]
  repeat rw [Option.bind_assoc]
  refine Ends.block (P := PostU1 H m) (hl _ _ ⟨0, 1, by omega, rfl, rfl, by simp [lp0_R08_top]⟩) ?_
  rintro e σ1 G1 ⟨rfl, rfl, c⟩
  simp -implicitDefEqProofs (disch := first | omega | (simp; done) | fail) [-toCells, -AV.one, -forget, c_R08_top, cmp_ilt, cmp_ilf, cmp_ile, cmp_ilg, cmp_ine, cmp_ieq, cmp_nlt, cmp_nlf, cmp_nle, cmp_nlg, cmp_nne, cmp_neq, wrap_i64, wrap_u64, wrap_u8, c]
def InvU2 (H : Heap) (z0 : Bool) (ls : List Nat) (w : Nat) (z : Nat) (σ : List AV) (G : Heap) : Prop :=
  ∃ (i : Nat) (out : List Bool), i + z = ls.length ∧ lBits w ls = out ++ lBits w (ls.drop i) ∧ out.length = i * (w + 1) ∧ G = H ∧ σ = L 61 (((((Tr.full 6).put (path 0) (lst z0 1 none (nvs ls))).put (path 1) (ai w)).put (path 6) (lst true 1 (some 56) (bls out))).put (path 7) (ai i))
def PostU2 (H : Heap) (ls : List Nat) (w : Nat) (e : AExit) (σ : List AV) (G : Heap) : Prop :=
  G = H ∧ e = .exit 0 ∧ kill [0, 1, 7, 20, 21, 22, 23] σ = L 61 ((Tr.full 6).put (path 6) (lst true 1 (some 56) (bls (lBits w ls))))
set_option maxHeartbeats 2000000 in
theorem loopU2 {z0 : Bool} {ls : List Nat} {w : Nat} (hl : ls.length ≤ 23) (hw : w = 11 ∨ w = 15) (hls : ∀ n ∈ ls, 1 ≤ n ∧ n < 2 ^ w) (z : Nat) (σ : List AV) (G : Heap) (hI : InvU2 H z0 ls w z (kill (headK lp0_R08_Write) σ) G) :
    Ends (execW P f_R08_Write (.loop lp0_R08_Write) σ G) fun s => PostU2 H ls w s.e s.σ s.H := by
  refine loop_ends (fun z σ G => InvU2 H z0 ls w z σ G) (PostU2 H ls w) ?_ z σ G hI
  clear hI z σ G
  rintro z σ G ⟨i, out, hz, hb, hol, rfl, rfl⟩
  have hla : (nvs ls).length = ls.length := nvs_len ls
  by_cases hi : i < ls.length
  · obtain ⟨n, hn⟩ : ∃ n, ls[i]? = some n := ⟨_, List.getElem?_eq_getElem hi⟩
    have hn1 := hls n (List.mem_of_getElem? hn)
    have q1 := nvs_at hn z0 none .i64
    have hdrop : ls.drop i = n :: ls.drop (i + 1) := by
      rw [List.drop_eq_getElem_cons hi]
      rw [List.getElem?_eq_getElem hi] at hn
      rw [Option.some.inj hn]
    rw [hdrop, lBits, List.length_drop] at hb
    have hol2 : out.length ≤ 1000 := by
      have : i * (w + 1) ≤ 23 * 16 := Nat.mul_le_mul (by omega) (by omega)
      omega
    obtain ⟨tp, htp⟩ : ∃ t, 2 ^ w = t := ⟨_, rfl⟩
    have ht := fun H => rTop (n := w) (m := tp) (by omega) htp.symm H
    rw [htp] at hn1
    have htp16 : tp ≤ 65536 := by
      rw [← htp]
      calc 2 ^ w ≤ 2 ^ 16 := Nat.pow_le_pow_right (by omega) (by omega)
        _ = 65536 := by decide
    obtain ⟨b, hbb⟩ : ∃ t, decide (0 < ls.length - (i + 1)) = t := ⟨_, rfl⟩
    rw [hbb] at hb
    obtain ⟨cs, hcs, hap⟩ := app1c (m := P.md f_R08_Write) (d := 47) (c := 56) (bytes := 1) (v := ab b) (R_R08_Write 47) (by omega) (by rw [bls_len]; omega) (l := bls out) (some 46)
    rw [← bls_snoc] at hap
    have hput := fun H => rPut (zx := true) (x := out ++ [b]) (by rw [List.length_append]; simp; omega) (v := n) (n := w) (by omega) (by omega) H
    have hn64 : IntKind.u64.wrap (n : Int) = n := wrap_u64 (by omega) (by omega)
    have hdc : (b = true ∧ i + 1 < ls.length) ∨ (b = false ∧ ls.length ≤ i + 1) := by
      by_cases c : i + 1 < ls.length
      · exact .inl ⟨by rw [← hbb]; exact decide_eq_true (by omega), c⟩
      · exact .inr ⟨by rw [← hbb]; exact decide_eq_false (by omega), by omega⟩
    have hres : ∀ σ, σ = L 61 (((((Tr.full 6).put (path 0) (lst z0 1 none (nvs ls))).put (path 1) (ai w)).put (path 6) (lst true 1 (some 56) (bls (out ++ [b] ++ bitsOf n w)))).put (path 7) (ai (i + 1 : Nat))) → ∃ m, m < z ∧ InvU2 G z0 ls w m σ G := fun σ e => ⟨z - 1, by omega, i + 1, out ++ [b] ++ bitsOf n w, by omega, by rw [hb]; simp, by rw [List.length_append, List.length_append, bitsOf_len, hol, Nat.add_mul]; simp; omega, rfl, e⟩
    clear hb htp hbb hls
    obtain ⟨L0, hL0⟩ : ∃ t, bls out = t := ⟨_, rfl⟩
    obtain ⟨L1, hL1⟩ : ∃ t, bls (out ++ [b]) = t := ⟨_, rfl⟩
    obtain ⟨L2, hL2⟩ : ∃ t, bls (out ++ [b] ++ bitsOf n w) = t := ⟨_, rfl⟩
    simp only [hL0, hL1, hL2] at hap hput hres
    rw [hL0]
    have hw2 : (w : Int) = 11 ∨ (w : Int) = 15 := by omega
    have f1 : ¬ (n : Int) < 1 := by omega
    have f1' : ¬ n < 1 := by omega
    have f2 : ¬ (n : Int) ≥ tp := by omega
    have f2' : ¬ (tp : Int) ≤ n := by omega
    have f2'' : ¬ tp ≤ n := by omega
    have f3 : IntKind.i64.wrap ((i : Int) + 1) = ((i + 1 : Nat) : Int) := by rw [wrap_i64 (by omega) (by omega)]; omega
    have f4 : (i : Int) < ls.length := by omega
    obtain ⟨i1, hi1⟩ : ∃ t, i + 1 = t := ⟨_, rfl⟩
    rw [hi1] at f3 hres hdc
    rcases hcs with rfl | rfl <;> rcases hdc with ⟨rfl, hc⟩ | ⟨rfl, hc⟩
    · have f5 : (i1 : Int) < ls.length := by omega
      simp -implicitDefEqProofs [-toCells, -AV.one, -forget, c_R08_Write, lp0_R08_Write, hi, f1, f1', f2, f2', f2'', f3, f4, f5, hc, hla, q1, ht, hap, hput, hn64, keepB, goodB_L, sameV, dstNot, dstNe, SOpG.reads, SOp.slots, SX.slots, SOp.noL, rdV, selfE_lst, selfE, selfEs, eqV]
      exact hres _ (by simp)
    · have f5 : ¬ (i1 : Int) < ls.length := by omega
      have hc' : ¬ i1 < ls.length := by omega
      simp -implicitDefEqProofs [-toCells, -AV.one, -forget, c_R08_Write, lp0_R08_Write, hi, f1, f1', f2, f2', f2'', f3, f4, f5, hc', hla, q1, ht, hap, hput, hn64, keepB, goodB_L, sameV, dstNot, dstNe, SOpG.reads, SOp.slots, SX.slots, SOp.noL, rdV, selfE_lst, selfE, selfEs, eqV]
      exact hres _ (by simp)
    · have f5 : (i1 : Int) < ls.length := by omega
      simp -implicitDefEqProofs [-toCells, -AV.one, -forget, c_R08_Write, lp0_R08_Write, hi, f1, f1', f2, f2', f2'', f3, f4, f5, hc, hla, q1, ht, hap, hput, hn64, keepB, goodB_L, sameV, dstNot, dstNe, SOpG.reads, SOp.slots, SX.slots, SOp.noL, rdV, selfE_lst, selfE, selfEs, eqV]
      exact hres _ (by simp)
    · have f5 : ¬ (i1 : Int) < ls.length := by omega
      have hc' : ¬ i1 < ls.length := by omega
      simp -implicitDefEqProofs [-toCells, -AV.one, -forget, c_R08_Write, lp0_R08_Write, hi, f1, f1', f2, f2', f2'', f3, f4, f5, hc', hla, q1, ht, hap, hput, hn64, keepB, goodB_L, sameV, dstNot, dstNe, SOpG.reads, SOp.slots, SX.slots, SOp.noL, rdV, selfE_lst, selfE, selfEs, eqV]
      exact hres _ (by simp)
  · have h0 : lBits w ls = out := by
      rw [hb, List.drop_eq_nil_of_le (by omega), lBits, List.append_nil]
    clear hb
    simp -implicitDefEqProofs (disch := first | omega | (simp; done) | fail) [-toCells, -AV.one, -forget, c_R08_Write, cmp_ilt, cmp_ilf, cmp_ile, cmp_ilg, cmp_ine, cmp_ieq, cmp_nlt, cmp_nlf, cmp_nle, cmp_nlg, cmp_nne, cmp_neq, wrap_i64, wrap_u64, wrap_u8, lp0_R08_Write, hla]
    exact ⟨rfl, rfl, by rw [h0]; simp⟩
theorem rWrite08 {z0 : Bool} {ls : List Nat} {w : Nat} (h1 : 1 ≤ ls.length) (hl : ls.length ≤ 23) (hw : w = 11 ∨ w = 15) (hls : ∀ n ∈ ls, 1 ≤ n ∧ n < 2 ^ w) (H : Heap) :
    ∃ o k, PackR (lBits w ls) o ∧ callW P f_R08_Write [lst z0 1 none (nvs ls), ai w] H = some (.tup [lst true 1 none (byteCs o), ai 0], H ++ List.replicate k .other) := by
  have hll := loopU2 (H := H) (z0 := z0) hl hw hls ls.length
  have hla : (nvs ls).length = ls.length := nvs_len ls
  obtain ⟨o, hp, hB⟩ := rBytes (zx := true) (l := lBits w ls) (by have := lBits_le hw hl; omega) H
  obtain ⟨k, hk⟩ := oth_bh H o
  have hfz := frz_bh H o
  refine ⟨o, k, hp, ?_⟩
  have hpl := hp.len
  have ho : o.length ≠ 0 := by
    rw [hpl, lBits_len]
    have : 1 * 12 ≤ ls.length * (w + 1) := Nat.mul_le_mul h1 (by omega)
    omega
  have hrc := fun d σ H' => bval_recol d H.length o.length σ H' ho
  clear hp hpl
  generalize BH H o = G2 at *
  rw [ends_eq]
  refine call_post 6 61 rfl (rfl : P.T f_R08_Write = some F_R08_Write) rfl (le_ok rfl) (fun e σ G => e = .ret ∧ G = G2 ∧ resultsA F_R08_Write.res σ = some (.tup [bval H.length o.length, ai 0])) ?_ ?_
  · rintro e σ G ⟨rfl, rfl, h⟩
    exact ⟨rfl, _, h, by simp, by simp [hfz, hk]⟩
  have hw2 : (w : Int) = 11 ∨ (w : Int) = 15 := by omega
  obtain ⟨L0, hL0⟩ : ∃ t, bls (lBits w ls) = t := ⟨_, rfl⟩
  rw [hL0] at hB
  rw [F_R08_Write]; simp -implicitDefEqProofs (disch := first | omega | (simp; done) | fail) [-toCells, -AV.one, -forget, c_R08_Write, cmp_ilt, cmp_ilf, cmp_ile, cmp_ilg, cmp_ine, cmp_ieq, cmp_nlt, cmp_nlf, cmp_nle, cmp_nlg, cmp_nne, cmp_neq, wrap_i64, wrap_u64, wrap_u8, hla]
  repeat rw [Option.bind_assoc]
  refine Ends.block (P := PostU2 H ls w) (hll _ _ ⟨0, [], by omega, by simp, by simp, rfl, by simp [lp0_R08_Write, bls]⟩) ?_
  rintro e σ1 G1 ⟨rfl, rfl, c⟩
  rw [hL0] at c
  simp -implicitDefEqProofs (disch := first | omega | (simp; done) | fail) [-toCells, -AV.one, -forget, c_R08_Write, cmp_ilt, cmp_ilf, cmp_ile, cmp_ilg, cmp_ine, cmp_ieq, cmp_nlt, cmp_nlf, cmp_nle, cmp_nlg, cmp_nne, cmp_neq, wrap_i64, wrap_u64, wrap_u8, c, hB, hrc]
end
end Go.A.V.S

namespace Go.A.V.S
open Go Go.A
set_option linter.unusedSimpArgs false
set_option linter.unusedVariables false
/-- The heap with a row of bytes, and rows of no matter behind it. -/
def TH (M : Heap) (a : List Nat) (k : Nat) : Heap := M ++ AObj.grow (bys a) 0 :: List.replicate k .other
theorem TH_get (M : Heap) (a : List Nat) (k : Nat) : (TH M a k)[M.length]? = some (.grow (bys a) 0) := by simp [TH]
theorem TH_set (M : Heap) (a b : List Nat) (k : Nat) : (TH M a k).set M.length (.grow (bys b) 0) = TH M b k := by
  rw [TH, List.set_append_right _ _ (Nat.le_refl _)]; simp [TH]
theorem TH_oth (M : Heap) (a : List Nat) (k j : Nat) : TH M a k ++ List.replicate j .other = TH M a (k + j) := by
  simp only [TH, List.append_assoc, List.cons_append, List.replicate_append_replicate]
def rwv (r n : Nat) : AV := .sl r 0 n n 1 n false
theorem rwv_ev (n r m : Nat) : ev1 n (rwv r m) = rwv r m := rfl
theorem rwv_box (r m : Nat) : (rwv r m).isBox = false := rfl
theorem rwv_free (r m : Nat) : (rwv r m).free = true := rfl
theorem rwv_one (r m : Nat) : (rwv r m).one = true := rfl
theorem rwv_cells (r m : Nat) : toCells (rwv r m) = [rwv r m] := rfl
theorem rwv_unfl (cs : List Nat) (r m : Nat) : unfl cs (rwv r m) = rwv r m := rfl
theorem rwv_forget (n r m : Nat) : forget n (rwv r m) = rwv r m := rfl
theorem rwv_pln (r m : Nat) : pln (rwv r m) = rwv r m := rfl
theorem rwv_norm (r m : Nat) : norm (rwv r m) = rwv r m := rfl
theorem rwv_len (r m : Nat) : lenW (rwv r m) = some m := rfl
theorem rwv_recol (d : Option Nat) (r m : Nat) (σ : List AV) (H : Heap) : recol d (rwv r m) σ H = (rwv r m, σ, H) := by cases d <;> rfl
attribute [simp] rwv_ev rwv_box rwv_free rwv_one rwv_cells rwv_unfl rwv_forget rwv_pln rwv_norm rwv_len rwv_recol
theorem app_th {m : Md} (hm : m.wr = true) {d : Nat} {M : Heap} {a l : List Nat} {k : Nat} {x : AV} (ha : a ≠ []) (hx : ∀ H, elems H 1 x = some (byteCs l)) (hl : a.length + l.length ≤ 1000000) (σ : List AV) :
    appW m (some d) 1 1 (rwv M.length a.length) x σ (TH M a k) = some (rwv M.length (a ++ l).length, σ, TH M (a ++ l) k) := by
  have ha0 : a.length ≠ 0 := fun e => ha (List.length_eq_zero_iff.1 e)
  by_cases h1 : l = []
  · subst h1
    have : byteCs ([] : List Nat) = [] := rfl
    simp only [rwv, appW, hm, if_true, hx, Option.bind_some, this, List.append_nil]
    rw [if_pos (Nat.le_refl _)]
  · have hne : ¬ byteCs l = [] := by simpa [byteCs] using h1
    simp only [rwv, appW, hm, if_true, hx, Option.bind_some, hne, if_false]
    rw [if_pos (by simp [ha0, byteCs_len, appBound]; omega), TH_get]
    simp only [AObj.isW, AObj.cells, AObj.lo, bys_len, true_and, if_true]
    rw [byteCs_flat', ← bys_app, byteCs_len, List.length_append, Nat.mul_one, TH_set]
section
variable {H : Heap}
def InvX1 (H : Heap) (z0 : Bool) (ff : List Bs) (r n w : Nat) (z : Nat) (σ : List AV) (G : Heap) : Prop :=
  ∃ (i : Nat), i + z = ff.length - 1 ∧ G = H ∧ σ = L 52 ((((((Tr.full 6).put (path 0) (rwv r n)).put (path 1) (lst z0 1 none (bvs ff))).put (path 2) (ai w)).put (path 7) (lst true 1 (some 26) (nvs (((bb ff).take i).map (·.length))))).put (path 8) (ai i))
def PostX1 (H : Heap) (z0 : Bool) (ff : List Bs) (r n w : Nat) (e : AExit) (σ : List AV) (G : Heap) : Prop :=
  G = H ∧ e = .exit 0 ∧ kill [8, 12, 13, 14, 15, 16] σ = L 52 (((((Tr.full 6).put (path 0) (rwv r n)).put (path 1) (lst z0 1 none (bvs ff))).put (path 2) (ai w)).put (path 7) (lst true 1 (some 26) (nvs (((bb ff).take (ff.length - 1)).map (·.length)))))
theorem loopX1 {z0 : Bool} {ff : List Bs} (hl : ff.length ≤ 100) (r n w : Nat) (z : Nat) (σ : List AV) (G : Heap) (hI : InvX1 H z0 ff r n w z (kill (headK lp0_R09_Tail) σ) G) :
    Ends (execW P f_R09_Tail (.loop lp0_R09_Tail) σ G) fun s => PostX1 H z0 ff r n w s.e s.σ s.H := by
  refine loop_ends (fun z σ G => InvX1 H z0 ff r n w z σ G) (PostX1 H z0 ff r n w) ?_ z σ G hI
  clear hI z σ G
  rintro z σ G ⟨i, hz, rfl, rfl⟩
  have hla : (bvs ff).length = ff.length := bvs_len ff
  by_cases hi : i < ff.length - 1
  · obtain ⟨x, hx⟩ : ∃ x, ff[i]? = some x := ⟨_, List.getElem?_eq_getElem (by omega)⟩
    have q1 := bvs_at hx z0 none .i64
    have hxl := bv_len x
    have hsn : ((bb ff).take (i + 1)).map (·.length) = ((bb ff).take i).map (·.length) ++ [x.2.length] := by rw [take_snoc (bb_at hx)]; simp
    have hap := fun σ H => app1 (m := P.md f_R09_Tail) (d := 26) (bytes := 8) (v := ai x.2.length) (R_R09_Tail 26) (by omega) (by rw [nvs_len]; simp [bb_len]; omega) (l := nvs (((bb ff).take i).map (·.length))) (some 25) σ H
    rw [← nvs_snoc, ← hsn] at hap
    have hres : ∀ σ, σ = L 52 ((((((Tr.full 6).put (path 0) (rwv r n)).put (path 1) (lst z0 1 none (bvs ff))).put (path 2) (ai w)).put (path 7) (lst true 1 (some 26) (nvs (((bb ff).take (i + 1)).map (·.length))))).put (path 8) (ai (i + 1 : Nat))) → ∃ m, m < z ∧ InvX1 G z0 ff r n w m σ G := fun σ e => ⟨z - 1, by omega, i + 1, by omega, rfl, e⟩
    obtain ⟨L0, hL0⟩ : ∃ t, nvs (((bb ff).take i).map (·.length)) = t := ⟨_, rfl⟩
    obtain ⟨L1, hL1⟩ : ∃ t, nvs (((bb ff).take (i + 1)).map (·.length)) = t := ⟨_, rfl⟩
    simp only [hL0, hL1] at hap hres
    rw [hL0]
    obtain ⟨xl, hxl'⟩ : ∃ t, x.2.length = t := ⟨_, rfl⟩
    rw [hxl'] at hxl hap
    clear hsn
    simp -implicitDefEqProofs (disch := first | omega | (simp; done) | fail) [-toCells, -AV.one, -forget, c_R09_Tail, cmp_ilt, cmp_ilf, cmp_ile, cmp_ilg, cmp_ine, cmp_ieq, cmp_nlt, cmp_nlf, cmp_nle, cmp_nlg, cmp_nne, cmp_neq, wrap_i64, wrap_u64, wrap_u8, lp0_R09_Tail, hla, q1, hxl, hap]
    exact hres _ (by simp)
  · have e : ((bb ff).take i).map (·.length) = ((bb ff).take (ff.length - 1)).map (·.length) := by
      have : i = ff.length - 1 := by omega
      rw [this]
    rw [e]
    simp -implicitDefEqProofs (disch := first | omega | (simp; done) | fail) [-toCells, -AV.one, -forget, c_R09_Tail, cmp_ilt, cmp_ilf, cmp_ile, cmp_ilg, cmp_ine, cmp_ieq, cmp_nlt, cmp_nlf, cmp_nle, cmp_nlg, cmp_nne, cmp_neq, wrap_i64, wrap_u64, wrap_u8, lp0_R09_Tail, hla]
    exact ⟨rfl, rfl, by simp⟩
def InvX2 (M : Heap) (k : Nat) (z0 : Bool) (ff : List Bs) (a : List Nat) (z : Nat) (σ : List AV) (G : Heap) : Prop :=
  ∃ (i : Nat), i + z = ff.length ∧ G = TH M (a ++ ((bb ff).take i).flatten) k ∧ σ = L 52 ((((Tr.full 6).put (path 0) (rwv M.length (a ++ ((bb ff).take i).flatten).length)).put (path 1) (lst z0 1 none (bvs ff))).put (path 11) (ai i))
def PostX2 (M : Heap) (k : Nat) (ff : List Bs) (a : List Nat) (e : AExit) (σ : List AV) (G : Heap) : Prop :=
  G = TH M (a ++ (bb ff).flatten) k ∧ e = .exit 2 ∧ kill [1, 11, 39, 40, 41, 42] σ = L 52 ((Tr.full 6).put (path 0) (rwv M.length (a ++ (bb ff).flatten).length))
theorem loopX2 {M : Heap} {k : Nat} {z0 : Bool} {ff : List Bs} {a : List Nat} (ha : a ≠ []) (hal : a.length ≤ 10000) (hl : ff.length ≤ 100) (hs : (bb ff).flatten.length ≤ 100000) (z : Nat) (σ : List AV) (G : Heap) (hI : InvX2 M k z0 ff a z (kill (headK lp1_R09_Tail) σ) G) :
    Ends (execW P f_R09_Tail (.loop lp1_R09_Tail) σ G) fun s => PostX2 M k ff a s.e s.σ s.H := by
  refine loop_ends (fun z σ G => InvX2 M k z0 ff a z σ G) (PostX2 M k ff a) ?_ z σ G hI
  clear hI z σ G
  rintro z σ G ⟨i, hz, rfl, rfl⟩
  have hla : (bvs ff).length = ff.length := bvs_len ff
  have htl : ((bb ff).take i).flatten.length ≤ (bb ff).flatten.length := by
    conv => rhs; rw [← List.take_append_drop i (bb ff), List.flatten_append, List.length_append]
    omega
  have hne : a ++ ((bb ff).take i).flatten ≠ [] := fun e => ha (List.append_eq_nil_iff.1 e).1
  by_cases hi : i < ff.length
  · obtain ⟨x, hx⟩ : ∃ x, ff[i]? = some x := ⟨_, List.getElem?_eq_getElem hi⟩
    have q1 := bvs_at hx z0 none .i64
    have hxs : x.2.length ≤ (bb ff).flatten.length := by
      rw [List.length_flatten]; exact len_le_sum (List.mem_map_of_mem (List.mem_of_getElem? hx))
    have hap := app_th (m := P.md f_R09_Tail) rfl (d := 50) (M := M) (k := k) (l := x.2) (x := bv x) hne (fun H => bv_elems H x) (by rw [List.length_append]; omega)
    have hsn : a ++ ((bb ff).take (i + 1)).flatten = a ++ ((bb ff).take i).flatten ++ x.2 := by rw [take_snoc (bb_at hx)]; simp
    rw [← hsn] at hap
    have hres : ∀ σ, σ = L 52 ((((Tr.full 6).put (path 0) (rwv M.length (a ++ ((bb ff).take (i + 1)).flatten).length)).put (path 1) (lst z0 1 none (bvs ff))).put (path 11) (ai (i + 1 : Nat))) → ∃ m, m < z ∧ InvX2 M k z0 ff a m σ (TH M (a ++ ((bb ff).take (i + 1)).flatten) k) := fun σ e => ⟨z - 1, by omega, i + 1, by omega, rfl, e⟩
    clear hsn hne
    generalize a ++ ((bb ff).take i).flatten = o0 at *
    generalize a ++ ((bb ff).take (i + 1)).flatten = o1 at *
    obtain ⟨G0, hG0⟩ : ∃ t, TH M o0 k = t := ⟨_, rfl⟩
    obtain ⟨G1, hG1⟩ : ∃ t, TH M o1 k = t := ⟨_, rfl⟩
    simp only [hG0, hG1] at hap hres ⊢
    simp -implicitDefEqProofs (disch := first | omega | (simp; done) | fail) [-toCells, -AV.one, -forget, c_R09_Tail, cmp_ilt, cmp_ilf, cmp_ile, cmp_ilg, cmp_ine, cmp_ieq, cmp_nlt, cmp_nlf, cmp_nle, cmp_nlg, cmp_nne, cmp_neq, wrap_i64, wrap_u64, wrap_u8, lp1_R09_Tail, hla, q1, hap]
    exact hres _ (by simp)
  · have e : (bb ff).take i = bb ff := List.take_of_length_le (by rw [bb_len]; omega)
    rw [e]
    obtain ⟨o, ho⟩ : ∃ t, a ++ (bb ff).flatten = t := ⟨_, rfl⟩
    have hP : ∀ e σ G, PostX2 M k ff a e σ G = (G = TH M o k ∧ e = .exit 2 ∧ kill [1, 11, 39, 40, 41, 42] σ = L 52 ((Tr.full 6).put (path 0) (rwv M.length o.length))) := fun e σ G => by rw [PostX2, ho]
    rw [ho]
    obtain ⟨G0, hG0⟩ : ∃ t, TH M o k = t := ⟨_, rfl⟩
    rw [hG0]
    simp -implicitDefEqProofs (disch := first | omega | (simp; done) | fail) [-toCells, -AV.one, -forget, c_R09_Tail, cmp_ilt, cmp_ilf, cmp_ile, cmp_ilg, cmp_ine, cmp_ieq, cmp_nlt, cmp_nlf, cmp_nle, cmp_nlg, cmp_nne, cmp_neq, wrap_i64, wrap_u64, wrap_u8, lp1_R09_Tail, hla]
    rw [hP, hG0]
    exact ⟨rfl, rfl, by simp⟩
def PostX3 (M : Heap) (a : List Nat) (ff : List Bs) (w : Nat) (ls : List Nat) (e : AExit) (σ : List AV) (G : Heap) : Prop :=
  e = .ret ∧ ∃ lb k, PackR (lBits w ls) lb ∧ G = TH M (a ++ lb ++ (bb ff).flatten) k ∧ resultsA F_R09_Tail.res σ = some (rwv M.length (a ++ lb ++ (bb ff).flatten).length)
theorem rTail {M : Heap} {z0 : Bool} {ff : List Bs} {a : List Nat} {w : Nat} (ha : a ≠ []) (hal : a.length ≤ 1000) (hl1 : 1 ≤ ff.length) (hl : ff.length ≤ 24) (hs : (bb ff).flatten.length ≤ 5000) (hw : w = 11 ∨ w = 15) (hls : ∀ n ∈ ((bb ff).take (ff.length - 1)).map (·.length), 1 ≤ n ∧ n < 2 ^ w) :
    ∃ lb k, PackR (lBits w (((bb ff).take (ff.length - 1)).map (·.length))) lb ∧ callW P f_R09_Tail [rwv M.length a.length, lst z0 1 none (bvs ff), ai w] (TH M a 0) = some (rwv M.length (a ++ lb ++ (bb ff).flatten).length, TH M (a ++ lb ++ (bb ff).flatten) k) := by
  have hL1 := loopX1 (H := TH M a 0) (z0 := z0) (ff := ff) (by omega) M.length a.length w (ff.length - 1)
  obtain ⟨ls, hls'⟩ : ∃ t, ((bb ff).take (ff.length - 1)).map (·.length) = t := ⟨_, rfl⟩
  have hll : ls.length = ff.length - 1 := by rw [← hls']; simp [bb_len]
  rw [hls'] at hls ⊢
  suffices hend : Ends (callW P f_R09_Tail [rwv M.length a.length, lst z0 1 none (bvs ff), ai w] (TH M a 0)) fun y => ∃ lb k, PackR (lBits w ls) lb ∧ y = (rwv M.length (a ++ lb ++ (bb ff).flatten).length, TH M (a ++ lb ++ (bb ff).flatten) k) by
    obtain ⟨y, h2, lb, k, h3, rfl⟩ := hend
    exact ⟨lb, k, h3, h2⟩
  refine call_post 6 52 rfl (rfl : P.T f_R09_Tail = some F_R09_Tail) rfl (le_ok rfl) (PostX3 M a ff w ls) ?_ ?_
  · rintro e σ G ⟨rfl, lb, k, h1, rfl, h⟩
    exact ⟨rfl, _, h, by simp, by simp; exact ⟨lb, h1, rfl, k, rfl⟩⟩
  have hbeg : ∀ σ1 G1 lb k, PackR (lBits w ls) lb → lb.length ≤ 500 → InvX2 M k z0 ff (a ++ lb) ff.length (kill (headK lp1_R09_Tail) σ1) G1 → Ends (execW P f_R09_Tail (.loop lp1_R09_Tail) σ1 G1) fun s => PostX2 M k ff (a ++ lb) s.e s.σ s.H := fun σ1 G1 lb k _ hlb h => loopX2 (fun e => ha (List.append_eq_nil_iff.1 e).1) (by rw [List.length_append]; omega) (by omega) (by omega) _ _ _ h
  obtain ⟨G0, hG0⟩ : ∃ t, TH M a 0 = t := ⟨_, rfl⟩
  rw [hG0] at hL1 ⊢
  rw [F_R09_Tail]; simp -implicitDefEqProofs (disch := first | omega | (simp; done) | fail) [-toCells, -AV.one, -forget, c_R09_Tail, cmp_ilt, cmp_ilf, cmp_ile, cmp_ilg, cmp_ine, cmp_ieq, cmp_nlt, cmp_nlf, cmp_nle, cmp_nlg, cmp_nne, cmp_neq, wrap_i64, wrap_u64, wrap_u8]
  repeat rw [Option.bind_assoc]
  refine Ends.block (P := PostX1 G0 z0 ff M.length a.length w) (hL1 _ _ ⟨0, by omega, rfl, by simp [lp0_R09_Tail, nvs]⟩) ?_
  rintro e σ1 G1 ⟨rfl, rfl, c⟩
  rw [hls'] at c
  have hnl : (nvs ls).length = ls.length := nvs_len ls
  by_cases h0 : ls.length = 0
  · have hls0 : ls = [] := List.length_eq_zero_iff.1 h0
    have hb := hbeg
    have hP : ∀ k e σ G, PostX2 M k ff a e σ G = (G = TH M (a ++ (bb ff).flatten) k ∧ e = .exit 2 ∧ kill [1, 11, 39, 40, 41, 42] σ = L 52 ((Tr.full 6).put (path 0) (rwv M.length (a ++ (bb ff).flatten).length))) := fun k e σ G => rfl
    rw [hls0] at c
    replace c : kill [8, 12, 13, 14, 15, 16] σ1 = L 52 (((((Tr.full 6).put (path 0) (rwv M.length a.length)).put (path 1) (lst z0 1 none (bvs ff))).put (path 2) (ai w)).put (path 7) (nilS)) := c
    simp -implicitDefEqProofs (disch := first | omega | (simp; done) | fail) [-toCells, -AV.one, -forget, c_R09_Tail, cmp_ilt, cmp_ilf, cmp_ile, cmp_ilg, cmp_ine, cmp_ieq, cmp_nlt, cmp_nlf, cmp_nle, cmp_nlg, cmp_nne, cmp_neq, wrap_i64, wrap_u64, wrap_u8, c]
    repeat rw [Option.bind_assoc]
    have hpk : PackR (lBits w ls) [] := by rw [hls0]; exact PackR.nil
    refine Ends.block (P := PostX2 M 0 ff (a ++ [])) (hbeg _ _ [] 0 hpk (by simp) ⟨0, by omega, by simp [hG0], by simp [lp1_R09_Tail]⟩) ?_
    rintro e σ1 G1 ⟨rfl, rfl, c⟩
    have hx : ∀ σ, resultsA F_R09_Tail.res σ = some (rwv M.length (a ++ [] ++ (bb ff).flatten).length) → PostX3 M a ff w ls .ret σ (TH M (a ++ [] ++ (bb ff).flatten) 0) := fun σ h => ⟨rfl, [], 0, hpk, rfl, h⟩
    generalize a ++ [] ++ (bb ff).flatten = o at *
    generalize TH M o 0 = G2 at *
    simp -implicitDefEqProofs (disch := first | omega | (simp; done) | fail) [-toCells, -AV.one, -forget, c_R09_Tail, cmp_ilt, cmp_ilf, cmp_ile, cmp_ilg, cmp_ine, cmp_ieq, cmp_nlt, cmp_nlf, cmp_nle, cmp_nlg, cmp_nne, cmp_neq, wrap_i64, wrap_u64, wrap_u8, c]
    exact hx _ (by simp [F_R09_Tail])
  · obtain ⟨lb, k, hpb, hW⟩ := rWrite08 (z0 := true) (ls := ls) (by omega) (by omega) hw hls G1
    have hlbl := hpb.len
    have hlb2 := lBits_le hw (l := ls) (by omega)
    rw [← hG0, TH_oth, hG0] at hW
    have hap := app_th (m := P.md f_R09_Tail) rfl (d := 38) (M := M) (a := a) (k := 0 + k) (l := lb) (x := lst true 1 none (byteCs lb)) ha (fun H => Go.A.V.elems_lst H true 1 none _) (by omega)
    obtain ⟨G2, hG2⟩ : ∃ t, TH M a (0 + k) = t := ⟨_, rfl⟩
    rw [hG2] at hW hap
    obtain ⟨G3, hG3⟩ : ∃ t, TH M (a ++ lb) (0 + k) = t := ⟨_, rfl⟩
    rw [hG3] at hap
    obtain ⟨nn, hnn⟩ : ∃ t, (a ++ lb).length = t := ⟨_, rfl⟩
    rw [hnn] at hap
    obtain ⟨L0, hL0⟩ : ∃ t, byteCs lb = t := ⟨_, rfl⟩
    rw [hL0] at hW hap
    simp -implicitDefEqProofs (disch := first | omega | (simp; done) | fail) [-toCells, -AV.one, -forget, c_R09_Tail, cmp_ilt, cmp_ilf, cmp_ile, cmp_ilg, cmp_ine, cmp_ieq, cmp_nlt, cmp_nlf, cmp_nle, cmp_nlg, cmp_nne, cmp_neq, wrap_i64, wrap_u64, wrap_u8, c, hnl, hW, hap]
    repeat rw [Option.bind_assoc]
    refine Ends.block (P := PostX2 M (0 + k) ff (a ++ lb)) (hbeg _ _ lb (0 + k) hpb (by omega) ⟨0, by omega, by simp [← hG3], by simp [lp1_R09_Tail, ← hnn]⟩) ?_
    rintro e σ1 G1 ⟨rfl, rfl, c⟩
    have hx : ∀ σ, resultsA F_R09_Tail.res σ = some (rwv M.length (a ++ lb ++ (bb ff).flatten).length) → PostX3 M a ff w ls .ret σ (TH M (a ++ lb ++ (bb ff).flatten) (0 + k)) := fun σ h => ⟨rfl, lb, 0 + k, hpb, rfl, h⟩
    generalize a ++ lb ++ (bb ff).flatten = o at *
    generalize TH M o (0 + k) = G4 at *
    simp -implicitDefEqProofs (disch := first | omega | (simp; done) | fail) [-toCells, -AV.one, -forget, c_R09_Tail, cmp_ilt, cmp_ilf, cmp_ile, cmp_ilg, cmp_ine, cmp_ieq, cmp_nlt, cmp_nlf, cmp_nle, cmp_nlg, cmp_nne, cmp_neq, wrap_i64, wrap_u64, wrap_u8, c]
    exact hx _ (by simp [F_R09_Tail])
end
end Go.A.V.S
