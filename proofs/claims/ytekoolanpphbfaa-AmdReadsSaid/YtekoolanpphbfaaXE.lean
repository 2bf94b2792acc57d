/- The reference: heads' sizes, widths; bits. -/
import Derived.Test.YtekoolanpphbfaaXB
set_option linter.unusedSimpArgs false
set_option linter.unusedVariables false
set_option linter.unnecessarySimpa false
namespace Go.A.V.S
open Go Go.A
set_option linter.unusedSimpArgs false
set_option linter.unusedVariables false

def bls (l : List Bool) : List (List AV) := l.map fun b => [ab b]
theorem bls_len (l : List Bool) : (bls l).length = l.length := by simp [bls]
theorem bls_snoc (l : List Bool) (b : Bool) : bls (l ++ [b]) = bls l ++ [[ab b]] := by simp [bls]
theorem bls_at {l : List Bool} {i : Nat} {b : Bool} (h : l[i]? = some b) (z : Bool) (f : Option Nat) (k : IntKind) : iaddrW 1 none (lst z 1 f (bls l)) (.c (.int k i)) = some (.vp [ab b] 0) := iaddrW_lst _ _ _ (by simp [bls, h]) k
theorem rHead (part : Bool) (w : Int) (H : Heap) : callW P f_R10_Head [ab part, ai w] H = some (ai (headV part w : Nat), H) := by
  have h2 : IntKind.i64.wrap 4 = 4 := rfl
  have h3 : IntKind.i64.wrap 5 = 5 := rfl
  by_cases h10 : w = 10
  · subst h10
    cases part
    · rw [call_L 5 rfl (rfl : P.T f_R10_Head = some F_R10_Head) (le_ok rfl)]; simp -implicitDefEqProofs [-toCells, -AV.one, -forget, F_R10_Head, c_R10_Head, headV, h2, h3]
    · rw [call_L 5 rfl (rfl : P.T f_R10_Head = some F_R10_Head) (le_ok rfl)]; simp -implicitDefEqProofs [-toCells, -AV.one, -forget, F_R10_Head, c_R10_Head, headV, h2, h3]
  · by_cases h16 : w = 16
    · subst h16
      cases part
      · rw [call_L 5 rfl (rfl : P.T f_R10_Head = some F_R10_Head) (le_ok rfl)]; simp -implicitDefEqProofs [-toCells, -AV.one, -forget, F_R10_Head, c_R10_Head, headV, h2, h3]
      · rw [call_L 5 rfl (rfl : P.T f_R10_Head = some F_R10_Head) (le_ok rfl)]; simp -implicitDefEqProofs [-toCells, -AV.one, -forget, F_R10_Head, c_R10_Head, headV, h2, h3]
    · cases part
      · rw [call_L 5 rfl (rfl : P.T f_R10_Head = some F_R10_Head) (le_ok rfl)]; simp -implicitDefEqProofs [-toCells, -AV.one, -forget, F_R10_Head, c_R10_Head, headV, h10, h16]
      · rw [call_L 5 rfl (rfl : P.T f_R10_Head = some F_R10_Head) (le_ok rfl)]; simp -implicitDefEqProofs [-toCells, -AV.one, -forget, F_R10_Head, c_R10_Head, headV, h10, h16]
theorem rWidths (w : Int) (H : Heap) : callW P f_R10_widths [ai w] H = some (.tup [ai (lenWd w : Nat), ai (offWd w : Nat)], H) := by
  rw [call_L 3 rfl (rfl : P.T f_R10_widths = some F_R10_widths) (le_ok rfl)]; simp -implicitDefEqProofs [-toCells, -AV.one, -forget, F_R10_widths, c_R10_widths, lenWd, offWd]
  split <;> simp_all

section
variable {H : Heap}
def InvB (H : Heap) (va : Bs) (i b : Nat) (z : Nat) (σ : List AV) (G : Heap) : Prop :=
  ∃ (j w : Nat), j + z = 8 ∧ w = 128 / 2 ^ j ∧ G = H ∧ σ = L 32 (((((Tr.full 6).put (path 0) (bv va)).put (path 3) (lst true 1 (some 30) (bls (bitsB (va.2.take i) ++ (bits8 b).take j)))).put (path 4) (ai i)).put (path 5) (au w))
def PostB (H : Heap) (va : Bs) (i b : Nat) (e : AExit) (σ : List AV) (G : Heap) : Prop :=
  e = .exit 2 ∧ G = H ∧ kill [5, 16, 17] σ = L 32 ((((Tr.full 6).put (path 0) (bv va)).put (path 3) (lst true 1 (some 30) (bls (bitsB (va.2.take i) ++ bits8 b)))).put (path 4) (ai i))
theorem bits_in {va : Bs} (hb : va.2.length ≤ 8192) {i b : Nat} (hi : va.2[i]? = some b) (hb256 : b < 256) (z : Nat) (σ : List AV) (G : Heap) (hI : InvB H va i b z (kill (headK lp0_R01_Bits) σ) G) :
    Ends (execW P f_R01_Bits (.loop lp0_R01_Bits) σ G) fun s => PostB H va i b s.e s.σ s.H := by
  refine loop_ends (fun z σ G => InvB H va i b z σ G) (PostB H va i b) ?_ z σ G hI
  clear hI z σ G
  rintro z σ G ⟨j, w, hz, hw, rfl, rfl⟩
  have q1 := bv_at hi .i64
  have hilt := (List.getElem?_eq_some_iff.1 hi).1
  by_cases hj : j < 8
  · have hw7 : w = 2 ^ (7 - j) := by
      rw [hw]
      have : j = 0 ∨ j = 1 ∨ j = 2 ∨ j = 3 ∨ j = 4 ∨ j = 5 ∨ j = 6 ∨ j = 7 := by omega
      rcases this with rfl | rfl | rfl | rfl | rfl | rfl | rfl | rfl <;> rfl
    have hw0 : 0 < w := by rw [hw7]; exact Nat.pow_pos (by omega)
    have hw0' : (w : Int) > 0 := by omega
    have hw0'' : (0 : Int) < w := by omega
    have hwn : ¬ w = 0 := by omega
    have hwn' : ¬ (w : Int) = 0 := by omega
    have hw128 : w ≤ 128 := by rw [hw]; exact Nat.div_le_self _ _
    have htake := bits8_take (b := b) hj
    rw [← hw7] at htake
    have hlt : ((bitsB (va.2.take i) ++ (bits8 b).take j)).length ≤ 100000 := by
      rw [List.length_append, bitsB_len, List.length_take, List.length_take]; omega
    have hnext : 128 / 2 ^ (j + 1) = w / 2 := by rw [hw, Nat.div_div_eq_div_mul, Nat.pow_succ]
    obtain ⟨q, hq⟩ : ∃ q, b / w = q := ⟨_, rfl⟩
    have hq256 : q < 256 := by
      have := Nat.div_le_self b w
      omega
    rw [hq] at htake
    have d1 : IntKind.u8.wrap ((b : Int).tdiv w) = (q : Int) := by
      rw [Int.tdiv_eq_ediv_of_nonneg (by omega), ← Int.natCast_ediv, hq]; exact wrap_u8 (by omega) (by omega)
    have d1' : IntKind.u8.wrap ((b : Int) / w) = (q : Int) := by
      rw [← Int.natCast_ediv, hq]; exact wrap_u8 (by omega) (by omega)
    have d2 : (q : Int).tmod 2 = ((q % 2 : Nat) : Int) := by rw [Int.tmod_eq_emod_of_nonneg (by omega)]; omega
    have d2' : (q : Int) % 2 = ((q % 2 : Nat) : Int) := by omega
    obtain ⟨u, hu⟩ : ∃ u, q % 2 = u := ⟨_, rfl⟩
    rw [hu] at d2 d2' htake
    obtain ⟨w2, hw2⟩ : ∃ x, w / 2 = x := ⟨_, rfl⟩
    have d3 : IntKind.u8.wrap ((w : Int).tdiv 2) = (w2 : Int) := by
      rw [Int.tdiv_eq_ediv_of_nonneg (by omega)]
      have : (w : Int) / 2 = (w2 : Int) := by omega
      rw [this]; exact wrap_u8 (by omega) (by omega)
    have d3' : IntKind.u8.wrap ((w : Int) / 2) = (w2 : Int) := by
      have : (w : Int) / 2 = (w2 : Int) := by omega
      rw [this]; exact wrap_u8 (by omega) (by omega)
    have hd : decide ((u : Int) = 1) = decide (u = 1) := decide_eq_decide.2 (by omega)
    have hap := fun σ H => app1 (m := P.md f_R01_Bits) (d := 30) (bytes := 1) (v := ab (decide (u = 1))) (R_R01_Bits 30) (by omega) (by rw [bls_len]; exact hlt) (l := bls (bitsB (va.2.take i) ++ (bits8 b).take j)) (some 29) σ H
    rw [← bls_snoc, List.append_assoc, ← htake] at hap
    generalize bls (bitsB (va.2.take i) ++ (bits8 b).take j) = L0 at *
    have hres : ∀ σ, σ = L 32 (((((Tr.full 6).put (path 0) (bv va)).put (path 3) (lst true 1 (some 30) (bls (bitsB (va.2.take i) ++ (bits8 b).take (j + 1))))).put (path 4) (ai i)).put (path 5) (au w2)) → ∃ m, m < z ∧ InvB G va i b m σ G := fun σ e => ⟨z - 1, by omega, j + 1, w2, by omega, by rw [hnext]; exact hw2.symm, rfl, e⟩
    generalize bls (bitsB (va.2.take i) ++ (bits8 b).take (j + 1)) = L1 at *
    simp -implicitDefEqProofs [-toCells, -AV.one, -forget, c_R01_Bits, lp0_R01_Bits, hw0, hw0', hw0'', hwn, hwn', q1, d1, d1', d2, d2', d3, d3', hd, hap]
    exact hres _ (by simp)
  · have hj8 : j = 8 := by omega
    subst hj8
    have hw0 : w = 0 := by rw [hw]
    subst hw0
    have ht : (bits8 b).take 8 = bits8 b := List.take_of_length_le (by rw [bits8_len]; omega)
    rw [ht]
    obtain ⟨L0, hL0⟩ : ∃ t, bls (bitsB (va.2.take i) ++ bits8 b) = t := ⟨_, rfl⟩
    rw [hL0]
    simp -implicitDefEqProofs [-toCells, -AV.one, -forget, c_R01_Bits, lp0_R01_Bits]
    exact ⟨rfl, rfl, by rw [hL0]; simp⟩
def InvO (H : Heap) (va : Bs) (z : Nat) (σ : List AV) (G : Heap) : Prop :=
  ∃ i : Nat, i + z = va.2.length ∧ G = H ∧ σ = L 32 ((((Tr.full 6).put (path 0) (bv va)).put (path 3) (lst true 1 (some 30) (bls (bitsB (va.2.take i))))).put (path 4) (ai i))
def PostO (H : Heap) (va : Bs) (e : AExit) (σ : List AV) (G : Heap) : Prop :=
  e = .exit 0 ∧ G = H ∧ kill [0, 4, 6, 7, 8, 9, 10, 11, 12, 13] σ = L 32 ((Tr.full 6).put (path 3) (lst true 1 (some 30) (bls (bitsB va.2))))
theorem bits_out {va : Bs} (hb : va.2.length ≤ 8192) (hby : Bytes va.2) (z : Nat) (σ : List AV) (G : Heap) (hI : InvO H va z (kill (headK lp1_R01_Bits) σ) G) :
    Ends (execW P f_R01_Bits (.loop lp1_R01_Bits) σ G) fun s => PostO H va s.e s.σ s.H := by
  refine loop_ends (fun z σ G => InvO H va z σ G) (PostO H va) ?_ z σ G hI
  clear hI z σ G
  rintro z σ G ⟨i, hz, rfl, rfl⟩
  have hlen := bv_len va
  by_cases hi : i < va.2.length
  · have hi' : (i : Int) < va.2.length := by omega
    have hi8 : (i : Int) < 8192 := by omega
    obtain ⟨b, hbi⟩ : ∃ b, va.2[i]? = some b := ⟨_, List.getElem?_eq_getElem hi⟩
    have w1 : IntKind.i64.wrap ((i : Int) + 1) = ((i + 1 : Nat) : Int) := by rw [wrap_i64 (by omega) (by omega)]; omega
    obtain ⟨i1, hi1⟩ : ∃ x, i + 1 = x := ⟨_, rfl⟩
    rw [hi1] at w1
    have hsn := bitsB_snoc hbi
    rw [hi1] at hsn
    obtain ⟨L0, hL0⟩ : ∃ t, bls (bitsB (va.2.take i)) = t := ⟨_, rfl⟩
    rw [hL0]
    simp -implicitDefEqProofs [-toCells, -AV.one, -forget, c_R01_Bits, lp1_R01_Bits, hlen, hi, hi', hi8]
    repeat rw [Option.bind_assoc]
    refine Ends.block (P := PostB G va i b) (bits_in hb hbi (hby b (List.mem_of_getElem? hbi)) 8 _ _ ⟨0, 128, rfl, rfl, rfl, ?_⟩) ?_
    · rw [List.take_zero, List.append_nil, hL0]; simp [lp0_R01_Bits]; rfl
    rintro e σ1 G1 ⟨rfl, rfl, k2⟩
    rw [← hsn] at k2
    obtain ⟨L1, hL1⟩ : ∃ t, bls (bitsB (va.2.take i1)) = t := ⟨_, rfl⟩
    rw [hL1] at k2
    simp -implicitDefEqProofs [-toCells, -AV.one, -forget, c_R01_Bits, k2, w1]
    exact ⟨z - 1, by omega, i1, by omega, rfl, by rw [hL1]; simp [lp1_R01_Bits]⟩
  · have hi' : ¬ (i : Int) < va.2.length := by omega
    have ht : va.2.take i = va.2 := List.take_of_length_le (by omega)
    rw [ht]
    obtain ⟨L0, hL0⟩ : ∃ t, bls (bitsB va.2) = t := ⟨_, rfl⟩
    rw [hL0]
    simp -implicitDefEqProofs [-toCells, -AV.one, -forget, c_R01_Bits, lp1_R01_Bits, hlen, hi, hi']
    exact ⟨rfl, rfl, by rw [hL0]; simp⟩
theorem rBits (va : Bs) (hb : va.2.length ≤ 8192) (hby : Bytes va.2) (H : Heap) : callW P f_R01_Bits [bv va] H = some (lst true 1 (some 0) (bls (bitsB va.2)), H) := by
  rw [ends_eq]
  refine call_post 6 32 rfl (rfl : P.T f_R01_Bits = some F_R01_Bits) rfl (le_ok rfl) (fun e σ G => e = .ret ∧ G = H ∧ resultsA F_R01_Bits.res σ = some (lst true 1 (some 30) (bls (bitsB va.2)))) ?_ ?_
  · rintro e σ G ⟨rfl, rfl, h⟩
    exact ⟨rfl, _, h, by simp, by simp⟩
  rw [F_R01_Bits]; simp -implicitDefEqProofs [-toCells, -AV.one, -forget, c_R01_Bits]
  repeat rw [Option.bind_assoc]
  refine Ends.block (P := PostO H va) (bits_out hb hby va.2.length _ _ ⟨0, by omega, rfl, by simp [lp1_R01_Bits, bls, bitsB]⟩) ?_
  rintro e σ1 G1 ⟨rfl, rfl, k2⟩
  generalize bls (bitsB va.2) = L0 at *
  simp -implicitDefEqProofs [-toCells, -AV.one, -forget, c_R01_Bits, k2]

/-! Bits got -/
def InvT (zx : Bool) (x : List Bool) (H : Heap) (a n : Nat) (z : Nat) (σ : List AV) (G : Heap) : Prop :=
  ∃ (k i v : Nat), k + z = n ∧ a + k = i ∧ v = numB x a k ∧ G = H ∧ σ = L 45 ((((((Tr.full 6).put (path 0) (lst zx 1 none (bls x))).put (path 1) (ai a)).put (path 2) (ai n)).put (path 9) (.c (.int .u64 (v : Int)))).put (path 10) (ai i))
def PostT (H : Heap) (x : List Bool) (a n : Nat) (e : AExit) (σ : List AV) (G : Heap) : Prop :=
  e = .exit 0 ∧ G = H ∧ kill [0, 10, 26, 27, 28, 29, 30] σ = L 45 ((((Tr.full 6).put (path 1) (ai a)).put (path 2) (ai n)).put (path 9) (.c (.int .u64 (numB x a n : Nat))))
theorem get_loop {zx : Bool} {x : List Bool} (hl : x.length ≤ 100000) {a n : Nat} (hn : n ≤ 64) (hle : a + n ≤ x.length) (z : Nat) (σ : List AV) (G : Heap) (hI : InvT zx x H a n z (kill (headK lp0_R01_Get) σ) G) :
    Ends (execW P f_R01_Get (.loop lp0_R01_Get) σ G) fun s => PostT H x a n s.e s.σ s.H := by
  refine loop_ends (fun z σ G => InvT zx x H a n z σ G) (PostT H x a n) ?_ z σ G hI
  clear hI z σ G
  rintro z σ G ⟨k, i, v, hz, hi, hv, rfl, rfl⟩
  obtain ⟨to, hto⟩ : ∃ t, a + n = t := ⟨_, rfl⟩
  have w1 : IntKind.i64.wrap ((a : Int) + n) = (to : Int) := by rw [wrap_i64 (by omega) (by omega)]; omega
  by_cases hk : k < n
  · have hlt : (i : Int) < to := by omega
    have hlt' : i < to := by omega
    obtain ⟨b, hb⟩ : ∃ b, x[i]? = some b := ⟨_, List.getElem?_eq_getElem (by omega)⟩
    have q1 := bls_at hb zx none .i64
    have hs := numB_succ (x := x) (a := a) (n := k) (b := b) (by rw [hi]; exact hb)
    rw [← hv] at hs
    have hvb : v < 9223372036854775808 := by
      have := numB_lt (x := x) (a := a) (n := k) (by omega)
      rw [← hv] at this
      have h63 : 2 ^ k ≤ 2 ^ 63 := Nat.pow_le_pow_right (by omega) (by omega)
      have : (2 : Nat) ^ 63 = 9223372036854775808 := by decide
      omega
    have w2 : IntKind.u64.wrap (2 * (v : Int)) = ((2 * v : Nat) : Int) := by rw [wrap_u64 (by omega) (by omega)]; omega
    obtain ⟨v2, hv2⟩ : ∃ t, 2 * v = t := ⟨_, rfl⟩
    rw [hv2] at w2 hs
    have w3 : IntKind.u64.wrap ((v2 : Int) + 1) = ((v2 + 1 : Nat) : Int) := by rw [wrap_u64 (by omega) (by omega)]; omega
    obtain ⟨v3, hv3⟩ : ∃ t, v2 + 1 = t := ⟨_, rfl⟩
    have w4 : IntKind.i64.wrap ((i : Int) + 1) = ((i + 1 : Nat) : Int) := by rw [wrap_i64 (by omega) (by omega)]; omega
    obtain ⟨i1, hi1⟩ : ∃ t, i + 1 = t := ⟨_, rfl⟩
    rw [hv3] at w3
    rw [hi1] at w4
    cases b with
    | true =>
      simp -implicitDefEqProofs [-toCells, -AV.one, -forget, c_R01_Get, lp0_R01_Get, w1, hlt, hlt', w2, w3, w4, q1]
      exact ⟨z - 1, by omega, k + 1, i1, v3, by omega, by omega, by rw [hs, ← hv3]; rfl, rfl, by simp⟩
    | false =>
      simp -implicitDefEqProofs [-toCells, -AV.one, -forget, c_R01_Get, lp0_R01_Get, w1, hlt, hlt', w2, w3, w4, q1]
      exact ⟨z - 1, by omega, k + 1, i1, v2, by omega, by omega, by rw [hs]; rfl, rfl, by simp⟩
  · have hkn : k = n := by omega
    subst hkn
    have hlt : ¬ (i : Int) < to := by omega
    have hlt' : ¬ i < to := by omega
    rw [hv]
    simp -implicitDefEqProofs [-toCells, -AV.one, -forget, c_R01_Get, lp0_R01_Get, w1, hlt, hlt']
    exact ⟨rfl, rfl, by simp⟩
theorem rGet (zx : Bool) (x : List Bool) (hl : x.length ≤ 100000) {a n : Nat} (hn : n ≤ 64) (ha : a ≤ 100000) (a' n' : Int) (ha' : a' = a) (hn' : n' = n) (H : Heap) :
    callW P f_R01_Get [lst zx 1 none (bls x), ai a', ai n'] H = some (.tup (if a + n ≤ x.length then [.c (.int .u64 (numB x a n : Nat)), ai (a + n : Nat), ai 0] else [.c (.int .u64 0), ai a, ai 8]), H) := by
  subst ha'; subst hn'
  have hlen : (bls x).length = x.length := bls_len x
  have h0 : ¬ (n : Int) < 0 := by omega
  have h1 : ¬ (n : Int) > 64 := by omega
  have h1' : ¬ (64 : Int) < n := by omega
  have h1'' : ¬ 64 < n := by omega
  have w0 : IntKind.i64.wrap ((x.length : Int) - a) = (x.length : Int) - a := wrap_i64 (by omega) (by omega)
  obtain ⟨to, hto⟩ : ∃ t, a + n = t := ⟨_, rfl⟩
  have w1 : IntKind.i64.wrap ((a : Int) + n) = (to : Int) := by rw [wrap_i64 (by omega) (by omega)]; omega
  by_cases hle : a + n ≤ x.length
  · have h2 : ¬ (n : Int) > (x.length : Int) - a := by omega
    have h2' : ¬ (x.length : Int) - a < n := by omega
    rw [if_pos hle, hto, ends_eq]
    refine call_post 6 45 rfl (rfl : P.T f_R01_Get = some F_R01_Get) rfl (le_ok rfl) (fun e σ G => e = .ret ∧ G = H ∧ resultsA F_R01_Get.res σ = some (.tup [.c (.int .u64 (numB x a n : Nat)), ai (to : Nat), ai 0])) ?_ ?_
    · rintro e σ G ⟨rfl, rfl, h⟩
      exact ⟨rfl, _, h, by simp, by simp⟩
    rw [F_R01_Get]; simp -implicitDefEqProofs [-toCells, -AV.one, -forget, c_R01_Get, h0, h1, h1', h1'', hlen, w0, h2, h2']
    repeat rw [Option.bind_assoc]
    refine Ends.block (P := PostT H x a n) (get_loop (zx := zx) hl hn hle n _ _ ⟨0, a, 0, by omega, rfl, by simp [numB, num], rfl, by simp [lp0_R01_Get]⟩) ?_
    rintro e σ1 G1 ⟨rfl, rfl, k2⟩
    simp -implicitDefEqProofs [-toCells, -AV.one, -forget, c_R01_Get, k2, w1]
  · have h2 : (n : Int) > (x.length : Int) - a := by omega
    have h2' : (x.length : Int) - a < n := by omega
    rw [if_neg hle]
    rw [call_L 6 rfl (rfl : P.T f_R01_Get = some F_R01_Get) (le_ok rfl)]; simp -implicitDefEqProofs [-toCells, -AV.one, -forget, F_R01_Get, c_R01_Get, h0, h1, h1', h1'', hlen, w0, h2, h2']
end
end Go.A.V.S

namespace Go.A.V.S
open Go Go.A
set_option linter.unusedSimpArgs false
set_option linter.unusedVariables false

section
variable {H : Heap}
abbrev vx (bs : List Nat) : AV := lst true 1 (some 21) (bls (bitsB bs))
def Inv0 (H : Heap) (bs : List Nat) (w : Nat) (z : Nat) (σ : List AV) (G : Heap) : Prop :=
  ∃ (k a : Nat), 0 < z ∧ k + z = 23 ∧ k * (w + 1) = a ∧ a ≤ 8 * bs.length ∧ lr bs w z = lr bs w 23 ∧ G = H
    ∧ σ = L 67 (((((Tr.full 7).put (path 1) (ai w)).put (path 7) (lst true 1 (some 21) (bls (bitsB bs)))).put (path 8) (lst true 1 (some 49) (nvs (lvals bs w k)))).put (path 9) (ai a))
def Post0 (H : Heap) (bs : List Nat) (w : Nat) (e : AExit) (σ : List AV) (G : Heap) : Prop :=
  G = H ∧ ((e = .exit 0 ∧ ∃ n a, lr bs w 23 = (n, 0) ∧ n * (w + 1) = a ∧ a ≤ 8 * bs.length ∧ kill [1, 13, 50, 51, 62, 63] σ = L 67 ((((Tr.full 7).put (path 7) (lst true 1 (some 21) (bls (bitsB bs)))).put (path 8) (lst true 1 (some 49) (nvs (lvals bs w n)))).put (path 9) (ai a)))
  ∨ (e = .ret ∧ ∃ er, resultsA F_R08_Read.res σ = some (.tup [nilS, ai 0, ai (er : Nat)]) ∧ er ≠ 0 ∧ lr bs w 23 = (0, er)))
theorem rl_loop {bs : List Nat} (hb : bs.length ≤ 8192) {w : Nat} (hw : w = 11 ∨ w = 15) (z : Nat) (σ : List AV) (G : Heap) (hI : Inv0 H bs w z (kill (headK lp0_R08_Read) σ) G) :
    Ends (execW P f_R08_Read (.loop lp0_R08_Read) σ G) fun s => Post0 H bs w s.e s.σ s.H := by
  refine loop_ends (fun z σ G => Inv0 H bs w z σ G) (Post0 H bs w) ?_ z σ G hI
  clear hI z σ G
  rintro z σ G ⟨k, x, hz, hk, hx0, hle, hlr, rfl, rfl⟩
  obtain ⟨z1, rfl⟩ : ∃ z1, z = z1 + 1 := ⟨z - 1, by omega⟩
  have hk22 : 22 - z1 = k := by omega
  rw [lr, hk22] at hlr
  obtain ⟨m8, hm8⟩ : ∃ m, 8 * bs.length = m := ⟨_, rfl⟩
  have hbl : (bitsB bs).length = m8 := by rw [bitsB_len, hm8]
  have hlen : (bls (bitsB bs)).length = m8 := by rw [bls_len, hbl]
  rw [hm8] at hle hlr
  have w1 : IntKind.i64.wrap ((m8 : Int) - x) = (m8 : Int) - x := wrap_i64 (by omega) (by omega)
  have w2 : IntKind.i64.wrap ((w : Int) + 1) = (w : Int) + 1 := wrap_i64 (by omega) (by omega)
  have w3 : IntKind.i64.wrap ((x : Int) + 1) = ((x + 1 : Nat) : Int) := by rw [wrap_i64 (by omega) (by omega)]; omega
  obtain ⟨x1, hx1⟩ : ∃ t, x + 1 = t := ⟨_, rfl⟩
  rw [hx1] at w3
  by_cases hs : m8 < x + (w + 1)
  · have hs' : (m8 : Int) - x < (w : Int) + 1 := by omega
    rw [hx0, if_pos hs] at hlr
    simp -implicitDefEqProofs [-toCells, -AV.one, -forget, c_R08_Read, lp0_R08_Read, hlen, w1, w2, hs']
    exact ⟨rfl, .inr ⟨rfl, 8, by simp [F_R08_Read], by omega, hlr.symm⟩⟩
  · have hs' : ¬ (m8 : Int) - x < (w : Int) + 1 := by omega
    rw [hx0, if_neg hs] at hlr
    have g := fun H => rGet true (bitsB bs) (by omega) (a := x1) (n := w) (by omega) (by omega) x1 w rfl rfl H
    rw [hbl] at g
    have hsle : x1 + w ≤ m8 := by omega
    simp only [hsle, if_true] at g
    obtain ⟨x2, hx2⟩ : ∃ t, x1 + w = t := ⟨_, rfl⟩
    rw [hx2] at g
    have e2 : numB (bitsB bs) x1 w = lnum bs w k := by rw [lnum, hx0, hx1]; rfl
    rw [e2] at g
    obtain ⟨b, hbx⟩ : ∃ b, (bitsB bs)[x]? = some b := ⟨_, List.getElem?_eq_getElem (by omega)⟩
    have q1 := bls_at hbx true (some 21) .i64
    have hmo : lmore bs w k = b.toNat := by
      rw [lmore, hx0]
      have := numAt_succ (bs := bs) (a := x) (n := 0) hbx
      rw [this]
      simp [numAt, num]
    have hn15 : lnum bs w k < 32768 := by
      have : lnum bs w k < 2 ^ w := by rw [← e2]; exact numB_lt (by omega)
      have : 2 ^ w ≤ 2 ^ 15 := Nat.pow_le_pow_right (by omega) (by omega)
      have : (2 : Nat) ^ 15 = 32768 := by decide
      omega
    have hsnoc := lvals_snoc bs w k
    obtain ⟨nv, hnv⟩ : ∃ nv, lnum bs w k = nv := ⟨_, rfl⟩
    rw [hmo] at hlr
    rw [hnv] at hlr g hn15 hsnoc
    by_cases h3 : nv = 0
    · subst h3
      rw [if_pos rfl] at hlr
      replace g : ∀ H, callW P f_R01_Get [lst true 1 none (bls (bitsB bs)), ai x1, ai w] H = some (.tup [.c (.int .u64 0), ai x2, ai 0], H) := g
      simp -implicitDefEqProofs [-toCells, -AV.one, -forget, c_R08_Read, lp0_R08_Read, hlen, w1, w2, w3, hs', g, q1]
      exact ⟨rfl, .inr ⟨rfl, 3, by simp [F_R08_Read], by omega, hlr.symm⟩⟩
    · have h3' : ¬ (nv : Int) = 0 := by omega
      rw [if_neg h3] at hlr
      have hap := fun σ H => app1 (m := P.md f_R08_Read) (d := 49) (bytes := 8) (v := ai nv) (R_R08_Read 49) (by omega) (by rw [nvs_len, lvals_len]; omega) (l := nvs (lvals bs w k)) (some 48) σ H
      rw [← nvs_snoc, ← hsnoc] at hap
      have wn : IntKind.i64.wrap (nv : Int) = nv := wrap_i64 (by omega) (by omega)
      obtain ⟨k1, hk1⟩ : ∃ t, k + 1 = t := ⟨_, rfl⟩
      have hlen2 : (nvs (lvals bs w (k + 1))).length = k1 := by rw [nvs_len, lvals_len, hk1]
      have hx2' : (k + 1) * (w + 1) = x2 := by rw [Nat.add_mul, hx0]; omega
      rw [hk1] at hap hlen2 hx2'
      cases b with
      | true =>
        simp only [Bool.toNat_true, if_true] at hlr
        by_cases h5 : k1 = 23
        · have h5' : (k1 : Int) = 23 := by omega
          have hz1 : z1 = 0 := by omega
          subst hz1
          simp -implicitDefEqProofs [-toCells, -AV.one, -forget, c_R08_Read, lp0_R08_Read, hlen, w1, w2, w3, hs', g, q1, h3, h3', wn, hap, hlen2, h5']
          exact ⟨rfl, .inr ⟨rfl, 2, by simp [F_R08_Read], by omega, hlr.symm⟩⟩
        · have h5' : ¬ (k1 : Int) = 23 := by omega
          simp -implicitDefEqProofs [-toCells, -AV.one, -forget, c_R08_Read, lp0_R08_Read, hlen, w1, w2, w3, hs', g, q1, h3, h3', wn, hap, hlen2, h5, h5']
          exact ⟨z1, by omega, k1, x2, by omega, by omega, hx2', by omega, hlr, rfl, by simp⟩
      | false =>
        simp only [Bool.toNat_false] at hlr
        rw [if_neg (by omega)] at hlr
        simp -implicitDefEqProofs [-toCells, -AV.one, -forget, c_R08_Read, lp0_R08_Read, hlen, w1, w2, w3, hs', g, q1, h3, h3', wn, hap, hlen2]
        exact ⟨rfl, .inl ⟨rfl, k1, x2, by rw [← hlr, hk1], hx2', by omega, by simp⟩⟩
def Inv1 (bs : List Nat) (out : AV) (a : Nat) (M : Heap) (z : Nat) (σ : List AV) (G : Heap) : Prop :=
  ∃ (j i : Nat), j + z = padN a ∧ a + j = i ∧ numAt bs a j = 0 ∧ G = M ∧ σ = L 67 ((((Tr.full 7).put (path 7) (lst true 1 (some 21) (bls (bitsB bs)))).put (path 8) (out)).put (path 9) (ai i))
def Post1 (bs : List Nat) (out : AV) (a : Nat) (M : Heap) (e : AExit) (σ : List AV) (G : Heap) : Prop :=
  G = M ∧ ((e = .exit 2 ∧ numAt bs a (padN a) = 0 ∧ kill [7, 55, 56, 57] σ = L 67 (((Tr.full 7).put (path 8) (out)).put (path 9) (ai (a + padN a : Nat))))
  ∨ (e = .ret ∧ numAt bs a (padN a) ≠ 0 ∧ resultsA F_R08_Read.res σ = some (.tup [nilS, ai 0, ai 3])))
theorem rl_pad {M : Heap} {l : List (List AV)} {bs : List Nat} (hb : bs.length ≤ 8192) {a : Nat} (ha : a ≤ 8 * bs.length) (z : Nat) (σ : List AV) (G : Heap) (hI : Inv1 bs (lst true 1 (some 49) l) a M z (kill (headK lp1_R08_Read) σ) G) :
    Ends (execW P f_R08_Read (.loop lp1_R08_Read) σ G) fun s => Post1 bs (lst true 1 (some 49) l) a M s.e s.σ s.H := by
  refine loop_ends (fun z σ G => Inv1 bs (lst true 1 (some 49) l) a M z σ G) (Post1 bs (lst true 1 (some 49) l) a M) ?_ z σ G hI
  clear hI z σ G
  rintro z σ G ⟨j, i, hz, hi, hn0, rfl, rfl⟩
  have hp : padN a = (8 - a % 8) % 8 := rfl
  have hple := padN_le ha
  have d1 : (i : Int).tmod 8 = ((i % 8 : Nat) : Int) := tmod8 i
  have d1' : (i : Int) % 8 = ((i % 8 : Nat) : Int) := by omega
  obtain ⟨m8, hm8⟩ : ∃ m, i % 8 = m := ⟨_, rfl⟩
  rw [hm8] at d1 d1'
  by_cases h0 : m8 = 0
  · have hjp : j = padN a := by omega
    have h0' : (m8 : Int) = 0 := by omega
    simp -implicitDefEqProofs [-toCells, -AV.one, -forget, c_R08_Read, lp1_R08_Read, d1, d1', h0, h0']
    refine ⟨rfl, .inl ⟨rfl, by rw [← hjp]; exact hn0, ?_⟩⟩
    rw [← hjp, hi]
    simp
  · have h0' : ¬ (m8 : Int) = 0 := by omega
    have hjp : j < padN a := by omega
    obtain ⟨b, hbx⟩ : ∃ b, (bitsB bs)[i]? = some b := ⟨_, List.getElem?_eq_getElem (by rw [bitsB_len]; omega)⟩
    have q1 := bls_at hbx true (some 21) .i64
    have hs := numAt_succ (bs := bs) (a := a) (n := j) (by rw [hi]; exact hbx)
    rw [hn0] at hs
    have w1 : IntKind.i64.wrap ((i : Int) + 1) = ((i + 1 : Nat) : Int) := by rw [wrap_i64 (by omega) (by omega)]; omega
    obtain ⟨i1, hi1⟩ : ∃ t, i + 1 = t := ⟨_, rfl⟩
    rw [hi1] at w1
    cases b with
    | true =>
      simp -implicitDefEqProofs [-toCells, -AV.one, -forget, c_R08_Read, lp1_R08_Read, d1, d1', h0, h0', q1]
      exact ⟨rfl, .inr ⟨rfl, numAt_more (j := j + 1) (by omega) (by rw [hs]; simp), by simp [F_R08_Read]⟩⟩
    | false =>
      simp -implicitDefEqProofs [-toCells, -AV.one, -forget, c_R08_Read, lp1_R08_Read, d1, d1', h0, h0', q1, w1]
      exact ⟨z - 1, by omega, j + 1, i1, by omega, by omega, by rw [hs]; rfl, rfl, by simp⟩
theorem rLens (b : Bs) (hb : b.2.length ≤ 8192) (hby : Bytes b.2) {w : Nat} (hw : w = 11 ∨ w = 15) (H : Heap) : callW P f_R08_Read [bv b, ai w] H = some (resL b.2 w none, H) := by
  have h44 := fun H => rBits b hb hby H
  rw [ends_eq]
  refine call_post 7 67 rfl (rfl : P.T f_R08_Read = some F_R08_Read) rfl (le_ok rfl) (fun e σ G => e = .ret ∧ G = H ∧ ∃ f, resultsA F_R08_Read.res σ = some (resL b.2 w f)) ?_ ?_
  · rintro e σ G ⟨rfl, rfl, f, h⟩
    exact ⟨rfl, _, h, by simp, by simp⟩
  rcases hw with rfl | rfl
  all_goals
    rw [F_R08_Read]; simp -implicitDefEqProofs [-toCells, -AV.one, -forget, c_R08_Read, h44]
    repeat rw [Option.bind_assoc]
  · refine Ends.block (P := Post0 H b.2 11) (rl_loop hb (.inl rfl) 23 _ _ ⟨0, 0, by omega, by omega, by omega, by omega, rfl, rfl, by simp [lp0_R08_Read, lvals, nvs]⟩) ?_
    rintro e σ1 G1 ⟨rfl, ⟨rfl, n, a, p1, p2, p3, p5⟩ | ⟨rfl, er, p1, p2, p3⟩⟩
    · have hok : 0 < n ∧ n ≤ 23 := by
        have := lr_ok (bs := b.2) (w := 11) 23 (by omega) (by rw [p1])
        rw [p1] at this
        simp only at this
        omega
      have hR : lensR b.2 11 = if numAt b.2 a (padN a) = 0 then (n, 0) else (0, 3) := by
        rw [lensR, p1]
        simp only [if_true]
        rw [p2]
      have hpl := padN_le p3
      have hq : (a + padN a) / 8 = lsize n 11 := by rw [← p2]; exact lsize_pad hok.1 hok.2
      have d1 : IntKind.i64.wrap (((a + padN a : Nat) : Int).tdiv 8) = (lsize n 11 : Nat) := by
        rw [tdiv8, hq]
        exact wrap_i64 (by omega) (by omega)
      have d1' : IntKind.i64.wrap (((a + padN a : Nat) : Int) / 8) = (lsize n 11 : Nat) := by
        have : ((a + padN a : Nat) : Int) / 8 = (((a + padN a) / 8 : Nat) : Int) := by omega
        rw [this, hq]
        exact wrap_i64 (by omega) (by omega)
      obtain ⟨L0, hL0⟩ : ∃ t, nvs (lvals b.2 11 n) = t := ⟨_, rfl⟩
      rw [hL0] at p5
      simp -implicitDefEqProofs [-toCells, -AV.one, -forget, c_R08_Read, p5]
      repeat rw [Option.bind_assoc]
      refine Ends.block (P := Post1 b.2 (lst true 1 (some 49) L0) a G1) (rl_pad hb p3 (padN a) _ _ ⟨0, a, by omega, by omega, by simp [numAt, num], rfl, by simp [lp1_R08_Read, p5]⟩) ?_
      rintro e σ2 G2 ⟨rfl, ⟨rfl, c1, c2⟩ | ⟨rfl, c1, c2⟩⟩
      · rw [if_pos c1] at hR
        generalize a + padN a = ap at *
        obtain ⟨ls, hls⟩ : ∃ t, lsize n 11 = t := ⟨_, rfl⟩
        rw [hls] at d1 d1'
        simp -implicitDefEqProofs [-toCells, -AV.one, -forget, c_R08_Read, c2, d1, d1']
        exact ⟨some 49, by rw [resL, hR]; simp [F_R08_Read, hL0, hls]⟩
      · rw [if_neg c1] at hR
        simp -implicitDefEqProofs [-toCells, -AV.one, -forget, c_R08_Read]
        exact ⟨none, by rw [resL, hR]; simpa [F_R08_Read] using c2⟩
    · have hR := lr_bad p3 p2
      simp -implicitDefEqProofs [-toCells, -AV.one, -forget, c_R08_Read]
      exact ⟨none, by rw [resL, hR]; simp [F_R08_Read] at p1; simp [F_R08_Read, p1, p2]⟩
  · refine Ends.block (P := Post0 H b.2 15) (rl_loop hb (.inr rfl) 23 _ _ ⟨0, 0, by omega, by omega, by omega, by omega, rfl, rfl, by simp [lp0_R08_Read, lvals, nvs]⟩) ?_
    rintro e σ1 G1 ⟨rfl, ⟨rfl, n, a, p1, p2, p3, p5⟩ | ⟨rfl, er, p1, p2, p3⟩⟩
    · have hok : 0 < n ∧ n ≤ 23 := by
        have := lr_ok (bs := b.2) (w := 15) 23 (by omega) (by rw [p1])
        rw [p1] at this
        simp only at this
        omega
      have hR : lensR b.2 15 = if numAt b.2 a (padN a) = 0 then (n, 0) else (0, 3) := by
        rw [lensR, p1]
        simp only [if_true]
        rw [p2]
      have hpl := padN_le p3
      have hq : (a + padN a) / 8 = lsize n 15 := by rw [← p2]; exact lsize_pad hok.1 hok.2
      have d1 : IntKind.i64.wrap (((a + padN a : Nat) : Int).tdiv 8) = (lsize n 15 : Nat) := by
        rw [tdiv8, hq]
        exact wrap_i64 (by omega) (by omega)
      have d1' : IntKind.i64.wrap (((a + padN a : Nat) : Int) / 8) = (lsize n 15 : Nat) := by
        have : ((a + padN a : Nat) : Int) / 8 = (((a + padN a) / 8 : Nat) : Int) := by omega
        rw [this, hq]
        exact wrap_i64 (by omega) (by omega)
      obtain ⟨L0, hL0⟩ : ∃ t, nvs (lvals b.2 15 n) = t := ⟨_, rfl⟩
      rw [hL0] at p5
      simp -implicitDefEqProofs [-toCells, -AV.one, -forget, c_R08_Read, p5]
      repeat rw [Option.bind_assoc]
      refine Ends.block (P := Post1 b.2 (lst true 1 (some 49) L0) a G1) (rl_pad hb p3 (padN a) _ _ ⟨0, a, by omega, by omega, by simp [numAt, num], rfl, by simp [lp1_R08_Read, p5]⟩) ?_
      rintro e σ2 G2 ⟨rfl, ⟨rfl, c1, c2⟩ | ⟨rfl, c1, c2⟩⟩
      · rw [if_pos c1] at hR
        generalize a + padN a = ap at *
        obtain ⟨ls, hls⟩ : ∃ t, lsize n 15 = t := ⟨_, rfl⟩
        rw [hls] at d1 d1'
        simp -implicitDefEqProofs [-toCells, -AV.one, -forget, c_R08_Read, c2, d1, d1']
        exact ⟨some 49, by rw [resL, hR]; simp [F_R08_Read, hL0, hls]⟩
      · rw [if_neg c1] at hR
        simp -implicitDefEqProofs [-toCells, -AV.one, -forget, c_R08_Read]
        exact ⟨none, by rw [resL, hR]; simpa [F_R08_Read] using c2⟩
    · have hR := lr_bad p3 p2
      simp -implicitDefEqProofs [-toCells, -AV.one, -forget, c_R08_Read]
      exact ⟨none, by rw [resL, hR]; simp [F_R08_Read] at p1; simp [F_R08_Read, p1, p2]⟩
end
end Go.A.V.S

namespace Go.A.V.S
open Go Go.A
set_option linter.unusedSimpArgs false
set_option linter.unusedVariables false

theorem bb_snoc (l : List Bs) (b : Bs) : bb (l ++ [b]) = bb l ++ [b.2] := by simp [bb]
section
variable {H : Heap}
def InvC (H : Heap) (b : Bs) (l : List Nat) (o : Option (List (List Nat))) (z : Nat) (σ : List AV) (G : Heap) : Prop :=
  ∃ (i a : Nat) (out : List Bs), i + z = l.length ∧ out.length = i ∧ a ≤ b.2.length ∧ G = H ∧ o = (cutF (b.2.drop a) (l.drop i)).map (bb out ++ ·)
    ∧ σ = L 71 ((((((Tr.full 7).put (path 0) (bv b)).put (path 8) (lst true 1 none (nvs l))).put (path 9) (ai a)).put (path 13) (lst true 1 (some 54) (bvs out))).put (path 14) (ai i))
def PostC (H : Heap) (b : Bs) (l : List Nat) (o : Option (List (List Nat))) (e : AExit) (σ : List AV) (G : Heap) : Prop :=
  G = H ∧ ((e = .exit 0 ∧ ∃ (a : Nat) (out : List Bs), a ≤ b.2.length ∧ out.length = l.length ∧ o = (cutF (b.2.drop a) []).map (bb out ++ ·) ∧ kill [8, 14, 28, 29, 30, 31] σ = L 71 ((((Tr.full 7).put (path 0) (bv b)).put (path 9) (ai a)).put (path 13) (lst true 1 (some 54) (bvs out))))
  ∨ (e = .ret ∧ o = none ∧ resultsA F_R09_Cut.res σ = some (.tup [nilS, ai 8])))
theorem cut_loop {b : Bs} {l : List Nat} {o : Option (List (List Nat))} (hb : b.2.length ≤ 10000) (hll : l.length ≤ 23) (hsm : ∀ n ∈ l, n ≤ 40000) (z : Nat) (σ : List AV) (G : Heap) (hI : InvC H b l o z (kill (headK lp0_R09_Cut) σ) G) :
    Ends (execW P f_R09_Cut (.loop lp0_R09_Cut) σ G) fun s => PostC H b l o s.e s.σ s.H := by
  refine loop_ends (fun z σ G => InvC H b l o z σ G) (PostC H b l o) ?_ z σ G hI
  clear hI z σ G
  rintro z σ G ⟨i, a, out, hz, ho, ha, rfl, hcut, rfl⟩
  have hlen : (nvs l).length = l.length := nvs_len l
  have hbl := bv_len b
  by_cases hi : i < l.length
  · have hi' : (i : Int) < l.length := by omega
    obtain ⟨n, hn⟩ : ∃ n, l[i]? = some n := ⟨_, List.getElem?_eq_getElem hi⟩
    have hn2 := hsm n (List.mem_of_getElem? hn)
    have q1 := nvs_at hn true none .i64
    have hdr : l.drop i = n :: l.drop (i + 1) := by
      rw [List.drop_eq_getElem_cons hi]
      rw [List.getElem?_eq_getElem hi] at hn
      rw [Option.some.inj hn]
    rw [hdr, cutF, List.length_drop] at hcut
    have w1 : IntKind.i64.wrap ((a : Int) + n) = ((a + n : Nat) : Int) := by rw [wrap_i64 (by omega) (by omega)]; omega
    obtain ⟨to, hto⟩ : ∃ t, a + n = t := ⟨_, rfl⟩
    rw [hto] at w1
    by_cases hc : b.2.length < to
    · have hc' : (to : Int) > b.2.length := by omega
      have hc'' : (b.2.length : Int) < to := by omega
      rw [if_pos (by omega), Option.map_none] at hcut
      simp -implicitDefEqProofs [-toCells, -AV.one, -forget, c_R09_Cut, lp0_R09_Cut, hlen, hbl, hi, hi', q1, w1, hc, hc', hc'']
      exact ⟨rfl, .inr ⟨rfl, hcut, by simp [F_R09_Cut]⟩⟩
    · have hc' : ¬ (to : Int) > b.2.length := by omega
      have hc'' : ¬ (b.2.length : Int) < to := by omega
      rw [if_neg (by omega)] at hcut
      have c1 := fun d => bv_cut (b := b) (lo := some (ai a)) (hi := some (ai to)) (i := a) (j := to) (.inr ⟨.i64, rfl⟩) (.inr ⟨.i64, rfl⟩) (by omega) (by omega) d
      have e1 : (bcut b a to).2 = (b.2.drop a).take n := by simp only [bcut]; rw [List.drop_take]; congr 1; omega
      obtain ⟨x, hx⟩ : ∃ x, bcut b a to = x := ⟨_, rfl⟩
      rw [hx] at c1 e1
      have hap := fun σ H => app1 (m := P.md f_R09_Cut) (d := 54) (bytes := 24) (v := bv x) (R_R09_Cut 54) (by omega) (by rw [bvs_len]; omega) (l := bvs out) (some 53) σ H
      rw [← bvs_snoc] at hap
      have w6 : IntKind.i64.wrap ((i : Int) + 1) = ((i + 1 : Nat) : Int) := by rw [wrap_i64 (by omega) (by omega)]; omega
      obtain ⟨i1, hi1⟩ : ∃ t, i + 1 = t := ⟨_, rfl⟩
      rw [hi1] at w6 hcut
      simp -implicitDefEqProofs [-toCells, -AV.one, -forget, c_R09_Cut, lp0_R09_Cut, hlen, hbl, hi, hi', q1, w1, hc, hc', hc'', c1, hap, w6]
      refine ⟨z - 1, by omega, i1, to, out ++ [x], by omega, by simp; omega, by omega, rfl, ?_, by simp⟩
      rw [hcut, bb_snoc, e1, List.drop_drop, hto]
      cases cutF (b.2.drop to) (l.drop i1) with
      | none => rfl
      | some r => simp
  · have hi' : ¬ (i : Int) < l.length := by omega
    have hd : l.drop i = [] := List.drop_eq_nil_of_le (by omega)
    rw [hd] at hcut
    simp -implicitDefEqProofs [-toCells, -AV.one, -forget, c_R09_Cut, lp0_R09_Cut, hlen, hi, hi']
    exact ⟨rfl, .inl ⟨rfl, a, out, ha, by omega, hcut, by simp⟩⟩
def PostE (H : Heap) (r : Nat × List (List Nat)) (e : AExit) (σ : List AV) (G : Heap) : Prop :=
  e = .ret ∧ G = H ∧ ∃ (out : List Bs) (f : Option Nat), bb out = r.2 ∧ resultsA F_R09_Cut.res σ = some (.tup [lst true 1 f (bvs out), ai (r.1 : Nat)])
theorem rCut (b : Bs) (hb : b.2.length ≤ 8192) (hby : Bytes b.2) (more : Bool) {w : Nat} (hw : w = 11 ∨ w = 15) (H : Heap) :
    ∃ out : List Bs, bb out = (cutR b.2 more w).2 ∧ callW P f_R09_Cut [bv b, ab more, ai w] H = some (.tup [lst true 1 none (bvs out), ai ((cutR b.2 more w).1 : Nat)], H) := by
  suffices hs : Ends (callW P f_R09_Cut [bv b, ab more, ai w] H) fun y => ∃ out : List Bs, bb out = (cutR b.2 more w).2 ∧ y = (.tup [lst true 1 none (bvs out), ai ((cutR b.2 more w).1 : Nat)], H) by
    obtain ⟨y, h2, out, h3, rfl⟩ := hs
    exact ⟨out, h3, h2⟩
  refine call_post 7 71 rfl (rfl : P.T f_R09_Cut = some F_R09_Cut) rfl (le_ok rfl) (PostE H (cutR b.2 more w)) ?_ ?_
  · rintro e σ G ⟨rfl, rfl, out, f, h1, h2⟩
    exact ⟨rfl, _, h2, by simp, by simp; exact ⟨out, h1, rfl⟩⟩
  have h46 := fun H => rLens b hb hby hw H
  have hbl := bv_len b
  cases more with
  | true =>
    by_cases he : (lensR b.2 w).2 = 0
    · have hok := lensR_ok he
      have hR : cutR b.2 true w = cutE (cutF (b.2.drop (lsize (lensR b.2 w).1 w)) (lvals b.2 w (lensR b.2 w).1)) := by rw [cutR, if_pos rfl, if_pos he]
      have hr : resL b.2 w none = .tup [lst true 1 none (nvs (lvals b.2 w (lensR b.2 w).1)), ai (lsize (lensR b.2 w).1 w : Nat), ai 0] := by rw [resL, if_pos he]
      rw [hr] at h46
      have hlvl : (lvals b.2 w (lensR b.2 w).1).length ≤ 23 := by rw [lvals_len]; omega
      have hsm : ∀ n ∈ lvals b.2 w (lensR b.2 w).1, n ≤ 40000 := fun n hn => by
        obtain ⟨k, hk, rfl⟩ := List.mem_map.1 hn
        rw [List.mem_range] at hk
        have h1 : (k + 1) * (w + 1) ≤ (lensR b.2 w).1 * (w + 1) := Nat.mul_le_mul_right _ hk
        have h2 : (k + 1) * (w + 1) = k * (w + 1) + (w + 1) := by rw [Nat.add_mul]; omega
        have h3 := numAt_lt (bs := b.2) (a := k * (w + 1) + 1) (n := w) (by omega)
        have h4 : 2 ^ w ≤ 2 ^ 15 := Nat.pow_le_pow_right (by omega) (by omega)
        have h5 : (2 : Nat) ^ 15 = 32768 := by decide
        show numAt b.2 (k * (w + 1) + 1) w ≤ 40000
        omega
      have hsz : lsize (lensR b.2 w).1 w ≤ b.2.length := by
        rw [lsize, if_neg (by omega)]; omega
      obtain ⟨l, hl⟩ : ∃ t, lvals b.2 w (lensR b.2 w).1 = t := ⟨_, rfl⟩
      obtain ⟨a, ha⟩ : ∃ t, lsize (lensR b.2 w).1 w = t := ⟨_, rfl⟩
      rw [hl] at h46 hR hlvl hsm
      rw [ha] at h46 hR hsz
      obtain ⟨o, hO⟩ : ∃ t, cutF (b.2.drop a) l = t := ⟨_, rfl⟩
      rw [hO] at hR
      rw [F_R09_Cut]; simp -implicitDefEqProofs [-toCells, -AV.one, -forget, c_R09_Cut, h46]
      repeat rw [Option.bind_assoc]
      refine Ends.block (P := PostC H b l o) (cut_loop (by omega) (by omega) hsm l.length _ _ ⟨0, a, [], by omega, rfl, by omega, rfl, by rw [← hO]; simp [bb], by simp [lp0_R09_Cut, bvs]⟩) ?_
      rintro e σ1 G1 ⟨rfl, ⟨rfl, a', out, p2, p3, p5, p6⟩ | ⟨rfl, p1, p2⟩⟩
      · rw [cutF, List.length_drop] at p5
        by_cases h0 : (a' : Int) ≥ b.2.length
        · have h0' : (b.2.length : Int) ≤ a' := h0
          have h0'' : b.2.length ≤ a' := by omega
          rw [if_pos (by omega), Option.map_none] at p5
          rw [hR, p5]
          simp -implicitDefEqProofs [-toCells, -AV.one, -forget, c_R09_Cut, p6, hbl, h0, h0', h0'']
          exact ⟨rfl, rfl, [], none, rfl, by simp [F_R09_Cut, bvs, cutE]⟩
        · have h0' : ¬ (b.2.length : Int) ≤ a' := h0
          have h0'' : ¬ b.2.length ≤ a' := by omega
          rw [if_neg (by omega)] at p5
          have c3 := fun d => bv_from (b := b) (i := a') (by omega) .i64 d
          have e2 := bcut_from b a'
          obtain ⟨x, hx⟩ : ∃ x, bcut b a' b.2.length = x := ⟨_, rfl⟩
          rw [hx] at c3 e2
          have hol : out.length ≤ 23 := by rw [p3]; omega
          obtain ⟨cs, hap⟩ := appW_c (m := P.md f_R09_Cut) (d := 70) (sz := 1) (bytes := 24) (c := 54) (l := bvs out) (l' := [[bv x]]) (x := .vs 1 (some 69) [[bv x]]) (R_R09_Cut 70) (fun H => elems_vs H 1 (some 69) [[bv x]]) (.inr (by simp)) (by simp [bvs_len, appBound]; omega) (by simp [bvs_len, appBound]; omega)
          rw [← bvs_snoc] at hap
          rw [hR, p5]
          have hne : bvs (out ++ [x]) ≠ [] := by simp [bvs]
          obtain ⟨L0, hL0⟩ : ∃ t, bvs (out ++ [x]) = t := ⟨_, rfl⟩
          rw [hL0] at hap hne
          simp -implicitDefEqProofs [-toCells, -AV.one, -forget, c_R09_Cut, p6, hbl, h0, h0', h0'', c3, hap]
          exact ⟨rfl, rfl, out ++ [x], some 70, by simp [bb_snoc, cutE, e2], by simp [F_R09_Cut, cutE, hL0, lst_ne hne]⟩
      · rw [hR, p1]
        simp -implicitDefEqProofs [-toCells, -AV.one, -forget, c_R09_Cut]
        exact ⟨rfl, rfl, [], none, rfl, p2⟩
    · have hR : cutR b.2 true w = ((lensR b.2 w).2, []) := by rw [cutR, if_pos rfl, if_neg he]
      have hr : resL b.2 w none = .tup [nilS, ai 0, ai ((lensR b.2 w).2 : Nat)] := by rw [resL, if_neg he]
      rw [hr] at h46
      obtain ⟨ee, hee⟩ : ∃ x, (lensR b.2 w).2 = x := ⟨_, rfl⟩
      rw [hee] at h46 hR he
      have he' : ¬ (ee : Int) = 0 := by omega
      rw [hR]
      rw [F_R09_Cut]; simp -implicitDefEqProofs [-toCells, -AV.one, -forget, c_R09_Cut, h46, he, he']
      exact ⟨rfl, rfl, [], none, rfl, by simp [F_R09_Cut, bvs]⟩
  | false =>
    have hR : cutR b.2 false w = cutE (cutF (b.2.drop 0) []) := by rw [cutR, if_neg (by simp)]; rfl
    obtain ⟨o, hO⟩ : ∃ t, cutF (b.2.drop 0) ([] : List Nat) = t := ⟨_, rfl⟩
    rw [hO] at hR
    rw [F_R09_Cut]; simp -implicitDefEqProofs [-toCells, -AV.one, -forget, c_R09_Cut, h46]
    repeat rw [Option.bind_assoc]
    refine Ends.block (P := PostC H b ([] : List Nat) o) (cut_loop (by omega) (by simp) (by simp) ([] : List Nat).length _ _ ⟨0, 0, [], by omega, rfl, by omega, rfl, by rw [← hO]; simp [bb], by simp [lp0_R09_Cut, bvs, nvs]⟩) ?_
    rintro e σ1 G1 ⟨rfl, ⟨rfl, a', out, p2, p3, p5, p6⟩ | ⟨rfl, p1, p2⟩⟩
    · rw [cutF, List.length_drop] at p5
      by_cases h0 : (a' : Int) ≥ b.2.length
      · have h0' : (b.2.length : Int) ≤ a' := h0
        have h0'' : b.2.length ≤ a' := by omega
        rw [if_pos (by omega), Option.map_none] at p5
        rw [hR, p5]
        simp -implicitDefEqProofs [-toCells, -AV.one, -forget, c_R09_Cut, p6, hbl, h0, h0', h0'']
        exact ⟨rfl, rfl, [], none, rfl, by simp [F_R09_Cut, bvs, cutE]⟩
      · have h0' : ¬ (b.2.length : Int) ≤ a' := h0
        have h0'' : ¬ b.2.length ≤ a' := by omega
        rw [if_neg (by omega)] at p5
        have c3 := fun d => bv_from (b := b) (i := a') (by omega) .i64 d
        have e2 := bcut_from b a'
        obtain ⟨x, hx⟩ : ∃ x, bcut b a' b.2.length = x := ⟨_, rfl⟩
        rw [hx] at c3 e2
        have hol : out.length ≤ 23 := by rw [p3]; simp
        obtain ⟨cs, hap⟩ := appW_c (m := P.md f_R09_Cut) (d := 70) (sz := 1) (bytes := 24) (c := 54) (l := bvs out) (l' := [[bv x]]) (x := .vs 1 (some 69) [[bv x]]) (R_R09_Cut 70) (fun H => elems_vs H 1 (some 69) [[bv x]]) (.inr (by simp)) (by simp [bvs_len, appBound]; omega) (by simp [bvs_len, appBound]; omega)
        rw [← bvs_snoc] at hap
        rw [hR, p5]
        have hne : bvs (out ++ [x]) ≠ [] := by simp [bvs]
        obtain ⟨L0, hL0⟩ : ∃ t, bvs (out ++ [x]) = t := ⟨_, rfl⟩
        rw [hL0] at hap hne
        simp -implicitDefEqProofs [-toCells, -AV.one, -forget, c_R09_Cut, p6, hbl, h0, h0', h0'', c3, hap]
        exact ⟨rfl, rfl, out ++ [x], some 70, by simp [bb_snoc, cutE, e2], by simp [F_R09_Cut, cutE, hL0, lst_ne hne]⟩
    · rw [hR, p1]
      simp -implicitDefEqProofs [-toCells, -AV.one, -forget, c_R09_Cut]
      exact ⟨rfl, rfl, [], none, rfl, p2⟩
end
end Go.A.V.S

namespace Go.A.V.S
open Go Go.A
set_option linter.unusedSimpArgs false
set_option linter.unusedVariables false

theorem rdRow_new {H : Heap} {cs : List AV} {i n g : Nat} (h1 : g = cs.length) (h2 : i + n ≤ g) : rdRow (H ++ [.row cs]) H.length i n g = some ((cs.drop i).take n) := by
  subst h1
  exact rdRow_row (get_new H (.row cs)) h2
theorem store_new1 (σ : List AV) {H : Heap} {cs : List AV} {i g : Nat} {v : AV} (h1 : g = cs.length) (h2 : i < g) (h3 : okCell v = true) : storeA σ (H ++ [.row cs]) none (.ptr H.length i g) v = some (σ, H ++ [.row (cs.set i v)]) := by
  subst h1
  rw [storeA_row σ (get_new H (.row cs)) h2 h3, set_new]
theorem store_newA (σ : List AV) {H : Heap} {cs vs : List AV} {k : Nat} (h1 : cs.length = k) (h2 : vs.length = k) (h3 : vs.all okCell = true) : storeA σ (H ++ [.row cs]) (some k) (.ptr H.length 0 k) (.agg vs) = some (σ, H ++ [.row vs]) := storeA_new σ H h1 h2 h3
section
set_option maxHeartbeats 2000000 in
theorem rHeadR (zx : Bool) {bs : List Nat} {w : Nat} (hw : w = 10 ∨ w = 16) (hlen : bs.length = headV (hPart bs) w) (H : Heap) :
    callW P f_R10_head [lst zx 1 none (bls (bitsB bs)), ai w] H = some (.tup (if hOk bs w = true then [.agg (hPkt bs w nilS), ab (hMore bs), ab true] else [.agg noPkt, ab false, ab false]), H ++ [.other]) := by
  rw [headV_eq hw] at hlen
  have hbl : (bitsB bs).length = 8 * bs.length := bitsB_len bs
  have hsmall : bs.length ≤ 5 := by
    rw [hlen]
    split <;> split <;> omega
  have h2le : 2 ≤ bs.length := by
    rw [hlen]
    split <;> split <;> omega
  have gR : ∀ (a n : Nat) (a' n' : Int), a' = a → n' = n → n ≤ 64 → a + n ≤ 8 * bs.length → ∀ H, callW P f_R01_Get [lst zx 1 none (bls (bitsB bs)), ai a', ai n'] H = some (.tup [.c (.int .u64 (numAt bs a n : Nat)), ai (a + n : Nat), ai 0], H) := fun a n a' n' ha hn h1 h2 H => by
    have := rGet zx (bitsB bs) (by rw [hbl]; omega) (a := a) (n := n) h1 (by omega) a' n' ha hn H
    rw [if_pos (by omega), numB_bits] at this
    exact this
  have gB : ∀ i, i < 8 * bs.length → ∃ b, numAt bs i 1 = b.toNat ∧ iaddrW 1 none (lst zx 1 none (bls (bitsB bs))) (ai i) = some (.vp [ab b] 0) := fun i hi => by
    obtain ⟨b, hb, hn⟩ := bitAt hi
    exact ⟨b, hn, bls_at hb zx none .i64⟩
  obtain ⟨b1, n1, q1⟩ := gB 1 (by omega)
  obtain ⟨b2, n2, q2⟩ := gB 2 (by omega)
  obtain ⟨b5, n5, q5⟩ := gB 5 (by omega)
  obtain ⟨b6, n6, q6⟩ := gB 6 (by omega)
  obtain ⟨b7, n7, q7⟩ := gB 7 (by omega)
  replace q1 : iaddrW 1 none (lst zx 1 none (bls (bitsB bs))) (ai 1) = some (.vp [ab b1] 0) := q1
  replace q2 : iaddrW 1 none (lst zx 1 none (bls (bitsB bs))) (ai 2) = some (.vp [ab b2] 0) := q2
  replace q5 : iaddrW 1 none (lst zx 1 none (bls (bitsB bs))) (ai 5) = some (.vp [ab b5] 0) := q5
  replace q6 : iaddrW 1 none (lst zx 1 none (bls (bitsB bs))) (ai 6) = some (.vp [ab b6] 0) := q6
  replace q7 : iaddrW 1 none (lst zx 1 none (bls (bitsB bs))) (ai 7) = some (.vp [ab b7] 0) := q7
  have g3 : ∀ H, callW P f_R01_Get [lst zx 1 none (bls (bitsB bs)), ai 3, ai 2] H = some (.tup [.c (.int .u64 (numAt bs 3 2 : Nat)), ai 5, ai 0], H) := gR 3 2 3 2 rfl rfl (by omega) (by omega)
  have w3 : IntKind.i64.wrap (numAt bs 3 2 : Nat) = (numAt bs 3 2 : Nat) := by
    have := numAt_small (bs := bs) (a := 3) (n := 2) (k := 16) (by omega) (by omega)
    exact wrap_i64 (by omega) (by omega)
  have hP : hPart bs = b1 := by rw [hPart, n1, bitD]
  have hO : hPoll bs = b2 := by rw [hPoll, n2, bitD]
  have hM : hMore bs = b5 := by rw [hMore, n5, bitD]
  have e56 : IntKind.i64.wrap 6 = 6 := rfl
  have e67 : IntKind.i64.wrap 7 = 7 := rfl
  have e68 : IntKind.i64.wrap 8 = 8 := rfl
  have e1617 : IntKind.i64.wrap 17 = 17 := rfl
  rcases hw with rfl | rfl
  · have o10 : ∀ H, callW P f_R10_widths [ai 10] H = some (.tup [ai 11, ai 15], H) := fun H => rWidths 10 H
    have g6 : ∀ H, callW P f_R01_Get [lst zx 1 none (bls (bitsB bs)), ai 6, ai 10] H = some (.tup [.c (.int .u64 (numAt bs 6 10 : Nat)), ai 16, ai 0], H) := gR 6 10 6 10 rfl rfl (by omega) (by omega)
    have w6 : IntKind.i64.wrap (numAt bs 6 10 : Nat) = (numAt bs 6 10 : Nat) := by
      have := numAt_small (bs := bs) (a := 6) (n := 10) (k := 16) (by omega) (by omega)
      exact wrap_i64 (by omega) (by omega)
    cases b1 with
    | true =>
      rw [hP] at hlen
      simp at hlen
      obtain ⟨b16, n16, q16⟩ := gB 16 (by omega)
      replace q16 : iaddrW 1 none (lst zx 1 none (bls (bitsB bs))) (ai 16) = some (.vp [ab b16] 0) := q16
      have g17 : ∀ H, callW P f_R01_Get [lst zx 1 none (bls (bitsB bs)), ai 17, ai 15] H = some (.tup [.c (.int .u64 (numAt bs 17 15 : Nat)), ai 32, ai 0], H) := gR 17 15 17 15 rfl rfl (by omega) (by omega)
      have w17 : IntKind.i64.wrap (numAt bs 17 15 : Nat) = (numAt bs 17 15 : Nat) := by
        have := numAt_small (bs := bs) (a := 17) (n := 15) (k := 16) (by omega) (by omega)
        exact wrap_i64 (by omega) (by omega)
      rw [call_L 7 rfl (rfl : P.T f_R10_head = some F_R10_head) (le_ok rfl)]; simp -implicitDefEqProofs [-toCells, -AV.one, -forget, F_R10_head, c_R10_head, keepB, goodB_L, sameV, dstNot, dstNe, SOpG.reads, SOp.slots, SX.slots, SOp.noL, rdV, selfE_lst, selfE, selfEs, eqV, rdRow_new, store_new1, store_newA, o10, q1, q2, q5, q6, q7, g3, w3, g6, w6, e56, e67, e68, e1617, hOk, hPkt, pktV, noPkt, hP, hO, hM, hLast, hFI, hSN, hOff, n6, n7, n16, bitD, q16, g17, w17]
    | false =>
      rw [call_L 7 rfl (rfl : P.T f_R10_head = some F_R10_head) (le_ok rfl)]; simp -implicitDefEqProofs [-toCells, -AV.one, -forget, F_R10_head, c_R10_head, keepB, goodB_L, sameV, dstNot, dstNe, SOpG.reads, SOp.slots, SX.slots, SOp.noL, rdV, selfE_lst, selfE, selfEs, eqV, rdRow_new, store_new1, store_newA, o10, q1, q2, q5, q6, q7, g3, w3, g6, w6, e56, e67, e68, e1617, hOk, hPkt, pktV, noPkt, hP, hO, hM, hLast, hFI, hSN, hOff, n6, n7, bitD]
  · have o16 : ∀ H, callW P f_R10_widths [ai 16] H = some (.tup [ai 15, ai 16], H) := fun H => rWidths 16 H
    have hl3 : 3 ≤ bs.length := by
      rw [hlen]
      simp
    have g8 : ∀ H, callW P f_R01_Get [lst zx 1 none (bls (bitsB bs)), ai 8, ai 16] H = some (.tup [.c (.int .u64 (numAt bs 8 16 : Nat)), ai 24, ai 0], H) := gR 8 16 8 16 rfl rfl (by omega) (by omega)
    have w8 : IntKind.i64.wrap (numAt bs 8 16 : Nat) = (numAt bs 8 16 : Nat) := by
      have := numAt_small (bs := bs) (a := 8) (n := 16) (k := 16) (by omega) (by omega)
      exact wrap_i64 (by omega) (by omega)
    cases b1 with
    | true =>
      rw [hP] at hlen
      simp at hlen
      have g24 : ∀ H, callW P f_R01_Get [lst zx 1 none (bls (bitsB bs)), ai 24, ai 16] H = some (.tup [.c (.int .u64 (numAt bs 24 16 : Nat)), ai 40, ai 0], H) := gR 24 16 24 16 rfl rfl (by omega) (by omega)
      have w24 : IntKind.i64.wrap (numAt bs 24 16 : Nat) = (numAt bs 24 16 : Nat) := by
        have := numAt_small (bs := bs) (a := 24) (n := 16) (k := 16) (by omega) (by omega)
        exact wrap_i64 (by omega) (by omega)
      cases b7 <;> cases b6 <;> (rw [call_L 7 rfl (rfl : P.T f_R10_head = some F_R10_head) (le_ok rfl)]; simp -implicitDefEqProofs [-toCells, -AV.one, -forget, F_R10_head, c_R10_head, keepB, goodB_L, sameV, dstNot, dstNe, SOpG.reads, SOp.slots, SX.slots, SOp.noL, rdV, selfE_lst, selfE, selfEs, eqV, rdRow_new, store_new1, store_newA, o16, q1, q2, q5, q6, q7, g3, w3, g8, w8, e56, e67, e68, e1617, hOk, hPkt, pktV, noPkt, hP, hO, hM, hLast, hFI, hSN, hOff, n6, n7, bitD, g24, w24])
    | false =>
      cases b7 <;> cases b6 <;> (rw [call_L 7 rfl (rfl : P.T f_R10_head = some F_R10_head) (le_ok rfl)]; simp -implicitDefEqProofs [-toCells, -AV.one, -forget, F_R10_head, c_R10_head, keepB, goodB_L, sameV, dstNot, dstNe, SOpG.reads, SOp.slots, SX.slots, SOp.noL, rdV, selfE_lst, selfE, selfEs, eqV, rdRow_new, store_new1, store_newA, o16, q1, q2, q5, q6, q7, g3, w3, g8, w8, e56, e67, e68, e1617, hOk, hPkt, pktV, noPkt, hP, hO, hM, hLast, hFI, hSN, hOff, n6, n7, bitD])
end
end Go.A.V.S

namespace Go.A.V.S
open Go Go.A
set_option linter.unusedSimpArgs false
set_option linter.unusedVariables false

section
variable {H : Heap}
def InvR (H : Heap) (b : Bs) (l : List Nat) (n lw : Nat) (Q : List AV) (z : Nat) (σ : List AV) (G : Heap) : Prop :=
  ∃ i : Nat, i + z = l.length ∧ (∀ j m, j < i → l[j]? = some m → m ≤ 2047) ∧ G = H ∧
    σ = L 109 (((((((((Tr.full 7).put (path 0) (bv b)).put (path 4) (.lbox noPkt)).put (path 6) (ai n)).put (path 7) (.lbox Q)).put (path 8) (ab true)).put (path 10) (ai lw)).put (path 12) (lst true 1 none (nvs l))).put (path 15) (ai i))
def PostR (H : Heap) (b : Bs) (l : List Nat) (n lw : Nat) (Q : List AV) (e : AExit) (σ : List AV) (G : Heap) : Prop :=
  G = H ∧ ((e = .exit 0 ∧ (l.any fun n => decide (2047 < n)) = false ∧ kill [12, 15, 66, 80, 81, 82, 83] σ = L 109 (((((((Tr.full 7).put (path 0) (bv b)).put (path 4) (.lbox noPkt)).put (path 6) (ai n)).put (path 7) (.lbox Q)).put (path 8) (ab true)).put (path 10) (ai lw)))
   ∨ (e = .ret ∧ (l.any fun n => decide (2047 < n)) = true ∧ resultsA F_R10_Read.res σ = some (.tup [.agg noPkt, ai 3])))
theorem rr_loop {b : Bs} {l : List Nat} (hll : l.length ≤ 100000) (n lw : Nat) (Q : List AV) (z : Nat) (σ : List AV) (G : Heap) (hI : InvR H b l n lw Q z (kill (headK lp0_R10_Read) σ) G) :
    Ends (execW P f_R10_Read (.loop lp0_R10_Read) σ G) fun s => PostR H b l n lw Q s.e s.σ s.H := by
  refine loop_ends (fun z σ G => InvR H b l n lw Q z σ G) (PostR H b l n lw Q) ?_ z σ G hI
  clear hI z σ G
  rintro z σ G ⟨i, hz, hall, rfl, rfl⟩
  have hlen : (nvs l).length = l.length := nvs_len l
  by_cases hi : i < l.length
  · have hi' : (i : Int) < l.length := by omega
    obtain ⟨m, hm⟩ : ∃ m, l[i]? = some m := ⟨_, List.getElem?_eq_getElem hi⟩
    have q1 := nvs_at hm true none .i64
    have w1 : IntKind.i64.wrap ((i : Int) + 1) = ((i + 1 : Nat) : Int) := by rw [wrap_i64 (by omega) (by omega)]; omega
    obtain ⟨i1, hi1⟩ : ∃ i1, i + 1 = i1 := ⟨_, rfl⟩
    rw [hi1] at w1
    by_cases h2 : m > 2047
    · have h2' : (m : Int) > 2047 := by omega
      have h2'' : (2047 : Int) < m := by omega
      have h2''' : 2047 < m := by omega
      simp -implicitDefEqProofs [-toCells, -AV.one, -forget, c_R10_Read, lp0_R10_Read, hlen, hi, hi', q1, h2, h2', h2'', h2''', noPkt, pktV]
      refine ⟨rfl, .inr ⟨rfl, ?_, by simp [F_R10_Read, noPkt, pktV]⟩⟩
      exact List.any_eq_true.2 ⟨m, List.mem_of_getElem? hm, by simp; omega⟩
    · have h2' : ¬ (m : Int) > 2047 := by omega
      have h2'' : ¬ (2047 : Int) < m := by omega
      have h2''' : ¬ 2047 < m := by omega
      simp -implicitDefEqProofs [-toCells, -AV.one, -forget, c_R10_Read, lp0_R10_Read, hlen, hi, hi', q1, h2, h2', h2'', h2''', w1]
      refine ⟨z - 1, by omega, i1, by omega, fun j x hj hx => ?_, rfl, by simp⟩
      by_cases hji : j < i
      · exact hall j x hji hx
      · have : j = i := by omega
        subst this
        rw [hm] at hx
        obtain rfl := Option.some.inj hx
        omega
  · have hi' : ¬ (i : Int) < l.length := by omega
    simp -implicitDefEqProofs [-toCells, -AV.one, -forget, c_R10_Read, lp0_R10_Read, hlen, hi, hi']
    refine ⟨rfl, .inl ⟨rfl, ?_, by simp⟩⟩
    refine List.any_eq_false.2 fun m hm => ?_
    obtain ⟨j, hj⟩ := List.getElem?_of_mem hm
    have hjl := (List.getElem?_eq_some_iff.1 hj).1
    have := hall j m (by omega) hj
    simp
    omega
def PostRR (H : Heap) (bs : List Nat) (w : Int) (e : AExit) (σ : List AV) (G : Heap) : Prop :=
  e = .ret ∧ ∃ (out : List Bs) (k : Nat), bb out = (readR bs w).2 ∧ resultsA F_R10_Read.res σ = some (readV bs w (lst true 1 none (bvs out))) ∧ G = H ++ List.replicate k .other
set_option maxHeartbeats 2000000 in
theorem rRead (b : Bs) (hb : b.2.length ≤ 8192) (hby : Bytes b.2) (w : Int) (H : Heap) :
    ∃ (out : List Bs) (k : Nat), bb out = (readR b.2 w).2 ∧ callW P f_R10_Read [bv b, ai w] H = some (readV b.2 w (lst true 1 none (bvs out)), H ++ List.replicate k .other) := by
  suffices hs : Ends (callW P f_R10_Read [bv b, ai w] H) fun y => ∃ (out : List Bs) (k : Nat), bb out = (readR b.2 w).2 ∧ y = (readV b.2 w (lst true 1 none (bvs out)), H ++ List.replicate k .other) by
    obtain ⟨y, h2, out, k, h3, rfl⟩ := hs
    exact ⟨out, k, h3, h2⟩
  refine call_post 7 109 rfl (rfl : P.T f_R10_Read = some F_R10_Read) rfl (le_ok rfl) (PostRR H b.2 w) ?_ ?_
  · rintro e σ G ⟨rfl, out, k, h1, h2, rfl⟩
    have hfr : (readV b.2 w (lst true 1 none (bvs out))).free = true := by
      unfold readV hPkt noPkt pktV; split <;> simp
    have hfz : ∀ n G, frz n G (readV b.2 w (lst true 1 none (bvs out))) = some (readV b.2 w (lst true 1 none (bvs out))) := fun n G => by
      unfold readV hPkt noPkt pktV; split <;> simp
    have hno : norm (readV b.2 w (lst true 1 none (bvs out))) = readV b.2 w (lst true 1 none (bvs out)) := by
      unfold readV hPkt noPkt pktV; split <;> simp
    refine ⟨rfl, _, h2, hfr, ?_⟩
    simp [hfz, hno]
    exact ⟨out, h1, rfl⟩
  have hhd := fun p H => rHead p w H
  have hbl := bv_len b
  by_cases hw : w = 10 ∨ w = 16
  · obtain ⟨wn, rfl, hwn⟩ : ∃ wn : Nat, w = wn ∧ (wn = 10 ∨ wn = 16) := by
      rcases hw with rfl | rfl
      · exact ⟨10, rfl, .inl rfl⟩
      · exact ⟨16, rfl, .inr rfl⟩
    have htn : ((wn : Nat) : Int).toNat = wn := by simp
    have h31 : ∃ h0 : Nat, h0 ≠ 0 ∧ headV false (wn : Int) = h0 := ⟨_, by rw [headV_eq hwn]; split <;> omega, rfl⟩
    obtain ⟨h0, hh0, hh1⟩ := h31
    have hhf := fun H => rHead false wn H
    rw [hh1] at hhf
    have hh0' : ¬ (h0 : Int) = 0 := by omega
    by_cases hlong : 4000 < b.2.length
    · have hlong' : (b.2.length : Int) > 4000 := by omega
      have hlong'' : (4000 : Int) < b.2.length := by omega
      have hR : readR b.2 wn = (2, []) := by rw [readR, if_pos hw, if_pos hlong]
      rw [F_R10_Read]; simp -implicitDefEqProofs [-toCells, -AV.one, -forget, c_R10_Read, hhf, hh0, hh0', hbl, hlong, hlong', hlong'']
      exact ⟨rfl, [], 0, by rw [hR]; rfl, by rw [readV, hR]; simp [F_R10_Read, noPkt, pktV], by simp⟩
    · have hlong' : ¬ (b.2.length : Int) > 4000 := by omega
      have hlong'' : ¬ (4000 : Int) < b.2.length := by omega
      by_cases hz0 : b.2.length = 0
      · have hz0' : (b.2.length : Int) = 0 := by omega
        have hz0'' : b.2 = [] := List.length_eq_zero_iff.1 hz0
        have hR : readR b.2 wn = (8, []) := by rw [readR, if_pos hw, if_neg hlong, if_pos hz0]
        rw [F_R10_Read]; simp -implicitDefEqProofs [-toCells, -AV.one, -forget, c_R10_Read, hhf, hh0, hh0', hbl, hlong, hlong', hlong'', hz0, hz0', hz0'']
        rw [← hz0'']
        exact ⟨rfl, [], 0, by rw [hR]; rfl, by rw [readV, hR]; simp [F_R10_Read, noPkt, pktV], by simp⟩
      · have hz0' : ¬ (b.2.length : Int) = 0 := by omega
        have hz0'' : ¬ b.2 = [] := fun h => hz0 (by rw [h]; rfl)
        obtain ⟨b0, hb0⟩ : ∃ x, b.2[0]? = some x := ⟨_, List.getElem?_eq_getElem (by omega)⟩
        have hb256 := hby b0 (List.mem_of_getElem? hb0)
        have q1 : iaddrW 1 none (bv b) (.c (.int .i64 0)) = some (.vp [au b0] 0) := bv_at hb0 .i64
        have n0 : numAt b.2 0 1 = b0 / 128 % 2 := numAt_bit (a := 0) hb0
        have n1 : numAt b.2 1 1 = b0 / 64 % 2 := numAt_bit (a := 1) hb0
        by_cases hz : numAt b.2 0 1 = 0
        · have hR : readR b.2 wn = (4, []) := by rw [readR, if_pos hw, if_neg hlong, if_neg hz0, if_pos hz]
          have h128 : (b0 : Int) < 128 := by omega
          have h128' : b0 < 128 := by omega
          rw [F_R10_Read]; simp -implicitDefEqProofs [-toCells, -AV.one, -forget, c_R10_Read, hhf, hh0, hh0', hbl, hlong, hlong', hlong'', hz0, hz0', hz0'', q1, h128, h128']
          exact ⟨rfl, [], 0, by rw [hR]; rfl, by rw [readV, hR]; simp [F_R10_Read, noPkt, pktV], by simp⟩
        · have h128 : ¬ (b0 : Int) < 128 := by omega
          have h128' : ¬ b0 < 128 := by omega
          have hpd : hPart b.2 = decide (b0 / 64 % 2 = 1) := by rw [hPart, n1]
          have d1 : IntKind.u8.wrap ((b0 : Int).tdiv 64) = ((b0 / 64 : Nat) : Int) := by
            rw [Int.tdiv_eq_ediv_of_nonneg (by omega)]
            have : (b0 : Int) / 64 = ((b0 / 64 : Nat) : Int) := by omega
            rw [this]; exact wrap_u8 (by omega) (by omega)
          have d1' : IntKind.u8.wrap ((b0 : Int) / 64) = ((b0 / 64 : Nat) : Int) := by
            have : (b0 : Int) / 64 = ((b0 / 64 : Nat) : Int) := by omega
            rw [this]; exact wrap_u8 (by omega) (by omega)
          obtain ⟨q, hq⟩ : ∃ q, b0 / 64 = q := ⟨_, rfl⟩
          rw [hq] at d1 d1' hpd
          have d2 : (q : Int).tmod 2 = ((q % 2 : Nat) : Int) := by rw [Int.tmod_eq_emod_of_nonneg (by omega)]; omega
          have d2' : (q : Int) % 2 = ((q % 2 : Nat) : Int) := by omega
          obtain ⟨u, hu⟩ : ∃ u, q % 2 = u := ⟨_, rfl⟩
          rw [hu] at d2 d2' hpd
          have hne : decide ((u : Int) = 1) = hPart b.2 := by rw [hpd]; exact decide_eq_decide.2 (by omega)
          have h28 := fun H => rHead (hPart b.2) wn H
          have hv := headV_eq (part := hPart b.2) hwn
          obtain ⟨n, hn⟩ : ∃ n, headV (hPart b.2) wn = n := ⟨_, rfl⟩
          by_cases hs : b.2.length < headV (hPart b.2) wn
          · have hs' : (b.2.length : Int) < (headV (hPart b.2) wn : Nat) := by omega
            have hR : readR b.2 wn = (8, []) := by rw [readR, if_pos hw, if_neg hlong, if_neg hz0, if_neg hz, if_pos hs]
            rw [hn] at hs hs' h28
            rw [F_R10_Read]; simp -implicitDefEqProofs [-toCells, -AV.one, -forget, c_R10_Read, hhf, hh0, hh0', hbl, hlong, hlong', hlong'', hz0, hz0', hz0'', q1, h128, h128', d1, d1', d2, d2', hne, h28, hs, hs']
            exact ⟨rfl, [], 0, by rw [hR]; rfl, by rw [readV, hR]; simp [F_R10_Read, noPkt, pktV], by simp⟩
          · have hs' : ¬ (b.2.length : Int) < (headV (hPart b.2) wn : Nat) := by omega
            obtain ⟨t1, t2, t3, t4⟩ := head_take (bs := b.2) hwn (by omega)
            have hR : readR b.2 wn = if hOk b.2 wn = true then restR b.2 wn else (3, []) := by rw [readR, if_pos hw, if_neg hlong, if_neg hz0, if_neg hz, if_neg hs, htn]
            have hRR : restR b.2 wn = if hMore b.2 = true then (if (lensR (b.2.drop n) (lenWd wn)).2 = 0 then fieldsR ((b.2.drop n).drop (lsize (lensR (b.2.drop n) (lenWd wn)).1 (lenWd wn))) (lvals (b.2.drop n) (lenWd wn) (lensR (b.2.drop n) (lenWd wn)).1) else ((lensR (b.2.drop n) (lenWd wn)).2, [])) else fieldsR (b.2.drop n) [] := by
              rw [← hn]; rfl
            have htk := t1
            have t4 := t4 nilS
            rw [hn] at t1 t2 t3 t4 h28 hs hs' hv
            have hl1 : (b.2.take n).length = n := by rw [List.length_take]; omega
            have c1 := fun d => bv_to (b := b) (j := n) (by omega) .i64 d
            have hb2 := bcut_to b n
            have r1 := fun H => rBits (bcut b 0 n) (by rw [hb2]; omega) (fun x hx => hby x (by rw [hb2] at hx; exact List.mem_of_mem_take hx)) H
            have s1 := rHeadR true (bs := b.2.take n) hwn (by rw [hl1, t1, hn]) H
            rw [hb2] at r1
            rw [t2, t3, t4] at s1
            have hwd := fun H => rWidths wn H
            by_cases hok : hOk b.2 wn = true
            · rw [if_pos hok] at hR
              rw [hok] at s1
              replace s1 : callW P f_R10_head [lst true 1 none (bls (bitsB (b.2.take n))), ai wn] H = some (.tup [.agg (hPkt b.2 wn nilS), ab (hMore b.2), ab true], H ++ [.other]) := s1
              have dd1 := fun d => bv_from (b := b) (i := n) (by omega) .i64 d
              obtain ⟨b', hb'⟩ : ∃ t, bcut b n b.2.length = t := ⟨_, rfl⟩
              have hb3 : b'.2 = b.2.drop n := by rw [← hb', bcut_from]
              rw [hb'] at dd1
              rw [hRR, ← hb3] at hR
              have hbl' : b'.2.length ≤ 8192 := by rw [hb3]; simp; omega
              have hby' : Bytes b'.2 := fun x hx => hby x (by rw [hb3] at hx; exact List.mem_of_mem_drop hx)
              have hlw : lenWd wn = 11 ∨ lenWd wn = 15 := by rcases hwn with rfl | rfl <;> simp [lenWd]
              obtain ⟨lw, hlwe⟩ : ∃ x, lenWd wn = x := ⟨_, rfl⟩
              obtain ⟨ow, howe⟩ : ∃ x, offWd wn = x := ⟨_, rfl⟩
              rw [hlwe] at hlw hR hwd
              rw [howe] at hwd
              cases hmore : hMore b.2 with
              | true =>
                rw [hmore] at s1
                rw [if_pos hmore] at hR
                have l1 := fun H => rLens b' hbl' hby' hlw H
                by_cases he : (lensR b'.2 lw).2 = 0
                · rw [if_pos he] at hR
                  have hok2 := lensR_ok he
                  have hres : resL b'.2 lw none = .tup [lst true 1 none (nvs (lvals b'.2 lw (lensR b'.2 lw).1)), ai (lsize (lensR b'.2 lw).1 lw : Nat), ai 0] := by rw [resL, if_pos he]
                  rw [hres] at l1
                  have hcf := cutR_fields (bs := b'.2) (w := lw)
                  have hll : (lvals b'.2 lw (lensR b'.2 lw).1).length ≤ 23 := by rw [lvals_len]; omega
                  obtain ⟨ls, hls⟩ : ∃ t, lvals b'.2 lw (lensR b'.2 lw).1 = t := ⟨_, rfl⟩
                  obtain ⟨sz, hsz⟩ : ∃ t, lsize (lensR b'.2 lw).1 lw = t := ⟨_, rfl⟩
                  rw [hls] at l1 hR hcf hll
                  rw [hsz] at l1 hR hcf
                  rw [F_R10_Read]; simp -implicitDefEqProofs [-toCells, -AV.one, -forget, c_R10_Read, hhf, hh0, hh0', hbl, hlong, hlong', hlong'', hz0, hz0', hz0'', q1, h128, h128', d1, d1', d2, d2', hne, h28, hs, hs', c1, r1, s1, hPkt, pktV, hwd, dd1, l1]
                  repeat rw [Option.bind_assoc]
                  refine Ends.block (P := PostR (H ++ [.other]) b ls n lw (hPkt b.2 wn nilS)) (rr_loop (by omega) n lw _ ls.length _ _ ⟨0, by omega, fun j m hj => by omega, rfl, by simp [lp0_R10_Read, noPkt, pktV, hPkt]⟩) ?_
                  rintro e σ1 G1 ⟨rfl, ⟨rfl, k1, k2⟩ | ⟨rfl, k1, k2⟩⟩
                  · obtain ⟨out, g0, g1⟩ := rCut b' hbl' hby' true hlw (H ++ [.other])
                    rw [hcf k1 he] at g0 g1
                    obtain ⟨ee, he4⟩ : ∃ x, (fieldsR (b'.2.drop sz) ls).1 = x := ⟨_, rfl⟩
                    rw [he4] at g1
                    simp only [hPkt, pktV, noPkt] at k2
                    have gnil : ee ≠ 0 → bb ([] : List Bs) = (fieldsR (b'.2.drop sz) ls).2 := fun h => by
                      have : (fieldsR (b'.2.drop sz) ls).2 = [] := by
                        have h9 := he4
                        unfold fieldsR at h9 ⊢
                        split
                        · rfl
                        · rename_i hc
                          rw [if_neg hc] at h9
                          split at h9 <;> simp_all
                      rw [this]; rfl
                    by_cases hee : ee = 0
                    · have hee' : (ee : Int) = 0 := by omega
                      simp -implicitDefEqProofs [-toCells, -AV.one, -forget, c_R10_Read, k2, dd1, g1, hee, hee']
                      exact ⟨rfl, out, 1, by rw [hR]; exact g0, by rw [readV, hR, he4, if_pos hee, hee]; simp [F_R10_Read, hPkt, pktV], by simp⟩
                    · have hee' : ¬ (ee : Int) = 0 := by omega
                      simp -implicitDefEqProofs [-toCells, -AV.one, -forget, c_R10_Read, k2, dd1, g1, hee, hee']
                      exact ⟨rfl, [], 1, by rw [hR]; exact gnil hee, by rw [readV, hR, he4, if_neg hee]; simp [F_R10_Read, noPkt, pktV, bvs], by simp⟩
                  · have hR3 : fieldsR (b'.2.drop sz) ls = (3, []) := by rw [fieldsR, if_pos k1]
                    rw [hR3] at hR
                    simp -implicitDefEqProofs [-toCells, -AV.one, -forget, c_R10_Read]
                    exact ⟨rfl, [], 1, by rw [hR]; rfl, by rw [readV, hR]; simpa [bvs] using k2, by simp⟩
                · rw [if_neg he] at hR
                  have hres : resL b'.2 lw none = .tup [nilS, ai 0, ai ((lensR b'.2 lw).2 : Nat)] := by rw [resL, if_neg he]
                  rw [hres] at l1
                  obtain ⟨ee, hee⟩ : ∃ x, (lensR b'.2 lw).2 = x := ⟨_, rfl⟩
                  rw [hee] at l1 hR he
                  have he' : ¬ (ee : Int) = 0 := by omega
                  rw [F_R10_Read]; simp -implicitDefEqProofs [-toCells, -AV.one, -forget, c_R10_Read, hhf, hh0, hh0', hbl, hlong, hlong', hlong'', hz0, hz0', hz0'', q1, h128, h128', d1, d1', d2, d2', hne, h28, hs, hs', c1, r1, s1, hPkt, pktV, hwd, dd1, l1, he, he']
                  exact ⟨rfl, [], 1, by rw [hR]; rfl, by rw [readV, hR]; simp [F_R10_Read, noPkt, pktV, bvs, he], by simp⟩
              | false =>
                rw [hmore] at s1
                rw [if_neg (by rw [hmore]; simp)] at hR
                obtain ⟨out, g0, g1⟩ := rCut b' hbl' hby' false hlw (H ++ [.other])
                rw [cutR_none] at g0 g1
                obtain ⟨ee, he4⟩ : ∃ x, (fieldsR b'.2 []).1 = x := ⟨_, rfl⟩
                rw [he4] at g1
                have gnil : ee ≠ 0 → bb ([] : List Bs) = (fieldsR b'.2 []).2 := fun h => by
                  have : (fieldsR b'.2 []).2 = [] := by
                    have h9 := he4
                    unfold fieldsR at h9 ⊢
                    split
                    · rfl
                    · rename_i hc
                      rw [if_neg hc] at h9
                      split at h9 <;> simp_all
                  rw [this]; rfl
                by_cases hee : ee = 0
                · have hee' : (ee : Int) = 0 := by omega
                  rw [F_R10_Read]; simp -implicitDefEqProofs [-toCells, -AV.one, -forget, c_R10_Read, hhf, hh0, hh0', hbl, hlong, hlong', hlong'', hz0, hz0', hz0'', q1, h128, h128', d1, d1', d2, d2', hne, h28, hs, hs', c1, r1, s1, hPkt, pktV, hwd, dd1, g1, hee, hee']
                  exact ⟨rfl, out, 1, by rw [hR]; exact g0, by rw [readV, hR, he4, if_pos hee, hee]; simp [F_R10_Read, hPkt, pktV], by simp⟩
                · have hee' : ¬ (ee : Int) = 0 := by omega
                  rw [F_R10_Read]; simp -implicitDefEqProofs [-toCells, -AV.one, -forget, c_R10_Read, hhf, hh0, hh0', hbl, hlong, hlong', hlong'', hz0, hz0', hz0'', q1, h128, h128', d1, d1', d2, d2', hne, h28, hs, hs', c1, r1, s1, hPkt, pktV, hwd, dd1, g1, hee, hee']
                  exact ⟨rfl, [], 1, by rw [hR]; exact gnil hee, by rw [readV, hR, he4, if_neg hee]; simp [F_R10_Read, noPkt, pktV, bvs], by simp⟩
            · rw [if_neg hok] at hR
              have hok' : hOk b.2 wn = false := by simpa using hok
              rw [hok'] at s1
              replace s1 : callW P f_R10_head [lst true 1 none (bls (bitsB (b.2.take n))), ai wn] H = some (.tup [.agg noPkt, ab false, ab false], H ++ [.other]) := s1
              simp only [noPkt, pktV] at s1
              rw [F_R10_Read]; simp -implicitDefEqProofs [-toCells, -AV.one, -forget, c_R10_Read, hhf, hh0, hh0', hbl, hlong, hlong', hlong'', hz0, hz0', hz0'', q1, h128, h128', d1, d1', d2, d2', hne, h28, hs, hs', c1, r1, s1]
              exact ⟨rfl, [], 1, by rw [hR]; rfl, by rw [readV, hR]; simp [F_R10_Read, noPkt, pktV, bvs], by simp⟩
  · have hR : readR b.2 w = (9, []) := by rw [readR, if_neg hw]
    have hh0 : headV false w = 0 := by rw [headV, if_neg hw]
    have hhf : ∀ H, callW P f_R10_Head [ab false, ai w] H = some (ai 0, H) := fun H => by rw [hhd, hh0]; rfl
    rw [F_R10_Read]; simp -implicitDefEqProofs [-toCells, -AV.one, -forget, c_R10_Read, hhf, hh0, hbl]
    exact ⟨rfl, [], 0, by rw [hR]; rfl, by rw [readV, hR]; simp [F_R10_Read, noPkt, pktV], by simp⟩
end
end Go.A.V.S
