/- The reference's sizes. -/
import Derived.Test.YtekoolanpphbfaaXB
import Derived.Test.YtekoolanpphbfaaV14
import Derived.Test.YtekoolanpphbfaaXE
set_option linter.unusedSimpArgs false
set_option linter.unusedVariables false
set_option linter.unnecessarySimpa false
namespace Go.A.V.S
open Go Go.A
set_option linter.unusedSimpArgs false
set_option linter.unusedVariables false
/-- How many numbers of so many bits there are. -/
def sz2 (b : Int) : Nat := if b < 1 ∨ 16 < b then 0 else 2 ^ b.toNat
section
variable {H : Heap}
def InvZ2 (H : Heap) (b : Nat) (z : Nat) (σ : List AV) (G : Heap) : Prop :=
  ∃ (i n : Nat), i + z = b ∧ n = 2 ^ i ∧ G = H ∧ σ = L 19 ((((Tr.full 5).put (path 0) (ai b)).put (path 3) (ai n)).put (path 4) (ai i))
def PostZ2 (H : Heap) (m : Nat) (e : AExit) (σ : List AV) (G : Heap) : Prop :=
  G = H ∧ e = .exit 0 ∧ kill [0, 4, 11, 12, 13] σ = L 19 ((Tr.full 5).put (path 3) (ai m))
theorem loopZ2 {b m : Nat} (hb : b ≤ 16) (hm : m = 2 ^ b) (z : Nat) (σ : List AV) (G : Heap) (hI : InvZ2 H b z (kill (headK lp0_R02_Size) σ) G) :
    Ends (execW P f_R02_Size (.loop lp0_R02_Size) σ G) fun s => PostZ2 H m s.e s.σ s.H := by
  refine loop_ends (fun z σ G => InvZ2 H b z σ G) (PostZ2 H m) ?_ z σ G hI
  clear hI z σ G
  rintro z σ G ⟨i, n, hz, hn, rfl, rfl⟩
  have hp : n ≤ 65536 := by
    rw [hn]
    calc 2 ^ i ≤ 2 ^ 16 := Nat.pow_le_pow_right (by omega) (by omega)
      _ = 65536 := by decide
  by_cases hi : i < b
  · have hn2 : 2 * n = 2 ^ (i + 1) := by rw [Nat.pow_succ]; omega
    clear hn
    simp -implicitDefEqProofs (disch := first | omega | (simp; done) | fail) [-toCells, -AV.one, -forget, c_R02_Size, cmp_ilt, cmp_ilf, cmp_ile, cmp_ilg, cmp_ine, cmp_ieq, cmp_nlt, cmp_nlf, cmp_nle, cmp_nlg, cmp_nne, cmp_neq, wrap_i64, wrap_u64, wrap_u8, lp0_R02_Size]
    exact ⟨z - 1, by omega, i + 1, 2 * n, by omega, hn2, rfl, by simp⟩
  · have : i = b := by omega
    subst this
    obtain rfl : n = m := by rw [hn, hm]
    clear hn hm
    simp -implicitDefEqProofs (disch := first | omega | (simp; done) | fail) [-toCells, -AV.one, -forget, c_R02_Size, cmp_ilt, cmp_ilf, cmp_ile, cmp_ilg, cmp_ine, cmp_ieq, cmp_nlt, cmp_nlf, cmp_nle, cmp_nlg, cmp_nne, cmp_neq, wrap_i64, wrap_u64, wrap_u8, lp0_R02_Size]
    exact ⟨rfl, rfl, by simp⟩
theorem rSize02 (b : Int) (H : Heap) : callW P f_R02_Size [ai b] H = some (ai (sz2 b : Nat), H) := by
  by_cases hb : b < 1 ∨ 16 < b
  · rw [sz2, if_pos hb]
    rcases hb with hb | hb
    · rw [call_L 5 rfl (rfl : P.T f_R02_Size = some F_R02_Size) (le_ok rfl)]; simp -implicitDefEqProofs (disch := first | omega | (simp; done) | fail) [-toCells, -AV.one, -forget, F_R02_Size, c_R02_Size, cmp_ilt, cmp_ilf, cmp_ile, cmp_ilg, cmp_ine, cmp_ieq, cmp_nlt, cmp_nlf, cmp_nle, cmp_nlg, cmp_nne, cmp_neq, wrap_i64, wrap_u64, wrap_u8]
    · rw [call_L 5 rfl (rfl : P.T f_R02_Size = some F_R02_Size) (le_ok rfl)]; simp -implicitDefEqProofs (disch := first | omega | (simp; done) | fail) [-toCells, -AV.one, -forget, F_R02_Size, c_R02_Size, cmp_ilt, cmp_ilf, cmp_ile, cmp_ilg, cmp_ine, cmp_ieq, cmp_nlt, cmp_nlf, cmp_nle, cmp_nlg, cmp_nne, cmp_neq, wrap_i64, wrap_u64, wrap_u8]
  · rw [sz2, if_neg hb]
    obtain ⟨n, rfl⟩ : ∃ n : Nat, b = n := ⟨b.toNat, by omega⟩
    obtain ⟨m, hm⟩ : ∃ t, 2 ^ (n : Int).toNat = t := ⟨_, rfl⟩
    rw [hm, ends_eq]
    have hl := loopZ2 (H := H) (b := n) (m := m) (by omega) (by rw [← hm]; simp) n
    clear hm
    refine call_post 5 19 rfl (rfl : P.T f_R02_Size = some F_R02_Size) rfl (le_ok rfl) (fun e σ G => e = .ret ∧ G = H ∧ resultsA F_R02_Size.res σ = some (ai m)) ?_ ?_
    · rintro e σ G ⟨rfl, rfl, h⟩
      exact ⟨rfl, _, h, rfl, by simp⟩
    rw [F_R02_Size]; simp -implicitDefEqProofs (disch := first | omega | (simp; done) | fail) [-toCells, -AV.one, -forget, c_R02_Size, cmp_ilt, cmp_ilf, cmp_ile, cmp_ilg, cmp_ine, cmp_ieq, cmp_nlt, cmp_nlf, cmp_nle, cmp_nlg, cmp_nne, cmp_neq, wrap_i64, wrap_u64, wrap_u8]
    repeat rw [Option.bind_assoc]
    refine Ends.block (P := PostZ2 H m) (hl _ _ ⟨0, 1, by omega, rfl, rfl, by simp [lp0_R02_Size]⟩) ?_
    rintro e σ1 G1 ⟨rfl, rfl, c⟩
    simp -implicitDefEqProofs (disch := first | omega | (simp; done) | fail) [-toCells, -AV.one, -forget, c_R02_Size, cmp_ilt, cmp_ilf, cmp_ile, cmp_ilg, cmp_ine, cmp_ieq, cmp_nlt, cmp_nlf, cmp_nle, cmp_nlg, cmp_nne, cmp_neq, wrap_i64, wrap_u64, wrap_u8, c]
theorem rIs (b n : Int) (H : Heap) : callW P f_R02_Is [ai b, ai n] H = some (ab (decide (0 ≤ n ∧ n < (sz2 b : Nat))), H) := by
  by_cases h : 0 ≤ n
  · by_cases h2 : n < (sz2 b : Nat)
    · rw [call_L 4 rfl (rfl : P.T f_R02_Is = some F_R02_Is) (le_ok rfl)]; simp -implicitDefEqProofs (disch := first | omega | (simp; done) | fail) [-toCells, -AV.one, -forget, F_R02_Is, c_R02_Is, cmp_ilt, cmp_ilf, cmp_ile, cmp_ilg, cmp_ine, cmp_ieq, cmp_nlt, cmp_nlf, cmp_nle, cmp_nlg, cmp_nne, cmp_neq, wrap_i64, wrap_u64, wrap_u8, rSize02]
    · rw [call_L 4 rfl (rfl : P.T f_R02_Is = some F_R02_Is) (le_ok rfl)]; simp -implicitDefEqProofs (disch := first | omega | (simp; done) | fail) [-toCells, -AV.one, -forget, F_R02_Is, c_R02_Is, cmp_ilt, cmp_ilf, cmp_ile, cmp_ilg, cmp_ine, cmp_ieq, cmp_nlt, cmp_nlf, cmp_nle, cmp_nlg, cmp_nne, cmp_neq, wrap_i64, wrap_u64, wrap_u8, rSize02]
  · rw [call_L 4 rfl (rfl : P.T f_R02_Is = some F_R02_Is) (le_ok rfl)]; simp -implicitDefEqProofs (disch := first | omega | (simp; done) | fail) [-toCells, -AV.one, -forget, F_R02_Is, c_R02_Is, cmp_ilt, cmp_ilf, cmp_ile, cmp_ilg, cmp_ine, cmp_ieq, cmp_nlt, cmp_nlf, cmp_nle, cmp_nlg, cmp_nne, cmp_neq, wrap_i64, wrap_u64, wrap_u8, rSize02]
def InvL8 (H : Heap) (n w m : Nat) (z : Nat) (σ : List AV) (G : Heap) : Prop :=
  ∃ (i : Nat), i + z = m ∧ G = H ∧ σ = L 30 ((((Tr.full 5).put (path 0) (ai n)).put (path 1) (ai w)).put (path 5) (ai i))
def PostL8 (H : Heap) (m : Nat) (e : AExit) (σ : List AV) (G : Heap) : Prop :=
  G = H ∧ e = .exit 0 ∧ kill [0, 1, 20, 21, 22, 23, 24, 25, 26] σ = L 30 ((Tr.full 5).put (path 5) (ai m))
theorem loopL8 {n w m : Nat} (hn : n ≤ 23) (hw : w = 11 ∨ w = 15) (hm : m = (n * (w + 1) + 7) / 8) (z : Nat) (σ : List AV) (G : Heap) (hI : InvL8 H n w m z (kill (headK lp0_R08_Size) σ) G) :
    Ends (execW P f_R08_Size (.loop lp0_R08_Size) σ G) fun s => PostL8 H m s.e s.σ s.H := by
  refine loop_ends (fun z σ G => InvL8 H n w m z σ G) (PostL8 H m) ?_ z σ G hI
  clear hI z σ G
  rintro z σ G ⟨i, hz, rfl, rfl⟩
  have hmm : m ≤ 46 := by
    have : n * (w + 1) ≤ 23 * 16 := Nat.mul_le_mul hn (by omega)
    omega
  rcases hw with rfl | rfl
  · by_cases hi : i < m
    · simp -implicitDefEqProofs (disch := first | omega | (simp; done) | fail) [-toCells, -AV.one, -forget, c_R08_Size, cmp_ilt, cmp_ilf, cmp_ile, cmp_ilg, cmp_ine, cmp_ieq, cmp_nlt, cmp_nlf, cmp_nle, cmp_nlg, cmp_nne, cmp_neq, wrap_i64, wrap_u64, wrap_u8, lp0_R08_Size]
      exact ⟨z - 1, by omega, i + 1, by omega, rfl, by simp⟩
    · obtain rfl : i = m := by omega
      simp -implicitDefEqProofs (disch := first | omega | (simp; done) | fail) [-toCells, -AV.one, -forget, c_R08_Size, cmp_ilt, cmp_ilf, cmp_ile, cmp_ilg, cmp_ine, cmp_ieq, cmp_nlt, cmp_nlf, cmp_nle, cmp_nlg, cmp_nne, cmp_neq, wrap_i64, wrap_u64, wrap_u8, lp0_R08_Size]
      exact ⟨rfl, rfl, by simp⟩
  · by_cases hi : i < m
    · simp -implicitDefEqProofs (disch := first | omega | (simp; done) | fail) [-toCells, -AV.one, -forget, c_R08_Size, cmp_ilt, cmp_ilf, cmp_ile, cmp_ilg, cmp_ine, cmp_ieq, cmp_nlt, cmp_nlf, cmp_nle, cmp_nlg, cmp_nne, cmp_neq, wrap_i64, wrap_u64, wrap_u8, lp0_R08_Size]
      exact ⟨z - 1, by omega, i + 1, by omega, rfl, by simp⟩
    · obtain rfl : i = m := by omega
      simp -implicitDefEqProofs (disch := first | omega | (simp; done) | fail) [-toCells, -AV.one, -forget, c_R08_Size, cmp_ilt, cmp_ilf, cmp_ile, cmp_ilg, cmp_ine, cmp_ieq, cmp_nlt, cmp_nlf, cmp_nle, cmp_nlg, cmp_nne, cmp_neq, wrap_i64, wrap_u64, wrap_u8, lp0_R08_Size]
      exact ⟨rfl, rfl, by simp⟩
theorem rSize08 (n : Int) {w : Nat} (hw : w = 11 ∨ w = 15) (H : Heap) : callW P f_R08_Size [ai n, ai w] H = some (ai (if n < 1 then 0 else lsize n.toNat w : Nat), H) := by
  by_cases hn : n < 1 ∨ 23 < n
  · have e : (if n < 1 then 0 else lsize n.toNat w : Nat) = 0 := by
      split
      · rfl
      · rw [lsize, if_pos (by omega)]
    rw [e]
    rcases hn with hn | hn <;> rcases hw with rfl | rfl
    · rw [call_L 5 rfl (rfl : P.T f_R08_Size = some F_R08_Size) (le_ok rfl)]; simp -implicitDefEqProofs (disch := first | omega | (simp; done) | fail) [-toCells, -AV.one, -forget, F_R08_Size, c_R08_Size, cmp_ilt, cmp_ilf, cmp_ile, cmp_ilg, cmp_ine, cmp_ieq, cmp_nlt, cmp_nlf, cmp_nle, cmp_nlg, cmp_nne, cmp_neq, wrap_i64, wrap_u64, wrap_u8]
    · rw [call_L 5 rfl (rfl : P.T f_R08_Size = some F_R08_Size) (le_ok rfl)]; simp -implicitDefEqProofs (disch := first | omega | (simp; done) | fail) [-toCells, -AV.one, -forget, F_R08_Size, c_R08_Size, cmp_ilt, cmp_ilf, cmp_ile, cmp_ilg, cmp_ine, cmp_ieq, cmp_nlt, cmp_nlf, cmp_nle, cmp_nlg, cmp_nne, cmp_neq, wrap_i64, wrap_u64, wrap_u8]
    · rw [call_L 5 rfl (rfl : P.T f_R08_Size = some F_R08_Size) (le_ok rfl)]; simp -implicitDefEqProofs (disch := first | omega | (simp; done) | fail) [-toCells, -AV.one, -forget, F_R08_Size, c_R08_Size, cmp_ilt, cmp_ilf, cmp_ile, cmp_ilg, cmp_ine, cmp_ieq, cmp_nlt, cmp_nlf, cmp_nle, cmp_nlg, cmp_nne, cmp_neq, wrap_i64, wrap_u64, wrap_u8]
    · rw [call_L 5 rfl (rfl : P.T f_R08_Size = some F_R08_Size) (le_ok rfl)]; simp -implicitDefEqProofs (disch := first | omega | (simp; done) | fail) [-toCells, -AV.one, -forget, F_R08_Size, c_R08_Size, cmp_ilt, cmp_ilf, cmp_ile, cmp_ilg, cmp_ine, cmp_ieq, cmp_nlt, cmp_nlf, cmp_nle, cmp_nlg, cmp_nne, cmp_neq, wrap_i64, wrap_u64, wrap_u8]
  · obtain ⟨k, rfl⟩ : ∃ n' : Nat, n = n' := ⟨n.toNat, by omega⟩
    have e : (if (k : Int) < 1 then 0 else lsize (k : Int).toNat w : Nat) = (k * (w + 1) + 7) / 8 := by
      rw [if_neg (by omega), lsize, if_neg (by omega)]; rfl
    rw [e]
    obtain ⟨m, hm⟩ : ∃ t, (k * (w + 1) + 7) / 8 = t := ⟨_, rfl⟩
    rw [hm, ends_eq]
    refine call_post 5 30 rfl (rfl : P.T f_R08_Size = some F_R08_Size) rfl (le_ok rfl) (fun e σ G => e = .ret ∧ G = H ∧ resultsA F_R08_Size.res σ = some (ai (m : Nat))) ?_ ?_
    · rintro e σ G ⟨rfl, rfl, h⟩
      exact ⟨rfl, _, h, rfl, by simp⟩
    have hl := loopL8 (H := H) (n := k) (w := w) (m := m) (by omega) hw hm.symm m
    clear hm
    rcases hw with rfl | rfl
    · rw [F_R08_Size]; simp -implicitDefEqProofs (disch := first | omega | (simp; done) | fail) [-toCells, -AV.one, -forget, c_R08_Size, cmp_ilt, cmp_ilf, cmp_ile, cmp_ilg, cmp_ine, cmp_ieq, cmp_nlt, cmp_nlf, cmp_nle, cmp_nlg, cmp_nne, cmp_neq, wrap_i64, wrap_u64, wrap_u8]
      repeat rw [Option.bind_assoc]
      refine Ends.block (P := PostL8 H m) (hl _ _ ⟨0, by omega, rfl, by simp [lp0_R08_Size]⟩) ?_
      rintro e σ1 G1 ⟨rfl, rfl, c⟩
      simp -implicitDefEqProofs (disch := first | omega | (simp; done) | fail) [-toCells, -AV.one, -forget, c_R08_Size, cmp_ilt, cmp_ilf, cmp_ile, cmp_ilg, cmp_ine, cmp_ieq, cmp_nlt, cmp_nlf, cmp_nle, cmp_nlg, cmp_nne, cmp_neq, wrap_i64, wrap_u64, wrap_u8, c]
    · rw [F_R08_Size]; simp -implicitDefEqProofs (disch := first | omega | (simp; done) | fail) [-toCells, -AV.one, -forget, c_R08_Size, cmp_ilt, cmp_ilf, cmp_ile, cmp_ilg, cmp_ine, cmp_ieq, cmp_nlt, cmp_nlf, cmp_nle, cmp_nlg, cmp_nne, cmp_neq, wrap_i64, wrap_u64, wrap_u8]
      repeat rw [Option.bind_assoc]
      refine Ends.block (P := PostL8 H m) (hl _ _ ⟨0, by omega, rfl, by simp [lp0_R08_Size]⟩) ?_
      rintro e σ1 G1 ⟨rfl, rfl, c⟩
      simp -implicitDefEqProofs (disch := first | omega | (simp; done) | fail) [-toCells, -AV.one, -forget, c_R08_Size, cmp_ilt, cmp_ilf, cmp_ile, cmp_ilg, cmp_ine, cmp_ieq, cmp_nlt, cmp_nlf, cmp_nle, cmp_nlg, cmp_nne, cmp_neq, wrap_i64, wrap_u64, wrap_u8, c]
def InvF9 (H : Heap) (z0 : Bool) (ff : List Bs) (n0 : Nat) (z : Nat) (σ : List AV) (G : Heap) : Prop :=
  ∃ (i n : Nat), i + z = ff.length ∧ n ≤ 4000 ∧ sumR n0 (bb ff) = sumR n ((bb ff).drop i) ∧ G = H ∧ σ = L 67 (((((Tr.full 7).put (path 0) (lst z0 1 none (bvs ff))).put (path 7) (ai 2047)).put (path 8) (ai n)).put (path 9) (ai i))
def PostF9 (H : Heap) (ff : List Bs) (n0 : Nat) (e : AExit) (σ : List AV) (G : Heap) : Prop :=
  G = H ∧ ((e = .exit 0 ∧ kill [0, 7, 9, 29, 30, 31, 32] σ = L 67 ((Tr.full 7).put (path 8) (ai (sumR n0 (bb ff) : Nat)))) ∨ (e = .ret ∧ sumR n0 (bb ff) = 0 ∧ resultsA F_R09_Fields.res σ = some (ai 0)))
theorem bb_drop {ff : List Bs} {i : Nat} {x : Bs} (hx : ff[i]? = some x) : (bb ff).drop i = x.2 :: (bb ff).drop (i + 1) := by
  have h2 := bb_at hx
  have hi2 : i < (bb ff).length := (List.getElem?_eq_some_iff.1 h2).1
  rw [List.drop_eq_getElem_cons hi2]
  rw [List.getElem?_eq_getElem hi2] at h2
  rw [Option.some.inj h2]
theorem loopF9 {z0 : Bool} {ff : List Bs} (hl : ff.length ≤ 24) (hs : ∀ f ∈ ff, f.2.length ≤ 100000) (n0 : Nat) (z : Nat) (σ : List AV) (G : Heap) (hI : InvF9 H z0 ff n0 z (kill (headK lp0_R09_Fields) σ) G) :
    Ends (execW P f_R09_Fields (.loop lp0_R09_Fields) σ G) fun s => PostF9 H ff n0 s.e s.σ s.H := by
  refine loop_ends (fun z σ G => InvF9 H z0 ff n0 z σ G) (PostF9 H ff n0) ?_ z σ G hI
  clear hI z σ G
  rintro z σ G ⟨i, n, hz, hn4, hsum, rfl, rfl⟩
  have hla : (bvs ff).length = ff.length := bvs_len ff
  by_cases hi : i < ff.length
  · obtain ⟨x, hx⟩ : ∃ x, ff[i]? = some x := ⟨_, List.getElem?_eq_getElem hi⟩
    have hxs := hs x (List.mem_of_getElem? hx)
    have q1 := bvs_at hx z0 none .i64
    rw [bb_drop hx, sumR, List.length_drop, bb_len] at hsum
    have hxl := bv_len x
    obtain ⟨xl, hxl'⟩ : ∃ t, x.2.length = t := ⟨_, rfl⟩
    rw [hxl'] at hxl hsum hxs
    by_cases c1 : xl = 0
    · rw [if_pos c1] at hsum
      simp -implicitDefEqProofs (disch := first | omega | (simp; done) | fail) [-toCells, -AV.one, -forget, c_R09_Fields, cmp_ilt, cmp_ilf, cmp_ile, cmp_ilg, cmp_ine, cmp_ieq, cmp_nlt, cmp_nlf, cmp_nle, cmp_nlg, cmp_nne, cmp_neq, wrap_i64, wrap_u64, wrap_u8, lp0_R09_Fields, hla, q1, hxl]
      exact ⟨rfl, .inr ⟨rfl, hsum, by simp [F_R09_Fields]⟩⟩
    rw [if_neg c1] at hsum
    by_cases c2 : 2047 < xl ∧ i + 1 < ff.length
    · rw [if_pos ⟨c2.1, by omega⟩] at hsum
      simp -implicitDefEqProofs (disch := first | omega | (simp; done) | fail) [-toCells, -AV.one, -forget, c_R09_Fields, cmp_ilt, cmp_ilf, cmp_ile, cmp_ilg, cmp_ine, cmp_ieq, cmp_nlt, cmp_nlf, cmp_nle, cmp_nlg, cmp_nne, cmp_neq, wrap_i64, wrap_u64, wrap_u8, lp0_R09_Fields, hla, q1, hxl]
      exact ⟨rfl, .inr ⟨rfl, hsum, by simp [F_R09_Fields]⟩⟩
    rw [if_neg (by omega)] at hsum
    by_cases c4 : 4000 < n + xl
    · rw [if_pos (by omega)] at hsum
      by_cases c5 : i + 1 < ff.length
      · simp -implicitDefEqProofs (disch := first | omega | (simp; done) | fail) [-toCells, -AV.one, -forget, c_R09_Fields, cmp_ilt, cmp_ilf, cmp_ile, cmp_ilg, cmp_ine, cmp_ieq, cmp_nlt, cmp_nlf, cmp_nle, cmp_nlg, cmp_nne, cmp_neq, wrap_i64, wrap_u64, wrap_u8, lp0_R09_Fields, hla, q1, hxl]
        exact ⟨rfl, .inr ⟨rfl, hsum, by simp [F_R09_Fields]⟩⟩
      · simp -implicitDefEqProofs (disch := first | omega | (simp; done) | fail) [-toCells, -AV.one, -forget, c_R09_Fields, cmp_ilt, cmp_ilf, cmp_ile, cmp_ilg, cmp_ine, cmp_ieq, cmp_nlt, cmp_nlf, cmp_nle, cmp_nlg, cmp_nne, cmp_neq, wrap_i64, wrap_u64, wrap_u8, lp0_R09_Fields, hla, q1, hxl]
        exact ⟨rfl, .inr ⟨rfl, hsum, by simp [F_R09_Fields]⟩⟩
    · rw [if_neg (by omega)] at hsum
      by_cases c5 : i + 1 < ff.length
      · simp -implicitDefEqProofs (disch := first | omega | (simp; done) | fail) [-toCells, -AV.one, -forget, c_R09_Fields, cmp_ilt, cmp_ilf, cmp_ile, cmp_ilg, cmp_ine, cmp_ieq, cmp_nlt, cmp_nlf, cmp_nle, cmp_nlg, cmp_nne, cmp_neq, wrap_i64, wrap_u64, wrap_u8, lp0_R09_Fields, hla, q1, hxl]
        exact ⟨z - 1, by omega, i + 1, n + xl, by omega, by omega, hsum, rfl, by simp⟩
      · simp -implicitDefEqProofs (disch := first | omega | (simp; done) | fail) [-toCells, -AV.one, -forget, c_R09_Fields, cmp_ilt, cmp_ilf, cmp_ile, cmp_ilg, cmp_ine, cmp_ieq, cmp_nlt, cmp_nlf, cmp_nle, cmp_nlg, cmp_nne, cmp_neq, wrap_i64, wrap_u64, wrap_u8, lp0_R09_Fields, hla, q1, hxl]
        exact ⟨z - 1, by omega, i + 1, n + xl, by omega, by omega, hsum, rfl, by simp⟩
  · have hnil : (bb ff).drop i = [] := List.drop_eq_nil_of_le (by rw [bb_len]; omega)
    rw [hnil, sumR] at hsum
    rw [← hsum]
    simp -implicitDefEqProofs (disch := first | omega | (simp; done) | fail) [-toCells, -AV.one, -forget, c_R09_Fields, cmp_ilt, cmp_ilf, cmp_ile, cmp_ilg, cmp_ine, cmp_ieq, cmp_nlt, cmp_nlf, cmp_nle, cmp_nlg, cmp_nne, cmp_neq, wrap_i64, wrap_u64, wrap_u8, lp0_R09_Fields, hla]
    exact ⟨rfl, .inl ⟨rfl, by simp⟩⟩
theorem rFields {z0 : Bool} {ff : List Bs} (hl : ff.length ≤ 100000) (hs : ∀ f ∈ ff, f.2.length ≤ 100000) {hd w : Nat} (hd4 : hd ≤ 1000) (hw : w = 11 ∨ w = 15) (H : Heap) :
    callW P f_R09_Fields [lst z0 1 none (bvs ff), ai hd, ai w] H = some (ai (if ff.length < 1 ∨ 24 < ff.length then 0 else sumR (hd + lsize (ff.length - 1) w) (bb ff) : Nat), H) := by
  have hla : (bvs ff).length = ff.length := bvs_len ff
  by_cases h1 : ff.length < 1 ∨ 24 < ff.length
  · rw [if_pos h1]
    rcases h1 with h1 | h1
    · rw [call_L 7 rfl (rfl : P.T f_R09_Fields = some F_R09_Fields) (le_ok rfl)]; simp -implicitDefEqProofs (disch := first | omega | (simp; done) | fail) [-toCells, -AV.one, -forget, F_R09_Fields, c_R09_Fields, cmp_ilt, cmp_ilf, cmp_ile, cmp_ilg, cmp_ine, cmp_ieq, cmp_nlt, cmp_nlf, cmp_nle, cmp_nlg, cmp_nne, cmp_neq, wrap_i64, wrap_u64, wrap_u8, hla]
    · rw [call_L 7 rfl (rfl : P.T f_R09_Fields = some F_R09_Fields) (le_ok rfl)]; simp -implicitDefEqProofs (disch := first | omega | (simp; done) | fail) [-toCells, -AV.one, -forget, F_R09_Fields, c_R09_Fields, cmp_ilt, cmp_ilf, cmp_ile, cmp_ilg, cmp_ine, cmp_ieq, cmp_nlt, cmp_nlf, cmp_nle, cmp_nlg, cmp_nne, cmp_neq, wrap_i64, wrap_u64, wrap_u8, hla]
  rw [if_neg h1, ends_eq]
  have hS := fun H => rSize08 ((ff.length : Int) - 1) hw H
  have hls := lsize_le hw (n := ff.length - 1) (by omega)
  obtain ⟨n0, hn0⟩ : ∃ t, hd + lsize (ff.length - 1) w = t := ⟨_, rfl⟩
  rw [hn0]
  obtain ⟨ls, hls'⟩ : ∃ t, lsize (ff.length - 1) w = t := ⟨_, rfl⟩
  have htn : ((ff.length : Int) - 1).toNat = ff.length - 1 := by omega
  rw [htn, hls'] at hS
  rw [hls'] at hls hn0
  have hF := loopF9 (H := H) (z0 := z0) (ff := ff) (by omega) hs n0 ff.length
  refine call_post 7 67 rfl (rfl : P.T f_R09_Fields = some F_R09_Fields) rfl (le_ok rfl) (fun e σ G => e = .ret ∧ G = H ∧ resultsA F_R09_Fields.res σ = some (ai (sumR n0 (bb ff) : Nat))) ?_ ?_
  · rintro e σ G ⟨rfl, rfl, h⟩
    exact ⟨rfl, _, h, rfl, by simp⟩
  by_cases h2 : 1 < ff.length
  · rw [if_neg (by omega)] at hS
    rw [F_R09_Fields]; simp -implicitDefEqProofs (disch := first | omega | (simp; done) | fail) [-toCells, -AV.one, -forget, c_R09_Fields, cmp_ilt, cmp_ilf, cmp_ile, cmp_ilg, cmp_ine, cmp_ieq, cmp_nlt, cmp_nlf, cmp_nle, cmp_nlg, cmp_nne, cmp_neq, wrap_i64, wrap_u64, wrap_u8, hla, hS]
    repeat rw [Option.bind_assoc]
    refine Ends.block (P := PostF9 H ff n0) (hF _ _ ⟨0, n0, by omega, by omega, by simp, rfl, by simp [lp0_R09_Fields, ← hn0]⟩) ?_
    rintro e σ1 G1 ⟨rfl, ⟨rfl, c⟩ | ⟨rfl, c1, c2⟩⟩
    · generalize sumR n0 (bb ff) = s at *
      simp -implicitDefEqProofs (disch := first | omega | (simp; done) | fail) [-toCells, -AV.one, -forget, c_R09_Fields, cmp_ilt, cmp_ilf, cmp_ile, cmp_ilg, cmp_ine, cmp_ieq, cmp_nlt, cmp_nlf, cmp_nle, cmp_nlg, cmp_nne, cmp_neq, wrap_i64, wrap_u64, wrap_u8, c]
    · simp [F_R09_Fields] at c2
      rw [c1]
      simp -implicitDefEqProofs (disch := first | omega | (simp; done) | fail) [-toCells, -AV.one, -forget, c_R09_Fields, cmp_ilt, cmp_ilf, cmp_ile, cmp_ilg, cmp_ine, cmp_ieq, cmp_nlt, cmp_nlf, cmp_nle, cmp_nlg, cmp_nne, cmp_neq, wrap_i64, wrap_u64, wrap_u8, c2]
  · have hl0 : ls = 0 := by
      rw [← hls', lsize, if_pos (by omega)]
    subst hl0
    rw [F_R09_Fields]; simp -implicitDefEqProofs (disch := first | omega | (simp; done) | fail) [-toCells, -AV.one, -forget, c_R09_Fields, cmp_ilt, cmp_ilf, cmp_ile, cmp_ilg, cmp_ine, cmp_ieq, cmp_nlt, cmp_nlf, cmp_nle, cmp_nlg, cmp_nne, cmp_neq, wrap_i64, wrap_u64, wrap_u8, hla]
    repeat rw [Option.bind_assoc]
    refine Ends.block (P := PostF9 H ff n0) (hF _ _ ⟨0, n0, by omega, by omega, by simp, rfl, by simp [lp0_R09_Fields, ← hn0]⟩) ?_
    rintro e σ1 G1 ⟨rfl, ⟨rfl, c⟩ | ⟨rfl, c1, c2⟩⟩
    · generalize sumR n0 (bb ff) = s at *
      simp -implicitDefEqProofs (disch := first | omega | (simp; done) | fail) [-toCells, -AV.one, -forget, c_R09_Fields, cmp_ilt, cmp_ilf, cmp_ile, cmp_ilg, cmp_ine, cmp_ieq, cmp_nlt, cmp_nlf, cmp_nle, cmp_nlg, cmp_nne, cmp_neq, wrap_i64, wrap_u64, wrap_u8, c]
    · simp [F_R09_Fields] at c2
      rw [c1]
      simp -implicitDefEqProofs (disch := first | omega | (simp; done) | fail) [-toCells, -AV.one, -forget, c_R09_Fields, cmp_ilt, cmp_ilf, cmp_ile, cmp_ilg, cmp_ine, cmp_ieq, cmp_nlt, cmp_nlf, cmp_nle, cmp_nlg, cmp_nne, cmp_neq, wrap_i64, wrap_u64, wrap_u8, c2]
end
end Go.A.V.S

namespace Go.A.V.S
open Go Go.A
set_option linter.unusedSimpArgs false
set_option linter.unusedVariables false
section
variable {H : Heap}
def InvD1 (H : Heap) (Q : List AV) (ff : List Bs) (z : Nat) (σ : List AV) (G : Heap) : Prop :=
  ∃ (i : Nat), i + z = ff.length ∧ G = H ∧ σ = L 20 ((((Tr.full 5).put (path 1) (.lbox Q)).put (path 3) (lst true 1 (some 18) (byteCs ((bb ff).take i).flatten))).put (path 4) (ai i))
def PostD1 (H : Heap) (ff : List Bs) (e : AExit) (σ : List AV) (G : Heap) : Prop :=
  G = H ∧ e = .exit 0 ∧ kill [1, 4, 5, 6, 7, 8, 9] σ = L 20 ((Tr.full 5).put (path 3) (lst true 1 (some 18) (byteCs (bb ff).flatten)))
theorem loopD1 {z0 : Bool} {ff : List Bs} (po : Bool) (fi sn : Int) (pa la : Bool) (off : Int) (hl : ff.length ≤ 100) (hs : (bb ff).flatten.length ≤ 100000) (z : Nat) (σ : List AV) (G : Heap) (hI : InvD1 H (pktV po fi sn pa la off (lst z0 1 none (bvs ff))) ff z (kill (headK lp0_R10_Data) σ) G) :
    Ends (execW P f_R10_Data (.loop lp0_R10_Data) σ G) fun s => PostD1 H ff s.e s.σ s.H := by
  refine loop_ends (fun z σ G => InvD1 H (pktV po fi sn pa la off (lst z0 1 none (bvs ff))) ff z σ G) (PostD1 H ff) ?_ z σ G hI
  clear hI z σ G
  rintro z σ G ⟨i, hz, rfl, rfl⟩
  have hla : (bvs ff).length = ff.length := bvs_len ff
  have htl : ((bb ff).take i).flatten.length ≤ (bb ff).flatten.length := by
    conv => rhs; rw [← List.take_append_drop i (bb ff), List.flatten_append, List.length_append]
    omega
  by_cases hi : i < ff.length
  · obtain ⟨x, hx⟩ : ∃ x, ff[i]? = some x := ⟨_, List.getElem?_eq_getElem hi⟩
    have q1 := bvs_at hx z0 none .i64
    have hxs : x.2.length ≤ (bb ff).flatten.length := by
      rw [List.length_flatten]; exact len_le_sum (List.mem_map_of_mem (List.mem_of_getElem? hx))
    have hap := fun σ H => appW_lst (m := P.md f_R10_Data) (d := 18) (bytes := 1) (sz := 1) (l := byteCs ((bb ff).take i).flatten) (l' := byteCs x.2) (x := bv x) (R_R10_Data 18) (fun H => bv_elems H x) (by simp [byteCs_len, appBound]; simp at htl hxs hs; omega) (by simp [byteCs_len, appBound]; simp at htl hxs hs; omega) σ H
    have hcs : byteCs ((bb ff).take i).flatten ++ byteCs x.2 = byteCs ((bb ff).take (i + 1)).flatten := by rw [take_snoc (bb_at hx)]; simp [byteCs]
    rw [hcs] at hap
    have hres : ∀ σ, σ = L 20 ((((Tr.full 5).put (path 1) (.lbox (pktV po fi sn pa la off (lst z0 1 none (bvs ff))))).put (path 3) (lst true 1 (some 18) (byteCs ((bb ff).take (i + 1)).flatten))).put (path 4) (ai (i + 1 : Nat))) → ∃ m, m < z ∧ InvD1 G (pktV po fi sn pa la off (lst z0 1 none (bvs ff))) ff m σ G := fun σ e => ⟨z - 1, by omega, i + 1, by omega, rfl, e⟩
    clear hcs hs hxs htl
    generalize byteCs ((bb ff).take i).flatten = L0 at *
    obtain ⟨L1, hL1⟩ : ∃ t, byteCs ((bb ff).take (i + 1)).flatten = t := ⟨_, rfl⟩
    rw [hL1] at hap hres
    simp -implicitDefEqProofs (disch := first | omega | (simp; done) | fail) [-toCells, -AV.one, -forget, c_R10_Data, cmp_ilt, cmp_ilf, cmp_ile, cmp_ilg, cmp_ine, cmp_ieq, cmp_nlt, cmp_nlf, cmp_nle, cmp_nlg, cmp_nne, cmp_neq, wrap_i64, wrap_u64, wrap_u8, lp0_R10_Data, pktV, hla, q1, hap]
    exact hres _ (by simp [pktV])
  · have e : (bb ff).take i = bb ff := List.take_of_length_le (by rw [bb_len]; omega)
    rw [e]
    obtain ⟨L0, hL0⟩ : ∃ t, byteCs (bb ff).flatten = t := ⟨_, rfl⟩
    rw [hL0]
    simp -implicitDefEqProofs (disch := first | omega | (simp; done) | fail) [-toCells, -AV.one, -forget, c_R10_Data, cmp_ilt, cmp_ilf, cmp_ile, cmp_ilg, cmp_ine, cmp_ieq, cmp_nlt, cmp_nlf, cmp_nle, cmp_nlg, cmp_nne, cmp_neq, wrap_i64, wrap_u64, wrap_u8, lp0_R10_Data, pktV, hla]
    exact ⟨rfl, rfl, by rw [hL0]; simp⟩
theorem rData (p : Pk) (hl : p.ff.length ≤ 100) (hs : (bb p.ff).flatten.length ≤ 100000) (H : Heap) :
    callW P f_R10_Data [.agg p.v] H = some (lst true 1 (some 0) (byteCs (bb p.ff).flatten), H) := by
  obtain ⟨po, fi, sn, pa, la, off, z0, ff⟩ := p
  simp only at hl hs
  have hL := loopD1 (H := H) (z0 := z0) (ff := ff) po fi sn pa la off hl hs ff.length
  rw [ends_eq]
  refine call_post 5 20 rfl (rfl : P.T f_R10_Data = some F_R10_Data) rfl (le_ok rfl) (fun e σ G => e = .ret ∧ G = H ∧ resultsA F_R10_Data.res σ = some (lst true 1 (some 18) (byteCs (bb ff).flatten))) ?_ ?_
  · rintro e σ G ⟨rfl, rfl, h⟩
    exact ⟨rfl, _, h, by simp, by simp⟩
  have hP : ∀ e σ G, PostD1 H ff e σ G = (G = H ∧ e = .exit 0 ∧ kill [1, 4, 5, 6, 7, 8, 9] σ = L 20 ((Tr.full 5).put (path 3) (lst true 1 (some 18) (byteCs (bb ff).flatten)))) := fun e σ G => rfl
  rw [F_R10_Data]; simp -implicitDefEqProofs (disch := first | omega | (simp; done) | fail) [-toCells, -AV.one, -forget, c_R10_Data, cmp_ilt, cmp_ilf, cmp_ile, cmp_ilg, cmp_ine, cmp_ieq, cmp_nlt, cmp_nlf, cmp_nle, cmp_nlg, cmp_nne, cmp_neq, wrap_i64, wrap_u64, wrap_u8, Pk.v, Pk.f, pktV]
  repeat rw [Option.bind_assoc]
  refine Ends.block (P := PostD1 H ff) (hL _ _ ⟨0, by omega, rfl, by simp [lp0_R10_Data, pktV, byteCs]⟩) ?_
  rintro e σ1 G1 ⟨rfl, rfl, c⟩
  generalize byteCs (bb ff).flatten = L0 at *
  simp -implicitDefEqProofs (disch := first | omega | (simp; done) | fail) [-toCells, -AV.one, -forget, c_R10_Data, cmp_ilt, cmp_ilf, cmp_ile, cmp_ilg, cmp_ine, cmp_ieq, cmp_nlt, cmp_nlf, cmp_nle, cmp_nlg, cmp_nne, cmp_neq, wrap_i64, wrap_u64, wrap_u8, c]
end
set_option maxHeartbeats 4000000 in
theorem rSize (p : Pk) (hs : ∀ f ∈ p.ff, f.2.length ≤ 100000) (hfl : p.ff.length ≤ 100000) (w : Int) (H : Heap) :
    callW P f_R10_Size [.agg p.v, ai w] H = some (ai (sizeR p w : Nat), H) := by
  obtain ⟨po, fi, sn, pa, la, off, z0, ff⟩ := p
  simp only at hs hfl
  have hH := fun H => rHead false w H
  have hH2 := fun H => rHead pa w H
  have hW := fun H => rWidths w H
  have hI := fun H => rIs w sn H
  by_cases hw : w = 10 ∨ w = 16
  · obtain ⟨hd0, hh0⟩ : ∃ t, headV false w = t := ⟨_, rfl⟩
    have hd1 : 0 < hd0 := by rw [← hh0]; rcases hw with rfl | rfl <;> decide
    rw [hh0] at hH
    have e0 : ¬ (hd0 : Int) = 0 := by omega
    have e0' : ¬ hd0 = 0 := by omega
    have hO := fun H => rSize02 (offWd w : Nat) H
    have hso : sz2 (offWd w : Nat) = 2 ^ offWd w := by
      rw [sz2, if_neg (by have : offWd w = 15 ∨ offWd w = 16 := by simp only [offWd]; split <;> simp
                          omega)]
      congr 1
    have hsw : sz2 w = 2 ^ w.toNat := by rw [sz2, if_neg (by omega)]
    rw [hso] at hO
    rw [hsw] at hI
    unfold sizeR
    rw [if_neg (not_not_intro hw)]
    simp only
    by_cases c1 : fi < 0
    · rw [if_pos c1]
      have c1' : (fi : Int) < 0 := c1
      rw [call_L 7 rfl (rfl : P.T f_R10_Size = some F_R10_Size) (le_ok rfl)]; simp -implicitDefEqProofs [-toCells, -AV.one, -forget, F_R10_Size, c_R10_Size, Pk.v, Pk.f, pktV, hW, hH, e0, e0', c1, keepB, goodB_L, sameV, dstNot, dstNe, SOpG.reads, SOp.slots, SX.slots, SOp.noL, rdV, selfE_lst, selfE, selfEs, eqV]
      all_goals first | rfl | (simp [L_length]; done) | (left; rw [L_length]; omega) | (rw [L_length]; omega) | skip
    rw [if_neg c1]
    by_cases c2 : 3 < fi
    · rw [if_pos c2]
      rw [call_L 7 rfl (rfl : P.T f_R10_Size = some F_R10_Size) (le_ok rfl)]; simp -implicitDefEqProofs [-toCells, -AV.one, -forget, F_R10_Size, c_R10_Size, Pk.v, Pk.f, pktV, hW, hH, e0, e0', c1, c2, keepB, goodB_L, sameV, dstNot, dstNe, SOpG.reads, SOp.slots, SX.slots, SOp.noL, rdV, selfE_lst, selfE, selfEs, eqV]
      all_goals first | rfl | (simp [L_length]; done) | (left; rw [L_length]; omega) | (rw [L_length]; omega) | skip
    rw [if_neg c2]
    by_cases c3 : 0 ≤ sn ∧ sn < (2 ^ w.toNat : Nat)
    · rw [decide_eq_true c3] at hI
      rw [if_neg (not_not_intro c3)]
      obtain ⟨top, htop⟩ : ∃ t, 2 ^ offWd w = t := ⟨_, rfl⟩
      rw [htop] at hO ⊢
      by_cases c4 : off < 0
      · have e : (if pa = false ∧ la = true then 0 else if pa = false ∧ off ≠ 0 then 0 else if off < 0 then 0 else if (top : Int) ≤ off then 0 else if ff.length < 1 then 0 else if 24 < ff.length then 0 else sumR (base ⟨po, fi, sn, pa, la, off, z0, ff⟩ w.toNat) (bb ff)) = 0 := by simp only [if_pos c4, ite_self]
        rw [e]
        rw [call_L 7 rfl (rfl : P.T f_R10_Size = some F_R10_Size) (le_ok rfl)]; simp -implicitDefEqProofs [-toCells, -AV.one, -forget, F_R10_Size, c_R10_Size, Pk.v, Pk.f, pktV, hW, hH, e0, e0', c1, c2, hI, c4, keepB, goodB_L, sameV, dstNot, dstNe, SOpG.reads, SOp.slots, SX.slots, SOp.noL, rdV, selfE_lst, selfE, selfEs, eqV]
        all_goals first | rfl | (simp [L_length]; done) | (left; rw [L_length]; omega) | (rw [L_length]; omega) | skip
      by_cases c5 : (top : Int) ≤ off
      · have e : (if pa = false ∧ la = true then 0 else if pa = false ∧ off ≠ 0 then 0 else if off < 0 then 0 else if (top : Int) ≤ off then 0 else if ff.length < 1 then 0 else if 24 < ff.length then 0 else sumR (base ⟨po, fi, sn, pa, la, off, z0, ff⟩ w.toNat) (bb ff)) = 0 := by simp only [if_neg c4, if_pos c5, ite_self]
        rw [e]
        have c5' : off ≥ (top : Int) := c5
        rw [call_L 7 rfl (rfl : P.T f_R10_Size = some F_R10_Size) (le_ok rfl)]; simp -implicitDefEqProofs [-toCells, -AV.one, -forget, F_R10_Size, c_R10_Size, Pk.v, Pk.f, pktV, hW, hH, e0, e0', c1, c2, hI, c4, hO, c5, c5', keepB, goodB_L, sameV, dstNot, dstNe, SOpG.reads, SOp.slots, SX.slots, SOp.noL, rdV, selfE_lst, selfE, selfEs, eqV]
        all_goals first | rfl | (simp [L_length]; done) | (left; rw [L_length]; omega) | (rw [L_length]; omega) | skip
      have c5' : ¬ off ≥ (top : Int) := c5
      by_cases c6 : pa = false ∧ (la = true ∨ off ≠ 0)
      · obtain ⟨rfl, c6⟩ := c6
        have e : (if false = false ∧ la = true then 0 else if false = false ∧ off ≠ 0 then 0 else if off < 0 then 0 else if (top : Int) ≤ off then 0 else if ff.length < 1 then 0 else if 24 < ff.length then 0 else sumR (base ⟨po, fi, sn, false, la, off, z0, ff⟩ w.toNat) (bb ff)) = 0 := by
          rcases c6 with h | h
          · rw [if_pos ⟨rfl, h⟩]
          · split
            · rfl
            · rw [if_pos ⟨rfl, h⟩]
        rw [e]
        cases la with
        | true =>
          rw [call_L 7 rfl (rfl : P.T f_R10_Size = some F_R10_Size) (le_ok rfl)]; simp -implicitDefEqProofs [-toCells, -AV.one, -forget, F_R10_Size, c_R10_Size, Pk.v, Pk.f, pktV, hW, hH, e0, e0', c1, c2, hI, c4, hO, c5, c5', keepB, goodB_L, sameV, dstNot, dstNe, SOpG.reads, SOp.slots, SX.slots, SOp.noL, rdV, selfE_lst, selfE, selfEs, eqV]
          all_goals first | rfl | (simp [L_length]; done) | (left; rw [L_length]; omega) | (rw [L_length]; omega) | skip
        | false =>
          have c7 : off > 0 := by
            rcases c6 with h | h
            · simp at h
            · omega
          have c7' : 0 < off := c7
          rw [call_L 7 rfl (rfl : P.T f_R10_Size = some F_R10_Size) (le_ok rfl)]; simp -implicitDefEqProofs [-toCells, -AV.one, -forget, F_R10_Size, c_R10_Size, Pk.v, Pk.f, pktV, hW, hH, e0, e0', c1, c2, hI, c4, hO, c5, c5', c7, c7', keepB, goodB_L, sameV, dstNot, dstNe, SOpG.reads, SOp.slots, SX.slots, SOp.noL, rdV, selfE_lst, selfE, selfEs, eqV]
          all_goals first | rfl | (simp [L_length]; done) | (left; rw [L_length]; omega) | (rw [L_length]; omega) | skip
      have hlw : lenWd w = 11 ∨ lenWd w = 15 := by simp only [lenWd]; split <;> simp
      have hF := fun H => rFields (z0 := z0) (ff := ff) hfl hs (hd := headV pa w) (w := lenWd w) (by rcases hw with rfl | rfl <;> cases pa <;> decide) hlw H
      have e : (if pa = false ∧ la = true then 0 else if pa = false ∧ off ≠ 0 then 0 else if off < 0 then 0 else if (top : Int) ≤ off then 0 else if ff.length < 1 then 0 else if 24 < ff.length then 0 else sumR (base ⟨po, fi, sn, pa, la, off, z0, ff⟩ w.toNat) (bb ff)) = if ff.length < 1 ∨ 24 < ff.length then 0 else sumR (headV pa w + lsize (ff.length - 1) (lenWd w)) (bb ff) := by
        rw [if_neg (fun h => c6 ⟨h.1, .inl h.2⟩), if_neg (fun h => c6 ⟨h.1, .inr h.2⟩), if_neg c4, if_neg c5]
        have hb : base ⟨po, fi, sn, pa, la, off, z0, ff⟩ w.toNat = headV pa w + lsize (ff.length - 1) (lenWd w) := by
          rw [base, show ((w.toNat : Nat) : Int) = w by omega]
        rw [hb]
        by_cases a1 : ff.length < 1
        · rw [if_pos a1, if_pos (.inl a1)]
        · rw [if_neg a1]
          by_cases a2 : 24 < ff.length
          · rw [if_pos a2, if_pos (.inr a2)]
          · rw [if_neg a2, if_neg (by omega)]
      rw [e]
      obtain ⟨n, hn⟩ : ∃ t, (if ff.length < 1 ∨ 24 < ff.length then 0 else sumR (headV pa w + lsize (ff.length - 1) (lenWd w)) (bb ff)) = t := ⟨_, rfl⟩
      rw [hn] at hF ⊢
      obtain ⟨hd2, hh2⟩ : ∃ t, headV pa w = t := ⟨_, rfl⟩
      rw [hh2] at hF hH2
      clear hn e htop
      cases pa with
      | true =>
        rw [call_L 7 rfl (rfl : P.T f_R10_Size = some F_R10_Size) (le_ok rfl)]; simp -implicitDefEqProofs [-toCells, -AV.one, -forget, F_R10_Size, c_R10_Size, Pk.v, Pk.f, pktV, hW, hH, hH2, e0, e0', c1, c2, hI, c4, hO, c5, c5', hF, keepB, goodB_L, sameV, dstNot, dstNe, SOpG.reads, SOp.slots, SX.slots, SOp.noL, rdV, selfE_lst, selfE, selfEs, eqV]
        all_goals first | rfl | (simp [L_length]; done) | (left; rw [L_length]; omega) | (rw [L_length]; omega) | skip
      | false =>
        have c8 : la = false := by cases la with
          | true => exact (c6 ⟨rfl, .inl rfl⟩).elim
          | false => rfl
        have c9 : off = 0 := by
          by_cases h : off = 0
          · exact h
          · exact (c6 ⟨rfl, .inr h⟩).elim
        subst c8 c9
        obtain rfl : hd2 = hd0 := by rw [← hh2, ← hh0]
        have c10 : ¬ (top : Int) ≤ 0 := c5
        have c10' : ¬ top = 0 := by omega
        rw [call_L 7 rfl (rfl : P.T f_R10_Size = some F_R10_Size) (le_ok rfl)]; simp -implicitDefEqProofs [-toCells, -AV.one, -forget, F_R10_Size, c_R10_Size, Pk.v, Pk.f, pktV, hW, hH, hH2, e0, e0', c1, c2, hI, hO, c5', c10, c10', hF, keepB, goodB_L, sameV, dstNot, dstNe, SOpG.reads, SOp.slots, SX.slots, SOp.noL, rdV, selfE_lst, selfE, selfEs, eqV]
        all_goals first | rfl | (simp [L_length]; done) | (left; rw [L_length]; omega) | (rw [L_length]; omega) | skip
    · rw [decide_eq_false c3] at hI
      rw [if_pos c3]
      rw [call_L 7 rfl (rfl : P.T f_R10_Size = some F_R10_Size) (le_ok rfl)]; simp -implicitDefEqProofs [-toCells, -AV.one, -forget, F_R10_Size, c_R10_Size, Pk.v, Pk.f, pktV, hW, hH, e0, e0', c1, c2, hI, keepB, goodB_L, sameV, dstNot, dstNe, SOpG.reads, SOp.slots, SX.slots, SOp.noL, rdV, selfE_lst, selfE, selfEs, eqV]
      all_goals first | rfl | (simp [L_length]; done) | (left; rw [L_length]; omega) | (rw [L_length]; omega) | skip
  · have hz : headV false w = 0 := by rw [headV, if_neg hw]
    rw [hz] at hH
    replace hH : ∀ H, callW P f_R10_Head [ab false, ai w] H = some (ai 0, H) := hH
    have e : sizeR ⟨po, fi, sn, pa, la, off, z0, ff⟩ w = 0 := by rw [sizeR, if_pos hw]
    rw [e]
    rw [call_L 7 rfl (rfl : P.T f_R10_Size = some F_R10_Size) (le_ok rfl)]; simp -implicitDefEqProofs [-toCells, -AV.one, -forget, F_R10_Size, c_R10_Size, Pk.v, Pk.f, pktV, hW, hH, keepB, goodB_L, sameV, dstNot, dstNe, SOpG.reads, SOp.slots, SX.slots, SOp.noL, rdV, selfE_lst, selfE, selfEs, eqV]
    all_goals first | rfl | (simp [L_length]; done) | (left; rw [L_length]; omega) | (rw [L_length]; omega) | skip
end Go.A.V.S
