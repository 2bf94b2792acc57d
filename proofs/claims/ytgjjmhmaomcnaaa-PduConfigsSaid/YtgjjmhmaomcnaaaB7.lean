import Derived.Test.YtgjjmhmaomcnaaaB6
namespace Go.A.SeatB
open Go.A
set_option linter.unusedSimpArgs false

def sizeV (b : Int) : Int := if b < 1 ∨ b > 16 then 0 else 2 ^ b.toNat

theorem size_loop (b : Nat) (hb : b ≤ 16) (H : Heap) :
    ∀ (n : Nat) (σ : List AV) (H1 : Heap), (n ≤ b ∧ H1 = H ∧ kill (headK lp20_0) σ = L 19 ((((Tr.full 5).put (path 0) (ai b)).put (path 3) (ai ((2 : Int) ^ (b - n)))).put (path 4) (ai ((b : Int) - n)))) →
      Ends (execW tbl X1 (.loop lp20_0) σ H1) fun s => s.H = H ∧ s.e = .exit 0 ∧ kill [0, 4, 11, 12, 13] s.σ = L 19 ((Tr.full 5).put (path 3) (ai ((2 : Int) ^ b))) := by
  intro n σ H1 hI
  have := loop_rule (T := tbl) (X := X1) (b := lp20_0) (fun n σ H1 => n ≤ b ∧ H1 = H ∧ σ = L 19 ((((Tr.full 5).put (path 0) (ai b)).put (path 3) (ai ((2 : Int) ^ (b - n)))).put (path 4) (ai ((b : Int) - n))))
    (fun e σ H1 => H1 = H ∧ e = .exit 0 ∧ kill [0, 4, 11, 12, 13] σ = L 19 ((Tr.full 5).put (path 3) (ai ((2 : Int) ^ b)))) ?_ n σ H1 hI
  · exact this.mono fun s hs => hs.2
  · clear hI σ n H1
    rintro n σ M ⟨hn, rfl, rfl⟩
    by_cases hz : n = 0
    · subst hz
      simp -implicitDefEqProofs [lp20_0]
    · have hw : IntKind.i64.wrap ((b : Int) - n + 1) = (b : Int) - (n - 1 : Nat) := by rw [wrap_i64 (by omega) (by omega)]; omega
      have h1 : (2 : Int) ^ (b - n) ≤ 2 ^ 16 := by
        have : (2 : Nat) ^ (b - n) ≤ 2 ^ 16 := Nat.pow_le_pow_right (by omega) (by omega)
        exact_mod_cast this
      have h0 : 0 ≤ (2 : Int) ^ (b - n) := by
        have : 0 ≤ (2 : Nat) ^ (b - n) := Nat.zero_le _
        exact_mod_cast this
      have hw2 : IntKind.i64.wrap (2 * (2 : Int) ^ (b - n)) = (2 : Int) ^ (b - (n - 1)) := by
        rw [wrap_i64 (by omega) (by omega), show b - (n - 1) = b - n + 1 by omega, Int.pow_succ, Int.mul_comm]
      simp -implicitDefEqProofs [lp20_0, show (b : Int) - n < b by omega, hw, hw2]
      exact ⟨n - 1, by omega, by omega, rfl⟩

theorem size20 (b : Int) (H : Heap) : callW tbl X1 20 [ai b] H = some (ai (sizeV b), H) := by
  suffices h : Ends (callW tbl X1 20 [ai b] H) fun y => y = (ai (sizeV b), H) by
    obtain ⟨y, h1, rfl⟩ := h
    exact h1
  refine call_rule (X1_none (by decide) _ _) rfl ?_
  rw [fun20, slots0_L 5 19 _ (by simp)]
  by_cases h1 : b < 1
  · simp -implicitDefEqProofs [code20, h1, sizeV]
  · by_cases h2 : b > 16
    · have h2' : 16 < b := h2
      simp -implicitDefEqProofs [code20, h1, h2, h2', sizeV]
    · have h2' : ¬ 16 < b := h2
      obtain ⟨n, rfl⟩ : ∃ n : Nat, b = n := ⟨b.toNat, by omega⟩
      simp -implicitDefEqProofs [code20, h1, h2, h2', sizeV]
      refine ((size_loop n (by omega) H n _ H ⟨Nat.le_refl _, rfl, ?_⟩).map (R := fun s => s.H = H ∧ s.e = .normal ∧ kill [0, 4, 11, 12, 13] s.σ = L 19 ((Tr.full 5).put (path 3) (ai ((2 : Int) ^ n)))) ?_).bind ?_
      · simp -implicitDefEqProofs [lp20_0]
      · rintro ⟨e, σ, G⟩ ⟨q1, q2, q3⟩
        simp only at q1 q2 q3
        subst q1; subst q2
        exact ⟨rfl, by simp [unblock], q3⟩
      · rintro ⟨e, σ, G⟩ ⟨q1, q2, q3⟩
        simp only at q1 q2 q3
        subst q1; subst q2
        simp -implicitDefEqProofs [q3]
end Go.A.SeatB
