import Derived.Test.YtgjjmhmaomcnaaaB9
namespace Go.A.SeatB
open Go.A
set_option linter.unusedSimpArgs false

def usualC (m : Int) : Cfg := if m = 0 then ⟨0, 0, 0, 0, 0, 0, 0, 0, 0, 5000⟩ else if m = 1 then ⟨1, 5, 16, 4, 0, 0, 0, 0, 0, 5000⟩ else if m = 2 then ⟨2, 10, 512, 4, 8, 3, 4, 500, 4, 5000⟩ else ⟨0, 0, 0, 0, 0, 0, 0, 0, 0, 0⟩

theorem usual6 (m : Int) (H : Heap) : callW tbl X1 6 [ai m] H = some (.agg (usualC m).cells, H) := by
  rw [callW_eq, X1_none (by decide)]
  simp only [tbl, Option.bind_some, fun6]
  rw [slots0_L 5 17 _ (by simp)]
  by_cases h0 : m = 0
  · subst h0; simp -implicitDefEqProofs [code6, usualC, Cfg.cells, AV.one]
  · by_cases h1 : m = 1
    · subst h1; simp -implicitDefEqProofs [code6, usualC, Cfg.cells, AV.one]
    · by_cases h2 : m = 2
      · subst h2; simp -implicitDefEqProofs [code6, usualC, Cfg.cells, AV.one]
      · simp -implicitDefEqProofs [code6, usualC, Cfg.cells, AV.one, h0, h1, h2]

def K3 : List Nat := [1, 5, 14, 15, 16, 17, 18, 19, 20, 21, 22, 23, 24, 25, 26, 27, 28, 29, 30]
theorem alive8 (H : Heap) : callW tbl X1 8 [] H = some (ab true, H) := by
  rw [callW_eq]
  rfl

theorem tail3 (c : Cfg) (σ : List AV) (H : Heap) (hσ : kill K3 σ = L 39 ((Tr.full 6).put (path 2) (.lbox c.cells))) : Ends (execW tbl X1 code3.sr.sr.sr σ H) fun s => s.e.ends = true ∧ resultsA fun3.res s.σ = some (ab true) := by
  rw [← execW_head, show headK code3.sr.sr.sr = K3 from rfl, hσ]
  obtain ⟨N, h7⟩ := check7 c H
  have h9 := ref9 c (H ++ N)
  have h8 := alive8 H
  generalize H ++ N = M at *
  generalize chk c = v at *
  obtain ⟨m, b, w, r, pr, ph, pp, pb, mr, q⟩ := c
  simp only [Cfg.cells] at h7 h9 ⊢
  simp -implicitDefEqProofs [code3, h8, h7, h9, execW_drawn, runD, fun3, sameB, rdv]

theorem code3_eq : code3 = .seq code3.sl (.seq code3.sr.sl (.seq code3.sr.sr.sl code3.sr.sr.sr)) := rfl

theorem law3 (c : Cfg) (m : Int) (H : Heap) : Ends (callW tbl X1 3 [.agg c.cells, ai m] H) fun y => y.1 = ab true := by
  refine call_rule (X1_none (by decide) _ _) rfl ?_
  have ht := fun σ M => tail3 c σ M
  have hu := usual6 m H
  obtain ⟨N, h7⟩ := check7 (usualC m) H
  rw [fun3, slots0_L 6 39 _ (by simp)]
  rw [code3_eq]
  generalize code3.sr.sr.sr = R at *
  have hfin : ∀ σ M, kill K3 σ = L 39 ((Tr.full 6).put (path 2) (.lbox c.cells)) → Ends (execW tbl X1 R σ M) fun st => st.e.ends = true ∧ Ends (resultsA [SRes.tmp 4] st.σ) fun v => v.free = true ∧ v = ab true := fun σ M h => (ht σ M h).mono fun s hs => ⟨hs.1, by
    have := hs.2
    simp only [fun3] at this
    rw [this]
    exact Ends.some.2 ⟨rfl, rfl⟩⟩
  have hk : ∀ k : Int, k = m → (k = 0 ∨ k = 1 ∨ k = 2) → chk (usualC k) = 0 := by
    rintro k _ (h | h | h) <;> subst h <;> decide
  generalize H ++ N = M at *
  obtain ⟨m', b, w, r, pr, ph, pp, pb, mr, q⟩ := c
  by_cases h0 : m = 0
  · subst h0
    rw [hk 0 rfl (by simp)] at h7
    simp only [Cfg.cells, usualC, if_true] at h7 hu hfin ⊢
    simp -implicitDefEqProofs [code3, h7, hu, AV.one]
    refine (hfin _ M ?_).mono ?_
    · simp -implicitDefEqProofs [K3]
    · rintro ⟨e, σ, G⟩ ⟨q1, q2⟩
      simp at q1 q2 ⊢
      exact ⟨q1, q2⟩
  · by_cases h1 : m = 1
    · subst h1
      rw [hk 1 rfl (by simp)] at h7
      simp only [Cfg.cells, usualC] at h7 hu hfin ⊢
      simp at h7 hu
      simp -implicitDefEqProofs [code3, h7, hu, AV.one]
      refine (hfin _ M ?_).mono ?_
      · simp -implicitDefEqProofs [K3]
      · rintro ⟨e, σ, G⟩ ⟨q1, q2⟩
        simp at q1 q2 ⊢
        exact ⟨q1, q2⟩
    · by_cases h2 : m = 2
      · subst h2
        rw [hk 2 rfl (by simp)] at h7
        simp only [Cfg.cells, usualC] at h7 hu hfin ⊢
        simp at h7 hu
        simp -implicitDefEqProofs [code3, h7, hu, AV.one]
        refine (hfin _ M ?_).mono ?_
        · simp -implicitDefEqProofs [K3]
        · rintro ⟨e, σ, G⟩ ⟨q1, q2⟩
          simp at q1 q2 ⊢
          exact ⟨q1, q2⟩
      · have hu0 : usualC m = ⟨0, 0, 0, 0, 0, 0, 0, 0, 0, 0⟩ := by simp [usualC, h0, h1, h2]
        rw [hu0] at hu
        simp only [Cfg.cells] at hu hfin ⊢
        by_cases h3 : m < 0
        · simp -implicitDefEqProofs [code3, hu, AV.one, h3]
          refine (hfin _ H ?_).mono ?_
          · simp -implicitDefEqProofs [K3]
          · rintro ⟨e, σ, G⟩ ⟨q1, q2⟩
            simp at q1 q2 ⊢
            exact ⟨q1, q2⟩
        · have h4 : m > 2 := by omega
          have h4' : 2 < m := by omega
          simp -implicitDefEqProofs [code3, hu, AV.one, h3, h4, h4']
          refine (hfin _ H ?_).mono ?_
          · simp -implicitDefEqProofs [K3]
          · rintro ⟨e, σ, G⟩ ⟨q1, q2⟩
            simp at q1 q2 ⊢
            exact ⟨q1, q2⟩
end Go.A.SeatB
