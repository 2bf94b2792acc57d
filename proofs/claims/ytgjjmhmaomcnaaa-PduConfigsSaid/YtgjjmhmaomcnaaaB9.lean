import Derived.Test.YtgjjmhmaomcnaaaB8
namespace Go.A.SeatB
open Go.A
set_option linter.unusedSimpArgs false

theorem code9_eq : code9 = .seq code9.sl (.seq code9.sr.sl (.seq code9.sr.sr.sl (.seq code9.sr.sr.sr.sl (.seq code9.sr.sr.sr.sr.sl code9.sr.sr.sr.sr.sr)))) := rfl

theorem other9 (c : Cfg) (k : Bool) (H : Heap) (h0 : c.mode ≠ 0) (h1 : c.mode ≠ 1) (h2 : c.mode ≠ 2) : Ends (execW tbl X1 code9.sr.sr.sr.sl (L 135 (T9 c k)) H) fun s => s.H = H ∧ s.e = .ret ∧ resultsA fun9.res s.σ = some (ai 9) := by
  obtain ⟨m, b, w, r, pr, ph, pp, pb, mr, q⟩ := c
  simp only at h0 h1 h2
  simp -implicitDefEqProofs [code9, T9, Cfg.cells, fun9, h0, h1, h2]

theorem fin9 (k : Bool) (σ : List AV) (H : Heap) (hσ : kill V9 σ = L 135 ((Tr.full 8).put (path 3) (ab k))) : Ends (execW tbl X1 code9.sr.sr.sr.sr.sr σ H) fun s => s.H = H ∧ s.e.ends = true ∧ resultsA fun9.res s.σ = some (ai (if k = true then 0 else 1)) := by
  rw [← execW_head, show headK code9.sr.sr.sr.sr.sr = V9 from rfl, hσ]
  cases k <;> simp -implicitDefEqProofs [code9, fun9]

theorem rest9 (c : Cfg) (σ : List AV) (H : Heap) (hσ : kill (headK code9.sr.sr.sr.sl) σ = L 135 (T9 c (!out (c.queue, 1, 20000)))) : Ends (execW tbl X1 code9.sr.sr.sr σ H) fun s => s.H = H ∧ s.e.ends = true ∧ resultsA fun9.res s.σ = some (ai (chk c)) := by
  have he : code9.sr.sr.sr = .seq code9.sr.sr.sr.sl (.seq code9.sr.sr.sr.sr.sl code9.sr.sr.sr.sr.sr) := rfl
  have hsw : ∀ k : Bool, (c.mode = 0 ∨ c.mode = 1 ∨ c.mode = 2) → (if k = true then (0 : Int) else 1) = chk c → Ends (execW tbl X1 code9.sr.sr.sr.sl (L 135 (T9 c (!out (c.queue, 1, 20000)))) H) (fun s => s.H = H ∧ s.e = .normal ∧ ∃ k', kill K9 s.σ = L 135 (U9 c k') ∧ (k' && decide (c.mode = 2 ∨ rest5 c)) = k) → Ends (execW tbl X1 code9.sr.sr.sr σ H) fun s => s.H = H ∧ s.e.ends = true ∧ resultsA fun9.res s.σ = some (ai (chk c)) := by
    intro k _ hk h
    rw [← execW_head, he, headK, hσ, execW_seq]
    refine h.bind fun s => ?_
    obtain ⟨e, σ1, G⟩ := s
    rintro ⟨q1, q2, k', q3, q4⟩
    simp only at q1 q2 q3
    subst q1; subst q2
    simp only [andThen, execW_seq]
    refine (chain9 c k' σ1 _ q3).bind fun s => ?_
    obtain ⟨e, σ2, G⟩ := s
    rintro ⟨q1, q2, q5⟩
    simp only at q1 q2 q5
    subst q1; subst q2
    simp only [andThen]
    rw [q4] at q5
    rw [← hk]
    exact fin9 k σ2 _ q5
  by_cases h0 : c.mode = 0
  · refine hsw _ (.inl h0) ?_ ((sw0 c _ H h0).mono fun s hs => ⟨hs.1, hs.2.1, _, hs.2.2, rfl⟩)
    by_cases h1 : out (c.queue, 1, 20000) = false <;> by_cases h2 : c.bits = 0 ∧ c.window = 0 ∧ c.reorder = 0 <;> by_cases h3 : rest5 c <;> simp [chk, tmOk, h0, h1, h2, h3]
  · by_cases h1 : c.mode = 1
    · refine hsw _ (.inr (.inl h1)) ?_ ((sw1 c _ H h1).mono fun s hs => ⟨hs.1, hs.2.1, _, hs.2.2, rfl⟩)
      by_cases h2 : out (c.queue, 1, 20000) = false <;> by_cases h3 : (c.bits = 5 ∧ out (c.window, 1, 16) = false ∨ c.bits = 10 ∧ out (c.window, 1, 512) = false) <;> by_cases h4 : out (c.reorder, 1, 1000) = false <;> by_cases h5 : rest5 c <;> simp [chk, umOk, h0, h1, h2, h3, h4, h5]
    · by_cases h2 : c.mode = 2
      · refine hsw _ (.inr (.inr h2)) ?_ ((sw2 c _ H h2).mono fun s hs => ⟨hs.1, hs.2.1, _, hs.2.2, rfl⟩)
        cases h3 : out (c.queue, 1, 20000) <;> cases h4 : amOk c <;> simp [chk, h0, h1, h2, h3, h4]
      · rw [← execW_head, he, headK, hσ, execW_seq]
        refine (other9 c _ H h0 h1 h2).bind fun s => ?_
        obtain ⟨e, σ1, G⟩ := s
        rintro ⟨q1, q2, q3⟩
        simp only at q1 q2 q3
        subst q1; subst q2
        simp only [andThen]
        exact Ends.some.2 ⟨rfl, rfl, by rw [q3]; simp [chk, h0, h1, h2]⟩

theorem ref9 (c : Cfg) (H : Heap) : callW tbl X1 9 [.agg c.cells] H = some (ai (chk c), H) := by
  suffices h : Ends (callW tbl X1 9 [.agg c.cells] H) fun y => y = (ai (chk c), H) by
    obtain ⟨y, h1, rfl⟩ := h
    exact h1
  refine call_rule (X1_none (by decide) _ _) rfl ?_
  have hr := fun σ => rest9 c σ
  have hq := is19 c.queue 1 20000 H
  have hs := size20 c.bits H
  have hh : headK code9.sr.sr.sr.sl = [8, 9, 10, 11] := rfl
  rw [hh] at hr
  rw [fun9, slots0_L 8 135 _ (by simp)]
  rw [code9_eq]
  generalize hR : SCode.seq code9.sr.sr.sr.sl (.seq code9.sr.sr.sr.sr.sl code9.sr.sr.sr.sr.sr) = R
  have hR' : code9.sr.sr.sr = R := hR
  rw [hR'] at hr
  clear hR hR'
  generalize chk c = v at *
  obtain ⟨m, b, w, r, pr, ph, pp, pb, mr, q⟩ := c
  simp only [Cfg.cells] at hq hs hr ⊢
  simp -implicitDefEqProofs [code9, hq, hs]
  refine (hr _ H ?_).mono ?_
  · simp -implicitDefEqProofs [T9, Cfg.cells, halfV]
  · rintro ⟨e, σ, G⟩ ⟨q1, q2, q3⟩
    simp only at q1 q2 q3
    subst q1
    simp [fun9] at q3
    cases e <;> simp at q2 <;> simp [q3]
end Go.A.SeatB
