import Derived.Test.YtgjjmhmaomcnaaaB5
namespace Go.A.SeatB
open Go.A
set_option linter.unusedSimpArgs false

abbrev rest5 (c : Cfg) : Prop := c.pollRetx = 0 ∧ c.prohibit = 0 ∧ c.pollPDU = 0 ∧ c.pollByte = 0 ∧ c.maxRetx = 0
def tmOk (c : Cfg) : Bool := decide (c.mode = 0 ∧ c.bits = 0 ∧ c.window = 0 ∧ c.reorder = 0 ∧ rest5 c)
def umOk (c : Cfg) : Bool := decide (c.mode = 1 ∧ (c.bits = 5 ∧ out (c.window, 1, 16) = false ∨ c.bits = 10 ∧ out (c.window, 1, 512) = false) ∧ out (c.reorder, 1, 1000) = false ∧ rest5 c)
def amOk (c : Cfg) : Bool := decide ((c.bits = 10 ∧ out (c.window, 1, 512) = false ∨ c.bits = 16 ∧ out (c.window, 1, 32768) = false) ∧ out (c.reorder, 1, 1000) = false ∧ out (c.pollRetx, 1, 1000) = false ∧ out (c.prohibit, 0, 1000) = false ∧ out (c.pollPDU, 1, 1000) = false ∧ out (c.pollByte, 1, 20000) = false ∧ out (c.maxRetx, 1, 32) = false)

theorem tm15 (c : Cfg) (H : Heap) : callW tbl X1 15 [.agg c.cells] H = some (ab (tmOk c), H) := by
  obtain ⟨m, b, w, r, pr, ph, pp, pb, mr, q⟩ := c
  have hE := eqAll_ints [m, b, w, r, pr, ph, pp, pb, mr, q] [0, 0, 0, 0, 0, 0, 0, 0, 0, q] rfl
  simp only [List.map, List.length, List.replicate] at hE
  rw [callW_eq, X1_none (by decide)]
  simp only [tbl, Option.bind_some, fun15, code15, Cfg.cells]
  rw [slots0_L 4 8 _ (by simp)]
  simp -implicitDefEqProofs [-eqAll_i, hE]
  rw [Bool.eq_iff_iff]
  simp [tmOk, rest5]

theorem made18 (H : Heap) (l : List (Int × Int × Int)) (cells : List AV) (hc : cells = (l.map tri).flatten) (n : Nat) (hn : n = l.length) (g : Nat) (hg : g = n * 3) (hm : l.length ≤ 1000) :
    ∃ N, callW tbl X1 18 [.sl H.length 0 n n 3 g true] (H ++ [.row cells]) = some (ab (l.all fun x => !out x), H ++ N) := by
  subst hg
  obtain ⟨N, h⟩ := within18 (Sl.made H 3 (l.map tri) cells (fun cs h => by obtain ⟨x, _, rfl⟩ := List.mem_map.1 h; rfl) hc n (by simp [hn])) hm
  exact ⟨_, by rw [h, List.append_assoc]⟩

theorem um16 (c : Cfg) (H : Heap) : ∃ N, callW tbl X1 16 [.agg c.cells] H = some (ab (umOk c), H ++ N) := by
  obtain ⟨m, b, w, r, pr, ph, pp, pb, mr, q⟩ := c
  have hE := eqAll_ints [m, b, w, r, pr, ph, pp, pb, mr, q] [1, b, w, r, 0, 0, 0, 0, 0, q] rfl
  simp only [List.map, List.length, List.replicate] at hE
  rw [callW_eq, X1_none (by decide)]
  simp only [tbl, Option.bind_some, fun16, code16, Cfg.cells]
  rw [slots0_L 6 38 _ (by simp)]
  by_cases h5 : b = 5
  · subst h5
    obtain ⟨N, h⟩ := made18 H [(w, 1, 16), (r, 1, 1000)] _ rfl 2 rfl 6 rfl (by simp)
    simp [tri] at h
    by_cases hm : [m, 5, w, r, pr, ph, pp, pb, mr, q] = [1, 5, w, r, 0, 0, 0, 0, 0, q]
    · refine ⟨N, ?_⟩
      rw [decide_eq_true hm] at hE
      simp -implicitDefEqProofs [-eqAll_i, hE, wrap_i64, h, AV.one]
      rw [Bool.eq_iff_iff]
      simp at hm
      simp [umOk, rest5, hm]
    · refine ⟨[], ?_⟩
      rw [decide_eq_false hm] at hE
      simp -implicitDefEqProofs [-eqAll_i, hE, wrap_i64]
      simp at hm
      simp [umOk, rest5]
      intro h1 _ _ h2 h3 h4 h5
      exact hm h1 h2 h3 h4 h5
  · by_cases h10 : b = 10
    · subst h10
      obtain ⟨N, h⟩ := made18 H [(w, 1, 512), (r, 1, 1000)] _ rfl 2 rfl 6 rfl (by simp)
      simp [tri] at h
      by_cases hm : [m, 10, w, r, pr, ph, pp, pb, mr, q] = [1, 10, w, r, 0, 0, 0, 0, 0, q]
      · refine ⟨N, ?_⟩
        rw [decide_eq_true hm] at hE
        simp -implicitDefEqProofs [-eqAll_i, hE, wrap_i64, h, AV.one]
        rw [Bool.eq_iff_iff]
        simp at hm
        simp [umOk, rest5, hm]
      · refine ⟨[], ?_⟩
        rw [decide_eq_false hm] at hE
        simp -implicitDefEqProofs [-eqAll_i, hE, wrap_i64]
        simp at hm
        simp [umOk, rest5]
        intro h1 _ _ h2 h3 h4 h5
        exact hm h1 h2 h3 h4 h5
    · refine ⟨[], ?_⟩
      simp -implicitDefEqProofs [h5, h10]
      simp [umOk, h5, h10]

theorem am17 (c : Cfg) (H : Heap) : ∃ N, callW tbl X1 17 [.agg c.cells] H = some (ab (amOk c), H ++ N) := by
  obtain ⟨m, b, w, r, pr, ph, pp, pb, mr, q⟩ := c
  rw [callW_eq, X1_none (by decide)]
  simp only [tbl, Option.bind_some, fun17, code17, Cfg.cells]
  rw [slots0_L 6 38 _ (by simp)]
  by_cases h5 : b = 10
  · subst h5
    obtain ⟨N, h⟩ := made18 H [(w, 1, 512), (r, 1, 1000), (pr, 1, 1000), (ph, 0, 1000), (pp, 1, 1000), (pb, 1, 20000), (mr, 1, 32)] _ rfl 7 rfl 21 rfl (by simp)
    simp [tri] at h
    refine ⟨N, ?_⟩
    simp -implicitDefEqProofs [wrap_i64, h, AV.one]
    rw [Bool.eq_iff_iff]
    simp [amOk]
  · by_cases h10 : b = 16
    · subst h10
      obtain ⟨N, h⟩ := made18 H [(w, 1, 32768), (r, 1, 1000), (pr, 1, 1000), (ph, 0, 1000), (pp, 1, 1000), (pb, 1, 20000), (mr, 1, 32)] _ rfl 7 rfl 21 rfl (by simp)
      simp [tri] at h
      refine ⟨N, ?_⟩
      simp -implicitDefEqProofs [wrap_i64, h, AV.one]
      rw [Bool.eq_iff_iff]
      simp [amOk]
    · refine ⟨[], ?_⟩
      simp -implicitDefEqProofs [h5, h10]
      simp [amOk, h5, h10]

/-- What Check tells. -/
def chk (c : Cfg) : Int := if ¬ (c.mode = 0 ∨ c.mode = 1 ∨ c.mode = 2) then 9 else if (if c.mode = 0 then tmOk c else if c.mode = 1 then umOk c else amOk c) = true ∧ out (c.queue, 1, 20000) = false then 0 else 1

theorem check7 (c : Cfg) (H : Heap) : ∃ N, callW tbl X1 7 [.agg c.cells] H = some (ai (chk c), H ++ N) := by
  have h15 := tm15 c H
  obtain ⟨N1, h16⟩ := um16 c H
  obtain ⟨N2, h17⟩ := am17 c H
  have hw : ∀ M : Heap, (∃ N, M = H ++ N) → ∃ N, callW tbl X1 18 [.sl M.length 0 1 1 3 3 true] (M ++ [.row (tri (c.queue, 1, 20000))]) = some (ab (!out (c.queue, 1, 20000)), H ++ N) := by
    rintro M ⟨N, rfl⟩
    obtain ⟨N', h⟩ := made18 (H ++ N) [(c.queue, 1, 20000)] _ rfl 1 rfl 3 rfl (by simp)
    exact ⟨_, by simpa [tri] using h⟩
  have hchk : chk c = if ¬ (c.mode = 0 ∨ c.mode = 1 ∨ c.mode = 2) then 9 else if (if c.mode = 0 then tmOk c else if c.mode = 1 then umOk c else amOk c) = true ∧ out (c.queue, 1, 20000) = false then 0 else 1 := rfl
  generalize tmOk c = t at *
  generalize umOk c = u at *
  generalize amOk c = a at *
  generalize chk c = k at *
  obtain ⟨m, b, w, r, pr, ph, pp, pb, mr, q⟩ := c
  simp only [Cfg.cells, tri] at h15 h16 h17 hw hchk
  rw [callW_eq, X1_none (by decide)]
  simp only [tbl, Option.bind_some, fun7, code7, Cfg.cells]
  rw [slots0_L 5 28 _ (by simp)]
  by_cases h0 : m = 0
  · subst h0
    cases t with
    | false => exact ⟨[], by simp -implicitDefEqProofs [h15, hchk]⟩
    | true =>
      obtain ⟨N, h⟩ := hw H ⟨[], by simp⟩
      refine ⟨N, ?_⟩
      cases ho : out (q, 1, 20000) <;> rw [ho] at h <;> simp -implicitDefEqProofs [h15, h, hchk, AV.one, ho]
  · by_cases h1 : m = 1
    · subst h1
      cases u with
      | false => exact ⟨N1, by simp -implicitDefEqProofs [h16, hchk]⟩
      | true =>
        obtain ⟨N, h⟩ := hw (H ++ N1) ⟨_, rfl⟩
        refine ⟨N, ?_⟩
        generalize H ++ N1 = M at *
        cases ho : out (q, 1, 20000) <;> rw [ho] at h <;> simp -implicitDefEqProofs [h16, h, hchk, AV.one, ho]
    · by_cases h2 : m = 2
      · subst h2
        cases a with
        | false => exact ⟨N2, by simp -implicitDefEqProofs [h17, hchk]⟩
        | true =>
          obtain ⟨N, h⟩ := hw (H ++ N2) ⟨_, rfl⟩
          refine ⟨N, ?_⟩
          generalize H ++ N2 = M at *
          cases ho : out (q, 1, 20000) <;> rw [ho] at h <;> simp -implicitDefEqProofs [h17, h, hchk, AV.one, ho]
      · exact ⟨[], by simp -implicitDefEqProofs [h0, h1, h2, hchk]⟩
end Go.A.SeatB
