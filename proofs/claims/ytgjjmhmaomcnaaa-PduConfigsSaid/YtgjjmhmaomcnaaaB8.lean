import Derived.Test.YtgjjmhmaomcnaaaB7
namespace Go.A.SeatB
open Go.A
set_option linter.unusedSimpArgs false

def halfV (b : Int) : Int := IntKind.i64.wrap ((sizeV b).tdiv 2)
theorem half5 : halfV 5 = 16 := by decide
theorem half10 : halfV 10 = 512 := by decide
theorem half16 : halfV 16 = 32768 := by decide

def T9 (c : Cfg) (k : Bool) : Tr := (((Tr.full 8).put (path 1) (.lbox c.cells)).put (path 3) (ab k)).put (path 4) (ai (halfV c.bits))
def K9 : List Nat := [4, 16, 17, 18, 19, 20, 21, 22, 23, 24, 25, 26, 27, 28, 29, 30, 31, 34, 35, 36, 37, 38, 39, 40, 41, 42, 43, 44, 45, 46, 47, 48, 49, 50, 51, 52, 53, 54, 55, 58, 59, 60, 61, 62, 63, 64, 65, 66, 67, 68, 69, 70, 71, 72, 73, 74, 75, 76, 77, 78, 79, 80, 81, 82, 83, 84, 85, 86, 87, 88, 89, 90, 91, 92, 93, 94, 95, 96, 97, 98, 99, 100, 101, 102, 103, 104]
def U9 (c : Cfg) (k : Bool) : Tr := ((Tr.full 8).put (path 1) (.lbox c.cells)).put (path 3) (ab k)

theorem sw0 (c : Cfg) (k : Bool) (H : Heap) (hm : c.mode = 0) : Ends (execW tbl X1 code9.sr.sr.sr.sl (L 135 (T9 c k)) H) fun s => s.H = H ∧ s.e = .normal ∧ kill K9 s.σ = L 135 (U9 c (k && decide (c.bits = 0 ∧ c.window = 0 ∧ c.reorder = 0))) := by
  obtain ⟨m, b, w, r, pr, ph, pp, pb, mr, q⟩ := c
  simp only at hm; subst hm
  cases k
  · simp -implicitDefEqProofs [code9, T9, Cfg.cells, K9, U9]
  · by_cases h1 : b = 0
    · by_cases h2 : w = 0
      · by_cases h3 : r = 0
        · simp -implicitDefEqProofs [code9, T9, Cfg.cells, K9, U9, h1, h2, h3]
        · simp -implicitDefEqProofs [code9, T9, Cfg.cells, K9, U9, h1, h2, h3]
      · simp -implicitDefEqProofs [code9, T9, Cfg.cells, K9, U9, h1, h2]
    · simp -implicitDefEqProofs [code9, T9, Cfg.cells, K9, U9, h1]

theorem sw1 (c : Cfg) (k : Bool) (H : Heap) (hm : c.mode = 1) : Ends (execW tbl X1 code9.sr.sr.sr.sl (L 135 (T9 c k)) H) fun s => s.H = H ∧ s.e = .normal ∧ kill K9 s.σ = L 135 (U9 c (k && decide ((c.bits = 5 ∧ out (c.window, 1, 16) = false ∨ c.bits = 10 ∧ out (c.window, 1, 512) = false) ∧ out (c.reorder, 1, 1000) = false))) := by
  obtain ⟨m, b, w, r, pr, ph, pp, pb, mr, q⟩ := c
  simp only at hm; subst hm
  cases k
  · simp -implicitDefEqProofs [code9, T9, Cfg.cells, K9, U9, is19, half5, half10, half16]
  · by_cases h1 : b = 5
    · subst h1
      cases e1 : out (w, 1, 16)
      · cases e2 : out (r, 1, 1000)
        · simp -implicitDefEqProofs [code9, T9, Cfg.cells, K9, U9, is19, half5, half10, half16, e1, e2]
        · simp -implicitDefEqProofs [code9, T9, Cfg.cells, K9, U9, is19, half5, half10, half16, e1, e2]
      · simp -implicitDefEqProofs [code9, T9, Cfg.cells, K9, U9, is19, half5, half10, half16, e1]
    · by_cases h2 : b = 10
      · subst h2
        cases e1 : out (w, 1, 512)
        · cases e2 : out (r, 1, 1000)
          · simp -implicitDefEqProofs [code9, T9, Cfg.cells, K9, U9, is19, half5, half10, half16, e1, e2]
          · simp -implicitDefEqProofs [code9, T9, Cfg.cells, K9, U9, is19, half5, half10, half16, e1, e2]
        · simp -implicitDefEqProofs [code9, T9, Cfg.cells, K9, U9, is19, half5, half10, half16, e1]
      · simp -implicitDefEqProofs [code9, T9, Cfg.cells, K9, U9, is19, half5, half10, half16, h1, h2]

theorem sw2 (c : Cfg) (k : Bool) (H : Heap) (hm : c.mode = 2) : Ends (execW tbl X1 code9.sr.sr.sr.sl (L 135 (T9 c k)) H) fun s => s.H = H ∧ s.e = .normal ∧ kill K9 s.σ = L 135 (U9 c (k && amOk c)) := by
  obtain ⟨m, b, w, r, pr, ph, pp, pb, mr, q⟩ := c
  simp only at hm; subst hm
  simp only [amOk]
  cases k
  · simp -implicitDefEqProofs [code9, T9, Cfg.cells, K9, U9, is19, half5, half10, half16]
  · by_cases h1 : b = 10
    · subst h1
      cases e1 : out (w, 1, 512)
      · cases e2 : out (r, 1, 1000)
        · cases e3 : out (pr, 1, 1000)
          · cases e4 : out (ph, 0, 1000)
            · cases e5 : out (pp, 1, 1000)
              · cases e6 : out (pb, 1, 20000)
                · cases e7 : out (mr, 1, 32)
                  · simp -implicitDefEqProofs [code9, T9, Cfg.cells, K9, U9, is19, half5, half10, half16, e1, e2, e3, e4, e5, e6, e7]
                  · simp -implicitDefEqProofs [code9, T9, Cfg.cells, K9, U9, is19, half5, half10, half16, e1, e2, e3, e4, e5, e6, e7]
                · simp -implicitDefEqProofs [code9, T9, Cfg.cells, K9, U9, is19, half5, half10, half16, e1, e2, e3, e4, e5, e6]
              · simp -implicitDefEqProofs [code9, T9, Cfg.cells, K9, U9, is19, half5, half10, half16, e1, e2, e3, e4, e5]
            · simp -implicitDefEqProofs [code9, T9, Cfg.cells, K9, U9, is19, half5, half10, half16, e1, e2, e3, e4]
          · simp -implicitDefEqProofs [code9, T9, Cfg.cells, K9, U9, is19, half5, half10, half16, e1, e2, e3]
        · simp -implicitDefEqProofs [code9, T9, Cfg.cells, K9, U9, is19, half5, half10, half16, e1, e2]
      · simp -implicitDefEqProofs [code9, T9, Cfg.cells, K9, U9, is19, half5, half10, half16, e1]
    · by_cases h2 : b = 16
      · subst h2
        cases e1 : out (w, 1, 32768)
        · cases e2 : out (r, 1, 1000)
          · cases e3 : out (pr, 1, 1000)
            · cases e4 : out (ph, 0, 1000)
              · cases e5 : out (pp, 1, 1000)
                · cases e6 : out (pb, 1, 20000)
                  · cases e7 : out (mr, 1, 32)
                    · simp -implicitDefEqProofs [code9, T9, Cfg.cells, K9, U9, is19, half5, half10, half16, e1, e2, e3, e4, e5, e6, e7]
                    · simp -implicitDefEqProofs [code9, T9, Cfg.cells, K9, U9, is19, half5, half10, half16, e1, e2, e3, e4, e5, e6, e7]
                  · simp -implicitDefEqProofs [code9, T9, Cfg.cells, K9, U9, is19, half5, half10, half16, e1, e2, e3, e4, e5, e6]
                · simp -implicitDefEqProofs [code9, T9, Cfg.cells, K9, U9, is19, half5, half10, half16, e1, e2, e3, e4, e5]
              · simp -implicitDefEqProofs [code9, T9, Cfg.cells, K9, U9, is19, half5, half10, half16, e1, e2, e3, e4]
            · simp -implicitDefEqProofs [code9, T9, Cfg.cells, K9, U9, is19, half5, half10, half16, e1, e2, e3]
          · simp -implicitDefEqProofs [code9, T9, Cfg.cells, K9, U9, is19, half5, half10, half16, e1, e2]
        · simp -implicitDefEqProofs [code9, T9, Cfg.cells, K9, U9, is19, half5, half10, half16, e1]
      · simp -implicitDefEqProofs [code9, T9, Cfg.cells, K9, U9, is19, half5, half10, half16, h1, h2]

def V9 : List Nat := [1, 105, 106, 107, 108, 109, 110, 111, 112, 113, 114, 115, 116, 117, 118, 119, 120, 121, 122, 123, 124, 125, 126, 127, 128, 129, 130, 131, 132]
theorem chain9 (c : Cfg) (k : Bool) (σ : List AV) (H : Heap) (hσ : kill K9 σ = L 135 (U9 c k)) : Ends (execW tbl X1 code9.sr.sr.sr.sr.sl σ H) fun s => s.H = H ∧ s.e = .normal ∧ kill V9 s.σ = L 135 ((Tr.full 8).put (path 3) (ab (k && decide (c.mode = 2 ∨ rest5 c)))) := by
  rw [← execW_head, show headK code9.sr.sr.sr.sr.sl = K9 from rfl, hσ]
  obtain ⟨m, b, w, r, pr, ph, pp, pb, mr, q⟩ := c
  by_cases h0 : m = 2
  · simp -implicitDefEqProofs [code9, Cfg.cells, U9, V9, h0]
  · by_cases h1 : pr = 0
    · by_cases h2 : ph = 0
      · by_cases h3 : pp = 0
        · by_cases h4 : pb = 0
          · by_cases h5 : mr = 0
            · simp -implicitDefEqProofs [code9, Cfg.cells, U9, V9, h0, h1, h2, h3, h4, h5]
            · simp -implicitDefEqProofs [code9, Cfg.cells, U9, V9, h0, h1, h2, h3, h4, h5]
          · simp -implicitDefEqProofs [code9, Cfg.cells, U9, V9, h0, h1, h2, h3, h4]
        · simp -implicitDefEqProofs [code9, Cfg.cells, U9, V9, h0, h1, h2, h3]
      · simp -implicitDefEqProofs [code9, Cfg.cells, U9, V9, h0, h1, h2]
    · simp -implicitDefEqProofs [code9, Cfg.cells, U9, V9, h0, h1]
end Go.A.SeatB
