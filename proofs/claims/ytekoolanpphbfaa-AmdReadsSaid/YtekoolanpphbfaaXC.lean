/- The plain law: a packet's bytes are read back. -/
import Derived.Test.YtekoolanpphbfaaXB
import Derived.Test.YtekoolanpphbfaaR3
set_option linter.unusedSimpArgs false
set_option linter.unusedVariables false
set_option linter.unnecessarySimpa false
namespace Go.A.V.S
open Go Go.A
set_option linter.unusedSimpArgs false
set_option linter.unusedVariables false

theorem bitsOf_succ (v n : Nat) : bitsOf v (n + 1) = bitsOf (v / 2) n ++ [decide (v % 2 = 1)] := by
  simp only [bitsOf, List.range_succ, List.map_append, List.map_cons, List.map_nil]
  congr 1
  · refine List.map_congr_left fun j hj => ?_
    rw [List.mem_range] at hj
    have e : v / 2 / 2 ^ (n - 1 - j) = v / 2 ^ (n + 1 - 1 - j) := by
      rw [Nat.div_div_eq_div_mul]
      congr 1
      rw [show n + 1 - 1 - j = (n - 1 - j) + 1 by omega, Nat.pow_succ]; omega
    rw [e]
  · simp
end Go.A.V.S

namespace Go.A.V.S
open Go Go.A
set_option linter.unusedSimpArgs false
set_option linter.unusedVariables false

section
variable {w : Nat} {l lb rest : List Nat}
end
end Go.A.V.S

namespace Go.A.V.S
open Go Go.A
set_option linter.unusedSimpArgs false
set_option linter.unusedVariables false

theorem lenL_eq (p : Pk) : lenL p = (bb p.ff).dropLast.map (·.length) := by
  rw [lenL, List.dropLast_eq_take, bb_len, bb, bb, List.map_take]
end Go.A.V.S

namespace Go.A.V.S
open Go Go.A
set_option linter.unusedSimpArgs false
set_option linter.unusedVariables false

theorem bitsOf_num : ∀ (k : Nat) (x : List Bool), x.length = k → bitsOf (num x) k = x
  | 0, x, h => by
    have : x = [] := List.length_eq_zero_iff.1 h
    subst this; rfl
  | k + 1, x, h => by
    have hne : x ≠ [] := fun e => by subst e; simp at h
    obtain ⟨y, b, rfl⟩ : ∃ y b, x = y ++ [b] := ⟨_, _, (List.dropLast_concat_getLast hne).symm⟩
    have hl : y.length = k := by simp at h; exact h
    rw [num_snoc, bitsOf_succ]
    have ih := bitsOf_num k y hl
    cases b with
    | true =>
      rw [show (2 * num y + true.toNat) / 2 = num y by simp; omega, ih]
      simp
    | false =>
      rw [show (2 * num y + false.toNat) / 2 = num y by simp, ih]
      simp
/-- n bits from a on. -/
def sl (bs : List Nat) (a n : Nat) : List Bool := ((bitsB bs).drop a).take n
theorem sl_app (bs : List Nat) (a n m : Nat) : sl bs a n ++ sl bs (a + n) m = sl bs a (n + m) := by
  rw [sl, sl, sl, List.take_add, ← List.drop_drop]
theorem sl_len {bs : List Nat} {a n : Nat} (h : a + n ≤ 8 * bs.length) : (sl bs a n).length = n := by
  rw [sl, List.length_take, List.length_drop, bitsB_len]; omega
theorem sl_num {bs : List Nat} {a n : Nat} (h : a + n ≤ 8 * bs.length) : bitsOf (numAt bs a n) n = sl bs a n := bitsOf_num n _ (sl_len h)
theorem sl_one {bs : List Nat} {a : Nat} (h : a + 1 ≤ 8 * bs.length) : [decide (numAt bs a 1 = 1)] = sl bs a 1 := by
  have h1 := sl_num h
  rw [← h1]
  have h2 := numAt_one bs a
  have : numAt bs a 1 = 0 ∨ numAt bs a 1 = 1 := by omega
  rcases this with e | e <;> rw [e] <;> rfl
theorem sl_take (bs : List Nat) (n : Nat) : bitsB (bs.take n) = sl bs 0 (8 * n) := by
  rw [sl, List.drop_zero]
  have h : bitsB bs = bitsB (bs.take n) ++ bitsB (bs.drop n) := by rw [← bitsB_app, List.take_append_drop]
  by_cases hn : n ≤ bs.length
  · have hl : (bitsB (bs.take n)).length = 8 * n := by rw [bitsB_len, List.length_take]; omega
    rw [h, ← hl, List.take_left]
  · rw [List.take_of_length_le (by omega), List.take_of_length_le (by rw [bitsB_len]; omega)]
/-- The head that is read is the head that is put. -/
theorem head_bits {bs : List Nat} {w : Nat} {q : Pk} (hw : w = 10 ∨ w = 16) (hl : headV (hPart bs) w ≤ bs.length) (h0 : ¬ numAt bs 0 1 = 0) (hok : hOk bs w = true)
    (hq : q.poll = hPoll bs ∧ q.fi = (hFI bs : Nat) ∧ q.sn = (hSN bs w : Nat) ∧ q.part = hPart bs ∧ q.last = hLast bs w ∧ q.off = (hOff bs w : Nat)) (hm : hMore bs = decide (1 < q.ff.length)) :
    hBits q w = bitsB (bs.take (headV (hPart bs) w)) := by
  obtain ⟨q1, q2, q3, q4, q5, q6⟩ := hq
  have hv := headV_eq (part := hPart bs) hw
  obtain ⟨n, hn⟩ : ∃ t, headV (hPart bs) w = t := ⟨_, rfl⟩
  rw [hn] at hv hl ⊢
  have hn2 : 2 ≤ n := by rw [hv]; split <;> omega
  have n0 : numAt bs 0 1 = 1 := by have := numAt_one bs 0; omega
  have o0 := sl_one (bs := bs) (a := 0) (by omega)
  have o1 := sl_one (bs := bs) (a := 1) (by omega)
  have o2 := sl_one (bs := bs) (a := 2) (by omega)
  have o3 := sl_num (bs := bs) (a := 3) (n := 2) (by omega)
  have o5 := sl_one (bs := bs) (a := 5) (by omega)
  rw [n0] at o0
  rw [sl_take]
  have hm' := hm.symm
  rw [hMore] at hm'
  rcases hw with rfl | rfl
  · by_cases hpp : numAt bs 1 1 = 1
    · have hP : hPart bs = true := by simp [hPart, hpp]
      rw [hP] at hv
      have hn' : n = 4 := by rw [hv]; simp
      subst hn'
      have o6 := sl_num (bs := bs) (a := 6) (n := 10) (by omega)
      have o16 := sl_one (bs := bs) (a := 16) (by omega)
      have o17 := sl_num (bs := bs) (a := 17) (n := 15) (by omega)
      have j16 : sl bs 16 1 ++ sl bs 17 15 = sl bs 16 16 := sl_app bs 16 1 15
      have j6 : sl bs 6 10 ++ sl bs 16 16 = sl bs 6 26 := sl_app bs 6 10 16
      have j5 : sl bs 5 1 ++ sl bs 6 26 = sl bs 5 27 := sl_app bs 5 1 26
      have j3 : sl bs 3 2 ++ sl bs 5 27 = sl bs 3 29 := sl_app bs 3 2 27
      have j2 : sl bs 2 1 ++ sl bs 3 29 = sl bs 2 30 := sl_app bs 2 1 29
      have j1 : sl bs 1 1 ++ sl bs 2 30 = sl bs 1 31 := sl_app bs 1 1 30
      have j0 : sl bs 0 1 ++ sl bs 1 31 = sl bs 0 32 := sl_app bs 0 1 31
      rw [show 8 * 4 = 32 from rfl, ← j0, ← j1, ← j2, ← j3, ← j5, ← j6, ← j16]
      rw [← o0, ← o1, ← o2, ← o3, ← o5, ← o6, ← o16, ← o17]
      simp [hBits, q1, q2, q3, q4, q5, q6, hm', hPart, hPoll, hFI, hSN, hLast, hOff, hpp, offWd]
    · have hP : hPart bs = false := by simp [hPart, hpp]
      rw [hP] at hv
      have hn' : n = 2 := by rw [hv]; simp
      subst hn'
      have o6 := sl_num (bs := bs) (a := 6) (n := 10) (by omega)
      have j5 : sl bs 5 1 ++ sl bs 6 10 = sl bs 5 11 := sl_app bs 5 1 10
      have j3 : sl bs 3 2 ++ sl bs 5 11 = sl bs 3 13 := sl_app bs 3 2 11
      have j2 : sl bs 2 1 ++ sl bs 3 13 = sl bs 2 14 := sl_app bs 2 1 13
      have j1 : sl bs 1 1 ++ sl bs 2 14 = sl bs 1 15 := sl_app bs 1 1 14
      have j0 : sl bs 0 1 ++ sl bs 1 15 = sl bs 0 16 := sl_app bs 0 1 15
      rw [show 8 * 2 = 16 from rfl, ← j0, ← j1, ← j2, ← j3, ← j5]
      rw [← o0, ← o1, ← o2, ← o3, ← o5, ← o6]
      simp [hBits, q1, q2, q3, q4, q5, q6, hm', hPart, hPoll, hFI, hSN, hLast, hOff, hpp, offWd]
  · by_cases hpp : numAt bs 1 1 = 1
    · have hP : hPart bs = true := by simp [hPart, hpp]
      rw [hP] at hv
      have hn' : n = 5 := by rw [hv]; simp
      subst hn'
      have o6 := sl_one (bs := bs) (a := 6) (by omega)
      have o7 := sl_one (bs := bs) (a := 7) (by omega)
      have o8 := sl_num (bs := bs) (a := 8) (n := 16) (by omega)
      have o24 := sl_num (bs := bs) (a := 24) (n := 16) (by omega)
      have j8 : sl bs 8 16 ++ sl bs 24 16 = sl bs 8 32 := sl_app bs 8 16 16
      have j7 : sl bs 7 1 ++ sl bs 8 32 = sl bs 7 33 := sl_app bs 7 1 32
      have j6 : sl bs 6 1 ++ sl bs 7 33 = sl bs 6 34 := sl_app bs 6 1 33
      have j5 : sl bs 5 1 ++ sl bs 6 34 = sl bs 5 35 := sl_app bs 5 1 34
      have j3 : sl bs 3 2 ++ sl bs 5 35 = sl bs 3 37 := sl_app bs 3 2 35
      have j2 : sl bs 2 1 ++ sl bs 3 37 = sl bs 2 38 := sl_app bs 2 1 37
      have j1 : sl bs 1 1 ++ sl bs 2 38 = sl bs 1 39 := sl_app bs 1 1 38
      have j0 : sl bs 0 1 ++ sl bs 1 39 = sl bs 0 40 := sl_app bs 0 1 39
      have n7 : numAt bs 7 1 = 0 := by simp [hOk] at hok; exact hok.1
      rw [n7] at o7
      rw [show 8 * 5 = 40 from rfl, ← j0, ← j1, ← j2, ← j3, ← j5, ← j6, ← j7, ← j8]
      rw [← o0, ← o1, ← o2, ← o3, ← o5, ← o6, ← o7, ← o8, ← o24]
      simp [hBits, q1, q2, q3, q4, q5, q6, hm', hPart, hPoll, hFI, hSN, hLast, hOff, hpp, offWd]
    · have hP : hPart bs = false := by simp [hPart, hpp]
      rw [hP] at hv
      have hn' : n = 3 := by rw [hv]; simp
      subst hn'
      have o6 := sl_one (bs := bs) (a := 6) (by omega)
      have o7 := sl_one (bs := bs) (a := 7) (by omega)
      have o8 := sl_num (bs := bs) (a := 8) (n := 16) (by omega)
      have j7 : sl bs 7 1 ++ sl bs 8 16 = sl bs 7 17 := sl_app bs 7 1 16
      have j6 : sl bs 6 1 ++ sl bs 7 17 = sl bs 6 18 := sl_app bs 6 1 17
      have j5 : sl bs 5 1 ++ sl bs 6 18 = sl bs 5 19 := sl_app bs 5 1 18
      have j3 : sl bs 3 2 ++ sl bs 5 19 = sl bs 3 21 := sl_app bs 3 2 19
      have j2 : sl bs 2 1 ++ sl bs 3 21 = sl bs 2 22 := sl_app bs 2 1 21
      have j1 : sl bs 1 1 ++ sl bs 2 22 = sl bs 1 23 := sl_app bs 1 1 22
      have j0 : sl bs 0 1 ++ sl bs 1 23 = sl bs 0 24 := sl_app bs 0 1 23
      have n7 : numAt bs 7 1 = 0 := by simp [hOk] at hok; exact hok.1
      rw [n7] at o7
      rw [show 8 * 3 = 24 from rfl, ← j0, ← j1, ← j2, ← j3, ← j5, ← j6, ← j7]
      rw [← o0, ← o1, ← o2, ← o3, ← o5, ← o6, ← o7, ← o8]
      simp [hBits, q1, q2, q3, q4, q5, q6, hm', hPart, hPoll, hFI, hSN, hLast, hOff, hpp, offWd]
end Go.A.V.S

namespace Go.A.V.S
open Go Go.A
set_option linter.unusedSimpArgs false
set_option linter.unusedVariables false

theorem lBits_of {bs : List Nat} {w : Nat} : ∀ (l : List Nat) (k : Nat), (∀ j n, l[j]? = some n → n = lnum bs w (k + j) ∧ lmore bs w (k + j) = (decide (j + 1 < l.length)).toNat) → (k + l.length) * (w + 1) ≤ 8 * bs.length → lBits w l = sl bs (k * (w + 1)) (l.length * (w + 1))
  | [], k, _, _ => by simp [lBits, sl]
  | n :: r, k, h, hle => by
    obtain ⟨h1, h2⟩ := h 0 n rfl
    rw [Nat.add_zero] at h1 h2
    have hle2 : (k + 1 + r.length) * (w + 1) ≤ 8 * bs.length := by rw [List.length_cons] at hle; rw [show k + 1 + r.length = k + (r.length + 1) by omega]; exact hle
    have ih := lBits_of (bs := bs) (w := w) r (k + 1) (fun j m hj => by
      have := h (j + 1) m (by simpa using hj)
      rw [show k + 1 + j = k + (j + 1) by omega]
      refine ⟨this.1, ?_⟩
      rw [this.2]
      congr 1
      exact decide_eq_decide.2 (by simp)) hle2
    have hk : k * (w + 1) + (w + 1) + r.length * (w + 1) ≤ 8 * bs.length := by
      have e : (k + 1 + r.length) * (w + 1) = k * (w + 1) + (w + 1) + r.length * (w + 1) := by rw [Nat.add_mul, Nat.add_mul]; omega
      omega
    have a1 := sl_num (bs := bs) (a := k * (w + 1)) (n := 1) (by omega)
    have a2 := sl_num (bs := bs) (a := k * (w + 1) + 1) (n := w) (by omega)
    have h2' : numAt bs (k * (w + 1)) 1 = (decide (0 + 1 < (n :: r).length)).toNat := h2
    have hd : decide (0 + 1 < (n :: r).length) = decide (0 < r.length) := decide_eq_decide.2 (by simp)
    rw [h2', hd, bitsOf_b] at a1
    have h1' : numAt bs (k * (w + 1) + 1) w = n := h1.symm
    rw [h1'] at a2
    have e1 : (k + 1) * (w + 1) = k * (w + 1) + 1 + w := by rw [Nat.add_mul]; omega
    have e2 : (n :: r).length * (w + 1) = 1 + (w + r.length * (w + 1)) := by rw [List.length_cons, Nat.add_mul]; omega
    rw [e1] at ih
    have e3 := sl_app bs (k * (w + 1)) 1 (w + r.length * (w + 1))
    rw [lBits, ih, a2, sl_app, e2, ← e3, ← a1]
    rfl
end Go.A.V.S

namespace Go.A.V.S
open Go Go.A
set_option linter.unusedSimpArgs false
set_option linter.unusedVariables false

theorem lr_more {bs : List Nat} {w c : Nat} : ∀ z, z ≤ 23 → lr bs w z = (c, 0) → ∀ k, 23 - z ≤ k → k < c → lmore bs w k = (decide (k + 1 < c)).toNat ∧ lnum bs w k ≠ 0
  | 0, _, h, k, h1, h2 => by rw [lr] at h; simp at h
  | z + 1, hz, h, k, h1, h2 => by
    have hgt := lr_ok (bs := bs) (w := w) (z + 1) hz (by rw [h])
    rw [h] at hgt
    simp only at hgt
    rw [lr] at h
    by_cases c1 : 8 * bs.length < (22 - z) * (w + 1) + (w + 1)
    · rw [if_pos c1] at h; simp at h
    rw [if_neg c1] at h
    by_cases c2 : lnum bs w (22 - z) = 0
    · rw [if_pos c2] at h; simp at h
    rw [if_neg c2] at h
    by_cases c3 : lmore bs w (22 - z) = 1
    · rw [if_pos c3] at h
      have hgt2 := lr_ok (bs := bs) (w := w) z (by omega) (by rw [h])
      rw [h] at hgt2
      simp only at hgt2
      by_cases hk : k = 22 - z
      · subst hk
        refine ⟨?_, c2⟩
        rw [c3, decide_eq_true (by omega)]; rfl
      · exact lr_more z (by omega) h k (by omega) h2
    · rw [if_neg c3] at h
      simp only [Prod.mk.injEq, and_true] at h
      have hk : k = 22 - z := by omega
      subst hk
      refine ⟨?_, c2⟩
      have : lmore bs w (22 - z) < 2 := numAt_one _ _
      rw [decide_eq_false (by omega)]
      simp; omega
theorem lens_bits {bs : List Nat} {w : Nat} (hby : Bytes bs) (h : (lensR bs w).2 = 0) : PackR (lBits w (lvals bs w (lensR bs w).1)) (bs.take (lsize (lensR bs w).1 w)) ∧ ∀ n ∈ lvals bs w (lensR bs w).1, n ≠ 0 := by
  obtain ⟨hc0, hc23, hle⟩ := lensR_ok h
  have hlr : lr bs w 23 = ((lensR bs w).1, 0) ∧ numAt bs ((lensR bs w).1 * (w + 1)) (padN ((lensR bs w).1 * (w + 1))) = 0 := by
    unfold lensR at h ⊢
    by_cases h1 : (lr bs w 23).2 = 0
    · rw [if_pos h1] at h ⊢
      by_cases h2 : numAt bs ((lr bs w 23).1 * (w + 1)) (padN ((lr bs w 23).1 * (w + 1))) = 0
      · rw [if_pos h2]
        exact ⟨by rw [← h1], h2⟩
      · rw [if_neg h2] at h; simp at h
    · rw [if_neg h1] at h; exact (h1 h).elim
  obtain ⟨c, hc⟩ : ∃ t, (lensR bs w).1 = t := ⟨_, rfl⟩
  rw [hc] at hlr hc0 hc23 hle ⊢
  obtain ⟨h1, h2⟩ := hlr
  have hm := lr_more 23 (by omega) h1
  have hb := lBits_of (bs := bs) (w := w) (lvals bs w c) 0 (fun j n hj => by
    have hjl := (List.getElem?_eq_some_iff.1 hj).1
    rw [lvals_len] at hjl
    rw [Nat.zero_add, lvals_len]
    refine ⟨?_, (hm j (by omega) hjl).1⟩
    rw [lvals, List.getElem?_map, List.getElem?_range hjl] at hj
    exact (Option.some.inj hj).symm) (by rw [lvals_len, Nat.zero_add]; exact hle)
  rw [lvals_len, Nat.zero_mul] at hb
  refine ⟨?_, fun n hn => ?_⟩
  · have hs : 8 * lsize c w = c * (w + 1) + padN (c * (w + 1)) := by
      rw [lsize, if_neg (by omega)]; simp only [padN]; omega
    have hpl := padN_le hle
    have hq : lsize c w = (c * (w + 1) + 7) / 8 := by rw [lsize, if_neg (by omega)]
    have hz : sl bs (c * (w + 1)) (padN (c * (w + 1))) = List.replicate (padN (c * (w + 1))) false := by
      rw [← sl_num hpl, h2]
      generalize padN (c * (w + 1)) = m
      induction m with
      | zero => rfl
      | succ m ih => rw [bitsOf_succ, ih, List.replicate_succ']; rfl
    refine ⟨?_, fun b hb => hby b (List.mem_of_mem_take hb), ?_⟩
    · rw [List.length_take, lBits_len, lvals_len]; omega
    · rw [sl_take, hs, hb]
      have e := sl_app bs 0 (c * (w + 1)) (padN (c * (w + 1)))
      rw [← e, Nat.zero_add, hz]
      congr 2
      rw [sl_len (by omega), List.length_take]; omega
  · obtain ⟨k, hk, rfl⟩ := List.mem_map.1 hn
    rw [List.mem_range] at hk
    exact (hm k (by omega) hk).2
end Go.A.V.S

namespace Go.A.V.S
open Go Go.A
set_option linter.unusedSimpArgs false
set_option linter.unusedVariables false

theorem cutF_ok : ∀ (l bs : List Nat) (ff : List (List Nat)), cutF bs l = some ff → ff.flatten = bs ∧ ff.dropLast.map (·.length) = l ∧ ff ≠ [] ∧ ((∀ n ∈ l, n ≠ 0) → ∀ f ∈ ff, f.length ≠ 0)
  | [], bs, ff, h => by
    rw [cutF] at h
    by_cases h0 : bs.length = 0
    · rw [if_pos h0] at h; simp at h
    · rw [if_neg h0] at h
      obtain rfl := Option.some.inj h
      refine ⟨by simp, rfl, by simp, fun _ f hf => ?_⟩
      simp at hf; subst hf; exact h0
  | n :: r, bs, ff, h => by
    rw [cutF] at h
    by_cases hc : bs.length < n
    · rw [if_pos hc] at h; simp at h
    · rw [if_neg hc] at h
      obtain ⟨gg, h1, rfl⟩ := Option.map_eq_some_iff.1 h
      obtain ⟨e1, e2, e3, e4⟩ := cutF_ok r (bs.drop n) gg h1
      have hl : (bs.take n).length = n := by rw [List.length_take]; omega
      refine ⟨by rw [List.flatten_cons, e1, List.take_append_drop], ?_, by simp, fun hn f hf => ?_⟩
      · rw [List.dropLast_cons_of_ne_nil e3, List.map_cons, e2]
        simp only [hl]
      · rcases List.mem_cons.1 hf with rfl | hf
        · rw [hl]; exact hn n (by simp)
        · exact e4 (fun m hm => hn m (by simp [hm])) f hf
end Go.A.V.S

namespace Go.A.V.S
open Go Go.A
set_option linter.unusedSimpArgs false
set_option linter.unusedVariables false

theorem sumR_of : ∀ (ff : List (List Nat)) (n : Nat), (∀ f ∈ ff, f.length ≠ 0) → (∀ f ∈ ff.dropLast, f.length ≤ 2047) → n + ff.flatten.length ≤ 4000 → sumR n ff = n + ff.flatten.length
  | [], n, _, _, _ => by simp [sumR]
  | f :: r, n, h1, h2, h3 => by
    rw [List.flatten_cons, List.length_append] at h3 ⊢
    have c2 : ¬ (2047 < f.length ∧ 0 < r.length) := fun ⟨a, b⟩ => by
      cases r with
      | nil => simp at b
      | cons g s =>
        have := h2 f (by simp)
        omega
    rw [sumR, if_neg (h1 f (by simp)), if_neg c2, if_neg (by omega), sumR_of r (n + f.length) (fun x hx => h1 x (by simp [hx])) (fun x hx => h2 x (by
      cases r with
      | nil => simp at hx
      | cons g s => exact List.mem_cons_of_mem _ hx)) (by omega)]
    omega
end Go.A.V.S

namespace Go.A.V.S
open Go Go.A
set_option linter.unusedSimpArgs false
set_option linter.unusedVariables false

/-- What is read: all that was asked. -/
theorem readR_ok {bs : List Nat} {w : Int} {ff : List (List Nat)} (h : readR bs w = (0, ff)) :
    (w = 10 ∨ w = 16) ∧ bs.length ≤ 4000 ∧ ¬ numAt bs 0 1 = 0 ∧ headV (hPart bs) w ≤ bs.length ∧ hOk bs w.toNat = true ∧ restR bs w.toNat = (0, ff) := by
  unfold readR at h
  by_cases hw : w = 10 ∨ w = 16
  · rw [if_pos hw] at h
    by_cases c1 : 4000 < bs.length
    · rw [if_pos c1] at h; simp at h
    rw [if_neg c1] at h
    by_cases c2 : bs.length = 0
    · rw [if_pos c2] at h; simp at h
    rw [if_neg c2] at h
    by_cases c3 : numAt bs 0 1 = 0
    · rw [if_pos c3] at h; simp at h
    rw [if_neg c3] at h
    by_cases c4 : bs.length < headV (hPart bs) w
    · rw [if_pos c4] at h; simp at h
    rw [if_neg c4] at h
    by_cases c5 : hOk bs w.toNat = true
    · rw [if_pos c5] at h
      exact ⟨hw, by omega, c3, by omega, c5, h⟩
    · rw [if_neg c5] at h; simp at h
  · rw [if_neg hw] at h; simp at h
theorem fieldsR_ok {bs l : List Nat} {ff : List (List Nat)} (h : fieldsR bs l = (0, ff)) : cutF bs l = some ff ∧ ∀ n ∈ l, n ≤ 2047 := by
  unfold fieldsR at h
  by_cases c : (l.any fun n => decide (2047 < n)) = true
  · rw [if_pos c] at h; simp at h
  · rw [if_neg c] at h
    refine ⟨?_, fun n hn => ?_⟩
    · cases hc : cutF bs l with
      | none => rw [hc] at h; simp at h
      | some gg => rw [hc] at h; simp at h; rw [h]
    · simp at c
      exact c n hn
end Go.A.V.S

namespace Go.A.V.S
open Go Go.A
set_option linter.unusedSimpArgs false
set_option linter.unusedVariables false

theorem put_again {bs : List Nat} (hby : Bytes bs) {w : Int} {q : Pk} (h : readR bs w = (0, bb q.ff))
    (hq : q.poll = hPoll bs ∧ q.fi = (hFI bs : Nat) ∧ q.sn = (hSN bs w.toNat : Nat) ∧ q.part = hPart bs ∧ q.last = hLast bs w.toNat ∧ q.off = (hOff bs w.toNat : Nat)) :
    sizeR q w = bs.length ∧ bs.length ≠ 0 ∧ WrB q w.toNat bs := by
  obtain ⟨hw, hlen, hn0, hhd, hok, hrest⟩ := readR_ok h
  obtain ⟨wn, rfl, hwn⟩ : ∃ wn : Nat, w = wn ∧ (wn = 10 ∨ wn = 16) := by
    rcases hw with rfl | rfl
    · exact ⟨10, rfl, .inl rfl⟩
    · exact ⟨16, rfl, .inr rfl⟩
  have htn : ((wn : Nat) : Int).toNat = wn := by simp
  rw [htn] at hok hrest hq ⊢
  obtain ⟨n, hn⟩ : ∃ t, headV (hPart bs) (wn : Int) = t := ⟨_, rfl⟩
  have key : ∃ lb : List Nat, PackR (lBits (lenWd wn) (lenL q)) lb ∧ bs.drop n = lb ++ (bb q.ff).flatten ∧ (∀ f ∈ bb q.ff, f.length ≠ 0) ∧ (∀ f ∈ (bb q.ff).dropLast, f.length ≤ 2047) ∧ bb q.ff ≠ [] ∧ (bb q.ff).length ≤ 24 ∧ lb.length = lsize (q.ff.length - 1) (lenWd wn) ∧ hMore bs = decide (1 < q.ff.length) := by
    have hlw : lenWd wn = 11 ∨ lenWd wn = 15 := by rcases hwn with rfl | rfl <;> simp [lenWd]
    rw [restR, restR.bs', hn] at hrest
    have hby2 : Bytes (bs.drop n) := fun x hx => hby x (List.mem_of_mem_drop hx)
    rw [lenL_eq]
    obtain ⟨ds, hds⟩ : ∃ t, bs.drop n = t := ⟨_, rfl⟩
    rw [hds] at hrest hby2 ⊢
    cases hm : hMore bs with
    | true =>
      rw [if_pos hm] at hrest
      by_cases he : (lensR ds (lenWd wn)).2 = 0
      · rw [if_pos he] at hrest
        obtain ⟨f1, f2⟩ := fieldsR_ok hrest
        obtain ⟨p1, p2⟩ := lens_bits hby2 he
        obtain ⟨c1, c2, c3, c4⟩ := cutF_ok _ _ _ f1
        obtain ⟨o1, o2, o3⟩ := lensR_ok he
        have hl : (bb q.ff).dropLast.length = (lensR ds (lenWd wn)).1 := by
          have := congrArg List.length c2
          rwa [List.length_map, lvals_len] at this
        rw [List.length_dropLast, bb_len] at hl
        refine ⟨ds.take (lsize (lensR ds (lenWd wn)).1 (lenWd wn)), by rw [c2]; exact p1, by rw [c1, List.take_append_drop], c4 p2, fun f hf => f2 _ (by rw [← c2]; exact List.mem_map_of_mem hf), c3, by rw [bb_len]; omega, ?_, by rw [decide_eq_true (by omega)]⟩
        rw [List.length_take, hl]
        have : lsize (lensR ds (lenWd wn)).1 (lenWd wn) = ((lensR ds (lenWd wn)).1 * (lenWd wn + 1) + 7) / 8 := by rw [lsize, if_neg (by omega)]
        omega
      · rw [if_neg he] at hrest
        simp only [Prod.mk.injEq] at hrest
        exact (he hrest.1).elim
    | false =>
      rw [if_neg (by rw [hm]; simp)] at hrest
      obtain ⟨f1, f2⟩ := fieldsR_ok hrest
      obtain ⟨c1, c2, c3, c4⟩ := cutF_ok _ _ _ f1
      have hl : (bb q.ff).dropLast.length = 0 := by
        have := congrArg List.length c2
        rwa [List.length_map] at this
      have hd0 : (bb q.ff).dropLast = [] := List.length_eq_zero_iff.1 hl
      rw [List.length_dropLast, bb_len] at hl
      refine ⟨[], by rw [c2]; exact PackR.nil, by rw [c1]; rfl, c4 (by simp), by rw [hd0]; simp, c3, by rw [bb_len]; omega, by rw [hl, lsize, if_pos (by omega)]; rfl, by rw [decide_eq_false (by omega)]⟩
  obtain ⟨lb, k1, k2, k3, k4, k5, k6, k7, k8⟩ := key
  have hhb := head_bits (q := q) hwn hhd hn0 hok hq k8
  rw [hn] at hhb
  rw [hn] at hhd
  have hnl : (bs.take n).length = n := by rw [List.length_take]; omega
  have hbs : bs = bs.take n ++ lb ++ (bb q.ff).flatten := by rw [List.append_assoc, ← k2, List.take_append_drop]
  have hlen2 := congrArg List.length hbs
  simp only [List.length_append, hnl] at hlen2
  have hpk : PackR (hBits q wn) (bs.take n) := by
    have hx : (hBits q wn).length = 8 * n := by rw [hhb, bitsB_len, hnl]
    refine ⟨by rw [hx, hnl]; omega, fun b hb => hby b (List.mem_of_mem_take hb), by rw [hhb, hnl, bitsB_len, hnl, Nat.sub_self]; simp⟩
  have hbase : base q wn = n + lb.length := by rw [base, hq.2.2.2.1, hn, k7]
  have hsum : sumR (base q wn) (bb q.ff) = bs.length := by
    rw [sumR_of _ _ k3 k4 (by rw [hbase]; omega), hbase]; omega
  have hn2 : 2 ≤ n := by rw [← hn, headV_eq hwn]; split <;> omega
  refine ⟨?_, by omega, ⟨bs.take n, lb, hpk, k1, hbs⟩⟩
  obtain ⟨q1, q2, q3, q4, q5, q6⟩ := hq
  have hv := headV_eq (part := hPart bs) hwn
  rw [hn] at hv
  have b3 := numAt_lt (bs := bs) (a := 3) (n := 2) (by omega)
  have hz : q.part = true ∨ (q.part = false ∧ q.last = false ∧ q.off = 0) := by
    rw [q4, q5, q6]
    cases hp : hPart bs with
    | true => exact .inl rfl
    | false =>
      refine .inr ⟨rfl, ?_, by simp [hOff, hp]⟩
      rcases hwn with rfl | rfl
      · simp [hLast, hp]
      · simp [hOk, hp] at hok; exact hok.2
  have hsn : hSN bs wn < 2 ^ wn := by
    rcases hwn with rfl | rfl
    · exact numAt_lt (by simp at hv; split at hv <;> omega)
    · exact numAt_lt (by simp at hv; split at hv <;> omega)
  have hoff : hOff bs wn < 2 ^ offWd (wn : Int) := by
    unfold hOff
    split
    · rename_i hp
      rw [if_pos hp] at hv
      rcases hwn with rfl | rfl
      · exact numAt_lt (by simp at hv; omega)
      · exact numAt_lt (by simp at hv; omega)
    · exact Nat.pow_pos (by omega)
  have hfi : hFI bs < 4 := b3
  have hL : q.ff.length = (bb q.ff).length := (bb_len _).symm
  have hne : (bb q.ff).length ≠ 0 := fun e => k5 (List.length_eq_zero_iff.1 e)
  rw [sizeR, if_neg (not_not_intro hw), if_neg (by omega), if_neg (by omega), if_neg (by rw [htn, q3]; omega), if_neg (by rcases hz with h | ⟨_, h, _⟩ <;> simp [h]), if_neg (by rcases hz with h | ⟨_, _, h⟩ <;> simp [h]), if_neg (by omega), if_neg (by rw [q6]; omega), if_neg (by omega), if_neg (by omega), htn, hsum]
end Go.A.V.S

namespace Go.A.V.S
open Go Go.A
set_option linter.unusedSimpArgs false
set_option linter.unusedVariables false

def pk0 : Pk := ⟨false, 0, 0, false, false, 0, true, []⟩
theorem bytesF_of {out : List Bs} {ff : List (List Nat)} (h : bb out = ff) (hf : ∀ f ∈ ff, Bytes f) : BytesF out := fun b hb => hf _ (by rw [← h]; exact List.mem_map_of_mem hb)

/-- What is read. -/
def RdP (bs : List Nat) (w : Int) (q : Pk) (e : Int) : Prop :=
  e = ((readR bs w).1 : Nat) ∧ q.z = true ∧ ((e ≠ 0 ∧ q = pk0) ∨ (e = 0 ∧ readR bs w = (0, bb q.ff) ∧ q.poll = hPoll bs ∧ q.fi = (hFI bs : Nat) ∧ q.sn = (hSN bs w.toNat : Nat) ∧ q.part = hPart bs ∧ q.last = hLast bs w.toNat ∧ q.off = (hOff bs w.toNat : Nat)))
theorem rdp_of {bs : List Nat} {w : Int} {out : List Bs} (h : out.map (·.2) = (readR bs w).2) : ∃ q e, RdP bs w q e ∧ readV bs w (lst true 1 none (bvs out)) = .tup [.agg q.v, ai e] := by
  by_cases h0 : (readR bs w).1 = 0
  · refine ⟨⟨hPoll bs, hFI bs, hSN bs w.toNat, hPart bs, hLast bs w.toNat, hOff bs w.toNat, true, out⟩, 0, ⟨by omega, rfl, .inr ⟨rfl, ?_, rfl, rfl, rfl, rfl, rfl, rfl⟩⟩, ?_⟩
    · rw [show bb out = out.map (·.2) from rfl, h, ← h0]
    · rw [readV, if_pos h0, h0]; rfl
  · refine ⟨pk0, ((readR bs w).1 : Nat), ⟨rfl, rfl, .inl ⟨by omega, rfl⟩⟩, ?_⟩
    rw [readV, if_neg h0]; rfl
/-- Fields that were read are of the bytes. -/
theorem cutF_sub : ∀ (l bs : List Nat) (ff : List (List Nat)), cutF bs l = some ff → ∀ f ∈ ff, ∀ b ∈ f, b ∈ bs := by
  intro l bs ff h f hf b hb
  obtain ⟨h1, _⟩ := cutF_ok _ _ _ h
  rw [← h1]
  exact List.mem_flatten.2 ⟨f, hf, hb⟩
theorem fields_sub {bs l : List Nat} {ff : List (List Nat)} (h : fieldsR bs l = (0, ff)) : ∀ f ∈ ff, ∀ b ∈ f, b ∈ bs := cutF_sub _ _ _ (fieldsR_ok h).1
theorem rdp_sub {bs : List Nat} {w : Int} {q : Pk} (h : readR bs w = (0, bb q.ff)) : ∀ f ∈ bb q.ff, ∀ b ∈ f, b ∈ bs := by
  obtain ⟨h1, h2, h3, h4, h5, h6⟩ := readR_ok h
  rw [restR] at h6
  intro f hf b hb
  split at h6
  · split at h6
    · exact List.mem_of_mem_drop (List.mem_of_mem_drop (fields_sub h6 f hf b hb))
    · rename_i hn
      simp only [Prod.mk.injEq] at h6
      exact (hn h6.1).elim
  · exact List.mem_of_mem_drop (fields_sub h6 f hf b hb)
end Go.A.V.S

namespace Go.A.V.S
open Go Go.A Go.A.V
set_option linter.unusedSimpArgs false
set_option linter.unusedVariables false

theorem u8_wf {z : Int} (h : (Lit.int .u8 z).wf = true) : ∃ n : Nat, z = n ∧ n < 256 := by
  simp only [Lit.wf, Bool.and_eq_true, decide_eq_true_eq] at h
  have h1 : IntKind.u8.min = 0 := by decide
  have h2 : IntKind.u8.max = 255 := by decide
  rw [h1, h2] at h
  exact ⟨z.toNat, by omega, by omega⟩
theorem iss_byte {cs : List AV} (h : V.CT.iss [.i .u8] cs) : ∃ n : Nat, n < 256 ∧ cs = [.c (.int .u8 (n : Nat))] := by
  simp only [V.CT.iss, V.CT.is] at h
  obtain ⟨c, r, rfl, ⟨z, rfl, hz⟩, rfl⟩ := h
  obtain ⟨n, rfl, hn⟩ := u8_wf hz
  exact ⟨n, hn, rfl⟩
theorem isss_bytes : ∀ (l : List (List AV)), (∀ cs ∈ l, V.CT.iss [.i .u8] cs) → ∃ b : List Nat, l = byteCs b ∧ Bytes b
  | [], _ => ⟨[], rfl, by simp [Bytes]⟩
  | x :: r, h => by
    obtain ⟨n, hn, rfl⟩ := iss_byte (h x (by simp))
    obtain ⟨b, rfl, hb⟩ := isss_bytes r (fun cs hc => h cs (by simp [hc]))
    exact ⟨n :: b, rfl, fun y hy => by
      rcases List.mem_cons.1 hy with rfl | hy
      · exact hn
      · exact hb y hy⟩
theorem is_bytes {c : AV} (h : V.CT.is (.sl [.i .u8]) c) : ∃ b : Bs, c = bv b ∧ Bytes b.2 := by
  simp only [V.CT.is] at h
  obtain ⟨z, l, rfl, hl⟩ := h
  obtain ⟨b, rfl, hb⟩ := isss_bytes l hl
  exact ⟨(z, b), rfl, hb⟩
end Go.A.V.S
