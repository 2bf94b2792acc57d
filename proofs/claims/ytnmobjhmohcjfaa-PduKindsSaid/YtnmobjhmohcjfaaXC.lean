/- The plain law: a packet's bytes are read back. -/
import Derived.Test.YtnmobjhmohcjfaaXB
import Derived.Test.YtnmobjhmohcjfaaR3
set_option linter.unusedSimpArgs false
set_option linter.unusedVariables false
set_option linter.unnecessarySimpa false
namespace Go.A.V.S
open Go Go.A
set_option linter.unusedSimpArgs false
set_option linter.unusedVariables false

theorem bitsOf_succ (v n : Nat) : bitsOf v (n + 1) = bitsOf (v / 2) n ++ [decide (v % 2 = 1)] := by
  simp only [bitsOf, List.range_succ, List.map_append, List.map_cons, List.map_nil]
  congr 1
  · refine List.map_congr_left fun j hj => ?_
    rw [List.mem_range] at hj
    have e : v / 2 / 2 ^ (n - 1 - j) = v / 2 ^ (n + 1 - 1 - j) := by
      rw [Nat.div_div_eq_div_mul]
      congr 1
      rw [show n + 1 - 1 - j = (n - 1 - j) + 1 by omega, Nat.pow_succ]; omega
    rw [e]
  · simp
end Go.A.V.S

namespace Go.A.V.S
open Go Go.A
set_option linter.unusedSimpArgs false
set_option linter.unusedVariables false

section
variable {w : Nat} {l lb rest : List Nat}
end
end Go.A.V.S

namespace Go.A.V.S
open Go Go.A
set_option linter.unusedSimpArgs false
set_option linter.unusedVariables false

end Go.A.V.S

namespace Go.A.V.S
open Go Go.A
set_option linter.unusedSimpArgs false
set_option linter.unusedVariables false

theorem bitsOf_num : ∀ (k : Nat) (x : List Bool), x.length = k → bitsOf (num x) k = x
  | 0, x, h => by
    have : x = [] := List.length_eq_zero_iff.1 h
    subst this; rfl
  | k + 1, x, h => by
    have hne : x ≠ [] := fun e => by subst e; simp at h
    obtain ⟨y, b, rfl⟩ : ∃ y b, x = y ++ [b] := ⟨_, _, (List.dropLast_concat_getLast hne).symm⟩
    have hl : y.length = k := by simp at h; exact h
    rw [num_snoc, bitsOf_succ]
    have ih := bitsOf_num k y hl
    cases b with
    | true =>
      rw [show (2 * num y + true.toNat) / 2 = num y by simp; omega, ih]
      simp
    | false =>
      rw [show (2 * num y + false.toNat) / 2 = num y by simp, ih]
      simp
/-- n bits from a on. -/
def sl (bs : List Nat) (a n : Nat) : List Bool := ((bitsB bs).drop a).take n
theorem sl_app (bs : List Nat) (a n m : Nat) : sl bs a n ++ sl bs (a + n) m = sl bs a (n + m) := by
  rw [sl, sl, sl, List.take_add, ← List.drop_drop]
theorem sl_len {bs : List Nat} {a n : Nat} (h : a + n ≤ 8 * bs.length) : (sl bs a n).length = n := by
  rw [sl, List.length_take, List.length_drop, bitsB_len]; omega
theorem sl_num {bs : List Nat} {a n : Nat} (h : a + n ≤ 8 * bs.length) : bitsOf (numAt bs a n) n = sl bs a n := bitsOf_num n _ (sl_len h)
theorem sl_one {bs : List Nat} {a : Nat} (h : a + 1 ≤ 8 * bs.length) : [decide (numAt bs a 1 = 1)] = sl bs a 1 := by
  have h1 := sl_num h
  rw [← h1]
  have h2 := numAt_one bs a
  have : numAt bs a 1 = 0 ∨ numAt bs a 1 = 1 := by omega
  rcases this with e | e <;> rw [e] <;> rfl
theorem sl_take (bs : List Nat) (n : Nat) : bitsB (bs.take n) = sl bs 0 (8 * n) := by
  rw [sl, List.drop_zero]
  have h : bitsB bs = bitsB (bs.take n) ++ bitsB (bs.drop n) := by rw [← bitsB_app, List.take_append_drop]
  by_cases hn : n ≤ bs.length
  · have hl : (bitsB (bs.take n)).length = 8 * n := by rw [bitsB_len, List.length_take]; omega
    rw [h, ← hl, List.take_left]
  · rw [List.take_of_length_le (by omega), List.take_of_length_le (by rw [bitsB_len]; omega)]
end Go.A.V.S

namespace Go.A.V.S
open Go Go.A
set_option linter.unusedSimpArgs false
set_option linter.unusedVariables false

theorem lBits_of {bs : List Nat} {w : Nat} : ∀ (l : List Nat) (k : Nat), (∀ j n, l[j]? = some n → n = lnum bs w (k + j) ∧ lmore bs w (k + j) = (decide (j + 1 < l.length)).toNat) → (k + l.length) * (w + 1) ≤ 8 * bs.length → lBits w l = sl bs (k * (w + 1)) (l.length * (w + 1))
  | [], k, _, _ => by simp [lBits, sl]
  | n :: r, k, h, hle => by
    obtain ⟨h1, h2⟩ := h 0 n rfl
    rw [Nat.add_zero] at h1 h2
    have hle2 : (k + 1 + r.length) * (w + 1) ≤ 8 * bs.length := by rw [List.length_cons] at hle; rw [show k + 1 + r.length = k + (r.length + 1) by omega]; exact hle
    have ih := lBits_of (bs := bs) (w := w) r (k + 1) (fun j m hj => by
      have := h (j + 1) m (by simpa using hj)
      rw [show k + 1 + j = k + (j + 1) by omega]
      refine ⟨this.1, ?_⟩
      rw [this.2]
      congr 1
      exact decide_eq_decide.2 (by simp)) hle2
    have hk : k * (w + 1) + (w + 1) + r.length * (w + 1) ≤ 8 * bs.length := by
      have e : (k + 1 + r.length) * (w + 1) = k * (w + 1) + (w + 1) + r.length * (w + 1) := by rw [Nat.add_mul, Nat.add_mul]; omega
      omega
    have a1 := sl_num (bs := bs) (a := k * (w + 1)) (n := 1) (by omega)
    have a2 := sl_num (bs := bs) (a := k * (w + 1) + 1) (n := w) (by omega)
    have h2' : numAt bs (k * (w + 1)) 1 = (decide (0 + 1 < (n :: r).length)).toNat := h2
    have hd : decide (0 + 1 < (n :: r).length) = decide (0 < r.length) := decide_eq_decide.2 (by simp)
    rw [h2', hd, bitsOf_b] at a1
    have h1' : numAt bs (k * (w + 1) + 1) w = n := h1.symm
    rw [h1'] at a2
    have e1 : (k + 1) * (w + 1) = k * (w + 1) + 1 + w := by rw [Nat.add_mul]; omega
    have e2 : (n :: r).length * (w + 1) = 1 + (w + r.length * (w + 1)) := by rw [List.length_cons, Nat.add_mul]; omega
    rw [e1] at ih
    have e3 := sl_app bs (k * (w + 1)) 1 (w + r.length * (w + 1))
    rw [lBits, ih, a2, sl_app, e2, ← e3, ← a1]
    rfl
end Go.A.V.S

namespace Go.A.V.S
open Go Go.A
set_option linter.unusedSimpArgs false
set_option linter.unusedVariables false

theorem lr_more {bs : List Nat} {w c : Nat} : ∀ z, z ≤ 23 → lr bs w z = (c, 0) → ∀ k, 23 - z ≤ k → k < c → lmore bs w k = (decide (k + 1 < c)).toNat ∧ lnum bs w k ≠ 0
  | 0, _, h, k, h1, h2 => by rw [lr] at h; simp at h
  | z + 1, hz, h, k, h1, h2 => by
    have hgt := lr_ok (bs := bs) (w := w) (z + 1) hz (by rw [h])
    rw [h] at hgt
    simp only at hgt
    rw [lr] at h
    by_cases c1 : 8 * bs.length < (22 - z) * (w + 1) + (w + 1)
    · rw [if_pos c1] at h; simp at h
    rw [if_neg c1] at h
    by_cases c2 : lnum bs w (22 - z) = 0
    · rw [if_pos c2] at h; simp at h
    rw [if_neg c2] at h
    by_cases c3 : lmore bs w (22 - z) = 1
    · rw [if_pos c3] at h
      have hgt2 := lr_ok (bs := bs) (w := w) z (by omega) (by rw [h])
      rw [h] at hgt2
      simp only at hgt2
      by_cases hk : k = 22 - z
      · subst hk
        refine ⟨?_, c2⟩
        rw [c3, decide_eq_true (by omega)]; rfl
      · exact lr_more z (by omega) h k (by omega) h2
    · rw [if_neg c3] at h
      simp only [Prod.mk.injEq, and_true] at h
      have hk : k = 22 - z := by omega
      subst hk
      refine ⟨?_, c2⟩
      have : lmore bs w (22 - z) < 2 := numAt_one _ _
      rw [decide_eq_false (by omega)]
      simp; omega
theorem lens_bits {bs : List Nat} {w : Nat} (hby : Bytes bs) (h : (lensR bs w).2 = 0) : PackR (lBits w (lvals bs w (lensR bs w).1)) (bs.take (lsize (lensR bs w).1 w)) ∧ ∀ n ∈ lvals bs w (lensR bs w).1, n ≠ 0 := by
  obtain ⟨hc0, hc23, hle⟩ := lensR_ok h
  have hlr : lr bs w 23 = ((lensR bs w).1, 0) ∧ numAt bs ((lensR bs w).1 * (w + 1)) (padN ((lensR bs w).1 * (w + 1))) = 0 := by
    unfold lensR at h ⊢
    by_cases h1 : (lr bs w 23).2 = 0
    · rw [if_pos h1] at h ⊢
      by_cases h2 : numAt bs ((lr bs w 23).1 * (w + 1)) (padN ((lr bs w 23).1 * (w + 1))) = 0
      · rw [if_pos h2]
        exact ⟨by rw [← h1], h2⟩
      · rw [if_neg h2] at h; simp at h
    · rw [if_neg h1] at h; exact (h1 h).elim
  obtain ⟨c, hc⟩ : ∃ t, (lensR bs w).1 = t := ⟨_, rfl⟩
  rw [hc] at hlr hc0 hc23 hle ⊢
  obtain ⟨h1, h2⟩ := hlr
  have hm := lr_more 23 (by omega) h1
  have hb := lBits_of (bs := bs) (w := w) (lvals bs w c) 0 (fun j n hj => by
    have hjl := (List.getElem?_eq_some_iff.1 hj).1
    rw [lvals_len] at hjl
    rw [Nat.zero_add, lvals_len]
    refine ⟨?_, (hm j (by omega) hjl).1⟩
    rw [lvals, List.getElem?_map, List.getElem?_range hjl] at hj
    exact (Option.some.inj hj).symm) (by rw [lvals_len, Nat.zero_add]; exact hle)
  rw [lvals_len, Nat.zero_mul] at hb
  refine ⟨?_, fun n hn => ?_⟩
  · have hs : 8 * lsize c w = c * (w + 1) + padN (c * (w + 1)) := by
      rw [lsize, if_neg (by omega)]; simp only [padN]; omega
    have hpl := padN_le hle
    have hq : lsize c w = (c * (w + 1) + 7) / 8 := by rw [lsize, if_neg (by omega)]
    have hz : sl bs (c * (w + 1)) (padN (c * (w + 1))) = List.replicate (padN (c * (w + 1))) false := by
      rw [← sl_num hpl, h2]
      generalize padN (c * (w + 1)) = m
      induction m with
      | zero => rfl
      | succ m ih => rw [bitsOf_succ, ih, List.replicate_succ']; rfl
    refine ⟨?_, fun b hb => hby b (List.mem_of_mem_take hb), ?_⟩
    · rw [List.length_take, lBits_len, lvals_len]; omega
    · rw [sl_take, hs, hb]
      have e := sl_app bs 0 (c * (w + 1)) (padN (c * (w + 1)))
      rw [← e, Nat.zero_add, hz]
      congr 2
      rw [sl_len (by omega), List.length_take]; omega
  · obtain ⟨k, hk, rfl⟩ := List.mem_map.1 hn
    rw [List.mem_range] at hk
    exact (hm k (by omega) hk).2
end Go.A.V.S

namespace Go.A.V.S
open Go Go.A
set_option linter.unusedSimpArgs false
set_option linter.unusedVariables false

theorem cutF_ok : ∀ (l bs : List Nat) (ff : List (List Nat)), cutF bs l = some ff → ff.flatten = bs ∧ ff.dropLast.map (·.length) = l ∧ ff ≠ [] ∧ ((∀ n ∈ l, n ≠ 0) → ∀ f ∈ ff, f.length ≠ 0)
  | [], bs, ff, h => by
    rw [cutF] at h
    by_cases h0 : bs.length = 0
    · rw [if_pos h0] at h; simp at h
    · rw [if_neg h0] at h
      obtain rfl := Option.some.inj h
      refine ⟨by simp, rfl, by simp, fun _ f hf => ?_⟩
      simp at hf; subst hf; exact h0
  | n :: r, bs, ff, h => by
    rw [cutF] at h
    by_cases hc : bs.length < n
    · rw [if_pos hc] at h; simp at h
    · rw [if_neg hc] at h
      obtain ⟨gg, h1, rfl⟩ := Option.map_eq_some_iff.1 h
      obtain ⟨e1, e2, e3, e4⟩ := cutF_ok r (bs.drop n) gg h1
      have hl : (bs.take n).length = n := by rw [List.length_take]; omega
      refine ⟨by rw [List.flatten_cons, e1, List.take_append_drop], ?_, by simp, fun hn f hf => ?_⟩
      · rw [List.dropLast_cons_of_ne_nil e3, List.map_cons, e2]
        simp only [hl]
      · rcases List.mem_cons.1 hf with rfl | hf
        · rw [hl]; exact hn n (by simp)
        · exact e4 (fun m hm => hn m (by simp [hm])) f hf
end Go.A.V.S

namespace Go.A.V.S
open Go Go.A
set_option linter.unusedSimpArgs false
set_option linter.unusedVariables false

theorem sumR_of : ∀ (ff : List (List Nat)) (n : Nat), (∀ f ∈ ff, f.length ≠ 0) → (∀ f ∈ ff.dropLast, f.length ≤ 2047) → n + ff.flatten.length ≤ 4000 → sumR n ff = n + ff.flatten.length
  | [], n, _, _, _ => by simp [sumR]
  | f :: r, n, h1, h2, h3 => by
    rw [List.flatten_cons, List.length_append] at h3 ⊢
    have c2 : ¬ (2047 < f.length ∧ 0 < r.length) := fun ⟨a, b⟩ => by
      cases r with
      | nil => simp at b
      | cons g s =>
        have := h2 f (by simp)
        omega
    rw [sumR, if_neg (h1 f (by simp)), if_neg c2, if_neg (by omega), sumR_of r (n + f.length) (fun x hx => h1 x (by simp [hx])) (fun x hx => h2 x (by
      cases r with
      | nil => simp at hx
      | cons g s => exact List.mem_cons_of_mem _ hx)) (by omega)]
    omega
end Go.A.V.S

namespace Go.A.V.S
open Go Go.A
set_option linter.unusedSimpArgs false
set_option linter.unusedVariables false

/-- What is read: all that was asked. -/
theorem readR_ok {bs : List Nat} {w : Int} {ff : List (List Nat)} (h : readR bs w = (0, ff)) :
    (w = 10 ∨ w = 16) ∧ bs.length ≤ 4000 ∧ ¬ numAt bs 0 1 = 0 ∧ headV (hPart bs) w ≤ bs.length ∧ hOk bs w.toNat = true ∧ restR bs w.toNat = (0, ff) := by
  unfold readR at h
  by_cases hw : w = 10 ∨ w = 16
  · rw [if_pos hw] at h
    by_cases c1 : 4000 < bs.length
    · rw [if_pos c1] at h; simp at h
    rw [if_neg c1] at h
    by_cases c2 : bs.length = 0
    · rw [if_pos c2] at h; simp at h
    rw [if_neg c2] at h
    by_cases c3 : numAt bs 0 1 = 0
    · rw [if_pos c3] at h; simp at h
    rw [if_neg c3] at h
    by_cases c4 : bs.length < headV (hPart bs) w
    · rw [if_pos c4] at h; simp at h
    rw [if_neg c4] at h
    by_cases c5 : hOk bs w.toNat = true
    · rw [if_pos c5] at h
      exact ⟨hw, by omega, c3, by omega, c5, h⟩
    · rw [if_neg c5] at h; simp at h
  · rw [if_neg hw] at h; simp at h
theorem fieldsR_ok {bs l : List Nat} {ff : List (List Nat)} (h : fieldsR bs l = (0, ff)) : cutF bs l = some ff ∧ ∀ n ∈ l, n ≤ 2047 := by
  unfold fieldsR at h
  by_cases c : (l.any fun n => decide (2047 < n)) = true
  · rw [if_pos c] at h; simp at h
  · rw [if_neg c] at h
    refine ⟨?_, fun n hn => ?_⟩
    · cases hc : cutF bs l with
      | none => rw [hc] at h; simp at h
      | some gg => rw [hc] at h; simp at h; rw [h]
    · simp at c
      exact c n hn
end Go.A.V.S

namespace Go.A.V.S
open Go Go.A
set_option linter.unusedSimpArgs false
set_option linter.unusedVariables false

end Go.A.V.S

namespace Go.A.V.S
open Go Go.A
set_option linter.unusedSimpArgs false
set_option linter.unusedVariables false

end Go.A.V.S

namespace Go.A.V.S
open Go Go.A Go.A.V
set_option linter.unusedSimpArgs false
set_option linter.unusedVariables false

theorem u8_wf {z : Int} (h : (Lit.int .u8 z).wf = true) : ∃ n : Nat, z = n ∧ n < 256 := by
  simp only [Lit.wf, Bool.and_eq_true, decide_eq_true_eq] at h
  have h1 : IntKind.u8.min = 0 := by decide
  have h2 : IntKind.u8.max = 255 := by decide
  rw [h1, h2] at h
  exact ⟨z.toNat, by omega, by omega⟩
theorem iss_byte {cs : List AV} (h : V.CT.iss [.i .u8] cs) : ∃ n : Nat, n < 256 ∧ cs = [.c (.int .u8 (n : Nat))] := by
  simp only [V.CT.iss, V.CT.is] at h
  obtain ⟨c, r, rfl, ⟨z, rfl, hz⟩, rfl⟩ := h
  obtain ⟨n, rfl, hn⟩ := u8_wf hz
  exact ⟨n, hn, rfl⟩
theorem isss_bytes : ∀ (l : List (List AV)), (∀ cs ∈ l, V.CT.iss [.i .u8] cs) → ∃ b : List Nat, l = byteCs b ∧ Bytes b
  | [], _ => ⟨[], rfl, by simp [Bytes]⟩
  | x :: r, h => by
    obtain ⟨n, hn, rfl⟩ := iss_byte (h x (by simp))
    obtain ⟨b, rfl, hb⟩ := isss_bytes r (fun cs hc => h cs (by simp [hc]))
    exact ⟨n :: b, rfl, fun y hy => by
      rcases List.mem_cons.1 hy with rfl | hy
      · exact hn
      · exact hb y hy⟩
theorem is_bytes {c : AV} (h : V.CT.is (.sl [.i .u8]) c) : ∃ b : Bs, c = bv b ∧ Bytes b.2 := by
  simp only [V.CT.is] at h
  obtain ⟨z, l, rfl, hl⟩ := h
  obtain ⟨b, rfl, hb⟩ := isss_bytes l hl
  exact ⟨(z, b), rfl, hb⟩
theorem iss_cons {t : V.CT} {ts : List V.CT} {cs : List AV} (h : V.CT.iss (t :: ts) cs) : ∃ c r, cs = c :: r ∧ t.is c ∧ V.CT.iss ts r := by simpa only [V.CT.iss] using h
theorem iss_nil {cs : List AV} (h : V.CT.iss [] cs) : cs = [] := by simpa only [V.CT.iss] using h
theorem is_i {k : IntKind} {c : AV} (h : V.CT.is (.i k) c) : ∃ z, c = .c (.int k z) ∧ (Lit.int k z).wf = true := by simpa only [V.CT.is] using h
end Go.A.V.S
