/- The plain law: a packet's bytes are read back. -/
import Derived.Test.YtnmobjhmohcjfaaXB
import Derived.Test.YtnmobjhmohcjfaaR3
set_option linter.unusedSimpArgs false
set_option linter.unusedVariables false
set_option linter.unnecessarySimpa false
namespace Go.A.V.S
open Go Go.A
set_option linter.unusedSimpArgs false
set_option linter.unusedVariables false

theorem bitsOf_succ (v n : Nat) : bitsOf v (n + 1) = bitsOf (v / 2) n ++ [decide (v % 2 = 1)] := by
  simp only [bitsOf, List.range_succ, List.map_append, List.map_cons, List.map_nil]
  congr 1
  · refine List.map_congr_left fun j hj => ?_
    rw [List.mem_range] at hj
    have e : v / 2 / 2 ^ (n - 1 - j) = v / 2 ^ (n + 1 - 1 - j) := by
      rw [Nat.div_div_eq_div_mul]
      congr 1
      rw [show n + 1 - 1 - j = (n - 1 - j) + 1 by omega, Nat.pow_succ]; omega
    rw [e]
  · simp
theorem num_bitsOf : ∀ (n v : Nat), v < 2 ^ n → num (bitsOf v n) = v
  | 0, v, h => by simp at h; subst h; rfl
  | n + 1, v, h => by
    rw [bitsOf_succ, num_snoc, num_bitsOf n (v / 2) (by rw [Nat.pow_succ] at h; omega)]
    rcases Nat.mod_two_eq_zero_or_one v with h0 | h1
    · simp [h0]; omega
    · simp [h1]; omega
/-- A part of bits, told as a number. -/
theorem numAt_part {bs : List Nat} {pre x post : List Bool} (h : bitsB bs = pre ++ x ++ post) {a n : Nat} (ha : pre.length = a) (hn : x.length = n) : numAt bs a n = num x := by
  rw [numAt, h, List.append_assoc, ← ha, List.drop_left, ← hn, List.take_left]
theorem packR_exact {x : List Bool} {l : List Nat} (h : PackR x l) (h8 : x.length % 8 = 0) : bitsB l = x ∧ 8 * l.length = x.length := by
  have h1 := h.len
  have h2 : 8 * l.length = x.length := by omega
  have h3 := h.eq
  rw [h2, Nat.sub_self, List.replicate_zero, List.append_nil] at h3
  exact ⟨h3, h2⟩
theorem num_one (b : Bool) : num [b] = b.toNat := by cases b <;> rfl
end Go.A.V.S

namespace Go.A.V.S
open Go Go.A
set_option linter.unusedSimpArgs false
set_option linter.unusedVariables false

theorem lBits_at (w : Nat) : ∀ (l : List Nat) (k n : Nat), l[k]? = some n → ∃ pre, pre.length = k * (w + 1) ∧ lBits w l = pre ++ [decide (k + 1 < l.length)] ++ (bitsOf n w ++ lBits w (l.drop (k + 1)))
  | [], k, n, h => by simp at h
  | a :: r, 0, n, h => by
    simp at h
    subst h
    refine ⟨[], by simp, ?_⟩
    have : decide (0 < r.length) = decide (0 + 1 < (a :: r).length) := decide_eq_decide.2 (by simp)
    simp only [lBits, this, List.nil_append, List.drop_succ_cons, List.drop_zero]
    rfl
  | a :: r, k + 1, n, h => by
    have h' : r[k]? = some n := by simpa using h
    obtain ⟨pre, h1, h2⟩ := lBits_at w r k n h'
    refine ⟨decide (0 < r.length) :: (bitsOf a w ++ pre), ?_, ?_⟩
    · simp only [List.length_cons, List.length_append, bitsOf_len, h1, Nat.add_mul]; omega
    · have : decide (k + 1 < r.length) = decide (k + 1 + 1 < (a :: r).length) := decide_eq_decide.2 (by simp)
      simp only [lBits, h2, this, List.drop_succ_cons, List.cons_append, List.append_assoc]
section
variable {w : Nat} {l lb rest : List Nat}
theorem lback_at (hp : PackR (lBits w l) lb) (hv : ∀ n ∈ l, n < 2 ^ w) {k n : Nat} (hn : l[k]? = some n) : lnum (lb ++ rest) w k = n ∧ lmore (lb ++ rest) w k = (decide (k + 1 < l.length)).toNat := by
  obtain ⟨pre, h1, h2⟩ := lBits_at w l k n hn
  have h3 := hp.eq
  rw [h2] at h3
  obtain ⟨Z, hZ⟩ : ∃ t, List.replicate (8 * lb.length - (pre ++ [decide (k + 1 < l.length)] ++ (bitsOf n w ++ lBits w (l.drop (k + 1)))).length) false = t := ⟨_, rfl⟩
  rw [hZ] at h3
  have hB : bitsB (lb ++ rest) = pre ++ [decide (k + 1 < l.length)] ++ (bitsOf n w ++ lBits w (l.drop (k + 1))) ++ Z ++ bitsB rest := by rw [bitsB_app, h3]
  constructor
  · rw [lnum, numAt_part (pre := pre ++ [decide (k + 1 < l.length)]) (x := bitsOf n w) (post := lBits w (l.drop (k + 1)) ++ Z ++ bitsB rest) (by rw [hB]; simp) (by simp [h1]) (bitsOf_len _ _), num_bitsOf w n (hv n (List.mem_of_getElem? hn))]
  · have h4 := numAt_part (n := 1) (pre := pre) (x := [decide (k + 1 < l.length)]) (post := bitsOf n w ++ lBits w (l.drop (k + 1)) ++ Z ++ bitsB rest) (by rw [hB]; simp) h1 rfl
    rw [lmore, h4, num_one]
theorem lback_pad (hp : PackR (lBits w l) lb) : numAt (lb ++ rest) (l.length * (w + 1)) (padN (l.length * (w + 1))) = 0 := by
  have hl := lBits_len w l
  have h1 := hp.len
  rw [hl] at h1
  have h3 := hp.eq
  rw [hl] at h3
  have hpd : 8 * lb.length - l.length * (w + 1) = padN (l.length * (w + 1)) := by simp only [padN]; omega
  rw [hpd] at h3
  have hB : bitsB (lb ++ rest) = lBits w l ++ List.replicate (padN (l.length * (w + 1))) false ++ bitsB rest := by rw [bitsB_app, h3]
  rw [numAt_part hB hl (by simp)]
  generalize padN (l.length * (w + 1)) = p
  induction p with
  | zero => rfl
  | succ p ih => rw [List.replicate_succ', num_snoc, ih]; rfl
theorem lback_vals (hp : PackR (lBits w l) lb) (hv : ∀ n ∈ l, n < 2 ^ w) : lvals (lb ++ rest) w l.length = l := by
  apply List.ext_getElem?
  intro k
  by_cases hk : k < l.length
  · obtain ⟨n, hn⟩ : ∃ n, l[k]? = some n := ⟨_, List.getElem?_eq_getElem hk⟩
    rw [hn, lvals, List.getElem?_map, List.getElem?_range hk, Option.map_some, (lback_at hp hv hn).1]
  · rw [List.getElem?_eq_none (by rw [lvals_len]; omega), List.getElem?_eq_none (by omega)]
theorem lback_lr (hp : PackR (lBits w l) lb) (hv : ∀ n ∈ l, 1 ≤ n ∧ n < 2 ^ w) (hl : l.length ≤ 23) : ∀ z, z ≤ 23 → 23 - z < l.length → lr (lb ++ rest) w z = (l.length, 0)
  | 0, _, h => by omega
  | z + 1, hz, h => by
    have hk : 22 - z < l.length := by omega
    obtain ⟨n, hn⟩ : ∃ n, l[22 - z]? = some n := ⟨_, List.getElem?_eq_getElem hk⟩
    obtain ⟨e1, e2⟩ := lback_at (rest := rest) hp (fun n hn => (hv n hn).2) hn
    have h1 := hp.len
    rw [lBits_len] at h1
    have h2 : (22 - z + 1) * (w + 1) ≤ l.length * (w + 1) := Nat.mul_le_mul_right _ hk
    have h3 : (22 - z + 1) * (w + 1) = (22 - z) * (w + 1) + (w + 1) := by rw [Nat.add_mul]; omega
    have hn1 := (hv n (List.mem_of_getElem? hn)).1
    rw [lr, if_neg (by rw [List.length_append]; omega), e1, if_neg (by omega), e2]
    by_cases hm : 22 - z + 1 < l.length
    · rw [decide_eq_true hm, if_pos (by rfl)]
      exact lback_lr hp hv hl z (by omega) (by omega)
    · rw [decide_eq_false hm, if_neg (by simp)]
      have : 22 - z + 1 = l.length := by omega
      rw [this]
theorem lback (hp : PackR (lBits w l) lb) (hv : ∀ n ∈ l, 1 ≤ n ∧ n < 2 ^ w) (h1 : 1 ≤ l.length) (hl : l.length ≤ 23) (rest : List Nat) :
    lensR (lb ++ rest) w = (l.length, 0) ∧ lvals (lb ++ rest) w l.length = l ∧ lsize l.length w = lb.length := by
  have hr := lback_lr (rest := rest) hp hv hl 23 (by omega) (by omega)
  refine ⟨?_, lback_vals hp (fun n hn => (hv n hn).2), ?_⟩
  · rw [lensR, hr]
    simp only [if_true]
    rw [if_pos (lback_pad hp)]
  · have h2 := hp.len
    rw [lBits_len] at h2
    rw [lsize, if_neg (by omega), h2]
end
end Go.A.V.S

namespace Go.A.V.S
open Go Go.A
set_option linter.unusedSimpArgs false
set_option linter.unusedVariables false

theorem cutF_back : ∀ ff : List (List Nat), ff ≠ [] → (∀ f ∈ ff, f.length ≠ 0) → cutF ff.flatten ((ff.dropLast).map (·.length)) = some ff
  | [], h, _ => (h rfl).elim
  | [f], _, h => by
    have : f.length ≠ 0 := h f (by simp)
    have hne : f ≠ [] := fun e => by subst e; simp at this
    simp [cutF, hne]
  | f :: g :: r, _, h => by
    have ih := cutF_back (g :: r) (by simp) (fun x hx => h x (by simp [hx]))
    have e1 : (f :: g :: r).dropLast = f :: (g :: r).dropLast := rfl
    have e2 : (f :: g :: r).flatten = f ++ (g :: r).flatten := rfl
    rw [e1, e2, List.map_cons, cutF, if_neg (by rw [List.length_append]; omega), List.drop_left, List.take_left, ih]
    rfl
end Go.A.V.S

namespace Go.A.V.S
open Go Go.A
set_option linter.unusedSimpArgs false
set_option linter.unusedVariables false

/-- n bits from a on. -/
def sl (bs : List Nat) (a n : Nat) : List Bool := ((bitsB bs).drop a).take n
end Go.A.V.S

namespace Go.A.V.S
open Go Go.A
set_option linter.unusedSimpArgs false
set_option linter.unusedVariables false

end Go.A.V.S

namespace Go.A.V.S
open Go Go.A
set_option linter.unusedSimpArgs false
set_option linter.unusedVariables false

end Go.A.V.S

namespace Go.A.V.S
open Go Go.A
set_option linter.unusedSimpArgs false
set_option linter.unusedVariables false

end Go.A.V.S

namespace Go.A.V.S
open Go Go.A
set_option linter.unusedSimpArgs false
set_option linter.unusedVariables false

theorem sumR_of : ∀ (ff : List (List Nat)) (n : Nat), (∀ f ∈ ff, f.length ≠ 0) → (∀ f ∈ ff.dropLast, f.length ≤ 2047) → n + ff.flatten.length ≤ 4000 → sumR n ff = n + ff.flatten.length
  | [], n, _, _, _ => by simp [sumR]
  | f :: r, n, h1, h2, h3 => by
    rw [List.flatten_cons, List.length_append] at h3 ⊢
    have c2 : ¬ (2047 < f.length ∧ 0 < r.length) := fun ⟨a, b⟩ => by
      cases r with
      | nil => simp at b
      | cons g s =>
        have := h2 f (by simp)
        omega
    rw [sumR, if_neg (h1 f (by simp)), if_neg c2, if_neg (by omega), sumR_of r (n + f.length) (fun x hx => h1 x (by simp [hx])) (fun x hx => h2 x (by
      cases r with
      | nil => simp at hx
      | cons g s => exact List.mem_cons_of_mem _ hx)) (by omega)]
    omega
end Go.A.V.S

namespace Go.A.V.S
open Go Go.A
set_option linter.unusedSimpArgs false
set_option linter.unusedVariables false

end Go.A.V.S

namespace Go.A.V.S
open Go Go.A
set_option linter.unusedSimpArgs false
set_option linter.unusedVariables false

end Go.A.V.S

namespace Go.A.V.S
open Go Go.A
set_option linter.unusedSimpArgs false
set_option linter.unusedVariables false

end Go.A.V.S

namespace Go.A.V.S
open Go Go.A Go.A.V
set_option linter.unusedSimpArgs false
set_option linter.unusedVariables false

theorem u8_wf {z : Int} (h : (Lit.int .u8 z).wf = true) : ∃ n : Nat, z = n ∧ n < 256 := by
  simp only [Lit.wf, Bool.and_eq_true, decide_eq_true_eq] at h
  have h1 : IntKind.u8.min = 0 := by decide
  have h2 : IntKind.u8.max = 255 := by decide
  rw [h1, h2] at h
  exact ⟨z.toNat, by omega, by omega⟩
theorem iss_byte {cs : List AV} (h : V.CT.iss [.i .u8] cs) : ∃ n : Nat, n < 256 ∧ cs = [.c (.int .u8 (n : Nat))] := by
  simp only [V.CT.iss, V.CT.is] at h
  obtain ⟨c, r, rfl, ⟨z, rfl, hz⟩, rfl⟩ := h
  obtain ⟨n, rfl, hn⟩ := u8_wf hz
  exact ⟨n, hn, rfl⟩
theorem isss_bytes : ∀ (l : List (List AV)), (∀ cs ∈ l, V.CT.iss [.i .u8] cs) → ∃ b : List Nat, l = byteCs b ∧ Bytes b
  | [], _ => ⟨[], rfl, by simp [Bytes]⟩
  | x :: r, h => by
    obtain ⟨n, hn, rfl⟩ := iss_byte (h x (by simp))
    obtain ⟨b, rfl, hb⟩ := isss_bytes r (fun cs hc => h cs (by simp [hc]))
    exact ⟨n :: b, rfl, fun y hy => by
      rcases List.mem_cons.1 hy with rfl | hy
      · exact hn
      · exact hb y hy⟩
theorem is_bytes {c : AV} (h : V.CT.is (.sl [.i .u8]) c) : ∃ b : Bs, c = bv b ∧ Bytes b.2 := by
  simp only [V.CT.is] at h
  obtain ⟨z, l, rfl, hl⟩ := h
  obtain ⟨b, rfl, hb⟩ := isss_bytes l hl
  exact ⟨(z, b), rfl, hb⟩
theorem isss_fields : ∀ (l : List (List AV)), (∀ cs ∈ l, V.CT.iss [.sl [.i .u8]] cs) → ∃ ff : List Bs, l = bvs ff ∧ BytesF ff
  | [], _ => ⟨[], rfl, by simp [BytesF]⟩
  | x :: r, h => by
    have h1 := h x (by simp)
    rw [V.CT.iss] at h1
    obtain ⟨c, q, rfl, h2, h3⟩ := h1
    rw [V.CT.iss] at h3
    subst h3
    obtain ⟨b, rfl, hb⟩ := is_bytes h2
    obtain ⟨ff, rfl, hf⟩ := isss_fields r (fun cs hc => h cs (by simp [hc]))
    exact ⟨b :: ff, rfl, fun y hy => by
      rcases List.mem_cons.1 hy with rfl | hy
      · exact hb
      · exact hf y hy⟩
theorem is_fields {c : AV} (h : V.CT.is (.sl [.sl [.i .u8]]) c) : ∃ (z : Bool) (ff : List Bs), c = lst z 1 none (bvs ff) ∧ BytesF ff := by
  rw [V.CT.is] at h
  obtain ⟨z, l, rfl, hl⟩ := h
  obtain ⟨ff, rfl, hf⟩ := isss_fields l hl
  exact ⟨z, ff, rfl, hf⟩
theorem iss_cons {t : V.CT} {ts : List V.CT} {cs : List AV} (h : V.CT.iss (t :: ts) cs) : ∃ c r, cs = c :: r ∧ t.is c ∧ V.CT.iss ts r := by simpa only [V.CT.iss] using h
theorem iss_nil {cs : List AV} (h : V.CT.iss [] cs) : cs = [] := by simpa only [V.CT.iss] using h
theorem is_i {k : IntKind} {c : AV} (h : V.CT.is (.i k) c) : ∃ z, c = .c (.int k z) ∧ (Lit.int k z).wf = true := by simpa only [V.CT.is] using h
end Go.A.V.S
