/- The plain law: a packet's bytes are read back. -/
import Derived.Test.YtekoolanpphbfaaXB
import Derived.Test.YtekoolanpphbfaaR3
set_option linter.unusedSimpArgs false
set_option linter.unusedVariables false
set_option linter.unnecessarySimpa false
namespace Go.A.V.S
open Go Go.A
set_option linter.unusedSimpArgs false
set_option linter.unusedVariables false

theorem bitsOf_succ (v n : Nat) : bitsOf v (n + 1) = bitsOf (v / 2) n ++ [decide (v % 2 = 1)] := by
  simp only [bitsOf, List.range_succ, List.map_append, List.map_cons, List.map_nil]
  congr 1
  · refine List.map_congr_left fun j hj => ?_
    rw [List.mem_range] at hj
    have e : v / 2 / 2 ^ (n - 1 - j) = v / 2 ^ (n + 1 - 1 - j) := by
      rw [Nat.div_div_eq_div_mul]
      congr 1
      rw [show n + 1 - 1 - j = (n - 1 - j) + 1 by omega, Nat.pow_succ]; omega
    rw [e]
  · simp
theorem num_bitsOf : ∀ (n v : Nat), v < 2 ^ n → num (bitsOf v n) = v
  | 0, v, h => by simp at h; subst h; rfl
  | n + 1, v, h => by
    rw [bitsOf_succ, num_snoc, num_bitsOf n (v / 2) (by rw [Nat.pow_succ] at h; omega)]
    rcases Nat.mod_two_eq_zero_or_one v with h0 | h1
    · simp [h0]; omega
    · simp [h1]; omega
/-- A part of bits, told as a number. -/
theorem numAt_part {bs : List Nat} {pre x post : List Bool} (h : bitsB bs = pre ++ x ++ post) {a n : Nat} (ha : pre.length = a) (hn : x.length = n) : numAt bs a n = num x := by
  rw [numAt, h, List.append_assoc, ← ha, List.drop_left, ← hn, List.take_left]
theorem packR_exact {x : List Bool} {l : List Nat} (h : PackR x l) (h8 : x.length % 8 = 0) : bitsB l = x ∧ 8 * l.length = x.length := by
  have h1 := h.len
  have h2 : 8 * l.length = x.length := by omega
  have h3 := h.eq
  rw [h2, Nat.sub_self, List.replicate_zero, List.append_nil] at h3
  exact ⟨h3, h2⟩
theorem num_one (b : Bool) : num [b] = b.toNat := by cases b <;> rfl
theorem head_back {p : Pk} {w : Nat} {hb : List Nat} (hok : okH p w) (hz : p.part = true ∨ (p.part = false ∧ p.last = false ∧ p.off = 0)) (hp : PackR (hBits p w) hb) (rest : List Nat) :
    hb.length = headV p.part w ∧ numAt (hb ++ rest) 0 1 = 1 ∧ hPart (hb ++ rest) = p.part ∧ hMore (hb ++ rest) = decide (1 < p.ff.length) ∧ hOk (hb ++ rest) w = true ∧ ∀ f, hPkt (hb ++ rest) w f = pktV p.poll p.fi p.sn p.part p.last p.off f := by
  obtain ⟨hw, hfi, hsn, hoff⟩ := hok
  obtain ⟨po, fi, sn, pa, la, off, z, ff⟩ := p
  simp only at hfi hsn hoff hz
  obtain ⟨fn, rfl⟩ : ∃ n : Nat, fi = n := ⟨fi.toNat, by omega⟩
  obtain ⟨sn', rfl⟩ : ∃ n : Nat, sn = n := ⟨sn.toNat, by omega⟩
  obtain ⟨on, rfl⟩ : ∃ n : Nat, off = n := ⟨off.toNat, by omega⟩
  have hsn2 : sn' < 2 ^ w := by omega
  have hon2 : on < 2 ^ offWd w := by omega
  have lF : (bitsOf fn 2).length = 2 := bitsOf_len _ _
  have vF : num (bitsOf fn 2) = fn := num_bitsOf 2 fn (by simp; omega)
  obtain ⟨F, hF⟩ : ∃ t, bitsOf fn 2 = t := ⟨_, rfl⟩
  rw [hF] at lF vF
  obtain ⟨mo, hmo⟩ : ∃ t, decide (1 < ff.length) = t := ⟨_, rfl⟩
  obtain ⟨R, hR⟩ : ∃ t, bitsB rest = t := ⟨_, rfl⟩
  rcases hw with rfl | rfl
  · have lS : (bitsOf sn' 10).length = 10 := bitsOf_len _ _
    have vS := num_bitsOf 10 sn' hsn2
    obtain ⟨S, hS⟩ : ∃ t, bitsOf sn' 10 = t := ⟨_, rfl⟩
    rw [hS] at lS vS
    cases pa with
    | true =>
      have lO : (bitsOf on 15).length = 15 := bitsOf_len _ _
      have vO := num_bitsOf 15 on (by simpa [offWd] using hon2)
      obtain ⟨O, hO⟩ : ∃ t, bitsOf on 15 = t := ⟨_, rfl⟩
      rw [hO] at lO vO
      have hx : hBits ⟨po, fn, sn', true, la, on, z, ff⟩ 10 = [true, true, po] ++ F ++ [mo] ++ S ++ [la] ++ O := by simp [hBits, hF, hS, hO, hmo, offWd]
      rw [hx] at hp
      obtain ⟨e1, e2⟩ := packR_exact hp (by simp [lF, lS, lO])
      have hB : bitsB (hb ++ rest) = [true, true, po] ++ F ++ [mo] ++ S ++ [la] ++ O ++ R := by rw [bitsB_app, e1, hR]
      generalize hb ++ rest = bs at *
      have n0 : numAt bs 0 1 = num [true] := numAt_part (pre := []) (post := [true, po] ++ F ++ [mo] ++ S ++ [la] ++ O ++ R) (by rw [hB] <;> simp) rfl rfl
      have n1 : numAt bs 1 1 = num [true] := numAt_part (pre := [true]) (post := [po] ++ F ++ [mo] ++ S ++ [la] ++ O ++ R) (by rw [hB] <;> simp) rfl rfl
      have n2 : numAt bs 2 1 = num [po] := numAt_part (pre := [true, true]) (post := F ++ [mo] ++ S ++ [la] ++ O ++ R) (by rw [hB] <;> simp) rfl rfl
      have n3 : numAt bs 3 2 = num F := numAt_part (pre := [true, true, po]) (post := [mo] ++ S ++ [la] ++ O ++ R) (by rw [hB] <;> simp) rfl lF
      have n5 : numAt bs 5 1 = num [mo] := numAt_part (pre := [true, true, po] ++ F) (post := S ++ [la] ++ O ++ R) (by rw [hB] <;> simp) (by simp [lF]) rfl
      have n6 : numAt bs 6 10 = num S := numAt_part (pre := [true, true, po] ++ F ++ [mo]) (post := [la] ++ O ++ R) (by rw [hB] <;> simp) (by simp [lF]) lS
      have n16 : numAt bs 16 1 = num [la] := numAt_part (pre := [true, true, po] ++ F ++ [mo] ++ S) (post := O ++ R) (by rw [hB] <;> simp) (by simp [lF, lS]) rfl
      have n17 : numAt bs 17 15 = num O := numAt_part (pre := [true, true, po] ++ F ++ [mo] ++ S ++ [la]) (post := R) (by rw [hB]) (by simp [lF, lS]) lO
      rw [num_one] at n0 n1 n2 n5 n16
      rw [vF] at n3
      rw [vS] at n6
      rw [vO] at n17
      refine ⟨?_, n0, ?_⟩
      · simp [lF, lS, lO] at e2
        simp [headV]
        omega
      · refine ⟨?_, ?_, ?_, fun f => ?_⟩ <;> simp [hPart, hMore, hOk, hPkt, pktV, hPoll, hFI, hSN, hLast, hOff, n1, n2, n3, n5, n6, n16, n17, bitD, hmo]
    | false =>
      obtain ⟨rfl, h0⟩ : la = false ∧ (on : Int) = 0 := by simpa using hz
      have hon0 : on = 0 := by omega
      subst hon0
      have hx : hBits ⟨po, fn, sn', false, false, (0 : Nat), z, ff⟩ 10 = [true] ++ [false] ++ [po] ++ F ++ [mo] ++ S := by simp [hBits, hF, hS, hmo, offWd]
      rw [hx] at hp
      obtain ⟨e1, e2⟩ := packR_exact hp (by simp [lF, lS])
      have hB : bitsB (hb ++ rest) = [true] ++ [false] ++ [po] ++ F ++ [mo] ++ S ++ R := by rw [bitsB_app, e1, hR]
      generalize hb ++ rest = bs at *
      have n0 : numAt bs 0 1 = num [true] := numAt_part (pre := []) (post := [false] ++ [po] ++ F ++ [mo] ++ S ++ R) (by rw [hB] <;> simp) (by simp [lF, lS]) rfl
      have n1 : numAt bs 1 1 = num [false] := numAt_part (pre := [true]) (post := [po] ++ F ++ [mo] ++ S ++ R) (by rw [hB] <;> simp) (by simp [lF, lS]) rfl
      have n2 : numAt bs 2 1 = num [po] := numAt_part (pre := [true] ++ [false]) (post := F ++ [mo] ++ S ++ R) (by rw [hB] <;> simp) (by simp [lF, lS]) rfl
      have n3 : numAt bs 3 2 = num F := numAt_part (pre := [true] ++ [false] ++ [po]) (post := [mo] ++ S ++ R) (by rw [hB] <;> simp) (by simp [lF, lS]) lF
      have n5 : numAt bs 5 1 = num [mo] := numAt_part (pre := [true] ++ [false] ++ [po] ++ F) (post := S ++ R) (by rw [hB] <;> simp) (by simp [lF, lS]) rfl
      have n6 : numAt bs 6 10 = num S := numAt_part (pre := [true] ++ [false] ++ [po] ++ F ++ [mo]) (post := R) (by rw [hB] <;> simp) (by simp [lF, lS]) lS
      rw [num_one] at n0 n1 n2 n5
      rw [vF] at n3
      rw [vS] at n6
      refine ⟨?_, n0, ?_⟩
      · simp [lF, lS] at e2
        simp [headV]
        omega
      · refine ⟨?_, ?_, ?_, fun f => ?_⟩ <;> simp [hPart, hMore, hOk, hPkt, pktV, hPoll, hFI, hSN, hLast, hOff, n1, n2, n3, n5, n6, bitD, hmo]
  · have lS : (bitsOf sn' 16).length = 16 := bitsOf_len _ _
    have vS := num_bitsOf 16 sn' hsn2
    obtain ⟨S, hS⟩ : ∃ t, bitsOf sn' 16 = t := ⟨_, rfl⟩
    rw [hS] at lS vS
    cases pa with
    | true =>
      have lO : (bitsOf on 16).length = 16 := bitsOf_len _ _
      have vO := num_bitsOf 16 on (by simpa [offWd] using hon2)
      obtain ⟨O, hO⟩ : ∃ t, bitsOf on 16 = t := ⟨_, rfl⟩
      rw [hO] at lO vO
      have hx : hBits ⟨po, fn, sn', true, la, on, z, ff⟩ 16 = [true] ++ [true] ++ [po] ++ F ++ [mo] ++ [la] ++ [false] ++ S ++ O := by simp [hBits, hF, hS, hO, hmo, offWd]
      rw [hx] at hp
      obtain ⟨e1, e2⟩ := packR_exact hp (by simp [lF, lS, lO])
      have hB : bitsB (hb ++ rest) = [true] ++ [true] ++ [po] ++ F ++ [mo] ++ [la] ++ [false] ++ S ++ O ++ R := by rw [bitsB_app, e1, hR]
      generalize hb ++ rest = bs at *
      have n0 : numAt bs 0 1 = num [true] := numAt_part (pre := []) (post := [true] ++ [po] ++ F ++ [mo] ++ [la] ++ [false] ++ S ++ O ++ R) (by rw [hB] <;> simp) (by simp [lF, lS]) rfl
      have n1 : numAt bs 1 1 = num [true] := numAt_part (pre := [true]) (post := [po] ++ F ++ [mo] ++ [la] ++ [false] ++ S ++ O ++ R) (by rw [hB] <;> simp) (by simp [lF, lS]) rfl
      have n2 : numAt bs 2 1 = num [po] := numAt_part (pre := [true] ++ [true]) (post := F ++ [mo] ++ [la] ++ [false] ++ S ++ O ++ R) (by rw [hB] <;> simp) (by simp [lF, lS]) rfl
      have n3 : numAt bs 3 2 = num F := numAt_part (pre := [true] ++ [true] ++ [po]) (post := [mo] ++ [la] ++ [false] ++ S ++ O ++ R) (by rw [hB] <;> simp) (by simp [lF, lS]) lF
      have n5 : numAt bs 5 1 = num [mo] := numAt_part (pre := [true] ++ [true] ++ [po] ++ F) (post := [la] ++ [false] ++ S ++ O ++ R) (by rw [hB] <;> simp) (by simp [lF, lS]) rfl
      have n6 : numAt bs 6 1 = num [la] := numAt_part (pre := [true] ++ [true] ++ [po] ++ F ++ [mo]) (post := [false] ++ S ++ O ++ R) (by rw [hB] <;> simp) (by simp [lF, lS]) rfl
      have n7 : numAt bs 7 1 = num [false] := numAt_part (pre := [true] ++ [true] ++ [po] ++ F ++ [mo] ++ [la]) (post := S ++ O ++ R) (by rw [hB] <;> simp) (by simp [lF, lS]) rfl
      have n8 : numAt bs 8 16 = num S := numAt_part (pre := [true] ++ [true] ++ [po] ++ F ++ [mo] ++ [la] ++ [false]) (post := O ++ R) (by rw [hB] <;> simp) (by simp [lF, lS]) lS
      have n24 : numAt bs 24 16 = num O := numAt_part (pre := [true] ++ [true] ++ [po] ++ F ++ [mo] ++ [la] ++ [false] ++ S) (post := R) (by rw [hB] <;> simp) (by simp [lF, lS]) lO
      rw [num_one] at n0 n1 n2 n5 n6 n7
      rw [vF] at n3
      rw [vS] at n8
      rw [vO] at n24
      refine ⟨?_, n0, ?_⟩
      · simp [lF, lS, lO] at e2
        simp [headV]
        omega
      · refine ⟨?_, ?_, ?_, fun f => ?_⟩ <;> simp [hPart, hMore, hOk, hPkt, pktV, hPoll, hFI, hSN, hLast, hOff, n1, n2, n3, n5, n6, n7, n8, n24, bitD, hmo]
    | false =>
      obtain ⟨rfl, h0⟩ : la = false ∧ (on : Int) = 0 := by simpa using hz
      have hon0 : on = 0 := by omega
      subst hon0
      have hx : hBits ⟨po, fn, sn', false, false, (0 : Nat), z, ff⟩ 16 = [true] ++ [false] ++ [po] ++ F ++ [mo] ++ [false] ++ [false] ++ S := by simp [hBits, hF, hS, hmo, offWd]
      rw [hx] at hp
      obtain ⟨e1, e2⟩ := packR_exact hp (by simp [lF, lS])
      have hB : bitsB (hb ++ rest) = [true] ++ [false] ++ [po] ++ F ++ [mo] ++ [false] ++ [false] ++ S ++ R := by rw [bitsB_app, e1, hR]
      generalize hb ++ rest = bs at *
      have n0 : numAt bs 0 1 = num [true] := numAt_part (pre := []) (post := [false] ++ [po] ++ F ++ [mo] ++ [false] ++ [false] ++ S ++ R) (by rw [hB] <;> simp) (by simp [lF, lS]) rfl
      have n1 : numAt bs 1 1 = num [false] := numAt_part (pre := [true]) (post := [po] ++ F ++ [mo] ++ [false] ++ [false] ++ S ++ R) (by rw [hB] <;> simp) (by simp [lF, lS]) rfl
      have n2 : numAt bs 2 1 = num [po] := numAt_part (pre := [true] ++ [false]) (post := F ++ [mo] ++ [false] ++ [false] ++ S ++ R) (by rw [hB] <;> simp) (by simp [lF, lS]) rfl
      have n3 : numAt bs 3 2 = num F := numAt_part (pre := [true] ++ [false] ++ [po]) (post := [mo] ++ [false] ++ [false] ++ S ++ R) (by rw [hB] <;> simp) (by simp [lF, lS]) lF
      have n5 : numAt bs 5 1 = num [mo] := numAt_part (pre := [true] ++ [false] ++ [po] ++ F) (post := [false] ++ [false] ++ S ++ R) (by rw [hB] <;> simp) (by simp [lF, lS]) rfl
      have n6 : numAt bs 6 1 = num [false] := numAt_part (pre := [true] ++ [false] ++ [po] ++ F ++ [mo]) (post := [false] ++ S ++ R) (by rw [hB] <;> simp) (by simp [lF, lS]) rfl
      have n7 : numAt bs 7 1 = num [false] := numAt_part (pre := [true] ++ [false] ++ [po] ++ F ++ [mo] ++ [false]) (post := S ++ R) (by rw [hB] <;> simp) (by simp [lF, lS]) rfl
      have n8 : numAt bs 8 16 = num S := numAt_part (pre := [true] ++ [false] ++ [po] ++ F ++ [mo] ++ [false] ++ [false]) (post := R) (by rw [hB] <;> simp) (by simp [lF, lS]) lS
      rw [num_one] at n0 n1 n2 n5 n6 n7
      rw [vF] at n3
      rw [vS] at n8
      refine ⟨?_, n0, ?_⟩
      · simp [lF, lS] at e2
        simp [headV]
        omega
      · refine ⟨?_, ?_, ?_, fun f => ?_⟩ <;> simp [hPart, hMore, hOk, hPkt, pktV, hPoll, hFI, hSN, hLast, hOff, n1, n2, n3, n5, n6, n7, n8, bitD, hmo]
end Go.A.V.S

namespace Go.A.V.S
open Go Go.A
set_option linter.unusedSimpArgs false
set_option linter.unusedVariables false

theorem lBits_at (w : Nat) : ∀ (l : List Nat) (k n : Nat), l[k]? = some n → ∃ pre, pre.length = k * (w + 1) ∧ lBits w l = pre ++ [decide (k + 1 < l.length)] ++ (bitsOf n w ++ lBits w (l.drop (k + 1)))
  | [], k, n, h => by simp at h
  | a :: r, 0, n, h => by
    simp at h
    subst h
    refine ⟨[], by simp, ?_⟩
    have : decide (0 < r.length) = decide (0 + 1 < (a :: r).length) := decide_eq_decide.2 (by simp)
    simp only [lBits, this, List.nil_append, List.drop_succ_cons, List.drop_zero]
    rfl
  | a :: r, k + 1, n, h => by
    have h' : r[k]? = some n := by simpa using h
    obtain ⟨pre, h1, h2⟩ := lBits_at w r k n h'
    refine ⟨decide (0 < r.length) :: (bitsOf a w ++ pre), ?_, ?_⟩
    · simp only [List.length_cons, List.length_append, bitsOf_len, h1, Nat.add_mul]; omega
    · have : decide (k + 1 < r.length) = decide (k + 1 + 1 < (a :: r).length) := decide_eq_decide.2 (by simp)
      simp only [lBits, h2, this, List.drop_succ_cons, List.cons_append, List.append_assoc]
section
variable {w : Nat} {l lb rest : List Nat}
theorem lback_at (hp : PackR (lBits w l) lb) (hv : ∀ n ∈ l, n < 2 ^ w) {k n : Nat} (hn : l[k]? = some n) : lnum (lb ++ rest) w k = n ∧ lmore (lb ++ rest) w k = (decide (k + 1 < l.length)).toNat := by
  obtain ⟨pre, h1, h2⟩ := lBits_at w l k n hn
  have h3 := hp.eq
  rw [h2] at h3
  obtain ⟨Z, hZ⟩ : ∃ t, List.replicate (8 * lb.length - (pre ++ [decide (k + 1 < l.length)] ++ (bitsOf n w ++ lBits w (l.drop (k + 1)))).length) false = t := ⟨_, rfl⟩
  rw [hZ] at h3
  have hB : bitsB (lb ++ rest) = pre ++ [decide (k + 1 < l.length)] ++ (bitsOf n w ++ lBits w (l.drop (k + 1))) ++ Z ++ bitsB rest := by rw [bitsB_app, h3]
  constructor
  · rw [lnum, numAt_part (pre := pre ++ [decide (k + 1 < l.length)]) (x := bitsOf n w) (post := lBits w (l.drop (k + 1)) ++ Z ++ bitsB rest) (by rw [hB]; simp) (by simp [h1]) (bitsOf_len _ _), num_bitsOf w n (hv n (List.mem_of_getElem? hn))]
  · have h4 := numAt_part (n := 1) (pre := pre) (x := [decide (k + 1 < l.length)]) (post := bitsOf n w ++ lBits w (l.drop (k + 1)) ++ Z ++ bitsB rest) (by rw [hB]; simp) h1 rfl
    rw [lmore, h4, num_one]
theorem lback_pad (hp : PackR (lBits w l) lb) : numAt (lb ++ rest) (l.length * (w + 1)) (padN (l.length * (w + 1))) = 0 := by
  have hl := lBits_len w l
  have h1 := hp.len
  rw [hl] at h1
  have h3 := hp.eq
  rw [hl] at h3
  have hpd : 8 * lb.length - l.length * (w + 1) = padN (l.length * (w + 1)) := by simp only [padN]; omega
  rw [hpd] at h3
  have hB : bitsB (lb ++ rest) = lBits w l ++ List.replicate (padN (l.length * (w + 1))) false ++ bitsB rest := by rw [bitsB_app, h3]
  rw [numAt_part hB hl (by simp)]
  generalize padN (l.length * (w + 1)) = p
  induction p with
  | zero => rfl
  | succ p ih => rw [List.replicate_succ', num_snoc, ih]; rfl
theorem lback_vals (hp : PackR (lBits w l) lb) (hv : ∀ n ∈ l, n < 2 ^ w) : lvals (lb ++ rest) w l.length = l := by
  apply List.ext_getElem?
  intro k
  by_cases hk : k < l.length
  · obtain ⟨n, hn⟩ : ∃ n, l[k]? = some n := ⟨_, List.getElem?_eq_getElem hk⟩
    rw [hn, lvals, List.getElem?_map, List.getElem?_range hk, Option.map_some, (lback_at hp hv hn).1]
  · rw [List.getElem?_eq_none (by rw [lvals_len]; omega), List.getElem?_eq_none (by omega)]
theorem lback_lr (hp : PackR (lBits w l) lb) (hv : ∀ n ∈ l, 1 ≤ n ∧ n < 2 ^ w) (hl : l.length ≤ 23) : ∀ z, z ≤ 23 → 23 - z < l.length → lr (lb ++ rest) w z = (l.length, 0)
  | 0, _, h => by omega
  | z + 1, hz, h => by
    have hk : 22 - z < l.length := by omega
    obtain ⟨n, hn⟩ : ∃ n, l[22 - z]? = some n := ⟨_, List.getElem?_eq_getElem hk⟩
    obtain ⟨e1, e2⟩ := lback_at (rest := rest) hp (fun n hn => (hv n hn).2) hn
    have h1 := hp.len
    rw [lBits_len] at h1
    have h2 : (22 - z + 1) * (w + 1) ≤ l.length * (w + 1) := Nat.mul_le_mul_right _ hk
    have h3 : (22 - z + 1) * (w + 1) = (22 - z) * (w + 1) + (w + 1) := by rw [Nat.add_mul]; omega
    have hn1 := (hv n (List.mem_of_getElem? hn)).1
    rw [lr, if_neg (by rw [List.length_append]; omega), e1, if_neg (by omega), e2]
    by_cases hm : 22 - z + 1 < l.length
    · rw [decide_eq_true hm, if_pos (by rfl)]
      exact lback_lr hp hv hl z (by omega) (by omega)
    · rw [decide_eq_false hm, if_neg (by simp)]
      have : 22 - z + 1 = l.length := by omega
      rw [this]
theorem lback (hp : PackR (lBits w l) lb) (hv : ∀ n ∈ l, 1 ≤ n ∧ n < 2 ^ w) (h1 : 1 ≤ l.length) (hl : l.length ≤ 23) (rest : List Nat) :
    lensR (lb ++ rest) w = (l.length, 0) ∧ lvals (lb ++ rest) w l.length = l ∧ lsize l.length w = lb.length := by
  have hr := lback_lr (rest := rest) hp hv hl 23 (by omega) (by omega)
  refine ⟨?_, lback_vals hp (fun n hn => (hv n hn).2), ?_⟩
  · rw [lensR, hr]
    simp only [if_true]
    rw [if_pos (lback_pad hp)]
  · have h2 := hp.len
    rw [lBits_len] at h2
    rw [lsize, if_neg (by omega), h2]
end
end Go.A.V.S

namespace Go.A.V.S
open Go Go.A
set_option linter.unusedSimpArgs false
set_option linter.unusedVariables false

theorem cutF_back : ∀ ff : List (List Nat), ff ≠ [] → (∀ f ∈ ff, f.length ≠ 0) → cutF ff.flatten ((ff.dropLast).map (·.length)) = some ff
  | [], h, _ => (h rfl).elim
  | [f], _, h => by
    have : f.length ≠ 0 := h f (by simp)
    have hne : f ≠ [] := fun e => by subst e; simp at this
    simp [cutF, hne]
  | f :: g :: r, _, h => by
    have ih := cutF_back (g :: r) (by simp) (fun x hx => h x (by simp [hx]))
    have e1 : (f :: g :: r).dropLast = f :: (g :: r).dropLast := rfl
    have e2 : (f :: g :: r).flatten = f ++ (g :: r).flatten := rfl
    rw [e1, e2, List.map_cons, cutF, if_neg (by rw [List.length_append]; omega), List.drop_left, List.take_left, ih]
    rfl
theorem lenL_eq (p : Pk) : lenL p = (bb p.ff).dropLast.map (·.length) := by
  rw [lenL, List.dropLast_eq_take, bb_len, bb, bb, List.map_take]
theorem read_back {p : Pk} {w : Int} {out : List Nat} (h0 : sizeR p w ≠ 0) (h : WrB p w.toNat out) :
    readR out w = (0, bb p.ff) ∧ out.length = sizeR p w ∧ ∀ f, hPkt out w.toNat f = pktV p.poll p.fi p.sn p.part p.last p.off f := by
  obtain ⟨hok, hw, hf1, hf24, hsz, hpz⟩ := sizeR_pos h0
  obtain ⟨wn, rfl, hwn⟩ : ∃ wn : Nat, w = wn ∧ (wn = 10 ∨ wn = 16) := by
    rcases hw with rfl | rfl
    · exact ⟨10, rfl, .inl rfl⟩
    · exact ⟨16, rfl, .inr rfl⟩
  have htn : ((wn : Nat) : Int).toNat = wn := by simp
  rw [htn] at hok hsz h ⊢
  obtain ⟨s1, s2, s3, s4⟩ := sumR_pos (bb p.ff) (base p wn) (by rw [← hsz]; exact h0)
  have hbne : bb p.ff ≠ [] := fun e => by have := congrArg List.length e; rw [bb_len] at this; simp at this; rw [this] at hf1; simp at hf1
  have hdl := s3 hbne
  obtain ⟨hb, lb, hpk, hpl, rfl⟩ := h
  rw [List.append_assoc]
  obtain ⟨b1, b2, b3, b4, b5, b6⟩ := head_back hok hpz hpk (lb ++ (bb p.ff).flatten)
  have hll : (lenL p).length = p.ff.length - 1 := by rw [lenL_eq, List.length_map, List.length_dropLast, bb_len]
  have hlw : lenWd wn = 11 ∨ lenWd wn = 15 := by rcases hwn with rfl | rfl <;> simp [lenWd]
  have hlens : ∀ n ∈ lenL p, 1 ≤ n ∧ n ≤ 2047 := fun n hn => by
    rw [lenL_eq] at hn
    obtain ⟨b, hb1, rfl⟩ := List.mem_map.1 hn
    have h2 := s2 b hb1
    have h3 := s1 b (List.mem_of_mem_take (by rw [List.dropLast_eq_take] at hb1; exact hb1))
    omega
  have hlens2 : ∀ n ∈ lenL p, 1 ≤ n ∧ n < 2 ^ lenWd wn := fun n hn => by
    have h2 := hlens n hn
    have : 2 ^ 11 ≤ 2 ^ lenWd wn := Nat.pow_le_pow_right (by omega) (by omega)
    have : (2 : Nat) ^ 11 = 2048 := by decide
    omega
  have hfl1 : 0 < (bb p.ff).flatten.length := by
    cases hbb : bb p.ff with
    | nil => exact (hbne hbb).elim
    | cons f r =>
      have := s1 f (by rw [hbb]; simp)
      rw [List.flatten_cons, List.length_append]; omega
  have hcut := cutF_back (bb p.ff) hbne s1
  rw [← lenL_eq] at hcut
  have hany : ((lenL p).any fun n => decide (2047 < n)) = false := by
    refine List.any_eq_false.2 fun n hn => ?_
    have := (hlens n hn).2
    simp; omega
  have hfields : fieldsR (bb p.ff).flatten (lenL p) = (0, bb p.ff) := by rw [fieldsR, if_neg (by rw [hany]; simp), hcut]
  have hlb : lb.length = lsize (p.ff.length - 1) (lenWd wn) := by
    by_cases h1 : 1 ≤ (lenL p).length
    · rw [← hll]; exact ((lback hpl hlens2 h1 (by omega) []).2.2).symm
    · have h2 := hpl.len
      rw [lBits_len, show (lenL p).length = 0 by omega] at h2
      rw [lsize, if_pos (by omega)]
      simp at h2; simp [h2]
  have hbase : base p wn = hb.length + lb.length := by rw [base, b1, hlb]
  rw [hbase] at hdl s4
  refine ⟨?_, ?_, b6⟩
  · have hhv : headV p.part wn ≥ 2 := by rw [headV_eq hwn]; split <;> omega
    rw [readR, if_pos hw, if_neg (by simp only [List.length_append]; omega), if_neg (by simp only [List.length_append]; omega), if_neg (by rw [b2]; omega), b3, ← b1, if_neg (by simp only [List.length_append]; omega), htn, if_pos b5]
    have hd : (hb ++ (lb ++ (bb p.ff).flatten)).drop (headV (hPart (hb ++ (lb ++ (bb p.ff).flatten))) wn) = lb ++ (bb p.ff).flatten := by rw [b3, ← b1, List.drop_left]
    rw [restR, restR.bs', hd, b4]
    by_cases h1 : 1 < p.ff.length
    · rw [decide_eq_true h1, if_pos rfl]
      obtain ⟨c1, c2, c3⟩ := lback hpl hlens2 (by omega) (by omega) (bb p.ff).flatten
      rw [c1]
      simp only [if_true]
      rw [c2, c3, List.drop_left]
      exact hfields
    · rw [decide_eq_false h1, if_neg (by simp)]
      have hl0 : lb = [] := List.length_eq_zero_iff.1 (by rw [hlb, lsize, if_pos (by omega)])
      have hL0 : lenL p = [] := List.length_eq_zero_iff.1 (by omega)
      rw [hl0, List.nil_append]
      rw [hL0] at hfields
      exact hfields
  · rw [hsz, hbase, s4]; simp only [List.length_append]; omega
end Go.A.V.S

namespace Go.A.V.S
open Go Go.A
set_option linter.unusedSimpArgs false
set_option linter.unusedVariables false

/-- n bits from a on. -/
def sl (bs : List Nat) (a n : Nat) : List Bool := ((bitsB bs).drop a).take n
end Go.A.V.S

namespace Go.A.V.S
open Go Go.A
set_option linter.unusedSimpArgs false
set_option linter.unusedVariables false

end Go.A.V.S

namespace Go.A.V.S
open Go Go.A
set_option linter.unusedSimpArgs false
set_option linter.unusedVariables false

end Go.A.V.S

namespace Go.A.V.S
open Go Go.A
set_option linter.unusedSimpArgs false
set_option linter.unusedVariables false

end Go.A.V.S

namespace Go.A.V.S
open Go Go.A
set_option linter.unusedSimpArgs false
set_option linter.unusedVariables false

end Go.A.V.S

namespace Go.A.V.S
open Go Go.A
set_option linter.unusedSimpArgs false
set_option linter.unusedVariables false

end Go.A.V.S

namespace Go.A.V.S
open Go Go.A
set_option linter.unusedSimpArgs false
set_option linter.unusedVariables false

end Go.A.V.S

namespace Go.A.V.S
open Go Go.A
set_option linter.unusedSimpArgs false
set_option linter.unusedVariables false

theorem WrB_uniq {p : Pk} {w : Nat} {a b : List Nat} (ha : WrB p w a) (hb : WrB p w b) : a = b := by
  obtain ⟨a1, a2, x1, x2, rfl⟩ := ha
  obtain ⟨b1, b2, y1, y2, rfl⟩ := hb
  rw [x1.uniq y1, x2.uniq y2]
theorem WrB_bytes {p : Pk} {w : Nat} {a : List Nat} (ha : WrB p w a) (hf : BytesF p.ff) : Bytes a := by
  obtain ⟨a1, a2, x1, x2, rfl⟩ := ha
  intro b hb
  rcases List.mem_append.1 hb with hb | hb
  · rcases List.mem_append.1 hb with hb | hb
    · exact x1.byte b hb
    · exact x2.byte b hb
  · obtain ⟨f, hf1, hf2⟩ := List.mem_flatten.1 hb
    obtain ⟨c, hc, rfl⟩ := List.mem_map.1 hf1
    exact hf c hc b hf2
def pk0 : Pk := ⟨false, 0, 0, false, false, 0, true, []⟩
theorem len_le_sum : ∀ {l : List (List Nat)} {f : List Nat}, f ∈ l → f.length ≤ (l.map List.length).sum
  | a :: r, f, h => by
    rw [List.map_cons, List.sum_cons]
    rcases List.mem_cons.1 h with rfl | h
    · omega
    · have := len_le_sum h; omega
/-- What is read. -/
def RdP (bs : List Nat) (w : Int) (q : Pk) (e : Int) : Prop :=
  e = ((readR bs w).1 : Nat) ∧ q.z = true ∧ ((e ≠ 0 ∧ q = pk0) ∨ (e = 0 ∧ readR bs w = (0, bb q.ff) ∧ q.poll = hPoll bs ∧ q.fi = (hFI bs : Nat) ∧ q.sn = (hSN bs w.toNat : Nat) ∧ q.part = hPart bs ∧ q.last = hLast bs w.toNat ∧ q.off = (hOff bs w.toNat : Nat)))
end Go.A.V.S

namespace Go.A.V.S
open Go Go.A Go.A.V
set_option linter.unusedSimpArgs false
set_option linter.unusedVariables false

theorem u8_wf {z : Int} (h : (Lit.int .u8 z).wf = true) : ∃ n : Nat, z = n ∧ n < 256 := by
  simp only [Lit.wf, Bool.and_eq_true, decide_eq_true_eq] at h
  have h1 : IntKind.u8.min = 0 := by decide
  have h2 : IntKind.u8.max = 255 := by decide
  rw [h1, h2] at h
  exact ⟨z.toNat, by omega, by omega⟩
theorem iss_byte {cs : List AV} (h : V.CT.iss [.i .u8] cs) : ∃ n : Nat, n < 256 ∧ cs = [.c (.int .u8 (n : Nat))] := by
  simp only [V.CT.iss, V.CT.is] at h
  obtain ⟨c, r, rfl, ⟨z, rfl, hz⟩, rfl⟩ := h
  obtain ⟨n, rfl, hn⟩ := u8_wf hz
  exact ⟨n, hn, rfl⟩
theorem isss_bytes : ∀ (l : List (List AV)), (∀ cs ∈ l, V.CT.iss [.i .u8] cs) → ∃ b : List Nat, l = byteCs b ∧ Bytes b
  | [], _ => ⟨[], rfl, by simp [Bytes]⟩
  | x :: r, h => by
    obtain ⟨n, hn, rfl⟩ := iss_byte (h x (by simp))
    obtain ⟨b, rfl, hb⟩ := isss_bytes r (fun cs hc => h cs (by simp [hc]))
    exact ⟨n :: b, rfl, fun y hy => by
      rcases List.mem_cons.1 hy with rfl | hy
      · exact hn
      · exact hb y hy⟩
theorem is_bytes {c : AV} (h : V.CT.is (.sl [.i .u8]) c) : ∃ b : Bs, c = bv b ∧ Bytes b.2 := by
  simp only [V.CT.is] at h
  obtain ⟨z, l, rfl, hl⟩ := h
  obtain ⟨b, rfl, hb⟩ := isss_bytes l hl
  exact ⟨(z, b), rfl, hb⟩
theorem isss_fields : ∀ (l : List (List AV)), (∀ cs ∈ l, V.CT.iss [.sl [.i .u8]] cs) → ∃ ff : List Bs, l = bvs ff ∧ BytesF ff
  | [], _ => ⟨[], rfl, by simp [BytesF]⟩
  | x :: r, h => by
    have h1 := h x (by simp)
    rw [V.CT.iss] at h1
    obtain ⟨c, q, rfl, h2, h3⟩ := h1
    rw [V.CT.iss] at h3
    subst h3
    obtain ⟨b, rfl, hb⟩ := is_bytes h2
    obtain ⟨ff, rfl, hf⟩ := isss_fields r (fun cs hc => h cs (by simp [hc]))
    exact ⟨b :: ff, rfl, fun y hy => by
      rcases List.mem_cons.1 hy with rfl | hy
      · exact hb
      · exact hf y hy⟩
theorem is_fields {c : AV} (h : V.CT.is (.sl [.sl [.i .u8]]) c) : ∃ (z : Bool) (ff : List Bs), c = lst z 1 none (bvs ff) ∧ BytesF ff := by
  rw [V.CT.is] at h
  obtain ⟨z, l, rfl, hl⟩ := h
  obtain ⟨ff, rfl, hf⟩ := isss_fields l hl
  exact ⟨z, ff, rfl, hf⟩
theorem iss_cons {t : V.CT} {ts : List V.CT} {cs : List AV} (h : V.CT.iss (t :: ts) cs) : ∃ c r, cs = c :: r ∧ t.is c ∧ V.CT.iss ts r := by simpa only [V.CT.iss] using h
theorem iss_nil {cs : List AV} (h : V.CT.iss [] cs) : cs = [] := by simpa only [V.CT.iss] using h
theorem is_i {k : IntKind} {c : AV} (h : V.CT.is (.i k) c) : ∃ z, c = .c (.int k z) ∧ (Lit.int k z).wf = true := by simpa only [V.CT.is] using h
theorem is_b {c : AV} (h : V.CT.is .b c) : ∃ z, c = ab z := by simpa only [V.CT.is] using h
theorem iss_pk {vs : List AV} (h : V.CT.iss [.b, .i .i64, .i .i64, .b, .b, .i .i64, .sl [.sl [.i .u8]]] vs) : ∃ p : Pk, vs = p.v ∧ BytesF p.ff := by
  obtain ⟨c0, r0, rfl, h0, h⟩ := iss_cons h
  obtain ⟨c1, r1, rfl, h1, h⟩ := iss_cons h
  obtain ⟨c2, r2, rfl, h2, h⟩ := iss_cons h
  obtain ⟨c3, r3, rfl, h3, h⟩ := iss_cons h
  obtain ⟨c4, r4, rfl, h4, h⟩ := iss_cons h
  obtain ⟨c5, r5, rfl, h5, h⟩ := iss_cons h
  obtain ⟨c6, r6, rfl, h6, h⟩ := iss_cons h
  obtain rfl := iss_nil h
  obtain ⟨po, rfl⟩ := is_b h0
  obtain ⟨fi, rfl, _⟩ := is_i h1
  obtain ⟨sn, rfl, _⟩ := is_i h2
  obtain ⟨pa, rfl⟩ := is_b h3
  obtain ⟨la, rfl⟩ := is_b h4
  obtain ⟨off, rfl, _⟩ := is_i h5
  obtain ⟨z, ff, rfl, hf⟩ := is_fields h6
  exact ⟨⟨po, fi, sn, pa, la, off, z, ff⟩, rfl, hf⟩
end Go.A.V.S
