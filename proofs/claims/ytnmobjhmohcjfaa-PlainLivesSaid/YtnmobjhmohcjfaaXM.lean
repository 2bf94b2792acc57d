/- plain: the entity's row, and its calls, of any room. -/
import Derived.Test.YtnmobjhmohcjfaaXG
import Derived.Test.YtnmobjhmohcjfaaXL
set_option linter.unusedSimpArgs false
set_option linter.unusedVariables false
set_option linter.unnecessarySimpa false
namespace Go.A.V.S
open Go Go.A
set_option linter.unusedSimpArgs false
set_option linter.unusedVariables false
/-- An entity's cells, of a queue of N bytes. -/
def pw (N : Int) (rq : Nat) : List AV := [ai 0, ai 0, ai 0, ai 0, ai 0, ai 0, ai 0, ai 0, ai 0, ai N, .ptr rq 0 5]
/-- The heap of an entity and its queue. -/
def PW (N : Int) (H : Heap) (rq rs : Nat) (q : QM) (z : Bool) : Heap := RC (QH H rq q z) rs (pw N rq)
theorem PW_len (N : Int) (H : Heap) (rq rs : Nat) (q : QM) (z : Bool) : (PW N H rq rs q z).length = H.length := by rw [PW, RC_len, QH_len]
theorem PW_take (N : Int) (H : Heap) (rq rs : Nat) (q : QM) (z : Bool) : (PW N H rq rs q z).take H.length = PW N H rq rs q z := List.take_of_length_le (by rw [PW_len]; exact Nat.le_refl _)
attribute [simp] PW_len PW_take
def tmV (N : Int) : AV := .agg [ai 0, ai 0, ai 0, ai 0, ai 0, ai 0, ai 0, ai 0, ai 0, ai N]
theorem chk_tm {N : Int} (h : 1 ≤ N ∧ N ≤ 20000) : (⟨0, 0, 0, 0, 0, 0, 0, 0, 0, N⟩ : Cfg).chk = 0 := by
  have h1 : (⟨0, 0, 0, 0, 0, 0, 0, 0, 0, N⟩ : Cfg).tm = true := decide_eq_true rfl
  have h2 : [(N, ((1 : Int), (20000 : Int)))].all inn = true := by simp [inn]; omega
  unfold Cfg.chk
  rw [if_pos (.inl rfl), if_pos rfl, h1]
  simp only [h2, Bool.and_self, if_true]
theorem pn_Read (N : Int) (hN : 1 ≤ N ∧ N ≤ 20000) (b : Bs) (h0 : b.2.length ≠ 0) (h1 : b.2.length ≤ 1000) (H : Heap) : callW P f_pdu_Read [tmV N, bv b] H = some (rawV 0 b, H) := by
  have hC := fun H => pdu_Check ⟨0, 0, 0, 0, 0, 0, 0, 0, 0, N⟩ H
  rw [chk_tm hN] at hC
  simp only [Cfg.v] at hC
  have hR := fun H => raw_Read b h0 h1 H
  rw [rawV] at hR ⊢
  rw [tmV]
  have hf : bv b = lst b.1 1 none (byteCs b.2) := rfl
  rw [hf] at hR ⊢
  rw [call_L 7 rfl (rfl : P.T f_pdu_Read = some F_pdu_Read) (le_ok rfl)]; simp -implicitDefEqProofs [-toCells, -AV.one, -forget, F_pdu_Read, c_pdu_Read, hC, hR]
theorem pn_Read_e (N : Int) (hN : 1 ≤ N ∧ N ≤ 20000) (b : Bs) (e : Nat) (h : b.2.length = 0 ∧ e = 8 ∨ 1000 < b.2.length ∧ e = 2) (H : Heap) : callW P f_pdu_Read [tmV N, bv b] H = some (.tup [.agg [ai 0, nilS, ai 0, ai 0, nilS, ab false, ai 0, ai 0, ab false, ab false, ai 0, nilS, ai 0, nilS], ai e], H) := by
  have hC := fun H => pdu_Check ⟨0, 0, 0, 0, 0, 0, 0, 0, 0, N⟩ H
  rw [chk_tm hN] at hC
  simp only [Cfg.v] at hC
  have hlb := bv_len b
  have hf : bv b = lst b.1 1 none (byteCs b.2) := rfl
  rw [tmV]
  have hR : callW P f_pdu_readRaw [bv b] H = some (.tup [.agg [ai 0, nilS, ai 0, ai 0, nilS, ab false, ai 0, ai 0, ab false, ab false, ai 0, nilS, ai 0, nilS], ai e], H) := by
    rcases h with ⟨h, rfl⟩ | ⟨h, rfl⟩
    · rw [h] at hlb
      replace hlb : lenW (bv b) = some 0 := hlb
      rw [hf] at hlb ⊢
      rw [call_L 5 rfl (rfl : P.T f_pdu_readRaw = some F_pdu_readRaw) (le_ok rfl)]; simp -implicitDefEqProofs [-toCells, -AV.one, -forget, F_pdu_readRaw, c_pdu_readRaw, hlb]
    · obtain ⟨n, hn⟩ : ∃ y, b.2.length = y := ⟨_, rfl⟩
      rw [hn] at hlb h
      have n1 : ¬ (n : Int) = 0 := by omega
      have n1' : ¬ n = 0 := by omega
      have n2 : (1000 : Int) < n := by omega
      have n2' : (n : Int) > 1000 := by omega
      rw [hf] at hlb ⊢
      rw [call_L 5 rfl (rfl : P.T f_pdu_readRaw = some F_pdu_readRaw) (le_ok rfl)]; simp -implicitDefEqProofs [-toCells, -AV.one, -forget, F_pdu_readRaw, c_pdu_readRaw, hlb, n1, n1', n2, n2', h]
  rw [hf] at hR ⊢
  rw [call_L 7 rfl (rfl : P.T f_pdu_Read = some F_pdu_Read) (le_ok rfl)]; simp -implicitDefEqProofs [-toCells, -AV.one, -forget, F_pdu_Read, c_pdu_Read, hC, hR]
section
variable {N : Int} {H : Heap} {rq rs : Nat} {q : QM} {z : Bool}
theorem PW_s (h : Bt H rq rs) : rs < (QH H rq q z).length := by rw [QH_len]; exact h.s
theorem PW_10 (h : Bt H rq rs) : rdRow (PW N H rq rs q z) rs 10 1 11 = some [.ptr rq 0 5] := by rw [PW, RC_rd (PW_s h)]; rfl
theorem PW_0 (h : Bt H rq rs) : rdRow (PW N H rq rs q z) rs 0 10 11 = some [ai 0, ai 0, ai 0, ai 0, ai 0, ai 0, ai 0, ai 0, ai 0, ai N] := by rw [PW, RC_rd (PW_s h)]; rfl
theorem PW_QH (h : Bt H rq rs) : PW N H rq rs q z = QH (RC H rs (pw N rq)) rq q z := RC_comm h.ne _ _
theorem PW_lq (h : Bt H rq rs) : rq < (RC H rs (pw N rq)).length := by rw [RC_len]; exact h.q
theorem PW_app (h : Bt H rq rs) (X : Heap) : PW N H rq rs q z ++ X = PW N (H ++ X) rq rs q z := by
  rw [PW, RC_app (PW_s h), QH, RC_app h.q]; rfl
theorem pn_queue (h : Bt H rq rs) : callW P f_plain_Entity_queue [.ptr rs 0 11] (PW N H rq rs q z) = some (.ptr rq 0 5, PW N H rq rs q z) := by
  have r0 := PW_10 (N := N) (q := q) (z := z) h
  have hl := PW_len N H rq rs q z
  have ht := PW_take N H rq rs q z
  generalize PW N H rq rs q z = G at *
  have hfz : frz H.length G (.ptr rq 0 5) = some (.ptr rq 0 5) := by simp only [frz]; rw [if_pos h.q]
  have hno : norm (.ptr rq 0 5) = .ptr rq 0 5 := rfl
  rw [call_L 4 rfl (rfl : P.T f_plain_Entity_queue = some F_plain_Entity_queue) (le_ok rfl)]; simp -implicitDefEqProofs [-toCells, -AV.one, -forget, F_plain_Entity_queue, c_plain_Entity_queue, r0, hl, hfz, hno, ht]
theorem pn_Bytes (h : Bt H rq rs) : callW P f_plain_Entity_Bytes [.ptr rs 0 11] (PW N H rq rs q z) = some (ai q.bytes, PW N H rq rs q z) := by
  have hQ := pn_queue (N := N) (q := q) (z := z) h
  have hB := q_Bytes (PW_lq (N := N) h) q z
  rw [← PW_QH h] at hB
  generalize PW N H rq rs q z = G at *
  rw [call_L 3 rfl (rfl : P.T f_plain_Entity_Bytes = some F_plain_Entity_Bytes) (le_ok rfl)]; simp -implicitDefEqProofs [-toCells, -AV.one, -forget, F_plain_Entity_Bytes, c_plain_Entity_Bytes, hQ, hB]
theorem pn_Push (h : Bt H rq rs) (hq : q.Ok) (hlast : q.last ≤ 100000) (b : Bs) (hb : b.2.length ≤ 1000000) :
    ∃ z', callW P f_plain_Entity_Push [.ptr rs 0 11, bv b] (PW N H rq rs q z) = some (.tup [ul (q.push b.2).2.1, ai (q.push b.2).2.2], PW N H rq rs (q.push b.2).1 z') := by
  have hQ := pn_queue (N := N) (q := q) (z := z) h
  obtain ⟨z', hB⟩ := q_Push (PW_lq (N := N) h) hq hlast z b hb
  rw [← PW_QH h, ← PW_QH h] at hB
  refine ⟨z', ?_⟩
  have hl := PW_len N H rq rs q z
  have hl2 := PW_len N H rq rs (q.push b.2).1 z'
  have ht2 := PW_take N H rq rs (q.push b.2).1 z'
  generalize PW N H rq rs (q.push b.2).1 z' = G2 at *
  generalize PW N H rq rs q z = G at *
  rw [call_L 4 rfl (rfl : P.T f_plain_Entity_Push = some F_plain_Entity_Push) (le_ok rfl)]; simp -implicitDefEqProofs [-toCells, -AV.one, -forget, F_plain_Entity_Push, c_plain_Entity_Push, hQ, hB, hl, hl2, ht2]
theorem pn_Discard (h : Bt H rq rs) (hq : q.Ok) (id : Nat) :
    ∃ z' k, callW P f_plain_Entity_Discard [.ptr rs 0 11, ul id] (PW N H rq rs q z) = some (ai ((q.discard id).2 : Nat), PW N (H ++ List.replicate k .other) rq rs (q.discard id).1 z') := by
  have hQ := pn_queue (N := N) (q := q) (z := z) h
  obtain ⟨z', k, hB⟩ := q_Discard (PW_lq (N := N) h) hq z id
  rw [← PW_QH h, ← PW_QH h, PW_app h] at hB
  refine ⟨z', k, ?_⟩
  have hl := PW_len N H rq rs q z
  have ht2 : (PW N (H ++ List.replicate k .other) rq rs (q.discard id).1 z').take H.length ++ List.replicate k .other = PW N (H ++ List.replicate k .other) rq rs (q.discard id).1 z' := by
    rw [← PW_app h, List.take_append_of_le_length (by rw [PW_len]; exact Nat.le_refl _), PW_take]
  have hl2 : (PW N (H ++ List.replicate k .other) rq rs (q.discard id).1 z').length = H.length + k := by rw [PW_len]; simp
  generalize PW N (H ++ List.replicate k .other) rq rs (q.discard id).1 z' = G2 at *
  generalize PW N H rq rs q z = G at *
  rw [call_L 4 rfl (rfl : P.T f_plain_Entity_Discard = some F_plain_Entity_Discard) (le_ok rfl)]; simp -implicitDefEqProofs [-toCells, -AV.one, -forget, F_plain_Entity_Discard, c_plain_Entity_Discard, hQ, hB, hl, hl2, ht2]
theorem pn_Hear (hN : 1 ≤ N ∧ N ≤ 20000) (h : Bt H rq rs) (b : Bs) (h0 : b.2.length ≠ 0) (h1 : b.2.length ≤ 1000) : callW P f_plain_Entity_Hear [.ptr rs 0 11, bv b] (PW N H rq rs q z) = some (.tup [bv b, ai 0], PW N H rq rs q z) := by
  have hQ := pn_queue (q := q) (z := z) (N := N) h
  have r0 := PW_0 (q := q) (z := z) (N := N) h
  have hR := fun H => pn_Read N hN b h0 h1 H
  rw [tmV, rawV] at hR
  have hf : bv b = lst b.1 1 none (byteCs b.2) := rfl
  have hl := PW_len N H rq rs q z
  have ht := PW_take N H rq rs q z
  generalize PW N H rq rs q z = G at *
  rw [hf] at hR ⊢
  rw [call_L 5 rfl (rfl : P.T f_plain_Entity_Hear = some F_plain_Entity_Hear) (le_ok rfl)]; simp -implicitDefEqProofs [-toCells, -AV.one, -forget, F_plain_Entity_Hear, c_plain_Entity_Hear, hQ, r0, hR, hl, ht]
theorem pn_Hear_e (hN : 1 ≤ N ∧ N ≤ 20000) (h : Bt H rq rs) (b : Bs) (e : Nat) (he : b.2.length = 0 ∧ e = 8 ∨ 1000 < b.2.length ∧ e = 2) : callW P f_plain_Entity_Hear [.ptr rs 0 11, bv b] (PW N H rq rs q z) = some (.tup [nilS, ai e], PW N H rq rs q z) := by
  have hQ := pn_queue (q := q) (z := z) (N := N) h
  have r0 := PW_0 (q := q) (z := z) (N := N) h
  have hR := fun H => pn_Read_e N hN b e he H
  have e0 : ¬ (e : Int) = 0 := by omega
  have e1 : ¬ e = 0 := by omega
  rw [tmV] at hR
  have hf : bv b = lst b.1 1 none (byteCs b.2) := rfl
  have hl := PW_len N H rq rs q z
  have ht := PW_take N H rq rs q z
  generalize PW N H rq rs q z = G at *
  rw [hf] at hR ⊢
  rw [call_L 5 rfl (rfl : P.T f_plain_Entity_Hear = some F_plain_Entity_Hear) (le_ok rfl)]; simp -implicitDefEqProofs [-toCells, -AV.one, -forget, F_plain_Entity_Hear, c_plain_Entity_Hear, hQ, r0, hR, hl, ht, e0, e1]
theorem cfg_tm {c : Cfg} (h : c.chk = 0) (hm : c.mode = 0) : (1 ≤ c.queue ∧ c.queue ≤ 20000) ∧ c = ⟨0, 0, 0, 0, 0, 0, 0, 0, 0, c.queue⟩ := by
  unfold Cfg.chk at h
  rw [if_pos (.inl hm), if_pos hm] at h
  cases ht : c.tm with
  | false => rw [ht] at h; simp at h
  | true =>
    rw [ht, Bool.true_and] at h
    have h3 : [(c.queue, ((1 : Int), (20000 : Int)))].all inn = true := by
      cases hx : [(c.queue, ((1 : Int), (20000 : Int)))].all inn with
      | true => rfl
      | false => rw [hx] at h; simp at h
    simp only [List.all_cons, List.all_nil, Bool.and_true, inn, Bool.not_eq_true', decide_eq_false_iff_not] at h3
    refine ⟨by omega, ?_⟩
    have h4 := of_decide_eq_true ht
    obtain ⟨mo, bi, wi, re, pr, ph, pp, pb, mr, qu⟩ := c
    simp only [List.cons.injEq, and_true] at h4
    obtain ⟨rfl, rfl, rfl, rfl, rfl, rfl, rfl, rfl, rfl, _⟩ := h4
    rfl
theorem pn_New (c : Cfg) (H : Heap) : callW P f_plain_New [.agg c.v] H = if c.chk = 0 ∧ c.mode = 0 then some (.tup [.ptr (H.length + 1) 0 11, ai 0], PW c.queue (H ++ [.other, .other]) H.length (H.length + 1) ⟨c.queue.toNat, [], 0, 0⟩ true) else some (.tup [.c (.pointer none), ai (if c.chk ≠ 0 then (c.chk : Int) else 9)], H) := by
  have hC := fun H => pdu_Check c H
  by_cases h1 : c.chk = 0
  · by_cases h2 : c.mode = 0
    · rw [if_pos ⟨h1, h2⟩]
      rw [h1] at hC
      obtain ⟨hqr, hc⟩ := cfg_tm h1 h2
      have hN := q_New c.queue H
      rw [if_pos hqr] at hN
      have hsh : PW c.queue (H ++ [.other, .other]) H.length (H.length + 1) ⟨c.queue.toNat, [], 0, 0⟩ true = H ++ [.row (qv ⟨c.queue.toNat, [], 0, 0⟩ true), .row (pw c.queue H.length)] := by
        simp [PW, QH, RC]
      rw [hsh]
      obtain ⟨mo, bi, wi, re, pr, ph, pp, pb, mr, qu⟩ := c
      simp only [Cfg.mk.injEq] at hc
      obtain ⟨rfl, rfl, rfl, rfl, rfl, rfl, rfl, rfl, rfl, _⟩ := hc
      simp only [Cfg.v, pw] at *
      generalize qv ⟨qu.toNat, [], 0, 0⟩ true = Q at *
      rw [call_L 5 rfl (rfl : P.T f_plain_New = some F_plain_New) (le_ok rfl)]; simp -implicitDefEqProofs [-toCells, -AV.one, -forget, F_plain_New, c_plain_New, hC, hN]
    · rw [if_neg (fun h => h2 h.2), if_neg (by omega)]
      rw [h1] at hC
      obtain ⟨mo, bi, wi, re, pr, ph, pp, pb, mr, qu⟩ := c
      simp only [Cfg.v] at *
      rw [call_L 5 rfl (rfl : P.T f_plain_New = some F_plain_New) (le_ok rfl)]; simp -implicitDefEqProofs [-toCells, -AV.one, -forget, F_plain_New, c_plain_New, hC, h2]
  · rw [if_neg (fun h => h1 h.1), if_pos h1]
    obtain ⟨e, he⟩ : ∃ x, c.chk = x := ⟨_, rfl⟩
    rw [he] at hC h1 ⊢
    have h1' : ¬ (e : Int) = 0 := by omega
    obtain ⟨mo, bi, wi, re, pr, ph, pp, pb, mr, qu⟩ := c
    simp only [Cfg.v] at *
    rw [call_L 5 rfl (rfl : P.T f_plain_New = some F_plain_New) (le_ok rfl)]; simp -implicitDefEqProofs [-toCells, -AV.one, -forget, F_plain_New, c_plain_New, hC, h1, h1']
theorem pn_Reset (h : Bt H rq rs) (hq : q.Ok) : callW P f_plain_Entity_Reset [.ptr rs 0 11] (PW N H rq rs q z) = some (lst true 1 (some 0) (uls q.ids), PW N H rq rs q.clear true) := by
  have hQ := pn_queue (q := q) (z := z) (N := N) h
  have hB := q_Clear (PW_lq (N := N) h) hq z
  rw [← PW_QH h, ← PW_QH h] at hB
  have hl := PW_len N H rq rs q z
  have hl2 := PW_len N H rq rs q.clear true
  have ht2 := PW_take N H rq rs q.clear true
  generalize PW N H rq rs q.clear true = G2 at *
  generalize PW N H rq rs q z = G at *
  rw [call_L 3 rfl (rfl : P.T f_plain_Entity_Reset = some F_plain_Entity_Reset) (le_ok rfl)]; simp -implicitDefEqProofs [-toCells, -AV.one, -forget, F_plain_Entity_Reset, c_plain_Entity_Reset, hQ, hB, hl, hl2, ht2]
end
/-! Nobody. -/
theorem q_nil_made (H : Heap) : callW P f_queue_Queue_made [.c (.pointer none)] H = some (ab false, H) := by
  rw [call_L 4 rfl (rfl : P.T f_queue_Queue_made = some F_queue_Queue_made) (le_ok rfl)]; simp -implicitDefEqProofs [-toCells, -AV.one, -forget, F_queue_Queue_made, c_queue_Queue_made]
theorem q_nil_Clear (H : Heap) : callW P f_queue_Queue_Clear [.c (.pointer none)] H = some (nilS, H) := by
  have h := q_IDs_nil
  have h2 := q_nil_made
  rw [call_L 5 rfl (rfl : P.T f_queue_Queue_Clear = some F_queue_Queue_Clear) (le_ok rfl)]; simp -implicitDefEqProofs [-toCells, -AV.one, -forget, F_queue_Queue_Clear, c_queue_Queue_Clear, h, h2]
theorem nb_queue (H : Heap) : callW P f_plain_Entity_queue [.c (.pointer none)] H = some (.c (.pointer none), H) := by
  rw [call_L 4 rfl (rfl : P.T f_plain_Entity_queue = some F_plain_Entity_queue) (le_ok rfl)]; simp -implicitDefEqProofs [-toCells, -AV.one, -forget, F_plain_Entity_queue, c_plain_Entity_queue]
theorem nb_Push (b : Bs) (H : Heap) : callW P f_plain_Entity_Push [.c (.pointer none), bv b] H = some (.tup [ul 0, ai 6], H) := by
  have h1 := nb_queue
  have h2 := q_nil_Push b
  rw [call_L 4 rfl (rfl : P.T f_plain_Entity_Push = some F_plain_Entity_Push) (le_ok rfl)]; simp -implicitDefEqProofs [-toCells, -AV.one, -forget, F_plain_Entity_Push, c_plain_Entity_Push, h1, h2]
theorem nb_Bytes (H : Heap) : callW P f_plain_Entity_Bytes [.c (.pointer none)] H = some (ai 0, H) := by
  have h1 := nb_queue
  have h2 := q_nil_Bytes
  rw [call_L 3 rfl (rfl : P.T f_plain_Entity_Bytes = some F_plain_Entity_Bytes) (le_ok rfl)]; simp -implicitDefEqProofs [-toCells, -AV.one, -forget, F_plain_Entity_Bytes, c_plain_Entity_Bytes, h1, h2]
theorem nb_Hear (b : Bs) (H : Heap) : callW P f_plain_Entity_Hear [.c (.pointer none), bv b] H = some (.tup [nilS, ai 6], H) := by
  have h1 := nb_queue
  rw [call_L 5 rfl (rfl : P.T f_plain_Entity_Hear = some F_plain_Entity_Hear) (le_ok rfl)]; simp -implicitDefEqProofs [-toCells, -AV.one, -forget, F_plain_Entity_Hear, c_plain_Entity_Hear, h1]
theorem nb_Build (H : Heap) : callW P f_plain_Entity_Build [.c (.pointer none), ai 1] H = some (.tup [nilS, ul 0, ai 6], H) := by
  obtain ⟨sc, hsc⟩ : ∃ t, sc0_plain_Entity_Build = t := ⟨_, rfl⟩
  have hJ : ∀ σ H, jumpW P f_plain_Entity_Build sc0_plain_Entity_Build 0 ⟨.goto 0, σ, H⟩ = (execW P f_plain_Entity_Build sc0_plain_Entity_Build σ H).bind (jumpW P f_plain_Entity_Build sc 0) := fun σ H => by rw [jumpW_eq, hsc]; rfl
  unfold sc0_plain_Entity_Build tsc0_plain_Entity_Build at hJ
  have h1 := nb_queue
  have h2 := q_nil_Front
  rw [call_L 6 rfl (rfl : P.T f_plain_Entity_Build = some F_plain_Entity_Build) (le_ok rfl)]; simp -implicitDefEqProofs [-toCells, -AV.one, -forget, F_plain_Entity_Build, c_plain_Entity_Build, hJ, sc0_plain_Entity_Build, tsc0_plain_Entity_Build, h1, h2]
section
variable {H : Heap} {rz : Nat}
theorem zr_queue (r0 : rdRow H rz 10 1 11 = some [.c (.pointer none)]) : callW P f_plain_Entity_queue [.ptr rz 0 11] H = some (.c (.pointer none), H) := by
  rw [call_L 4 rfl (rfl : P.T f_plain_Entity_queue = some F_plain_Entity_queue) (le_ok rfl)]; simp -implicitDefEqProofs [-toCells, -AV.one, -forget, F_plain_Entity_queue, c_plain_Entity_queue, r0]
theorem zr_Build (r0 : rdRow H rz 10 1 11 = some [.c (.pointer none)]) : callW P f_plain_Entity_Build [.ptr rz 0 11, ai 1] H = some (.tup [nilS, ul 0, ai 6], H) := by
  obtain ⟨sc, hsc⟩ : ∃ t, sc0_plain_Entity_Build = t := ⟨_, rfl⟩
  have hJ : ∀ σ H, jumpW P f_plain_Entity_Build sc0_plain_Entity_Build 0 ⟨.goto 0, σ, H⟩ = (execW P f_plain_Entity_Build sc0_plain_Entity_Build σ H).bind (jumpW P f_plain_Entity_Build sc 0) := fun σ H => by rw [jumpW_eq, hsc]; rfl
  unfold sc0_plain_Entity_Build tsc0_plain_Entity_Build at hJ
  have h1 := zr_queue r0
  have h2 := q_nil_Front
  rw [call_L 6 rfl (rfl : P.T f_plain_Entity_Build = some F_plain_Entity_Build) (le_ok rfl)]; simp -implicitDefEqProofs [-toCells, -AV.one, -forget, F_plain_Entity_Build, c_plain_Entity_Build, hJ, sc0_plain_Entity_Build, tsc0_plain_Entity_Build, h1, h2]
theorem zr_Discard (r0 : rdRow H rz 10 1 11 = some [.c (.pointer none)]) : callW P f_plain_Entity_Discard [.ptr rz 0 11, .c (.int .u64 1)] H = some (ai 6, H) := by
  have h1 := zr_queue r0
  have h2 : ∀ H, callW P f_queue_Queue_Discard [.c (.pointer none), .c (.int .u64 1)] H = some (ai 6, H) := q_nil_Discard 1
  rw [call_L 4 rfl (rfl : P.T f_plain_Entity_Discard = some F_plain_Entity_Discard) (le_ok rfl)]; simp -implicitDefEqProofs [-toCells, -AV.one, -forget, F_plain_Entity_Discard, c_plain_Entity_Discard, h1, h2]
theorem zr_Reset (r0 : rdRow H rz 10 1 11 = some [.c (.pointer none)]) : callW P f_plain_Entity_Reset [.ptr rz 0 11] H = some (nilS, H) := by
  have h1 := zr_queue r0
  have h2 := q_nil_Clear
  rw [call_L 3 rfl (rfl : P.T f_plain_Entity_Reset = some F_plain_Entity_Reset) (le_ok rfl)]; simp -implicitDefEqProofs [-toCells, -AV.one, -forget, F_plain_Entity_Reset, c_plain_Entity_Reset, h1, h2]
end
end Go.A.V.S

namespace Go.A.V.S
open Go Go.A
set_option linter.unusedSimpArgs false
set_option linter.unusedVariables false
section
variable {N : Int} {H : Heap} {rq rs : Nat} {q : QM} {z : Bool}
theorem pn_Build0 (h : Bt H rq rs) (hq : q.Ok) (hl0 : q.l = []) (g : Nat) (hg : g ≤ 4096) : callW P f_plain_Entity_Build [.ptr rs 0 11, ai g] (PW N H rq rs q z) = some (.tup [nilS, ul 0, ai 4], PW N H rq rs q z) := by
  obtain ⟨sc, hsc⟩ : ∃ t, sc0_plain_Entity_Build = t := ⟨_, rfl⟩
  have hJ : ∀ σ H, jumpW P f_plain_Entity_Build sc0_plain_Entity_Build 0 ⟨.goto 0, σ, H⟩ = (execW P f_plain_Entity_Build sc0_plain_Entity_Build σ H).bind (jumpW P f_plain_Entity_Build sc 0) := fun σ H => by rw [jumpW_eq, hsc]; rfl
  unfold sc0_plain_Entity_Build tsc0_plain_Entity_Build at hJ
  have hQ := pn_queue (N := N) (q := q) (z := z) h
  have hF := q_Front0 (PW_lq (N := N) h) hq z hl0
  rw [← PW_QH h] at hF
  have g0 : ¬ (g : Int) < 0 := by omega
  have g1 : ¬ (g : Int) > 4096 := by omega
  have g1' : ¬ (4096 : Int) < g := by omega
  have hl := PW_len N H rq rs q z
  have ht := PW_take N H rq rs q z
  generalize PW N H rq rs q z = G at *
  rw [call_L 6 rfl (rfl : P.T f_plain_Entity_Build = some F_plain_Entity_Build) (le_ok rfl)]; simp -implicitDefEqProofs [-toCells, -AV.one, -forget, F_plain_Entity_Build, c_plain_Entity_Build, hJ, sc0_plain_Entity_Build, tsc0_plain_Entity_Build, hQ, hF, g0, g1, g1', hl, ht]
theorem pn_Build1 (h : Bt H rq rs) (hq : q.Ok) (htk : q.taken = 0) {t : Nat × List Nat} {l : List (Nat × List Nat)} (hlq : q.l = t :: l) (g : Nat) (hg : g ≤ 4096) (hs : g < t.2.length) : callW P f_plain_Entity_Build [.ptr rs 0 11, ai g] (PW N H rq rs q z) = some (.tup [nilS, ul 0, ai 16], PW N H rq rs q z) := by
  obtain ⟨sc, hsc⟩ : ∃ t, sc0_plain_Entity_Build = t := ⟨_, rfl⟩
  have hJ : ∀ σ H, jumpW P f_plain_Entity_Build sc0_plain_Entity_Build 0 ⟨.goto 0, σ, H⟩ = (execW P f_plain_Entity_Build sc0_plain_Entity_Build σ H).bind (jumpW P f_plain_Entity_Build sc 0) := fun σ H => by rw [jumpW_eq, hsc]; rfl
  unfold sc0_plain_Entity_Build tsc0_plain_Entity_Build at hJ
  have hQ := pn_queue (N := N) (q := q) (z := z) h
  have hF := q_Front1 (PW_lq (N := N) h) hq z hlq
  rw [← PW_QH h, htk, List.drop_zero] at hF
  have hm := (hq.each t (by rw [hlq]; simp)).1
  have hlb := bv_len (false, t.2)
  simp only at hlb
  obtain ⟨m, hmm⟩ : ∃ x, t.2.length = x := ⟨_, rfl⟩
  rw [hmm] at hlb hs hm
  have g0 : ¬ (g : Int) < 0 := by omega
  have g1 : ¬ (g : Int) > 4096 := by omega
  have g1' : ¬ (4096 : Int) < g := by omega
  have m0 : ¬ (m : Int) = 0 := by omega
  have m1 : ¬ m = 0 := by omega
  have m2 : (m : Int) > g := by omega
  have m3 : (g : Int) < m := by omega
  have hl := PW_len N H rq rs q z
  have ht := PW_take N H rq rs q z
  generalize PW N H rq rs q z = G at *
  rw [call_L 6 rfl (rfl : P.T f_plain_Entity_Build = some F_plain_Entity_Build) (le_ok rfl)]; simp -implicitDefEqProofs [-toCells, -AV.one, -forget, F_plain_Entity_Build, c_plain_Entity_Build, hJ, sc0_plain_Entity_Build, tsc0_plain_Entity_Build, hQ, hF, g0, g1, g1', hlb, m0, m1, m2, m3, hs, hl, ht]
theorem pn_Build2 (h : Bt H rq rs) (hq : q.Ok) (htk : q.taken = 0) {t : Nat × List Nat} {l : List (Nat × List Nat)} (hlq : q.l = t :: l) (g : Nat) (hg : g ≤ 4096) (hs : t.2.length ≤ g) : ∃ z', callW P f_plain_Entity_Build [.ptr rs 0 11, ai g] (PW N H rq rs q z) = some (.tup [bv (false, t.2), ul t.1, ai 0], PW N H rq rs ⟨q.room, l, 0, q.last⟩ z') := by
  have hQ := pn_queue (N := N) (q := q) (z := z) h
  have r0 := PW_10 (N := N) (q := q) (z := z) h
  have hF := q_Front1 (PW_lq (N := N) h) hq z hlq
  rw [← PW_QH h, htk, List.drop_zero] at hF
  obtain ⟨z', hT⟩ := q_Take1 (PW_lq (N := N) h) hq z hlq (t.2.length : Nat)
  have hm := (hq.each t (by rw [hlq]; simp)).1
  have hRR : q.take (t.2.length : Nat) = (⟨q.room, l, 0, q.last⟩, t.2, true, 0) := by
    unfold QM.take; rw [hlq, htk]; simp only [List.drop_zero, Nat.sub_zero]
    rw [if_neg (by omega), if_neg (by omega)]
  rw [hRR, ← PW_QH h, ← PW_QH h] at hT
  refine ⟨z', ?_⟩
  have hlb := bv_len (false, t.2)
  simp only at hlb
  obtain ⟨m, hmm⟩ : ∃ x, t.2.length = x := ⟨_, rfl⟩
  rw [hmm] at hlb hs hm hT
  have g0 : ¬ (g : Int) < 0 := by omega
  have g1 : ¬ (g : Int) > 4096 := by omega
  have g1' : ¬ (4096 : Int) < g := by omega
  have m0 : ¬ (m : Int) = 0 := by omega
  have m1 : ¬ m = 0 := by omega
  have m2 : ¬ (m : Int) > g := by omega
  have m3 : ¬ (g : Int) < m := by omega
  have m4 : ¬ g < m := by omega
  have hl := PW_len N H rq rs q z
  have hl2 := PW_len N H rq rs ⟨q.room, l, 0, q.last⟩ z'
  have ht2 := PW_take N H rq rs ⟨q.room, l, 0, q.last⟩ z'
  have hbf : bv (false, t.2) = lst false 1 none (byteCs t.2) := rfl
  have hbf2 : bv (((0 : Nat) != 0), t.2) = lst false 1 none (byteCs t.2) := rfl
  rw [hbf] at hF hlb ⊢
  simp only [hbf2] at hT
  generalize PW N H rq rs ⟨q.room, l, 0, q.last⟩ z' = G2 at *
  generalize PW N H rq rs q z = G at *
  obtain ⟨t1, t2⟩ := t
  simp only at *
  have hbl : (byteCs t2).length = m := by rw [byteCs_len, hmm]
  have hbe : ¬ byteCs t2 = [] := fun h => by rw [h] at hbl; simp at hbl; omega
  rw [call_L 6 rfl (rfl : P.T f_plain_Entity_Build = some F_plain_Entity_Build) (le_ok rfl)]; simp -implicitDefEqProofs [-toCells, -AV.one, -forget, F_plain_Entity_Build, c_plain_Entity_Build, hbe, hbl, hQ, r0, hF, hT, g0, g1, g1', hlb, m0, m1, m2, m3, m4, hl, hl2, ht2]
end
end Go.A.V.S

namespace Go.A.V.S
open Go Go.A
set_option linter.unusedSimpArgs false
set_option linter.unusedVariables false
theorem d15_Hear_ok (b : Bs) (h0 : b.2.length ≠ 0) (h1 : b.2.length ≤ 1000) (H : Heap) : callW P f_R15_Hear [bv b] H = some (.tup [bv b, ai 0], H) := by
  have hlb := bv_len b
  obtain ⟨n, hn⟩ : ∃ y, b.2.length = y := ⟨_, rfl⟩
  rw [hn] at hlb h0 h1
  have n1 : ¬ (n : Int) = 0 := by omega
  have n2 : ¬ (1000 : Int) < n := by omega
  have n2' : ¬ (n : Int) > 1000 := by omega
  have n3 : ¬ 1000 < n := by omega
  rw [call_L 4 rfl (rfl : P.T f_R15_Hear = some F_R15_Hear) (le_ok rfl)]; simp -implicitDefEqProofs [-toCells, -AV.one, -forget, F_R15_Hear, c_R15_Hear, hlb, h0, n1, n2, n2', n3]
theorem d15_Hear_e (b : Bs) (e : Nat) (h : b.2.length = 0 ∧ e = 8 ∨ 1000 < b.2.length ∧ e = 2) (H : Heap) : callW P f_R15_Hear [bv b] H = some (.tup [nilS, ai e], H) := by
  have hlb := bv_len b
  rcases h with ⟨h, rfl⟩ | ⟨h, rfl⟩
  · rw [h] at hlb
    replace hlb : lenW (bv b) = some 0 := hlb
    rw [call_L 4 rfl (rfl : P.T f_R15_Hear = some F_R15_Hear) (le_ok rfl)]; simp -implicitDefEqProofs [-toCells, -AV.one, -forget, F_R15_Hear, c_R15_Hear, hlb]
  · obtain ⟨n, hn⟩ : ∃ y, b.2.length = y := ⟨_, rfl⟩
    rw [hn] at hlb h
    have n1 : ¬ (n : Int) = 0 := by omega
    have n1' : ¬ n = 0 := by omega
    have n2 : (1000 : Int) < n := by omega
    have n2' : (n : Int) > 1000 := by omega
    rw [call_L 4 rfl (rfl : P.T f_R15_Hear = some F_R15_Hear) (le_ok rfl)]; simp -implicitDefEqProofs [-toCells, -AV.one, -forget, F_R15_Hear, c_R15_Hear, hlb, n1, n1', n2, n2', h]
section
variable {H : Heap} {m r a b c : Nat} {x : RQ}
theorem d15_arg (g : Int) (h : g < 0 ∨ 4096 < g) (H : Heap) : callW P f_R15_Build [.ptr r 0 4, ai g] H = some (.tup [nilS, ul 0, ai 1], H) := by
  by_cases h0 : g < 0
  · rw [call_L 6 rfl (rfl : P.T f_R15_Build = some F_R15_Build) (le_ok rfl)]; simp -implicitDefEqProofs [-toCells, -AV.one, -forget, F_R15_Build, c_R15_Build, h0]
  · have h1 : g > 4096 := by omega
    have h1' : 4096 < g := by omega
    rw [call_L 6 rfl (rfl : P.T f_R15_Build = some F_R15_Build) (le_ok rfl)]; simp -implicitDefEqProofs [-toCells, -AV.one, -forget, F_R15_Build, c_R15_Build, h0, h1, h1']
theorem d15_none (h : DQ H m r a b c x) {q : QM} (hR : Rel q x) (hn : x.L.length ≤ 100000) (hl : q.l = []) (g : Int) (h0 : 0 ≤ g) (h1 : g ≤ 4096) : callW P f_R15_Build [.ptr r 0 4, ai g] H = some (.tup [nilS, ul 0, ai 4], H) := by
  have hf := hR.first
  rw [hl] at hf
  have hF := d_Front0 h (d_first_n h hn (fun j hj => hf j (by rw [← hR.n1]; exact hj)))
  have g0 : ¬ g < 0 := by omega
  have g1 : ¬ g > 4096 := by omega
  have g1' : ¬ 4096 < g := by omega
  rw [call_L 6 rfl (rfl : P.T f_R15_Build = some F_R15_Build) (le_ok rfl)]; simp -implicitDefEqProofs [-toCells, -AV.one, -forget, F_R15_Build, c_R15_Build, g0, g1, g1', hF]
theorem d15_grant (h : DQ H m r a b c x) {q : QM} (hR : Rel q x) (hn : x.L.length ≤ 100000) {t : Nat × List Nat} {l : List (Nat × List Nat)} (hl : q.l = t :: l) (htk : q.taken = 0) (g : Int) (h0 : 0 ≤ g) (h1 : g ≤ 4096) (h2 : g < t.2.length) : callW P f_R15_Build [.ptr r 0 4, ai g] H = some (.tup [nilS, ul 0, ai 16], H) := by
  have hf := hR.first
  rw [hl] at hf
  simp only at hf
  obtain ⟨i, f1, f2, f3, f4, f5, f6⟩ := hf
  rw [htk] at f6
  have hF := d_Front1 h hn f5 f6 (Nat.zero_le _) (d_first_i h hn f1 f2)
  rw [List.drop_zero] at hF
  replace hF : callW P f_R04_Queue_Front [.ptr r 0 4] H = some (.tup [ul (i + 1 : Nat), bv (false, t.2), ab false], H) := hF
  have hlb := bv_len (false, t.2)
  simp only at hlb
  obtain ⟨n, hnn⟩ : ∃ y, t.2.length = y := ⟨_, rfl⟩
  rw [hnn] at hlb h2
  obtain ⟨i1, hi1⟩ : ∃ y, i + 1 = y := ⟨_, rfl⟩
  rw [hi1] at hF
  have g0 : ¬ g < 0 := by omega
  have g1 : ¬ g > 4096 := by omega
  have g1' : ¬ 4096 < g := by omega
  have n0 : ¬ (i1 : Int) = 0 := by omega
  have n0' : ¬ i1 = 0 := by omega
  have n1 : (n : Int) > g := by omega
  have n1' : g < (n : Int) := by omega
  generalize t.2 = bd at *
  rw [call_L 6 rfl (rfl : P.T f_R15_Build = some F_R15_Build) (le_ok rfl)]; simp -implicitDefEqProofs [-toCells, -AV.one, -forget, F_R15_Build, c_R15_Build, g0, g1, g1', hF, n0, n0', hlb, n1, n1']
theorem d15_ok (h : DQ H m r a b c x) {q : QM} (hq : q.Ok) (hR : Rel q x) (hn : x.L.length ≤ 100000) {t : Nat × List Nat} {l : List (Nat × List Nat)} (hl : q.l = t :: l) (htk : q.taken = 0) (g : Int) (h1 : g ≤ 4096) (h2 : (t.2.length : Int) ≤ g) :
    ∃ x' H', DQ H' m r a b c x' ∧ Rel ⟨q.room, l, 0, q.last⟩ x' ∧ x'.L = x.L ∧ Beh m H H' ∧ callW P f_R15_Build [.ptr r 0 4, ai g] H = some (.tup [bv (false, t.2), ul t.1, ai 0], H') := by
  have hf := hR.first
  rw [hl] at hf
  simp only at hf
  obtain ⟨i, f1, f2, f3, f4, f5, f6⟩ := hf
  rw [htk] at f6
  have ht := hq.each t (by rw [hl]; simp)
  have hfi := d_first_i h hn f1 f2
  have hF := d_Front1 h hn f5 f6 (Nat.zero_le _) hfi
  rw [List.drop_zero] at hF
  replace hF : callW P f_R04_Queue_Front [.ptr r 0 4] H = some (.tup [ul (i + 1 : Nat), bv (false, t.2), ab false], H) := hF
  obtain ⟨H', d1, d2, d3, hT⟩ := d_Take_at h hn f5 f6 f1 hfi ht.2.1 ht.1 (by omega : 0 + t.2.length ≤ t.2.length)
  have e1 : decide (0 + t.2.length = t.2.length) = true := decide_eq_true (by omega)
  rw [e1] at d1 hT
  rw [List.drop_zero, List.take_length] at hT
  refine ⟨_, H', d1, hR.take2 hl f1 f2 _, rfl, d2, ?_⟩
  have ht1 : t.1 = i + 1 := by rw [f4]
  rw [ht1]
  have hlb := bv_len (false, t.2)
  simp only at hlb
  have ht' : H'.take H.length = H' := List.take_of_length_le (by omega)
  obtain ⟨n, hnn⟩ : ∃ y, t.2.length = y := ⟨_, rfl⟩
  rw [hnn] at hlb h2 hT
  obtain ⟨i1, hi1⟩ : ∃ y, i + 1 = y := ⟨_, rfl⟩
  rw [hi1] at hF ⊢
  have g0 : ¬ g < 0 := by omega
  have g1 : ¬ g > 4096 := by omega
  have g1' : ¬ 4096 < g := by omega
  have n0 : ¬ (i1 : Int) = 0 := by omega
  have n0' : ¬ i1 = 0 := by omega
  have n1 : ¬ (n : Int) > g := by omega
  have n1' : ¬ g < (n : Int) := by omega
  clear d1 d2 f1 f2 f5 f6 hl ht f4 ht1 hnn e1
  generalize t.2 = bd at *
  rw [call_L 6 rfl (rfl : P.T f_R15_Build = some F_R15_Build) (le_ok rfl)]; simp -implicitDefEqProofs [-toCells, -AV.one, -forget, F_R15_Build, c_R15_Build, g0, g1, g1', hF, n0, n0', hlb, n1, n1', hT, d3, ht']
end
section
variable {N : Int} {H : Heap} {rq rs : Nat} {q : QM} {z : Bool}
theorem pn_BuildA (h : Bt H rq rs) (hq : q.Ok) (g : Int) (hg : g < 0 ∨ 4096 < g) : callW P f_plain_Entity_Build [.ptr rs 0 11, ai g] (PW N H rq rs q z) = some (.tup [nilS, ul 0, ai 1], PW N H rq rs q z) := by
  obtain ⟨sc, hsc⟩ : ∃ t, sc0_plain_Entity_Build = t := ⟨_, rfl⟩
  have hJ : ∀ σ H, jumpW P f_plain_Entity_Build sc0_plain_Entity_Build 0 ⟨.goto 0, σ, H⟩ = (execW P f_plain_Entity_Build sc0_plain_Entity_Build σ H).bind (jumpW P f_plain_Entity_Build sc 0) := fun σ H => by rw [jumpW_eq, hsc]; rfl
  unfold sc0_plain_Entity_Build tsc0_plain_Entity_Build at hJ
  have hQ := pn_queue (N := N) (q := q) (z := z) h
  have hF : ∃ i w t, callW P f_queue_Queue_Front [.ptr rq 0 5] (PW N H rq rs q z) = some (.tup [ul i, lst w 1 none t, ab (decide (0 < q.taken))], PW N H rq rs q z) := by
    cases hl : q.l with
    | nil =>
      have hF := q_Front0 (PW_lq (N := N) h) hq z hl
      rw [← PW_QH h] at hF
      rw [hq.top hl]
      exact ⟨0, true, [], hF⟩
    | cons t l =>
      have hF := q_Front1 (PW_lq (N := N) h) hq z hl
      rw [← PW_QH h] at hF
      exact ⟨_, _, _, hF⟩
  obtain ⟨i, w, t, hF⟩ := hF
  have hl := PW_len N H rq rs q z
  have ht := PW_take N H rq rs q z
  generalize PW N H rq rs q z = G at *
  generalize decide (0 < q.taken) = tk at *
  by_cases h0 : g < 0
  · rw [call_L 6 rfl (rfl : P.T f_plain_Entity_Build = some F_plain_Entity_Build) (le_ok rfl)]; simp -implicitDefEqProofs [-toCells, -AV.one, -forget, F_plain_Entity_Build, c_plain_Entity_Build, hJ, sc0_plain_Entity_Build, tsc0_plain_Entity_Build, hQ, hF, h0, hl, ht]
  · have h1 : g > 4096 := by omega
    have h1' : 4096 < g := by omega
    rw [call_L 6 rfl (rfl : P.T f_plain_Entity_Build = some F_plain_Entity_Build) (le_ok rfl)]; simp -implicitDefEqProofs [-toCells, -AV.one, -forget, F_plain_Entity_Build, c_plain_Entity_Build, hJ, sc0_plain_Entity_Build, tsc0_plain_Entity_Build, hQ, hF, h0, h1, h1', hl, ht]
end
end Go.A.V.S
