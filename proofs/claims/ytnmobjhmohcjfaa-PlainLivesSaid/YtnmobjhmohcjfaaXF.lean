/- queue: Discard. -/
import Derived.Test.YtnmobjhmohcjfaaXE
import Derived.Test.YtnmobjhmohcjfaaXA
set_option linter.unusedSimpArgs false
set_option linter.unusedVariables false
set_option linter.unnecessarySimpa false
namespace Go.A.V.S
open Go Go.A
set_option linter.unusedSimpArgs false
set_option linter.unusedVariables false
section
variable {H : Heap} {r : Nat}
theorem okCell_lst (z : Bool) (k : Nat) (f : Option Nat) (l : List (List AV)) : okCell (lst z k f l) = true := by
  rcases lst_cases z k f l with ⟨_, _, e⟩ | ⟨e, _⟩ <;> rw [e] <;> rfl
def InvD (H : Heap) (r : Nat) (q : QM) (z : Bool) (id : Nat) (zz : Nat) (σ : List AV) (G : Heap) : Prop :=
  ∃ i : Nat, i + zz = q.l.length ∧ (∀ j t, j < i → q.l[j]? = some t → t.1 ≠ id) ∧ G = QH H r q z ∧ σ = L 74 ((((Tr.full 7).put (path 0) (.ptr r 0 5)).put (path 1) (ul id)).put (path 5) (ai i))
/-- The heap is that of the queue, and some more. -/
def QX (H : Heap) (r : Nat) (q : QM) (G : Heap) : Prop := ∃ z' k, G = QH H r q z' ++ List.replicate k .other
def PostD (H : Heap) (r : Nat) (q : QM) (id : Nat) (e : AExit) (σ : List AV) (G : Heap) : Prop :=
  e = .ret ∧ resultsA F_queue_Queue_Discard.res σ = some (ai ((q.discard id).2 : Nat)) ∧ QX H r (q.discard id).1 G
theorem find_none {l : List (Nat × List Nat)} {id : Nat} (h : ∀ j t, j < l.length → l[j]? = some t → t.1 ≠ id) : (l.findIdx? fun t => t.1 == id) = none := by
  rw [List.findIdx?_eq_none_iff]
  intro t ht
  obtain ⟨j, hj⟩ := List.getElem?_of_mem ht
  have := h j t (List.getElem?_eq_some_iff.1 hj).1 hj
  simpa using this
theorem find_some {l : List (Nat × List Nat)} {id i : Nat} {t : Nat × List Nat} (h : ∀ j t, j < i → l[j]? = some t → t.1 ≠ id) (hi : l[i]? = some t) (ht : t.1 = id) : (l.findIdx? fun t => t.1 == id) = some i := by
  rw [List.findIdx?_eq_some_iff_getElem]
  have hlt := (List.getElem?_eq_some_iff.1 hi).1
  refine ⟨hlt, ?_, fun j hj => ?_⟩
  · have := (List.getElem?_eq_some_iff.1 hi).2
    rw [this]; simpa using ht
  · have := h j l[j] hj (List.getElem?_eq_getElem (by omega))
    simpa using this
set_option maxHeartbeats 2000000 in
theorem disc_tail (hlt : r < H.length) {q : QM} (hq : q.Ok) (z : Bool) {id : Nat} (zz : Nat) (σ : List AV) (G : Heap) (hI : InvD H r q z id zz (kill (headK tsc0_queue_Queue_Discard) σ) G) :
    Ends ((execW P f_queue_Queue_Discard tsc0_queue_Queue_Discard σ G).bind (jumpW P f_queue_Queue_Discard sc0_queue_Queue_Discard 0)) fun s => PostD H r q id s.e s.σ s.H := by
  refine scope_ends (InvD H r q z id) (PostD H r q id) rfl ?_ zz σ G hI
  clear hI zz σ G
  rintro zz σ G ⟨i, hz, hall, rfl, hσ⟩
  rw [← execW_head, hσ]
  have hlw : lenW (lst z 2 none (txs q.l)) = some q.l.length := by rw [lenW_lst, txs_len]
  have hln := hq.len
  have hqd : ∀ x, q.find id = x → q.discard id = match x with
    | none => (q, 4)
    | some i => if i = 0 ∧ 0 < q.taken then (q, 7) else (⟨q.room, q.l.eraseIdx i, q.taken, q.last⟩, 0) := fun x hx => by unfold QM.discard; rw [hx]; cases x <;> rfl
  rw [QH_QC]
  have r1 := QC_1 (room := q.room) (l := lst z 2 none (txs q.l)) (taken := q.taken) (last := q.last) (bytes := q.bytes) hlt
  have r2 := QC_2 (room := q.room) (l := lst z 2 none (txs q.l)) (taken := q.taken) (last := q.last) (bytes := q.bytes) hlt
  by_cases hi : i = q.l.length
  · have hfd : q.find id = none := find_none (fun j t hj h => hall j t (by omega) h)
    have hR := hqd _ hfd
    simp only at hR
    have hi' : (i : Int) = q.l.length := by omega
    unfold PostD
    rw [hR]
    simp only
    rw [← hi] at hlw
    generalize hG : QC H r q.room (lst z 2 none (txs q.l)) q.taken q.last q.bytes = G at *
    simp -implicitDefEqProofs [-toCells, -AV.one, -forget, c_queue_Queue_Discard, tsc0_queue_Queue_Discard, r1, hlw]
    exact ⟨by simp [F_queue_Queue_Discard], z, 0, by rw [QH_QC, hG]; simp⟩
  · have hi' : ¬ (i : Int) = q.l.length := by omega
    obtain ⟨t, ht⟩ : ∃ t, q.l[i]? = some t := ⟨_, List.getElem?_eq_getElem (by omega)⟩
    have q1 := txs_at ht z none .i64
    by_cases hid : t.1 = id
    · have hfd : q.find id = some i := find_some hall ht hid
      have hR := hqd _ hfd
      simp only at hR
      have hid' : (t.1 : Int) = id := by omega
      have hx := hq.each t (List.mem_of_getElem? ht)
      have n0 : ¬ i = q.l.length := hi
      by_cases hst : i = 0 ∧ 0 < q.taken
      · rw [if_pos hst] at hR
        obtain ⟨rfl, h0⟩ := hst
        have h0' : (q.taken : Int) > 0 := by omega
        have h0'' : (0 : Int) < q.taken := by omega
        unfold PostD
        rw [hR]
        simp only
        obtain ⟨n, hn⟩ : ∃ x, q.l.length = x := ⟨_, rfl⟩
        rw [hn] at hi hi' hlw n0
        have n1 : ¬ (0 : Int) = n := by omega
        generalize hG : QC H r q.room (lst z 2 none (txs q.l)) q.taken q.last q.bytes = G at *
        replace q1 : iaddrW 2 none (lst z 2 none (txs q.l)) (ai 0) = some (.vp [ul t.1, bv (false, t.2)] 0) := q1
        simp -implicitDefEqProofs [-toCells, -AV.one, -forget, c_queue_Queue_Discard, tsc0_queue_Queue_Discard, r1, r2, hlw, n0, n1, q1, hid, hid', h0, h0', h0'']
        exact ⟨by simp [F_queue_Queue_Discard], z, 0, by rw [QH_QC, hG]; simp⟩
      · rw [if_neg hst] at hR
        unfold PostD
        rw [hR]
        simp only
        have hte := tot_erase _ _ _ ht
        have hby2 : ((⟨q.room, q.l.eraseIdx i, q.taken, q.last⟩ : QM).bytes : Int) = (q.bytes : Int) - t.2.length := by
          have e1 : q.bytes = tot q.l - q.taken := rfl
          have e2 : (⟨q.room, q.l.eraseIdx i, q.taken, q.last⟩ : QM).bytes = tot (q.l.eraseIdx i) - q.taken := rfl
          have hok := QM.discard_ok hq id
          rw [hR] at hok
          have := hok.taken_le
          simp only at this
          omega
        obtain ⟨n, hn⟩ : ∃ x, q.l.length = x := ⟨_, rfl⟩
        have r4 := QC_4 (room := q.room) (l := lst z 2 none (txs q.l)) (taken := q.taken) (last := q.last) (bytes := q.bytes) hlt
        obtain ⟨bl, hbl⟩ : ∃ x, t.2.length = x := ⟨_, rfl⟩
        have hlb : lenW (bv (false, t.2)) = some bl := by rw [bv_len]; simp only; rw [hbl]
        have htl := hq.tot_le
        have hbyl : q.bytes ≤ 64000 := by have e1 : q.bytes = tot q.l - q.taken := rfl; omega
        have w4 : IntKind.i64.wrap ((q.bytes : Int) - bl) = (q.bytes : Int) - bl := wrap_i64 (by omega) (by omega)
        rw [hbl] at hby2
        have s4 := QC_s4 (room := q.room) (l := lst z 2 none (txs q.l)) (taken := q.taken) (last := q.last) (bytes := q.bytes) hlt ((q.bytes : Int) - bl)
        have a1 := QC_1 (room := q.room) (l := lst z 2 none (txs q.l)) (taken := q.taken) (last := q.last) (bytes := (q.bytes : Int) - bl) hlt
        have w1 : IntKind.i64.wrap ((i : Int) + 1) = ((i + 1 : Nat) : Int) := by rw [wrap_i64 (by omega) (by omega)]; omega
        have c1 := fun d => cutV_lst z 2 none d (txs q.l) (lo := none) (hi := some (ai i)) (i := 0) (j := i) (.inl ⟨rfl, rfl⟩) (.inr ⟨.i64, rfl⟩) (by omega) (by rw [txs_len]; omega)
        have c2 := fun d => cutV_lst z 2 none d (txs q.l) (lo := some (ai (i + 1 : Nat))) (hi := none) (i := i + 1) (j := n) (.inr ⟨.i64, rfl⟩) (.inl ⟨rfl, by rw [txs_len, hn]⟩) (by omega) (by rw [txs_len]; omega)
        have ne : q.l ≠ [] := fun e => by rw [e] at ht; simp at ht
        have e1 : cutL z 2 none (txs q.l) 0 i = lst false 2 none (txs (q.l.take i)) := by
          have : (txs q.l).isEmpty = false := by simp [txs, ne]
          simp only [cutL, this, Bool.and_false, List.drop_zero]
          simp [txs, List.map_take]
        have e2 : cutL z 2 none (txs q.l) (i + 1) n = lst false 2 none (txs (q.l.drop (i + 1))) := by
          have : (txs q.l).isEmpty = false := by simp [txs, ne]
          simp only [cutL, this, Bool.and_false]
          rw [List.take_of_length_le (by rw [txs_len]; omega)]
          simp [txs, List.map_drop]
        rw [e1] at c1
        rw [e2] at c2
        obtain ⟨k, hcc⟩ := Concat2 (za := false) (zb := false) (la := q.l.take i) (lb := q.l.drop (i + 1)) (by rw [List.length_take]; omega) (by rw [List.length_drop]; omega) (QC H r q.room (lst z 2 none (txs q.l)) q.taken q.last ((q.bytes : Int) - bl))
        have e3 : q.l.take i ++ q.l.drop (i + 1) = q.l.eraseIdx i := (List.eraseIdx_eq_take_drop_succ _ _).symm
        rw [e3] at hcc
        have hQX : ∀ σ, storeA σ (QC H r q.room (lst z 2 none (txs q.l)) q.taken q.last ((q.bytes : Int) - bl) ++ List.replicate k .other) none (.ptr r 1 5) (lst true 2 none (txs (q.l.eraseIdx i))) = some (σ, QH H r ⟨q.room, q.l.eraseIdx i, q.taken, q.last⟩ true ++ List.replicate k .other) := fun σ => by
          rw [QC, RC_app hlt]
          have := QC_s1 (H := H ++ List.replicate k .other) (r := r) (room := q.room) (l := lst z 2 none (txs q.l)) (taken := q.taken) (last := q.last) (bytes := (q.bytes : Int) - bl) (by simp; omega) (lst true 2 none (txs (q.l.eraseIdx i))) (okCell_lst _ _ _ _) σ
          rw [QC] at this
          rw [this, QH_QC, hby2, QC, QC, RC_app hlt]
        replace hcc : callW P f_slices_Concat_squeue_text_queue_text [.vs 1 none [[.vs 2 none (txs (q.l.take i))], [.vs 2 none (txs (q.l.drop (i + 1)))]]] _ = _ := hcc
        obtain ⟨i1, hi1⟩ : ∃ i1, i + 1 = i1 := ⟨_, rfl⟩
        rw [hi1] at w1 c2 hcc
        rw [hn] at hi hi' hlw n0
        have hlenQ : ∀ by', (QC H r q.room (lst z 2 none (txs q.l)) q.taken q.last by').length = H.length := fun _ => QC_len _ _ _ _ _ _ _
        by_cases hi0 : i = 0
        · have h0 : ¬ 0 < q.taken := fun h => hst ⟨hi0, h⟩
          have h0' : ¬ (q.taken : Int) > 0 := by omega
          have h0'' : ¬ (0 : Int) < q.taken := by omega
          subst hi0
          obtain rfl : i1 = 1 := by omega
          replace q1 : iaddrW 2 none (lst z 2 none (txs q.l)) (ai 0) = some (.vp [ul t.1, bv (false, t.2)] 0) := q1
          replace c1 : ∀ d, cutV 2 d (lst z 2 none (txs q.l)) none (some (ai 0)) none = some (.vs 2 none (txs (q.l.take 0))) := c1
          replace c2 : ∀ d, cutV 2 d (lst z 2 none (txs q.l)) (some (ai 1)) none none = some (.vs 2 none (txs (q.l.drop 1))) := c2
          generalize q.l.take 0 = lA at *
          generalize q.l.drop 1 = lB at *
          generalize q.l.eraseIdx 0 = lE at *
          have w1' : IntKind.i64.wrap 1 = 1 := rfl
          have m0 : ¬ (0 : Int) = n := by omega
          have m0' : ¬ 0 = n := by omega
          simp -implicitDefEqProofs [-toCells, -AV.one, -forget, c_queue_Queue_Discard, keepB, -goodB, goodB_L, sameV, dstNot, dstNe, SOpG.reads, SOp.slots, SX.slots, SOp.noL, rdV_load, selfE_lst, selfE, selfEs, eqV, tsc0_queue_Queue_Discard, r1, r2, r4, hlw, m0, m0', q1, hid, hid', h0, h0', h0'', hlb, w4, s4, a1, w1', c1, c2, hcc, hQX]
          exact ⟨by simp [F_queue_Queue_Discard], true, k, rfl⟩
        · have hii : ¬ (i : Int) = 0 := by omega
          simp -implicitDefEqProofs [-toCells, -AV.one, -forget, c_queue_Queue_Discard, keepB, -goodB, goodB_L, sameV, dstNot, dstNe, SOpG.reads, SOp.slots, SX.slots, SOp.noL, rdV_load, selfE_lst, selfE, selfEs, eqV, tsc0_queue_Queue_Discard, r1, r2, r4, hlw, hi, hi', n0, q1, hid, hid', hi0, hii, hlb, w4, s4, a1, w1, c1, c2, hcc, hQX]
          exact ⟨by simp [F_queue_Queue_Discard], true, k, rfl⟩
    · have hid' : ¬ (t.1 : Int) = id := by omega
      have w1 : IntKind.i64.wrap ((i : Int) + 1) = ((i + 1 : Nat) : Int) := by rw [wrap_i64 (by omega) (by omega)]; omega
      obtain ⟨i1, hi1⟩ : ∃ i1, i + 1 = i1 := ⟨_, rfl⟩
      rw [hi1] at w1
      obtain ⟨n, hn⟩ : ∃ x, q.l.length = x := ⟨_, rfl⟩
      rw [hn] at hi hi' hlw
      rw [show InvD H r q z id = InvD H r q z id from rfl]
      generalize hG : QC H r q.room (lst z 2 none (txs q.l)) q.taken q.last q.bytes = G at *
      simp -implicitDefEqProofs [-toCells, -AV.one, -forget, c_queue_Queue_Discard, tsc0_queue_Queue_Discard, r1, hlw, hi, hi', q1, hid, hid', w1]
      refine ⟨zz - 1, by omega, i1, by omega, fun j x hj hx => ?_, by rw [QH_QC, hG], by simp⟩
      by_cases hji : j < i
      · exact hall j x hji hx
      · obtain rfl : j = i := by omega
        rw [ht] at hx
        obtain rfl := Option.some.inj hx
        exact hid
end
end Go.A.V.S

namespace Go.A.V.S
open Go Go.A
set_option linter.unusedSimpArgs false
set_option linter.unusedVariables false
section
variable {H : Heap} {r : Nat}
theorem q_Discard (hlt : r < H.length) {q : QM} (hq : q.Ok) (z : Bool) (id : Nat) : ∃ z' k, callW P f_queue_Queue_Discard [.ptr r 0 5, ul id] (QH H r q z) = some (ai ((q.discard id).2 : Nat), QH H r (q.discard id).1 z' ++ List.replicate k .other) := by
  suffices hs : Ends (callW P f_queue_Queue_Discard [.ptr r 0 5, ul id] (QH H r q z)) fun y => ∃ z' k, y = (ai ((q.discard id).2 : Nat), QH H r (q.discard id).1 z' ++ List.replicate k .other) by
    obtain ⟨y, h1, z', k, rfl⟩ := hs
    exact ⟨z', k, h1⟩
  have hm := q_made hlt hq.room.1 z
  refine call_post 7 74 rfl (rfl : P.T f_queue_Queue_Discard = some F_queue_Queue_Discard) rfl (le_ok rfl) (PostD H r q id) ?_ ?_
  · rintro e σ G ⟨rfl, h2, z', k, rfl⟩
    refine ⟨rfl, _, h2, rfl, ?_⟩
    have hl : (QH H r (q.discard id).1 z').length = H.length := QH_len _ _ _ _
    have ht : (QH H r (q.discard id).1 z').take H.length = QH H r (q.discard id).1 z' := QH_take _ _ _ _
    refine ⟨_, ?_, z', k, rfl⟩
    simp only [K_queue_Queue_Discard, C_queue_Queue_Discard, finish_n, frz_c, Option.map_some, QH_len]
    rw [List.take_append_of_le_length (by rw [hl]; exact Nat.le_refl _), ht, List.length_append, hl, List.length_replicate, Nat.add_sub_cancel_left]
    rfl
  have hlt' := hlt
  have hQ : QH H r q z = QH H r q z := rfl
  generalize hG : QH H r q z = G at hm hQ ⊢
  rw [F_queue_Queue_Discard]; simp -implicitDefEqProofs [-toCells, -AV.one, -forget, c_queue_Queue_Discard, hm]
  refine disc_tail hlt hq z q.l.length _ _ ?_
  exact ⟨0, by omega, fun j t hj => by omega, by rw [hG], by simp [tsc0_queue_Queue_Discard]⟩
theorem q_nil_Push (b : Bs) (H : Heap) : callW P f_queue_Queue_Push [.c (.pointer none), bv b] H = some (.tup [ul 0, ai 6], H) := by
  have hm := q_made_nil H
  rw [call_L 7 rfl (rfl : P.T f_queue_Queue_Push = some F_queue_Queue_Push) (le_ok rfl)]; simp -implicitDefEqProofs [-toCells, -AV.one, -forget, F_queue_Queue_Push, c_queue_Queue_Push, hm]
theorem q_nil_Discard (id : Nat) (H : Heap) : callW P f_queue_Queue_Discard [.c (.pointer none), ul id] H = some (ai 6, H) := by
  have hm := q_made_nil H
  rw [call_L 7 rfl (rfl : P.T f_queue_Queue_Discard = some F_queue_Queue_Discard) (le_ok rfl)]; simp -implicitDefEqProofs [-toCells, -AV.one, -forget, F_queue_Queue_Discard, c_queue_Queue_Discard, hm]
theorem q_nil_Bytes (H : Heap) : callW P f_queue_Queue_Bytes [.c (.pointer none)] H = some (ai 0, H) := by
  rw [call_L 4 rfl (rfl : P.T f_queue_Queue_Bytes = some F_queue_Queue_Bytes) (le_ok rfl)]; simp -implicitDefEqProofs [-toCells, -AV.one, -forget, F_queue_Queue_Bytes, c_queue_Queue_Bytes]
theorem q_nil_Front (H : Heap) : callW P f_queue_Queue_Front [.c (.pointer none)] H = some (.tup [ul 0, nilS, ab false], H) := by
  have hm := q_made_nil H
  rw [call_L 6 rfl (rfl : P.T f_queue_Queue_Front = some F_queue_Queue_Front) (le_ok rfl)]; simp -implicitDefEqProofs [-toCells, -AV.one, -forget, F_queue_Queue_Front, c_queue_Queue_Front, hm]
end
end Go.A.V.S
