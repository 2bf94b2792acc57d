/- queue: Discard. -/
import Derived.Test.YtnmobjhmohcjfaaXE
import Derived.Test.YtnmobjhmohcjfaaXA
set_option linter.unusedSimpArgs false
set_option linter.unusedVariables false
set_option linter.unnecessarySimpa false
namespace Go.A.V.S
open Go Go.A
set_option linter.unusedSimpArgs false
set_option linter.unusedVariables false
section
variable {H : Heap} {r : Nat}
theorem okCell_lst (z : Bool) (k : Nat) (f : Option Nat) (l : List (List AV)) : okCell (lst z k f l) = true := by
  rcases lst_cases z k f l with ⟨_, _, e⟩ | ⟨e, _⟩ <;> rw [e] <;> rfl
def InvD (H : Heap) (r : Nat) (q : QM) (z : Bool) (id : Nat) (zz : Nat) (σ : List AV) (G : Heap) : Prop :=
  ∃ i : Nat, i + zz = q.l.length ∧ (∀ j t, j < i → q.l[j]? = some t → t.1 ≠ id) ∧ G = QH H r q z ∧ σ = L 74 ((((Tr.full 7).put (path 0) (.ptr r 0 5)).put (path 1) (ul id)).put (path 5) (ai i))
/-- The heap is that of the queue, and some more. -/
def QX (H : Heap) (r : Nat) (q : QM) (G : Heap) : Prop := ∃ z' k, G = QH H r q z' ++ List.replicate k .other
def PostD (H : Heap) (r : Nat) (q : QM) (id : Nat) (e : AExit) (σ : List AV) (G : Heap) : Prop :=
  e = .ret ∧ resultsA F_queue_Queue_Discard.res σ = some (ai ((q.discard id).2 : Nat)) ∧ QX H r (q.discard id).1 G
theorem find_none {l : List (Nat × List Nat)} {id : Nat} (h : ∀ j t, j < l.length → l[j]? = some t → t.1 ≠ id) : (l.findIdx? fun t => t.1 == id) = none := by
  rw [List.findIdx?_eq_none_iff]
  intro t ht
  obtain ⟨j, hj⟩ := List.getElem?_of_mem ht
  have := h j t (List.getElem?_eq_some_iff.1 hj).1 hj
  simpa using this
theorem find_some {l : List (Nat × List Nat)} {id i : Nat} {t : Nat × List Nat} (h : ∀ j t, j < i → l[j]? = some t → t.1 ≠ id) (hi : l[i]? = some t) (ht : t.1 = id) : (l.findIdx? fun t => t.1 == id) = some i := by
  rw [List.findIdx?_eq_some_iff_getElem]
  have hlt := (List.getElem?_eq_some_iff.1 hi).1
  refine ⟨hlt, ?_, fun j hj => ?_⟩
  · have := (List.getElem?_eq_some_iff.1 hi).2
    rw [this]; simpa using ht
  · have := h j l[j] hj (List.getElem?_eq_getElem (by omega))
    simpa using this
set_option maxHeartbeats 2000000 in
theorem disc_tail (hlt : r < H.length) {q : QM} (hq : q.Ok) (z : Bool) {id : Nat} (zz : Nat) (σ : List AV) (G : Heap) (hI : InvD H r q z id zz (kill (headK tsc0_queue_Queue_Discard) σ) G) :
    Ends ((execW P f_queue_Queue_Discard tsc0_queue_Queue_Discard σ G).bind (jumpW P f_queue_Queue_Discard sc0_queue_Queue_Discard 0)) fun s => PostD H r q id s.e s.σ s.H := by
  refine scope_ends (InvD H r q z id) (PostD H r q id) rfl ?_ zz σ G hI
  clear hI zz σ G
  rintro zz σ G ⟨i, hz, hall, rfl, hσ⟩
  rw [← execW_head, hσ]
  have hlw : lenW (lst z 2 none (txs q.l)) = some q.l.length := by rw [lenW_lst, txs_len]
  have hln := hq.len
  have hqd : ∀ x, q.find id = x → q.discard id = match x with
    | none => (q, 4)
    | some i => if i = 0 ∧ 0 < q.taken then (q, 7) else (⟨q.room, q.l.eraseIdx i, q.taken, q.last⟩, 0) := fun x hx => by unfold QM.discard; rw [hx]; cases x <;> rfl
  rw [QH_QC]
  have r1 := QC_1 (room := q.room) (l := lst z 2 none (txs q.l)) (taken := q.taken) (last := q.last) (bytes := q.bytes) hlt
  have r2 := QC_2 (room := q.room) (l := lst z 2 none (txs q.l)) (taken := q.taken) (last := q.last) (bytes := q.bytes) hlt
  by_cases hi : i = q.l.length
  · have hfd : q.find id = none := find_none (fun j t hj h => hall j t (by omega) h)
    have hR := hqd _ hfd
    simp only at hR
    have hi' : (i : Int) = q.l.length := by omega
    unfold PostD
    rw [hR]
    simp only
    rw [← hi] at hlw
    generalize hG : QC H r q.room (lst z 2 none (txs q.l)) q.taken q.last q.bytes = G at *
    simp -implicitDefEqProofs [-toCells, -AV.one, -forget, c_queue_Queue_Discard, tsc0_queue_Queue_Discard, r1, hlw]
    exact ⟨by simp [F_queue_Queue_Discard], z, 0, by rw [QH_QC, hG]; simp⟩
  · have hi' : ¬ (i : Int) = q.l.length := by omega
    obtain ⟨t, ht⟩ : ∃ t, q.l[i]? = some t := ⟨_, List.getElem?_eq_getElem (by omega)⟩
    have q1 := txs_at ht z none .i64
    by_cases hid : t.1 = id
    · have hfd : q.find id = some i := find_some hall ht hid
      have hR := hqd _ hfd
      simp only at hR
      have hid' : (t.1 : Int) = id := by omega
      have hx := hq.each t (List.mem_of_getElem? ht)
      have n0 : ¬ i = q.l.length := hi
      by_cases hst : i = 0 ∧ 0 < q.taken
      · rw [if_pos hst] at hR
        obtain ⟨rfl, h0⟩ := hst
        have h0' : (q.taken : Int) > 0 := by omega
        have h0'' : (0 : Int) < q.taken := by omega
        unfold PostD
        rw [hR]
        simp only
        obtain ⟨n, hn⟩ : ∃ x, q.l.length = x := ⟨_, rfl⟩
        rw [hn] at hi hi' hlw n0
        have n1 : ¬ (0 : Int) = n := by omega
        generalize hG : QC H r q.room (lst z 2 none (txs q.l)) q.taken q.last q.bytes = G at *
        replace q1 : iaddrW 2 none (lst z 2 none (txs q.l)) (ai 0) = some (.vp [ul t.1, bv (false, t.2)] 0) := q1
        simp -implicitDefEqProofs [-toCells, -AV.one, -forget, c_queue_Queue_Discard, tsc0_queue_Queue_Discard, r1, r2, hlw, n0, n1, q1, hid, hid', h0, h0', h0'']
        exact ⟨by simp [F_queue_Queue_Discard], z, 0, by rw [QH_QC, hG]; simp⟩
      · rw [if_neg hst] at hR
        unfold PostD
        rw [hR]
        simp only
        have hte := tot_erase _ _ _ ht
        have hby2 : ((⟨q.room, q.l.eraseIdx i, q.taken, q.last⟩ : QM).bytes : Int) = (q.bytes : Int) - t.2.length := by
          have e1 : q.bytes = tot q.l - q.taken := rfl
          have e2 : (⟨q.room, q.l.eraseIdx i, q.taken, q.last⟩ : QM).bytes = tot (q.l.eraseIdx i) - q.taken := rfl
          have hok := QM.discard_ok hq id
          rw [hR] at hok
          have := hok.taken_le
          simp only at this
          omega
        obtain ⟨n, hn⟩ : ∃ x, q.l.length = x := ⟨_, rfl⟩
        have r4 := QC_4 (room := q.room) (l := lst z 2 none (txs q.l)) (taken := q.taken) (last := q.last) (bytes := q.bytes) hlt
        obtain ⟨bl, hbl⟩ : ∃ x, t.2.length = x := ⟨_, rfl⟩
        have hlb : lenW (bv (false, t.2)) = some bl := by rw [bv_len]; simp only; rw [hbl]
        have htl := hq.tot_le
        have hbyl : q.bytes ≤ 64000 := by have e1 : q.bytes = tot q.l - q.taken := rfl; omega
        have w4 : IntKind.i64.wrap ((q.bytes : Int) - bl) = (q.bytes : Int) - bl := wrap_i64 (by omega) (by omega)
        rw [hbl] at hby2
        have s4 := QC_s4 (room := q.room) (l := lst z 2 none (txs q.l)) (taken := q.taken) (last := q.last) (bytes := q.bytes) hlt ((q.bytes : Int) - bl)
        have a1 := QC_1 (room := q.room) (l := lst z 2 none (txs q.l)) (taken := q.taken) (last := q.last) (bytes := (q.bytes : Int) - bl) hlt
        have w1 : IntKind.i64.wrap ((i : Int) + 1) = ((i + 1 : Nat) : Int) := by rw [wrap_i64 (by omega) (by omega)]; omega
        have c1 := fun d => cutV_lst z 2 none d (txs q.l) (lo := none) (hi := some (ai i)) (i := 0) (j := i) (.inl ⟨rfl, rfl⟩) (.inr ⟨.i64, rfl⟩) (by omega) (by rw [txs_len]; omega)
        have c2 := fun d => cutV_lst z 2 none d (txs q.l) (lo := some (ai (i + 1 : Nat))) (hi := none) (i := i + 1) (j := n) (.inr ⟨.i64, rfl⟩) (.inl ⟨rfl, by rw [txs_len, hn]⟩) (by omega) (by rw [txs_len]; omega)
        have ne : q.l ≠ [] := fun e => by rw [e] at ht; simp at ht
        have e1 : cutL z 2 none (txs q.l) 0 i = lst false 2 none (txs (q.l.take i)) := by
          have : (txs q.l).isEmpty = false := by simp [txs, ne]
          simp only [cutL, this, Bool.and_false, List.drop_zero]
          simp [txs, List.map_take]
        have e2 : cutL z 2 none (txs q.l) (i + 1) n = lst false 2 none (txs (q.l.drop (i + 1))) := by
          have : (txs q.l).isEmpty = false := by simp [txs, ne]
          simp only [cutL, this, Bool.and_false]
          rw [List.take_of_length_le (by rw [txs_len]; omega)]
          simp [txs, List.map_drop]
        rw [e1] at c1
        rw [e2] at c2
        obtain ⟨k, hcc⟩ := Concat2 (za := false) (zb := false) (la := q.l.take i) (lb := q.l.drop (i + 1)) (by rw [List.length_take]; omega) (by rw [List.length_drop]; omega) (QC H r q.room (lst z 2 none (txs q.l)) q.taken q.last ((q.bytes : Int) - bl))
        have e3 : q.l.take i ++ q.l.drop (i + 1) = q.l.eraseIdx i := (List.eraseIdx_eq_take_drop_succ _ _).symm
        rw [e3] at hcc
        have hQX : ∀ σ, storeA σ (QC H r q.room (lst z 2 none (txs q.l)) q.taken q.last ((q.bytes : Int) - bl) ++ List.replicate k .other) none (.ptr r 1 5) (lst true 2 none (txs (q.l.eraseIdx i))) = some (σ, QH H r ⟨q.room, q.l.eraseIdx i, q.taken, q.last⟩ true ++ List.replicate k .other) := fun σ => by
          rw [QC, RC_app hlt]
          have := QC_s1 (H := H ++ List.replicate k .other) (r := r) (room := q.room) (l := lst z 2 none (txs q.l)) (taken := q.taken) (last := q.last) (bytes := (q.bytes : Int) - bl) (by simp; omega) (lst true 2 none (txs (q.l.eraseIdx i))) (okCell_lst _ _ _ _) σ
          rw [QC] at this
          rw [this, QH_QC, hby2, QC, QC, RC_app hlt]
        replace hcc : callW P f_slices_Concat_squeue_text_queue_text [.vs 1 none [[.vs 2 none (txs (q.l.take i))], [.vs 2 none (txs (q.l.drop (i + 1)))]]] _ = _ := hcc
        obtain ⟨i1, hi1⟩ : ∃ i1, i + 1 = i1 := ⟨_, rfl⟩
        rw [hi1] at w1 c2 hcc
        rw [hn] at hi hi' hlw n0
        have hlenQ : ∀ by', (QC H r q.room (lst z 2 none (txs q.l)) q.taken q.last by').length = H.length := fun _ => QC_len _ _ _ _ _ _ _
        by_cases hi0 : i = 0
        · have h0 : ¬ 0 < q.taken := fun h => hst ⟨hi0, h⟩
          have h0' : ¬ (q.taken : Int) > 0 := by omega
          have h0'' : ¬ (0 : Int) < q.taken := by omega
          subst hi0
          obtain rfl : i1 = 1 := by omega
          replace q1 : iaddrW 2 none (lst z 2 none (txs q.l)) (ai 0) = some (.vp [ul t.1, bv (false, t.2)] 0) := q1
          replace c1 : ∀ d, cutV 2 d (lst z 2 none (txs q.l)) none (some (ai 0)) none = some (.vs 2 none (txs (q.l.take 0))) := c1
          replace c2 : ∀ d, cutV 2 d (lst z 2 none (txs q.l)) (some (ai 1)) none none = some (.vs 2 none (txs (q.l.drop 1))) := c2
          generalize q.l.take 0 = lA at *
          generalize q.l.drop 1 = lB at *
          generalize q.l.eraseIdx 0 = lE at *
          have w1' : IntKind.i64.wrap 1 = 1 := rfl
          have m0 : ¬ (0 : Int) = n := by omega
          have m0' : ¬ 0 = n := by omega
          simp -implicitDefEqProofs [-toCells, -AV.one, -forget, c_queue_Queue_Discard, keepB, -goodB, goodB_L, sameV, dstNot, dstNe, SOpG.reads, SOp.slots, SX.slots, SOp.noL, rdV_load, selfE_lst, selfE, selfEs, eqV, tsc0_queue_Queue_Discard, r1, r2, r4, hlw, m0, m0', q1, hid, hid', h0, h0', h0'', hlb, w4, s4, a1, w1', c1, c2, hcc, hQX]
          exact ⟨by simp [F_queue_Queue_Discard], true, k, rfl⟩
        · have hii : ¬ (i : Int) = 0 := by omega
          simp -implicitDefEqProofs [-toCells, -AV.one, -forget, c_queue_Queue_Discard, keepB, -goodB, goodB_L, sameV, dstNot, dstNe, SOpG.reads, SOp.slots, SX.slots, SOp.noL, rdV_load, selfE_lst, selfE, selfEs, eqV, tsc0_queue_Queue_Discard, r1, r2, r4, hlw, hi, hi', n0, q1, hid, hid', hi0, hii, hlb, w4, s4, a1, w1, c1, c2, hcc, hQX]
          exact ⟨by simp [F_queue_Queue_Discard], true, k, rfl⟩
    · have hid' : ¬ (t.1 : Int) = id := by omega
      have w1 : IntKind.i64.wrap ((i : Int) + 1) = ((i + 1 : Nat) : Int) := by rw [wrap_i64 (by omega) (by omega)]; omega
      obtain ⟨i1, hi1⟩ : ∃ i1, i + 1 = i1 := ⟨_, rfl⟩
      rw [hi1] at w1
      obtain ⟨n, hn⟩ : ∃ x, q.l.length = x := ⟨_, rfl⟩
      rw [hn] at hi hi' hlw
      rw [show InvD H r q z id = InvD H r q z id from rfl]
      generalize hG : QC H r q.room (lst z 2 none (txs q.l)) q.taken q.last q.bytes = G at *
      simp -implicitDefEqProofs [-toCells, -AV.one, -forget, c_queue_Queue_Discard, tsc0_queue_Queue_Discard, r1, hlw, hi, hi', q1, hid, hid', w1]
      refine ⟨zz - 1, by omega, i1, by omega, fun j x hj hx => ?_, by rw [QH_QC, hG], by simp⟩
      by_cases hji : j < i
      · exact hall j x hji hx
      · obtain rfl : j = i := by omega
        rw [ht] at hx
        obtain rfl := Option.some.inj hx
        exact hid
end
end Go.A.V.S

namespace Go.A.V.S
open Go Go.A
set_option linter.unusedSimpArgs false
set_option linter.unusedVariables false
section
variable {H : Heap} {r : Nat}
theorem q_Discard (hlt : r < H.length) {q : QM} (hq : q.Ok) (z : Bool) (id : Nat) : ∃ z' k, callW P f_queue_Queue_Discard [.ptr r 0 5, ul id] (QH H r q z) = some (ai ((q.discard id).2 : Nat), QH H r (q.discard id).1 z' ++ List.replicate k .other) := by
  suffices hs : Ends (callW P f_queue_Queue_Discard [.ptr r 0 5, ul id] (QH H r q z)) fun y => ∃ z' k, y = (ai ((q.discard id).2 : Nat), QH H r (q.discard id).1 z' ++ List.replicate k .other) by
    obtain ⟨y, h1, z', k, rfl⟩ := hs
    exact ⟨z', k, h1⟩
  have hm := q_made hlt hq.room.1 z
  refine call_post 7 74 rfl (rfl : P.T f_queue_Queue_Discard = some F_queue_Queue_Discard) rfl (le_ok rfl) (PostD H r q id) ?_ ?_
  · rintro e σ G ⟨rfl, h2, z', k, rfl⟩
    refine ⟨rfl, _, h2, rfl, ?_⟩
    have hl : (QH H r (q.discard id).1 z').length = H.length := QH_len _ _ _ _
    have ht : (QH H r (q.discard id).1 z').take H.length = QH H r (q.discard id).1 z' := QH_take _ _ _ _
    refine ⟨_, ?_, z', k, rfl⟩
    simp only [K_queue_Queue_Discard, C_queue_Queue_Discard, finish_n, frz_c, Option.map_some, QH_len]
    rw [List.take_append_of_le_length (by rw [hl]; exact Nat.le_refl _), ht, List.length_append, hl, List.length_replicate, Nat.add_sub_cancel_left]
    rfl
  have hlt' := hlt
  have hQ : QH H r q z = QH H r q z := rfl
  generalize hG : QH H r q z = G at hm hQ ⊢
  rw [F_queue_Queue_Discard]; simp -implicitDefEqProofs [-toCells, -AV.one, -forget, c_queue_Queue_Discard, hm]
  refine disc_tail hlt hq z q.l.length _ _ ?_
  exact ⟨0, by omega, fun j t hj => by omega, by rw [hG], by simp [tsc0_queue_Queue_Discard]⟩
theorem cut_isWidth (w : Int) (H : Heap) : callW P f_cut_isWidth [ai w] H = some (ab (decide (w = 11 ∨ w = 15)), H) := by
  by_cases h1 : w = 11
  · rw [call_L 4 rfl (rfl : P.T f_cut_isWidth = some F_cut_isWidth) (le_ok rfl)]; simp -implicitDefEqProofs (disch := first | omega | (simp; done) | fail) [-toCells, -AV.one, -forget, F_cut_isWidth, c_cut_isWidth, cmp_ilt, cmp_ilf, cmp_ile, cmp_ilg, cmp_ine, cmp_nlt, cmp_nlf, cmp_nle, cmp_nne, cmp_neq, wrap_i64, wrap_u64, wrap_u8, h1]
  · by_cases h2 : w = 15
    · rw [call_L 4 rfl (rfl : P.T f_cut_isWidth = some F_cut_isWidth) (le_ok rfl)]; simp -implicitDefEqProofs (disch := first | omega | (simp; done) | fail) [-toCells, -AV.one, -forget, F_cut_isWidth, c_cut_isWidth, cmp_ilt, cmp_ilf, cmp_ile, cmp_ilg, cmp_ine, cmp_nlt, cmp_nlf, cmp_nle, cmp_nne, cmp_neq, wrap_i64, wrap_u64, wrap_u8, h1, h2]
    · rw [call_L 4 rfl (rfl : P.T f_cut_isWidth = some F_cut_isWidth) (le_ok rfl)]; simp -implicitDefEqProofs (disch := first | omega | (simp; done) | fail) [-toCells, -AV.one, -forget, F_cut_isWidth, c_cut_isWidth, cmp_ilt, cmp_ilf, cmp_ile, cmp_ilg, cmp_ine, cmp_nlt, cmp_nlf, cmp_nle, cmp_nne, cmp_neq, wrap_i64, wrap_u64, wrap_u8, h1, h2]
end
end Go.A.V.S

namespace Go.A.V.S
set_option linter.unusedVariables false
/-- What is taken: the queue behind it, the fields, the texts that are at their end, how the fields begin and end. -/
structure CR where
  q : QM
  F : List (List Nat)
  D : List Nat
  fi : Nat
def cutQ (room w : Nat) : Nat → QM → List (List Nat) → List Nat → Nat → Nat → CR
  | 0, q, F, D, fi, _ => ⟨q, F, D, fi⟩
  | k + 1, q, F, D, fi, used => match q.l with
    | [] => ⟨q, F, D, fi⟩
    | t :: l => if (room : Int) - used - lsize F.length w < 1 then ⟨q, F, D, fi⟩ else
      if t.2.length - q.taken ≤ ((room : Int) - used - lsize F.length w).toNat then
        cutQ room w k ⟨q.room, l, 0, q.last⟩ (F ++ [t.2.drop q.taken]) (D ++ [t.1]) (if 0 < q.taken then 2 else fi) (used + (t.2.length - q.taken))
      else ⟨⟨q.room, q.l, q.taken + ((room : Int) - used - lsize F.length w).toNat, q.last⟩, F ++ [(t.2.drop q.taken).take ((room : Int) - used - lsize F.length w).toNat], D, (if 0 < q.taken then 2 else fi) + 1⟩
end Go.A.V.S

namespace Go.A.V.S
open Go Go.A
set_option linter.unusedSimpArgs false
set_option linter.unusedVariables false
/-- Fields in a slice. -/
def bvF (F : List (List Nat)) : List (List AV) := F.map fun b => [bv (false, b)]
theorem bvF_len (F : List (List Nat)) : (bvF F).length = F.length := by simp [bvF]
theorem bvF_snoc (F : List (List Nat)) (b : List Nat) : bvF (F ++ [b]) = bvF F ++ [[bv (false, b)]] := by simp [bvF]
section
variable {H : Heap} {r : Nat}
def InvB (H : Heap) (r room w : Nat) (R : CR) (zz : Nat) (σ : List AV) (G : Heap) : Prop :=
  ∃ (q : QM) (F : List (List Nat)) (D : List Nat) (fi used : Nat) (z : Bool), zz + F.length = 24 ∧ q.Ok ∧ used ≤ F.length * 1000 ∧ D.length ≤ F.length ∧ (fi = 0 ∨ fi = 2) ∧ cutQ room w zz q F D fi used = R ∧ G = QH H r q z ∧
    σ = L 111 (((((((Tr.full 7).put (path 0) (.ptr r 0 5)).put (path 1) (ai room)).put (path 2) (ai w)).put (path 6) (.lbox [ai 0, nilS, nilS])).put (path 12) (.lbox [ai fi, lst true 1 (some 88) (bvF F), lst true 1 (some 99) (uls D)])).put (path 13) (ai used))
def cutRes (R : CR) : AV := if R.F = [] then .tup [.agg [ai 0, nilS, nilS], ai 4] else .tup [.agg [ai R.fi, lst true 1 (some 88) (bvF R.F), lst true 1 (some 99) (uls R.D)], ai 0]
def QZ (H : Heap) (r : Nat) (q : QM) (G : Heap) : Prop := ∃ z, G = QH H r q z
def PostB (H : Heap) (r : Nat) (R : CR) (e : AExit) (σ : List AV) (G : Heap) : Prop :=
  QZ H r R.q G ∧ ((e = .goto 1 ∧ kill (headK tsc1_cut_Build) σ = L 111 (((Tr.full 7).put (path 6) (.lbox [ai 0, nilS, nilS])).put (path 12) (.lbox [ai R.fi, lst true 1 (some 88) (bvF R.F), lst true 1 (some 99) (uls R.D)]))) ∨ (e = .ret ∧ resultsA F_cut_Build.res σ = some (cutRes R)))
theorem lsize50 (n w : Nat) (hw : w = 11 ∨ w = 15) : lsize n w ≤ 50 := by
  unfold lsize; split
  · omega
  · rcases hw with rfl | rfl <;> omega
set_option maxHeartbeats 4000000 in
theorem cut_tail (hlt : r < H.length) {room w : Nat} (hroom : room ≤ 4000) (hw : w = 11 ∨ w = 15) {R : CR} (zz : Nat) (σ : List AV) (G : Heap) (hI : InvB H r room w R zz (kill (headK tsc0_cut_Build) σ) G) :
    Ends ((execW P f_cut_Build tsc0_cut_Build σ G).bind (jumpW P f_cut_Build sc0_cut_Build 0)) fun s => PostB H r R s.e s.σ s.H := by
  refine scope_ends (InvB H r room w R) (PostB H r R) rfl ?_ zz σ G hI
  clear hI zz σ G
  rintro zz σ G ⟨q, F, D, fi, used, z, hz, hq, hu, hD, hfi, hR, rfl, hσ⟩
  rw [← execW_head, hσ]
  have hS := fun H => lens_Size F.length w hw (by omega) H
  have hls := lsize50 F.length w hw
  have hFl : lenW (lst true 1 (some 88) (bvF F)) = some F.length := by rw [lenW_lst, bvF_len]
  obtain ⟨lf, hlf⟩ : ∃ x : Int, (room : Int) - used - (lsize F.length w : Nat) = x := ⟨_, rfl⟩
  obtain ⟨ru, hru⟩ : ∃ x : Int, (room : Int) - used = x := ⟨_, rfl⟩
  have w1 : IntKind.i64.wrap ((room : Int) - used) = ru := by rw [← hru]; exact wrap_i64 (by omega) (by omega)
  have w2' : IntKind.i64.wrap (ru - (lsize F.length w : Nat)) = lf := by rw [← hlf, hru]; exact wrap_i64 (by omega) (by omega)
  cases hl : q.l with
  | nil =>
    have hF0 := q_Front0 hlt hq z hl
    have hRq : R = ⟨q, F, D, fi⟩ := by
      rw [← hR]
      cases zz with
      | zero => rfl
      | succ k => rw [cutQ, hl]
    subst hRq
    have hqz : QZ H r q (QH H r q z) := ⟨z, rfl⟩
    unfold PostB
    simp only
    generalize QH H r q z = G at *
    simp -implicitDefEqProofs [-toCells, -AV.one, -forget, c_cut_Build, tsc0_cut_Build, hF0, hS, hFl, w1, w2']
    exact ⟨hqz, by simp [tsc1_cut_Build]⟩
  | cons t l =>
    have hF1 := q_Front1 hlt hq z hl
    have ht := hq.each t (by rw [hl]; simp)
    have hf := hq.first t l hl
    obtain ⟨m, hm⟩ : ∃ x, t.2.length - q.taken = x := ⟨_, rfl⟩
    have hbl : (t.2.drop q.taken).length = m := by rw [List.length_drop]; omega
    have hlb : lenW (bv (false, t.2.drop q.taken)) = some m := by rw [bv_len]; simp only; rw [hbl]
    have m0 : ¬ (m : Int) = 0 := by omega
    have m0' : ¬ m = 0 := by omega
    have hqz : QZ H r q (QH H r q z) := ⟨z, rfl⟩
    by_cases hl1 : lf < 1
    · have hRq : R = ⟨q, F, D, fi⟩ := by
        rw [← hR]
        cases zz with
        | zero => rfl
        | succ k => rw [cutQ, hl]; simp only; rw [if_pos (by rw [hlf]; exact hl1)]
      subst hRq
      unfold PostB
      simp only
      generalize t.2.drop q.taken = wd at *
      generalize QH H r q z = G at *
      generalize decide (0 < q.taken) = bg at *
      simp -implicitDefEqProofs [-toCells, -AV.one, -forget, c_cut_Build, tsc0_cut_Build, hF1, hS, hFl, w1, w2', hlb, m0, m0', hl1]
      exact ⟨hqz, by simp [tsc1_cut_Build]⟩
    by_cases h24 : F.length = 24
    · obtain rfl : zz = 0 := by omega
      have hRq : R = ⟨q, F, D, fi⟩ := by rw [← hR]; rfl
      subst hRq
      unfold PostB
      simp only
      rw [h24] at hS hFl w2'
      replace hS : ∀ H, callW P f_lens_Size [ai 24, ai w] H = some (ai (lsize 24 w : Nat), H) := hS
      generalize lsize 24 w = ls24 at *
      generalize t.2.drop q.taken = wd at *
      generalize QH H r q z = G at *
      generalize decide (0 < q.taken) = bg at *
      simp -implicitDefEqProofs [-toCells, -AV.one, -forget, c_cut_Build, tsc0_cut_Build, hF1, hS, hFl, w1, w2', hlb, m0, m0', hl1]
      exact ⟨hqz, by simp [tsc1_cut_Build]⟩
    obtain ⟨k, rfl⟩ : ∃ k, zz = k + 1 := ⟨zz - 1, by omega⟩
    have h24' : ¬ (F.length : Int) = 24 := by omega
    rw [cutQ, hl] at hR
    simp only at hR
    rw [hlf, if_neg hl1, hm] at hR
    obtain ⟨f2, hf2⟩ : ∃ x, (if 0 < q.taken then 2 else fi) = x := ⟨_, rfl⟩
    rw [hf2] at hR
    have hf2' : f2 = 0 ∨ f2 = 2 := by rw [← hf2]; split <;> omega
    have hor : 0 < q.taken → orI .i64 (fi : Int) 2 = (f2 : Int) := fun h => by
      rw [← hf2, if_pos h]
      rcases hfi with rfl | rfl <;> rfl
    have hnb : ¬ 0 < q.taken → f2 = fi := fun h => by rw [← hf2, if_neg h]
    have hor1 : orI .i64 (f2 : Int) 1 = ((f2 + 1 : Nat) : Int) := by rcases hf2' with rfl | rfl <;> rfl
    have hgl : (QH H r q z).length = H.length := QH_len _ _ _ _
    by_cases hall : m ≤ lf.toNat
    · rw [if_pos hall] at hR
      have hmn : mn lf (m : Int) = m := by simp only [mn]; split <;> omega
      have htk : q.take (m : Int) = (⟨q.room, l, 0, q.last⟩, t.2.drop q.taken, true, 0) := by
        unfold QM.take
        rw [hl]
        simp only
        rw [hm, if_neg (by omega), if_neg (by omega)]
      obtain ⟨z', hT⟩ := q_Take1 hlt hq z hl (m : Int)
      have hq2 := QM.take_ok hq (m : Int)
      rw [htk] at hT hq2
      simp only [bne_self_eq_false] at hT hq2
      replace hT : callW P f_queue_Queue_Take [.ptr r 0 5, ai m] (QH H r q z) = some (.tup [bv (false, t.2.drop q.taken), ab true, ai 0], QH H r ⟨q.room, l, 0, q.last⟩ z') := hT
      have hapF := fun σ H => app1 (m := P.md f_cut_Build) (d := 88) (bytes := 24) (v := bv (false, t.2.drop q.taken)) (R_cut_Build 88) (by omega) (by rw [bvF_len]; omega) (l := bvF F) (some 87) σ H
      rw [← bvF_snoc] at hapF
      have hapD := fun σ H => app1 (m := P.md f_cut_Build) (d := 99) (bytes := 8) (v := ul t.1) (R_cut_Build 99) (by omega) (by rw [uls_len]; omega) (l := uls D) (some 98) σ H
      rw [← uls_snoc] at hapD
      have w3 : IntKind.i64.wrap ((used : Int) + m) = ((used + m : Nat) : Int) := by rw [wrap_i64 (by omega) (by omega)]; omega
      obtain ⟨us, hus⟩ : ∃ x, used + m = x := ⟨_, rfl⟩
      rw [hus] at w3 hR
      have hInv : ∀ σ', σ' = L 111 (((((((Tr.full 7).put (path 0) (.ptr r 0 5)).put (path 1) (ai room)).put (path 2) (ai w)).put (path 6) (.lbox [ai 0, nilS, nilS])).put (path 12) (.lbox [ai f2, lst true 1 (some 88) (bvF (F ++ [t.2.drop q.taken])), lst true 1 (some 99) (uls (D ++ [t.1]))])).put (path 13) (ai us)) → InvB H r room w R k σ' (QH H r ⟨q.room, l, 0, q.last⟩ z') := fun σ' hσ' =>
        ⟨_, F ++ [t.2.drop q.taken], D ++ [t.1], f2, us, z', by simp; omega, hq2, by simp; omega, by simp; omega, hf2', hR, rfl, hσ'⟩
      generalize bvF (F ++ [t.2.drop q.taken]) = F2 at *
      generalize uls (D ++ [t.1]) = D2 at *
      generalize bvF F = F1 at *
      generalize uls D = D1 at *
      generalize t.2.drop q.taken = wd at *
      generalize QH H r ⟨q.room, l, 0, q.last⟩ z' = G2 at *
      generalize QH H r q z = G at *
      generalize F.length = fl at *
      by_cases hbg : 0 < q.taken
      · rw [decide_eq_true hbg] at hF1
        have hor' := hor hbg
        simp -implicitDefEqProofs [-toCells, -AV.one, -forget, c_cut_Build, binA_orI, tsc0_cut_Build, hF1, hS, hFl, w1, w2', hlb, m0, m0', hl1, h24, h24', hor', hmn, hT, hapF, hapD, w3]
        exact ⟨k, by omega, hInv _ (by simp)⟩
      · rw [decide_eq_false hbg] at hF1
        have hnb' := hnb hbg
        subst hnb'
        simp -implicitDefEqProofs [-toCells, -AV.one, -forget, c_cut_Build, binA_orI, tsc0_cut_Build, hF1, hS, hFl, w1, w2', hlb, m0, m0', hl1, h24, h24', hmn, hT, hapF, hapD, w3]
        exact ⟨k, by omega, hInv _ (by simp)⟩
    · rw [if_neg hall] at hR
      obtain ⟨nn, hnn⟩ : ∃ x, lf.toNat = x := ⟨_, rfl⟩
      rw [hnn] at hR hall
      have hlfn : lf = nn := by omega
      have hmn : mn lf (m : Int) = nn := by rw [hlfn]; exact mn_le (by omega)
      have htk : q.take (nn : Int) = (⟨q.room, q.l, q.taken + nn, q.last⟩, (t.2.drop q.taken).take nn, false, 0) := by
        unfold QM.take
        rw [hl]
        simp only
        rw [hm, if_neg (by omega), if_pos (by omega), Int.toNat_natCast]
      obtain ⟨z', hT⟩ := q_Take1 hlt hq z hl (nn : Int)
      rw [htk] at hT
      simp only [bne_self_eq_false] at hT
      replace hT : callW P f_queue_Queue_Take [.ptr r 0 5, ai nn] (QH H r q z) = some (.tup [bv (false, (t.2.drop q.taken).take nn), ab false, ai 0], QH H r ⟨q.room, q.l, q.taken + nn, q.last⟩ z') := hT
      have hapF := fun σ H => app1 (m := P.md f_cut_Build) (d := 88) (bytes := 24) (v := bv (false, (t.2.drop q.taken).take nn)) (R_cut_Build 88) (by omega) (by rw [bvF_len]; omega) (l := bvF F) (some 87) σ H
      rw [← bvF_snoc] at hapF
      have w3 : IntKind.i64.wrap ((used : Int) + nn) = ((used + nn : Nat) : Int) := by rw [wrap_i64 (by omega) (by omega)]; omega
      have hlo : lenW (bv (false, (t.2.drop q.taken).take nn)) = some nn := by rw [bv_len]; simp only; rw [List.length_take]; congr 1; omega
      have hF3 : lenW (lst true 1 (some 88) (bvF (F ++ [(t.2.drop q.taken).take nn]))) = some (F.length + 1) := by rw [lenW_lst, bvF_len]; simp
      have hqz2 : QZ H r ⟨q.room, q.l, q.taken + nn, q.last⟩ (QH H r ⟨q.room, q.l, q.taken + nn, q.last⟩ z') := ⟨z', rfl⟩
      have f0 : ¬ ((F.length + 1 : Nat) : Int) = 0 := by omega
      have f0' : ¬ (F.length : Int) + 1 = 0 := by omega
      have hRes : cutRes R = .tup [.agg [ai (f2 + 1 : Nat), lst true 1 (some 88) (bvF (F ++ [(t.2.drop q.taken).take nn])), lst true 1 (some 99) (uls D)], ai 0] := by
        rw [← hR, cutRes]; simp only; rw [if_neg (by simp)]
      have hRq : R.q = ⟨q.room, q.l, q.taken + nn, q.last⟩ := by rw [← hR, hl]
      unfold PostB
      rw [hRq, hRes]
      obtain ⟨f3, hf3⟩ : ∃ x, f2 + 1 = x := ⟨_, rfl⟩
      rw [hf3] at hor1 ⊢
      generalize bvF (F ++ [(t.2.drop q.taken).take nn]) = F2 at *
      generalize bvF F = F1 at *
      generalize uls D = D1 at *
      generalize (t.2.drop q.taken).take nn = wo at *
      generalize t.2.drop q.taken = wd at *
      generalize QH H r ⟨q.room, q.l, q.taken + nn, q.last⟩ z' = G2 at *
      generalize QH H r q z = G at *
      generalize F.length = fl at *
      by_cases hbg : 0 < q.taken
      · rw [decide_eq_true hbg] at hF1
        have hor' := hor hbg
        simp -implicitDefEqProofs [-toCells, -AV.one, -forget, c_cut_Build, binA_orI, tsc0_cut_Build, hF1, hS, hFl, w1, w2', hlb, m0, m0', hl1, h24, h24', hor', hmn, hT, hapF, w3, hlo, hF3, f0, f0', hor1]
        exact ⟨hqz2, by simp [F_cut_Build]⟩
      · rw [decide_eq_false hbg] at hF1
        have hnb' := hnb hbg
        subst hnb'
        simp -implicitDefEqProofs [-toCells, -AV.one, -forget, c_cut_Build, binA_orI, tsc0_cut_Build, hF1, hS, hFl, w1, w2', hlb, m0, m0', hl1, h24, h24', hmn, hT, hapF, w3, hlo, hF3, f0, f0', hor1]
        exact ⟨hqz2, by simp [F_cut_Build]⟩
end
end Go.A.V.S

namespace Go.A.V.S
open Go Go.A
set_option linter.unusedSimpArgs false
set_option linter.unusedVariables false
section
variable {H : Heap} {r : Nat}
theorem cut_ask (room : Nat) (hroom : room ≤ 4000) {w : Nat} (hw : w = 11 ∨ w = 15) (H : Heap) : callW P f_cut_ask [.ptr r 0 5, ai room, ai w] H = some (ai 0, H) := by
  have h1 := fun H => cut_isWidth w H
  have hd : decide ((w : Int) = 11 ∨ (w : Int) = 15) = true := by rcases hw with rfl | rfl <;> simp
  rw [hd] at h1
  rw [call_L 5 rfl (rfl : P.T f_cut_ask = some F_cut_ask) (le_ok rfl)]; simp -implicitDefEqProofs (disch := first | omega | (simp; done) | fail) [-toCells, -AV.one, -forget, F_cut_ask, c_cut_ask, cmp_ilt, cmp_ilf, cmp_ile, cmp_ilg, cmp_ine, cmp_nlt, cmp_nlf, cmp_nle, cmp_nne, cmp_neq, wrap_i64, wrap_u64, wrap_u8, h1]
def cutPub (R : CR) : AV := if R.F = [] then .tup [.agg [ai 0, nilS, nilS], ai 4] else .tup [.agg [ai R.fi, lst true 1 none (bvF R.F), lst true 1 none (uls R.D)], ai 0]
theorem take_z (hlt : r < H.length) {q : QM} (hq : q.Ok) (z : Bool) : ∃ e z', (e = 1 ∨ e = 4) ∧ callW P f_queue_Queue_Take [.ptr r 0 5, ai 0] (QH H r q z) = some (.tup [nilS, ab false, ai e], QH H r q z') := by
  cases hl : q.l with
  | nil => exact ⟨4, z, .inr rfl, q_Take0 hlt hq z hl 0⟩
  | cons t l =>
    obtain ⟨z', h⟩ := q_Take1 hlt hq z hl 0
    have : q.take 0 = (q, [], false, 1) := by
      unfold QM.take
      rw [hl]
      simp only
      rw [if_pos (.inl (by omega))]
    rw [this] at h
    exact ⟨1, z', .inl rfl, h⟩
set_option maxHeartbeats 1000000 in
theorem c_Build (hlt : r < H.length) {q : QM} (hq : q.Ok) (z : Bool) (room : Nat) (hroom : room ≤ 4000) {w : Nat} (hw : w = 11 ∨ w = 15) :
    ∃ z', callW P f_cut_Build [.ptr r 0 5, ai room, ai w] (QH H r q z) = some (cutPub (cutQ room w 24 q [] [] 0 0), QH H r (cutQ room w 24 q [] [] 0 0).q z') := by
  obtain ⟨R, hR⟩ : ∃ x, cutQ room w 24 q [] [] 0 0 = x := ⟨_, rfl⟩
  rw [hR]
  suffices hs : Ends (callW P f_cut_Build [.ptr r 0 5, ai room, ai w] (QH H r q z)) fun y => ∃ z', y = (cutPub R, QH H r R.q z') by
    obtain ⟨y, h1, z', rfl⟩ := hs
    exact ⟨z', h1⟩
  have hA := cut_ask (r := r) room hroom hw
  obtain ⟨e, z1, he, hT⟩ := take_z hlt hq z
  have he0 : ¬ e = 6 := by omega
  refine call_post 7 111 rfl (rfl : P.T f_cut_Build = some F_cut_Build) rfl (le_ok rfl) (fun e σ G => e = .ret ∧ QZ H r R.q G ∧ resultsA F_cut_Build.res σ = some (cutRes R)) ?_ ?_
  · rintro e σ G ⟨rfl, ⟨z', rfl⟩, h2⟩
    refine ⟨rfl, _, h2, ?_, ?_⟩
    · unfold cutRes; split <;> simp
    · refine ⟨_, ?_, z', rfl⟩
      simp only [K_cut_Build, C_cut_Build, finish_n, QH_len]
      unfold cutRes cutPub
      split <;> simp
  have hgl : (QH H r q z).length = H.length := QH_len _ _ _ _
  have hI : ∀ σ, σ = L 111 (((((((Tr.full 7).put (path 0) (.ptr r 0 5)).put (path 1) (ai room)).put (path 2) (ai w)).put (path 6) (.lbox [ai 0, nilS, nilS])).put (path 12) (.lbox [ai 0, nilS, nilS])).put (path 13) (ai 0)) → InvB H r room w R 24 σ (QH H r q z1) := fun σ hσ => ⟨q, [], [], 0, 0, z1, rfl, hq, by simp, by simp, .inl rfl, hR, rfl, hσ⟩
  generalize QH H r q z1 = G1 at *
  generalize QH H r q z = G at *
  rw [F_cut_Build]; simp -implicitDefEqProofs [-toCells, -AV.one, -forget, c_cut_Build, hA, hT, he0]
  refine Ends.bind (Q := fun s => PostB H r R s.e s.σ s.H) (cut_tail hlt hroom hw 24 _ _ (hI _ (by simp [tsc0_cut_Build]))) ?_
  rintro ⟨e1, σ1, G2⟩ ⟨hz, ⟨he1, k2⟩ | ⟨he1, k2⟩⟩
  · simp only at he1 hz k2
    subst he1
    have hFl : lenW (lst true 1 (some 88) (bvF R.F)) = some R.F.length := by rw [lenW_lst, bvF_len]
    rw [jumpW_eq, if_pos rfl, sc1_cut_Build]
    rw [execW_seq, execW_skip]
    simp only [Option.bind_some, andThen]
    rw [← execW_head, k2]
    have hfl0 : R.F.length = 0 ↔ R.F = [] := List.length_eq_zero_iff
    unfold cutRes
    generalize bvF R.F = F1 at *
    generalize uls R.D = D1 at *
    generalize R.fi = fi at *
    obtain ⟨fl, hfl⟩ : ∃ x, R.F.length = x := ⟨_, rfl⟩
    rw [hfl] at hFl hfl0
    by_cases hF : R.F = []
    · have h0 : fl = 0 := hfl0.2 hF
      have h0' : (fl : Int) = 0 := by omega
      rw [if_pos hF]
      subst h0
      replace hFl : lenW (lst true 1 (some 88) F1) = some 0 := hFl
      simp -implicitDefEqProofs [-toCells, -AV.one, -forget, c_cut_Build, tsc1_cut_Build, hFl]
      exact hz
    · have h0 : ¬ fl = 0 := fun h => hF (hfl0.1 h)
      have h0' : ¬ (fl : Int) = 0 := by omega
      rw [if_neg hF]
      simp -implicitDefEqProofs [-toCells, -AV.one, -forget, c_cut_Build, tsc1_cut_Build, hFl, h0, h0']
      exact hz
  · simp only at he1 hz k2
    subst he1
    have hk : resultsA F_cut_Build.res σ1 = some (cutRes R) := k2
    simp only [jump_ret]
    refine ⟨_, rfl, rfl, hz, ?_⟩
    simpa [F_cut_Build] using hk
end
end Go.A.V.S
