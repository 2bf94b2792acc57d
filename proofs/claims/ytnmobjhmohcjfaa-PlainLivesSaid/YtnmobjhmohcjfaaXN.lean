/- Calls of a law. -/
import Derived.Test.YtnmobjhmohcjfaaXA
import Derived.Test.YtnmobjhmohcjfaaXE
import Derived.Test.YtnmobjhmohcjfaaXL
import Derived.Test.YtnmobjhmohcjfaaXM
import Derived.Test.YtnmobjhmohcjfaaAX
import Derived.Test.YtnmobjhmohcjfaaXC
import Derived.Test.YtnmobjhmohcjfaaXK
set_option linter.unusedSimpArgs false
set_option linter.unusedVariables false
set_option linter.unnecessarySimpa false
namespace Go.A.V.S
open Go Go.A Go.A.V
set_option linter.unusedSimpArgs false
set_option linter.unusedVariables false
/-- A call of a law of umtx. -/
structure UOp where
  kind : Int
  n : Int
  b : Bs
def UOp.v (o : UOp) : List AV := [ai o.kind, ai o.n, bv o.b]
def opv (l : List UOp) : List (List AV) := l.map UOp.v
theorem opv_len (l : List UOp) : (opv l).length = l.length := by simp [opv]
theorem opv_at {l : List UOp} {i : Nat} {o : UOp} (h : l[i]? = some o) (z : Bool) (f : Option Nat) (k : IntKind) : iaddrW 3 none (lst z 3 f (opv l)) (.c (.int k i)) = some (.vp [ai o.kind, ai o.n, bv o.b] 0) := iaddrW_lst _ _ _ (by simp [opv, h, UOp.v]) k
theorem u64_id (n : Int) : ∃ id : Nat, IntKind.u64.wrap n = (id : Int) := by
  refine ⟨(IntKind.u64.wrap n).toNat, ?_⟩
  have : 0 ≤ IntKind.u64.wrap n := by
    simp only [IntKind.wrap, IntKind.bits, IntKind.signed]
    simp
    omega
  omega
theorem QM.push_last (q : QM) (b : List Nat) : (q.push b).1.last ≤ q.last + 1 := by
  unfold QM.push
  split
  · simp
  · split
    · simp
    · split <;> simp
theorem QM.disc_last (q : QM) (id : Nat) : (q.discard id).1.last = q.last := by
  unfold QM.discard
  split
  · rfl
  · split <;> rfl
end Go.A.V.S

namespace Go.A.V.S
open Go Go.A
set_option linter.unusedSimpArgs false
set_option linter.unusedVariables false
/-- An entity in rows rq and rs, and the document's queue in row rr, say the same; m lies between them. -/
structure LS (N : Int) (rq rs m rr : Nat) (q : QM) (G : Heap) : Prop where
  ok : q.Ok
  tk : q.taken = 0
  st : ∃ z, G = PW N G rq rs q z
  bt : Bt G rq rs
  lt : rq < m ∧ rs < m
  dq : ∃ a b c x, DQ G m rr a b c x ∧ Rel q x
section
variable {N : Int} {rq rs m rr : Nat} {q : QM} {G H : Heap} {z : Bool}
theorem PW_get {j : Nat} (h1 : j ≠ rq) (h2 : j ≠ rs) : (PW N H rq rs q z)[j]? = H[j]? := by
  rw [PW, RC, List.getElem?_set_ne (by omega), QH, RC, List.getElem?_set_ne (by omega)]
theorem PW_self (hb : Bt H rq rs) (h1 : H[rq]? = some (.row (qv q z))) (h2 : H[rs]? = some (.row (pw N rq))) : PW N H rq rs q z = H := by
  rw [PW, QH, RC_self h1, RC_self h2]
theorem PW_q (hb : Bt H rq rs) : (PW N H rq rs q z)[rq]? = some (.row (qv q z)) := by
  rw [PW, RC, List.getElem?_set_ne (Ne.symm hb.ne), QH, RC_get hb.q]
theorem PW_r (hb : Bt H rq rs) : (PW N H rq rs q z)[rs]? = some (.row (pw N rq)) := by
  rw [PW, RC_get (PW_s hb)]
/-- What the program does. -/
theorem DQ.prog {a b c k : Nat} {x : RQ} {q' : QM} {z' : Bool} (hl : rq < m ∧ rs < m) (hG : G = PW N G rq rs q z) (h : DQ G m rr a b c x) : DQ (PW N (G ++ List.replicate k .other) rq rs q' z') m rr a b c x :=
  h.mono fun j o hj ho => by
    have hjl : j < G.length := (List.getElem?_eq_some_iff.1 ho).1
    rw [PW_get (by omega) (by omega), List.getElem?_append_left hjl]
    exact ho
/-- What the document does. -/
theorem LS.doc {a b c : Nat} {x : RQ} {G2 : Heap} (ho : q.Ok) (ht : q.taken = 0) (hl : rq < m ∧ rs < m) (hb : Bt G rq rs) (hk : Beh m (PW N G rq rs q z) G2) (hd : DQ G2 m rr a b c x) (hr : Rel q x) : LS N rq rs m rr q G2 := by
  have hle := hk.len
  rw [PW_len] at hle
  have hb2 : Bt G2 rq rs := ⟨by have := hb.q; omega, by have := hb.s; omega, hb.ne⟩
  exact ⟨ho, ht, ⟨z, (PW_self hb2 (by rw [hk.old _ hl.1]; exact PW_q hb) (by rw [hk.old _ hl.2]; exact PW_r hb)).symm⟩, hb2, hl, a, b, c, x, hd, hr⟩
theorem Rel.len {x : RQ} (h : Rel q x) {k : Nat} (hl : q.last ≤ k) : x.L.length ≤ k := by rw [h.n1]; exact hl
theorem LS.bytes (h : LS N rq rs m rr q G) (hl : q.last ≤ 100000) : callW P f_plain_Entity_Bytes [.ptr rs 0 11] G = some (ai q.bytes, G) ∧ callW P f_R04_Queue_Bytes [.ptr rr 0 4] G = some (ai q.bytes, G) := by
  obtain ⟨z, hG⟩ := h.st
  obtain ⟨a, b, c, x, hd, hr⟩ := h.dq
  refine ⟨?_, d_Bytes hd h.ok hr (hr.len hl)⟩
  have := pn_Bytes (N := N) (q := q) (z := z) h.bt
  rw [← hG] at this
  exact this
theorem LS.push (h : LS N rq rs m rr q G) (hl : q.last ≤ 99999) (b : Bs) (hb : b.2.length ≤ 1100) (hby : Bytes b.2) :
    ∃ G1 G2 id e, callW P f_plain_Entity_Push [.ptr rs 0 11, bv b] G = some (.tup [ul id, ai (e : Nat)], G1) ∧ callW P f_R04_Queue_Push [.ptr rr 0 4, bv b] G1 = some (.tup [ul id, ai (e : Nat)], G2) ∧ LS N rq rs m rr (q.push b.2).1 G2 := by
  obtain ⟨z, hG⟩ := h.st
  obtain ⟨a, bb, c, x, hd, hr⟩ := h.dq
  have hlt := h.lt
  have hln : x.L.length ≤ 100000 := hr.len (by omega)
  obtain ⟨z', hP⟩ := pn_Push (N := N) (q := q) (z := z) h.bt h.ok (by omega) b (by omega)
  rw [← hG] at hP
  have hd1 : DQ (PW N G rq rs (q.push b.2).1 z') m rr a bb c x := by
    have := DQ.prog (k := 0) (q' := (q.push b.2).1) (z' := z') hlt hG hd
    rw [List.replicate_zero, List.append_nil] at this
    exact this
  have hok := QM.push_ok h.ok hby
  have hsame : ∀ e : Nat, (q.push b.2) = (q, 0, e) → callW P f_R04_Queue_Push [.ptr rr 0 4, bv b] (PW N G rq rs (q.push b.2).1 z') = some (.tup [ul 0, ai e], PW N G rq rs (q.push b.2).1 z') → ∃ G1 G2 id e, callW P f_plain_Entity_Push [.ptr rs 0 11, bv b] G = some (.tup [ul id, ai (e : Nat)], G1) ∧ callW P f_R04_Queue_Push [.ptr rr 0 4, bv b] G1 = some (.tup [ul id, ai (e : Nat)], G2) ∧ LS N rq rs m rr (q.push b.2).1 G2 := fun e he hc => by
    rw [he] at hP hc hd1 ⊢
    exact ⟨_, _, _, _, hP, hc, LS.doc h.ok h.tk hlt h.bt (Beh.refl _ _) hd1 hr⟩
  by_cases h0 : b.2.length = 0
  · exact hsame 1 (by unfold QM.push; rw [if_pos h0]) (d_Push_1 b h0 _)
  by_cases h1 : 1000 < b.2.length
  · exact hsame 2 (by unfold QM.push; rw [if_neg h0, if_pos h1]) (d_Push_2 b h1 _)
  by_cases h2 : 64 ≤ q.l.length ∨ q.room < q.bytes + b.2.length
  · exact hsame 5 (by unfold QM.push; rw [if_neg h0, if_neg h1, if_pos h2]) (d_Push_5 hd1 h.ok hr hln b h0 (by omega) h2)
  · have he : q.push b.2 = (⟨q.room, q.l ++ [(q.last + 1, b.2)], q.taken, q.last + 1⟩, q.last + 1, 0) := by unfold QM.push; rw [if_neg h0, if_neg h1, if_neg h2]
    obtain ⟨a1, b1, c1, G2, d1, d2, d3⟩ := d_Push_0 hd1 h.ok hr hln b h0 (by omega) (by omega)
    have hr2 := hr.push h.ok b.2
    rw [he] at hP hok d2 d3 ⊢
    rw [hr.n1] at d3
    exact ⟨_, _, _, _, hP, d3, LS.doc hok h.tk hlt h.bt d2 d1 hr2⟩
theorem LS.disc (h : LS N rq rs m rr q G) (hl : q.last ≤ 100000) (id : Nat) :
    ∃ G1 G2 e, callW P f_plain_Entity_Discard [.ptr rs 0 11, ul id] G = some (ai (e : Nat), G1) ∧ callW P f_R04_Queue_Discard [.ptr rr 0 4, ul id] G1 = some (ai (e : Nat), G2) ∧ LS N rq rs m rr (q.discard id).1 G2 := by
  obtain ⟨z, hG⟩ := h.st
  obtain ⟨a, bb, c, x, hd, hr⟩ := h.dq
  have hlt := h.lt
  obtain ⟨z', k, hP⟩ := pn_Discard (N := N) (q := q) (z := z) h.bt h.ok id
  rw [← hG] at hP
  have hd1 := DQ.prog (k := k) (q' := (q.discard id).1) (z' := z') hlt hG hd
  obtain ⟨x', G2, d1, d2, d3, d4, d5⟩ := d_Discard hd1 h.ok hr (hr.len hl) id
  have htk : (q.discard id).1.taken = 0 := by
    unfold QM.discard
    split
    · exact h.tk
    · split
      · exact h.tk
      · exact h.tk
  exact ⟨_, _, _, hP, d5, LS.doc (QM.discard_ok h.ok id) htk hlt (h.bt.app _) d4 d1 d2⟩
theorem LS.reset (h : LS N rq rs m rr q G) (hl : q.last ≤ 100000) :
    ∃ G1 G2, callW P f_plain_Entity_Reset [.ptr rs 0 11] G = some (lst true 1 (some 0) (uls q.ids), G1) ∧ callW P f_R04_Queue_Clear [.ptr rr 0 4] G1 = some (lst true 1 (some 0) (uls q.ids), G2) ∧ LS N rq rs m rr q.clear G2 := by
  obtain ⟨z, hG⟩ := h.st
  obtain ⟨a, bb, c, x, hd, hr⟩ := h.dq
  have hlt := h.lt
  have hP := pn_Reset (N := N) (q := q) (z := z) h.bt h.ok
  rw [← hG] at hP
  have hd1 : DQ (PW N G rq rs q.clear true) m rr a bb c x := by
    have := DQ.prog (k := 0) (q' := q.clear) (z' := true) hlt hG hd
    rw [List.replicate_zero, List.append_nil] at this
    exact this
  obtain ⟨G2, d1, d2, d3⟩ := d_Clear hd1 hr (hr.len hl)
  exact ⟨_, _, hP, d3, LS.doc (QM.clear_ok h.ok) rfl hlt h.bt d2 d1 hr.clear⟩
theorem LS.hear (h : LS N rq rs m rr q G) (hN : 1 ≤ N ∧ N ≤ 20000) (b : Bs) :
    ∃ v e, (v = nilS ∨ v = bv b) ∧ callW P f_plain_Entity_Hear [.ptr rs 0 11, bv b] G = some (.tup [v, ai (e : Nat)], G) ∧ callW P f_R15_Hear [bv b] G = some (.tup [v, ai (e : Nat)], G) := by
  obtain ⟨z, hG⟩ := h.st
  by_cases h0 : b.2.length = 0
  · have hP := pn_Hear_e (N := N) (q := q) (z := z) hN h.bt b 8 (.inl ⟨h0, rfl⟩)
    rw [← hG] at hP
    exact ⟨_, _, .inl rfl, hP, d15_Hear_e b 8 (.inl ⟨h0, rfl⟩) G⟩
  by_cases h1 : 1000 < b.2.length
  · have hP := pn_Hear_e (N := N) (q := q) (z := z) hN h.bt b 2 (.inr ⟨h1, rfl⟩)
    rw [← hG] at hP
    exact ⟨_, _, .inl rfl, hP, d15_Hear_e b 2 (.inr ⟨h1, rfl⟩) G⟩
  · have hP := pn_Hear (N := N) (q := q) (z := z) hN h.bt b h0 (by omega)
    rw [← hG] at hP
    exact ⟨_, 0, .inr rfl, hP, d15_Hear_ok b h0 (by omega) G⟩
theorem LS.build (h : LS N rq rs m rr q G) (hl : q.last ≤ 100000) (g : Int) :
    ∃ G1 G2 q' v id e, (v = nilS ∨ ∃ t, v = bv (false, t) ∧ Bytes t) ∧ callW P f_plain_Entity_Build [.ptr rs 0 11, ai g] G = some (.tup [v, ul id, ai (e : Nat)], G1) ∧ callW P f_R15_Build [.ptr rr 0 4, ai g] G1 = some (.tup [v, ul id, ai (e : Nat)], G2) ∧ LS N rq rs m rr q' G2 ∧ q'.last = q.last := by
  obtain ⟨z, hG⟩ := h.st
  obtain ⟨a, bb, c, x, hd, hr⟩ := h.dq
  have hlt := h.lt
  have hln := hr.len hl
  have hok := h.ok
  by_cases h0 : g < 0 ∨ 4096 < g
  · have hP := pn_BuildA (N := N) (q := q) (z := z) h.bt h.ok g h0
    rw [← hG] at hP
    exact ⟨G, G, q, nilS, 0, 1, .inl rfl, hP, d15_arg g h0 G, h, rfl⟩
  obtain ⟨g, rfl⟩ : ∃ k : Nat, g = k := ⟨g.toNat, by omega⟩
  cases hql : q.l with
  | nil =>
    have hP := pn_Build0 (N := N) (q := q) (z := z) h.bt h.ok hql g (by omega)
    rw [← hG] at hP
    exact ⟨G, G, q, nilS, 0, 4, .inl rfl, hP, d15_none hd hr hln hql g (by omega) (by omega), h, rfl⟩
  | cons t l =>
    by_cases hs : g < t.2.length
    · have hP := pn_Build1 (N := N) (q := q) (z := z) h.bt h.ok h.tk hql g (by omega) hs
      rw [← hG] at hP
      exact ⟨G, G, q, nilS, 0, 16, .inl rfl, hP, d15_grant hd hr hln hql h.tk g (by omega) (by omega) (by omega), h, rfl⟩
    · obtain ⟨z', hP⟩ := pn_Build2 (N := N) (q := q) (z := z) h.bt h.ok h.tk hql g (by omega) (by omega)
      rw [← hG] at hP
      have hd1 : DQ (PW N G rq rs ⟨q.room, l, 0, q.last⟩ z') m rr a bb c x := by
        have := DQ.prog (k := 0) (q' := ⟨q.room, l, 0, q.last⟩) (z' := z') hlt hG hd
        rw [List.replicate_zero, List.append_nil] at this
        exact this
      obtain ⟨x', G2, d1, d2, d3, d4, d5⟩ := d15_ok hd1 h.ok hr hln hql h.tk g (by omega) (by omega)
      exact ⟨_, _, _, _, _, 0, .inr ⟨t.2, rfl, (h.ok.each t (by rw [hql]; simp)).2.2.1⟩, hP, d5, LS.doc (h.ok.behind hql) rfl hlt h.bt d4 d1 d2, rfl⟩
end
end Go.A.V.S

namespace Go.A.V.S
open Go Go.A Go.A.V
set_option linter.unusedSimpArgs false
set_option linter.unusedVariables false
theorem l15alive (H : Heap) : callW P f_L15_alive [] H = some (ab true, H) := by
  rw [callW_eq]; rfl
end Go.A.V.S

namespace Go.A.V.S
open Go Go.A Go.A.V
set_option linter.unusedSimpArgs false
set_option linter.unusedVariables false
theorem lst_strP (H : Heap) (z : Bool) (f : Option Nat) (l : List Nat) : strV H (lst z 1 f (byteCs l)) = some (.c (.string (strB l))) := by
  have h : ∀ f, strV H (.vs 1 f (byteCs l)) = some (.c (.string (strB l))) := fun f => by
    simp only [strV]
    rw [if_pos trivial, Go.A.byteCs_flat, bytesOf_au]
    rfl
  rcases lst_cases z 1 f (byteCs l) with ⟨_, e1, e⟩ | ⟨e, _⟩
  · have : l = [] := by simpa [byteCs] using e1
    subst this
    rw [e]; rfl
  · rw [e]; exact h f
end Go.A.V.S

namespace Go.A.V.S
open Go Go.A
set_option linter.unusedSimpArgs false
set_option linter.unusedVariables false
theorem str_nil : binA .eql .no (.c (.string ⟨#[]⟩)) (.c (.string ⟨#[]⟩)) = some (ab true) := by
  have e : (⟨#[]⟩ : ByteArray) = strB [] := rfl
  have hb : Bytes [] := fun b h => by simp at h
  rw [e, binA_strEq .no hb hb]; simp
section
variable {N : Int} {rq rs m rr : Nat} {zo : Bool} {l : List UOp}
def InvPL (N : Int) (rq rs m rr : Nat) (zo : Bool) (l : List UOp) (zz : Nat) (σ : List AV) (G : Heap) : Prop :=
  ∃ (i : Nat) (q : QM), i + zz = 61 ∧ i ≤ 60 ∧ LS N rq rs m rr q G ∧ q.last ≤ i ∧ σ = L 258 (((((Tr.full 9).put (path 1) (lst zo 3 none (opv l))).put (path 5) (.ptr rs 0 11)).put (path 20) (.ptr rr 0 4)).put (path 21) (ai i))
def PostPL (e : AExit) (σ : List AV) (G : Heap) : Prop :=
  (e = .exit 0 ∧ kill [1, 5, 20, 21, 118, 119, 120, 121, 122, 123, 124, 125] σ = L 258 (Tr.full 9)) ∨ (e = .ret ∧ resultsA F_L15_PlainLives.res σ = some (ab true))
set_option maxHeartbeats 8000000 in
theorem pl_loop (hN : 1 ≤ N ∧ N ≤ 20000) (hby : ∀ o ∈ l, Bytes o.b.2) (zz : Nat) (σ : List AV) (G : Heap) (hI : InvPL N rq rs m rr zo l zz (kill (headK lp0_L15_PlainLives) σ) G) :
    Ends (execW P f_L15_PlainLives (.loop lp0_L15_PlainLives) σ G) fun s => PostPL s.e s.σ s.H := by
  refine loop_ends (fun zz σ G => InvPL N rq rs m rr zo l zz σ G) PostPL ?_ zz σ G hI
  clear hI zz σ G
  rintro zz σ G ⟨i, q, hz, hi60, hS, hla, rfl⟩
  have hAl := l15alive
  have hlw : lenW (lst zo 3 none (opv l)) = some l.length := by rw [lenW_lst, opv_len]
  by_cases hi : i < l.length
  · have hi' : (i : Int) < l.length := by omega
    by_cases h80 : i < 60
    · have h80' : (i : Int) < 60 := by omega
      obtain ⟨o, ho⟩ : ∃ o, l[i]? = some o := ⟨_, List.getElem?_eq_getElem hi⟩
      have q1 := opv_at ho zo none .i64
      have hoby := hby o (List.mem_of_getElem? ho)
      obtain ⟨n, hnl⟩ : ∃ x, l.length = x := ⟨_, rfl⟩
      rw [hnl] at hi hi' hlw
      have hlb := bv_len o.b
      have hlen11 : o.b.2.length ≤ 1100 ∨ 1100 < o.b.2.length := by omega
      obtain ⟨bl, hbl⟩ : ∃ x, o.b.2.length = x := ⟨_, rfl⟩
      rw [hbl] at hlb
      by_cases h11 : 1100 < bl
      · have h11' : (bl : Int) > 1100 := by omega
        have h11'' : (1100 : Int) < bl := by omega
        clear hS
        simp -implicitDefEqProofs [-toCells, -AV.one, -forget, c_L15_PlainLives, lp0_L15_PlainLives, hlw, hi, hi', h80, h80', q1, hlb, h11, h11', h11'', hAl]
        exact .inr ⟨rfl, by simp [F_L15_PlainLives]⟩
      have h11' : ¬ (bl : Int) > 1100 := by omega
      have h11'' : ¬ (1100 : Int) < bl := by omega
      have w1 : IntKind.i64.wrap ((i : Int) + 1) = ((i + 1 : Nat) : Int) := by rw [wrap_i64 (by omega) (by omega)]; omega
      have hfin : ∀ (q' : QM) (G' : Heap), LS N rq rs m rr q' G' → q'.last ≤ i + 1 → (callW P f_plain_Entity_Bytes [.ptr rs 0 11] G' = some (ai q'.bytes, G') ∧ callW P f_R04_Queue_Bytes [.ptr rr 0 4] G' = some (ai q'.bytes, G')) ∧ ∀ σ', σ' = L 258 (((((Tr.full 9).put (path 1) (lst zo 3 none (opv l))).put (path 5) (.ptr rs 0 11)).put (path 20) (.ptr rr 0 4)).put (path 21) (ai (i + 1 : Nat))) → ∃ z, z < zz ∧ InvPL N rq rs m rr zo l z σ' G' := fun q' G' h1 h2 => ⟨h1.bytes (by omega), fun σ' hσ' => ⟨zz - 1, by omega, i + 1, q', by omega, by omega, h1, h2, hσ'⟩⟩
      obtain ⟨i1, hi1⟩ : ∃ x, i + 1 = x := ⟨_, rfl⟩
      rw [hi1] at w1
      by_cases hk0 : o.kind = 0
      · rw [hk0] at q1
        obtain ⟨G1, G2, id, e, hA, hB, hS2⟩ := hS.push (by omega) o.b (by omega) hoby
        obtain ⟨⟨b1, b2⟩, hf⟩ := hfin _ G2 hS2 (by have := QM.push_last q o.b.2; omega)
        rw [hi1] at hf
        generalize (q.push o.b.2).1.bytes = by' at *
        clear hS hS2 hfin
        simp -implicitDefEqProofs [-toCells, -AV.one, -forget, c_L15_PlainLives, lp0_L15_PlainLives, hlw, hi, hi', h80, h80', q1, hlb, h11, h11', h11'', hA, hB, b1, b2, w1]
        exact hf _ (by simp)
      by_cases hk1 : o.kind = 1
      · rw [hk1] at q1
        by_cases hn0 : o.n < 0
        · obtain ⟨⟨b1, b2⟩, hf⟩ := hfin q G hS (by omega)
          rw [hi1] at hf
          generalize q.bytes = by' at *
          clear hS hfin
          simp -implicitDefEqProofs [-toCells, -AV.one, -forget, c_L15_PlainLives, keepB, -goodB, goodB_L, sameV, dstNot, dstNe, SOpG.reads, SOp.slots, SX.slots, SOp.noL, rdV_load, selfE_lst, selfE, selfEs, eqV, lp0_L15_PlainLives, hlw, hi, hi', h80, h80', q1, hlb, h11, h11', h11'', hn0, b1, b2, w1]
          exact hf _ (by simp)
        · obtain ⟨id, hid⟩ := u64_id o.n
          obtain ⟨G1, G2, e, hA, hB, hS2⟩ := hS.disc (by omega) id
          obtain ⟨⟨b1, b2⟩, hf⟩ := hfin _ G2 hS2 (by rw [QM.disc_last]; omega)
          rw [hi1] at hf
          generalize (q.discard id).1.bytes = by' at *
          clear hS hS2 hfin
          simp -implicitDefEqProofs [-toCells, -AV.one, -forget, c_L15_PlainLives, keepB, -goodB, goodB_L, sameV, dstNot, dstNe, SOpG.reads, SOp.slots, SX.slots, SOp.noL, rdV_load, selfE_lst, selfE, selfEs, eqV, lp0_L15_PlainLives, hlw, hi, hi', h80, h80', q1, hlb, h11, h11', h11'', hn0, hid, hA, hB, b1, b2, w1]
          exact hf _ (by simp)
      by_cases hk2 : o.kind = 2
      · rw [hk2] at q1
        obtain ⟨G1, G2, q', v, id, e, hv, hA, hB, hS2, hq'⟩ := hS.build (by omega) o.n
        obtain ⟨⟨b1, b2⟩, hf⟩ := hfin _ G2 hS2 (by omega)
        rw [hi1] at hf
        generalize q'.bytes = by' at *
        clear hS hS2 hfin
        rcases hv with rfl | ⟨t, rfl, hbt⟩
        · have hstr : binA .eql .no (.c (.string ⟨#[]⟩)) (.c (.string ⟨#[]⟩)) = some (ab true) := str_nil
          have s2 : ∀ H, strV H nilS = some (.c (.string ⟨#[]⟩)) := fun H => rfl
          simp -implicitDefEqProofs [-toCells, -AV.one, -forget, c_L15_PlainLives, lp0_L15_PlainLives, hlw, hi, hi', h80, h80', q1, hlb, h11, h11', h11'', hA, hB, s2, hstr, b1, b2, w1]
          exact hf _ (by simp)
        · have s2 : ∀ H, strV H (bv (false, t)) = some (.c (.string (strB t))) := fun H => lst_strP H false none t
          have hstr : binA .eql .no (.c (.string (strB t))) (.c (.string (strB t))) = some (ab true) := by
            rw [binA_strEq .no hbt hbt]; simp
          generalize strB t = S at *
          simp -implicitDefEqProofs [-toCells, -AV.one, -forget, c_L15_PlainLives, lp0_L15_PlainLives, hlw, hi, hi', h80, h80', q1, hlb, h11, h11', h11'', hA, hB, s2, hstr, b1, b2, w1]
          exact hf _ (by simp)
      by_cases hk3 : o.kind = 3
      · rw [hk3] at q1
        obtain ⟨v, e, hv, hA, hB⟩ := hS.hear hN o.b
        obtain ⟨⟨b1, b2⟩, hf⟩ := hfin q G hS (by omega)
        rw [hi1] at hf
        generalize q.bytes = by' at *
        clear hS hfin
        rcases hv with rfl | rfl
        · have hstr : binA .eql .no (.c (.string ⟨#[]⟩)) (.c (.string ⟨#[]⟩)) = some (ab true) := str_nil
          have s2 : ∀ H, strV H nilS = some (.c (.string ⟨#[]⟩)) := fun H => rfl
          simp -implicitDefEqProofs [-toCells, -AV.one, -forget, c_L15_PlainLives, lp0_L15_PlainLives, hlw, hi, hi', h80, h80', q1, hlb, h11, h11', h11'', hA, hB, s2, hstr, b1, b2, w1]
          exact hf _ (by simp)
        · have s2 : ∀ H, strV H (bv o.b) = some (.c (.string (strB o.b.2))) := fun H => lst_strP H o.b.1 none o.b.2
          have hstr : binA .eql .no (.c (.string (strB o.b.2))) (.c (.string (strB o.b.2))) = some (ab true) := by
            rw [binA_strEq .no hoby hoby]; simp
          generalize strB o.b.2 = S at *
          simp -implicitDefEqProofs [-toCells, -AV.one, -forget, c_L15_PlainLives, lp0_L15_PlainLives, hlw, hi, hi', h80, h80', q1, hlb, h11, h11', h11'', hA, hB, s2, hstr, b1, b2, w1]
          exact hf _ (by simp)
      by_cases hk4 : o.kind = 4
      · rw [hk4] at q1
        obtain ⟨G1, G2, hA, hB, hS2⟩ := hS.reset (by omega)
        obtain ⟨⟨b1, b2⟩, hf⟩ := hfin _ G2 hS2 (by show q.last ≤ _; omega)
        rw [hi1] at hf
        have hlu : ∀ f, lenW (lst true 1 f (uls q.ids)) = some q.ids.length := fun f => by rw [lenW_lst, uls_len]
        generalize q.clear.bytes = by' at *
        generalize q.ids.length = k at *
        generalize uls q.ids = us at *
        clear hS hS2 hfin
        simp -implicitDefEqProofs [-toCells, -AV.one, -forget, c_L15_PlainLives, lp0_L15_PlainLives, hlw, hi, hi', h80, h80', q1, hlb, h11, h11', h11'', hA, hB, hlu, b1, b2, w1]
        exact hf _ (by simp)
      obtain ⟨⟨b1, b2⟩, hf⟩ := hfin q G hS (by omega)
      rw [hi1] at hf
      generalize q.bytes = by' at *
      clear hS hfin
      simp -implicitDefEqProofs [-toCells, -AV.one, -forget, c_L15_PlainLives, lp0_L15_PlainLives, hlw, hi, hi', h80, h80', q1, hlb, h11, h11', h11'', hk0, hk1, hk2, hk3, hk4, b1, b2, w1]
      exact hf _ (by simp)
    · have h80' : ¬ (i : Int) < 60 := by omega
      clear hS
      simp -implicitDefEqProofs [-toCells, -AV.one, -forget, c_L15_PlainLives, lp0_L15_PlainLives, hlw, hi, hi', h80, h80']
      exact .inl ⟨rfl, by simp⟩
  · have hi' : ¬ (i : Int) < l.length := by omega
    clear hS
    simp -implicitDefEqProofs [-toCells, -AV.one, -forget, c_L15_PlainLives, lp0_L15_PlainLives, hlw, hi, hi']
    exact .inl ⟨rfl, by simp⟩
end
end Go.A.V.S

namespace Go.A.V.S
open Go Go.A Go.A.V
set_option linter.unusedSimpArgs false
set_option linter.unusedVariables false
theorem iss_cfg {vs : List AV} (h : V.CT.iss [.i .i64, .i .i64, .i .i64, .i .i64, .i .i64, .i .i64, .i .i64, .i .i64, .i .i64, .i .i64] vs) : ∃ c : Cfg, vs = c.v := by
  obtain ⟨c0, r0, rfl, h0, h⟩ := iss_cons h
  obtain ⟨c1, r1, rfl, h1, h⟩ := iss_cons h
  obtain ⟨c2, r2, rfl, h2, h⟩ := iss_cons h
  obtain ⟨c3, r3, rfl, h3, h⟩ := iss_cons h
  obtain ⟨c4, r4, rfl, h4, h⟩ := iss_cons h
  obtain ⟨c5, r5, rfl, h5, h⟩ := iss_cons h
  obtain ⟨c6, r6, rfl, h6, h⟩ := iss_cons h
  obtain ⟨c7, r7, rfl, h7, h⟩ := iss_cons h
  obtain ⟨c8, r8, rfl, h8, h⟩ := iss_cons h
  obtain ⟨c9, r9, rfl, h9, h⟩ := iss_cons h
  obtain rfl := iss_nil h
  obtain ⟨a0, rfl, _⟩ := is_i h0
  obtain ⟨a1, rfl, _⟩ := is_i h1
  obtain ⟨a2, rfl, _⟩ := is_i h2
  obtain ⟨a3, rfl, _⟩ := is_i h3
  obtain ⟨a4, rfl, _⟩ := is_i h4
  obtain ⟨a5, rfl, _⟩ := is_i h5
  obtain ⟨a6, rfl, _⟩ := is_i h6
  obtain ⟨a7, rfl, _⟩ := is_i h7
  obtain ⟨a8, rfl, _⟩ := is_i h8
  obtain ⟨a9, rfl, _⟩ := is_i h9
  exact ⟨⟨a0, a1, a2, a3, a4, a5, a6, a7, a8, a9⟩, rfl⟩
theorem isss_ops : ∀ (l : List (List AV)), (∀ cs ∈ l, V.CT.iss [.i .i64, .i .i64, .sl [.i .u8]] cs) → ∃ os : List UOp, l = opv os ∧ ∀ o ∈ os, Bytes o.b.2
  | [], _ => ⟨[], rfl, by simp⟩
  | x :: r, h => by
    have h1 := h x (by simp)
    obtain ⟨c0, r0, rfl, h0, h1⟩ := iss_cons h1
    obtain ⟨c1, r1, rfl, h2, h1⟩ := iss_cons h1
    obtain ⟨c2, r2, rfl, h3, h1⟩ := iss_cons h1
    obtain rfl := iss_nil h1
    obtain ⟨a0, rfl, _⟩ := is_i h0
    obtain ⟨a1, rfl, _⟩ := is_i h2
    obtain ⟨b, rfl, hb⟩ := is_bytes h3
    obtain ⟨os, rfl, ho⟩ := isss_ops r (fun cs hc => h cs (by simp [hc]))
    refine ⟨⟨a0, a1, b⟩ :: os, rfl, fun o hm => ?_⟩
    rcases List.mem_cons.1 hm with rfl | hm
    · exact hb
    · exact ho o hm
theorem is_ops {c : AV} (h : V.CT.is (.sl [.i .i64, .i .i64, .sl [.i .u8]]) c) : ∃ (z : Bool) (os : List UOp), c = lst z 3 none (opv os) ∧ ∀ o ∈ os, Bytes o.b.2 := by
  rw [V.CT.is] at h
  obtain ⟨z, l, rfl, hl⟩ := h
  obtain ⟨os, rfl, ho⟩ := isss_ops l hl
  exact ⟨z, os, rfl, ho⟩
end Go.A.V.S

namespace Go.A.V.S
open Go Go.A
set_option linter.unusedSimpArgs false
set_option linter.unusedVariables false
def zrC : List AV := [ai 0, ai 0, ai 0, ai 0, ai 0, ai 0, ai 0, ai 0, ai 0, ai 0, .c (.pointer none)]
theorem zr_row (K X : Heap) : rdRow (K ++ [.row zrC] ++ X) K.length 10 1 11 = some [.c (.pointer none)] := rd_row (cs := zrC) (by rw [List.append_assoc, List.getElem?_append_right (Nat.le_refl _), Nat.sub_self]; rfl) rfl rfl
theorem zr_row0 (K : Heap) : rdRow (K ++ [.row zrC]) K.length 10 1 11 = some [.c (.pointer none)] := by
  have := zr_row K []
  rwa [List.append_nil] at this
theorem pl_mid {N : Int} (hN : 1 ≤ N ∧ N ≤ 20000) (H : Heap) (l : List UOp) (zo : Bool) :
    ∀ G, G = PW N (H ++ [.other, .other]) H.length (H.length + 1) ⟨N.toNat, [], 0, 0⟩ true ++ [.row zrC] ++ [.row [ai N, nilS, nilS, nilS]] → ∀ σ, σ = L 258 (((((Tr.full 9).put (path 1) (lst zo 3 none (opv l))).put (path 5) (.ptr (H.length + 1) 0 11)).put (path 20) (.ptr (H.length + 3) 0 4)).put (path 21) (ai 0)) → InvPL N H.length (H.length + 1) (H.length + 2) (H.length + 3) zo l 61 σ G := by
  intro G hG σ hσ
  have hb : Bt (H ++ [.other, .other]) H.length (H.length + 1) := ⟨by simp, by simp, by omega⟩
  have hl0 : (PW N (H ++ [.other, .other]) H.length (H.length + 1) ⟨N.toNat, [], 0, 0⟩ true).length = H.length + 2 := by rw [PW_len]; simp
  have hlen : G.length = H.length + 4 := by rw [hG]; simp
  have g : ∀ j : Nat, j < H.length + 2 → G[j]? = (PW N (H ++ [.other, .other]) H.length (H.length + 1) ⟨N.toNat, [], 0, 0⟩ true)[j]? := fun j hj => by
    rw [hG, List.getElem?_append_left (by rw [List.length_append, hl0]; simp; omega), List.getElem?_append_left (by omega)]
  have hq : (⟨N.toNat, [], 0, 0⟩ : QM).Ok := ⟨by simp only; omega, by simp, by simp, fun _ => rfl, by simp, by simp [QM.bytes, tot], by simp [QM.ids]⟩
  have hbG : Bt G H.length (H.length + 1) := ⟨by omega, by omega, by omega⟩
  refine ⟨0, _, rfl, by omega, ⟨hq, rfl, ⟨true, (PW_self hbG ?_ ?_).symm⟩, hbG, by omega, 0, 0, 0, ⟨N.toNat, [], [], []⟩, ⟨?_, by omega, rfl, rfl, fun h => by simp at h, fun h => by simp at h, fun h => by simp at h, fun h => by simp at h⟩, ⟨rfl, rfl, rfl, rfl, rfl, rfl⟩⟩, Nat.le_refl _, hσ⟩
  · rw [g _ (by omega)]; exact PW_q hb
  · rw [g _ (by omega)]; exact PW_r hb
  · rw [hG, List.getElem?_append_right (by rw [List.length_append, hl0]; simp), List.length_append, hl0]
    have : ((N.toNat : Nat) : Int) = N := by omega
    simp [this, dsl]
set_option maxHeartbeats 4000000 in
theorem lPlainLives (c : Cfg) (zo : Bool) (l : List UOp) (hby : ∀ o ∈ l, Bytes o.b.2) (H : Heap) : ∃ H', callW P f_L15_PlainLives [.agg c.v, lst zo 3 none (opv l)] H = some (ab true, H') := by
  suffices hs : Ends (callW P f_L15_PlainLives [.agg c.v, lst zo 3 none (opv l)] H) fun y => y.1 = ab true by
    obtain ⟨⟨v, H'⟩, h2, rfl⟩ := hs
    exact ⟨H', h2⟩
  have hAl := l15alive
  have hNew := pn_New c H
  have hChk := fun H => rCheck c H
  have hb1 : (bv (false, [1]) : AV) = .vs 1 none [[.c (.int .u8 1)]] := rfl
  have n1 : ∀ H, callW P f_plain_Entity_Push [.c (.pointer none), .vs 1 none [[.c (.int .u8 1)]]] H = some (.tup [.c (.int .u64 0), ai 6], H) := fun H => by rw [← hb1]; exact nb_Push _ H
  have n2 : ∀ H, callW P f_plain_Entity_Hear [.c (.pointer none), .vs 1 none [[.c (.int .u8 1)]]] H = some (.tup [nilS, ai 6], H) := fun H => by rw [← hb1]; exact nb_Hear _ H
  have n3 := nb_Build
  have n4 := nb_Bytes
  have w00 : IntKind.i64.wrap 0 = 0 := rfl
  refine call_post 9 258 rfl (rfl : P.T f_L15_PlainLives = some F_L15_PlainLives) rfl (le_ok rfl) (fun e σ G => e = .ret ∧ resultsA F_L15_PlainLives.res σ = some (ab true)) ?_ ?_
  · rintro e σ G ⟨rfl, h⟩
    exact ⟨rfl, _, h, by simp, by simp⟩
  by_cases hc : c.chk = 0 ∧ c.mode = 0
  · rw [if_pos hc] at hNew
    obtain ⟨hN, hce⟩ := cfg_tm hc.1 hc.2
    rw [hc.1] at hChk
    have hmid := pl_mid hN H l zo
    have hL := fun σ G => pl_loop (N := c.queue) (rq := H.length) (rs := H.length + 1) (m := H.length + 2) (rr := H.length + 3) (zo := zo) (l := l) hN hby 61 σ G
    have hl0 : (PW c.queue (H ++ [.other, .other]) H.length (H.length + 1) ⟨c.queue.toNat, [], 0, 0⟩ true).length = H.length + 2 := by rw [PW_len]; simp
    obtain ⟨G, hG⟩ : ∃ x, PW c.queue (H ++ [.other, .other]) H.length (H.length + 1) ⟨c.queue.toNat, [], 0, 0⟩ true = x := ⟨_, rfl⟩
    rw [hG] at hNew hmid hl0
    have r0 := zr_row0 G
    have z1 := zr_Build r0
    have z2 := zr_Discard r0
    have z3 := zr_Reset r0
    have hlk : (G ++ [AObj.row zrC]).length = H.length + 3 := by simp [hl0]
    have hmid2 := hmid _ rfl
    clear hmid
    obtain ⟨K, hK⟩ : ∃ x, G ++ [AObj.row zrC] = x := ⟨_, rfl⟩
    rw [hK] at r0 z1 z2 z3 hlk hmid2
    have hK2 : ∀ X, G ++ ([AObj.row [ai 0, ai 0, ai 0, ai 0, ai 0, ai 0, ai 0, ai 0, ai 0, ai 0, .c (.pointer none)]] ++ X) = K ++ X := fun X => by rw [← hK, List.append_assoc]; rfl
    have hK3 : G ++ [AObj.row [ai 0, ai 0, ai 0, ai 0, ai 0, ai 0, ai 0, ai 0, ai 0, ai 0, .c (.pointer none)]] = K := hK
    rw [hl0] at z1 z2 z3
    generalize H.length + 1 = rs at *
    generalize H.length + 3 = rr at *
    generalize H.length + 2 = rz at *
    obtain ⟨mo, bi, wi, re, pr, ph, pp, pb, mr, qu⟩ := c
    simp only [Cfg.mk.injEq] at hce
    obtain ⟨rfl, rfl, rfl, rfl, rfl, rfl, rfl, rfl, rfl, _⟩ := hce
    simp only [Cfg.v] at hNew hChk hL hmid2 ⊢
    rw [F_L15_PlainLives]; simp -implicitDefEqProofs [-toCells, -AV.one, -forget, c_L15_PlainLives, hNew, hChk, n1, n2, n3, n4, z1, z2, z3, hl0, hK3, hlk, w00]
    repeat rw [Option.bind_assoc]
    refine Ends.block (P := PostPL) (hL _ _ (hmid2 _ (by simp [lp0_L15_PlainLives]))) ?_
    rintro e σ1 G1 (⟨rfl, k2⟩ | ⟨rfl, k2⟩)
    · simp -implicitDefEqProofs [-toCells, -AV.one, -forget, c_L15_PlainLives, k2, hAl]
      try simp [F_L15_PlainLives]
    · simp -implicitDefEqProofs [-toCells, -AV.one, -forget, c_L15_PlainLives]
      simpa [F_L15_PlainLives] using k2
  · rw [if_neg hc] at hNew
    obtain ⟨e, he⟩ : ∃ x, (if c.chk ≠ 0 then (c.chk : Int) else 9) = x := ⟨_, rfl⟩
    have he0 : ¬ e = 0 := by rw [← he]; split <;> omega
    rw [he] at hNew
    have r0 := zr_row0 H
    have z1 := zr_Build r0
    have z2 := zr_Discard r0
    have z3 := zr_Reset r0
    obtain ⟨K, hK⟩ : ∃ x, H ++ [AObj.row zrC] = x := ⟨_, rfl⟩
    rw [hK] at r0 z1 z2 z3
    have hK3 : H ++ [AObj.row [ai 0, ai 0, ai 0, ai 0, ai 0, ai 0, ai 0, ai 0, ai 0, ai 0, .c (.pointer none)]] = K := hK
    by_cases h1 : c.chk = 0
    · have h2 : ¬ c.mode = 0 := fun h2 => hc ⟨h1, h2⟩
      have he9 : e = 9 := by rw [← he, if_neg (by omega)]
      subst he9
      rw [h1] at hChk
      obtain ⟨mo, bi, wi, re, pr, ph, pp, pb, mr, qu⟩ := c
      simp only [Cfg.v] at *
      rw [F_L15_PlainLives]; simp -implicitDefEqProofs [-toCells, -AV.one, -forget, c_L15_PlainLives, hNew, hChk, h2, n1, n2, n3, n4, z1, z2, z3, hK3, hAl, w00]
      try simp [F_L15_PlainLives]
    · have hee : (c.chk : Int) = e := by rw [← he, if_pos h1]
      rw [hee] at hChk
      obtain ⟨mo, bi, wi, re, pr, ph, pp, pb, mr, qu⟩ := c
      simp only [Cfg.v] at *
      rw [F_L15_PlainLives]; simp -implicitDefEqProofs [-toCells, -AV.one, -forget, c_L15_PlainLives, hNew, hChk, he0, n1, n2, n3, n4, z1, z2, z3, hK3, hAl, w00]
      try simp [F_L15_PlainLives]
theorem plainLives_all (u0 : List AV) (h0 : V.CT.iss [.i .i64, .i .i64, .i .i64, .i .i64, .i .i64, .i .i64, .i .i64, .i .i64, .i .i64, .i .i64] u0) (c1 : AV) (h1 : V.CT.is (.sl [.i .i64, .i .i64, .sl [.i .u8]]) c1) : ∃ H', callW P f_L15_PlainLives [.agg u0, c1] [] = some (ab true, H') := by
  obtain ⟨c, rfl⟩ := iss_cfg h0
  obtain ⟨z, os, rfl, ho⟩ := is_ops h1
  exact lPlainLives c z os ho []
end Go.A.V.S
