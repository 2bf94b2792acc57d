/- The law UmtxNumbers. -/
import Derived.Test.YtnmobjhmohcjfaaXG
import Derived.Test.YtnmobjhmohcjfaaXC
set_option linter.unusedSimpArgs false
set_option linter.unusedVariables false
set_option linter.unnecessarySimpa false
namespace Go.A.V.S
open Go Go.A
set_option linter.unusedSimpArgs false
set_option linter.unusedVariables false
/-- A call of a law of umtx. -/
structure UOp where
  kind : Int
  n : Int
  b : Bs
def UOp.v (o : UOp) : List AV := [ai o.kind, ai o.n, bv o.b]
def opv (l : List UOp) : List (List AV) := l.map UOp.v
theorem opv_len (l : List UOp) : (opv l).length = l.length := by simp [opv]
theorem opv_at {l : List UOp} {i : Nat} {o : UOp} (h : l[i]? = some o) (z : Bool) (f : Option Nat) (k : IntKind) : iaddrW 3 none (lst z 3 f (opv l)) (.c (.int k i)) = some (.vp [ai o.kind, ai o.n, bv o.b] 0) := iaddrW_lst _ _ _ (by simp [opv, h, UOp.v]) k
theorem l16alive (H : Heap) : callW P f_L16_alive [] H = some (ab true, H) := by
  rw [callW_eq]; rfl
theorem chk_um {c : Cfg} (h : c.chk = 0) (hm : c.mode = 1) : ∃ w : Nat, (w = 5 ∨ w = 10) ∧ c.bits = w := by
  have hu : c.um = true := by
    unfold Cfg.chk at h
    rw [if_pos (by omega)] at h
    have hne : ¬ c.mode = 0 := by omega
    rw [if_neg hne, if_pos hm] at h
    cases hx : c.um with
    | true => rfl
    | false => rw [hx, Bool.false_and] at h; simp at h
  unfold Cfg.um at hu
  rw [Bool.and_eq_true] at hu
  have h1 := of_decide_eq_true hu.1
  rcases h1 with h1 | h1
  · exact ⟨5, .inl rfl, h1⟩
  · exact ⟨10, .inr rfl, h1⟩
theorem u64_id (n : Int) : ∃ id : Nat, IntKind.u64.wrap n = (id : Int) := by
  refine ⟨(IntKind.u64.wrap n).toNat, ?_⟩
  have : 0 ≤ IntKind.u64.wrap n := by
    simp only [IntKind.wrap, IntKind.bits, IntKind.signed]
    simp
    omega
  omega
theorem QM.push_last (q : QM) (b : List Nat) : (q.push b).1.last ≤ q.last + 1 := by
  unfold QM.push
  split
  · simp
  · split
    · simp
    · split <;> simp
theorem QM.disc_last (q : QM) (id : Nat) : (q.discard id).1.last = q.last := by
  unfold QM.discard
  split
  · rfl
  · split <;> rfl
theorem WrU_by {p : Um} {w : Nat} {out : List Nat} (h : WrU p w out) (hf : ∀ f ∈ p.ff, Bytes f.2) : Bytes out := by
  obtain ⟨a1, a2, x1, x2, rfl⟩ := h
  intro b hb
  rcases List.mem_append.1 hb with hb | hb
  · rcases List.mem_append.1 hb with hb | hb
    · exact x1.byte b hb
    · exact x2.byte b hb
  · obtain ⟨f, hf1, hf2⟩ := List.mem_flatten.1 hb
    obtain ⟨c, hc, rfl⟩ := List.mem_map.1 hf1
    exact hf c hc b hf2
theorem bR_bytes {q : QM} (hq : q.Ok) (w : Nat) (g : Int) (next : Nat) : ∀ f ∈ (umOf (bR q w g) next).ff, Bytes f.2 := fun f hf => by
  obtain ⟨b, hb, rfl⟩ := List.mem_map.1 hf
  exact (cutQ_F (room := rmOf w g) (w := 11) Bytes (fun b i n hb x hx => hb.2 x (List.mem_of_mem_drop (List.mem_of_mem_take hx))) 24 q [] [] 0 0 hq (fun f hf => by simp at hf)).1 b hb
theorem u_read {w : Nat} (hw : w = 5 ∨ w = 10) {u : Um} {out : List Nat} (hs : sizeU u w ≠ 0) (hW : WrU u w out) (hb : ∀ f ∈ u.ff, Bytes f.2) (H : Heap) :
    ∃ f k, (∃ o : List Bs, f = lst true 1 none (bvs o)) ∧ callW P f_umd_Read [.vs 1 none (byteCs out), ai w] H = some (.tup [.agg [ai u.fi, ai u.sn, f], ai 0], H ++ List.replicate k .other) := by
  obtain ⟨h1, h2, h3, h4⟩ := read_backU (w := (w : Int)) hs (by simpa using hW)
  have hlen := (readU_ok h1).2.1
  have hby := WrU_by hW hb
  have hbv : (.vs 1 none (byteCs out) : AV) = bv (false, out) := rfl
  rw [hbv]
  have key : ∃ (o : List Bs) (k : Nat), callW P f_umd_Read [bv (false, out), ai w] H = some (readUV out w (lst true 1 none (bvs o)), H ++ List.replicate k .other) := by
    rcases hw with rfl | rfl
    · obtain ⟨o, k, _, h⟩ := umd_Read5 (false, out) (by simp only; omega) hby H
      exact ⟨o, k, h⟩
    · obtain ⟨o, k, _, h⟩ := umd_Read10 (false, out) (by simp only; omega) hby H
      exact ⟨o, k, h⟩
  obtain ⟨o, k, h⟩ := key
  refine ⟨_, k, ⟨o, rfl⟩, ?_⟩
  rw [h, readUV, h1, if_pos rfl, h3, h4]
  rfl
section
variable {rq rs : Nat} {c : Cfg} {w : Nat} {zo : Bool} {l : List UOp}
def InvN (rq rs : Nat) (c : Cfg) (w : Nat) (zo : Bool) (l : List UOp) (zz : Nat) (σ : List AV) (G : Heap) : Prop :=
  ∃ (i : Nat) (q : QM) (z : Bool) (next : Nat) (H : Heap), i + zz = 81 ∧ q.Ok ∧ q.last ≤ i ∧ next < 2 ^ w ∧ At H rq rs ∧ G = SH H rq rs q z c next ∧
    σ = L 106 ((((((Tr.full 7).put (path 1) (lst zo 3 none (opv l))).put (path 2) (.lbox c.v)).put (path 5) (.ptr rs 0 12)).put (path 7) (ai next)).put (path 8) (ai i))
def PostN (e : AExit) (σ : List AV) (G : Heap) : Prop :=
  (e = .exit 0 ∧ kill [1, 2, 5, 7, 8, 27, 28, 29, 30, 31, 32, 33, 34] σ = L 106 (Tr.full 7)) ∨ (e = .ret ∧ resultsA F_L16_UmtxNumbers.res σ = some (ab true))
set_option maxHeartbeats 4000000 in
theorem num_loop (hw : w = 5 ∨ w = 10) (hb : c.bits = w) (hby : ∀ o ∈ l, Bytes o.b.2) (zz : Nat) (σ : List AV) (G : Heap) (hI : InvN rq rs c w zo l zz (kill (headK lp0_L16_UmtxNumbers) σ) G) :
    Ends (execW P f_L16_UmtxNumbers (.loop lp0_L16_UmtxNumbers) σ G) fun s => PostN s.e s.σ s.H := by
  refine loop_ends (fun zz σ G => InvN rq rs c w zo l zz σ G) PostN ?_ zz σ G hI
  clear hI zz σ G
  rintro zz σ G ⟨i, q, z, next, H, hz, hq, hla, hn, hAt, rfl, rfl⟩
  have hAl := l16alive
  have hlw : lenW (lst zo 3 none (opv l)) = some l.length := by rw [lenW_lst, opv_len]
  obtain ⟨mo, bi, wi, re, pr, ph, pp, pb, mr, qu⟩ := c
  simp only [Cfg.v] at *
  by_cases hi : i < l.length
  · have hi' : (i : Int) < l.length := by omega
    by_cases h80 : i < 80
    · have h80' : (i : Int) < 80 := by omega
      obtain ⟨o, ho⟩ : ∃ o, l[i]? = some o := ⟨_, List.getElem?_eq_getElem hi⟩
      have q1 := opv_at ho zo none .i64
      have hoby := hby o (List.mem_of_getElem? ho)
      obtain ⟨n, hnl⟩ : ∃ x, l.length = x := ⟨_, rfl⟩
      rw [hnl] at hi hi' hlw
      have hlb := bv_len o.b
      obtain ⟨bl, hbl⟩ : ∃ x, o.b.2.length = x := ⟨_, rfl⟩
      rw [hbl] at hlb
      by_cases h11 : 1100 < bl
      · have h11' : (bl : Int) > 1100 := by omega
        have h11'' : (1100 : Int) < bl := by omega
        obtain ⟨G, hG⟩ : ∃ x, SH H rq rs q z ⟨mo, bi, wi, re, pr, ph, pp, pb, mr, qu⟩ next = x := ⟨_, rfl⟩
        rw [hG]
        simp -implicitDefEqProofs [-toCells, -AV.one, -forget, c_L16_UmtxNumbers, lp0_L16_UmtxNumbers, hlw, hi, hi', h80, h80', q1, hlb, h11, h11', h11'', hAl]
        exact .inr ⟨rfl, by simp [F_L16_UmtxNumbers]⟩
      · have h11' : ¬ (bl : Int) > 1100 := by omega
        have h11'' : ¬ (1100 : Int) < bl := by omega
        have w1 : IntKind.i64.wrap ((i : Int) + 1) = ((i + 1 : Nat) : Int) := by rw [wrap_i64 (by omega) (by omega)]; omega
        obtain ⟨i1, hi1⟩ : ∃ x, i + 1 = x := ⟨_, rfl⟩
        rw [hi1] at w1
        obtain ⟨cc, hcc⟩ : ∃ x, (⟨mo, bi, wi, re, pr, ph, pp, pb, mr, qu⟩ : Cfg) = x := ⟨_, rfl⟩
        have hfin : ∀ (q' : QM) (z' : Bool) (next' : Nat) (H' : Heap), q'.Ok → q'.last ≤ i1 → next' < 2 ^ w → At H' rq rs → ∀ σ', σ' = L 106 ((((((Tr.full 7).put (path 1) (lst zo 3 none (opv l))).put (path 2) (.lbox [ai mo, ai bi, ai wi, ai re, ai pr, ai ph, ai pp, ai pb, ai mr, ai qu])).put (path 5) (.ptr rs 0 12)).put (path 7) (ai next')).put (path 8) (ai i1)) → ∃ m, m < zz ∧ InvN rq rs cc w zo l m σ' (SH H' rq rs q' z' cc next') := fun q' z' next' H' a1 a2 a3 a4 σ' hσ' => by
          subst hcc
          exact ⟨zz - 1, by omega, i1, q', z', next', H', by omega, a1, a2, a3, a4, rfl, hσ'⟩
        have hbc : cc.bits = w := by rw [← hcc]; exact hb
        rw [hcc]
        have hNx := fun q z next H (h : At H rq rs) => u_Next (q := q) (z := z) (c := cc) (next := next) h
        by_cases hk0 : o.kind = 0
        · obtain ⟨z', hP⟩ := u_Push (z := z) (c := cc) (next := next) hAt hq (by omega) o.b (by omega)
          have hq2 := QM.push_ok hq hoby
          have hf := hfin _ z' next H hq2 (by have := QM.push_last q o.b.2; omega) hn hAt
          have hN := hNx (q.push o.b.2).1 z' next H hAt
          rw [hk0] at q1
          generalize SH H rq rs (q.push o.b.2).1 z' cc next = G2 at *
          generalize SH H rq rs q z cc next = G at *
          simp -implicitDefEqProofs [-toCells, -AV.one, -forget, c_L16_UmtxNumbers, lp0_L16_UmtxNumbers, hlw, hi, hi', h80, h80', q1, hlb, h11, h11', h11'', hP, hN, w1]
          exact hf _ (by simp)
        by_cases hk1 : o.kind = 1
        · rw [hk1] at q1
          by_cases hn0 : 0 ≤ o.n
          · have hn0' : o.n ≥ 0 := hn0
            obtain ⟨id, hid⟩ := u64_id o.n
            obtain ⟨z', k, hP⟩ := u_Discard (z := z) (c := cc) (next := next) hAt hq id
            have hq2 := QM.discard_ok hq id
            have hf := hfin _ z' next (H ++ List.replicate k .other) hq2 (by rw [QM.disc_last]; omega) hn (hAt.app _)
            have hN := hNx (q.discard id).1 z' next (H ++ List.replicate k .other) (hAt.app _)
            generalize SH (H ++ List.replicate k .other) rq rs (q.discard id).1 z' cc next = G2 at *
            generalize SH H rq rs q z cc next = G at *
            simp -implicitDefEqProofs [-toCells, -AV.one, -forget, c_L16_UmtxNumbers, lp0_L16_UmtxNumbers, hlw, hi, hi', h80, h80', q1, hlb, h11, h11', h11'', hn0, hn0', hid, hP, hN, w1]
            exact hf _ (by simp)
          · have hn0' : ¬ o.n ≥ 0 := hn0
            have hf := hfin q z next H hq (by omega) hn hAt
            have hN := hNx q z next H hAt
            generalize SH H rq rs q z cc next = G at *
            simp -implicitDefEqProofs [-toCells, -AV.one, -forget, c_L16_UmtxNumbers, lp0_L16_UmtxNumbers, hlw, hi, hi', h80, h80', q1, hlb, h11, h11', h11'', hn0, hn0', hN, w1]
            exact hf _ (by simp)
        by_cases hk2 : o.kind = 2
        · rw [hk2] at q1
          obtain ⟨v, q', next', z', k, hBP, hB⟩ := u_Build (z := z) (c := cc) (next := next) hAt hq hw hbc hn o.n
          have hno : ∀ (e : Int), e ≠ 0 → v = .tup [nilS, nilS, ai e] → next' = next → q'.Ok → q'.last ≤ i1 → Ends (execW P f_L16_UmtxNumbers lp0_L16_UmtxNumbers (L 106 ((((((Tr.full 7).put (path 1) (lst zo 3 none (opv l))).put (path 2) (.lbox [ai mo, ai bi, ai wi, ai re, ai pr, ai ph, ai pp, ai pb, ai mr, ai qu])).put (path 5) (.ptr rs 0 12)).put (path 7) (ai next)).put (path 8) (ai i))) (SH H rq rs q z cc next)) fun s => match s.e with
              | .normal => ∃ m, m < zz ∧ InvN rq rs cc w zo l m (kill (headK lp0_L16_UmtxNumbers) s.σ) s.H
              | e => PostN e s.σ s.H := by
            rintro e he0 rfl rfl hq2 hl2
            have hf := hfin q' z' next' (H ++ List.replicate k .other) hq2 hl2 hn (hAt.app _)
            have hN := hNx q' z' next' (H ++ List.replicate k .other) (hAt.app _)
            generalize SH (H ++ List.replicate k .other) rq rs q' z' cc next' = G2 at *
            generalize SH H rq rs q z cc next' = G at *
            simp -implicitDefEqProofs [-toCells, -AV.one, -forget, c_L16_UmtxNumbers, lp0_L16_UmtxNumbers, hlw, hi, hi', h80, h80', q1, hlb, h11, h11', h11'', he0, hB, hN, w1]
            exact hf _ (by simp)
          have hcq := cutQ_ok (room := rmOf w o.n) (w := 11) 24 q [] [] 0 0 hq
          rcases hBP with ⟨he⟩ | ⟨he, hF⟩ | ⟨he, hF, hs⟩ | ⟨out, he, hF, hs, hW⟩
          · exact hno _ he rfl rfl hq (by omega)
          · exact hno 4 (by omega) rfl rfl hcq.1 (by have := hcq.2.1; rw [bR]; omega)
          · exact hno 3 (by omega) rfl rfl hcq.1 (by have := hcq.2.1; rw [bR]; omega)
          · clear hno
            obtain ⟨f, k2, ⟨o2, rfl⟩, hRd⟩ := u_read hw hs hW (bR_bytes hq w o.n next) (SH (H ++ List.replicate k .other) rq rs (bR q w o.n).q z' cc ((next + 1) % 2 ^ w))
            have hA1 := hAt.app (List.replicate k AObj.other)
            have hA2 := hA1.app (List.replicate k2 AObj.other)
            rw [SH_app hA1] at hRd
            replace hRd : callW P f_umd_Read [.vs 1 none (byteCs out), ai w] _ = some (.tup [.agg [ai (umOf (bR q w o.n) next).fi, ai next, lst true 1 none (bvs o2)], ai 0], _) := hRd
            have hlt2 : (next + 1) % 2 ^ w < 2 ^ w := Nat.mod_lt _ (Nat.pos_of_ne_zero (by rcases hw with rfl | rfl <;> decide))
            have hf := hfin (bR q w o.n).q z' ((next + 1) % 2 ^ w) (H ++ List.replicate k .other ++ List.replicate k2 .other) hcq.1 (by have := hcq.2.1; rw [bR]; omega) hlt2 hA2
            have hN := hNx (bR q w o.n).q z' ((next + 1) % 2 ^ w) (H ++ List.replicate k .other ++ List.replicate k2 .other) hA2
            have hsh : binA .shl .no (ai 1) (ai w) = some (ai ((2 ^ w : Nat))) := by rcases hw with rfl | rfl <;> rfl
            have hw1 : IntKind.i64.wrap ((next : Int) + 1) = ((next + 1 : Nat) : Int) := by
              have : 2 ^ w ≤ 1024 := by rcases hw with rfl | rfl <;> decide
              rw [wrap_i64 (by omega) (by omega)]; omega
            have hrm : binA .rem .no (ai (next + 1 : Nat)) (ai (2 ^ w : Nat)) = some (ai ((next + 1) % 2 ^ w : Nat)) := by
              have h2 : ((2 ^ w : Nat) : Int) ≠ 0 := by rcases hw with rfl | rfl <;> decide
              have h3 : (((next + 1 : Nat) : Int).tmod ((2 ^ w : Nat) : Int)) = (((next + 1) % 2 ^ w : Nat) : Int) := by
                rw [Int.tmod_eq_emod_of_nonneg (by omega)]; exact (Int.natCast_emod _ _).symm
              have h4 : 2 ^ w ≤ 1024 := by rcases hw with rfl | rfl <;> decide
              have h5 : IntKind.i64.wrap (((next + 1) % 2 ^ w : Nat) : Int) = (((next + 1) % 2 ^ w : Nat) : Int) := wrap_i64 (by omega) (by omega)
              rw [binA_rem]
              simp only [intBin, h2, if_false, h3, h5]
            obtain ⟨nx, hnx⟩ : ∃ x, (next + 1) % 2 ^ w = x := ⟨_, rfl⟩
            rw [hnx] at hf hN hrm hRd hB
            obtain ⟨n1, hn1⟩ : ∃ x, next + 1 = x := ⟨_, rfl⟩
            rw [hn1] at hw1 hrm
            obtain ⟨pw, hpw⟩ : ∃ x, 2 ^ w = x := ⟨_, rfl⟩
            rw [hpw] at hsh hrm
            subst hb
            generalize SH (H ++ List.replicate k .other ++ List.replicate k2 .other) rq rs (bR q w o.n).q z' cc nx = G3 at *
            generalize SH (H ++ List.replicate k .other) rq rs (bR q w o.n).q z' cc nx = G2 at *
            generalize SH H rq rs q z cc next = G at *
            generalize (umOf (bR q w o.n) next).fi = ufi at *
            generalize uls (bR q w o.n).D = D1 at *
            generalize byteCs out = ob at *
            simp -implicitDefEqProofs [-toCells, -AV.one, -forget, c_L16_UmtxNumbers, -binA_shl, -binA_rem, lp0_L16_UmtxNumbers, hlw, hi, hi', h80, h80', q1, hlb, h11, h11', h11'', hB, hRd, hsh, hrm, hw1, hN, w1]
            exact hf _ (by simp)
        by_cases hk3 : o.kind = 3
        · rw [hk3] at q1
          have hR := u_Reset (z := z) (c := cc) (next := next) hAt hq
          have hf := hfin q.clear true 0 H (QM.clear_ok hq) (by show q.last ≤ i1; omega) (by rcases hw with rfl | rfl <;> decide) hAt
          have hN := hNx q.clear true 0 H hAt
          generalize SH H rq rs q.clear true cc 0 = G2 at *
          generalize SH H rq rs q z cc next = G at *
          simp -implicitDefEqProofs [-toCells, -AV.one, -forget, c_L16_UmtxNumbers, lp0_L16_UmtxNumbers, hlw, hi, hi', h80, h80', q1, hlb, h11, h11', h11'', hR, hN, w1]
          exact hf _ (by simp)
        have hf := hfin q z next H hq (by omega) hn hAt
        have hN := hNx q z next H hAt
        generalize SH H rq rs q z cc next = G at *
        simp -implicitDefEqProofs [-toCells, -AV.one, -forget, c_L16_UmtxNumbers, lp0_L16_UmtxNumbers, hlw, hi, hi', h80, h80', q1, hlb, h11, h11', h11'', hk0, hk1, hk2, hk3, hN, w1]
        exact hf _ (by simp)
    · have h80' : ¬ (i : Int) < 80 := by omega
      simp -implicitDefEqProofs [-toCells, -AV.one, -forget, c_L16_UmtxNumbers, lp0_L16_UmtxNumbers, hlw, hi, hi', h80, h80']
      exact .inl ⟨rfl, by simp⟩
  · have hi' : ¬ (i : Int) < l.length := by omega
    simp -implicitDefEqProofs [-toCells, -AV.one, -forget, c_L16_UmtxNumbers, lp0_L16_UmtxNumbers, hlw, hi, hi']
    exact .inl ⟨rfl, by simp⟩
end
end Go.A.V.S

namespace Go.A.V.S
open Go Go.A Go.A.V
set_option linter.unusedSimpArgs false
set_option linter.unusedVariables false
theorem iss_cfg {vs : List AV} (h : V.CT.iss [.i .i64, .i .i64, .i .i64, .i .i64, .i .i64, .i .i64, .i .i64, .i .i64, .i .i64, .i .i64] vs) : ∃ c : Cfg, vs = c.v := by
  obtain ⟨c0, r0, rfl, h0, h⟩ := iss_cons h
  obtain ⟨c1, r1, rfl, h1, h⟩ := iss_cons h
  obtain ⟨c2, r2, rfl, h2, h⟩ := iss_cons h
  obtain ⟨c3, r3, rfl, h3, h⟩ := iss_cons h
  obtain ⟨c4, r4, rfl, h4, h⟩ := iss_cons h
  obtain ⟨c5, r5, rfl, h5, h⟩ := iss_cons h
  obtain ⟨c6, r6, rfl, h6, h⟩ := iss_cons h
  obtain ⟨c7, r7, rfl, h7, h⟩ := iss_cons h
  obtain ⟨c8, r8, rfl, h8, h⟩ := iss_cons h
  obtain ⟨c9, r9, rfl, h9, h⟩ := iss_cons h
  obtain rfl := iss_nil h
  obtain ⟨a0, rfl, _⟩ := is_i h0
  obtain ⟨a1, rfl, _⟩ := is_i h1
  obtain ⟨a2, rfl, _⟩ := is_i h2
  obtain ⟨a3, rfl, _⟩ := is_i h3
  obtain ⟨a4, rfl, _⟩ := is_i h4
  obtain ⟨a5, rfl, _⟩ := is_i h5
  obtain ⟨a6, rfl, _⟩ := is_i h6
  obtain ⟨a7, rfl, _⟩ := is_i h7
  obtain ⟨a8, rfl, _⟩ := is_i h8
  obtain ⟨a9, rfl, _⟩ := is_i h9
  exact ⟨⟨a0, a1, a2, a3, a4, a5, a6, a7, a8, a9⟩, rfl⟩
theorem isss_ops : ∀ (l : List (List AV)), (∀ cs ∈ l, V.CT.iss [.i .i64, .i .i64, .sl [.i .u8]] cs) → ∃ os : List UOp, l = opv os ∧ ∀ o ∈ os, Bytes o.b.2
  | [], _ => ⟨[], rfl, by simp⟩
  | x :: r, h => by
    have h1 := h x (by simp)
    obtain ⟨c0, r0, rfl, h0, h1⟩ := iss_cons h1
    obtain ⟨c1, r1, rfl, h2, h1⟩ := iss_cons h1
    obtain ⟨c2, r2, rfl, h3, h1⟩ := iss_cons h1
    obtain rfl := iss_nil h1
    obtain ⟨a0, rfl, _⟩ := is_i h0
    obtain ⟨a1, rfl, _⟩ := is_i h2
    obtain ⟨b, rfl, hb⟩ := is_bytes h3
    obtain ⟨os, rfl, ho⟩ := isss_ops r (fun cs hc => h cs (by simp [hc]))
    refine ⟨⟨a0, a1, b⟩ :: os, rfl, fun o hm => ?_⟩
    rcases List.mem_cons.1 hm with rfl | hm
    · exact hb
    · exact ho o hm
theorem is_ops {c : AV} (h : V.CT.is (.sl [.i .i64, .i .i64, .sl [.i .u8]]) c) : ∃ (z : Bool) (os : List UOp), c = lst z 3 none (opv os) ∧ ∀ o ∈ os, Bytes o.b.2 := by
  rw [V.CT.is] at h
  obtain ⟨z, l, rfl, hl⟩ := h
  obtain ⟨os, rfl, ho⟩ := isss_ops l hl
  exact ⟨z, os, rfl, ho⟩
end Go.A.V.S

namespace Go.A.V.S
open Go Go.A
set_option linter.unusedSimpArgs false
set_option linter.unusedVariables false
theorem lUmtxNumbers (c : Cfg) (zo : Bool) (l : List UOp) (hby : ∀ o ∈ l, Bytes o.b.2) (H : Heap) : ∃ H', callW P f_L16_UmtxNumbers [.agg c.v, lst zo 3 none (opv l)] H = some (ab true, H') := by
  suffices hs : Ends (callW P f_L16_UmtxNumbers [.agg c.v, lst zo 3 none (opv l)] H) fun y => y.1 = ab true by
    obtain ⟨⟨v, H'⟩, h2, rfl⟩ := hs
    exact ⟨H', h2⟩
  have hAl := l16alive
  have hN := u_New c H
  refine call_post 7 106 rfl (rfl : P.T f_L16_UmtxNumbers = some F_L16_UmtxNumbers) rfl (le_ok rfl) (fun e σ G => e = .ret ∧ resultsA F_L16_UmtxNumbers.res σ = some (ab true)) ?_ ?_
  · rintro e σ G ⟨rfl, h⟩
    exact ⟨rfl, _, h, by simp, by simp⟩
  by_cases hc : c.chk = 0 ∧ c.mode = 1
  · rw [if_pos hc] at hN
    obtain ⟨w, hw, hb⟩ := chk_um hc.1 hc.2
    have hqr : 1 ≤ c.queue ∧ c.queue ≤ 20000 := by
      have h1 := hc.1
      unfold Cfg.chk at h1
      rw [if_pos (by omega)] at h1
      have h3 : [(c.queue, ((1 : Int), (20000 : Int)))].all inn = true := by
        cases hx : [(c.queue, ((1 : Int), (20000 : Int)))].all inn with
        | true => rfl
        | false => rw [hx, Bool.and_false] at h1; simp at h1
      simp only [List.all_cons, List.all_nil, Bool.and_true, inn, Bool.not_eq_true', decide_eq_false_iff_not] at h3
      omega
    have hq : (⟨c.queue.toNat, [], 0, 0⟩ : QM).Ok := ⟨by simp only; omega, by simp, by simp, fun _ => rfl, by simp, by simp [QM.bytes, tot], by simp [QM.ids]⟩
    have hAt : At (H ++ [.other, .other]) H.length (H.length + 1) := ⟨by simp, by simp, by omega⟩
    have hI : ∀ σ, σ = L 106 ((((((Tr.full 7).put (path 1) (lst zo 3 none (opv l))).put (path 2) (.lbox c.v)).put (path 5) (.ptr (H.length + 1) 0 12)).put (path 7) (ai 0)).put (path 8) (ai 0)) → InvN H.length (H.length + 1) c w zo l 81 σ (SH (H ++ [.other, .other]) H.length (H.length + 1) ⟨c.queue.toNat, [], 0, 0⟩ true c 0) := fun σ hσ =>
      ⟨0, _, true, 0, _, rfl, hq, by simp, by rcases hw with rfl | rfl <;> decide, hAt, rfl, hσ⟩
    have hL := fun σ G => num_loop (rq := H.length) (rs := H.length + 1) (c := c) (zo := zo) (l := l) hw hb hby 81 σ G
    obtain ⟨G, hG⟩ : ∃ x, SH (H ++ [.other, .other]) H.length (H.length + 1) ⟨c.queue.toNat, [], 0, 0⟩ true c 0 = x := ⟨_, rfl⟩
    rw [hG] at hN hI
    generalize H.length + 1 = rs at *
    generalize H.length = rq at *
    obtain ⟨cc, hcc⟩ : ∃ x, c = x := ⟨_, rfl⟩
    rw [hcc] at hI hL
    obtain ⟨mo, bi, wi, re, pr, ph, pp, pb, mr, qu⟩ := c
    simp only [Cfg.v] at hN ⊢
    have hIc : ∀ σ, σ = L 106 ((((((Tr.full 7).put (path 1) (lst zo 3 none (opv l))).put (path 2) (.lbox [ai mo, ai bi, ai wi, ai re, ai pr, ai ph, ai pp, ai pb, ai mr, ai qu])).put (path 5) (.ptr rs 0 12)).put (path 7) (ai 0)).put (path 8) (ai 0)) → InvN rq rs cc w zo l 81 σ G := fun σ hσ => hI σ (by rw [hσ, ← hcc]; rfl)
    clear hI
    rw [F_L16_UmtxNumbers]; simp -implicitDefEqProofs [-toCells, -AV.one, -forget, c_L16_UmtxNumbers, hN]
    repeat rw [Option.bind_assoc]
    refine Ends.block (P := PostN) (hL _ _ (hIc _ (by simp [lp0_L16_UmtxNumbers]))) ?_
    rintro e σ1 G1 (⟨rfl, k2⟩ | ⟨rfl, k2⟩)
    · simp -implicitDefEqProofs [-toCells, -AV.one, -forget, c_L16_UmtxNumbers, k2, hAl]
      try simp [F_L16_UmtxNumbers]
    · simp -implicitDefEqProofs [-toCells, -AV.one, -forget, c_L16_UmtxNumbers]
      simpa [F_L16_UmtxNumbers] using k2
  · rw [if_neg hc] at hN
    obtain ⟨e, he⟩ : ∃ x, (if c.chk ≠ 0 then (c.chk : Int) else 9) = x := ⟨_, rfl⟩
    have he0 : ¬ e = 0 := by rw [← he]; split <;> omega
    rw [he] at hN
    obtain ⟨mo, bi, wi, re, pr, ph, pp, pb, mr, qu⟩ := c
    simp only [Cfg.v] at hN ⊢
    generalize lst zo 3 none (opv l) = ops at *
    rw [F_L16_UmtxNumbers]; simp -implicitDefEqProofs [-toCells, -AV.one, -forget, c_L16_UmtxNumbers, hN, he0, hAl]
    try simp [F_L16_UmtxNumbers]
theorem umtxNumbers_all (u0 : List AV) (h0 : V.CT.iss [.i .i64, .i .i64, .i .i64, .i .i64, .i .i64, .i .i64, .i .i64, .i .i64, .i .i64, .i .i64] u0) (c1 : AV) (h1 : V.CT.is (.sl [.i .i64, .i .i64, .sl [.i .u8]]) c1) : ∃ H', callW P f_L16_UmtxNumbers [.agg u0, c1] [] = some (ab true, H') := by
  obtain ⟨c, rfl⟩ := iss_cfg h0
  obtain ⟨z, os, rfl, ho⟩ := is_ops h1
  exact lUmtxNumbers c z os ho []
end Go.A.V.S
