/- The law AmdBack, on the value machine. -/
import Derived.Test.YtekoolanpphbfaaXC
import Derived.Test.YtekoolanpphbfaaR3
set_option linter.unusedSimpArgs false
set_option linter.unusedVariables false
set_option linter.unnecessarySimpa false
namespace Go.A.V.S
open Go Go.A
set_option linter.unusedSimpArgs false
set_option linter.unusedVariables false

theorem WrB_uniq {p : Pk} {w : Nat} {a b : List Nat} (ha : WrB p w a) (hb : WrB p w b) : a = b := by
  obtain ⟨a1, a2, x1, x2, rfl⟩ := ha
  obtain ⟨b1, b2, y1, y2, rfl⟩ := hb
  rw [x1.uniq y1, x2.uniq y2]
theorem WrB_bytes {p : Pk} {w : Nat} {a : List Nat} (ha : WrB p w a) (hf : BytesF p.ff) : Bytes a := by
  obtain ⟨a1, a2, x1, x2, rfl⟩ := ha
  intro b hb
  rcases List.mem_append.1 hb with hb | hb
  · rcases List.mem_append.1 hb with hb | hb
    · exact x1.byte b hb
    · exact x2.byte b hb
  · obtain ⟨f, hf1, hf2⟩ := List.mem_flatten.1 hb
    obtain ⟨c, hc, rfl⟩ := List.mem_map.1 hf1
    exact hf c hc b hf2
def pk0 : Pk := ⟨false, 0, 0, false, false, 0, true, []⟩
theorem pk0_v : pk0.v = noPkt := rfl
theorem pk0_size (w : Int) : sizeR pk0 w = 0 := by
  unfold sizeR pk0
  repeat' split
  all_goals first | rfl | (simp at *; done) | skip
theorem bytesF_of {out : List Bs} {ff : List (List Nat)} (h : bb out = ff) (hf : ∀ f ∈ ff, Bytes f) : BytesF out := fun b hb => hf _ (by rw [← h]; exact List.mem_map_of_mem hb)

/-- What is read. -/
def RdP (bs : List Nat) (w : Int) (q : Pk) (e : Int) : Prop :=
  e = ((readR bs w).1 : Nat) ∧ q.z = true ∧ ((e ≠ 0 ∧ q = pk0) ∨ (e = 0 ∧ readR bs w = (0, bb q.ff) ∧ q.poll = hPoll bs ∧ q.fi = (hFI bs : Nat) ∧ q.sn = (hSN bs w.toNat : Nat) ∧ q.part = hPart bs ∧ q.last = hLast bs w.toNat ∧ q.off = (hOff bs w.toNat : Nat)))
theorem rdp_of {bs : List Nat} {w : Int} {out : List Bs} (h : out.map (·.2) = (readR bs w).2) : ∃ q e, RdP bs w q e ∧ readV bs w (lst true 1 none (bvs out)) = .tup [.agg q.v, ai e] := by
  by_cases h0 : (readR bs w).1 = 0
  · refine ⟨⟨hPoll bs, hFI bs, hSN bs w.toNat, hPart bs, hLast bs w.toNat, hOff bs w.toNat, true, out⟩, 0, ⟨by omega, rfl, .inr ⟨rfl, ?_, rfl, rfl, rfl, rfl, rfl, rfl⟩⟩, ?_⟩
    · rw [show bb out = out.map (·.2) from rfl, h, ← h0]
    · rw [readV, if_pos h0, h0]; rfl
  · refine ⟨pk0, ((readR bs w).1 : Nat), ⟨rfl, rfl, .inl ⟨by omega, rfl⟩⟩, ?_⟩
    rw [readV, if_neg h0]; rfl
theorem rd_case (b : Bs) (hb : b.2.length ≤ 10000) (hby : Bytes b.2) (w : Int) (H : Heap) :
    ∃ q e k, RdP b.2 w q e ∧ callW P f_amd_Read [bv b, ai w] H = some (.tup [.agg q.v, ai e], H ++ List.replicate k .other) := by
  obtain ⟨out, k, h1, h2⟩ := amd_Read b hb hby w H
  obtain ⟨q, e, h3, h4⟩ := rdp_of h1
  exact ⟨q, e, k, h3, by rw [h2, h4]⟩
theorem wr_case (p : Pk) (hs : ∀ f ∈ p.ff, f.2.length ≤ 100000) (hfl : p.ff.length ≤ 100000) (w : Int) (H : Heap) :
    ∃ (x : Bs) (e : Int) (k : Nat), callW P f_amd_Write [.agg p.v, ai w] H = some (.tup [bv x, ai e], H ++ List.replicate k .other) ∧ ((e ≠ 0 ∧ sizeR p w = 0) ∨ (e = 0 ∧ sizeR p w ≠ 0 ∧ x.1 = false ∧ WrB p w.toNat x.2)) := by
  obtain ⟨h1, h2, h3⟩ := amd_Write p hs hfl w H
  by_cases h0 : sizeR p w = 0
  · by_cases hw : w = 10 ∨ w = 16
    · exact ⟨(true, []), 3, 0, by rw [h2 hw h0]; simp [bv, byteCs], .inl ⟨by omega, h0⟩⟩
    · exact ⟨(true, []), 9, 0, by rw [h1 hw]; simp [bv, byteCs], .inl ⟨by omega, h0⟩⟩
  · obtain ⟨out, k, h4, h5⟩ := h3 h0
    exact ⟨(false, out), 0, k, by rw [h5]; simp [bv], .inr ⟨rfl, h0, rfl, h4⟩⟩
/-- Fields that were read are of the bytes. -/
theorem cutF_sub : ∀ (l bs : List Nat) (ff : List (List Nat)), cutF bs l = some ff → ∀ f ∈ ff, ∀ b ∈ f, b ∈ bs := by
  intro l bs ff h f hf b hb
  obtain ⟨h1, _⟩ := cutF_ok _ _ _ h
  rw [← h1]
  exact List.mem_flatten.2 ⟨f, hf, hb⟩
theorem fields_sub {bs l : List Nat} {ff : List (List Nat)} (h : fieldsR bs l = (0, ff)) : ∀ f ∈ ff, ∀ b ∈ f, b ∈ bs := cutF_sub _ _ _ (fieldsR_ok h).1
theorem rdp_sub {bs : List Nat} {w : Int} {q : Pk} (h : readR bs w = (0, bb q.ff)) : ∀ f ∈ bb q.ff, ∀ b ∈ f, b ∈ bs := by
  obtain ⟨h1, h2, h3, h4, h5, h6⟩ := readR_ok h
  rw [restR] at h6
  intro f hf b hb
  split at h6
  · split at h6
    · exact List.mem_of_mem_drop (List.mem_of_mem_drop (fields_sub h6 f hf b hb))
    · rename_i hn
      simp only [Prod.mk.injEq] at h6
      exact (hn h6.1).elim
  · exact List.mem_of_mem_drop (fields_sub h6 f hf b hb)
end Go.A.V.S

namespace Go.A.V.S
open Go Go.A
set_option linter.unusedSimpArgs false
set_option linter.unusedVariables false

theorem len_le_sum : ∀ {l : List (List Nat)} {f : List Nat}, f ∈ l → f.length ≤ (l.map List.length).sum
  | a :: r, f, h => by
    rw [List.map_cons, List.sum_cons]
    rcases List.mem_cons.1 h with rfl | h
    · omega
    · have := len_le_sum h; omega
theorem bv_str0 (H : Heap) (b : Bs) (f : Option Nat) : strV H (lst b.1 1 f (byteCs b.2)) = some (.c (.string (strB b.2))) := lst_str H b.1 f b.2
theorem pkeq_of {p q : Pk} (h : q.poll = p.poll ∧ q.fi = p.fi ∧ q.sn = p.sn ∧ q.part = p.part ∧ q.last = p.last ∧ q.off = p.off ∧ bb q.ff = bb p.ff) : p.eq q = true := by
  obtain ⟨h1, h2, h3, h4, h5, h6, h7⟩ := h
  simp [Pk.eq, h1, h2, h3, h4, h5, h6, h7]
/-- What was written, read back. -/
theorem back_eq {p q : Pk} {w : Int} {out : List Nat} {e : Int} (h0 : sizeR p w ≠ 0) (h : WrB p w.toNat out) (hq : RdP out w q e) : e = 0 ∧ p.eq q = true ∧ out.length = sizeR p w := by
  obtain ⟨b1, b2, b3⟩ := read_back h0 h
  obtain ⟨q1, q2, q3⟩ := hq
  rw [b1] at q1
  replace q1 : e = 0 := q1
  rcases q3 with ⟨q3, _⟩ | ⟨_, c1, c2, c3, c4, c5, c6, c7⟩
  · exact (q3 q1).elim
  · refine ⟨q1, pkeq_of ?_, b2⟩
    have h3 := b3 nilS
    simp only [hPkt, pktV, List.cons.injEq, AV.c.injEq, Value.bool.injEq, Value.int.injEq, true_and, and_true] at h3
    obtain ⟨h1, h2, h3, h4, h5, h6⟩ := h3
    rw [b1] at c1
    exact ⟨by rw [c2, h1], by rw [c3, h2], by rw [c4, h3], by rw [c5, h4], by rw [c6, h5], by rw [c7, h6], (congrArg Prod.snd c1).symm⟩
set_option maxHeartbeats 2000000 in
theorem lAmdBack (p : Pk) (b : Bs) (hbf : BytesF p.ff) (hby : Bytes b.2) (w : Int) (H : Heap) :
    ∃ k, callW P f_L10_AmdBack [.agg p.v, bv b, ai w] H = some (ab true, H ++ List.replicate k .other) := by
  have hG := fun H => lGreat (z0 := p.z) (ff := p.ff) H
  have hA := lAlive
  have hlen := bv_len b
  cases hg : greatR p.ff with
  | true =>
    rw [hg] at hG
    obtain ⟨k, hA⟩ := hA H
    refine ⟨k, ?_⟩
    obtain ⟨po, fi, sn, pa, la, off, z0, ff⟩ := p
    simp only at hG
    rw [call_L 7 rfl (rfl : P.T f_L10_AmdBack = some F_L10_AmdBack) (le_ok rfl)]; simp -implicitDefEqProofs [-toCells, -AV.one, -forget, F_L10_AmdBack, c_L10_AmdBack, Pk.v, Pk.f, pktV, hG, hA]
  | false =>
  rw [hg] at hG
  by_cases h41 : (b.2.length : Int) > 4100
  · have h41' : (4100 : Int) < b.2.length := h41
    have h41'' : 4100 < b.2.length := by omega
    obtain ⟨k, hA⟩ := hA H
    refine ⟨k, ?_⟩
    obtain ⟨po, fi, sn, pa, la, off, z0, ff⟩ := p
    simp only at hG
    rw [call_L 7 rfl (rfl : P.T f_L10_AmdBack = some F_L10_AmdBack) (le_ok rfl)]; simp -implicitDefEqProofs [-toCells, -AV.one, -forget, F_L10_AmdBack, c_L10_AmdBack, Pk.v, Pk.f, pktV, hG, hA, hlen, h41, h41', h41'']
  have h41' : ¬ (4100 : Int) < b.2.length := h41
  have h41'' : ¬ 4100 < b.2.length := by omega
  have hgr := gr_false hg
  have hs : ∀ f ∈ p.ff, f.2.length ≤ 100000 := fun f hf => by
    have := hgr.2.1 f.2 (List.mem_map_of_mem hf); omega
  have hfl : p.ff.length ≤ 100000 := by
    by_cases h0 : bb p.ff = []
    · have := congrArg List.length h0
      rw [bb_len] at this; simp at this; rw [this]; simp
    · have := hgr.1 h0; omega
  obtain ⟨x, e, k1, hW, hWc⟩ := wr_case p hs hfl w H
  obtain ⟨G1, hG1⟩ : ∃ t, H ++ List.replicate k1 AObj.other = t := ⟨_, rfl⟩
  rw [hG1] at hW
  have hWc : (e ≠ 0) ∨ (e = 0 ∧ sizeR p w ≠ 0 ∧ x.1 = false ∧ WrB p w.toNat x.2) := hWc.imp (fun h => h.1) id
  -- what was written, read again
  have hR1 : ∃ (q : Pk) (e2 : Int) (k2 : Nat), (e = 0 → e2 = 0 ∧ p.eq q = true ∧ x.2.length = sizeR p w ∧ q.ff.length ≤ 100000 ∧ BytesF q.ff ∧ q.z = true) ∧ (e = 0 → callW P f_amd_Read [bv x, ai w] G1 = some (.tup [.agg q.v, ai e2], G1 ++ List.replicate k2 .other)) ∧ (e ≠ 0 → k2 = 0) := by
    by_cases he : e = 0
    · rcases hWc with h | ⟨_, h1, h2, h3⟩
      · exact (h he).elim
      have hx1 : x.2.length = sizeR p w := (read_back h1 h3).2.1
      have hx2 : sizeR p w ≤ 4000 := by
        obtain ⟨hok, hw, hf1, hf24, hsz, hpz⟩ := sizeR_pos h1
        have hbne : bb p.ff ≠ [] := fun e => by have := congrArg List.length e; rw [bb_len] at this; simp at this; rw [this] at hf1; simp at hf1
        obtain ⟨s1, s2, s3, s4⟩ := sumR_pos (bb p.ff) (base p w.toNat) (by rw [← hsz]; exact h1)
        have := s3 hbne
        omega
      have hbx : Bytes x.2 := WrB_bytes h3 hbf
      obtain ⟨q, e2, k2, r1, r2⟩ := rd_case x (by omega) hbx w G1
      obtain ⟨b1, b2, b3⟩ := back_eq h1 h3 r1
      have hr := (read_back h1 h3).1
      have hqf : bb q.ff = bb p.ff := by
        rcases r1.2.2 with ⟨h, _⟩ | ⟨_, h, _⟩
        · exact (h b1).elim
        · rw [hr] at h; exact (congrArg Prod.snd h).symm
      refine ⟨q, e2, k2, fun _ => ⟨b1, b2, b3, ?_, ?_, r1.2.1⟩, fun _ => r2, fun h => (h he).elim⟩
      · have := congrArg List.length hqf
        rw [bb_len, bb_len] at this; omega
      · exact bytesF_of hqf (fun f hf => by obtain ⟨c, hc, rfl⟩ := List.mem_map.1 hf; exact hbf c hc)
    · exact ⟨pk0, 0, 0, fun h => (he h).elim, fun h => (he h).elim, fun _ => rfl⟩
  obtain ⟨q, e2, k2, hq1, hR, hk2⟩ := hR1
  obtain ⟨G2, hG2⟩ : ∃ t, H ++ List.replicate (k1 + k2) AObj.other = t := ⟨_, rfl⟩
  rw [← hG1, oth_app, hG2] at hR
  rw [hG1] at hR
  have hS : e = 0 → callW P f_R10_Same [.agg p.v, .agg q.v] G2 = some (ab true, G2) := fun he => by
    obtain ⟨a1, a2, a3, a4, a5, a6⟩ := hq1 he
    rw [rSame p q hfl a4 hbf a5, a2]
  have hZ := fun H => amd_Size p hs hfl w H
  have hxl := bv_len x
  have hAs := fun H => lAs p H
  have hAs2 := fun H => lAs q H
  -- bytes that are read, written again
  obtain ⟨u, e3, k3, r3, hR3⟩ := rd_case b (by omega) hby w G2
  obtain ⟨G3, hG3⟩ : ∃ t, H ++ List.replicate (k1 + k2 + k3) AObj.other = t := ⟨_, rfl⟩
  rw [← hG2, oth_app, hG3, hG2] at hR3
  have hu : (∀ f ∈ u.ff, f.2.length ≤ 100000) ∧ u.ff.length ≤ 100000 := by
    rcases r3.2.2 with ⟨_, rfl⟩ | ⟨_, c1, c2⟩
    · simp [pk0]
    · obtain ⟨a1, a2, a3⟩ := put_again hby c1 c2
      obtain ⟨hok, hw, hf1, hf24, hsz, hpz⟩ := sizeR_pos (p := u) (w := w) (by omega)
      obtain ⟨s1, s2, s3, s4⟩ := sumR_pos (bb u.ff) (base u w.toNat) (by rw [← hsz]; omega)
      refine ⟨fun f hf => ?_, by omega⟩
      have hbne : bb u.ff ≠ [] := fun e => by have := congrArg List.length e; rw [bb_len] at this; simp at this; rw [this] at hf; simp at hf
      have h1 := s3 hbne
      have h2 : f.2.length ≤ (bb u.ff).flatten.length := by
        rw [List.length_flatten]
        exact len_le_sum (List.mem_map_of_mem hf)
      omega
  obtain ⟨y, e4, k4, hW4, hW4c⟩ := wr_case u hu.1 hu.2 w G3
  obtain ⟨G4, hG4⟩ : ∃ t, H ++ List.replicate (k1 + k2 + k3 + k4) AObj.other = t := ⟨_, rfl⟩
  rw [← hG3, oth_app, hG4, hG3] at hW4
  have hRt := fun H => amd_Right u hu.1 hu.2 w H
  have hfin : e3 ≠ 0 ∨ (e3 = 0 ∧ e4 = 0 ∧ 0 < sizeR u w ∧ y.2 = b.2) := by
    by_cases he3 : e3 = 0
    · refine .inr ⟨he3, ?_⟩
      rcases r3.2.2 with ⟨h, _⟩ | ⟨_, c1, c2⟩
      · exact (h he3).elim
      · obtain ⟨a1, a2, a3⟩ := put_again hby c1 c2
        rcases hW4c with ⟨_, h⟩ | ⟨h1, h2, h3, h4⟩
        · omega
        · exact ⟨h1, by omega, WrB_uniq h4 a3⟩
    · exact .inl he3
  obtain ⟨k5, hA5⟩ := hA G4
  rw [← hG4, oth_app, hG4] at hA5
  obtain ⟨G5, hG5⟩ : ∃ t, H ++ List.replicate (k1 + k2 + k3 + k4 + k5) AObj.other = t := ⟨_, rfl⟩
  rw [hG5] at hA5
  refine ⟨k1 + k2 + k3 + k4 + k5, ?_⟩
  rw [hG5]
  have hstr := binA_strEq .no (show Bytes b.2 from hby) (show Bytes b.2 from hby)
  have ys := fun H f => bv_str0 H y f
  have bs' := fun H f => bv_str0 H b f
  have hy0 : e3 = 0 → strB y.2 = strB b.2 := fun h => by
    rcases hfin with h' | ⟨_, _, _, h4⟩
    · exact (h' h).elim
    · rw [h4]
  replace hy0 : e3 = 0 → binA .eql .no (.c (.string (strB y.2))) (.c (.string (strB b.2))) = some (ab true) := fun h => by
    rw [hy0 h, hstr, decide_eq_true rfl]
  have hfin2 : e3 ≠ 0 ∨ (e3 = 0 ∧ e4 = 0 ∧ decide (0 < sizeR u w) = true) := hfin.imp id (fun ⟨a, b, c, d⟩ => ⟨a, b, by simpa using c⟩)
  have e2e : G1 = G2 ∨ e = 0 := by
    by_cases he : e = 0
    · exact .inr he
    · left; rw [← hG1, ← hG2, hk2 he, Nat.add_zero]
  obtain ⟨po, fi, sn, pa, la, off, z0, ff⟩ := p
  simp only at hG
  simp only [Pk.v, Pk.f, pktV] at hW hS hZ hAs
  obtain ⟨qpo, qfi, qsn, qpa, qla, qoff, qz0, qff⟩ := q
  simp only [Pk.v, Pk.f, pktV] at hR hS hAs2
  obtain ⟨upo, ufi, usn, upa, ula, uoff, uz0, uff⟩ := u
  simp only [Pk.v, Pk.f, pktV] at hR3 hW4 hRt
  have hbvx := hxl
  generalize (sizeR _ w) = sz at *
  generalize (sizeR _ w) = sz2 at *
  clear hWc hW4c r3 hu hs hfl hgr hbf hby
  have hGf : List.take H.length G5 ++ List.replicate (G5.length - H.length) AObj.other = G5 := by rw [← hG5]; simp
  by_cases he : e = 0
  · obtain ⟨a1, a2, a3, a4, a5, a6⟩ := hq1 he
    replace hR := hR he
    replace hS := hS he
    subst he
    subst a1
    have hxs : bv x ≠ bv x → False := fun h => h rfl
    by_cases h3 : e3 = 0
    · rcases hfin2 with h | ⟨_, c1, c2⟩
      · exact (h h3).elim
      replace hy0 := hy0 h3
      subst h3 c1
      rw [c2] at hRt
      rw [call_L 7 rfl (rfl : P.T f_L10_AmdBack = some F_L10_AmdBack) (le_ok rfl)]; simp -implicitDefEqProofs [-toCells, -AV.one, -forget, F_L10_AmdBack, c_L10_AmdBack, Pk.v, Pk.f, pktV, hG, hlen, h41, h41', h41'', hW, hR, hAs, hAs2, hS, hxl, a3, hZ, hR3, hW4, hA5, hRt, bv_str, hy0, hGf, keepB, goodB_L, sameV, dstNot, dstNe, SOpG.reads, SOp.slots, SX.slots, SOp.noL, rdV, selfE_lst, selfE, selfEs, eqV]
      rw [L_length]; decide
    · rw [call_L 7 rfl (rfl : P.T f_L10_AmdBack = some F_L10_AmdBack) (le_ok rfl)]; simp -implicitDefEqProofs [-toCells, -AV.one, -forget, F_L10_AmdBack, c_L10_AmdBack, Pk.v, Pk.f, pktV, hG, hlen, h41, h41', h41'', hW, hR, hAs, hAs2, hS, hxl, a3, hZ, hR3, hW4, hA5, h3, hGf, keepB, goodB_L, sameV, dstNot, dstNe, SOpG.reads, SOp.slots, SX.slots, SOp.noL, rdV, selfE_lst, selfE, selfEs, eqV]
      rw [L_length]; decide
  · rcases e2e with rfl | h
    · by_cases h3 : e3 = 0
      · rcases hfin2 with h | ⟨_, c1, c2⟩
        · exact (h h3).elim
        replace hy0 := hy0 h3
        subst h3 c1
        rw [c2] at hRt
        rw [call_L 7 rfl (rfl : P.T f_L10_AmdBack = some F_L10_AmdBack) (le_ok rfl)]; simp -implicitDefEqProofs [-toCells, -AV.one, -forget, F_L10_AmdBack, c_L10_AmdBack, Pk.v, Pk.f, pktV, hG, hlen, h41, h41', h41'', hW, he, hR3, hW4, hA5, hRt, bv_str, hy0, hGf, keepB, goodB_L, sameV, dstNot, dstNe, SOpG.reads, SOp.slots, SX.slots, SOp.noL, rdV, selfE_lst, selfE, selfEs, eqV]
      · rw [call_L 7 rfl (rfl : P.T f_L10_AmdBack = some F_L10_AmdBack) (le_ok rfl)]; simp -implicitDefEqProofs [-toCells, -AV.one, -forget, F_L10_AmdBack, c_L10_AmdBack, Pk.v, Pk.f, pktV, hG, hlen, h41, h41', h41'', hW, he, hR3, hW4, hA5, h3, hGf, keepB, goodB_L, sameV, dstNot, dstNe, SOpG.reads, SOp.slots, SX.slots, SOp.noL, rdV, selfE_lst, selfE, selfEs, eqV]
    · exact (he h).elim
end Go.A.V.S

namespace Go.A.V.S
open Go Go.A Go.A.V
set_option linter.unusedSimpArgs false
set_option linter.unusedVariables false

theorem u8_wf {z : Int} (h : (Lit.int .u8 z).wf = true) : ∃ n : Nat, z = n ∧ n < 256 := by
  simp only [Lit.wf, Bool.and_eq_true, decide_eq_true_eq] at h
  have h1 : IntKind.u8.min = 0 := by decide
  have h2 : IntKind.u8.max = 255 := by decide
  rw [h1, h2] at h
  exact ⟨z.toNat, by omega, by omega⟩
theorem iss_byte {cs : List AV} (h : CT.iss [.i .u8] cs) : ∃ n : Nat, n < 256 ∧ cs = [.c (.int .u8 (n : Nat))] := by
  simp only [CT.iss, CT.is] at h
  obtain ⟨c, r, rfl, ⟨z, rfl, hz⟩, rfl⟩ := h
  obtain ⟨n, rfl, hn⟩ := u8_wf hz
  exact ⟨n, hn, rfl⟩
theorem isss_bytes : ∀ (l : List (List AV)), (∀ cs ∈ l, CT.iss [.i .u8] cs) → ∃ b : List Nat, l = byteCs b ∧ Bytes b
  | [], _ => ⟨[], rfl, by simp [Bytes]⟩
  | x :: r, h => by
    obtain ⟨n, hn, rfl⟩ := iss_byte (h x (by simp))
    obtain ⟨b, rfl, hb⟩ := isss_bytes r (fun cs hc => h cs (by simp [hc]))
    exact ⟨n :: b, rfl, fun y hy => by
      rcases List.mem_cons.1 hy with rfl | hy
      · exact hn
      · exact hb y hy⟩
theorem is_bytes {c : AV} (h : CT.is (.sl [.i .u8]) c) : ∃ b : Bs, c = bv b ∧ Bytes b.2 := by
  simp only [CT.is] at h
  obtain ⟨z, l, rfl, hl⟩ := h
  obtain ⟨b, rfl, hb⟩ := isss_bytes l hl
  exact ⟨(z, b), rfl, hb⟩
theorem isss_fields : ∀ (l : List (List AV)), (∀ cs ∈ l, CT.iss [.sl [.i .u8]] cs) → ∃ ff : List Bs, l = bvs ff ∧ BytesF ff
  | [], _ => ⟨[], rfl, by simp [BytesF]⟩
  | x :: r, h => by
    have h1 := h x (by simp)
    rw [CT.iss] at h1
    obtain ⟨c, q, rfl, h2, h3⟩ := h1
    rw [CT.iss] at h3
    subst h3
    obtain ⟨b, rfl, hb⟩ := is_bytes h2
    obtain ⟨ff, rfl, hf⟩ := isss_fields r (fun cs hc => h cs (by simp [hc]))
    exact ⟨b :: ff, rfl, fun y hy => by
      rcases List.mem_cons.1 hy with rfl | hy
      · exact hb
      · exact hf y hy⟩
theorem is_fields {c : AV} (h : CT.is (.sl [.sl [.i .u8]]) c) : ∃ (z : Bool) (ff : List Bs), c = lst z 1 none (bvs ff) ∧ BytesF ff := by
  rw [CT.is] at h
  obtain ⟨z, l, rfl, hl⟩ := h
  obtain ⟨ff, rfl, hf⟩ := isss_fields l hl
  exact ⟨z, ff, rfl, hf⟩
theorem iss_cons {t : CT} {ts : List CT} {cs : List AV} (h : CT.iss (t :: ts) cs) : ∃ c r, cs = c :: r ∧ t.is c ∧ CT.iss ts r := by simpa only [CT.iss] using h
theorem iss_nil {cs : List AV} (h : CT.iss [] cs) : cs = [] := by simpa only [CT.iss] using h
theorem is_i {k : IntKind} {c : AV} (h : CT.is (.i k) c) : ∃ z, c = .c (.int k z) ∧ (Lit.int k z).wf = true := by simpa only [CT.is] using h
theorem is_b {c : AV} (h : CT.is .b c) : ∃ z, c = ab z := by simpa only [CT.is] using h
theorem iss_pk {vs : List AV} (h : CT.iss [.b, .i .i64, .i .i64, .b, .b, .i .i64, .sl [.sl [.i .u8]]] vs) : ∃ p : Pk, vs = p.v ∧ BytesF p.ff := by
  obtain ⟨c0, r0, rfl, h0, h⟩ := iss_cons h
  obtain ⟨c1, r1, rfl, h1, h⟩ := iss_cons h
  obtain ⟨c2, r2, rfl, h2, h⟩ := iss_cons h
  obtain ⟨c3, r3, rfl, h3, h⟩ := iss_cons h
  obtain ⟨c4, r4, rfl, h4, h⟩ := iss_cons h
  obtain ⟨c5, r5, rfl, h5, h⟩ := iss_cons h
  obtain ⟨c6, r6, rfl, h6, h⟩ := iss_cons h
  obtain rfl := iss_nil h
  obtain ⟨po, rfl⟩ := is_b h0
  obtain ⟨fi, rfl, _⟩ := is_i h1
  obtain ⟨sn, rfl, _⟩ := is_i h2
  obtain ⟨pa, rfl⟩ := is_b h3
  obtain ⟨la, rfl⟩ := is_b h4
  obtain ⟨off, rfl, _⟩ := is_i h5
  obtain ⟨z, ff, rfl, hf⟩ := is_fields h6
  exact ⟨⟨po, fi, sn, pa, la, off, z, ff⟩, rfl, hf⟩
end Go.A.V.S

namespace Go.A.V.S
open Go Go.A
set_option linter.unusedSimpArgs false
set_option linter.unusedVariables false

theorem lsize_step {k c : Nat} (hc : c = 11 ∨ c = 15) (hk : 1 ≤ k) (hk2 : k ≤ 23) : lsize k c = lsize (k - 1) c + 1 ∨ lsize k c = lsize (k - 1) c + 2 := by
  have e1 : lsize k c = (k * (c + 1) + 7) / 8 := by rw [lsize, if_neg (by omega)]
  have e2 : lsize (k - 1) c = ((k - 1) * (c + 1) + 7) / 8 := by
    by_cases h0 : k = 1
    · subst h0; simp [lsize]
    · rw [lsize, if_neg (by omega)]
  rw [e1, e2]
  rcases hc with rfl | rfl <;> omega
theorem sumR_app (f : List Nat) : ∀ (ff : List (List Nat)) (n : Nat), sumR n (ff ++ [f]) ≠ 0 → sumR n (ff ++ [f]) = n + ff.flatten.length + f.length
  | ff, n, h => by
    obtain ⟨_, _, _, h4⟩ := sumR_pos (ff ++ [f]) n h
    rw [h4, List.flatten_append, List.length_append]
    simp
    omega
/-- A field more. -/
theorem heads_plain {p : Pk} {w : Int} {b : Bs} (h0 : sizeR p w ≠ 0) : ∃ d : Nat, (bb p.ff).flatten.length = d ∧ d ≤ 4000 ∧ sizeR p w ≤ 4000 ∧ headV p.part w + d ≤ sizeR p w ∧ headV true w = headV false w + 2 ∧ headV true w ≤ 5 ∧ headV p.part w ≤ 5 ∧ (p.ff.length = 1 → sizeR p w = headV p.part w + d) ∧
    ∀ z, (sizeR { p with z := z, ff := p.ff ++ [b] } w = 0 ∨ (sizeR p w + b.2.length < sizeR { p with z := z, ff := p.ff ++ [b] } w ∧ sizeR { p with z := z, ff := p.ff ++ [b] } w ≤ sizeR p w + b.2.length + 2)) := by
  obtain ⟨hok, hw, hf1, hf24, hsz, hpz⟩ := sizeR_pos h0
  have hwt : ((w.toNat : Nat) : Int) = w := by omega
  obtain ⟨s1, s2, s3, s4⟩ := sumR_pos (bb p.ff) (base p w.toNat) (by rw [← hsz]; exact h0)
  have hbne : bb p.ff ≠ [] := fun e => by have := congrArg List.length e; rw [bb_len] at this; simp at this; rw [this] at hf1; simp at hf1
  have hdl := s3 hbne
  rw [s4] at hsz
  have hb : base p w.toNat = headV p.part w + lsize (p.ff.length - 1) (lenWd w) := by rw [base, hwt]
  have hlw : lenWd w = 11 ∨ lenWd w = 15 := by rcases hw with rfl | rfl <;> simp [lenWd]
  refine ⟨_, rfl, by omega, by omega, by omega, ?_, ?_, ?_, fun h1 => ?_, fun z => ?_⟩
  · rcases hw with rfl | rfl <;> rfl
  · rcases hw with rfl | rfl <;> decide
  · rcases hw with rfl | rfl <;> cases p.part <;> decide
  · rw [h1] at hb
    have : lsize (1 - 1) (lenWd w) = 0 := by simp [lsize]
    omega
  · obtain ⟨q, hq⟩ : ∃ q : Pk, { p with z := z, ff := p.ff ++ [b] } = q := ⟨_, rfl⟩
    have e1 : q.ff = p.ff ++ [b] := by rw [← hq]
    have e2 : q.part = p.part := by rw [← hq]
    rw [hq]
    by_cases hq0 : sizeR q w = 0
    · exact .inl hq0
    · right
      obtain ⟨hok2, _, gf1, gf24, gsz, _⟩ := sizeR_pos hq0
      have hbb : bb q.ff = bb p.ff ++ [b.2] := by rw [e1]; simp [bb]
      rw [hbb] at gsz
      have g4 := sumR_app b.2 (bb p.ff) (base q w.toNat) (by rw [← gsz]; exact hq0)
      rw [g4] at gsz
      have hl : q.ff.length = p.ff.length + 1 := by rw [e1]; simp
      have gb : base q w.toNat = headV p.part w + lsize p.ff.length (lenWd w) := by rw [base, hwt, e2, hl]; rfl
      rcases lsize_step hlw hf1 (by omega) with h | h <;> omega
set_option maxHeartbeats 2000000 in
theorem lAmdHeads (p : Pk) (b : Bs) (hbf : BytesF p.ff) (hby : Bytes b.2) (w : Int) (H : Heap) :
    ∃ k, callW P f_L10_AmdHeads [.agg p.v, bv b, ai w] H = some (ab true, H ++ List.replicate k .other) := by
  have hG := fun H => lGreat (z0 := p.z) (ff := p.ff) H
  have hA := lAlive
  have hlen := bv_len b
  cases hg : greatR p.ff with
  | true =>
    rw [hg] at hG
    obtain ⟨k, hA⟩ := hA H
    refine ⟨k, ?_⟩
    obtain ⟨po, fi, sn, pa, la, off, z0, ff⟩ := p
    simp only at hG
    rw [call_L 7 rfl (rfl : P.T f_L10_AmdHeads = some F_L10_AmdHeads) (le_ok rfl)]; simp -implicitDefEqProofs [-toCells, -AV.one, -forget, F_L10_AmdHeads, c_L10_AmdHeads, Pk.v, Pk.f, pktV, hG, hA]
  | false =>
  rw [hg] at hG
  by_cases h41 : (b.2.length : Int) > 4200
  · have h41' : (4200 : Int) < b.2.length := h41
    have h41'' : 4200 < b.2.length := by omega
    obtain ⟨k, hA⟩ := hA H
    refine ⟨k, ?_⟩
    obtain ⟨po, fi, sn, pa, la, off, z0, ff⟩ := p
    simp only at hG
    rw [call_L 7 rfl (rfl : P.T f_L10_AmdHeads = some F_L10_AmdHeads) (le_ok rfl)]; simp -implicitDefEqProofs [-toCells, -AV.one, -forget, F_L10_AmdHeads, c_L10_AmdHeads, Pk.v, Pk.f, pktV, hG, hA, hlen, h41, h41', h41'']
  have h41' : ¬ (4200 : Int) < b.2.length := h41
  have h41'' : ¬ 4200 < b.2.length := by omega
  have hgr := gr_false hg
  have hs : ∀ f ∈ p.ff, f.2.length ≤ 100000 := fun f hf => by
    have := hgr.2.1 f.2 (List.mem_map_of_mem hf); omega
  have hl40 : p.ff.length ≤ 40 := by
    by_cases h0 : bb p.ff = []
    · have := congrArg List.length h0
      rw [bb_len] at this; simp at this; rw [this]; simp
    · exact hgr.1 h0
  have hfl : p.ff.length ≤ 100000 := by omega
  have hZ := fun H => amd_Size p hs hfl w H
  by_cases h0 : sizeR p w = 0
  · rw [h0] at hZ
    replace hZ : ∀ H, callW P f_amd_Size [.agg p.v, ai w] H = some (ai 0, H) := hZ
    obtain ⟨k, hA⟩ := hA H
    refine ⟨k, ?_⟩
    obtain ⟨po, fi, sn, pa, la, off, z0, ff⟩ := p
    simp only at hG
    simp only [Pk.v, Pk.f, pktV] at hZ
    rw [call_L 7 rfl (rfl : P.T f_L10_AmdHeads = some F_L10_AmdHeads) (le_ok rfl)]; simp -implicitDefEqProofs [-toCells, -AV.one, -forget, F_L10_AmdHeads, c_L10_AmdHeads, Pk.v, Pk.f, pktV, hG, hA, hlen, h41, h41', h41'', hZ]
  obtain ⟨d, q1, q2, q3, q4, q5, q6, q7, q8, q9⟩ := heads_plain (b := b) h0
  replace q9 := q9 false
  obtain ⟨zd, fd, k1, hD⟩ := amd_Data p hfl (by omega) H
  obtain ⟨G1, hG1⟩ : ∃ t, H ++ List.replicate k1 AObj.other = t := ⟨_, rfl⟩
  rw [hG1] at hD
  obtain ⟨k2, hA⟩ := hA G1
  rw [← hG1, oth_app] at hA
  obtain ⟨G2, hG2⟩ : ∃ t, H ++ List.replicate (k1 + k2) AObj.other = t := ⟨_, rfl⟩
  rw [hG1, hG2] at hA
  have hdl : (byteCs (bb p.ff).flatten).length = d := by rw [byteCs_len]; exact q1
  obtain ⟨db, hdb⟩ : ∃ t, byteCs (bb p.ff).flatten = t := ⟨_, rfl⟩
  rw [hdb] at hD hdl
  refine ⟨k1 + k2, ?_⟩
  have hGf : List.take H.length G2 ++ List.replicate (G2.length - H.length) AObj.other = G2 := by rw [← hG2]; simp
  rw [hG2]
  have hH1 := fun H => amd_Head p.part w H
  have hH2 := fun H => amd_Head true w H
  have hH3 := fun H => amd_Head false w H
  have hZ2 := fun H => amd_Size { p with z := false, ff := p.ff ++ [b] } (fun f hf => by
    rcases List.mem_append.1 hf with h | h
    · exact hs f h
    · simp at h; subst h; omega) (by simp; omega) w H
  have hla : (bvs p.ff).length = p.ff.length := bvs_len p.ff
  have hap1 := fun σ H => appW_vs (m := P.md f_L10_AmdHeads) (d := 65) (bytes := 24) (c := 62) (l := []) (l' := bvs p.ff) (x := lst p.z 1 none (bvs p.ff)) (fun H => elems_lst p.z none 1 _ H) (by simp [bvs_len, appBound]; omega) (by simp [bvs_len, appBound]; omega) σ H
  have hap2 := fun σ H => appW_vs (m := P.md f_L10_AmdHeads) (d := 68) (bytes := 24) (c := 65) (l := bvs p.ff) (l' := [[bv b]]) (x := .vs 1 (some 67) [[bv b]]) (fun H => elems_vs H 1 _ _) (by simp [bvs_len, appBound]; omega) (by simp [bvs_len, appBound]; omega) σ H
  have hbv : bvs p.ff ++ [[bv b]] = bvs (p.ff ++ [b]) := by simp [bvs]
  rw [hbv] at hap2
  obtain ⟨n, hn⟩ : ∃ t, sizeR p w = t := ⟨_, rfl⟩
  rw [hn] at hZ q3 q4 q8 q9 h0
  obtain ⟨m, hm⟩ : ∃ t, sizeR { p with z := false, ff := p.ff ++ [b] } w = t := ⟨_, rfl⟩
  rw [hm] at hZ2 q9
  obtain ⟨a1, ha1⟩ : ∃ t, headV p.part w = t := ⟨_, rfl⟩
  rw [ha1] at hH1 q4 q7 q8
  obtain ⟨a2, ha2⟩ : ∃ t, headV true w = t := ⟨_, rfl⟩
  rw [ha2] at hH2 q5 q6
  obtain ⟨a3, ha3⟩ : ∃ t, headV false w = t := ⟨_, rfl⟩
  rw [ha3] at hH3 q5
  have hn0 : ¬ (n : Int) = 0 := by omega
  have w1 : IntKind.i64.wrap ((a1 : Int) + d) = ((a1 + d : Nat) : Int) := by rw [wrap_i64 (by omega) (by omega)]; omega
  have w2 : IntKind.i64.wrap ((a2 : Int) - a3) = 2 := by rw [wrap_i64 (by omega) (by omega)]; omega
  obtain ⟨s, hs'⟩ : ∃ t, a1 + d = t := ⟨_, rfl⟩
  rw [hs'] at w1
  have c1 : ¬ (n : Int) < s := by omega
  have c1' : ¬ n < s := by omega
  obtain ⟨bl, hbl⟩ : ∃ t, b.2.length = t := ⟨_, rfl⟩
  rw [hbl] at hlen h41 h41' h41'' q9
  have w4 : IntKind.i64.wrap ((bl : Int) + 2) = ((bl + 2 : Nat) : Int) := by rw [wrap_i64 (by omega) (by omega)]; omega
  obtain ⟨b2, hb2⟩ : ∃ t, bl + 2 = t := ⟨_, rfl⟩
  rw [hb2] at w4
  obtain ⟨po, fi, sn, pa, la, off, z0, ff⟩ := p
  simp only at hG hH1 hla hap1 hap2
  simp only [Pk.v, Pk.f, pktV] at hZ hD hZ2 ⊢
  replace hZ2 : ∀ H, callW P f_amd_Size [.agg [ab po, ai fi, ai sn, ab pa, ab la, ai off, .vs 1 none (bvs (ff ++ [b]))], ai w] H = some (ai (m : Nat), H) := hZ2
  generalize bvs (ff ++ [b]) = L2 at *
  generalize bvs ff = L1 at *
  rw [List.nil_append] at hap1
  simp only at q8
  by_cases hm0 : m = 0
  · subst hm0
    replace hZ2 : ∀ H, callW P f_amd_Size [.agg [ab po, ai fi, ai sn, ab pa, ab la, ai off, .vs 1 none L2], ai w] H = some (ai 0, H) := hZ2
    by_cases hl1 : ff.length = 1
    · have hns : n = s := by have := q8 hl1; omega
      subst hns
      rw [hl1] at hla
      rw [call_L 7 rfl (rfl : P.T f_L10_AmdHeads = some F_L10_AmdHeads) (le_ok rfl)]; simp -implicitDefEqProofs [-toCells, -AV.one, -forget, F_L10_AmdHeads, c_L10_AmdHeads, Pk.v, Pk.f, pktV, hG, hlen, h41, h41', h41'', hZ, h0, hn0, hD, hH1, hH2, hH3, w1, w2, c1, c1', hla, hdl, hap1, hap2, hZ2, hA, hGf]
    · have hl1' : ¬ (ff.length : Int) = 1 := by omega
      rw [call_L 7 rfl (rfl : P.T f_L10_AmdHeads = some F_L10_AmdHeads) (le_ok rfl)]; simp -implicitDefEqProofs [-toCells, -AV.one, -forget, F_L10_AmdHeads, c_L10_AmdHeads, Pk.v, Pk.f, pktV, hG, hlen, h41, h41', h41'', hZ, h0, hn0, hD, hH1, hH2, hH3, w1, w2, c1, c1', hla, hl1, hl1', hdl, hap1, hap2, hZ2, hA, hGf]
  · have hm0' : ¬ (m : Int) = 0 := by omega
    replace q9 := q9.resolve_left hm0
    obtain ⟨e, he⟩ : ∃ e : Nat, m = n + e := ⟨m - n, by omega⟩
    have w3 : IntKind.i64.wrap ((m : Int) - n) = (e : Int) := by rw [wrap_i64 (by omega) (by omega)]; omega
    have d1 : (e : Int) > bl := by omega
    have d1' : (bl : Int) < e := by omega
    have d1'' : bl < e := by omega
    have d2 : (e : Int) ≤ b2 := by omega
    have d2' : e ≤ b2 := by omega
    by_cases hl1 : ff.length = 1
    · have hns : n = s := by have := q8 hl1; omega
      subst hns
      rw [hl1] at hla
      rw [call_L 7 rfl (rfl : P.T f_L10_AmdHeads = some F_L10_AmdHeads) (le_ok rfl)]; simp -implicitDefEqProofs [-toCells, -AV.one, -forget, F_L10_AmdHeads, c_L10_AmdHeads, Pk.v, Pk.f, pktV, hG, hlen, h41, h41', h41'', hZ, h0, hn0, hD, hH1, hH2, hH3, w1, w2, c1, c1', hla, hdl, hap1, hap2, hZ2, hA, hGf, hm0, hm0', w3, w4, d1, d1', d1'', d2, d2']
    · have hl1' : ¬ (ff.length : Int) = 1 := by omega
      rw [call_L 7 rfl (rfl : P.T f_L10_AmdHeads = some F_L10_AmdHeads) (le_ok rfl)]; simp -implicitDefEqProofs [-toCells, -AV.one, -forget, F_L10_AmdHeads, c_L10_AmdHeads, Pk.v, Pk.f, pktV, hG, hlen, h41, h41', h41'', hZ, h0, hn0, hD, hH1, hH2, hH3, w1, w2, c1, c1', hla, hl1, hl1', hdl, hap1, hap2, hZ2, hA, hGf, hm0, hm0', w3, w4, d1, d1', d1'', d2, d2']
end Go.A.V.S

namespace Go.A.V.S
open Go Go.A Go.A.V
theorem amdHeads_all (u0 : List AV) (h0 : CT.iss [.b, .i .i64, .i .i64, .b, .b, .i .i64, .sl [.sl [.i .u8]]] u0) (c1 : AV) (h1 : CT.is (.sl [.i .u8]) c1) (w : Int) (_ : (Lit.int .i64 w).wf = true) : ∃ H', callW P f_L10_AmdHeads [.agg u0, c1, ai w] [] = some (ab true, H') := by
  obtain ⟨p, rfl, hp⟩ := iss_pk h0
  obtain ⟨b, rfl, hb⟩ := is_bytes h1
  obtain ⟨k, hk⟩ := lAmdHeads p b hp hb w []
  exact ⟨_, hk⟩
end Go.A.V.S
