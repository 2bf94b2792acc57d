/- amd.Same; the reference's Write. -/
import Derived.Test.YtekoolanpphbfaaXE
import Derived.Test.YtekoolanpphbfaaXF
import Derived.Test.YtekoolanpphbfaaXC
set_option linter.unusedSimpArgs false
set_option linter.unusedVariables false
set_option linter.unnecessarySimpa false
namespace Go.A.V.S
open Go Go.A
set_option linter.unusedSimpArgs false
set_option linter.unusedVariables false
theorem bEqual (a b : Bs) (ha : Bytes a.2) (hb : Bytes b.2) (H : Heap) : callW P f_bytes_Equal [bv a, bv b] H = some (ab (decide (a.2 = b.2)), H) := by
  have h := binA_strEq .no ha hb
  rw [call_L 4 rfl (rfl : P.T f_bytes_Equal = some F_bytes_Equal) (le_ok rfl)]; simp -implicitDefEqProofs [-toCells, -AV.one, -forget, F_bytes_Equal, c_bytes_Equal, bv_str, h]
section
variable {H : Heap} {za zb : Bool} {fa fb : List Bs}
def InvQ1 (H : Heap) (za zb : Bool) (fa fb : List Bs) (z : Nat) (σ : List AV) (G : Heap) : Prop :=
  ∃ i : Nat, i + z = fa.length ∧ (bb fa).take i = (bb fb).take i ∧ G = H ∧ σ = L 32 ((((((Tr.full 6).put (path 1) (lst zb 1 none (bvs fb))).put (path 2) (.fn f_bytes_Equal [])).put (path 15) (lst za 1 none (bvs fa))).put (path 16) (ai fa.length)).put (path 17) (ai i))
def PostQ1 (H : Heap) (fa fb : List Bs) (e : AExit) (σ : List AV) (G : Heap) : Prop :=
  G = H ∧ ((e = .exit 0 ∧ bb fa = bb fb ∧ kill [1, 2, 15, 16, 17, 18] σ = L 32 (Tr.full 6)) ∨ (e = .ret ∧ bb fa ≠ bb fb ∧ resultsA F_slices_EqualFunc_ssbyte_ssbyte_sbyte_sbyte.res σ = some (ab false)))
theorem loopQ1 (hl : fa.length = fb.length) (hs : fa.length ≤ 100000) (hba : BytesF fa) (hbb : BytesF fb) (z : Nat) (σ : List AV) (G : Heap) (hI : InvQ1 H za zb fa fb z (kill (headK lp0_slices_EqualFunc_ssbyte_ssbyte_sbyte_sbyte) σ) G) :
    Ends (execW P f_slices_EqualFunc_ssbyte_ssbyte_sbyte_sbyte (.loop lp0_slices_EqualFunc_ssbyte_ssbyte_sbyte_sbyte) σ G) fun s => PostQ1 H fa fb s.e s.σ s.H := by
  refine loop_ends (fun z σ G => InvQ1 H za zb fa fb z σ G) (PostQ1 H fa fb) ?_ z σ G hI
  clear hI z σ G
  rintro z σ G ⟨i, hz, heq, rfl, rfl⟩
  by_cases hi : i < fa.length
  · obtain ⟨x, hx⟩ : ∃ x, fa[i]? = some x := ⟨_, List.getElem?_eq_getElem hi⟩
    obtain ⟨y, hy⟩ : ∃ y, fb[i]? = some y := ⟨_, List.getElem?_eq_getElem (by omega)⟩
    have q1 := bvs_at hx za none .i64
    have q2 := bvs_at hy zb none .i64
    have hE := fun H => bEqual x y (hba x (List.mem_of_getElem? hx)) (hbb y (List.mem_of_getElem? hy)) H
    by_cases hxy : x.2 = y.2
    · rw [decide_eq_true hxy] at hE
      have hres : (bb fa).take (i + 1) = (bb fb).take (i + 1) := by rw [take_snoc (bb_at hx), take_snoc (bb_at hy), heq, hxy]
      clear heq
      simp -implicitDefEqProofs (disch := first | omega | (simp; done) | fail) [-toCells, -AV.one, -forget, c_slices_EqualFunc_ssbyte_ssbyte_sbyte_sbyte, cmp_ilt, cmp_ilf, cmp_ile, cmp_ilg, cmp_ine, cmp_ieq, cmp_nlt, cmp_nlf, cmp_nle, cmp_nlg, cmp_nne, cmp_neq, wrap_i64, wrap_u64, wrap_u8, lp0_slices_EqualFunc_ssbyte_ssbyte_sbyte_sbyte, q1, q2, hE]
      exact ⟨z - 1, by omega, i + 1, by omega, hres, rfl, by simp⟩
    · rw [decide_eq_false hxy] at hE
      clear heq
      simp -implicitDefEqProofs (disch := first | omega | (simp; done) | fail) [-toCells, -AV.one, -forget, c_slices_EqualFunc_ssbyte_ssbyte_sbyte_sbyte, cmp_ilt, cmp_ilf, cmp_ile, cmp_ilg, cmp_ine, cmp_ieq, cmp_nlt, cmp_nlf, cmp_nle, cmp_nlg, cmp_nne, cmp_neq, wrap_i64, wrap_u64, wrap_u8, lp0_slices_EqualFunc_ssbyte_ssbyte_sbyte_sbyte, q1, q2, hE]
      refine ⟨rfl, .inr ⟨rfl, ?_, by simp [F_slices_EqualFunc_ssbyte_ssbyte_sbyte_sbyte]⟩⟩
      intro h
      have h1 := bb_at hx
      rw [h, bb_at hy] at h1
      exact hxy (Option.some.inj h1).symm
  · rw [List.take_of_length_le (by rw [bb_len]; omega), List.take_of_length_le (by rw [bb_len]; omega)] at heq
    have hx : bb fa = bb fb := heq
    clear heq
    simp -implicitDefEqProofs (disch := first | omega | (simp; done) | fail) [-toCells, -AV.one, -forget, c_slices_EqualFunc_ssbyte_ssbyte_sbyte_sbyte, cmp_ilt, cmp_ilf, cmp_ile, cmp_ilg, cmp_ine, cmp_ieq, cmp_nlt, cmp_nlf, cmp_nle, cmp_nlg, cmp_nne, cmp_neq, wrap_i64, wrap_u64, wrap_u8, lp0_slices_EqualFunc_ssbyte_ssbyte_sbyte_sbyte]
    exact ⟨rfl, .inl ⟨rfl, hx, by simp⟩⟩
theorem eqFunc (hs : fa.length ≤ 100000) (hs2 : fb.length ≤ 100000) (hba : BytesF fa) (hbb : BytesF fb) (H : Heap) :
    callW P f_slices_EqualFunc_ssbyte_ssbyte_sbyte_sbyte [lst za 1 none (bvs fa), lst zb 1 none (bvs fb), .fn f_bytes_Equal []] H = some (ab (decide (bb fa = bb fb)), H) := by
  have hla : (bvs fa).length = fa.length := bvs_len fa
  have hlb : (bvs fb).length = fb.length := bvs_len fb
  by_cases hl : fa.length = fb.length
  · rw [ends_eq]
    have hL := loopQ1 (H := H) (za := za) (zb := zb) hl hs hba hbb fa.length
    obtain ⟨b, hb⟩ : ∃ t, decide (bb fa = bb fb) = t := ⟨_, rfl⟩
    rw [hb]
    refine call_post 6 32 rfl (rfl : P.T f_slices_EqualFunc_ssbyte_ssbyte_sbyte_sbyte = some F_slices_EqualFunc_ssbyte_ssbyte_sbyte_sbyte) rfl (le_ok rfl) (fun e σ G => e = .ret ∧ G = H ∧ resultsA F_slices_EqualFunc_ssbyte_ssbyte_sbyte_sbyte.res σ = some (ab b)) ?_ ?_
    · rintro e σ G ⟨rfl, rfl, h⟩
      exact ⟨rfl, _, h, rfl, by simp⟩
    rw [F_slices_EqualFunc_ssbyte_ssbyte_sbyte_sbyte]; simp -implicitDefEqProofs (disch := first | omega | (simp; done) | fail) [-toCells, -AV.one, -forget, c_slices_EqualFunc_ssbyte_ssbyte_sbyte_sbyte, cmp_ilt, cmp_ilf, cmp_ile, cmp_ilg, cmp_ine, cmp_ieq, cmp_nlt, cmp_nlf, cmp_nle, cmp_nlg, cmp_nne, cmp_neq, wrap_i64, wrap_u64, wrap_u8, hla, hlb]
    repeat rw [Option.bind_assoc]
    refine Ends.block (P := PostQ1 H fa fb) (hL _ _ ⟨0, by omega, by simp, rfl, by simp [lp0_slices_EqualFunc_ssbyte_ssbyte_sbyte_sbyte]⟩) ?_
    rintro e σ1 G1 ⟨rfl, ⟨rfl, c1, c2⟩ | ⟨rfl, c1, c2⟩⟩
    · obtain rfl : b = true := by rw [← hb]; exact decide_eq_true c1
      simp -implicitDefEqProofs (disch := first | omega | (simp; done) | fail) [-toCells, -AV.one, -forget, c_slices_EqualFunc_ssbyte_ssbyte_sbyte_sbyte, cmp_ilt, cmp_ilf, cmp_ile, cmp_ilg, cmp_ine, cmp_ieq, cmp_nlt, cmp_nlf, cmp_nle, cmp_nlg, cmp_nne, cmp_neq, wrap_i64, wrap_u64, wrap_u8, c2]
    · obtain rfl : b = false := by rw [← hb]; exact decide_eq_false c1
      simp [F_slices_EqualFunc_ssbyte_ssbyte_sbyte_sbyte] at c2
      simp -implicitDefEqProofs (disch := first | omega | (simp; done) | fail) [-toCells, -AV.one, -forget, c_slices_EqualFunc_ssbyte_ssbyte_sbyte_sbyte, cmp_ilt, cmp_ilf, cmp_ile, cmp_ilg, cmp_ine, cmp_ieq, cmp_nlt, cmp_nlf, cmp_nle, cmp_nlg, cmp_nne, cmp_neq, wrap_i64, wrap_u64, wrap_u8, c2]
  · have hne : bb fa ≠ bb fb := fun h => hl (by have := congrArg List.length h; rwa [bb_len, bb_len] at this)
    rw [decide_eq_false hne]
    rw [call_L 6 rfl (rfl : P.T f_slices_EqualFunc_ssbyte_ssbyte_sbyte_sbyte = some F_slices_EqualFunc_ssbyte_ssbyte_sbyte_sbyte) (le_ok rfl)]; simp -implicitDefEqProofs (disch := first | omega | (simp; done) | fail) [-toCells, -AV.one, -forget, F_slices_EqualFunc_ssbyte_ssbyte_sbyte_sbyte, c_slices_EqualFunc_ssbyte_ssbyte_sbyte_sbyte, cmp_ilt, cmp_ilf, cmp_ile, cmp_ilg, cmp_ine, cmp_ieq, cmp_nlt, cmp_nlf, cmp_nle, cmp_nlg, cmp_nne, cmp_neq, wrap_i64, wrap_u64, wrap_u8, hla, hlb]
end
set_option maxHeartbeats 1000000 in
theorem amd_Same (p q : Pk) (hs : p.ff.length ≤ 100000) (hs2 : q.ff.length ≤ 100000) (hba : BytesF p.ff) (hbb : BytesF q.ff) (H : Heap) :
    callW P f_amd_Same [.agg p.v, .agg q.v] H = some (ab (p.eq q), H) := by
  have hf := fun H => eqFunc (za := p.z) (zb := q.z) hs hs2 hba hbb H
  obtain ⟨po, fi, sn, pa, la, off, z0, ff⟩ := p
  obtain ⟨po2, fi2, sn2, pa2, la2, off2, z02, ff2⟩ := q
  simp only at hf
  simp only [Pk.eq]
  by_cases h1 : po = po2
  · by_cases h2 : fi = fi2
    · by_cases h3 : sn = sn2
      · by_cases h4 : pa = pa2
        · by_cases h5 : la = la2
          · by_cases h6 : off = off2
            · rw [call_L 6 rfl (rfl : P.T f_amd_Same = some F_amd_Same) (le_ok rfl)]; simp -implicitDefEqProofs [-toCells, -AV.one, -forget, F_amd_Same, c_amd_Same, Pk.v, Pk.f, pktV, h1, h2, h3, h4, h5, h6, hf]
            · rw [call_L 6 rfl (rfl : P.T f_amd_Same = some F_amd_Same) (le_ok rfl)]; simp -implicitDefEqProofs [-toCells, -AV.one, -forget, F_amd_Same, c_amd_Same, Pk.v, Pk.f, pktV, h1, h2, h3, h4, h5, h6]
          · rw [call_L 6 rfl (rfl : P.T f_amd_Same = some F_amd_Same) (le_ok rfl)]; simp -implicitDefEqProofs [-toCells, -AV.one, -forget, F_amd_Same, c_amd_Same, Pk.v, Pk.f, pktV, h1, h2, h3, h4, h5]
        · rw [call_L 6 rfl (rfl : P.T f_amd_Same = some F_amd_Same) (le_ok rfl)]; simp -implicitDefEqProofs [-toCells, -AV.one, -forget, F_amd_Same, c_amd_Same, Pk.v, Pk.f, pktV, h1, h2, h3, h4]
      · rw [call_L 6 rfl (rfl : P.T f_amd_Same = some F_amd_Same) (le_ok rfl)]; simp -implicitDefEqProofs [-toCells, -AV.one, -forget, F_amd_Same, c_amd_Same, Pk.v, Pk.f, pktV, h1, h2, h3]
    · rw [call_L 6 rfl (rfl : P.T f_amd_Same = some F_amd_Same) (le_ok rfl)]; simp -implicitDefEqProofs [-toCells, -AV.one, -forget, F_amd_Same, c_amd_Same, Pk.v, Pk.f, pktV, h1, h2]
  · rw [call_L 6 rfl (rfl : P.T f_amd_Same = some F_amd_Same) (le_ok rfl)]; simp -implicitDefEqProofs [-toCells, -AV.one, -forget, F_amd_Same, c_amd_Same, Pk.v, Pk.f, pktV, h1]
end Go.A.V.S

namespace Go.A.V.S
open Go Go.A
set_option linter.unusedSimpArgs false
set_option linter.unusedVariables false
theorem bls_app (a b : List Bool) : bls (a ++ b) = bls a ++ bls b := by simp [bls]
theorem bls_ne {x : List Bool} (h : x ≠ []) : bls x ≠ [] := by simpa [bls] using h
theorem rPutV {x : List Bool} (h0 : x ≠ []) (hx : x.length ≤ 60000) {v n : Nat} (hn : n ≤ 63) (hvn : v < 2 ^ n) (H : Heap) :
    callW P f_R01_Put [.vs 1 none (bls x), .c (.int .u64 v), ai n] H = some (.tup [.vs 1 (some 0) (bls (x ++ bitsOf v n)), ai 0], H) := by
  have h := rPut (zx := false) hx hn hvn H
  have hne : x ++ bitsOf v n ≠ [] := fun e => h0 (List.append_eq_nil_iff.1 e).1
  rw [lst_ne (bls_ne hne)] at h
  exact h
theorem appB {m : Md} {d c : Nat} {x y : List Bool} (hx : x.length ≤ 60000) (hy : y.length ≤ 1000) (f : Option Nat) (σ : List AV) (H : Heap) :
    appW m (some d) 1 1 (.vs 1 (some c) (bls x)) (.vs 1 f (bls y)) σ H = some (.vs 1 (some d) (bls (x ++ y)), σ.map (unfl [c, d]), H) := by
  rw [bls_app]
  exact appW_vs (fun H => elems_vs H 1 f _) (by simp [bls_len, appBound]; omega) (by simp [bls_len, appBound]; omega) σ H
theorem frz_th (H : Heap) {o : List Nat} (k : Nat) (h0 : o ≠ []) : frz H.length (TH H o k) (rwv H.length o.length) = some (.vs 1 none (byteCs o)) := by
  have ho0 : o.length ≠ 0 := fun e => h0 (List.length_eq_zero_iff.1 e)
  have hrd : rdRow0 (TH H o k) H.length 0 (o.length * 1) o.length = some (bys o) := by
    rw [rdRow0, if_neg (by omega), rdRow, TH_get]
    simp only [AObj.isRow, AObj.lo, AObj.cells, bys_len]
    rw [if_pos ⟨trivial, by omega, by omega, by omega⟩, List.drop_zero, List.take_of_length_le (by rw [bys_len]; omega)]
  have hok : (bys o).all okCell = true := by
    refine List.all_eq_true.2 fun x hx => ?_
    obtain ⟨b, _, rfl⟩ := List.mem_map.1 hx
    rfl
  have hch : ∀ l : List Nat, chunk 1 l.length (bys l) = byteCs l := by
    intro l
    induction l with
    | nil => rfl
    | cons x r ih =>
      have e1 : bys (x :: r) = au x :: bys r := rfl
      have e2 : byteCs (x :: r) = [au x] :: byteCs r := rfl
      rw [e1, e2, List.length_cons, chunk, List.take_succ_cons, List.take_zero, List.drop_succ_cons, List.drop_zero, ih]
  simp only [rwv, frz]
  rw [if_neg (by omega), if_neg (by omega), hrd, Option.bind_some, if_pos hok, hch]
theorem oth_th (H : Heap) (o : List Nat) (k : Nat) : List.take H.length (TH H o k) ++ List.replicate ((TH H o k).length - H.length) AObj.other = H ++ List.replicate (k + 1) .other := by
  have : (TH H o k).length - H.length = k + 1 := by simp [TH]
  rw [this, TH, List.take_left]
theorem u64_of {z : Int} (h : 0 ≤ z) (h2 : z ≤ 100000) : IntKind.u64.wrap z = (z.toNat : Nat) := by rw [wrap_u64 h (by omega)]; omega
set_option maxHeartbeats 4000000 in
theorem rWrite (p : Pk) {w : Int} (h0 : sizeR p w ≠ 0) (H : Heap) :
    ∃ out k, WrB p w.toNat out ∧ callW P f_R10_Write [.agg p.v, ai w] H = some (.vs 1 none (byteCs out), H ++ List.replicate k .other) := by
  obtain ⟨hok, hw, hf1, hf24, hsz, hpz⟩ := sizeR_pos h0
  obtain ⟨wn, rfl, hwn⟩ : ∃ wn : Nat, w = wn ∧ (wn = 10 ∨ wn = 16) := by
    rcases hw with rfl | rfl
    · exact ⟨10, rfl, .inl rfl⟩
    · exact ⟨16, rfl, .inr rfl⟩
  have htn : ((wn : Nat) : Int).toNat = wn := by simp
  rw [htn] at hok hsz ⊢
  obtain ⟨s1, s2, s3, s4⟩ := sumR_pos (bb p.ff) (base p wn) (by rw [← hsz]; exact h0)
  have hbne : bb p.ff ≠ [] := fun e => by have := congrArg List.length e; rw [bb_len] at this; simp at this; rw [this] at hf1; simp at hf1
  have hdl := s3 hbne
  have hlw : lenWd wn = 11 ∨ lenWd wn = 15 := by rcases hwn with rfl | rfl <;> simp [lenWd]
  have hlens : ∀ n ∈ ((bb p.ff).take (p.ff.length - 1)).map (·.length), 1 ≤ n ∧ n < 2 ^ lenWd wn := fun n hn => by
    obtain ⟨b, hb1, rfl⟩ := List.mem_map.1 hn
    have hdr : (bb p.ff).take (p.ff.length - 1) = (bb p.ff).dropLast := by rw [List.dropLast_eq_take, bb_len]
    rw [hdr] at hb1
    have h2 := s2 b hb1
    have h3 := s1 b (List.mem_of_mem_take (by rw [List.dropLast_eq_take] at hb1; exact hb1))
    have : 2 ^ 11 ≤ 2 ^ lenWd wn := Nat.pow_le_pow_right (by omega) (by omega)
    have : (2 : Nat) ^ 11 = 2048 := by decide
    omega
  have hbl := hBits_len p hwn
  have hbl3 : 3 ≤ (hBits p wn).length := by unfold hBits; simp [bitsOf_len]
  obtain ⟨hb, hpk, hB⟩ := rBytes (zx := false) (l := hBits p wn) (by omega) H
  have hhl := hpk.len
  have hb0 : hb ≠ [] := fun e => by rw [e] at hhl; simp at hhl; omega
  have hb1 : hb.length ≠ 0 := fun e => hb0 (List.length_eq_zero_iff.1 e)
  have hbh : BH H hb = TH H hb 0 := by simp [BH, TH, hb0]
  have hbv : bval H.length hb.length = rwv H.length hb.length := by rw [bval, if_neg hb1]; rfl
  rw [hbh, hbv] at hB
  obtain ⟨lb, k, hpl, hT⟩ := rTail (M := H) (z0 := p.z) (ff := p.ff) (a := hb) (w := lenWd wn) hb0 (by omega) hf1 hf24 (by omega) hlw hlens
  have hfin : WrB p wn (hb ++ lb ++ (bb p.ff).flatten) := ⟨hb, lb, hpk, by
    have : lenL p = ((bb p.ff).take (p.ff.length - 1)).map (·.length) := by rw [lenL, bb, bb, List.map_take]
    rw [this]; exact hpl, rfl⟩
  have ho0 : hb ++ lb ++ (bb p.ff).flatten ≠ [] := fun e => hb0 (List.append_eq_nil_iff.1 (List.append_eq_nil_iff.1 e).1).1
  have hfz := frz_th H k ho0
  have hoth := oth_th H (hb ++ lb ++ (bb p.ff).flatten) k
  refine ⟨_, k + 1, hfin, ?_⟩
  rw [← hoth]
  clear hfin hoth
  obtain ⟨out, hout⟩ : ∃ t, hb ++ lb ++ (bb p.ff).flatten = t := ⟨_, rfl⟩
  rw [hout] at hT hfz ⊢
  obtain ⟨⟨hfi, hfi2⟩, ⟨hsn, hsn2⟩, ⟨hof, hof2⟩⟩ : (0 ≤ p.fi ∧ p.fi ≤ 3) ∧ (0 ≤ p.sn ∧ p.sn < (2 ^ wn : Nat)) ∧ (0 ≤ p.off ∧ p.off < (2 ^ offWd (wn : Int) : Nat)) := ⟨hok.fi, hok.sn, hok.off⟩
  have hpow : ∀ n, n ≤ 16 → (2 : Nat) ^ n ≤ 65536 := fun n hn => by
    calc 2 ^ n ≤ 2 ^ 16 := Nat.pow_le_pow_right (by omega) hn
      _ = 65536 := by decide
  have how : offWd (wn : Int) = 15 ∨ offWd (wn : Int) = 16 := by simp only [offWd]; split <;> simp
  have hpw := hpow wn (by omega)
  have hpo := hpow (offWd (wn : Int)) (by omega)
  have u1 := u64_of hfi (by omega)
  have u2 := u64_of hsn (by omega)
  have u3 := u64_of hof (by omega)
  have v1 : p.fi.toNat < 2 ^ 2 := by omega
  have v2 : p.sn.toNat < 2 ^ wn := by omega
  have v3 : p.off.toNat < 2 ^ offWd (wn : Int) := by omega
  have hWd := fun H => rWidths (wn : Nat) H
  have hla : (bvs p.ff).length = p.ff.length := bvs_len p.ff
  obtain ⟨hw0, hw0'⟩ : (wn : Int) = wn ∧ True := ⟨rfl, trivial⟩
  obtain ⟨po, fi, sn, pa, la, off, z0, ff⟩ := p
  simp only at *
  simp only [Pk.v, Pk.f, pktV]
  obtain ⟨b1, hb1'⟩ : ∃ t, decide (1 < ff.length) = t := ⟨_, rfl⟩
  have hdc : decide ((ff.length : Int) > 1) = b1 := by rw [← hb1']; exact decide_eq_decide.2 (by omega)
  have hdc' : decide ((1 : Int) < ff.length) = b1 := by rw [← hb1']; exact decide_eq_decide.2 (by omega)
  have hP1 := fun H => rPutV (x := [true, pa, po]) (by simp) (by simp) (v := fi.toNat) (n := 2) (by omega) v1 H
  replace hP1 : ∀ H, callW P f_R01_Put [.vs 1 none [[ab true], [ab pa], [ab po]], .c (.int .u64 fi.toNat), ai 2] H = some (.tup [.vs 1 (some 0) (bls ([true, pa, po] ++ bitsOf fi.toNat 2)), ai 0], H) := hP1
  obtain ⟨x1, hx1⟩ : ∃ t, [true, pa, po] ++ bitsOf fi.toNat 2 = t := ⟨_, rfl⟩
  have hx1l : x1.length = 5 := by rw [← hx1]; simp [bitsOf_len]
  rw [hx1] at hP1
  have hA1 := fun f σ H => appB (m := P.md f_R10_Write) (d := 32) (c := 23) (x := x1) (y := [b1]) (by omega) (by simp) f σ H
  obtain ⟨x2, hx2⟩ : ∃ t, x1 ++ [b1] = t := ⟨_, rfl⟩
  have hx2l : x2.length = 6 := by rw [← hx2]; simp [hx1l]
  rw [hx2] at hA1
  replace hA1 : ∀ f σ H, appW (P.md f_R10_Write) (some 32) 1 1 (.vs 1 (some 23) (bls x1)) (.vs 1 f [[ab b1]]) σ H = some (.vs 1 (some 32) (bls x2), σ.map (unfl [23, 32]), H) := hA1
  have fin : ∀ x : List Bool, x.length ≤ 100 → ∀ v n : Nat, n ≤ 16 → x ≠ [] → v < 2 ^ n → ∀ H, callW P f_R01_Put [.vs 1 none (bls x), .c (.int .u64 v), ai n] H = some (.tup [.vs 1 (some 0) (bls (x ++ bitsOf v n)), ai 0], H) := fun x hx v n hn hx0 hv H => rPutV hx0 (by omega) (by omega) hv H
  have hbits : hBits ⟨po, fi, sn, pa, la, off, z0, ff⟩ wn = (x2 ++ (if wn = 16 then [la, false] else []) ++ bitsOf sn.toNat wn) ++ (if pa = true ∧ wn = 10 then [la] else []) ++ (if pa = true then bitsOf off.toNat (offWd (wn : Int)) else []) := by
    rw [← hx2, ← hx1, ← hb1']; simp [hBits]
  rw [hbits] at hB
  have hx20 : x2 ≠ [] := fun e => by rw [e] at hx2l; simp at hx2l
  clear hbits hx2 hx1 hpk hpl hok hsz s1 s2 s3 s4 hlens h0 hpz hbl hbl3 hbh hbv hdl hb1' hbne
  generalize fi.toNat = fn at *
  generalize sn.toNat = sN at *
  generalize off.toNat = oN at *
  rcases hwn with rfl | rfl
  · have hP2 := fin x2 (by omega) sN 10 (by omega) hx20 v2
    have hrw : (if (10 : Nat) = 16 then [la, false] else []) = [] := rfl
    rw [hrw, List.append_nil] at hB
    obtain ⟨x3, hx3⟩ : ∃ t, x2 ++ bitsOf sN 10 = t := ⟨_, rfl⟩
    have hx3l : x3.length = 16 := by rw [← hx3]; simp [hx2l, bitsOf_len]
    have hx30 : x3 ≠ [] := fun e => by rw [e] at hx3l; simp at hx3l
    rw [hx3] at hP2 hB
    replace hP2 : ∀ H, callW P f_R01_Put [.vs 1 none (bls x2), .c (.int .u64 sN), ai 10] H = some (.tup [.vs 1 (some 0) (bls x3), ai 0], H) := hP2
    cases pa with
    | true =>
      have hA2 := fun f σ H => appB (m := P.md f_R10_Write) (d := 59) (c := 46) (x := x3) (y := [la]) (by omega) (by simp) f σ H
      have hrw2 : (if true = true ∧ (10 : Nat) = 10 then [la] else []) = [la] := rfl
      have hrw3 : (if true = true then bitsOf oN (offWd ((10 : Nat) : Int)) else []) = bitsOf oN (offWd ((10 : Nat) : Int)) := rfl
      rw [hrw2, hrw3] at hB
      obtain ⟨x4, hx4⟩ : ∃ t, x3 ++ [la] = t := ⟨_, rfl⟩
      have hx4l : x4.length = 17 := by rw [← hx4]; simp [hx3l]
      have hx40 : x4 ≠ [] := fun e => by rw [e] at hx4l; simp at hx4l
      rw [hx4] at hA2 hB
      replace hA2 : ∀ f σ H, appW (P.md f_R10_Write) (some 59) 1 1 (.vs 1 (some 46) (bls x3)) (.vs 1 f [[ab la]]) σ H = some (.vs 1 (some 59) (bls x4), σ.map (unfl [46, 59]), H) := hA2
      have hP3 := fin x4 (by omega) oN (offWd ((10 : Nat) : Int)) (by omega) hx40 v3
      obtain ⟨x5, hx5⟩ : ∃ t, x4 ++ bitsOf oN (offWd ((10 : Nat) : Int)) = t := ⟨_, rfl⟩
      rw [hx5] at hP3 hB
      generalize bls x1 = L1 at *
      generalize bls x2 = L2 at *
      generalize bls x3 = L3 at *
      generalize bls x4 = L4 at *
      generalize bls x5 = L5 at *
      replace hB : callW P f_R01_Bytes [.vs 1 none L5] H = _ := hB
      replace hWd : ∀ H, callW P f_R10_widths [ai 10] H = some (.tup [ai 11, ai 15], H) := hWd
      replace hP3 : ∀ H, callW P f_R01_Put [.vs 1 none L4, .c (.int .u64 oN), ai 15] H = some (.tup [.vs 1 (some 0) L5, ai 0], H) := hP3
      replace hT : callW P f_R09_Tail [rwv H.length hb.length, lst z0 1 none (bvs ff), ai 11] (TH H hb 0) = _ := hT
      generalize TH H hb 0 = G1 at *
      obtain ⟨G2, hG2⟩ : ∃ t, TH H out k = t := ⟨_, rfl⟩
      rw [hG2] at hT hfz ⊢
      rw [call_L 7 rfl (rfl : P.T f_R10_Write = some F_R10_Write) (le_ok rfl)]; simp -implicitDefEqProofs [-toCells, -AV.one, -forget, F_R10_Write, c_R10_Write, hWd, u1, u2, u3, hP1, hdc, hdc', hla, hA1, hP2, hA2, hP3, hB, hT, hfz, keepB, goodB_L, sameV, dstNot, dstNe, SOpG.reads, SOp.slots, SX.slots, SOp.noL, rdV, selfE_lst, selfE, selfEs, eqV]
      intro h; rw [L_length] at h; omega
    | false =>
      have hrw2 : (if false = true ∧ (10 : Nat) = 10 then [la] else []) = [] := rfl
      have hrw3 : (if false = true then bitsOf oN (offWd ((10 : Nat) : Int)) else []) = [] := rfl
      rw [hrw2, hrw3, List.append_nil, List.append_nil] at hB
      generalize bls x1 = L1 at *
      generalize bls x2 = L2 at *
      generalize bls x3 = L3 at *
      replace hB : callW P f_R01_Bytes [.vs 1 none L3] H = _ := hB
      replace hWd : ∀ H, callW P f_R10_widths [ai 10] H = some (.tup [ai 11, ai 15], H) := hWd
      replace hT : callW P f_R09_Tail [rwv H.length hb.length, lst z0 1 none (bvs ff), ai 11] (TH H hb 0) = _ := hT
      generalize TH H hb 0 = G1 at *
      obtain ⟨G2, hG2⟩ : ∃ t, TH H out k = t := ⟨_, rfl⟩
      rw [hG2] at hT hfz ⊢
      rw [call_L 7 rfl (rfl : P.T f_R10_Write = some F_R10_Write) (le_ok rfl)]; simp -implicitDefEqProofs [-toCells, -AV.one, -forget, F_R10_Write, c_R10_Write, hWd, u1, u2, u3, hP1, hdc, hdc', hla, hA1, hP2, hB, hT, hfz, keepB, goodB_L, sameV, dstNot, dstNe, SOpG.reads, SOp.slots, SX.slots, SOp.noL, rdV, selfE_lst, selfE, selfEs, eqV]
      intro h; rw [L_length] at h; omega
  · have hA0 := fun f σ H => appB (m := P.md f_R10_Write) (d := 39) (c := 32) (x := x2) (y := [la, false]) (by omega) (by simp) f σ H
    have hrw : (if (16 : Nat) = 16 then [la, false] else []) = [la, false] := rfl
    have hrw2 : (if pa = true ∧ (16 : Nat) = 10 then [la] else []) = [] := by simp
    rw [hrw, hrw2, List.append_nil] at hB
    obtain ⟨y2, hy2⟩ : ∃ t, x2 ++ [la, false] = t := ⟨_, rfl⟩
    have hy2l : y2.length = 8 := by rw [← hy2]; simp [hx2l]
    have hy20 : y2 ≠ [] := fun e => by rw [e] at hy2l; simp at hy2l
    rw [hy2] at hA0 hB
    replace hA0 : ∀ f σ H, appW (P.md f_R10_Write) (some 39) 1 1 (.vs 1 (some 32) (bls x2)) (.vs 1 f [[ab la], [ab false]]) σ H = some (.vs 1 (some 39) (bls y2), σ.map (unfl [32, 39]), H) := hA0
    have hP2 := fin y2 (by omega) sN 16 (by omega) hy20 v2
    obtain ⟨x3, hx3⟩ : ∃ t, y2 ++ bitsOf sN 16 = t := ⟨_, rfl⟩
    have hx3l : x3.length = 24 := by rw [← hx3]; simp [hy2l, bitsOf_len]
    have hx30 : x3 ≠ [] := fun e => by rw [e] at hx3l; simp at hx3l
    rw [hx3] at hP2 hB
    replace hP2 : ∀ H, callW P f_R01_Put [.vs 1 none (bls y2), .c (.int .u64 sN), ai 16] H = some (.tup [.vs 1 (some 0) (bls x3), ai 0], H) := hP2
    cases pa with
    | true =>
      have hrw3 : (if true = true then bitsOf oN (offWd ((16 : Nat) : Int)) else []) = bitsOf oN (offWd ((16 : Nat) : Int)) := rfl
      rw [hrw3] at hB
      have hP3 := fin x3 (by omega) oN (offWd ((16 : Nat) : Int)) (by omega) hx30 v3
      obtain ⟨x5, hx5⟩ : ∃ t, x3 ++ bitsOf oN (offWd ((16 : Nat) : Int)) = t := ⟨_, rfl⟩
      rw [hx5] at hP3 hB
      generalize bls x1 = L1 at *
      generalize bls x2 = L2 at *
      generalize bls y2 = M2 at *
      generalize bls x3 = L3 at *
      generalize bls x5 = L5 at *
      replace hB : callW P f_R01_Bytes [.vs 1 none L5] H = _ := hB
      replace hWd : ∀ H, callW P f_R10_widths [ai 16] H = some (.tup [ai 15, ai 16], H) := hWd
      replace hP3 : ∀ H, callW P f_R01_Put [.vs 1 none L3, .c (.int .u64 oN), ai 16] H = some (.tup [.vs 1 (some 0) L5, ai 0], H) := hP3
      replace hT : callW P f_R09_Tail [rwv H.length hb.length, lst z0 1 none (bvs ff), ai 15] (TH H hb 0) = _ := hT
      generalize TH H hb 0 = G1 at *
      obtain ⟨G2, hG2⟩ : ∃ t, TH H out k = t := ⟨_, rfl⟩
      rw [hG2] at hT hfz ⊢
      rw [call_L 7 rfl (rfl : P.T f_R10_Write = some F_R10_Write) (le_ok rfl)]; simp -implicitDefEqProofs [-toCells, -AV.one, -forget, F_R10_Write, c_R10_Write, hWd, u1, u2, u3, hP1, hdc, hdc', hla, hA1, hA0, hP2, hP3, hB, hT, hfz, keepB, goodB_L, sameV, dstNot, dstNe, SOpG.reads, SOp.slots, SX.slots, SOp.noL, rdV, selfE_lst, selfE, selfEs, eqV]
      intro h; rw [L_length] at h; omega
    | false =>
      have hrw3 : (if false = true then bitsOf oN (offWd ((16 : Nat) : Int)) else []) = [] := rfl
      rw [hrw3, List.append_nil] at hB
      generalize bls x1 = L1 at *
      generalize bls x2 = L2 at *
      generalize bls y2 = M2 at *
      generalize bls x3 = L3 at *
      replace hB : callW P f_R01_Bytes [.vs 1 none L3] H = _ := hB
      replace hWd : ∀ H, callW P f_R10_widths [ai 16] H = some (.tup [ai 15, ai 16], H) := hWd
      replace hT : callW P f_R09_Tail [rwv H.length hb.length, lst z0 1 none (bvs ff), ai 15] (TH H hb 0) = _ := hT
      generalize TH H hb 0 = G1 at *
      obtain ⟨G2, hG2⟩ : ∃ t, TH H out k = t := ⟨_, rfl⟩
      rw [hG2] at hT hfz ⊢
      rw [call_L 7 rfl (rfl : P.T f_R10_Write = some F_R10_Write) (le_ok rfl)]; simp -implicitDefEqProofs [-toCells, -AV.one, -forget, F_R10_Write, c_R10_Write, hWd, u1, u2, u3, hP1, hdc, hdc', hla, hA1, hA0, hP2, hB, hT, hfz, keepB, goodB_L, sameV, dstNot, dstNe, SOpG.reads, SOp.slots, SX.slots, SOp.noL, rdV, selfE_lst, selfE, selfEs, eqV]
      intro h; rw [L_length] at h; omega
end Go.A.V.S

namespace Go.A.V.S
open Go Go.A
set_option linter.unusedSimpArgs false
set_option linter.unusedVariables false
theorem lst_keep (z : Bool) (k : Nat) (f : Option Nat) (l : List (List AV)) : (isVs (lst z k f l) || isNilC (lst z k f l)) = true := by
  rcases lst_cases z k f l with ⟨_, _, e⟩ | ⟨e, _⟩ <;> rw [e] <;> rfl
theorem vs_keep (k : Nat) (f : Option Nat) (l : List (List AV)) : (isVs (.vs k f l) || isNilC (.vs k f l)) = true := rfl
theorem great_ok {p : Pk} (hg : greatR p.ff = false) : (∀ f ∈ p.ff, f.2.length ≤ 4200) ∧ p.ff.length ≤ 40 ∧ (bb p.ff).flatten.length ≤ 9000 := by
  have hgr := gr_false hg
  refine ⟨fun f hf => hgr.2.1 f.2 (List.mem_map_of_mem hf), ?_, by omega⟩
  by_cases h0 : bb p.ff = []
  · have := congrArg List.length h0
    rw [bb_len] at this; simp at this; rw [this]; simp
  · exact hgr.1 h0
set_option maxHeartbeats 4000000 in
set_option maxRecDepth 100000 in
theorem lAmdWrites (p o : Pk) (hp : BytesF p.ff) (ho : BytesF o.ff) (w : Int) (H : Heap) :
    ∃ k, callW P f_L10_AmdWrites [.agg p.v, .agg o.v, ai w] H = some (ab true, H ++ List.replicate k .other) := by
  have hG := fun H => lGreat (z0 := p.z) (ff := p.ff) H
  have hG2 := fun H => lGreat (z0 := o.z) (ff := o.ff) H
  have hA := lAlive
  cases hg : greatR p.ff with
  | true =>
    rw [hg] at hG
    obtain ⟨k, hA⟩ := hA H
    refine ⟨k, ?_⟩
    obtain ⟨po, fi, sn, pa, la, off, z0, ff⟩ := p
    obtain ⟨qpo, qfi, qsn, qpa, qla, qoff, qz0, qff⟩ := o
    simp only at hG
    rw [call_L 7 rfl (rfl : P.T f_L10_AmdWrites = some F_L10_AmdWrites) (le_ok rfl)]; simp -implicitDefEqProofs [-toCells, -AV.one, -forget, F_L10_AmdWrites, c_L10_AmdWrites, Pk.v, Pk.f, pktV, hG, hA]
  | false =>
  rw [hg] at hG
  cases hg2 : greatR o.ff with
  | true =>
    rw [hg2] at hG2
    obtain ⟨k, hA⟩ := hA H
    refine ⟨k, ?_⟩
    obtain ⟨po, fi, sn, pa, la, off, z0, ff⟩ := p
    obtain ⟨qpo, qfi, qsn, qpa, qla, qoff, qz0, qff⟩ := o
    simp only at hG hG2
    rw [call_L 7 rfl (rfl : P.T f_L10_AmdWrites = some F_L10_AmdWrites) (le_ok rfl)]; simp -implicitDefEqProofs [-toCells, -AV.one, -forget, F_L10_AmdWrites, c_L10_AmdWrites, Pk.v, Pk.f, pktV, hG, hG2, hA]
  | false =>
  rw [hg2] at hG2
  obtain ⟨g1, g2, g3⟩ := great_ok hg
  obtain ⟨g4, g5, g6⟩ := great_ok hg2
  have hs : ∀ f ∈ p.ff, f.2.length ≤ 100000 := fun f hf => by have := g1 f hf; omega
  have hfl : p.ff.length ≤ 100000 := by omega
  have hAs := fun H => lAs p H
  have hAs2 := fun H => lAs o H
  have hS := fun H => rSize p hs hfl w H
  have hZ := fun H => amd_Size p hs hfl w H
  have hR := fun H => amd_Right p hs hfl w H
  have hE1 := fun H => amd_Same p o hfl (by omega) hp ho H
  have hE2 := fun H => rSame p o hfl (by omega) hp ho H
  have hd1 := fun H => amd_Head p.part w H
  have hd2 := fun H => rHead p.part w H
  have hD2 := fun H => rData p (by omega) (by omega) H
  have hDb : Bytes (bb p.ff).flatten := fun b hb => by
    obtain ⟨f, hf1, hf2⟩ := List.mem_flatten.1 hb
    obtain ⟨c, hc, rfl⟩ := List.mem_map.1 hf1
    exact hp c hc b hf2
  have hstr : binA .neq .no (.c (.string (strB (bb p.ff).flatten))) (.c (.string (strB (bb p.ff).flatten))) = some (ab false) := by
    have := binA_strNe .no hDb hDb
    rw [this]; simp
  have hts := fun H z f => lst_str H z f (bb p.ff).flatten
  obtain ⟨wf1, wf2, wf3⟩ := amd_Write p hs hfl w H
  obtain ⟨n, hn⟩ : ∃ t, sizeR p w = t := ⟨_, rfl⟩
  obtain ⟨pe, hpe⟩ : ∃ t, p.eq o = t := ⟨_, rfl⟩
  obtain ⟨hdv, hhdv⟩ : ∃ t, headV p.part w = t := ⟨_, rfl⟩
  -- what Write tells
  have hWr : ∃ (x : Bs) (e : Int) (k : Nat), callW P f_amd_Write [.agg p.v, ai w] H = some (.tup [bv x, ai e], H ++ List.replicate k .other) ∧
      ((¬ (w = 10 ∨ w = 16) ∧ e = 9 ∧ x = (true, [])) ∨ ((w = 10 ∨ w = 16) ∧ n = 0 ∧ e = 3 ∧ x = (true, [])) ∨ ((w = 10 ∨ w = 16) ∧ n ≠ 0 ∧ e = 0 ∧ x.1 = false ∧ WrB p w.toNat x.2 ∧ x.2.length = n)) := by
    by_cases hw : w = 10 ∨ w = 16
    · by_cases h0 : n = 0
      · exact ⟨(true, []), 3, 0, by rw [wf2 hw (by omega)]; simp [bv, byteCs], .inr (.inl ⟨hw, h0, rfl, rfl⟩)⟩
      · obtain ⟨out, k, h4, h5⟩ := wf3 (by omega)
        have := (read_back (by omega) h4).2.1
        exact ⟨(false, out), 0, k, by rw [h5]; simp [bv], .inr (.inr ⟨hw, h0, rfl, rfl, h4, by simp only; omega⟩)⟩
    · exact ⟨(true, []), 9, 0, by rw [wf1 hw]; simp [bv, byteCs], .inl ⟨hw, rfl, rfl⟩⟩
  obtain ⟨x, e, k1, hW, hWc⟩ := hWr
  obtain ⟨G1, hG1⟩ : ∃ t, H ++ List.replicate k1 AObj.other = t := ⟨_, rfl⟩
  rw [hG1] at hW
  obtain ⟨zd, fd, k2, hD⟩ := amd_Data p hfl (by omega) G1
  obtain ⟨G2, hG2'⟩ : ∃ t, H ++ List.replicate (k1 + k2) AObj.other = t := ⟨_, rfl⟩
  rw [← hG1, oth_app, hG2', hG1] at hD
  obtain ⟨k3, hA3⟩ := hA G2
  obtain ⟨G3, hG3⟩ : ∃ t, H ++ List.replicate (k1 + k2 + k3) AObj.other = t := ⟨_, rfl⟩
  rw [← hG2', oth_app, hG3, hG2'] at hA3
  have hxl := bv_len x
  have hk1 := fun z f => lst_keep z 1 f (byteCs (bb p.ff).flatten)
  -- the document's bytes
  have hWd : ∃ (y : List Nat) (k4 : Nat), (n ≠ 0 → (WrB p w.toNat y ∧ callW P f_R10_Write [.agg p.v, ai w] G3 = some (.vs 1 none (byteCs y), G3 ++ List.replicate k4 .other))) ∧ (n = 0 → k4 = 0) := by
    by_cases h0 : n = 0
    · exact ⟨[], 0, fun h => (h h0).elim, fun _ => rfl⟩
    · obtain ⟨y, k4, a, b⟩ := rWrite p (w := w) (by omega) G3
      exact ⟨y, k4, fun _ => ⟨a, b⟩, fun h => (h0 h).elim⟩
  obtain ⟨y, k4, hWd, hWd0⟩ := hWd
  rw [hn] at hS hZ hR
  rw [hpe] at hE1 hE2
  rw [hhdv] at hd1 hd2
  obtain ⟨dd, hdd⟩ : ∃ t, strB (bb p.ff).flatten = t := ⟨_, rfl⟩
  rw [hdd] at hstr hts
  obtain ⟨db, hdb⟩ : ∃ t, byteCs (bb p.ff).flatten = t := ⟨_, rfl⟩
  rw [hdb] at hD hD2 hts hk1
  by_cases hn0 : n = 0
  · have hfin : ∃ ee : Int, e = ee ∧ ((¬ (w = 10 ∨ w = 16) ∧ ee = 9 ∧ x = (true, [])) ∨ ((w = 10 ∨ w = 16) ∧ ee = 3 ∧ x = (true, []))) := by
      rcases hWc with ⟨a, b, c⟩ | ⟨a, _, b, c⟩ | ⟨_, a, _⟩
      · exact ⟨e, rfl, .inl ⟨a, b, c⟩⟩
      · exact ⟨e, rfl, .inr ⟨a, b, c⟩⟩
      · exact (a hn0).elim
    obtain ⟨ee, rfl, hfin⟩ := hfin
    have hGf : List.take H.length G3 ++ List.replicate (G3.length - H.length) AObj.other = G3 := by rw [← hG3]; simp
    refine ⟨k1 + k2 + k3, ?_⟩
    rw [hG3]
    subst hn0
    replace hS : ∀ H, callW P f_R10_Size [.agg p.v, ai w] H = some (ai 0, H) := hS
    replace hZ : ∀ H, callW P f_amd_Size [.agg p.v, ai w] H = some (ai 0, H) := hZ
    replace hR : ∀ H, callW P f_amd_Right [.agg p.v, ai w] H = some (ab false, H) := hR
    clear hWc hWd hWd0 wf1 wf2 wf3 hn hpe hhdv hg hg2 g1 g2 g3 g4 g5 g6 hs hfl hp ho hDb hdd hdb
    obtain ⟨po, fi, sn, pa, la, off, z0, ff⟩ := p
    obtain ⟨qpo, qfi, qsn, qpa, qla, qoff, qz0, qff⟩ := o
    simp only at hG hG2 hd1 hd2
    simp only [Pk.v, Pk.f, pktV] at hAs hAs2 hS hZ hR hE1 hE2 hD2 hW hD ⊢
    generalize bvs ff = M1 at *
    generalize bvs qff = M2 at *
    rcases hfin with ⟨hw, rfl, rfl⟩ | ⟨hw, rfl, rfl⟩
    · have w1 : ¬ w = 10 := fun h => hw (.inl h)
      have w2 : ¬ w = 16 := fun h => hw (.inr h)
      rw [call_L 7 rfl (rfl : P.T f_L10_AmdWrites = some F_L10_AmdWrites) (le_ok rfl)]; simp -implicitDefEqProofs [-toCells, -AV.one, -forget, F_L10_AmdWrites, c_L10_AmdWrites, pktV, hG, hG2, hAs, hAs2, hS, hW, hZ, hR, hE1, hE2, hd1, hd2, hD, hD2, hts, hstr, w1, w2, hA3, hxl, hGf, hk1, keepB, -goodB, goodB_L, sameV, dstNot, dstNe, SOpG.reads, SOp.slots, SX.slots, SOp.noL, rdV_load, rdV_str, selfE_lst, selfE, selfEs, eqV]
      all_goals (repeat' (first | (refine ⟨.inl (by rw [L_length]; omega), ?_⟩) | (refine ⟨by rw [L_length]; omega, ?_⟩) | (rw [L_length]; omega) | (left; rw [L_length]; omega) | rfl | (simp; done)))
    · rcases hw with rfl | rfl
      · rw [call_L 7 rfl (rfl : P.T f_L10_AmdWrites = some F_L10_AmdWrites) (le_ok rfl)]; simp -implicitDefEqProofs [-toCells, -AV.one, -forget, F_L10_AmdWrites, c_L10_AmdWrites, pktV, hG, hG2, hAs, hAs2, hS, hW, hZ, hR, hE1, hE2, hd1, hd2, hD, hD2, hts, hstr, hA3, hxl, hGf, hk1, keepB, -goodB, goodB_L, sameV, dstNot, dstNe, SOpG.reads, SOp.slots, SX.slots, SOp.noL, rdV_load, rdV_str, selfE_lst, selfE, selfEs, eqV]
        all_goals (repeat' (first | (refine ⟨.inl (by rw [L_length]; omega), ?_⟩) | (refine ⟨by rw [L_length]; omega, ?_⟩) | (rw [L_length]; omega) | (left; rw [L_length]; omega) | rfl | (simp; done)))
      · rw [call_L 7 rfl (rfl : P.T f_L10_AmdWrites = some F_L10_AmdWrites) (le_ok rfl)]; simp -implicitDefEqProofs [-toCells, -AV.one, -forget, F_L10_AmdWrites, c_L10_AmdWrites, pktV, hG, hG2, hAs, hAs2, hS, hW, hZ, hR, hE1, hE2, hd1, hd2, hD, hD2, hts, hstr, hA3, hxl, hGf, hk1, keepB, -goodB, goodB_L, sameV, dstNot, dstNe, SOpG.reads, SOp.slots, SX.slots, SOp.noL, rdV_load, rdV_str, selfE_lst, selfE, selfEs, eqV]
        all_goals (repeat' (first | (refine ⟨.inl (by rw [L_length]; omega), ?_⟩) | (refine ⟨by rw [L_length]; omega, ?_⟩) | (rw [L_length]; omega) | (left; rw [L_length]; omega) | rfl | (simp; done)))
  · obtain ⟨hwb, hWd⟩ := hWd hn0
    obtain ⟨hw, hxw, hxn, hx1, rfl⟩ : (w = 10 ∨ w = 16) ∧ WrB p w.toNat x.2 ∧ x.2.length = n ∧ x.1 = false ∧ e = 0 := by
      rcases hWc with ⟨a, b, c⟩ | ⟨a, h, b, c⟩ | ⟨a, b, c, d, e, f⟩
      · rw [sizeR, if_pos a] at hn; exact (hn0 hn.symm).elim
      · exact (hn0 h).elim
      · exact ⟨a, e, f, d, c⟩
    obtain rfl : y = x.2 := WrB_uniq hwb hxw
    have hby : Bytes x.2 := WrB_bytes hxw hp
    have hstr2 : binA .eql .no (.c (.string (strB x.2))) (.c (.string (strB x.2))) = some (ab true) := by
      rw [binA_strEq .no hby hby]; simp
    obtain ⟨G4, hG4⟩ : ∃ t, H ++ List.replicate (k1 + k2 + k3 + k4) AObj.other = t := ⟨_, rfl⟩
    rw [← hG3, oth_app, hG4, hG3] at hWd
    have hGf : List.take H.length G4 ++ List.replicate (G4.length - H.length) AObj.other = G4 := by rw [← hG4]; simp
    refine ⟨k1 + k2 + k3 + k4, ?_⟩
    rw [hG4]
    have n1 : ¬ (n : Int) = 0 := by omega
    have n2 : (n : Int) > 0 := by omega
    have n2' : (0 : Int) < n := by omega
    have n2'' : 0 < n := by omega
    rw [hxn] at hxl
    have hks : (isVs (bv x) || isNilC (bv x)) = true := lst_keep _ _ _ _
    have hvx := fun H => vs_str H none x.2
    have hbx := fun H => bv_str H x
    obtain ⟨sx, hsx⟩ : ∃ t, strB x.2 = t := ⟨_, rfl⟩
    rw [hsx] at hstr2 hvx hbx
    obtain ⟨xb, hxb⟩ : ∃ t, byteCs x.2 = t := ⟨_, rfl⟩
    rw [hxb] at hWd hvx
    rw [decide_eq_true n2''] at hR
    have hk2 := vs_keep 1 none xb
    clear hWc hwb hxw hWd0 wf1 wf2 wf3 hn hpe hhdv hg hg2 g1 g2 g3 g4 g5 g6 hs hfl hp ho hDb hdd hdb
    obtain ⟨po, fi, sn, pa, la, off, z0, ff⟩ := p
    obtain ⟨qpo, qfi, qsn, qpa, qla, qoff, qz0, qff⟩ := o
    simp only at hG hG2 hd1 hd2
    simp only [Pk.v, Pk.f, pktV] at hAs hAs2 hS hZ hR hE1 hE2 hD2 hW hD hWd ⊢
    generalize bvs ff = M1 at *
    generalize bvs qff = M2 at *
    rcases hw with rfl | rfl
    · rw [call_L 7 rfl (rfl : P.T f_L10_AmdWrites = some F_L10_AmdWrites) (le_ok rfl)]; simp -implicitDefEqProofs [-toCells, -AV.one, -forget, F_L10_AmdWrites, c_L10_AmdWrites, pktV, hG, hG2, hAs, hAs2, hS, hW, hZ, hR, hE1, hE2, hd1, hd2, hD, hD2, hts, hstr, hA3, hxl, hGf, hk1, hn0, n1, n2, n2', n2'', hWd, hvx, hbx, hstr2, hks, hk2, keepB, -goodB, goodB_L, sameV, dstNot, dstNe, SOpG.reads, SOp.slots, SX.slots, SOp.noL, rdV_load, rdV_str, selfE_lst, selfE, selfEs, eqV]
      all_goals (repeat' (first | (refine ⟨.inl (by rw [L_length]; omega), ?_⟩) | (refine ⟨by rw [L_length]; omega, ?_⟩) | (rw [L_length]; omega) | (left; rw [L_length]; omega) | rfl | (simp; done)))
    · rw [call_L 7 rfl (rfl : P.T f_L10_AmdWrites = some F_L10_AmdWrites) (le_ok rfl)]; simp -implicitDefEqProofs [-toCells, -AV.one, -forget, F_L10_AmdWrites, c_L10_AmdWrites, pktV, hG, hG2, hAs, hAs2, hS, hW, hZ, hR, hE1, hE2, hd1, hd2, hD, hD2, hts, hstr, hA3, hxl, hGf, hk1, hn0, n1, n2, n2', n2'', hWd, hvx, hbx, hstr2, hks, hk2, keepB, -goodB, goodB_L, sameV, dstNot, dstNe, SOpG.reads, SOp.slots, SX.slots, SOp.noL, rdV_load, rdV_str, selfE_lst, selfE, selfEs, eqV]
      all_goals (repeat' (first | (refine ⟨.inl (by rw [L_length]; omega), ?_⟩) | (refine ⟨by rw [L_length]; omega, ?_⟩) | (rw [L_length]; omega) | (left; rw [L_length]; omega) | rfl | (simp; done)))
end Go.A.V.S

namespace Go.A.V.S
open Go Go.A Go.A.V
theorem amdWrites_all (u0 : List AV) (h0 : V.CT.iss [.b, .i .i64, .i .i64, .b, .b, .i .i64, .sl [.sl [.i .u8]]] u0) (u1 : List AV) (h1 : V.CT.iss [.b, .i .i64, .i .i64, .b, .b, .i .i64, .sl [.sl [.i .u8]]] u1) (w : Int) (_ : (Lit.int .i64 w).wf = true) : ∃ H', callW P f_L10_AmdWrites [.agg u0, .agg u1, ai w] [] = some (ab true, H') := by
  obtain ⟨p, rfl, hp⟩ := iss_pk h0
  obtain ⟨o, rfl, ho⟩ := iss_pk h1
  obtain ⟨k, hk⟩ := lAmdWrites p o hp ho w []
  exact ⟨_, hk⟩
end Go.A.V.S
