/- queue: Discard. -/
import Derived.Test.YtnmobjhmohcjfaaXE
import Derived.Test.YtnmobjhmohcjfaaXA
set_option linter.unusedSimpArgs false
set_option linter.unusedVariables false
set_option linter.unnecessarySimpa false
namespace Go.A.V.S
open Go Go.A
set_option linter.unusedSimpArgs false
set_option linter.unusedVariables false
section
variable {H : Heap} {r : Nat}
theorem okCell_lst (z : Bool) (k : Nat) (f : Option Nat) (l : List (List AV)) : okCell (lst z k f l) = true := by
  rcases lst_cases z k f l with ⟨_, _, e⟩ | ⟨e, _⟩ <;> rw [e] <;> rfl
end
end Go.A.V.S

namespace Go.A.V.S
set_option linter.unusedVariables false
/-- What is taken: the queue behind it, the fields, the texts that are at their end, how the fields begin and end. -/
structure CR where
  q : QM
  F : List (List Nat)
  D : List Nat
  fi : Nat
def cutQ (room w : Nat) : Nat → QM → List (List Nat) → List Nat → Nat → Nat → CR
  | 0, q, F, D, fi, _ => ⟨q, F, D, fi⟩
  | k + 1, q, F, D, fi, used => match q.l with
    | [] => ⟨q, F, D, fi⟩
    | t :: l => if (room : Int) - used - lsize F.length w < 1 then ⟨q, F, D, fi⟩ else
      if t.2.length - q.taken ≤ ((room : Int) - used - lsize F.length w).toNat then
        cutQ room w k ⟨q.room, l, 0, q.last⟩ (F ++ [t.2.drop q.taken]) (D ++ [t.1]) (if 0 < q.taken then 2 else fi) (used + (t.2.length - q.taken))
      else ⟨⟨q.room, q.l, q.taken + ((room : Int) - used - lsize F.length w).toNat, q.last⟩, F ++ [(t.2.drop q.taken).take ((room : Int) - used - lsize F.length w).toNat], D, (if 0 < q.taken then 2 else fi) + 1⟩
end Go.A.V.S

namespace Go.A.V.S
open Go Go.A
set_option linter.unusedSimpArgs false
set_option linter.unusedVariables false
section
variable {H : Heap} {r : Nat}
theorem cut_isWidth (w : Int) (H : Heap) : callW P f_cut_isWidth [ai w] H = some (ab (decide (w = 11 ∨ w = 15)), H) := by
  by_cases h1 : w = 11
  · rw [call_L 4 rfl (rfl : P.T f_cut_isWidth = some F_cut_isWidth) (le_ok rfl)]; simp -implicitDefEqProofs (disch := first | omega | (simp; done) | fail) [-toCells, -AV.one, -forget, F_cut_isWidth, c_cut_isWidth, cmp_ilt, cmp_ilf, cmp_ile, cmp_ilg, cmp_ine, cmp_nlt, cmp_nlf, cmp_nle, cmp_nne, cmp_neq, wrap_i64, wrap_u64, wrap_u8, h1]
  · by_cases h2 : w = 15
    · rw [call_L 4 rfl (rfl : P.T f_cut_isWidth = some F_cut_isWidth) (le_ok rfl)]; simp -implicitDefEqProofs (disch := first | omega | (simp; done) | fail) [-toCells, -AV.one, -forget, F_cut_isWidth, c_cut_isWidth, cmp_ilt, cmp_ilf, cmp_ile, cmp_ilg, cmp_ine, cmp_nlt, cmp_nlf, cmp_nle, cmp_nne, cmp_neq, wrap_i64, wrap_u64, wrap_u8, h1, h2]
    · rw [call_L 4 rfl (rfl : P.T f_cut_isWidth = some F_cut_isWidth) (le_ok rfl)]; simp -implicitDefEqProofs (disch := first | omega | (simp; done) | fail) [-toCells, -AV.one, -forget, F_cut_isWidth, c_cut_isWidth, cmp_ilt, cmp_ilf, cmp_ile, cmp_ilg, cmp_ine, cmp_nlt, cmp_nlf, cmp_nle, cmp_nne, cmp_neq, wrap_i64, wrap_u64, wrap_u8, h1, h2]
end
end Go.A.V.S

namespace Go.A.V.S
open Go Go.A
set_option linter.unusedSimpArgs false
set_option linter.unusedVariables false
/-- Fields in a slice. -/
def bvF (F : List (List Nat)) : List (List AV) := F.map fun b => [bv (false, b)]
theorem bvF_len (F : List (List Nat)) : (bvF F).length = F.length := by simp [bvF]
theorem bvF_snoc (F : List (List Nat)) (b : List Nat) : bvF (F ++ [b]) = bvF F ++ [[bv (false, b)]] := by simp [bvF]
section
variable {H : Heap} {r : Nat}
def InvB (H : Heap) (r room w : Nat) (R : CR) (zz : Nat) (σ : List AV) (G : Heap) : Prop :=
  ∃ (q : QM) (F : List (List Nat)) (D : List Nat) (fi used : Nat) (z : Bool), zz + F.length = 24 ∧ q.Ok ∧ used ≤ F.length * 1000 ∧ D.length ≤ F.length ∧ (fi = 0 ∨ fi = 2) ∧ cutQ room w zz q F D fi used = R ∧ G = QH H r q z ∧
    σ = L 111 (((((((Tr.full 7).put (path 0) (.ptr r 0 5)).put (path 1) (ai room)).put (path 2) (ai w)).put (path 6) (.lbox [ai 0, nilS, nilS])).put (path 12) (.lbox [ai fi, lst true 1 (some 88) (bvF F), lst true 1 (some 99) (uls D)])).put (path 13) (ai used))
def cutRes (R : CR) : AV := if R.F = [] then .tup [.agg [ai 0, nilS, nilS], ai 4] else .tup [.agg [ai R.fi, lst true 1 (some 88) (bvF R.F), lst true 1 (some 99) (uls R.D)], ai 0]
def QZ (H : Heap) (r : Nat) (q : QM) (G : Heap) : Prop := ∃ z, G = QH H r q z
def PostB (H : Heap) (r : Nat) (R : CR) (e : AExit) (σ : List AV) (G : Heap) : Prop :=
  QZ H r R.q G ∧ ((e = .goto 1 ∧ kill (headK tsc1_cut_Build) σ = L 111 (((Tr.full 7).put (path 6) (.lbox [ai 0, nilS, nilS])).put (path 12) (.lbox [ai R.fi, lst true 1 (some 88) (bvF R.F), lst true 1 (some 99) (uls R.D)]))) ∨ (e = .ret ∧ resultsA F_cut_Build.res σ = some (cutRes R)))
theorem lsize50 (n w : Nat) (hw : w = 11 ∨ w = 15) : lsize n w ≤ 50 := by
  unfold lsize; split
  · omega
  · rcases hw with rfl | rfl <;> omega
set_option maxHeartbeats 4000000 in
theorem cut_tail (hlt : r < H.length) {room w : Nat} (hroom : room ≤ 4000) (hw : w = 11 ∨ w = 15) {R : CR} (zz : Nat) (σ : List AV) (G : Heap) (hI : InvB H r room w R zz (kill (headK tsc0_cut_Build) σ) G) :
    Ends ((execW P f_cut_Build tsc0_cut_Build σ G).bind (jumpW P f_cut_Build sc0_cut_Build 0)) fun s => PostB H r R s.e s.σ s.H := by
  refine scope_ends (InvB H r room w R) (PostB H r R) rfl ?_ zz σ G hI
  clear hI zz σ G
  rintro zz σ G ⟨q, F, D, fi, used, z, hz, hq, hu, hD, hfi, hR, rfl, hσ⟩
  rw [← execW_head, hσ]
  have hS := fun H => lens_Size F.length w hw (by omega) H
  have hls := lsize50 F.length w hw
  have hFl : lenW (lst true 1 (some 88) (bvF F)) = some F.length := by rw [lenW_lst, bvF_len]
  obtain ⟨lf, hlf⟩ : ∃ x : Int, (room : Int) - used - (lsize F.length w : Nat) = x := ⟨_, rfl⟩
  obtain ⟨ru, hru⟩ : ∃ x : Int, (room : Int) - used = x := ⟨_, rfl⟩
  have w1 : IntKind.i64.wrap ((room : Int) - used) = ru := by rw [← hru]; exact wrap_i64 (by omega) (by omega)
  have w2' : IntKind.i64.wrap (ru - (lsize F.length w : Nat)) = lf := by rw [← hlf, hru]; exact wrap_i64 (by omega) (by omega)
  cases hl : q.l with
  | nil =>
    have hF0 := q_Front0 hlt hq z hl
    have hRq : R = ⟨q, F, D, fi⟩ := by
      rw [← hR]
      cases zz with
      | zero => rfl
      | succ k => rw [cutQ, hl]
    subst hRq
    have hqz : QZ H r q (QH H r q z) := ⟨z, rfl⟩
    unfold PostB
    simp only
    generalize QH H r q z = G at *
    simp -implicitDefEqProofs [-toCells, -AV.one, -forget, c_cut_Build, tsc0_cut_Build, hF0, hS, hFl, w1, w2']
    exact ⟨hqz, by simp [tsc1_cut_Build]⟩
  | cons t l =>
    have hF1 := q_Front1 hlt hq z hl
    have ht := hq.each t (by rw [hl]; simp)
    have hf := hq.first t l hl
    obtain ⟨m, hm⟩ : ∃ x, t.2.length - q.taken = x := ⟨_, rfl⟩
    have hbl : (t.2.drop q.taken).length = m := by rw [List.length_drop]; omega
    have hlb : lenW (bv (false, t.2.drop q.taken)) = some m := by rw [bv_len]; simp only; rw [hbl]
    have m0 : ¬ (m : Int) = 0 := by omega
    have m0' : ¬ m = 0 := by omega
    have hqz : QZ H r q (QH H r q z) := ⟨z, rfl⟩
    by_cases hl1 : lf < 1
    · have hRq : R = ⟨q, F, D, fi⟩ := by
        rw [← hR]
        cases zz with
        | zero => rfl
        | succ k => rw [cutQ, hl]; simp only; rw [if_pos (by rw [hlf]; exact hl1)]
      subst hRq
      unfold PostB
      simp only
      generalize t.2.drop q.taken = wd at *
      generalize QH H r q z = G at *
      generalize decide (0 < q.taken) = bg at *
      simp -implicitDefEqProofs [-toCells, -AV.one, -forget, c_cut_Build, tsc0_cut_Build, hF1, hS, hFl, w1, w2', hlb, m0, m0', hl1]
      exact ⟨hqz, by simp [tsc1_cut_Build]⟩
    by_cases h24 : F.length = 24
    · obtain rfl : zz = 0 := by omega
      have hRq : R = ⟨q, F, D, fi⟩ := by rw [← hR]; rfl
      subst hRq
      unfold PostB
      simp only
      rw [h24] at hS hFl w2'
      replace hS : ∀ H, callW P f_lens_Size [ai 24, ai w] H = some (ai (lsize 24 w : Nat), H) := hS
      generalize lsize 24 w = ls24 at *
      generalize t.2.drop q.taken = wd at *
      generalize QH H r q z = G at *
      generalize decide (0 < q.taken) = bg at *
      simp -implicitDefEqProofs [-toCells, -AV.one, -forget, c_cut_Build, tsc0_cut_Build, hF1, hS, hFl, w1, w2', hlb, m0, m0', hl1]
      exact ⟨hqz, by simp [tsc1_cut_Build]⟩
    obtain ⟨k, rfl⟩ : ∃ k, zz = k + 1 := ⟨zz - 1, by omega⟩
    have h24' : ¬ (F.length : Int) = 24 := by omega
    rw [cutQ, hl] at hR
    simp only at hR
    rw [hlf, if_neg hl1, hm] at hR
    obtain ⟨f2, hf2⟩ : ∃ x, (if 0 < q.taken then 2 else fi) = x := ⟨_, rfl⟩
    rw [hf2] at hR
    have hf2' : f2 = 0 ∨ f2 = 2 := by rw [← hf2]; split <;> omega
    have hor : 0 < q.taken → orI .i64 (fi : Int) 2 = (f2 : Int) := fun h => by
      rw [← hf2, if_pos h]
      rcases hfi with rfl | rfl <;> rfl
    have hnb : ¬ 0 < q.taken → f2 = fi := fun h => by rw [← hf2, if_neg h]
    have hor1 : orI .i64 (f2 : Int) 1 = ((f2 + 1 : Nat) : Int) := by rcases hf2' with rfl | rfl <;> rfl
    have hgl : (QH H r q z).length = H.length := QH_len _ _ _ _
    by_cases hall : m ≤ lf.toNat
    · rw [if_pos hall] at hR
      have hmn : mn lf (m : Int) = m := by simp only [mn]; split <;> omega
      have htk : q.take (m : Int) = (⟨q.room, l, 0, q.last⟩, t.2.drop q.taken, true, 0) := by
        unfold QM.take
        rw [hl]
        simp only
        rw [hm, if_neg (by omega), if_neg (by omega)]
      obtain ⟨z', hT⟩ := q_Take1 hlt hq z hl (m : Int)
      have hq2 := QM.take_ok hq (m : Int)
      rw [htk] at hT hq2
      simp only [bne_self_eq_false] at hT hq2
      replace hT : callW P f_queue_Queue_Take [.ptr r 0 5, ai m] (QH H r q z) = some (.tup [bv (false, t.2.drop q.taken), ab true, ai 0], QH H r ⟨q.room, l, 0, q.last⟩ z') := hT
      have hapF := fun σ H => app1 (m := P.md f_cut_Build) (d := 88) (bytes := 24) (v := bv (false, t.2.drop q.taken)) (R_cut_Build 88) (by omega) (by rw [bvF_len]; omega) (l := bvF F) (some 87) σ H
      rw [← bvF_snoc] at hapF
      have hapD := fun σ H => app1 (m := P.md f_cut_Build) (d := 99) (bytes := 8) (v := ul t.1) (R_cut_Build 99) (by omega) (by rw [uls_len]; omega) (l := uls D) (some 98) σ H
      rw [← uls_snoc] at hapD
      have w3 : IntKind.i64.wrap ((used : Int) + m) = ((used + m : Nat) : Int) := by rw [wrap_i64 (by omega) (by omega)]; omega
      obtain ⟨us, hus⟩ : ∃ x, used + m = x := ⟨_, rfl⟩
      rw [hus] at w3 hR
      have hInv : ∀ σ', σ' = L 111 (((((((Tr.full 7).put (path 0) (.ptr r 0 5)).put (path 1) (ai room)).put (path 2) (ai w)).put (path 6) (.lbox [ai 0, nilS, nilS])).put (path 12) (.lbox [ai f2, lst true 1 (some 88) (bvF (F ++ [t.2.drop q.taken])), lst true 1 (some 99) (uls (D ++ [t.1]))])).put (path 13) (ai us)) → InvB H r room w R k σ' (QH H r ⟨q.room, l, 0, q.last⟩ z') := fun σ' hσ' =>
        ⟨_, F ++ [t.2.drop q.taken], D ++ [t.1], f2, us, z', by simp; omega, hq2, by simp; omega, by simp; omega, hf2', hR, rfl, hσ'⟩
      generalize bvF (F ++ [t.2.drop q.taken]) = F2 at *
      generalize uls (D ++ [t.1]) = D2 at *
      generalize bvF F = F1 at *
      generalize uls D = D1 at *
      generalize t.2.drop q.taken = wd at *
      generalize QH H r ⟨q.room, l, 0, q.last⟩ z' = G2 at *
      generalize QH H r q z = G at *
      generalize F.length = fl at *
      by_cases hbg : 0 < q.taken
      · rw [decide_eq_true hbg] at hF1
        have hor' := hor hbg
        simp -implicitDefEqProofs [-toCells, -AV.one, -forget, c_cut_Build, binA_orI, tsc0_cut_Build, hF1, hS, hFl, w1, w2', hlb, m0, m0', hl1, h24, h24', hor', hmn, hT, hapF, hapD, w3]
        exact ⟨k, by omega, hInv _ (by simp)⟩
      · rw [decide_eq_false hbg] at hF1
        have hnb' := hnb hbg
        subst hnb'
        simp -implicitDefEqProofs [-toCells, -AV.one, -forget, c_cut_Build, binA_orI, tsc0_cut_Build, hF1, hS, hFl, w1, w2', hlb, m0, m0', hl1, h24, h24', hmn, hT, hapF, hapD, w3]
        exact ⟨k, by omega, hInv _ (by simp)⟩
    · rw [if_neg hall] at hR
      obtain ⟨nn, hnn⟩ : ∃ x, lf.toNat = x := ⟨_, rfl⟩
      rw [hnn] at hR hall
      have hlfn : lf = nn := by omega
      have hmn : mn lf (m : Int) = nn := by rw [hlfn]; exact mn_le (by omega)
      have htk : q.take (nn : Int) = (⟨q.room, q.l, q.taken + nn, q.last⟩, (t.2.drop q.taken).take nn, false, 0) := by
        unfold QM.take
        rw [hl]
        simp only
        rw [hm, if_neg (by omega), if_pos (by omega), Int.toNat_natCast]
      obtain ⟨z', hT⟩ := q_Take1 hlt hq z hl (nn : Int)
      rw [htk] at hT
      simp only [bne_self_eq_false] at hT
      replace hT : callW P f_queue_Queue_Take [.ptr r 0 5, ai nn] (QH H r q z) = some (.tup [bv (false, (t.2.drop q.taken).take nn), ab false, ai 0], QH H r ⟨q.room, q.l, q.taken + nn, q.last⟩ z') := hT
      have hapF := fun σ H => app1 (m := P.md f_cut_Build) (d := 88) (bytes := 24) (v := bv (false, (t.2.drop q.taken).take nn)) (R_cut_Build 88) (by omega) (by rw [bvF_len]; omega) (l := bvF F) (some 87) σ H
      rw [← bvF_snoc] at hapF
      have w3 : IntKind.i64.wrap ((used : Int) + nn) = ((used + nn : Nat) : Int) := by rw [wrap_i64 (by omega) (by omega)]; omega
      have hlo : lenW (bv (false, (t.2.drop q.taken).take nn)) = some nn := by rw [bv_len]; simp only; rw [List.length_take]; congr 1; omega
      have hF3 : lenW (lst true 1 (some 88) (bvF (F ++ [(t.2.drop q.taken).take nn]))) = some (F.length + 1) := by rw [lenW_lst, bvF_len]; simp
      have hqz2 : QZ H r ⟨q.room, q.l, q.taken + nn, q.last⟩ (QH H r ⟨q.room, q.l, q.taken + nn, q.last⟩ z') := ⟨z', rfl⟩
      have f0 : ¬ ((F.length + 1 : Nat) : Int) = 0 := by omega
      have f0' : ¬ (F.length : Int) + 1 = 0 := by omega
      have hRes : cutRes R = .tup [.agg [ai (f2 + 1 : Nat), lst true 1 (some 88) (bvF (F ++ [(t.2.drop q.taken).take nn])), lst true 1 (some 99) (uls D)], ai 0] := by
        rw [← hR, cutRes]; simp only; rw [if_neg (by simp)]
      have hRq : R.q = ⟨q.room, q.l, q.taken + nn, q.last⟩ := by rw [← hR, hl]
      unfold PostB
      rw [hRq, hRes]
      obtain ⟨f3, hf3⟩ : ∃ x, f2 + 1 = x := ⟨_, rfl⟩
      rw [hf3] at hor1 ⊢
      generalize bvF (F ++ [(t.2.drop q.taken).take nn]) = F2 at *
      generalize bvF F = F1 at *
      generalize uls D = D1 at *
      generalize (t.2.drop q.taken).take nn = wo at *
      generalize t.2.drop q.taken = wd at *
      generalize QH H r ⟨q.room, q.l, q.taken + nn, q.last⟩ z' = G2 at *
      generalize QH H r q z = G at *
      generalize F.length = fl at *
      by_cases hbg : 0 < q.taken
      · rw [decide_eq_true hbg] at hF1
        have hor' := hor hbg
        simp -implicitDefEqProofs [-toCells, -AV.one, -forget, c_cut_Build, binA_orI, tsc0_cut_Build, hF1, hS, hFl, w1, w2', hlb, m0, m0', hl1, h24, h24', hor', hmn, hT, hapF, w3, hlo, hF3, f0, f0', hor1]
        exact ⟨hqz2, by simp [F_cut_Build]⟩
      · rw [decide_eq_false hbg] at hF1
        have hnb' := hnb hbg
        subst hnb'
        simp -implicitDefEqProofs [-toCells, -AV.one, -forget, c_cut_Build, binA_orI, tsc0_cut_Build, hF1, hS, hFl, w1, w2', hlb, m0, m0', hl1, h24, h24', hmn, hT, hapF, w3, hlo, hF3, f0, f0', hor1]
        exact ⟨hqz2, by simp [F_cut_Build]⟩
end
end Go.A.V.S

namespace Go.A.V.S
open Go Go.A
set_option linter.unusedSimpArgs false
set_option linter.unusedVariables false
section
variable {H : Heap} {r : Nat}
theorem cut_ask (room : Nat) (hroom : room ≤ 4000) {w : Nat} (hw : w = 11 ∨ w = 15) (H : Heap) : callW P f_cut_ask [.ptr r 0 5, ai room, ai w] H = some (ai 0, H) := by
  have h1 := fun H => cut_isWidth w H
  have hd : decide ((w : Int) = 11 ∨ (w : Int) = 15) = true := by rcases hw with rfl | rfl <;> simp
  rw [hd] at h1
  rw [call_L 5 rfl (rfl : P.T f_cut_ask = some F_cut_ask) (le_ok rfl)]; simp -implicitDefEqProofs (disch := first | omega | (simp; done) | fail) [-toCells, -AV.one, -forget, F_cut_ask, c_cut_ask, cmp_ilt, cmp_ilf, cmp_ile, cmp_ilg, cmp_ine, cmp_nlt, cmp_nlf, cmp_nle, cmp_nne, cmp_neq, wrap_i64, wrap_u64, wrap_u8, h1]
def cutPub (R : CR) : AV := if R.F = [] then .tup [.agg [ai 0, nilS, nilS], ai 4] else .tup [.agg [ai R.fi, lst true 1 none (bvF R.F), lst true 1 none (uls R.D)], ai 0]
theorem take_z (hlt : r < H.length) {q : QM} (hq : q.Ok) (z : Bool) : ∃ e z', (e = 1 ∨ e = 4) ∧ callW P f_queue_Queue_Take [.ptr r 0 5, ai 0] (QH H r q z) = some (.tup [nilS, ab false, ai e], QH H r q z') := by
  cases hl : q.l with
  | nil => exact ⟨4, z, .inr rfl, q_Take0 hlt hq z hl 0⟩
  | cons t l =>
    obtain ⟨z', h⟩ := q_Take1 hlt hq z hl 0
    have : q.take 0 = (q, [], false, 1) := by
      unfold QM.take
      rw [hl]
      simp only
      rw [if_pos (.inl (by omega))]
    rw [this] at h
    exact ⟨1, z', .inl rfl, h⟩
set_option maxHeartbeats 1000000 in
theorem c_Build (hlt : r < H.length) {q : QM} (hq : q.Ok) (z : Bool) (room : Nat) (hroom : room ≤ 4000) {w : Nat} (hw : w = 11 ∨ w = 15) :
    ∃ z', callW P f_cut_Build [.ptr r 0 5, ai room, ai w] (QH H r q z) = some (cutPub (cutQ room w 24 q [] [] 0 0), QH H r (cutQ room w 24 q [] [] 0 0).q z') := by
  obtain ⟨R, hR⟩ : ∃ x, cutQ room w 24 q [] [] 0 0 = x := ⟨_, rfl⟩
  rw [hR]
  suffices hs : Ends (callW P f_cut_Build [.ptr r 0 5, ai room, ai w] (QH H r q z)) fun y => ∃ z', y = (cutPub R, QH H r R.q z') by
    obtain ⟨y, h1, z', rfl⟩ := hs
    exact ⟨z', h1⟩
  have hA := cut_ask (r := r) room hroom hw
  obtain ⟨e, z1, he, hT⟩ := take_z hlt hq z
  have he0 : ¬ e = 6 := by omega
  refine call_post 7 111 rfl (rfl : P.T f_cut_Build = some F_cut_Build) rfl (le_ok rfl) (fun e σ G => e = .ret ∧ QZ H r R.q G ∧ resultsA F_cut_Build.res σ = some (cutRes R)) ?_ ?_
  · rintro e σ G ⟨rfl, ⟨z', rfl⟩, h2⟩
    refine ⟨rfl, _, h2, ?_, ?_⟩
    · unfold cutRes; split <;> simp
    · refine ⟨_, ?_, z', rfl⟩
      simp only [K_cut_Build, C_cut_Build, finish_n, QH_len]
      unfold cutRes cutPub
      split <;> simp
  have hgl : (QH H r q z).length = H.length := QH_len _ _ _ _
  have hI : ∀ σ, σ = L 111 (((((((Tr.full 7).put (path 0) (.ptr r 0 5)).put (path 1) (ai room)).put (path 2) (ai w)).put (path 6) (.lbox [ai 0, nilS, nilS])).put (path 12) (.lbox [ai 0, nilS, nilS])).put (path 13) (ai 0)) → InvB H r room w R 24 σ (QH H r q z1) := fun σ hσ => ⟨q, [], [], 0, 0, z1, rfl, hq, by simp, by simp, .inl rfl, hR, rfl, hσ⟩
  generalize QH H r q z1 = G1 at *
  generalize QH H r q z = G at *
  rw [F_cut_Build]; simp -implicitDefEqProofs [-toCells, -AV.one, -forget, c_cut_Build, hA, hT, he0]
  refine Ends.bind (Q := fun s => PostB H r R s.e s.σ s.H) (cut_tail hlt hroom hw 24 _ _ (hI _ (by simp [tsc0_cut_Build]))) ?_
  rintro ⟨e1, σ1, G2⟩ ⟨hz, ⟨he1, k2⟩ | ⟨he1, k2⟩⟩
  · simp only at he1 hz k2
    subst he1
    have hFl : lenW (lst true 1 (some 88) (bvF R.F)) = some R.F.length := by rw [lenW_lst, bvF_len]
    rw [jumpW_eq, if_pos rfl, sc1_cut_Build]
    rw [execW_seq, execW_skip]
    simp only [Option.bind_some, andThen]
    rw [← execW_head, k2]
    have hfl0 : R.F.length = 0 ↔ R.F = [] := List.length_eq_zero_iff
    unfold cutRes
    generalize bvF R.F = F1 at *
    generalize uls R.D = D1 at *
    generalize R.fi = fi at *
    obtain ⟨fl, hfl⟩ : ∃ x, R.F.length = x := ⟨_, rfl⟩
    rw [hfl] at hFl hfl0
    by_cases hF : R.F = []
    · have h0 : fl = 0 := hfl0.2 hF
      have h0' : (fl : Int) = 0 := by omega
      rw [if_pos hF]
      subst h0
      replace hFl : lenW (lst true 1 (some 88) F1) = some 0 := hFl
      simp -implicitDefEqProofs [-toCells, -AV.one, -forget, c_cut_Build, tsc1_cut_Build, hFl]
      exact hz
    · have h0 : ¬ fl = 0 := fun h => hF (hfl0.1 h)
      have h0' : ¬ (fl : Int) = 0 := by omega
      rw [if_neg hF]
      simp -implicitDefEqProofs [-toCells, -AV.one, -forget, c_cut_Build, tsc1_cut_Build, hFl, h0, h0']
      exact hz
  · simp only at he1 hz k2
    subst he1
    have hk : resultsA F_cut_Build.res σ1 = some (cutRes R) := k2
    simp only [jump_ret]
    refine ⟨_, rfl, rfl, hz, ?_⟩
    simpa [F_cut_Build] using hk
end
end Go.A.V.S
