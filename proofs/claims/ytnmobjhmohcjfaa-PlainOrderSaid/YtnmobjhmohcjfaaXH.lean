/- The law PlainOrder: what is pushed. -/
import Derived.Test.YtnmobjhmohcjfaaXG
import Derived.Test.YtnmobjhmohcjfaaXA
import Derived.Test.YtnmobjhmohcjfaaAX
import Derived.Test.YtnmobjhmohcjfaaXC
set_option linter.unusedSimpArgs false
set_option linter.unusedVariables false
set_option linter.unnecessarySimpa false
namespace Go.A.V.S
open Go Go.A
set_option linter.unusedSimpArgs false
set_option linter.unusedVariables false
theorem l15alive (H : Heap) : callW P f_L15_alive [] H = some (ab true, H) := by
  rw [callW_eq]; rfl
/-- What a push that is taken does, behind a Discard of the same. -/
theorem push_yes {q : QM} {b : List Nat} (h : (q.push b).2.2 = 0) : q.push b = (⟨q.room, q.l ++ [(q.last + 1, b)], q.taken, q.last + 1⟩, q.last + 1, 0) := by
  unfold QM.push at h ⊢
  by_cases h1 : b.length = 0
  · rw [if_pos h1] at h; simp at h
  rw [if_neg h1] at h ⊢
  by_cases h2 : 1000 < b.length
  · rw [if_pos h2] at h; simp at h
  rw [if_neg h2] at h ⊢
  by_cases h3 : 64 ≤ q.l.length ∨ q.room < q.bytes + b.length
  · rw [if_pos h3] at h; simp at h
  rw [if_neg h3]
theorem push_no {q : QM} {b : List Nat} (h : (q.push b).2.2 ≠ 0) : (q.push b).1 = q := by
  unfold QM.push at h ⊢
  by_cases h1 : b.length = 0
  · rw [if_pos h1]
  rw [if_neg h1] at h ⊢
  by_cases h2 : 1000 < b.length
  · rw [if_pos h2]
  rw [if_neg h2] at h ⊢
  by_cases h3 : 64 ≤ q.l.length ∨ q.room < q.bytes + b.length
  · rw [if_pos h3]
  rw [if_neg h3] at h; simp at h
theorem disc_new {q : QM} (hq : q.Ok) (htk : q.taken = 0) (b : List Nat) : QM.discard ⟨q.room, q.l ++ [(q.last + 1, b)], q.taken, q.last + 1⟩ (q.last + 1) = (⟨q.room, q.l, 0, q.last + 1⟩, 0) := by
  have hf : QM.find ⟨q.room, q.l ++ [(q.last + 1, b)], q.taken, q.last + 1⟩ (q.last + 1) = some q.l.length := by
    unfold QM.find
    simp only
    rw [List.findIdx?_append]
    have h1 : q.l.findIdx? (fun t => t.1 == q.last + 1) = none := by
      rw [List.findIdx?_eq_none_iff]
      intro t ht
      have := (hq.each t ht).2.2.2.2
      simp; omega
    rw [h1]
    simp [List.findIdx?_cons]
  unfold QM.discard
  rw [hf]
  simp only [htk]
  rw [if_neg (by omega)]
  simp [List.eraseIdx_append_of_length_le]
section
variable {rq rs : Nat} {z0 zg : Bool} {T : List Bs} {nb : Bs} {zw : Bool} {ws : List (List AV)}
def InvP1 (rq rs : Nat) (z0 : Bool) (T : List Bs) (nb : Bs) (zw : Bool) (ws : List (List AV)) (zz : Nat) (σ : List AV) (G : Heap) : Prop :=
  ∃ (i : Nat) (q : QM) (z : Bool) (H : Heap) (o : List Bs), i + zz = 41 ∧ i ≤ 40 ∧ q.Ok ∧ q.last ≤ i ∧ q.taken = 0 ∧ Bt H rq rs ∧ o.length ≤ i ∧ q.l.map (·.2) = o.map (·.2) ∧ G = PH H rq rs q z ∧
    σ = L 171 (((((((Tr.full 8).put (path 0) (lst z0 1 none (bvs T))).put (path 1) (bv nb)).put (path 2) (lst zw 1 none ws)).put (path 7) (.ptr rs 0 11)).put (path 9) (lst true 1 (some 82) (bvs o))).put (path 10) (ai i))
def PostP1 (rq rs : Nat) (zw : Bool) (ws : List (List AV)) (e : AExit) (σ : List AV) (G : Heap) : Prop :=
  (∃ (q : QM) (z : Bool) (H : Heap) (o : List Bs), e = .exit 0 ∧ q.Ok ∧ q.taken = 0 ∧ Bt H rq rs ∧ o.length ≤ 40 ∧ q.l.map (·.2) = o.map (·.2) ∧ G = PH H rq rs q z ∧
    kill [0, 1, 10, 32, 33, 34, 35, 36, 37, 38, 39] σ = L 171 ((((Tr.full 8).put (path 2) (lst zw 1 none ws)).put (path 7) (.ptr rs 0 11)).put (path 9) (lst true 1 (some 82) (bvs o)))) ∨
  (e = .ret ∧ resultsA F_L15_PlainOrder.res σ = some (ab true))
set_option maxHeartbeats 4000000 in
theorem po_loop1 (hby : ∀ o ∈ T, Bytes o.2) (zz : Nat) (σ : List AV) (G : Heap) (hI : InvP1 rq rs z0 T nb zw ws zz (kill (headK lp0_L15_PlainOrder) σ) G) :
    Ends (execW P f_L15_PlainOrder (.loop lp0_L15_PlainOrder) σ G) fun s => PostP1 rq rs zw ws s.e s.σ s.H := by
  refine loop_ends (fun zz σ G => InvP1 rq rs z0 T nb zw ws zz σ G) (PostP1 rq rs zw ws) ?_ zz σ G hI
  clear hI zz σ G
  rintro zz σ G ⟨i, q, z, H, o, hz, hi40, hq, hla, htk, hAt, hol, hqo, rfl, rfl⟩
  have hAl := l15alive
  have hlw : lenW (lst z0 1 none (bvs T)) = some T.length := by rw [lenW_lst, bvs_len]
  by_cases hi : i < T.length
  · have hi' : (i : Int) < T.length := by omega
    by_cases h40 : i < 40
    · have h40' : (i : Int) < 40 := by omega
      obtain ⟨b, hb⟩ : ∃ o, T[i]? = some o := ⟨_, List.getElem?_eq_getElem hi⟩
      have q1 := bvs_at hb z0 none .i64
      have hbb := hby b (List.mem_of_getElem? hb)
      obtain ⟨n, hnl⟩ : ∃ x, T.length = x := ⟨_, rfl⟩
      rw [hnl] at hi hi' hlw
      have hlb := bv_len b
      obtain ⟨bl, hbl⟩ : ∃ x, b.2.length = x := ⟨_, rfl⟩
      rw [hbl] at hlb
      by_cases h11 : 1100 < bl
      · have h11' : (bl : Int) > 1100 := by omega
        have h11'' : (1100 : Int) < bl := by omega
        obtain ⟨G, hG⟩ : ∃ x, PH H rq rs q z = x := ⟨_, rfl⟩
        rw [hG]
        simp -implicitDefEqProofs [-toCells, -AV.one, -forget, c_L15_PlainOrder, lp0_L15_PlainOrder, hlw, hi, hi', h40, h40', q1, hlb, h11, h11', h11'', hAl]
        exact .inr ⟨rfl, by simp [F_L15_PlainOrder]⟩
      have h11' : ¬ (bl : Int) > 1100 := by omega
      have h11'' : ¬ (1100 : Int) < bl := by omega
      have w1 : IntKind.i64.wrap ((i : Int) + 1) = ((i + 1 : Nat) : Int) := by rw [wrap_i64 (by omega) (by omega)]; omega
      obtain ⟨i1, hi1⟩ : ∃ x, i + 1 = x := ⟨_, rfl⟩
      rw [hi1] at w1
      have hfin : ∀ (q' : QM) (z' : Bool) (H' : Heap) (o' : List Bs), q'.Ok → q'.last ≤ i1 → q'.taken = 0 → Bt H' rq rs → o'.length ≤ i1 → q'.l.map (·.2) = o'.map (·.2) → ∀ σ', σ' = L 171 (((((((Tr.full 8).put (path 0) (lst z0 1 none (bvs T))).put (path 1) (bv nb)).put (path 2) (lst zw 1 none ws)).put (path 7) (.ptr rs 0 11)).put (path 9) (lst true 1 (some 82) (bvs o'))).put (path 10) (ai i1)) → ∃ m, m < zz ∧ InvP1 rq rs z0 T nb zw ws m σ' (PH H' rq rs q' z') := fun q' z' H' o' a1 a2 a3 a4 a5 a6 σ' hσ' => by
        exact ⟨zz - 1, by omega, i1, q', z', H', o', by omega, by omega, a1, a2, a3, a4, a5, a6, rfl, hσ'⟩
      obtain ⟨z', hP⟩ := p_Push (z := z) hAt hq (by omega) b (by omega)
      by_cases he : (q.push b.2).2.2 = 0
      · have hpy := push_yes he
        rw [hpy] at hP
        have hq1 := QM.push_ok hq hbb
        rw [hpy] at hq1
        simp only at hq1 hP
        have hap := fun σ H => app1 (m := P.md f_L15_PlainOrder) (d := 82) (bytes := 24) (v := bv b) (R_L15_PlainOrder 82) (by omega) (by rw [bvs_len]; omega) (l := bvs o) (some 81) σ H
        rw [← bvs_snoc] at hap
        have hdo := disc_new hq htk b.2
        obtain ⟨z2, k, hD⟩ := p_Discard (z := z') hAt hq1 (q.last + 1)
        rw [hdo] at hD
        simp only at hD
        have hq2 := QM.discard_ok hq1 (q.last + 1)
        rw [hdo] at hq2
        simp only at hq2
        have hfA := hfin _ z' H (o ++ [b]) hq1 (by simp only; omega) htk hAt (by simp; omega) (by simp [hqo])
        have hfD := hfin _ z2 (H ++ List.replicate k .other) o hq2 (by simp only; omega) rfl (hAt.app _) (by omega) hqo
        have hln := bv_len nb
        obtain ⟨nl, hnbl⟩ : ∃ x, nb.2.length = x := ⟨_, rfl⟩
        rw [hnbl] at hln
        generalize PH (H ++ List.replicate k .other) rq rs ⟨q.room, q.l, 0, q.last + 1⟩ z2 = G3 at *
        generalize PH H rq rs ⟨q.room, q.l ++ [(q.last + 1, b.2)], q.taken, q.last + 1⟩ z' = G2 at *
        generalize PH H rq rs q z = G at *
        generalize q.last + 1 = id at *
        clear hq1 hq2 hdo hpy hfin
        by_cases hg : i < nl
        · have hg' : (i : Int) < nl := by omega
          obtain ⟨x, hx⟩ : ∃ o, nb.2[i]? = some o := ⟨_, List.getElem?_eq_getElem (by omega)⟩
          have q2 := bv_at hx .i64
          obtain ⟨y, hy⟩ : ∃ y, andI .u8 x 3 = y := ⟨_, rfl⟩
          have a3 : binA .and .no (au x) (.c (.int .u8 3)) = some (.c (.int .u8 y)) := by rw [← hy]; exact binA_andI _ _ _ _
          by_cases hy3 : y = 3
          · simp -implicitDefEqProofs [-toCells, -AV.one, -forget, c_L15_PlainOrder, lp0_L15_PlainOrder, hlw, hi, hi', h40, h40', q1, hlb, h11, h11', h11'', hP, hln, hg, hg', q2, a3, hy3, hD, w1]
            exact hfD _ (by simp)
          · simp -implicitDefEqProofs [-toCells, -AV.one, -forget, c_L15_PlainOrder, lp0_L15_PlainOrder, hlw, hi, hi', h40, h40', q1, hlb, h11, h11', h11'', hP, hln, hg, hg', q2, a3, hy3, hap, w1]
            exact hfA _ (by simp)
        · have hg' : ¬ (i : Int) < nl := by omega
          simp -implicitDefEqProofs [-toCells, -AV.one, -forget, c_L15_PlainOrder, lp0_L15_PlainOrder, hlw, hi, hi', h40, h40', q1, hlb, h11, h11', h11'', hP, hln, hg, hg', hap, w1]
          exact hfA _ (by simp)
      · have hpn := push_no he
        rw [hpn] at hP
        have hf := hfin q z' H o hq (by omega) htk hAt (by omega) hqo
        obtain ⟨e, hee⟩ : ∃ x, (q.push b.2).2.2 = x := ⟨_, rfl⟩
        rw [hee] at hP he
        have he' : ¬ (e : Int) = 0 := by omega
        generalize (q.push b.2).2.1 = id at *
        generalize PH H rq rs q z' = G2 at *
        generalize PH H rq rs q z = G at *
        simp -implicitDefEqProofs [-toCells, -AV.one, -forget, c_L15_PlainOrder, lp0_L15_PlainOrder, hlw, hi, hi', h40, h40', q1, hlb, h11, h11', h11'', hP, he, he', w1]
        exact hf _ (by simp)
    · have h40' : ¬ (i : Int) < 40 := by omega
      obtain ⟨n, hnl⟩ : ∃ x, T.length = x := ⟨_, rfl⟩
      rw [hnl] at hi hi' hlw
      obtain ⟨G, hG⟩ : ∃ x, PH H rq rs q z = x := ⟨_, rfl⟩
      rw [hG]
      simp -implicitDefEqProofs [-toCells, -AV.one, -forget, c_L15_PlainOrder, lp0_L15_PlainOrder, hlw, hi, hi', h40, h40']
      exact .inl ⟨q, z, H, o, rfl, hq, htk, hAt, by omega, hqo, hG.symm, by simp⟩
  · have hi' : ¬ (i : Int) < T.length := by omega
    obtain ⟨n, hnl⟩ : ∃ x, T.length = x := ⟨_, rfl⟩
    rw [hnl] at hi hi' hlw
    obtain ⟨G, hG⟩ : ∃ x, PH H rq rs q z = x := ⟨_, rfl⟩
    rw [hG]
    simp -implicitDefEqProofs [-toCells, -AV.one, -forget, c_L15_PlainOrder, lp0_L15_PlainOrder, hlw, hi, hi']
    exact .inl ⟨q, z, H, o, rfl, hq, htk, hAt, by omega, hqo, hG.symm, by simp⟩
end
end Go.A.V.S

namespace Go.A.V.S
open Go Go.A
set_option linter.unusedSimpArgs false
set_option linter.unusedVariables false
theorem lst_strP (H : Heap) (z : Bool) (f : Option Nat) (l : List Nat) : strV H (lst z 1 f (byteCs l)) = some (.c (.string (strB l))) := by
  have h : ∀ f, strV H (.vs 1 f (byteCs l)) = some (.c (.string (strB l))) := fun f => by
    simp only [strV]
    rw [if_pos trivial, Go.A.byteCs_flat, bytesOf_au]
    rfl
  rcases lst_cases z 1 f (byteCs l) with ⟨_, e1, e⟩ | ⟨e, _⟩
  · have : l = [] := by simpa [byteCs] using e1
    subst this
    rw [e]; rfl
  · rw [e]; exact h f
/-- Grants. -/
def wvs (l : List Nat) : List (List AV) := l.map fun (n : Nat) => [.c (.int .u16 n)]
theorem wvs_len (l : List Nat) : (wvs l).length = l.length := by simp [wvs]
theorem wvs_at {l : List Nat} {i n : Nat} (h : l[i]? = some n) (z : Bool) (f : Option Nat) (k : IntKind) : iaddrW 1 none (lst z 1 f (wvs l)) (.c (.int k i)) = some (.vp [.c (.int .u16 n)] 0) := iaddrW_lst _ _ _ (by simp [wvs, h]) k
section
variable {rq rs : Nat} {zw : Bool} {l : List Nat} {o : List Bs} {H : Heap} {q : QM} {z : Bool}
/-- What Build tells. -/
inductive PB (H : Heap) (rq rs : Nat) (q : QM) (z : Bool) (g : Nat) : Prop where
  | no (e : Nat) (he : e ≠ 0) (h : 1000 ≤ g → q.l = []) (hc : callW P f_plain_Entity_Build [.ptr rs 0 11, ai g] (PH H rq rs q z) = some (.tup [nilS, ul 0, ai e], PH H rq rs q z))
  | yes (t : Nat × List Nat) (r : List (Nat × List Nat)) (z' : Bool) (h : q.l = t :: r) (hg : t.2.length ≤ g) (hc : callW P f_plain_Entity_Build [.ptr rs 0 11, ai g] (PH H rq rs q z) = some (.tup [bv (false, t.2), ul t.1, ai 0], PH H rq rs ⟨q.room, r, 0, q.last⟩ z'))
theorem p_Build (h : Bt H rq rs) (hq : q.Ok) (htk : q.taken = 0) (g : Nat) (hg : g ≤ 4096) : PB H rq rs q z g := by
  cases hl : q.l with
  | nil => exact .no 4 (by omega) (fun _ => hl) (p_Build0 h hq hl g hg)
  | cons t r =>
    by_cases hs : t.2.length ≤ g
    · obtain ⟨z', hc⟩ := p_Build2 (z := z) h hq htk hl g hg hs
      exact .yes t r z' hl hs hc
    · have := (hq.each t (by rw [hl]; simp)).2.1
      exact .no 16 (by omega) (fun hh => by omega) (p_Build1 h hq htk hl g hg (by omega))
theorem QM.tail_ok {q : QM} (hq : q.Ok) (htk : q.taken = 0) {t : Nat × List Nat} {r : List (Nat × List Nat)} (h : q.l = t :: r) : QM.Ok ⟨q.room, r, 0, q.last⟩ := by
  obtain ⟨a, b, c, d, e, f, g⟩ := hq
  have htot : tot q.l = t.2.length + tot r := by rw [h, tot_cons]
  refine ⟨a, by simp only; rw [h] at b; simp at b; omega, fun x hx => c x (by rw [h]; simp [hx]), fun _ => rfl, fun x y hxy => ?_, ?_, ?_⟩
  · have := (c x (by rw [h, show r = x :: y from hxy]; simp)).1
    simp only; omega
  · have hb : q.bytes = tot q.l - q.taken := rfl
    simp only [QM.bytes]
    omega
  · rw [QM.ids, h] at g
    simp only [List.map_cons, List.pairwise_cons] at g
    exact g.2
def InvP2 (rq rs : Nat) (zw : Bool) (l : List Nat) (o : List Bs) (zz : Nat) (σ : List AV) (G : Heap) : Prop :=
  ∃ (i n : Nat) (q : QM) (z : Bool) (H : Heap), i + zz = 201 ∧ i ≤ 200 ∧ q.Ok ∧ q.taken = 0 ∧ Bt H rq rs ∧ n ≤ o.length ∧ q.l.map (·.2) = (o.map (·.2)).drop n ∧ (i ≤ l.length + n ∨ n = o.length) ∧ G = PH H rq rs q z ∧
    σ = L 171 ((((((Tr.full 8).put (path 2) (lst zw 1 none (wvs l))).put (path 7) (.ptr rs 0 11)).put (path 9) (lst true 1 (some 82) (bvs o))).put (path 13) (ai n)).put (path 14) (ai i))
def PostP2 (rq rs : Nat) (zw : Bool) (l : List Nat) (o : List Bs) (e : AExit) (σ : List AV) (G : Heap) : Prop :=
  ∃ (n : Nat) (q : QM) (z : Bool) (H : Heap), e = .exit 2 ∧ q.Ok ∧ q.taken = 0 ∧ Bt H rq rs ∧ n ≤ o.length ∧ q.l.map (·.2) = (o.map (·.2)).drop n ∧ (l.length ≤ 150 → n = o.length) ∧ G = PH H rq rs q z ∧
    kill [14, 83, 84, 85, 86, 87, 88, 89, 90, 91, 92, 93] σ = L 171 (((((Tr.full 8).put (path 2) (lst zw 1 none (wvs l))).put (path 7) (.ptr rs 0 11)).put (path 9) (lst true 1 (some 82) (bvs o))).put (path 13) (ai n))
set_option maxHeartbeats 4000000 in
theorem po_loop2 (hol : o.length ≤ 40) (hw : ∀ n ∈ l, n < 65536) (zz : Nat) (σ : List AV) (G : Heap) (hI : InvP2 rq rs zw l o zz (kill (headK lp1_L15_PlainOrder) σ) G) :
    Ends (execW P f_L15_PlainOrder (.loop lp1_L15_PlainOrder) σ G) fun s => PostP2 rq rs zw l o s.e s.σ s.H := by
  refine loop_ends (fun zz σ G => InvP2 rq rs zw l o zz σ G) (PostP2 rq rs zw l o) ?_ zz σ G hI
  clear hI zz σ G
  rintro zz σ G ⟨i, n, q, z, H, hz, hi2, hq, htk, hAt, hn, hqo, hpr, rfl, rfl⟩
  have hlw : lenW (lst zw 1 none (wvs l)) = some l.length := by rw [lenW_lst, wvs_len]
  have hlo : ∀ f, lenW (lst true 1 f (bvs o)) = some o.length := fun f => by rw [lenW_lst, bvs_len]
  obtain ⟨s, hs⟩ : ∃ s, IntKind.i64.wrap ((l.length : Int) + o.length) = s := ⟨_, rfl⟩
  have hs1 : l.length ≤ 150 → s = l.length + o.length := fun h => by rw [← hs, wrap_i64 (by omega) (by omega)]
  obtain ⟨gl, hgl⟩ : ∃ x, l.length = x := ⟨_, rfl⟩
  obtain ⟨ol, hoo⟩ : ∃ x, o.length = x := ⟨_, rfl⟩
  have hgoL : ∀ σ G', σ = L 171 (((((Tr.full 8).put (path 2) (lst zw 1 none (wvs l))).put (path 7) (.ptr rs 0 11)).put (path 9) (lst true 1 (some 82) (bvs o))).put (path 13) (ai n)) → G' = PH H rq rs q z → (gl ≤ 150 → n = ol) → ∀ σ', kill [14, 83, 84, 85, 86, 87, 88, 89, 90, 91, 92, 93] σ' = σ → PostP2 rq rs zw l o (.exit 2) σ' G' := fun σ G' h1 h2 h3 σ' h4 =>
    ⟨n, q, z, H, rfl, hq, htk, hAt, hn, hqo, by rw [hgl, hoo]; exact h3, h2, by rw [h4, h1]⟩
  by_cases hi : (i : Int) < s
  · by_cases h200 : i < 200
    · have h200' : (i : Int) < 200 := by omega
      have w1 : IntKind.i64.wrap ((i : Int) + 1) = ((i + 1 : Nat) : Int) := by rw [wrap_i64 (by omega) (by omega)]; omega
      have w2 : IntKind.i64.wrap ((n : Int) + 1) = ((n + 1 : Nat) : Int) := by rw [wrap_i64 (by omega) (by omega)]; omega
      obtain ⟨i1, hi1⟩ : ∃ x, i + 1 = x := ⟨_, rfl⟩
      rw [hi1] at w1
      obtain ⟨n1, hn1⟩ : ∃ x, n + 1 = x := ⟨_, rfl⟩
      rw [hn1] at w2
      have hfin : ∀ (n' : Nat) (q' : QM) (z' : Bool), q'.Ok → q'.taken = 0 → n' ≤ o.length → q'.l.map (·.2) = (o.map (·.2)).drop n' → (i1 ≤ l.length + n' ∨ n' = o.length) → ∀ σ', σ' = L 171 ((((((Tr.full 8).put (path 2) (lst zw 1 none (wvs l))).put (path 7) (.ptr rs 0 11)).put (path 9) (lst true 1 (some 82) (bvs o))).put (path 13) (ai n')).put (path 14) (ai i1)) → ∃ m, m < zz ∧ InvP2 rq rs zw l o m σ' (PH H rq rs q' z') := fun n' q' z' a1 a2 a3 a4 a5 σ' hσ' =>
        ⟨zz - 1, by omega, i1, n', q', z', H, by omega, by omega, a1, a2, hAt, a3, a4, a5, rfl, hσ'⟩
      have hno : ∀ g : Nat, (i < gl ∨ 1000 ≤ g) → (1000 ≤ g → q.l = []) → ∀ σ', σ' = L 171 ((((((Tr.full 8).put (path 2) (lst zw 1 none (wvs l))).put (path 7) (.ptr rs 0 11)).put (path 9) (lst true 1 (some 82) (bvs o))).put (path 13) (ai n)).put (path 14) (ai i1)) → ∃ m, m < zz ∧ InvP2 rq rs zw l o m σ' (PH H rq rs q z) := fun g h1 h2 => by
        refine hfin n q z hq htk hn hqo ?_
        rcases h1 with h1 | h1
        · exact .inl (by omega)
        · right
          rw [h2 h1] at hqo
          have := congrArg List.length hqo
          simp at this
          omega
      have hyes : ∀ (t : Nat × List Nat) (r : List (Nat × List Nat)), q.l = t :: r → ∃ x : Bs, o[n]? = some x ∧ x.2 = t.2 ∧ n < ol ∧ ∀ z' σ', σ' = L 171 ((((((Tr.full 8).put (path 2) (lst zw 1 none (wvs l))).put (path 7) (.ptr rs 0 11)).put (path 9) (lst true 1 (some 82) (bvs o))).put (path 13) (ai n1)).put (path 14) (ai i1)) → ∃ m, m < zz ∧ InvP2 rq rs zw l o m σ' (PH H rq rs ⟨q.room, r, 0, q.last⟩ z') := fun t r h => by
        have hqo2 := hqo
        rw [h] at hqo2
        have hlen := congrArg List.length hqo2
        simp at hlen
        have hlt : n < o.length := by omega
        have hx : o[n]? = some o[n] := List.getElem?_eq_getElem hlt
        rw [List.drop_eq_getElem_cons (by simpa using hlt)] at hqo2
        simp only [List.map_cons, List.cons.injEq, List.getElem_map] at hqo2
        refine ⟨o[n], hx, hqo2.1.symm, by omega, fun z' => hfin n1 _ z' (QM.tail_ok hq htk h) rfl (by omega) (by rw [← hn1]; exact hqo2.2) ?_⟩
        rcases hpr with hp | hp
        · left; omega
        · omega
      have hB := fun g hg => p_Build (z := z) hAt hq htk g hg
      have hqe := hq.each
      rw [hgl] at hlw hs
      rw [hoo] at hs hlo
      by_cases hgc : i < gl
      · have hgc' : (i : Int) < gl := by omega
        obtain ⟨w, hwi⟩ : ∃ o, l[i]? = some o := ⟨_, List.getElem?_eq_getElem (by omega)⟩
        have hwl := hw w (List.mem_of_getElem? hwi)
        have qg := wvs_at hwi zw none .i64
        have w5 : IntKind.i64.wrap (w : Int) = w := wrap_i64 (by omega) (by omega)
        obtain ⟨g, hgg⟩ : ∃ g, w % 4097 = g := ⟨_, rfl⟩
        have w6 : (w : Int).tmod 4097 = (g : Int) := by rw [Int.tmod_eq_emod_of_nonneg (by omega)]; omega
        have hg4 : g ≤ 4096 := by omega
        have hgi : i < gl ∨ 1000 ≤ g := .inl hgc
        rcases hB g hg4 with ⟨e, he, hem, hc⟩ | ⟨t, r, z', hql, hgt, hc⟩
        · have hf := hno g hgi hem
          have he' : ¬ (e : Int) = 0 := by omega
          generalize PH H rq rs q z = G at *
          simp -implicitDefEqProofs [-toCells, -AV.one, -forget, c_L15_PlainOrder, lp1_L15_PlainOrder, hlw, hlo, hs, hi, h200, h200', w1, hgc, hgc', qg, w5, w6, hc, he, he']
          exact hf _ (by simp)
        · obtain ⟨x, hx, hxt, hno1, hf⟩ := hyes t r hql
          replace hf := hf z'
          have ht := hqe t (by rw [hql]; simp)
          have hH := p_Hear (q := ⟨q.room, r, 0, q.last⟩) (z := z') hAt (false, t.2) (by simp only; omega) (by simp only; omega)
          have qx := fun f => bvs_at hx true f .i64
          have hlb := bv_len (false, t.2)
          simp only at hlb
          have c1 : ¬ (n : Int) ≥ ol := by omega
          have c1' : ¬ (ol : Int) ≤ n := by omega
          have c2 : ¬ (t.2.length : Int) > g := by omega
          have c2' : ¬ (g : Int) < t.2.length := by omega
          have hstr : binA .neq .no (.c (.string (strB t.2))) (.c (.string (strB t.2))) = some (ab false) := by
            rw [binA_strNe .no ht.2.2.1 ht.2.2.1]; simp
          have s1 := fun H z f => lst_strP H z f t.2
          have s2 : ∀ H, strV H (bv (false, t.2)) = some (.c (.string (strB t.2))) := fun H => lst_strP H false none t.2
          have s3 : ∀ H, strV H (bv x) = some (.c (.string (strB t.2))) := fun H => by rw [← hxt]; exact lst_strP H x.1 none x.2
          generalize strB t.2 = S at *
          obtain ⟨bl, hbl⟩ : ∃ y, t.2.length = y := ⟨_, rfl⟩
          rw [hbl] at hlb c2 c2'
          clear ht hqe hno hyes hfin
          generalize PH H rq rs ⟨q.room, r, 0, q.last⟩ z' = G2 at *
          generalize PH H rq rs q z = G at *
          simp -implicitDefEqProofs [-toCells, -AV.one, -forget, c_L15_PlainOrder, keepB, -goodB, goodB_L, sameV, dstNot, dstNe, SOpG.reads, SOp.slots, SX.slots, SOp.noL, rdV_load, selfE_lst, selfE, selfEs, eqV, lp1_L15_PlainOrder, hlw, hlo, hs, hi, h200, h200', w1, hgc, hgc', qg, w5, w6, w2, hc, hH, qx, hlb, c1, c1', c2, c2', hstr, s1, s2, s3]
          exact hf _ (by simp)
      · have hgc' : ¬ (i : Int) < gl := by omega
        obtain ⟨g, hgg⟩ : ∃ g, (4096 : Nat) = g := ⟨_, rfl⟩
        have hg4 : g ≤ 4096 := by omega
        have hgi : i < gl ∨ 1000 ≤ g := .inr (by omega)
        have w7 : (ai 4096 : AV) = ai g := by rw [← hgg]; rfl
        rcases hB g hg4 with ⟨e, he, hem, hc⟩ | ⟨t, r, z', hql, hgt, hc⟩
        · have hf := hno g hgi hem
          have he' : ¬ (e : Int) = 0 := by omega
          generalize PH H rq rs q z = G at *
          simp -implicitDefEqProofs [-toCells, -AV.one, -forget, c_L15_PlainOrder, lp1_L15_PlainOrder, hlw, hlo, hs, hi, h200, h200', w1, hgc, hgc', w7, hc, he, he']
          exact hf _ (by simp)
        · obtain ⟨x, hx, hxt, hno1, hf⟩ := hyes t r hql
          replace hf := hf z'
          have ht := hqe t (by rw [hql]; simp)
          have hH := p_Hear (q := ⟨q.room, r, 0, q.last⟩) (z := z') hAt (false, t.2) (by simp only; omega) (by simp only; omega)
          have qx := fun f => bvs_at hx true f .i64
          have hlb := bv_len (false, t.2)
          simp only at hlb
          have c1 : ¬ (n : Int) ≥ ol := by omega
          have c1' : ¬ (ol : Int) ≤ n := by omega
          have c2 : ¬ (t.2.length : Int) > g := by omega
          have c2' : ¬ (g : Int) < t.2.length := by omega
          have hstr : binA .neq .no (.c (.string (strB t.2))) (.c (.string (strB t.2))) = some (ab false) := by
            rw [binA_strNe .no ht.2.2.1 ht.2.2.1]; simp
          have s1 := fun H z f => lst_strP H z f t.2
          have s2 : ∀ H, strV H (bv (false, t.2)) = some (.c (.string (strB t.2))) := fun H => lst_strP H false none t.2
          have s3 : ∀ H, strV H (bv x) = some (.c (.string (strB t.2))) := fun H => by rw [← hxt]; exact lst_strP H x.1 none x.2
          generalize strB t.2 = S at *
          obtain ⟨bl, hbl⟩ : ∃ y, t.2.length = y := ⟨_, rfl⟩
          rw [hbl] at hlb c2 c2'
          clear ht hqe hno hyes hfin
          generalize PH H rq rs ⟨q.room, r, 0, q.last⟩ z' = G2 at *
          generalize PH H rq rs q z = G at *
          simp -implicitDefEqProofs [-toCells, -AV.one, -forget, c_L15_PlainOrder, keepB, -goodB, goodB_L, sameV, dstNot, dstNe, SOpG.reads, SOp.slots, SX.slots, SOp.noL, rdV_load, selfE_lst, selfE, selfEs, eqV, lp1_L15_PlainOrder, hlw, hlo, hs, hi, h200, h200', w1, hgc, hgc', w7, w2, hc, hH, qx, hlb, c1, c1', c2, c2', hstr, s1, s2, s3]
          exact hf _ (by simp)
    · have h200' : ¬ (i : Int) < 200 := by omega
      rw [hgl] at hlw hs hs1 hpr
      rw [hoo] at hs hs1 hlo hpr hn hol
      have hfin := hgoL _ _ rfl rfl (fun h => by have := hs1 h; omega)
      generalize PH H rq rs q z = G at *
      simp -implicitDefEqProofs [-toCells, -AV.one, -forget, c_L15_PlainOrder, lp1_L15_PlainOrder, hlw, hlo, hs, hi, h200, h200']
      exact hfin _ (by simp)
  · rw [hgl] at hlw hs hs1 hpr
    rw [hoo] at hs hs1 hlo hpr hn hol
    have hfin := hgoL _ _ rfl rfl (fun h => by have := hs1 h; omega)
    generalize PH H rq rs q z = G at *
    simp -implicitDefEqProofs [-toCells, -AV.one, -forget, c_L15_PlainOrder, lp1_L15_PlainOrder, hlw, hlo, hs, hi]
    exact hfin _ (by simp)
end
end Go.A.V.S

namespace Go.A.V.S
open Go Go.A Go.A.V
set_option linter.unusedSimpArgs false
set_option linter.unusedVariables false
theorem isss_words : ∀ (l : List (List AV)), (∀ cs ∈ l, V.CT.iss [.i .u16] cs) → ∃ b : List Nat, l = wvs b ∧ ∀ n ∈ b, n < 65536
  | [], _ => ⟨[], rfl, by simp⟩
  | x :: r, h => by
    have h1 := h x (by simp)
    obtain ⟨c0, r0, rfl, h0, h1⟩ := iss_cons h1
    obtain rfl := iss_nil h1
    obtain ⟨a0, rfl, ha⟩ := is_i h0
    obtain ⟨b, rfl, hb⟩ := isss_words r (fun cs hc => h cs (by simp [hc]))
    have hn : ∃ n : Nat, a0 = n ∧ n < 65536 := by
      simp only [Lit.wf, Bool.and_eq_true, decide_eq_true_eq] at ha
      have h1 : IntKind.u16.min = 0 := by decide
      have h2 : IntKind.u16.max = 65535 := by decide
      rw [h1, h2] at ha
      exact ⟨a0.toNat, by omega, by omega⟩
    obtain ⟨n, rfl, hn⟩ := hn
    exact ⟨n :: b, rfl, fun y hy => by
      rcases List.mem_cons.1 hy with rfl | hy
      · exact hn
      · exact hb y hy⟩
theorem is_words {c : AV} (h : V.CT.is (.sl [.i .u16]) c) : ∃ (z : Bool) (l : List Nat), c = lst z 1 none (wvs l) ∧ ∀ n ∈ l, n < 65536 := by
  rw [V.CT.is] at h
  obtain ⟨z, l, rfl, hl⟩ := h
  obtain ⟨os, rfl, ho⟩ := isss_words l hl
  exact ⟨z, os, rfl, ho⟩
set_option maxHeartbeats 2000000 in
theorem lPlainOrder (z0 : Bool) (T : List Bs) (hby : ∀ o ∈ T, Bytes o.2) (nb : Bs) (zw : Bool) (l : List Nat) (hw : ∀ n ∈ l, n < 65536) (H : Heap) : ∃ H', callW P f_L15_PlainOrder [lst z0 1 none (bvs T), bv nb, lst zw 1 none (wvs l)] H = some (ab true, H') := by
  suffices hs : Ends (callW P f_L15_PlainOrder [lst z0 1 none (bvs T), bv nb, lst zw 1 none (wvs l)] H) fun y => y.1 = ab true by
    obtain ⟨⟨v, H'⟩, h2, rfl⟩ := hs
    exact ⟨H', h2⟩
  have hAl := l15alive
  have hU := pdu_Usual0 H
  have hN := p_New H
  rw [usualV] at hU hN
  refine call_post 8 171 rfl (rfl : P.T f_L15_PlainOrder = some F_L15_PlainOrder) rfl (le_ok rfl) (fun e σ G => e = .ret ∧ resultsA F_L15_PlainOrder.res σ = some (ab true)) ?_ ?_
  · rintro e σ G ⟨rfl, h⟩
    exact ⟨rfl, _, h, by simp, by simp⟩
  have hq : (⟨5000, [], 0, 0⟩ : QM).Ok := ⟨by simp only; omega, by simp, by simp, fun _ => rfl, by simp, by simp [QM.bytes, tot], by simp [QM.ids]⟩
  have hAt : Bt (H ++ [.other, .other]) H.length (H.length + 1) := ⟨by simp, by simp, by omega⟩
  have hI : ∀ σ, σ = L 171 (((((((Tr.full 8).put (path 0) (lst z0 1 none (bvs T))).put (path 1) (bv nb)).put (path 2) (lst zw 1 none (wvs l))).put (path 7) (.ptr (H.length + 1) 0 11)).put (path 9) (nilS)).put (path 10) (ai 0)) → InvP1 H.length (H.length + 1) z0 T nb zw (wvs l) 41 σ (PH (H ++ [.other, .other]) H.length (H.length + 1) ⟨5000, [], 0, 0⟩ true) := fun σ hσ =>
    ⟨0, _, true, _, [], rfl, by omega, hq, by simp, rfl, hAt, by simp, rfl, rfl, hσ⟩
  have hL := fun σ G => po_loop1 (rq := H.length) (rs := H.length + 1) (z0 := z0) (T := T) (nb := nb) (zw := zw) (ws := wvs l) hby 41 σ G
  have hL2 := fun o ho σ G => po_loop2 (rq := H.length) (rs := H.length + 1) (zw := zw) (l := l) (o := o) ho hw 201 σ G
  obtain ⟨G, hG⟩ : ∃ x, PH (H ++ [.other, .other]) H.length (H.length + 1) ⟨5000, [], 0, 0⟩ true = x := ⟨_, rfl⟩
  rw [hG] at hN hI
  clear hAt hq hG
  generalize H.length + 1 = rs at *
  generalize H.length = rq at *
  rw [F_L15_PlainOrder]; simp -implicitDefEqProofs [-toCells, -AV.one, -forget, c_L15_PlainOrder, hU, hN]
  repeat rw [Option.bind_assoc]
  refine Ends.block (P := PostP1 rq rs zw (wvs l)) (hL _ _ (hI _ (by simp [lp0_L15_PlainOrder]))) ?_
  rintro e σ1 G1 (⟨q, z, H1, o, rfl, hq, htk, hAt, hol, hqo, rfl, k2⟩ | ⟨rfl, k2⟩)
  · have hI2 : ∀ σ, σ = L 171 ((((((Tr.full 8).put (path 2) (lst zw 1 none (wvs l))).put (path 7) (.ptr rs 0 11)).put (path 9) (lst true 1 (some 82) (bvs o))).put (path 13) (ai 0)).put (path 14) (ai 0)) → InvP2 rq rs zw l o 201 σ (PH H1 rq rs q z) := fun σ hσ =>
      ⟨0, 0, q, z, H1, rfl, by omega, hq, htk, hAt, by omega, by simpa using hqo, .inl (by omega), rfl, hσ⟩
    obtain ⟨G, hG⟩ : ∃ x, PH H1 rq rs q z = x := ⟨_, rfl⟩
    rw [hG] at hI2 ⊢
    simp -implicitDefEqProofs [-toCells, -AV.one, -forget, c_L15_PlainOrder, k2]
    repeat rw [Option.bind_assoc]
    refine Ends.block (P := PostP2 rq rs zw l o) (hL2 o hol _ _ (hI2 _ (by simp [lp1_L15_PlainOrder]))) ?_
    rintro e σ2 G2 ⟨n, q2, z2, H2, rfl, hq2, htk2, hAt2, hn, hqo2, hgl, rfl, k3⟩
    have hlw : lenW (lst zw 1 none (wvs l)) = some l.length := by rw [lenW_lst, wvs_len]
    have hlo : ∀ f, lenW (lst true 1 f (bvs o)) = some o.length := fun f => by rw [lenW_lst, bvs_len]
    have hBy := p_Bytes (q := q2) (z := z2) hAt2
    have hb0 : l.length ≤ 150 → q2.bytes = 0 := fun h => by
      rw [hgl h, List.drop_of_length_le (by simp)] at hqo2
      have : q2.l = [] := by simpa using hqo2
      rw [QM.bytes, this]; simp [tot]
    generalize PH H2 rq rs q2 z2 = G at *
    obtain ⟨gl, hgl2⟩ : ∃ x, l.length = x := ⟨_, rfl⟩
    obtain ⟨ol, hol2⟩ : ∃ x, o.length = x := ⟨_, rfl⟩
    rw [hgl2] at hlw hgl hb0
    rw [hol2] at hlo hgl
    by_cases h150 : gl ≤ 150
    · have c1 : ¬ (gl : Int) > 150 := by omega
      have c2 : ¬ (150 : Int) < gl := by omega
      rw [hb0 h150] at hBy
      rw [hgl h150] at k3
      simp -implicitDefEqProofs [-toCells, -AV.one, -forget, c_L15_PlainOrder, k3, hAl, hlw, hlo, hBy, c1, c2]
      try simp [F_L15_PlainOrder]
    · have c1 : (gl : Int) > 150 := by omega
      have c2 : (150 : Int) < gl := by omega
      simp -implicitDefEqProofs [-toCells, -AV.one, -forget, c_L15_PlainOrder, k3, hAl, hlw, hlo, hBy, c1, c2]
      try simp [F_L15_PlainOrder]
  · simp -implicitDefEqProofs [-toCells, -AV.one, -forget, c_L15_PlainOrder]
    simpa [F_L15_PlainOrder] using k2
theorem plainOrder_all (c0 : AV) (h0 : V.CT.is (.sl [.sl [.i .u8]]) c0) (c1 : AV) (h1 : V.CT.is (.sl [.i .u8]) c1) (c2 : AV) (h2 : V.CT.is (.sl [.i .u16]) c2) : ∃ H', callW P f_L15_PlainOrder [c0, c1, c2] [] = some (ab true, H') := by
  obtain ⟨z, T, rfl, hT⟩ := is_fields h0
  obtain ⟨nb, rfl, _⟩ := is_bytes h1
  obtain ⟨zw, l, rfl, hl⟩ := is_words h2
  exact lPlainOrder z T hT nb zw l hl []
end Go.A.V.S
