/- Fields that were taken: what holds of them. -/
import Derived.Test.YtnmobjhmohcjfaaXF
import Derived.Test.YtnmobjhmohcjfaaXD
import Derived.Test.YtnmobjhmohcjfaaV14
import Derived.Test.YtnmobjhmohcjfaaXA
set_option linter.unusedSimpArgs false
set_option linter.unusedVariables false
set_option linter.unnecessarySimpa false
namespace Go.A.V.S
set_option linter.unusedVariables false
theorem QM.Ok.behind {q : QM} (h : q.Ok) {t : Nat × List Nat} {l : List (Nat × List Nat)} (hl : q.l = t :: l) : (⟨q.room, l, 0, q.last⟩ : QM).Ok := by
  have hf := h.first t l hl
  have h1 := QM.take_ok h ((t.2.length - q.taken : Nat) : Int)
  unfold QM.take at h1
  rw [hl] at h1
  simp only at h1
  rw [if_neg (by omega), if_neg (by omega)] at h1
  exact h1
theorem QM.Ok.part {q : QM} (h : q.Ok) {t : Nat × List Nat} {l : List (Nat × List Nat)} (hl : q.l = t :: l) {n : Nat} (h1 : 1 ≤ n) (h2 : n < t.2.length - q.taken) : (⟨q.room, q.l, q.taken + n, q.last⟩ : QM).Ok := by
  have h3 := QM.take_ok h (n : Int)
  unfold QM.take at h3
  rw [hl] at h3 ⊢
  simp only at h3
  rw [if_neg (by omega), if_pos (by omega), Int.toNat_natCast] at h3
  exact h3
theorem cutQ_ok {room w : Nat} : ∀ (k : Nat) (q : QM) (F : List (List Nat)) (D : List Nat) (fi used : Nat), q.Ok → (cutQ room w k q F D fi used).q.Ok ∧ (cutQ room w k q F D fi used).q.last = q.last ∧ (cutQ room w k q F D fi used).q.room = q.room
  | 0, q, F, D, fi, used, h => ⟨h, rfl, rfl⟩
  | k + 1, q, F, D, fi, used, h => by
    rw [cutQ]
    split
    · exact ⟨h, rfl, rfl⟩
    · rename_i t l hl
      split
      · exact ⟨h, rfl, rfl⟩
      · split
        · obtain ⟨a, b, c⟩ := cutQ_ok (room := room) (w := w) k ⟨q.room, l, 0, q.last⟩ (F ++ [t.2.drop q.taken]) (D ++ [t.1]) (if 0 < q.taken then 2 else fi) (used + (t.2.length - q.taken)) (h.behind hl)
          exact ⟨a, b, c⟩
        · exact ⟨h.part hl (by omega) (by omega), rfl, rfl⟩
theorem cutQ_F {room w : Nat} (p : List Nat → Prop) (hp : ∀ (b : List Nat) (i n : Nat), (b.length ≤ 1000 ∧ Go.A.Bytes b) → p ((b.drop i).take n)) : ∀ (k : Nat) (q : QM) (F : List (List Nat)) (D : List Nat) (fi used : Nat), q.Ok → (∀ f ∈ F, p f) → (∀ f ∈ (cutQ room w k q F D fi used).F, p f) ∧ (cutQ room w k q F D fi used).F.length ≤ F.length + k
  | 0, q, F, D, fi, used, h, hF => ⟨hF, by simp [cutQ]⟩
  | k + 1, q, F, D, fi, used, h, hF => by
    rw [cutQ]
    split
    · exact ⟨hF, by simp only; omega⟩
    · rename_i t l hl
      have ht := h.each t (by rw [hl]; simp)
      split
      · exact ⟨hF, by simp only; omega⟩
      · split
        · obtain ⟨a, b⟩ := cutQ_F (room := room) (w := w) p hp k ⟨q.room, l, 0, q.last⟩ (F ++ [t.2.drop q.taken]) (D ++ [t.1]) (if 0 < q.taken then 2 else fi) (used + (t.2.length - q.taken)) (h.behind hl) (fun f hf => by
            rcases List.mem_append.1 hf with hf | hf
            · exact hF f hf
            · simp only [List.mem_singleton] at hf
              subst hf
              have := hp t.2 q.taken t.2.length ⟨ht.2.1, ht.2.2.1⟩
              rw [List.take_of_length_le (by rw [List.length_drop]; omega)] at this
              exact this)
          refine ⟨a, ?_⟩
          rw [List.length_append, List.length_singleton] at b
          omega
        · refine ⟨fun f hf => ?_, by simp only [List.length_append, List.length_singleton]; omega⟩
          simp only at hf
          rcases List.mem_append.1 hf with hf | hf
          · exact hF f hf
          · simp only [List.mem_singleton] at hf
            subst hf
            exact hp t.2 q.taken _ ⟨ht.2.1, ht.2.2.1⟩
end Go.A.V.S

namespace Go.A.V.S
open Go Go.A
set_option linter.unusedSimpArgs false
set_option linter.unusedVariables false
theorem sn_Right2 {w : Nat} (hw : w = 5 ∨ w = 10) (H : Heap) : callW P f_seqnum_Right [.agg [ai w]] H = some (ab true, H) := by
  rcases hw with rfl | rfl
  · exact sn_Right5 H
  · exact sn_Right (.inl rfl) H
theorem sn_Size2 {w : Nat} (hw : w = 5 ∨ w = 10) (H : Heap) : callW P f_seqnum_Space_Size [.agg [ai w]] H = some (ai (2 ^ w : Nat), H) := by
  rcases hw with rfl | rfl
  · exact sn_Size5 H
  · exact sn_Size (.inl rfl) H
def InvAs (H : Heap) (w : Nat) (n : Int) (zz : Nat) (σ : List AV) (G : Heap) : Prop :=
  ∃ i : Nat, i + zz = 1 ∧ G = H ∧ σ = L 22 ((((Tr.full 5).put (path 1) (.vs 1 none [[ai n]])).put (path 2) (.lbox [ai w])).put (path 5) (ai i))
def PostAs (H : Heap) (e : AExit) (σ : List AV) (G : Heap) : Prop := e = .ret ∧ G = H ∧ resultsA F_seqnum_Space_ask.res σ = some (ai 0)
theorem sn_ask1 {w : Nat} (hw : w = 5 ∨ w = 10) {n : Int} (hn : 0 ≤ n ∧ n < (2 ^ w : Nat)) (H : Heap) : callW P f_seqnum_Space_ask [.agg [ai w], .vs 1 none [[ai n]]] H = some (ai 0, H) := by
  suffices hs : Ends (callW P f_seqnum_Space_ask [.agg [ai w], .vs 1 none [[ai n]]] H) fun y => y = (ai 0, H) by
    obtain ⟨y, h1, rfl⟩ := hs
    exact h1
  have hR := fun H => sn_Right2 hw H
  have hI := fun H => sn_Is5 hw n H
  rw [decide_eq_true hn] at hI
  refine call_post 5 22 rfl (rfl : P.T f_seqnum_Space_ask = some F_seqnum_Space_ask) rfl (le_ok rfl) (PostAs H) ?_ ?_
  · rintro e σ G ⟨rfl, rfl, h2⟩
    exact ⟨rfl, _, h2, rfl, by simp⟩
  rw [F_seqnum_Space_ask]; simp -implicitDefEqProofs [-toCells, -AV.one, -forget, c_seqnum_Space_ask, hR]
  refine scope_ends (tail := tsc0_seqnum_Space_ask) (InvAs H w n) (PostAs H) rfl ?_ 1 _ _ ?_
  rotate_left
  · exact ⟨0, rfl, rfl, by simp [tsc0_seqnum_Space_ask]⟩
  rintro zz σ G ⟨i, hz, rfl, hσ⟩
  rw [← execW_head, hσ]
  have q0 : iaddrW 1 none (.vs 1 none [[ai n]]) (ai 0) = some (.vp [ai n] 0) := rfl
  have hi : i = 0 ∨ i = 1 := by omega
  rcases hi with rfl | rfl
  · have w1 : IntKind.i64.wrap 1 = 1 := rfl
    simp -implicitDefEqProofs [-toCells, -AV.one, -forget, c_seqnum_Space_ask, keepB, -goodB, goodB_L, sameV, dstNot, dstNe, SOpG.reads, SOp.slots, SX.slots, SOp.noL, rdV_load, selfE_lst, selfE, selfEs, eqV, tsc0_seqnum_Space_ask, hI, q0, w1]
    exact ⟨0, by omega, 1, rfl, rfl, by simp⟩
  · simp -implicitDefEqProofs [-toCells, -AV.one, -forget, c_seqnum_Space_ask, tsc0_seqnum_Space_ask]
    exact ⟨rfl, rfl, by simp [F_seqnum_Space_ask]⟩
theorem and_mod {k a : Nat} (hk : k ≤ 16) (ha : a < 1000000) : andI .i64 (a : Int) ((2 ^ k - 1 : Nat) : Int) = ((a % 2 ^ k : Nat) : Int) := by
  have hp : 2 ^ k ≤ 2 ^ 16 := Nat.pow_le_pow_right (by omega) hk
  have e16 : (2 : Nat) ^ 16 = 65536 := by decide
  have h1 : (BitVec.ofNat 64 a &&& BitVec.ofNat 64 (2 ^ k - 1)).toNat = a % 2 ^ k := by
    rw [BitVec.toNat_and, BitVec.toNat_ofNat, BitVec.toNat_ofNat, Nat.mod_eq_of_lt (by omega), Nat.mod_eq_of_lt (by omega), Nat.and_two_pow_sub_one_eq_mod]
  have hlt : a % 2 ^ k ≤ a := Nat.mod_le _ _
  unfold andI
  rw [ofNat_bv, ofNat_bv]
  have h2 : (BitVec.ofNat IntKind.i64.bits a &&& BitVec.ofNat IntKind.i64.bits (2 ^ k - 1)).toNat = a % 2 ^ k := h1
  rw [h2]
  exact wrap_i64 (by omega) (by omega)
theorem sn_Go1 {w : Nat} (hw : w = 5 ∨ w = 10) {n : Nat} (hn : n < 2 ^ w) (H : Heap) : callW P f_seqnum_Space_Go [.agg [ai w], ai n, ai 1] H = some (.tup [ai ((n + 1) % 2 ^ w : Nat), ai 0], H) := by
  have hA := fun H => sn_ask1 hw (n := n) ⟨by omega, by omega⟩ H
  have hS := fun H => sn_Size2 hw H
  have hp : 2 ^ w ≤ 1024 ∧ 1 ≤ 2 ^ w := by rcases hw with rfl | rfl <;> decide
  have w1 : IntKind.i64.wrap ((n : Int) + 1) = ((n + 1 : Nat) : Int) := by rw [wrap_i64 (by omega) (by omega)]; omega
  have w2 : IntKind.i64.wrap (((n + 1 : Nat) : Int) + 65536) = ((n + 1 + 65536 : Nat) : Int) := by rw [wrap_i64 (by omega) (by omega)]; omega
  have w3 : IntKind.i64.wrap (((2 ^ w : Nat) : Int) - 1) = ((2 ^ w - 1 : Nat) : Int) := by rw [wrap_i64 (by omega) (by omega)]; omega
  have ha := and_mod (k := w) (a := n + 1 + 65536) (by omega) (by omega)
  have hm : (n + 1 + 65536) % 2 ^ w = (n + 1) % 2 ^ w := by
    rcases hw with rfl | rfl <;> omega
  rw [hm] at ha
  obtain ⟨n1, hn1⟩ : ∃ x, n + 1 = x := ⟨_, rfl⟩
  rw [hn1] at w1 w2 ha ⊢
  obtain ⟨n2, hn2⟩ : ∃ x, n1 + 65536 = x := ⟨_, rfl⟩
  rw [hn2] at w2 ha
  generalize n1 % 2 ^ w = res at *
  obtain ⟨sz, hsz⟩ : ∃ x, 2 ^ w = x := ⟨_, rfl⟩
  rw [hsz] at hS w3 ha
  obtain ⟨s1, hs1⟩ : ∃ x, sz - 1 = x := ⟨_, rfl⟩
  rw [hs1] at w3 ha
  rw [call_L 5 rfl (rfl : P.T f_seqnum_Space_Go = some F_seqnum_Space_Go) (le_ok rfl)]; simp -implicitDefEqProofs [-toCells, -AV.one, -forget, F_seqnum_Space_Go, c_seqnum_Space_Go, binA_andI, hA, hS, w1, w2, w3, ha]
end Go.A.V.S

namespace Go.A.V.S
open Go Go.A
set_option linter.unusedSimpArgs false
set_option linter.unusedVariables false
structure Cfg where
  mode : Int
  bits : Int
  window : Int
  reorder : Int
  pollRetx : Int
  prohibit : Int
  pollPDU : Int
  pollByte : Int
  maxRetx : Int
  queue : Int
def Cfg.v (c : Cfg) : List AV := [ai c.mode, ai c.bits, ai c.window, ai c.reorder, ai c.pollRetx, ai c.prohibit, ai c.pollPDU, ai c.pollByte, ai c.maxRetx, ai c.queue]
def inn (x : Int × Int × Int) : Bool := !decide (x.1 < x.2.1 ∨ x.1 > x.2.2)
def tri (x : Int × Int × Int) : List AV := [ai x.1, ai x.2.1, ai x.2.2]
def Cfg.tm (c : Cfg) : Bool := decide ([c.mode, c.bits, c.window, c.reorder, c.pollRetx, c.prohibit, c.pollPDU, c.pollByte, c.maxRetx, c.queue] = [0, 0, 0, 0, 0, 0, 0, 0, 0, c.queue])
def Cfg.plainUM (c : Cfg) : Bool := decide ([c.mode, c.bits, c.window, c.reorder, c.pollRetx, c.prohibit, c.pollPDU, c.pollByte, c.maxRetx, c.queue] = [1, c.bits, c.window, c.reorder, 0, 0, 0, 0, 0, c.queue])
def Cfg.um (c : Cfg) : Bool := decide (c.bits = 5 ∨ c.bits = 10) && (c.plainUM && [(c.window, (1, if c.bits = 5 then 16 else 512)), (c.reorder, (1, 1000))].all inn)
def Cfg.am (c : Cfg) : Bool := decide (c.bits = 10 ∨ c.bits = 16) && [(c.window, (1, if c.bits = 10 then 512 else 32768)), (c.reorder, (1, 1000)), (c.pollRetx, (1, 1000)), (c.prohibit, (0, 1000)), (c.pollPDU, (1, 1000)), (c.pollByte, (1, 20000)), (c.maxRetx, (1, 32))].all inn
def Cfg.chk (c : Cfg) : Nat :=
  if c.mode = 0 ∨ c.mode = 1 ∨ c.mode = 2 then (if (if c.mode = 0 then c.tm else if c.mode = 1 then c.um else c.am) && [(c.queue, ((1 : Int), (20000 : Int)))].all inn then 0 else 1) else 9
theorem within_1 (a b c : Int) (H : Heap) : callW P f_pdu_within_1 [.agg [ai a, ai b, ai c]] H = some (ab (!inn (a, b, c)), H) := by
  by_cases h1 : a < b
  · rw [call_L 5 rfl (rfl : P.T f_pdu_within_1 = some F_pdu_within_1) (le_ok rfl)]; simp -implicitDefEqProofs (disch := first | omega | (simp; done) | fail) [-toCells, -AV.one, -forget, F_pdu_within_1, c_pdu_within_1, cmp_ilt, cmp_ilf, cmp_ile, cmp_ilg, cmp_ine, cmp_nlt, cmp_nlf, cmp_nle, cmp_nne, cmp_neq, wrap_i64, wrap_u64, wrap_u8, inn, h1]
  · by_cases h2 : a > c
    · have h2' : c < a := h2
      rw [call_L 5 rfl (rfl : P.T f_pdu_within_1 = some F_pdu_within_1) (le_ok rfl)]; simp -implicitDefEqProofs (disch := first | omega | (simp; done) | fail) [-toCells, -AV.one, -forget, F_pdu_within_1, c_pdu_within_1, cmp_ilt, cmp_ilf, cmp_ile, cmp_ilg, cmp_ine, cmp_nlt, cmp_nlf, cmp_nle, cmp_nne, cmp_neq, wrap_i64, wrap_u64, wrap_u8, inn, h1, h2, h2']
    · have h2' : ¬ c < a := h2
      rw [call_L 5 rfl (rfl : P.T f_pdu_within_1 = some F_pdu_within_1) (le_ok rfl)]; simp -implicitDefEqProofs (disch := first | omega | (simp; done) | fail) [-toCells, -AV.one, -forget, F_pdu_within_1, c_pdu_within_1, cmp_ilt, cmp_ilf, cmp_ile, cmp_ilg, cmp_ine, cmp_nlt, cmp_nlf, cmp_nle, cmp_nne, cmp_neq, wrap_i64, wrap_u64, wrap_u8, inn, h1, h2, h2']
theorem within_l (x : Int × Int × Int) (r : List (Int × Int × Int)) (hr : r.length ≤ 100) (H : Heap) : callW P f_pdu_within [.vs 3 none ((x :: r).map tri)] H = some (ab ((x :: r).all inn), H) := by
  have h := fun H => cnt_call (f1 := f_slices_ContainsFunc_s_3_int_3_int) (f0 := f_slices_IndexFunc_s_3_int_3_int) (k := 3) (ld := some 3) (z := true) (l := (x :: r).map tri) (f := f_pdu_within_1) (cs := []) (p := fun c => match c with
    | [.c (.int _ a), .c (.int _ b), .c (.int _ c)] => !inn (a, b, c)
    | _ => false) (H := H) rfl (fun _ _ => rfl) rfl rfl rfl (fun _ _ => rfl) rfl (.inl rfl) (fun c hc => by obtain ⟨n, _, rfl⟩ := List.mem_map.1 hc; rfl) (by rw [List.length_map, List.length_cons]; omega) rfl rfl (fun c hc => by obtain ⟨n, _, rfl⟩ := List.mem_map.1 hc; exact ⟨rfl, rfl, rfl⟩)
    (fun c hc => by
      obtain ⟨n, _, rfl⟩ := List.mem_map.1 hc
      exact within_1 _ _ _ H)
  have e : (((x :: r).map tri).any fun c => match c with
    | [.c (.int _ a), .c (.int _ b), .c (.int _ c)] => !inn (a, b, c)
    | _ => false) = !((x :: r).all inn) := by
    rw [List.any_map, List.all_eq_not_any_not, Bool.not_not]
    rfl
  replace h : ∀ H, callW P f_slices_ContainsFunc_s_3_int_3_int [.vs 3 none ((x :: r).map tri), .fn f_pdu_within_1 []] H = some (ab (!((x :: r).all inn)), H) := fun H => by rw [← e]; exact h H
  generalize (x :: r).all inn = bb at *
  have hf : ((x :: r).map tri).length = r.length + 1 := by simp
  generalize (x :: r).map tri = l at *
  rw [call_L 3 rfl (rfl : P.T f_pdu_within = some F_pdu_within) (le_ok rfl)]; simp -implicitDefEqProofs [-toCells, -AV.one, -forget, F_pdu_within, c_pdu_within, h]
theorem cfg_eq (a0 a1 a2 a3 a4 a5 a6 a7 a8 a9 b0 b1 b2 b3 b4 b5 b6 b7 b8 b9 : Int) : binA .eql (.agg [.i, .i, .i, .i, .i, .i, .i, .i, .i, .i]) (.agg [ai a0, ai a1, ai a2, ai a3, ai a4, ai a5, ai a6, ai a7, ai a8, ai a9]) (.agg [ai b0, ai b1, ai b2, ai b3, ai b4, ai b5, ai b6, ai b7, ai b8, ai b9]) = some (ab (decide ([a0, a1, a2, a3, a4, a5, a6, a7, a8, a9] = [b0, b1, b2, b3, b4, b5, b6, b7, b8, b9]))) := by
  rw [binA_eqa, if_pos ⟨rfl, rfl⟩]
  exact congrArg (Option.map ab) (eqAll_ints [a0, a1, a2, a3, a4, a5, a6, a7, a8, a9] [b0, b1, b2, b3, b4, b5, b6, b7, b8, b9] rfl)
theorem pdu_isTM (c : Cfg) (H : Heap) : callW P f_pdu_isTM [.agg c.v] H = some (ab c.tm, H) := by
  obtain ⟨mo, bi, wi, re, pr, ph, pp, pb, mr, q⟩ := c
  have hE := cfg_eq mo bi wi re pr ph pp pb mr q 0 0 0 0 0 0 0 0 0 q
  replace hE : _ = some (ab (Cfg.tm ⟨mo, bi, wi, re, pr, ph, pp, pb, mr, q⟩)) := hE
  generalize Cfg.tm ⟨mo, bi, wi, re, pr, ph, pp, pb, mr, q⟩ = t at *
  rw [call_L 4 rfl (rfl : P.T f_pdu_isTM = some F_pdu_isTM) (le_ok rfl)]; simp -implicitDefEqProofs [-toCells, -AV.one, -forget, F_pdu_isTM, c_pdu_isTM, Cfg.v, hE]
theorem pdu_isUM (c : Cfg) (H : Heap) : callW P f_pdu_isUM [.agg c.v] H = some (ab c.um, H) := by
  obtain ⟨mo, bi, wi, re, pr, ph, pp, pb, mr, q⟩ := c
  by_cases h5 : bi = 5
  · subst h5
    have hE := cfg_eq mo 5 wi re pr ph pp pb mr q 1 5 wi re 0 0 0 0 0 q
    replace hE : _ = some (ab (Cfg.plainUM ⟨mo, 5, wi, re, pr, ph, pp, pb, mr, q⟩)) := hE
    have hW := fun H => within_l (wi, (1, 16)) [(re, (1, 1000))] (by simp) H
    replace hW : ∀ H, callW P f_pdu_within [.vs 3 none [[ai wi, ai 1, ai 16], [ai re, ai 1, ai 1000]]] H = _ := hW
    rw [Cfg.um]
    simp only [decide_true, Bool.true_and, true_or, if_true]
    generalize Cfg.plainUM ⟨mo, 5, wi, re, pr, ph, pp, pb, mr, q⟩ = t at *
    generalize List.all [(wi, ((1 : Int), (16 : Int))), (re, (1, 1000))] inn = t2 at *
    cases t with
    | true => rw [call_L 6 rfl (rfl : P.T f_pdu_isUM = some F_pdu_isUM) (le_ok rfl)]; simp -implicitDefEqProofs (disch := first | omega | (simp; done) | fail) [-toCells, -AV.one, -forget, F_pdu_isUM, c_pdu_isUM, cmp_ilt, cmp_ilf, cmp_ile, cmp_ilg, cmp_ine, cmp_nlt, cmp_nlf, cmp_nle, cmp_nne, cmp_neq, wrap_i64, wrap_u64, wrap_u8, keepB, -goodB, goodB_L, sameV, dstNot, dstNe, SOpG.reads, SOp.slots, SX.slots, SOp.noL, rdV_load, selfE_lst, selfE, selfEs, eqV, Cfg.v, hE, hW]
    | false => rw [call_L 6 rfl (rfl : P.T f_pdu_isUM = some F_pdu_isUM) (le_ok rfl)]; simp -implicitDefEqProofs (disch := first | omega | (simp; done) | fail) [-toCells, -AV.one, -forget, F_pdu_isUM, c_pdu_isUM, cmp_ilt, cmp_ilf, cmp_ile, cmp_ilg, cmp_ine, cmp_nlt, cmp_nlf, cmp_nle, cmp_nne, cmp_neq, wrap_i64, wrap_u64, wrap_u8, keepB, -goodB, goodB_L, sameV, dstNot, dstNe, SOpG.reads, SOp.slots, SX.slots, SOp.noL, rdV_load, selfE_lst, selfE, selfEs, eqV, Cfg.v, hE]
  by_cases h10 : bi = 10
  · subst h10
    have hE := cfg_eq mo 10 wi re pr ph pp pb mr q 1 10 wi re 0 0 0 0 0 q
    replace hE : _ = some (ab (Cfg.plainUM ⟨mo, 10, wi, re, pr, ph, pp, pb, mr, q⟩)) := hE
    have hW := fun H => within_l (wi, (1, 512)) [(re, (1, 1000))] (by simp) H
    replace hW : ∀ H, callW P f_pdu_within [.vs 3 none [[ai wi, ai 1, ai 512], [ai re, ai 1, ai 1000]]] H = _ := hW
    rw [Cfg.um]
    simp only [show ¬ (10 : Int) = 5 by decide, decide_true, Bool.true_and, or_true, if_false]
    generalize Cfg.plainUM ⟨mo, 10, wi, re, pr, ph, pp, pb, mr, q⟩ = t at *
    generalize List.all [(wi, ((1 : Int), (512 : Int))), (re, (1, 1000))] inn = t2 at *
    cases t with
    | true => rw [call_L 6 rfl (rfl : P.T f_pdu_isUM = some F_pdu_isUM) (le_ok rfl)]; simp -implicitDefEqProofs (disch := first | omega | (simp; done) | fail) [-toCells, -AV.one, -forget, F_pdu_isUM, c_pdu_isUM, cmp_ilt, cmp_ilf, cmp_ile, cmp_ilg, cmp_ine, cmp_nlt, cmp_nlf, cmp_nle, cmp_nne, cmp_neq, wrap_i64, wrap_u64, wrap_u8, keepB, -goodB, goodB_L, sameV, dstNot, dstNe, SOpG.reads, SOp.slots, SX.slots, SOp.noL, rdV_load, selfE_lst, selfE, selfEs, eqV, Cfg.v, hE, hW]
    | false => rw [call_L 6 rfl (rfl : P.T f_pdu_isUM = some F_pdu_isUM) (le_ok rfl)]; simp -implicitDefEqProofs (disch := first | omega | (simp; done) | fail) [-toCells, -AV.one, -forget, F_pdu_isUM, c_pdu_isUM, cmp_ilt, cmp_ilf, cmp_ile, cmp_ilg, cmp_ine, cmp_nlt, cmp_nlf, cmp_nle, cmp_nne, cmp_neq, wrap_i64, wrap_u64, wrap_u8, keepB, -goodB, goodB_L, sameV, dstNot, dstNe, SOpG.reads, SOp.slots, SX.slots, SOp.noL, rdV_load, selfE_lst, selfE, selfEs, eqV, Cfg.v, hE]
  rw [Cfg.um, decide_eq_false (by simp only; omega), Bool.false_and]
  rw [call_L 6 rfl (rfl : P.T f_pdu_isUM = some F_pdu_isUM) (le_ok rfl)]; simp -implicitDefEqProofs [-toCells, -AV.one, -forget, F_pdu_isUM, c_pdu_isUM, Cfg.v, h5, h10]
end Go.A.V.S

namespace Go.A.V.S
open Go Go.A
set_option linter.unusedSimpArgs false
set_option linter.unusedVariables false
set_option maxHeartbeats 1000000 in
theorem pdu_isAM (c : Cfg) (H : Heap) : callW P f_pdu_isAM [.agg c.v] H = some (ab c.am, H) := by
  obtain ⟨mo, bi, wi, re, pr, ph, pp, pb, mr, q⟩ := c
  by_cases h5 : bi = 10
  · subst h5
    have hW := fun H => within_l (wi, (1, 512)) [(re, (1, 1000)), (pr, (1, 1000)), (ph, (0, 1000)), (pp, (1, 1000)), (pb, (1, 20000)), (mr, (1, 32))] (by simp) H
    replace hW : ∀ H, callW P f_pdu_within [.vs 3 none [[ai wi, ai 1, ai 512], [ai re, ai 1, ai 1000], [ai pr, ai 1, ai 1000], [ai ph, ai 0, ai 1000], [ai pp, ai 1, ai 1000], [ai pb, ai 1, ai 20000], [ai mr, ai 1, ai 32]]] H = _ := hW
    rw [Cfg.am]
    simp only [decide_true, Bool.true_and, true_or, if_true]
    generalize List.all [(wi, ((1 : Int), (512 : Int))), (re, (1, 1000)), (pr, (1, 1000)), (ph, (0, 1000)), (pp, (1, 1000)), (pb, (1, 20000)), (mr, (1, 32))] inn = t2 at *
    have w9 : IntKind.i64.wrap 9 = 9 := rfl
    have w2 : IntKind.i64.wrap 512 = 512 := rfl
    rw [call_L 6 rfl (rfl : P.T f_pdu_isAM = some F_pdu_isAM) (le_ok rfl)]; simp -implicitDefEqProofs [-toCells, -AV.one, -forget, F_pdu_isAM, c_pdu_isAM, keepB, -goodB, goodB_L, sameV, dstNot, dstNe, SOpG.reads, SOp.slots, SX.slots, SOp.noL, rdV_load, selfE_lst, selfE, selfEs, eqV, Cfg.v, hW, w9, w2]
  by_cases h10 : bi = 16
  · subst h10
    have hW := fun H => within_l (wi, (1, 32768)) [(re, (1, 1000)), (pr, (1, 1000)), (ph, (0, 1000)), (pp, (1, 1000)), (pb, (1, 20000)), (mr, (1, 32))] (by simp) H
    replace hW : ∀ H, callW P f_pdu_within [.vs 3 none [[ai wi, ai 1, ai 32768], [ai re, ai 1, ai 1000], [ai pr, ai 1, ai 1000], [ai ph, ai 0, ai 1000], [ai pp, ai 1, ai 1000], [ai pb, ai 1, ai 20000], [ai mr, ai 1, ai 32]]] H = _ := hW
    rw [Cfg.am]
    simp only [show ¬ (16 : Int) = 10 by decide, decide_true, Bool.true_and, or_true, if_false]
    generalize List.all [(wi, ((1 : Int), (32768 : Int))), (re, (1, 1000)), (pr, (1, 1000)), (ph, (0, 1000)), (pp, (1, 1000)), (pb, (1, 20000)), (mr, (1, 32))] inn = t2 at *
    have w9 : IntKind.i64.wrap 15 = 15 := rfl
    have w2 : IntKind.i64.wrap 32768 = 32768 := rfl
    rw [call_L 6 rfl (rfl : P.T f_pdu_isAM = some F_pdu_isAM) (le_ok rfl)]; simp -implicitDefEqProofs [-toCells, -AV.one, -forget, F_pdu_isAM, c_pdu_isAM, keepB, -goodB, goodB_L, sameV, dstNot, dstNe, SOpG.reads, SOp.slots, SX.slots, SOp.noL, rdV_load, selfE_lst, selfE, selfEs, eqV, Cfg.v, hW, w9, w2]
  rw [Cfg.am, decide_eq_false (by simp only; omega), Bool.false_and]
  rw [call_L 6 rfl (rfl : P.T f_pdu_isAM = some F_pdu_isAM) (le_ok rfl)]; simp -implicitDefEqProofs [-toCells, -AV.one, -forget, F_pdu_isAM, c_pdu_isAM, Cfg.v, h5, h10]
theorem pdu_Check (c : Cfg) (H : Heap) : callW P f_pdu_Check [.agg c.v] H = some (ai c.chk, H) := by
  have h1 := fun H => pdu_isTM c H
  have h2 := fun H => pdu_isUM c H
  have h3 := fun H => pdu_isAM c H
  have hW := fun H => within_l (c.queue, (1, 20000)) [] (by simp) H
  replace hW : ∀ H, callW P f_pdu_within [.vs 3 none [[ai c.queue, ai 1, ai 20000]]] H = _ := hW
  rw [Cfg.chk]
  generalize List.all [(c.queue, ((1 : Int), (20000 : Int)))] inn = b at *
  generalize c.tm = t1 at *
  generalize c.um = t2 at *
  generalize c.am = t3 at *
  obtain ⟨mo, bi, wi, re, pr, ph, pp, pb, mr, q⟩ := c
  simp only [Cfg.v] at h1 h2 h3 hW ⊢
  by_cases m0 : mo = 0
  · subst m0
    rw [if_pos (show (0 : Int) = 0 ∨ (0 : Int) = 1 ∨ (0 : Int) = 2 by decide), if_pos (show (0 : Int) = 0 from rfl)]
    cases t1 with
    | true =>
      cases b with
      | true => rw [call_L 5 rfl (rfl : P.T f_pdu_Check = some F_pdu_Check) (le_ok rfl)]; simp -implicitDefEqProofs [-toCells, -AV.one, -forget, F_pdu_Check, c_pdu_Check, h1, hW]
      | false => rw [call_L 5 rfl (rfl : P.T f_pdu_Check = some F_pdu_Check) (le_ok rfl)]; simp -implicitDefEqProofs [-toCells, -AV.one, -forget, F_pdu_Check, c_pdu_Check, h1, hW]
    | false => rw [call_L 5 rfl (rfl : P.T f_pdu_Check = some F_pdu_Check) (le_ok rfl)]; simp -implicitDefEqProofs [-toCells, -AV.one, -forget, F_pdu_Check, c_pdu_Check, h1]
  by_cases m1 : mo = 1
  · subst m1
    rw [if_pos (show (1 : Int) = 0 ∨ (1 : Int) = 1 ∨ (1 : Int) = 2 by decide), if_neg (show ¬ (1 : Int) = 0 by decide), if_pos (show (1 : Int) = 1 from rfl)]
    cases t2 with
    | true =>
      cases b with
      | true => rw [call_L 5 rfl (rfl : P.T f_pdu_Check = some F_pdu_Check) (le_ok rfl)]; simp -implicitDefEqProofs [-toCells, -AV.one, -forget, F_pdu_Check, c_pdu_Check, h2, hW]
      | false => rw [call_L 5 rfl (rfl : P.T f_pdu_Check = some F_pdu_Check) (le_ok rfl)]; simp -implicitDefEqProofs [-toCells, -AV.one, -forget, F_pdu_Check, c_pdu_Check, h2, hW]
    | false => rw [call_L 5 rfl (rfl : P.T f_pdu_Check = some F_pdu_Check) (le_ok rfl)]; simp -implicitDefEqProofs [-toCells, -AV.one, -forget, F_pdu_Check, c_pdu_Check, h2]
  by_cases m2 : mo = 2
  · subst m2
    rw [if_pos (show (2 : Int) = 0 ∨ (2 : Int) = 1 ∨ (2 : Int) = 2 by decide), if_neg (show ¬ (2 : Int) = 0 by decide), if_neg (show ¬ (2 : Int) = 1 by decide)]
    cases t3 with
    | true =>
      cases b with
      | true => rw [call_L 5 rfl (rfl : P.T f_pdu_Check = some F_pdu_Check) (le_ok rfl)]; simp -implicitDefEqProofs [-toCells, -AV.one, -forget, F_pdu_Check, c_pdu_Check, h3, hW]
      | false => rw [call_L 5 rfl (rfl : P.T f_pdu_Check = some F_pdu_Check) (le_ok rfl)]; simp -implicitDefEqProofs [-toCells, -AV.one, -forget, F_pdu_Check, c_pdu_Check, h3, hW]
    | false => rw [call_L 5 rfl (rfl : P.T f_pdu_Check = some F_pdu_Check) (le_ok rfl)]; simp -implicitDefEqProofs [-toCells, -AV.one, -forget, F_pdu_Check, c_pdu_Check, h3]
  rw [if_neg (show ¬ (mo = 0 ∨ mo = 1 ∨ mo = 2) by omega)]
  rw [call_L 5 rfl (rfl : P.T f_pdu_Check = some F_pdu_Check) (le_ok rfl)]; simp -implicitDefEqProofs [-toCells, -AV.one, -forget, F_pdu_Check, c_pdu_Check, m0, m1, m2]
end Go.A.V.S

namespace Go.A.V.S
open Go Go.A
set_option linter.unusedSimpArgs false
set_option linter.unusedVariables false
/-- A sender's cells. -/
def sv (rq : Nat) (c : Cfg) (next : Nat) : List AV := [.ptr rq 0 5, ai c.mode, ai c.bits, ai c.window, ai c.reorder, ai c.pollRetx, ai c.prohibit, ai c.pollPDU, ai c.pollByte, ai c.maxRetx, ai c.queue, ai next]
/-- The heap of a sender and its queue. -/
def SH (H : Heap) (rq rs : Nat) (q : QM) (z : Bool) (c : Cfg) (next : Nat) : Heap := RC (QH H rq q z) rs (sv rq c next)
theorem SH_len (H : Heap) (rq rs : Nat) (q : QM) (z : Bool) (c : Cfg) (next : Nat) : (SH H rq rs q z c next).length = H.length := by rw [SH, RC_len, QH_len]
theorem SH_take (H : Heap) (rq rs : Nat) (q : QM) (z : Bool) (c : Cfg) (next : Nat) : (SH H rq rs q z c next).take H.length = SH H rq rs q z c next := List.take_of_length_le (by rw [SH_len]; exact Nat.le_refl _)
attribute [simp] SH_len SH_take
/-- Two rows that are there. -/
structure At (H : Heap) (rq rs : Nat) : Prop where
  q : rq < H.length
  s : rs < H.length
  ne : rq ≠ rs
section
variable {H : Heap} {rq rs : Nat} {q : QM} {z : Bool} {c : Cfg} {next : Nat}
theorem At.app (h : At H rq rs) (X : Heap) : At (H ++ X) rq rs := ⟨by rw [List.length_append]; have := h.q; omega, by rw [List.length_append]; have := h.s; omega, h.ne⟩
theorem SH_s (h : At H rq rs) : rs < (QH H rq q z).length := by rw [QH_len]; exact h.s
theorem SH_0 (h : At H rq rs) : rdRow (SH H rq rs q z c next) rs 0 1 12 = some [.ptr rq 0 5] := by rw [SH, RC_rd (SH_s h)]; rfl
theorem SH_2 (h : At H rq rs) : rdRow (SH H rq rs q z c next) rs 2 1 12 = some [ai c.bits] := by rw [SH, RC_rd (SH_s h)]; rfl
theorem SH_11 (h : At H rq rs) : rdRow (SH H rq rs q z c next) rs 11 1 12 = some [ai next] := by rw [SH, RC_rd (SH_s h)]; rfl
theorem SH_st (h : At H rq rs) (n : Nat) (σ : List AV) : storeA σ (SH H rq rs q z c next) none (.ptr rs 11 12) (ai n) = some (σ, SH H rq rs q z c n) := by
  rw [SH, RC_st (SH_s h), if_pos ⟨rfl, by omega, rfl⟩]; rfl
theorem SH_QH (h : At H rq rs) : SH H rq rs q z c next = QH (RC H rs (sv rq c next)) rq q z := RC_comm h.ne _ _
theorem SH_lq (h : At H rq rs) : rq < (RC H rs (sv rq c next)).length := by rw [RC_len]; exact h.q
theorem SH_app (h : At H rq rs) (X : Heap) : SH H rq rs q z c next ++ X = SH (H ++ X) rq rs q z c next := by
  rw [SH, RC_app (SH_s h), QH, RC_app h.q]; rfl
theorem u_queue (h : At H rq rs) : callW P f_umtx_Sender_queue [.ptr rs 0 12] (SH H rq rs q z c next) = some (.ptr rq 0 5, SH H rq rs q z c next) := by
  have r0 := SH_0 (q := q) (z := z) (c := c) (next := next) h
  have hl := SH_len H rq rs q z c next
  have ht := SH_take H rq rs q z c next
  generalize SH H rq rs q z c next = G at *
  have hfz : frz H.length G (.ptr rq 0 5) = some (.ptr rq 0 5) := by simp only [frz]; rw [if_pos h.q]
  have hno : norm (.ptr rq 0 5) = .ptr rq 0 5 := rfl
  rw [call_L 4 rfl (rfl : P.T f_umtx_Sender_queue = some F_umtx_Sender_queue) (le_ok rfl)]; simp -implicitDefEqProofs [-toCells, -AV.one, -forget, F_umtx_Sender_queue, c_umtx_Sender_queue, r0, hl, hfz, hno, ht]
theorem u_Bytes (h : At H rq rs) : callW P f_umtx_Sender_Bytes [.ptr rs 0 12] (SH H rq rs q z c next) = some (ai q.bytes, SH H rq rs q z c next) := by
  have hQ := u_queue (q := q) (z := z) (c := c) (next := next) h
  have hB := q_Bytes (SH_lq (c := c) (next := next) h) q z
  rw [← SH_QH h] at hB
  generalize SH H rq rs q z c next = G at *
  rw [call_L 3 rfl (rfl : P.T f_umtx_Sender_Bytes = some F_umtx_Sender_Bytes) (le_ok rfl)]; simp -implicitDefEqProofs [-toCells, -AV.one, -forget, F_umtx_Sender_Bytes, c_umtx_Sender_Bytes, hQ, hB]
theorem u_Push (h : At H rq rs) (hq : q.Ok) (hlast : q.last ≤ 100000) (b : Bs) (hb : b.2.length ≤ 1000000) :
    ∃ z', callW P f_umtx_Sender_Push [.ptr rs 0 12, bv b] (SH H rq rs q z c next) = some (.tup [ul (q.push b.2).2.1, ai (q.push b.2).2.2], SH H rq rs (q.push b.2).1 z' c next) := by
  have hQ := u_queue (q := q) (z := z) (c := c) (next := next) h
  obtain ⟨z', hB⟩ := q_Push (SH_lq (c := c) (next := next) h) hq hlast z b hb
  rw [← SH_QH h, ← SH_QH h] at hB
  refine ⟨z', ?_⟩
  have hl := SH_len H rq rs q z c next
  have hl2 := SH_len H rq rs (q.push b.2).1 z' c next
  have ht2 := SH_take H rq rs (q.push b.2).1 z' c next
  generalize SH H rq rs (q.push b.2).1 z' c next = G2 at *
  generalize SH H rq rs q z c next = G at *
  rw [call_L 4 rfl (rfl : P.T f_umtx_Sender_Push = some F_umtx_Sender_Push) (le_ok rfl)]; simp -implicitDefEqProofs [-toCells, -AV.one, -forget, F_umtx_Sender_Push, c_umtx_Sender_Push, hQ, hB, hl, hl2, ht2]
theorem u_New (c : Cfg) (H : Heap) : callW P f_umtx_New [.agg c.v] H = if c.chk = 0 ∧ c.mode = 1 then some (.tup [.ptr (H.length + 1) 0 12, ai 0], SH (H ++ [.other, .other]) H.length (H.length + 1) ⟨c.queue.toNat, [], 0, 0⟩ true c 0) else some (.tup [.c (.pointer none), ai (if c.chk ≠ 0 then (c.chk : Int) else 9)], H) := by
  have hC := fun H => pdu_Check c H
  by_cases h1 : c.chk = 0
  · by_cases h2 : c.mode = 1
    · rw [if_pos ⟨h1, h2⟩]
      rw [h1] at hC
      have hqr : 1 ≤ c.queue ∧ c.queue ≤ 20000 := by
        unfold Cfg.chk at h1
        rw [if_pos (by omega)] at h1
        have h3 : [(c.queue, ((1 : Int), (20000 : Int)))].all inn = true := by
          cases hx : [(c.queue, ((1 : Int), (20000 : Int)))].all inn with
          | true => rfl
          | false => rw [hx, Bool.and_false] at h1; simp at h1
        simp only [List.all_cons, List.all_nil, Bool.and_true, inn, Bool.not_eq_true', decide_eq_false_iff_not] at h3
        omega
      have hN := q_New c.queue H
      rw [if_pos hqr] at hN
      have hsh : SH (H ++ [.other, .other]) H.length (H.length + 1) ⟨c.queue.toNat, [], 0, 0⟩ true c 0 = H ++ [.row (qv ⟨c.queue.toNat, [], 0, 0⟩ true), .row (sv H.length c 0)] := by
        simp [SH, QH, RC]
      rw [hsh]
      obtain ⟨mo, bi, wi, re, pr, ph, pp, pb, mr, qu⟩ := c
      simp only [Cfg.v, sv] at *
      subst h2
      generalize qv ⟨qu.toNat, [], 0, 0⟩ true = Q at *
      rw [call_L 5 rfl (rfl : P.T f_umtx_New = some F_umtx_New) (le_ok rfl)]; simp -implicitDefEqProofs [-toCells, -AV.one, -forget, F_umtx_New, c_umtx_New, hC, hN]
    · rw [if_neg (fun h => h2 h.2), if_neg (by omega)]
      rw [h1] at hC
      obtain ⟨mo, bi, wi, re, pr, ph, pp, pb, mr, qu⟩ := c
      simp only [Cfg.v] at *
      rw [call_L 5 rfl (rfl : P.T f_umtx_New = some F_umtx_New) (le_ok rfl)]; simp -implicitDefEqProofs [-toCells, -AV.one, -forget, F_umtx_New, c_umtx_New, hC, h2]
  · rw [if_neg (fun h => h1 h.1), if_pos h1]
    obtain ⟨e, he⟩ : ∃ x, c.chk = x := ⟨_, rfl⟩
    rw [he] at hC h1 ⊢
    have h1' : ¬ (e : Int) = 0 := by omega
    obtain ⟨mo, bi, wi, re, pr, ph, pp, pb, mr, qu⟩ := c
    simp only [Cfg.v] at *
    rw [call_L 5 rfl (rfl : P.T f_umtx_New = some F_umtx_New) (le_ok rfl)]; simp -implicitDefEqProofs [-toCells, -AV.one, -forget, F_umtx_New, c_umtx_New, hC, h1, h1']
end
end Go.A.V.S

namespace Go.A.V.S
open Go Go.A
set_option linter.unusedSimpArgs false
set_option linter.unusedVariables false
section
variable {H : Heap} {rq rs : Nat} {q : QM} {z : Bool} {c : Cfg} {next : Nat}
def askE (q : QM) (w : Nat) (g : Int) : Int := if g < 0 ∨ 4096 < g then 1 else if q.bytes = 0 then 4 else if g ≤ (w / 5 : Nat) then 16 else 0
theorem u_ask (h : At H rq rs) {w : Nat} (hw : w = 5 ∨ w = 10) (hb : c.bits = w) (g : Int) : callW P f_umtx_Sender_ask [.ptr rs 0 12, ai g] (SH H rq rs q z c next) = some (ai (askE q w g), SH H rq rs q z c next) := by
  have hQ := u_queue (q := q) (z := z) (c := c) (next := next) h
  have hB := u_Bytes (q := q) (z := z) (c := c) (next := next) h
  have r2 := SH_2 (q := q) (z := z) (c := c) (next := next) h
  rw [hb] at r2
  unfold askE
  obtain ⟨by', hby⟩ : ∃ x, q.bytes = x := ⟨_, rfl⟩
  rw [hby] at hB ⊢
  generalize SH H rq rs q z c next = G at *
  by_cases h1 : g < 0 ∨ 4096 < g
  · rw [if_pos h1]
    by_cases h2 : g < 0
    · rw [call_L 5 rfl (rfl : P.T f_umtx_Sender_ask = some F_umtx_Sender_ask) (le_ok rfl)]; simp -implicitDefEqProofs (disch := first | omega | (simp; done) | fail) [-toCells, -AV.one, -forget, F_umtx_Sender_ask, c_umtx_Sender_ask, cmp_ilt, cmp_ilf, cmp_ile, cmp_ilg, cmp_ine, cmp_nlt, cmp_nlf, cmp_nle, cmp_nne, cmp_neq, wrap_i64, wrap_u64, wrap_u8, hQ]
    · rw [call_L 5 rfl (rfl : P.T f_umtx_Sender_ask = some F_umtx_Sender_ask) (le_ok rfl)]; simp -implicitDefEqProofs (disch := first | omega | (simp; done) | fail) [-toCells, -AV.one, -forget, F_umtx_Sender_ask, c_umtx_Sender_ask, cmp_ilt, cmp_ilf, cmp_ile, cmp_ilg, cmp_ine, cmp_nlt, cmp_nlf, cmp_nle, cmp_nne, cmp_neq, wrap_i64, wrap_u64, wrap_u8, hQ]
  · rw [if_neg h1]
    by_cases h2 : by' = 0
    · rw [if_pos h2]
      subst h2
      replace hB : callW P f_umtx_Sender_Bytes [.ptr rs 0 12] G = some (ai 0, G) := hB
      rw [call_L 5 rfl (rfl : P.T f_umtx_Sender_ask = some F_umtx_Sender_ask) (le_ok rfl)]; simp -implicitDefEqProofs (disch := first | omega | (simp; done) | fail) [-toCells, -AV.one, -forget, F_umtx_Sender_ask, c_umtx_Sender_ask, cmp_ilt, cmp_ilf, cmp_ile, cmp_ilg, cmp_ine, cmp_nlt, cmp_nlf, cmp_nle, cmp_nne, cmp_neq, wrap_i64, wrap_u64, wrap_u8, hQ, hB]
    · rw [if_neg h2]
      have d5 : Int.tdiv 5 5 = 1 := rfl
      have d10 : Int.tdiv 10 5 = 2 := rfl
      rcases hw with rfl | rfl
      · replace r2 : rdRow G rs 2 1 12 = some [ai 5] := r2
        by_cases h3 : g ≤ 1
        · rw [if_pos (by omega)]
          rw [call_L 5 rfl (rfl : P.T f_umtx_Sender_ask = some F_umtx_Sender_ask) (le_ok rfl)]; simp -implicitDefEqProofs (disch := first | omega | (simp; done) | fail) [-toCells, -AV.one, -forget, F_umtx_Sender_ask, c_umtx_Sender_ask, cmp_ilt, cmp_ilf, cmp_ile, cmp_ilg, cmp_ine, cmp_nlt, cmp_nlf, cmp_nle, cmp_nne, cmp_neq, wrap_i64, wrap_u64, wrap_u8, hQ, hB, r2, d5]
        · rw [if_neg (by omega)]
          rw [call_L 5 rfl (rfl : P.T f_umtx_Sender_ask = some F_umtx_Sender_ask) (le_ok rfl)]; simp -implicitDefEqProofs (disch := first | omega | (simp; done) | fail) [-toCells, -AV.one, -forget, F_umtx_Sender_ask, c_umtx_Sender_ask, cmp_ilt, cmp_ilf, cmp_ile, cmp_ilg, cmp_ine, cmp_nlt, cmp_nlf, cmp_nle, cmp_nne, cmp_neq, wrap_i64, wrap_u64, wrap_u8, hQ, hB, r2, d5]
      · replace r2 : rdRow G rs 2 1 12 = some [ai 10] := r2
        by_cases h3 : g ≤ 2
        · rw [if_pos (by omega)]
          rw [call_L 5 rfl (rfl : P.T f_umtx_Sender_ask = some F_umtx_Sender_ask) (le_ok rfl)]; simp -implicitDefEqProofs (disch := first | omega | (simp; done) | fail) [-toCells, -AV.one, -forget, F_umtx_Sender_ask, c_umtx_Sender_ask, cmp_ilt, cmp_ilf, cmp_ile, cmp_ilg, cmp_ine, cmp_nlt, cmp_nlf, cmp_nle, cmp_nne, cmp_neq, wrap_i64, wrap_u64, wrap_u8, hQ, hB, r2, d10]
        · rw [if_neg (by omega)]
          rw [call_L 5 rfl (rfl : P.T f_umtx_Sender_ask = some F_umtx_Sender_ask) (le_ok rfl)]; simp -implicitDefEqProofs (disch := first | omega | (simp; done) | fail) [-toCells, -AV.one, -forget, F_umtx_Sender_ask, c_umtx_Sender_ask, cmp_ilt, cmp_ilf, cmp_ile, cmp_ilg, cmp_ine, cmp_nlt, cmp_nlf, cmp_nle, cmp_nne, cmp_neq, wrap_i64, wrap_u64, wrap_u8, hQ, hB, r2, d10]
end
end Go.A.V.S

namespace Go.A.V.S
open Go Go.A
set_option linter.unusedSimpArgs false
set_option linter.unusedVariables false
def umOf (R : CR) (next : Nat) : Um := ⟨(R.fi : Nat), (next : Nat), true, R.F.map fun b => (false, b)⟩
/-- How many bytes fields may have. -/
def rmOf (w : Nat) (g : Int) : Nat := (if g < 4000 then g else 4000).toNat - w / 5
def bR (q : QM) (w : Nat) (g : Int) : CR := cutQ (rmOf w g) 11 24 q [] [] 0 0
/-- What Build answers. -/
inductive BuildP (q : QM) (w : Nat) (g : Int) (next : Nat) : AV → QM → Nat → Prop
  | no (he : askE q w g ≠ 0) : BuildP q w g next (.tup [nilS, nilS, ai (askE q w g)]) q next
  | none (he : askE q w g = 0) (hF : (bR q w g).F = []) : BuildP q w g next (.tup [nilS, nilS, ai 4]) (bR q w g).q next
  | bad (he : askE q w g = 0) (hF : (bR q w g).F ≠ []) (hs : sizeU (umOf (bR q w g) next) w = 0) : BuildP q w g next (.tup [nilS, nilS, ai 3]) (bR q w g).q next
  | yes (out : List Nat) (he : askE q w g = 0) (hF : (bR q w g).F ≠ []) (hs : sizeU (umOf (bR q w g) next) w ≠ 0) (hW : WrU (umOf (bR q w g) next) w out) : BuildP q w g next (.tup [.vs 1 none (byteCs out), lst true 1 none (uls (bR q w g).D), ai 0]) (bR q w g).q ((next + 1) % 2 ^ w)
theorem bvs_bvF (F : List (List Nat)) : bvs (F.map fun b => (false, b)) = bvF F := by simp [bvs, bvF]
section
variable {H : Heap} {rq rs : Nat} {q : QM} {z : Bool} {c : Cfg} {next : Nat}
set_option maxHeartbeats 2000000 in
theorem u_Build (h : At H rq rs) (hq : q.Ok) {w : Nat} (hw : w = 5 ∨ w = 10) (hb : c.bits = w) (hn : next < 2 ^ w) (g : Int) :
    ∃ v q' next' z' k, BuildP q w g next v q' next' ∧ callW P f_umtx_Sender_Build [.ptr rs 0 12, ai g] (SH H rq rs q z c next) = some (v, SH (H ++ List.replicate k .other) rq rs q' z' c next') := by
  have hA := u_ask (z := z) (c := c) (next := next) (q := q) h hw hb g
  have hQ := u_queue (q := q) (z := z) (c := c) (next := next) h
  have r2 := fun q z n => SH_2 (q := q) (z := z) (c := c) (next := n) h
  rw [hb] at r2
  by_cases he : askE q w g = 0
  · obtain ⟨rm, hrm⟩ : ∃ x, rmOf w g = x := ⟨_, rfl⟩
    have hg : 0 ≤ g ∧ g ≤ 4096 ∧ ((w / 5 : Nat) : Int) < g := by
      unfold askE at he
      split at he
      · omega
      · split at he
        · omega
        · split at he
          · omega
          · omega
    have hrm4 : rm ≤ 4000 := by rw [← hrm, rmOf]; split <;> omega
    obtain ⟨z1, hB⟩ := c_Build (SH_lq (c := c) (next := next) h) hq z rm hrm4 (w := 11) (.inl rfl)
    rw [← SH_QH h, ← SH_QH h] at hB
    have hbR : cutQ rm 11 24 q [] [] 0 0 = bR q w g := by rw [bR, hrm]
    rw [hbR] at hB
    replace hB : callW P f_cut_Build [.ptr rq 0 5, ai rm, ai 11] _ = _ := hB
    obtain ⟨gm, hgm⟩ : ∃ x, mn g 4000 = x := ⟨_, rfl⟩
    have hgm2 : gm - ((w / 5 : Nat) : Int) = rm := by
      rw [← hgm, ← hrm, rmOf]
      simp only [mn]
      split <;> split <;> omega
    have w1 : IntKind.i64.wrap (gm - ((w / 5 : Nat) : Int)) = rm := by rw [hgm2]; exact wrap_i64 (by omega) (by omega)
    have hquo : ∃ n5 : Int, Int.tdiv (w : Int) 5 = n5 ∧ IntKind.i64.wrap n5 = ((w / 5 : Nat) : Int) := by
      rcases hw with rfl | rfl
      · exact ⟨1, rfl, rfl⟩
      · exact ⟨2, rfl, rfl⟩
    obtain ⟨n5, hq5, hw5⟩ := hquo
    rw [he] at hA
    by_cases hF : (bR q w g).F = []
    · refine ⟨_, _, _, z1, 0, .none he hF, ?_⟩
      have hcp : cutPub (bR q w g) = .tup [.agg [ai 0, nilS, nilS], ai 4] := by rw [cutPub, if_pos hF]
      rw [hcp] at hB
      rw [List.replicate_zero, List.append_nil]
      have hl := SH_len H rq rs q z c next
      have hl1 := SH_len H rq rs (bR q w g).q z1 c next
      have ht1 := SH_take H rq rs (bR q w g).q z1 c next
      have r2a := r2 q z next
      generalize SH H rq rs (bR q w g).q z1 c next = G1 at *
      generalize SH H rq rs q z c next = G at *
      generalize ((w / 5 : Nat) : Int) = w5 at *
      rw [call_L 7 rfl (rfl : P.T f_umtx_Sender_Build = some F_umtx_Sender_Build) (le_ok rfl)]; simp -implicitDefEqProofs [-toCells, -AV.one, -forget, F_umtx_Sender_Build, c_umtx_Sender_Build, keepB, -goodB, goodB_L, sameV, dstNot, dstNe, SOpG.reads, SOp.slots, SX.slots, SOp.noL, rdV_load, selfE_lst, selfE, selfEs, eqV, okN, SOpG.badNew, dstL, AV.isLp, AV.isLd, L_any, anyT_n, anyT_full, hA, hQ, r2a, hgm, hq5, hw5, w1, hB, hl, hl1, ht1]
    · obtain ⟨R, hR⟩ : ∃ x, bR q w g = x := ⟨_, rfl⟩
      have hR0 := hR
      have hcp : cutPub R = .tup [.agg [ai R.fi, lst true 1 none (bvF R.F), lst true 1 none (uls R.D)], ai 0] := by rw [cutPub, if_neg (by rw [← hR]; exact hF)]
      have hFp := cutQ_F (room := rm) (w := 11) (fun f => f.length ≤ 100000) (fun b i n hb => by rw [List.length_take, List.length_drop]; omega) 24 q [] [] 0 0 hq (fun f hf => by simp at hf)
      rw [hbR, hR] at hFp
      have hU := umd_Write (umOf R next) (fun f hf => by
        obtain ⟨b, hb1, rfl⟩ := List.mem_map.1 hf
        exact hFp.1 b hb1) (by simp only [umOf, List.length_map]; have := hFp.2; simp at this; omega) (w : Nat)
      have hv : (umOf R next).v = [ai R.fi, ai next, lst true 1 none (bvF R.F)] := by simp only [Um.v, Um.f, umOf, bvs_bvF]
      rw [hv] at hU
      rw [hR] at hB
      rw [hcp] at hB
      have r11 := SH_11 (q := R.q) (z := z1) (c := c) (next := next) h
      have hl := SH_len H rq rs q z c next
      have hl1 := SH_len H rq rs R.q z1 c next
      have ht1 := SH_take H rq rs R.q z1 c next
      have r2a := r2 q z next
      have r2b := r2 R.q z1 next
      by_cases hsz : sizeU (umOf R next) w = 0
      · refine ⟨_, _, _, z1, 0, .bad he hF (by rw [hR]; exact hsz), ?_⟩
        rw [List.replicate_zero, List.append_nil, hR]
        have hW := (hU (SH H rq rs R.q z1 c next)).2.1 (by omega) hsz
        generalize SH H rq rs R.q z1 c next = G1 at *
        generalize SH H rq rs q z c next = G at *
        generalize ((w / 5 : Nat) : Int) = w5 at *
        generalize bvF R.F = F1 at *
        generalize uls R.D = D1 at *
        generalize R.fi = fi at *
        rw [call_L 7 rfl (rfl : P.T f_umtx_Sender_Build = some F_umtx_Sender_Build) (le_ok rfl)]; simp -implicitDefEqProofs [-toCells, -AV.one, -forget, F_umtx_Sender_Build, c_umtx_Sender_Build, keepB, -goodB, goodB_L, sameV, dstNot, dstNe, SOpG.reads, SOp.slots, SX.slots, SOp.noL, rdV_load, selfE_lst, selfE, selfEs, eqV, okN, SOpG.badNew, dstL, AV.isLp, AV.isLd, L_any, anyT_n, anyT_full, hA, hQ, r2a, r2b, r11, hgm, hq5, hw5, w1, hB, hl, hl1, ht1, hW]
      · obtain ⟨out, k, hWr, hW⟩ := (hU (SH H rq rs R.q z1 c next)).2.2 hsz
        rw [SH_app h] at hW
        have h' := h.app (List.replicate k .other)
        refine ⟨_, _, _, z1, k, .yes out he hF (by rw [hR]; exact hsz) (by rw [hR]; simpa using hWr), ?_⟩
        rw [hR]
        have s11 := SH_11 (q := R.q) (z := z1) (c := c) (next := next) h'
        have s2 := SH_2 (q := R.q) (z := z1) (c := c) (next := next) h'
        rw [hb] at s2
        have hGo := sn_Go1 hw hn (SH (H ++ List.replicate k .other) rq rs R.q z1 c next)
        have st := fun σ => SH_st (q := R.q) (z := z1) (c := c) (next := next) h' ((next + 1) % 2 ^ w) σ
        have ht2 : (SH (H ++ List.replicate k .other) rq rs R.q z1 c ((next + 1) % 2 ^ w)).take H.length ++ List.replicate k .other = SH (H ++ List.replicate k .other) rq rs R.q z1 c ((next + 1) % 2 ^ w) := by
          rw [← SH_app h, List.take_append_of_le_length (by rw [SH_len]; exact Nat.le_refl _), SH_take]
        have hl2 : (SH (H ++ List.replicate k .other) rq rs R.q z1 c ((next + 1) % 2 ^ w)).length = H.length + k := by rw [SH_len]; simp
        generalize SH (H ++ List.replicate k .other) rq rs R.q z1 c ((next + 1) % 2 ^ w) = G3 at *
        generalize SH (H ++ List.replicate k .other) rq rs R.q z1 c next = G2 at *
        generalize SH H rq rs R.q z1 c next = G1 at *
        generalize SH H rq rs q z c next = G at *
        generalize ((w / 5 : Nat) : Int) = w5 at *
        generalize (next + 1) % 2 ^ w = nx at *
        generalize bvF R.F = F1 at *
        generalize uls R.D = D1 at *
        generalize R.fi = fi at *
        generalize byteCs out = ob at *
        rw [call_L 7 rfl (rfl : P.T f_umtx_Sender_Build = some F_umtx_Sender_Build) (le_ok rfl)]; simp -implicitDefEqProofs [-toCells, -AV.one, -forget, F_umtx_Sender_Build, c_umtx_Sender_Build, keepB, -goodB, goodB_L, sameV, dstNot, dstNe, SOpG.reads, SOp.slots, SX.slots, SOp.noL, rdV_load, selfE_lst, selfE, selfEs, eqV, okN, SOpG.badNew, dstL, AV.isLp, AV.isLd, L_any, anyT_n, anyT_full, hA, hQ, r2a, r2b, r11, hgm, hq5, hw5, w1, hB, hl, hl1, ht1, hW, s11, s2, hGo, st, ht2, hl2]
  · refine ⟨_, _, _, z, 0, .no he, ?_⟩
    rw [List.replicate_zero, List.append_nil]
    have hl := SH_len H rq rs q z c next
    have ht := SH_take H rq rs q z c next
    generalize SH H rq rs q z c next = G at *
    generalize askE q w g = e at *
    rw [call_L 7 rfl (rfl : P.T f_umtx_Sender_Build = some F_umtx_Sender_Build) (le_ok rfl)]; simp -implicitDefEqProofs [-toCells, -AV.one, -forget, F_umtx_Sender_Build, c_umtx_Sender_Build, hA, he, hl, ht]
end
end Go.A.V.S
