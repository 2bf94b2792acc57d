/- Fields that were taken, put together: texts. -/
import Derived.Test.YtnmobjhmohcjfaaXG
import Derived.Test.YtnmobjhmohcjfaaXI
import Derived.Test.YtnmobjhmohcjfaaXH
import Derived.Test.YtnmobjhmohcjfaaXC
set_option linter.unusedSimpArgs false
set_option linter.unusedVariables false
set_option linter.unnecessarySimpa false
namespace Go.A.V.S
set_option linter.unusedVariables false
def jq (h : Option (List Nat)) (b : List Nat) : List Nat := match h with
  | none => b
  | some a => a ++ b
/-- What fields tell, and what is held behind them; cut: the last one does not end its text. -/
def gq (cut : Bool) : Option (List Nat) → List (List Nat) → List (List Nat) × Option (List Nat)
  | h, [] => ([], h)
  | h, [f] => if cut = true then ([], some (jq h f)) else ([jq h f], none)
  | h, f :: g :: r => (jq h f :: (gq cut none (g :: r)).1, (gq cut none (g :: r)).2)
/-- The beginning of the first text that is taken. -/
def QM.held (q : QM) : Option (List Nat) := if q.taken = 0 then none else match q.l with
  | [] => none
  | t :: _ => some (t.2.take q.taken)
theorem held0 (q : QM) (h : q.taken = 0) : q.held = none := by rw [QM.held, if_pos h]
theorem jq_held {q : QM} {t : Nat × List Nat} {l : List (Nat × List Nat)} (hl : q.l = t :: l) : jq q.held (t.2.drop q.taken) = t.2 := by
  unfold QM.held
  split
  · rename_i h; rw [jq, h, List.drop_zero]
  · rw [hl]; simp [jq]
theorem jq_part {q : QM} {t : Nat × List Nat} {l : List (Nat × List Nat)} (hl : q.l = t :: l) (n : Nat) : jq q.held ((t.2.drop q.taken).take n) = t.2.take (q.taken + n) := by
  unfold QM.held
  split
  · rename_i h; rw [jq, h]; simp
  · rw [hl]; simp [jq, List.take_add]
theorem cutQ_gq {room w : Nat} : ∀ (k : Nat) (q : QM) (F : List (List Nat)) (D : List Nat) (fi used : Nat), q.Ok → (fi = 0 ∨ fi = 2) → ∃ X T, (cutQ room w k q F D fi used).F = F ++ X ∧ q.l.map (·.2) = T ++ (cutQ room w k q F D fi used).q.l.map (·.2) ∧
      gq (decide ((cutQ room w k q F D fi used).fi % 2 = 1)) q.held X = (T, (cutQ room w k q F D fi used).q.held) ∧ (cutQ room w k q F D fi used).fi ≤ 3 ∧ (X = [] → (cutQ room w k q F D fi used).fi = fi) ∧ (2 ≤ (cutQ room w k q F D fi used).fi ↔ (X ≠ [] ∧ 0 < q.taken) ∨ fi = 2)
  | 0, q, F, D, fi, used, h, hfi => ⟨[], [], by simp [cutQ], by simp [cutQ], by simp [cutQ, gq], by simp only [cutQ]; omega, fun _ => rfl, by simp [cutQ]; omega⟩
  | k + 1, q, F, D, fi, used, h, hfi => by
    rw [cutQ]
    split
    · exact ⟨[], [], by simp, by simp, by simp [gq], by simp only; omega, fun _ => rfl, by simp; omega⟩
    · rename_i t l hl
      split
      · exact ⟨[], [], by simp, by simp, by simp [gq], by simp only; omega, fun _ => rfl, by simp; omega⟩
      · rename_i hlf
        have hf2 : (if 0 < q.taken then 2 else fi) = 0 ∨ (if 0 < q.taken then 2 else fi) = 2 := by split <;> omega
        split
        · obtain ⟨X, T, hX, hT, hg, h3, h0, h2⟩ := cutQ_gq (room := room) (w := w) k ⟨q.room, l, 0, q.last⟩ (F ++ [t.2.drop q.taken]) (D ++ [t.1]) (if 0 < q.taken then 2 else fi) (used + (t.2.length - q.taken)) (h.behind hl) hf2
          generalize cutQ room w k ⟨q.room, l, 0, q.last⟩ (F ++ [t.2.drop q.taken]) (D ++ [t.1]) (if 0 < q.taken then 2 else fi) (used + (t.2.length - q.taken)) = R at *
          refine ⟨t.2.drop q.taken :: X, t.2 :: T, by rw [hX]; simp, by rw [hl, List.map_cons, hT]; rfl, ?_, h3, by simp, ?_⟩
          · rw [held0 _ rfl] at hg
            cases X with
            | nil =>
              have h0' := h0 rfl
              have hc : decide (R.fi % 2 = 1) = false := decide_eq_false (by rw [h0']; rcases hf2 with h | h <;> rw [h] <;> decide)
              rw [hc] at hg ⊢
              simp only [gq, Prod.mk.injEq] at hg ⊢
              rw [if_neg (by decide), jq_held hl, ← hg.1, ← hg.2]
            | cons g r =>
              rw [gq, hg, jq_held hl]
          · rw [h2]
            simp only [Nat.lt_irrefl, and_false, false_or]
            constructor
            · intro hh
              split at hh
              · left; exact ⟨by simp, by assumption⟩
              · right; exact hh
            · rintro (⟨_, hh⟩ | hh)
              · rw [if_pos hh]
              · split <;> omega
        · rename_i hn
          refine ⟨[(t.2.drop q.taken).take ((room : Int) - used - lsize F.length w).toNat], [], rfl, by simp, ?_, ?_, by simp, ?_⟩
          · have hc : decide (((if 0 < q.taken then 2 else fi) + 1) % 2 = 1) = true := decide_eq_true (by rcases hf2 with h | h <;> rw [h])
            simp only [hc]
            rw [gq, if_pos rfl, jq_part hl, QM.held, if_neg (by simp only; omega)]
            simp only [hl]
          · simp only; rcases hf2 with h | h <;> rw [h] <;> decide
          · simp only
            split <;> simp_all <;> omega
end Go.A.V.S

namespace Go.A.V.S
open Go Go.A
set_option linter.unusedSimpArgs false
set_option linter.unusedVariables false
theorem jn_jq (h : Option Bs) (b : Bs) : (jn h b).2 = jq (h.map (·.2)) b.2 := by cases h <;> rfl
theorem gp_gq (cut : Bool) : ∀ (h : Option Bs) (F : List Bs), (gp cut h F).1.map (·.2) = (gq cut (h.map (·.2)) (F.map (·.2))).1 ∧ (gp cut h F).2.map (·.2) = (gq cut (h.map (·.2)) (F.map (·.2))).2
  | h, [] => by simp [gp, gq]
  | h, [f] => by
    simp only [gp, gq, List.map_cons, List.map_nil]
    cases cut <;> simp [jn_jq]
  | h, f :: g :: r => by
    obtain ⟨a, b⟩ := gp_gq cut none (g :: r)
    simp only [gp, gq, List.map_cons, List.map_nil, Option.map_none] at a b ⊢
    exact ⟨by rw [a, jn_jq], b⟩
/-- What a glue holds is some bytes, if the queue's first text is begun. -/
theorem held_len {q : QM} (hq : q.Ok) {a : List Nat} (h : q.held = some a) : 1 ≤ a.length ∧ 0 < q.taken := by
  unfold QM.held at h
  split at h
  · simp at h
  · rename_i h0
    split at h
    · simp at h
    · rename_i t l hl
      have hf := hq.first t l hl
      have : t.2.take q.taken = a := Option.some.inj h
      rw [← this, List.length_take]
      omega
end Go.A.V.S

namespace Go.A.V.S
set_option linter.unusedVariables false
theorem cutQ_fits {room w : Nat} : ∀ (k : Nat) (q : QM) (F : List (List Nat)) (D : List Nat) (fi used : Nat), q.Ok → used = F.flatten.length → (F ≠ [] → lsize (F.length - 1) w + used ≤ room) → (∀ f ∈ F, 1 ≤ f.length ∧ f.length ≤ 1000) →
      ((cutQ room w k q F D fi used).F ≠ [] → lsize ((cutQ room w k q F D fi used).F.length - 1) w + (cutQ room w k q F D fi used).F.flatten.length ≤ room) ∧ (∀ f ∈ (cutQ room w k q F D fi used).F, 1 ≤ f.length ∧ f.length ≤ 1000) ∧
      (F ≠ [] ∨ (1 ≤ k ∧ q.l ≠ [] ∧ (1 : Int) ≤ (room : Int) - used - lsize F.length w) → (cutQ room w k q F D fi used).F ≠ [])
  | 0, q, F, D, fi, used, h, hu, hr, hF => ⟨fun hne => by rw [cutQ] at hne ⊢; simp only at hne ⊢; rw [← hu]; exact hr hne, hF, fun hh => by rw [cutQ]; rcases hh with hh | hh; exact hh; omega⟩
  | k + 1, q, F, D, fi, used, h, hu, hr, hF => by
    rw [cutQ]
    split
    · rename_i hl
      exact ⟨fun hne => by simp only at hne ⊢; rw [← hu]; exact hr hne, hF, fun hh => by
        rcases hh with hh | ⟨_, hh, _⟩
        · exact hh
        · exact (hh hl).elim⟩
    · rename_i t l hl
      have ht := h.each t (by rw [hl]; simp)
      have hf := h.first t l hl
      split
      · exact ⟨fun hne => by simp only at hne ⊢; rw [← hu]; exact hr hne, hF, fun hh => by
          rcases hh with hh | ⟨_, _, hh⟩
          · exact hh
          · omega⟩
      · rename_i hlf
        split
        · rename_i hn
          have hdl : (t.2.drop q.taken).length = t.2.length - q.taken := List.length_drop
          obtain ⟨a, b, c⟩ := cutQ_fits (room := room) (w := w) k ⟨q.room, l, 0, q.last⟩ (F ++ [t.2.drop q.taken]) (D ++ [t.1]) (if 0 < q.taken then 2 else fi) (used + (t.2.length - q.taken)) (h.behind hl) (by simp [hu]) (fun _ => by simp; omega) (fun f hf2 => by
            rcases List.mem_append.1 hf2 with hf2 | hf2
            · exact hF f hf2
            · simp only [List.mem_singleton] at hf2
              subst hf2
              omega)
          exact ⟨a, b, fun _ => c (.inl (by simp))⟩
        · rename_i hn
          obtain ⟨x, hx⟩ : ∃ x, ((room : Int) - used - lsize F.length w).toNat = x := ⟨_, rfl⟩
          rw [hx] at hn ⊢
          have hdl : ((t.2.drop q.taken).take x).length = x := by rw [List.length_take, List.length_drop]; omega
          refine ⟨fun _ => ?_, fun f hf2 => ?_, fun _ => by simp⟩
          · simp only [List.length_append, List.flatten_append, List.length_singleton, List.flatten_cons, List.flatten_nil, List.append_nil, Nat.add_sub_cancel, hdl]
            omega
          · simp only at hf2
            rcases List.mem_append.1 hf2 with hf2 | hf2
            · exact hF f hf2
            · simp only [List.mem_singleton] at hf2
              subst hf2
              rw [hdl]
              omega
end Go.A.V.S

namespace Go.A.V.S
open Go Go.A
set_option linter.unusedSimpArgs false
set_option linter.unusedVariables false
theorem bb_F (F : List (List Nat)) : bb (F.map fun b => ((false, b) : Bs)) = F := by
  rw [bb, List.map_map]
  exact List.map_id F
theorem u_yes {q : QM} (hq : q.Ok) (hl : q.l ≠ []) {w : Nat} (hw : w = 5 ∨ w = 10) {g : Nat} (h3 : 3 ≤ g) (h202 : g ≤ 202) {next : Nat} (hn : next < 2 ^ w) {v : AV} {q' : QM} {n' : Nat} (h : BuildP q w g next v q' n') :
    ∃ out, v = .tup [.vs 1 none (byteCs out), lst true 1 none (uls (bR q w g).D), ai 0] ∧ q' = (bR q w g).q ∧ n' = (next + 1) % 2 ^ w ∧ (bR q w g).F ≠ [] ∧ sizeU (umOf (bR q w g) next) w ≠ 0 ∧ WrU (umOf (bR q w g) next) w out ∧ out.length ≤ g := by
  obtain ⟨t, l, hlq⟩ : ∃ t l, q.l = t :: l := by
    cases hx : q.l with
    | nil => exact (hl hx).elim
    | cons t l => exact ⟨t, l, rfl⟩
  have hby := QM.bytes_ge hq hlq
  have hft := hq.first t l hlq
  have hbp : ¬ q.bytes = 0 := by omega
  have hrm : rmOf w g = g - w / 5 := by unfold rmOf; rw [if_pos (by omega)]; omega
  have hw5 : w / 5 ≤ 2 := by rcases hw with rfl | rfl <;> decide
  have he : askE q w g = 0 := by
    unfold askE
    rw [if_neg (by omega), if_neg hbp, if_neg (by omega)]
  obtain ⟨f1, f2, f3⟩ := cutQ_fits (room := rmOf w g) (w := 11) 24 q [] [] 0 0 hq (by simp) (fun h => (h rfl).elim) (fun f hf => by simp at hf)
  obtain ⟨_, f4⟩ := cutQ_F (room := rmOf w g) (w := 11) (fun _ => True) (fun _ _ _ _ => trivial) 24 q [] [] 0 0 hq (fun _ _ => trivial)
  obtain ⟨X, T, _, _, _, f5, _⟩ := cutQ_gq (room := rmOf w g) (w := 11) 24 q [] [] 0 0 hq (.inl rfl)
  have hbR : cutQ (rmOf w g) 11 24 q [] [] 0 0 = bR q w g := rfl
  rw [hbR] at f1 f2 f3 f4 f5
  have hF : (bR q w g).F ≠ [] := f3 (.inr ⟨by omega, hl, by rw [hrm]; simp [lsize]; omega⟩)
  replace f1 := f1 hF
  rw [hrm] at f1
  have hFl : 1 ≤ (bR q w g).F.length := by
    cases hx : (bR q w g).F with
    | nil => exact (hF hx).elim
    | cons a b => simp
  have hsz : sizeU (umOf (bR q w g) next) w = w / 5 + lsize ((bR q w g).F.length - 1) 11 + (bR q w g).F.flatten.length := by
    unfold sizeU
    simp only [umOf, List.length_map]
    rw [if_neg (by rcases hw with rfl | rfl <;> simp), if_neg (by omega), if_neg (by omega), if_neg (by simp only [Int.toNat_natCast]; omega), if_neg (by omega), if_neg (by simp at f4; omega)]
    rw [bb_F, Int.toNat_natCast]
    have hbase : baseU ⟨((bR q w g).fi : Nat), (next : Nat), true, (bR q w g).F.map fun b => ((false, b) : Bs)⟩ w = w / 5 + lsize ((bR q w g).F.length - 1) 11 := by simp [baseU]
    rw [hbase]
    exact sumR_of _ _ (fun f hf => by have := f2 f hf; omega) (fun f hf => by have := f2 f (List.dropLast_subset _ hf); omega) (by omega)
  have hs0 : sizeU (umOf (bR q w g) next) w ≠ 0 := by
    obtain ⟨a, b, hab⟩ : ∃ a b, (bR q w g).F = a :: b := by
      cases hx : (bR q w g).F with
      | nil => exact (hF hx).elim
      | cons a b => exact ⟨a, b, rfl⟩
    have := f2 a (by rw [hab]; simp)
    have h4 : a.length ≤ (bR q w g).F.flatten.length := by rw [hab]; simp
    omega
  cases h with
  | no h1 => exact (h1 he).elim
  | none _ h1 => exact (hF h1).elim
  | bad _ _ h1 => exact (hs0 h1).elim
  | yes out _ _ _ hW =>
    refine ⟨out, rfl, rfl, rfl, hF, hs0, hW, ?_⟩
    have := (read_backU (w := (w : Int)) hs0 (by simpa using hW)).2.1
    omega
end Go.A.V.S

namespace Go.A.V.S
open Go Go.A
set_option linter.unusedSimpArgs false
set_option linter.unusedVariables false
theorem u_read2 {w : Nat} (hw : w = 5 ∨ w = 10) {u : Um} {out : List Nat} (hs : sizeU u w ≠ 0) (hW : WrU u w out) (hb : ∀ f ∈ u.ff, Bytes f.2) (H : Heap) :
    ∃ (o : List Bs) (k : Nat), o.map (·.2) = bb u.ff ∧ callW P f_umd_Read [.vs 1 none (byteCs out), ai w] H = some (.tup [.agg [ai u.fi, ai u.sn, lst true 1 none (bvs o)], ai 0], H ++ List.replicate k .other) := by
  obtain ⟨h1, h2, h3, h4⟩ := read_backU (w := (w : Int)) hs (by simpa using hW)
  have hlen := (readU_ok h1).2.1
  have hby := WrU_by hW hb
  have hbv : (.vs 1 none (byteCs out) : AV) = bv (false, out) := rfl
  rw [hbv]
  have key : ∃ (o : List Bs) (k : Nat), o.map (·.2) = (readU out w).2 ∧ callW P f_umd_Read [bv (false, out), ai w] H = some (readUV out w (lst true 1 none (bvs o)), H ++ List.replicate k .other) := by
    rcases hw with rfl | rfl
    · obtain ⟨o, k, h0, h⟩ := umd_Read5 (false, out) (by simp only; omega) hby H
      exact ⟨o, k, h0, h⟩
    · obtain ⟨o, k, h0, h⟩ := umd_Read10 (false, out) (by simp only; omega) hby H
      exact ⟨o, k, h0, h⟩
  obtain ⟨o, k, h0, h⟩ := key
  refine ⟨o, k, by rw [h0, h1], ?_⟩
  rw [h, readUV, h1, if_pos rfl, h3, h4]
  rfl
end Go.A.V.S

namespace Go.A.V.S
open Go Go.A
set_option linter.unusedSimpArgs false
set_option linter.unusedVariables false
/-- The heap of a sender, its queue and a glue. -/
def FH (H : Heap) (rq rs rg : Nat) (q : QM) (z : Bool) (c : Cfg) (next : Nat) (h : Option Bs) (lost : Nat) : Heap := SH (GG H rg h lost) rq rs q z c next
/-- Three rows that are there. -/
structure At3 (H : Heap) (rq rs rg : Nat) : Prop where
  a : At H rq rs
  g : rg < H.length
  gq : rg ≠ rq
  gs : rg ≠ rs
section
variable {H : Heap} {rq rs rg : Nat} {q : QM} {z : Bool} {c : Cfg} {next : Nat} {h : Option Bs} {lost : Nat}
theorem At3.app (k : At3 H rq rs rg) (X : Heap) : At3 (H ++ X) rq rs rg := ⟨k.a.app X, by rw [List.length_append]; have := k.g; omega, k.gq, k.gs⟩
theorem At3.at (k : At3 H rq rs rg) : At (GG H rg h lost) rq rs := ⟨by rw [GG_len]; exact k.a.q, by rw [GG_len]; exact k.a.s, k.a.ne⟩
theorem FH_gg (k : At3 H rq rs rg) : FH H rq rs rg q z c next h lost = GG (SH H rq rs q z c next) rg h lost := by
  unfold FH SH QH GG
  rw [RC_comm k.gq, RC_comm k.gs]
theorem FH_lg (k : At3 H rq rs rg) : rg < (SH H rq rs q z c next).length := by rw [SH_len]; exact k.g
theorem FH_app (k : At3 H rq rs rg) (X : Heap) : FH H rq rs rg q z c next h lost ++ X = FH (H ++ X) rq rs rg q z c next h lost := by
  unfold FH
  rw [SH_app k.at, GG, RC_app k.g]; rfl
theorem FH_app2 (k : At3 H rq rs rg) (X : Heap) : SH (GG H rg h lost ++ X) rq rs q z c next = FH (H ++ X) rq rs rg q z c next h lost := by
  unfold FH
  rw [GG, RC_app k.g]; rfl
end
end Go.A.V.S

namespace Go.A.V.S
set_option linter.unusedVariables false
theorem cutQ_bytes {room w : Nat} : ∀ (k : Nat) (q : QM) (F : List (List Nat)) (D : List Nat) (fi used : Nat), q.Ok → (cutQ room w k q F D fi used).F.flatten.length + (cutQ room w k q F D fi used).q.bytes = F.flatten.length + q.bytes
  | 0, q, F, D, fi, used, h => by simp [cutQ]
  | k + 1, q, F, D, fi, used, h => by
    rw [cutQ]
    split
    · rfl
    · rename_i t l hl
      have hf := h.first t l hl
      have htl : tot q.l = t.2.length + tot l := by rw [hl, tot_cons]
      have hqb : q.bytes = tot q.l - q.taken := rfl
      split
      · rfl
      · split
        · rw [cutQ_bytes (room := room) (w := w) k ⟨q.room, l, 0, q.last⟩ (F ++ [t.2.drop q.taken]) (D ++ [t.1]) (if 0 < q.taken then 2 else fi) (used + (t.2.length - q.taken)) (h.behind hl)]
          have h2 : (⟨q.room, l, 0, q.last⟩ : QM).bytes = tot l := by simp [QM.bytes]
          rw [h2]
          simp
          omega
        · rename_i hn
          obtain ⟨x, hx⟩ : ∃ x, ((room : Int) - used - lsize F.length w).toNat = x := ⟨_, rfl⟩
          rw [hx] at hn ⊢
          have h2 : (⟨q.room, q.l, q.taken + x, q.last⟩ : QM).bytes = tot q.l - (q.taken + x) := rfl
          rw [h2]
          simp
          omega
end Go.A.V.S

namespace Go.A.V.S
open Go Go.A
set_option linter.unusedSimpArgs false
set_option linter.unusedVariables false
/-- What one packet more does to the queue, to what is held and to what is told. -/
structure FStep (q q' : QM) (fi : Nat) (h : Option Bs) (fo o : List Bs) (n : Nat) : Prop where
  held : ∀ a, h = some a → 1 ≤ a.2.length
  few : fo.length ≤ 24
  nonE : fo ≠ []
  each : ∀ b ∈ fo, 1 ≤ b.2.length ∧ b.2.length ≤ 1000
  first : ∀ b, fo[0]? = some b → (jn h b).2.length ≤ 1000
  fi3 : fi ≤ 3
  fi2 : 2 ≤ fi ↔ h.isSome = true
  le : n + (gp (decide (fi % 2 = 1)) h fo).1.length ≤ o.length
  eq : ∀ j : Nat, j < (gp (decide (fi % 2 = 1)) h fo).1.length → ((gp (decide (fi % 2 = 1)) h fo).1.map (·.2))[j]? = (o.map (·.2))[n + j]?
  ok : q'.Ok
  rest : q'.l.map (·.2) = (o.map (·.2)).drop (n + (gp (decide (fi % 2 = 1)) h fo).1.length)
  held' : (gp (decide (fi % 2 = 1)) h fo).2.map (·.2) = q'.held
  less : q'.bytes < q.bytes
theorem held_le {q : QM} (hq : q.Ok) {a : List Nat} (h : q.held = some a) : a.length ≤ 1000 := by
  unfold QM.held at h
  split at h
  · simp at h
  · split at h
    · simp at h
    · rename_i t l hl
      have ht := hq.each t (by rw [hl]; simp)
      have : t.2.take q.taken = a := Option.some.inj h
      rw [← this, List.length_take]
      omega
theorem held_some {q : QM} (hl : q.l ≠ []) : q.held.isSome = true ↔ 0 < q.taken := by
  unfold QM.held
  split
  · rename_i h0; simp [h0]
  · rename_i h0
    split
    · rename_i h; exact (hl h).elim
    · simp; omega
theorem uf_step {q : QM} (hq : q.Ok) (hl : q.l ≠ []) (w : Nat) (g : Int) {h : Option Bs} (hh : h.map (·.2) = q.held) {fo : List Bs} (hfo : fo.map (·.2) = (bR q w g).F) {o : List Bs} {n : Nat} (hqo : q.l.map (·.2) = (o.map (·.2)).drop n) (hn : n ≤ o.length) (hF : (bR q w g).F ≠ []) :
    FStep q (bR q w g).q (bR q w g).fi h fo o n := by
  obtain ⟨f1, f2, f3⟩ := cutQ_fits (room := rmOf w g) (w := 11) 24 q [] [] 0 0 hq (by simp) (fun h => (h rfl).elim) (fun f hf => by simp at hf)
  obtain ⟨_, f4⟩ := cutQ_F (room := rmOf w g) (w := 11) (fun _ => True) (fun _ _ _ _ => trivial) 24 q [] [] 0 0 hq (fun _ _ => trivial)
  obtain ⟨X, T, k1, k2, k3, k4, k5, k6⟩ := cutQ_gq (room := rmOf w g) (w := 11) 24 q [] [] 0 0 hq (.inl rfl)
  have k7 := cutQ_bytes (room := rmOf w g) (w := 11) 24 q [] [] 0 0 hq
  have k8 := (cutQ_ok (room := rmOf w g) (w := 11) 24 q [] [] 0 0 hq).1
  have hbR : cutQ (rmOf w g) 11 24 q [] [] 0 0 = bR q w g := rfl
  rw [hbR] at f1 f2 f3 f4 k1 k2 k3 k4 k5 k6 k7 k8
  generalize bR q w g = R at *
  simp only [List.nil_append] at k1
  subst k1
  obtain ⟨g1, g2⟩ := gp_gq (decide (R.fi % 2 = 1)) h fo
  rw [hh, hfo, k3] at g1 g2
  simp only at g1 g2
  have hlen : (gp (decide (R.fi % 2 = 1)) h fo).1.length = T.length := by rw [← g1, List.length_map]
  have hTl : T ++ R.q.l.map (·.2) = (o.map (·.2)).drop n := by rw [← k2, hqo]
  have hTle : n + T.length ≤ o.length := by
    have := congrArg List.length hTl
    simp at this
    omega
  have hmem : ∀ t ∈ T, t.length ≤ 1000 := fun t ht => by
    have : t ∈ q.l.map (·.2) := by rw [k2]; exact List.mem_append_left _ ht
    obtain ⟨x, hx, rfl⟩ := List.mem_map.1 this
    exact (hq.each x hx).2.1
  have hfirst : ∀ f, R.F[0]? = some f → (jq q.held f).length ≤ 1000 := fun f hf => by
    cases hX : R.F with
    | nil => exact (hF hX).elim
    | cons a r =>
      rw [hX] at hf k3
      obtain rfl : a = f := by simpa using hf
      cases r with
      | nil =>
        simp only [gq] at k3
        split at k3
        · have : R.q.held = some (jq q.held a) := (Prod.mk.inj k3).2.symm
          exact held_le k8 this
        · have : [jq q.held a] = T := (Prod.mk.inj k3).1
          exact hmem _ (by rw [← this]; simp)
      | cons b r =>
        simp only [gq] at k3
        have : jq q.held a :: _ = T := (Prod.mk.inj k3).1
        exact hmem _ (by rw [← this]; simp)
  have hfl : 1 ≤ R.F.flatten.length := by
    cases hX : R.F with
    | nil => exact (hF hX).elim
    | cons a r =>
      have := f2 a (by rw [hX]; simp)
      simp
      omega
  refine ⟨fun a ha => ?_, ?_, ?_, fun b hb => ?_, fun b hb => ?_, k4, ?_, by rw [hlen]; exact hTle, fun j hj => ?_, k8, ?_, g2, ?_⟩
  · subst ha
    exact (held_len hq hh.symm).1
  · have := congrArg List.length hfo
    simp at this f4
    omega
  · rintro rfl
    exact hF (by simpa using hfo.symm)
  · exact f2 b.2 (by rw [← hfo]; exact List.mem_map_of_mem hb)
  · rw [jn_jq, hh]
    exact hfirst b.2 (by rw [← hfo, List.getElem?_map, hb]; rfl)
  · rw [k6]
    have hs : h.isSome = q.held.isSome := by rw [← hh]; cases h <;> rfl
    rw [hs, held_some hl]
    constructor
    · rintro (h | h)
      · exact h.2
      · omega
    · exact fun h => .inl ⟨hF, h⟩
  · rw [g1, ← List.getElem?_drop, ← hTl, List.getElem?_append_left (by omega)]
  · rw [hlen, ← List.drop_drop, ← hTl, List.drop_left]
  · have k9 : R.F.flatten.length + R.q.bytes = q.bytes := by simpa using k7
    omega
end Go.A.V.S

namespace Go.A.V.S
open Go Go.A
set_option linter.unusedSimpArgs false
set_option linter.unusedVariables false
section
variable {rq rs : Nat} {z0 zw : Bool} {T : List Bs} {ws : List (List AV)} {w : Nat} {c : Cfg}
def InvF1 (rq rs : Nat) (c : Cfg) (w : Nat) (z0 : Bool) (T : List Bs) (zw : Bool) (ws : List (List AV)) (zz : Nat) (σ : List AV) (G : Heap) : Prop :=
  ∃ (i : Nat) (q : QM) (z : Bool) (H : Heap) (o : List Bs), i + zz = 31 ∧ i ≤ 30 ∧ q.Ok ∧ q.last ≤ i ∧ q.taken = 0 ∧ At H rq rs ∧ o.length ≤ i ∧ q.l.map (·.2) = o.map (·.2) ∧ q.room = 5000 ∧ G = SH H rq rs q z c 0 ∧
    σ = L 197 (((((((Tr.full 8).put (path 0) (ai w)).put (path 1) (lst z0 1 none (bvs T))).put (path 2) (lst zw 1 none ws)).put (path 8) (.ptr rs 0 12)).put (path 10) (lst true 1 (some 87) (bvs o))).put (path 11) (ai i))
def PostF1 (rq rs : Nat) (c : Cfg) (w : Nat) (zw : Bool) (ws : List (List AV)) (e : AExit) (σ : List AV) (G : Heap) : Prop :=
  (∃ (q : QM) (z : Bool) (H : Heap) (o : List Bs), e = .exit 0 ∧ q.Ok ∧ q.taken = 0 ∧ At H rq rs ∧ o.length ≤ 30 ∧ q.l.map (·.2) = o.map (·.2) ∧ q.room = 5000 ∧ G = SH H rq rs q z c 0 ∧
    kill [1, 11, 53, 54, 55, 56, 57, 58, 59, 60] σ = L 197 (((((Tr.full 8).put (path 0) (ai w)).put (path 2) (lst zw 1 none ws)).put (path 8) (.ptr rs 0 12)).put (path 10) (lst true 1 (some 87) (bvs o)))) ∨
  (e = .ret ∧ resultsA F_L16_UmtxFits.res σ = some (ab true))
set_option maxHeartbeats 4000000 in
theorem uf_loop1 (hby : ∀ o ∈ T, Bytes o.2) (zz : Nat) (σ : List AV) (G : Heap) (hI : InvF1 rq rs c w z0 T zw ws zz (kill (headK lp0_L16_UmtxFits) σ) G) :
    Ends (execW P f_L16_UmtxFits (.loop lp0_L16_UmtxFits) σ G) fun s => PostF1 rq rs c w zw ws s.e s.σ s.H := by
  refine loop_ends (fun zz σ G => InvF1 rq rs c w z0 T zw ws zz σ G) (PostF1 rq rs c w zw ws) ?_ zz σ G hI
  clear hI zz σ G
  rintro zz σ G ⟨i, q, z, H, o, hz, hi40, hq, hla, htk, hAt, hol, hqo, hro, rfl, rfl⟩
  have hAl := l16alive
  have hlw : lenW (lst z0 1 none (bvs T)) = some T.length := by rw [lenW_lst, bvs_len]
  by_cases hi : i < T.length
  · have hi' : (i : Int) < T.length := by omega
    by_cases h30 : i < 30
    · have h30' : (i : Int) < 30 := by omega
      obtain ⟨b, hb⟩ : ∃ o, T[i]? = some o := ⟨_, List.getElem?_eq_getElem hi⟩
      have q1 := bvs_at hb z0 none .i64
      have hbb := hby b (List.mem_of_getElem? hb)
      obtain ⟨n, hnl⟩ : ∃ x, T.length = x := ⟨_, rfl⟩
      rw [hnl] at hi hi' hlw
      have hlb := bv_len b
      obtain ⟨bl, hbl⟩ : ∃ x, b.2.length = x := ⟨_, rfl⟩
      rw [hbl] at hlb
      by_cases h11 : 1100 < bl
      · have h11' : (bl : Int) > 1100 := by omega
        have h11'' : (1100 : Int) < bl := by omega
        obtain ⟨G, hG⟩ : ∃ x, SH H rq rs q z c 0 = x := ⟨_, rfl⟩
        rw [hG]
        simp -implicitDefEqProofs [-toCells, -AV.one, -forget, c_L16_UmtxFits, lp0_L16_UmtxFits, hlw, hi, hi', h30, h30', q1, hlb, h11, h11', h11'', hAl]
        exact .inr ⟨rfl, by simp [F_L16_UmtxFits]⟩
      have h11' : ¬ (bl : Int) > 1100 := by omega
      have h11'' : ¬ (1100 : Int) < bl := by omega
      have w1 : IntKind.i64.wrap ((i : Int) + 1) = ((i + 1 : Nat) : Int) := by rw [wrap_i64 (by omega) (by omega)]; omega
      obtain ⟨i1, hi1⟩ : ∃ x, i + 1 = x := ⟨_, rfl⟩
      rw [hi1] at w1
      have hfin : ∀ (q' : QM) (z' : Bool) (o' : List Bs), q'.Ok → q'.last ≤ i1 → q'.taken = 0 → o'.length ≤ i1 → q'.l.map (·.2) = o'.map (·.2) → q'.room = 5000 → ∀ σ', σ' = L 197 (((((((Tr.full 8).put (path 0) (ai w)).put (path 1) (lst z0 1 none (bvs T))).put (path 2) (lst zw 1 none ws)).put (path 8) (.ptr rs 0 12)).put (path 10) (lst true 1 (some 87) (bvs o'))).put (path 11) (ai i1)) → ∃ m, m < zz ∧ InvF1 rq rs c w z0 T zw ws m σ' (SH H rq rs q' z' c 0) := fun q' z' o' a1 a2 a3 a4 a5 a6 σ' hσ' => by
        exact ⟨zz - 1, by omega, i1, q', z', H, o', by omega, by omega, a1, a2, a3, hAt, a4, a5, a6, rfl, hσ'⟩
      obtain ⟨z', hP⟩ := u_Push (z := z) (c := c) (next := 0) hAt hq (by omega) b (by omega)
      by_cases he : (q.push b.2).2.2 = 0
      · have hpy := push_yes he
        rw [hpy] at hP
        have hq1 := QM.push_ok hq hbb
        rw [hpy] at hq1
        simp only at hq1 hP
        have hap := fun σ H => app1 (m := P.md f_L16_UmtxFits) (d := 87) (bytes := 24) (v := bv b) (R_L16_UmtxFits 87) (by omega) (by rw [bvs_len]; omega) (l := bvs o) (some 86) σ H
        rw [← bvs_snoc] at hap
        have hfA := hfin _ z' (o ++ [b]) hq1 (by simp only; omega) htk (by simp; omega) (by simp [hqo]) hro
        generalize SH H rq rs ⟨q.room, q.l ++ [(q.last + 1, b.2)], q.taken, q.last + 1⟩ z' c 0 = G2 at *
        generalize SH H rq rs q z c 0 = G at *
        generalize q.last + 1 = id at *
        clear hq1 hpy hfin
        simp -implicitDefEqProofs [-toCells, -AV.one, -forget, c_L16_UmtxFits, lp0_L16_UmtxFits, hlw, hi, hi', h30, h30', q1, hlb, h11, h11', h11'', hP, hap, w1]
        exact hfA _ (by simp)
      · have hpn := push_no he
        rw [hpn] at hP
        have hf := hfin q z' o hq (by omega) htk (by omega) hqo hro
        obtain ⟨e, hee⟩ : ∃ x, (q.push b.2).2.2 = x := ⟨_, rfl⟩
        rw [hee] at hP he
        have he' : ¬ (e : Int) = 0 := by omega
        generalize (q.push b.2).2.1 = id at *
        generalize SH H rq rs q z' c 0 = G2 at *
        generalize SH H rq rs q z c 0 = G at *
        simp -implicitDefEqProofs [-toCells, -AV.one, -forget, c_L16_UmtxFits, lp0_L16_UmtxFits, hlw, hi, hi', h30, h30', q1, hlb, h11, h11', h11'', hP, he, he', w1]
        exact hf _ (by simp)
    · have h30' : ¬ (i : Int) < 30 := by omega
      obtain ⟨n, hnl⟩ : ∃ x, T.length = x := ⟨_, rfl⟩
      rw [hnl] at hi hi' hlw
      obtain ⟨G, hG⟩ : ∃ x, SH H rq rs q z c 0 = x := ⟨_, rfl⟩
      rw [hG]
      simp -implicitDefEqProofs [-toCells, -AV.one, -forget, c_L16_UmtxFits, lp0_L16_UmtxFits, hlw, hi, hi', h30, h30']
      exact .inl ⟨q, z, H, o, rfl, hq, htk, hAt, by omega, hqo, hro, hG.symm, by simp⟩
  · have hi' : ¬ (i : Int) < T.length := by omega
    obtain ⟨n, hnl⟩ : ∃ x, T.length = x := ⟨_, rfl⟩
    rw [hnl] at hi hi' hlw
    obtain ⟨G, hG⟩ : ∃ x, SH H rq rs q z c 0 = x := ⟨_, rfl⟩
    rw [hG]
    simp -implicitDefEqProofs [-toCells, -AV.one, -forget, c_L16_UmtxFits, lp0_L16_UmtxFits, hlw, hi, hi']
    exact .inl ⟨q, z, H, o, rfl, hq, htk, hAt, by omega, hqo, hro, hG.symm, by simp⟩
end
end Go.A.V.S

namespace Go.A.V.S
open Go Go.A
set_option linter.unusedSimpArgs false
set_option linter.unusedVariables false
section
variable {rs rg w n0 next i0 : Nat} {zw : Bool} {ws : List (List AV)} {o Td : List Bs} {K : Heap}
def InvF3 (rs rg w n0 next i0 : Nat) (zw : Bool) (ws : List (List AV)) (o Td : List Bs) (K : Heap) (zz : Nat) (σ : List AV) (G : Heap) : Prop :=
  ∃ j : Nat, j + zz = Td.length ∧ G = K ∧
    σ = L 197 (((((((((((Tr.full 8).put (path 0) (ai w)).put (path 2) (lst zw 1 none ws)).put (path 8) (.ptr rs 0 12)).put (path 10) (lst true 1 (some 87) (bvs o))).put (path 14) (.ptr rg 0 4)).put (path 15) (ai (n0 + j : Nat))).put (path 16) (ai next)).put (path 17) (ai i0)).put (path 24) (lst true 1 none (bvs Td))).put (path 26) (ai j))
def PostF3 (rs rg w n0 next i0 : Nat) (zw : Bool) (ws : List (List AV)) (o Td : List Bs) (K : Heap) (e : AExit) (σ : List AV) (G : Heap) : Prop :=
  e = .exit 4 ∧ G = K ∧ kill [24, 26, 155, 156, 157, 158] σ = L 197 (((((((((Tr.full 8).put (path 0) (ai w)).put (path 2) (lst zw 1 none ws)).put (path 8) (.ptr rs 0 12)).put (path 10) (lst true 1 (some 87) (bvs o))).put (path 14) (.ptr rg 0 4)).put (path 15) (ai (n0 + Td.length : Nat))).put (path 16) (ai next)).put (path 17) (ai i0))
set_option maxHeartbeats 4000000 in
theorem uf_loop3 (ho : o.length ≤ 30) (hn : n0 + Td.length ≤ o.length) (heq : ∀ j : Nat, j < Td.length → (Td.map (·.2))[j]? = (o.map (·.2))[n0 + j]?) (hby : ∀ b ∈ o, Bytes b.2) (zz : Nat) (σ : List AV) (G : Heap) (hI : InvF3 rs rg w n0 next i0 zw ws o Td K zz (kill (headK lp1_L16_UmtxFits) σ) G) :
    Ends (execW P f_L16_UmtxFits (.loop lp1_L16_UmtxFits) σ G) fun s => PostF3 rs rg w n0 next i0 zw ws o Td K s.e s.σ s.H := by
  refine loop_ends (fun zz σ G => InvF3 rs rg w n0 next i0 zw ws o Td K zz σ G) (PostF3 rs rg w n0 next i0 zw ws o Td K) ?_ zz σ G hI
  clear hI zz σ G
  rintro zz σ G ⟨j, hz, rfl, rfl⟩
  have hlt : lenW (lst true 1 none (bvs Td)) = some Td.length := by rw [lenW_lst, bvs_len]
  have hlo : ∀ f, lenW (lst true 1 f (bvs o)) = some o.length := fun f => by rw [lenW_lst, bvs_len]
  by_cases hj : j < Td.length
  · obtain ⟨x, hx⟩ : ∃ x, Td[j]? = some x := ⟨_, List.getElem?_eq_getElem hj⟩
    obtain ⟨y, hy⟩ : ∃ y, o[n0 + j]? = some y := ⟨_, List.getElem?_eq_getElem (by omega)⟩
    have hxy : x.2 = y.2 := by
      have := heq j hj
      rw [List.getElem?_map, List.getElem?_map, hx, hy] at this
      exact Option.some.inj this
    have qx := bvs_at hx true none .i64
    obtain ⟨n, hnn⟩ : ∃ n, n0 + j = n := ⟨_, rfl⟩
    rw [hnn] at hy ⊢
    have qy := fun f => bvs_at hy true f .i64
    have hyb := hby y (List.mem_of_getElem? hy)
    have hstr : binA .neq .no (.c (.string (strB y.2))) (.c (.string (strB y.2))) = some (ab false) := by
      rw [binA_strNe .no hyb hyb]; simp
    have s1 : ∀ H, strV H (bv x) = some (.c (.string (strB y.2))) := fun H => by rw [← hxy]; exact lst_strP H x.1 none x.2
    have s2 : ∀ H, strV H (bv y) = some (.c (.string (strB y.2))) := fun H => lst_strP H y.1 none y.2
    have w1 : IntKind.i64.wrap ((j : Int) + 1) = ((j + 1 : Nat) : Int) := by rw [wrap_i64 (by omega) (by omega)]; omega
    have w2 : IntKind.i64.wrap ((n : Int) + 1) = ((n + 1 : Nat) : Int) := by rw [wrap_i64 (by omega) (by omega)]; omega
    obtain ⟨j1, hj1⟩ : ∃ x, j + 1 = x := ⟨_, rfl⟩
    rw [hj1] at w1
    obtain ⟨n1, hn1⟩ : ∃ x, n + 1 = x := ⟨_, rfl⟩
    rw [hn1] at w2
    have hfin : ∀ σ', σ' = L 197 (((((((((((Tr.full 8).put (path 0) (ai w)).put (path 2) (lst zw 1 none ws)).put (path 8) (.ptr rs 0 12)).put (path 10) (lst true 1 (some 87) (bvs o))).put (path 14) (.ptr rg 0 4)).put (path 15) (ai n1)).put (path 16) (ai next)).put (path 17) (ai i0)).put (path 24) (lst true 1 none (bvs Td))).put (path 26) (ai j1)) → ∃ m, m < zz ∧ InvF3 rs rg w n0 next i0 zw ws o Td G m σ' G := fun σ' hσ' =>
      ⟨zz - 1, by omega, j1, by omega, rfl, by rw [hσ', show n0 + j1 = n1 by omega]⟩
    have c1 : (j : Int) < Td.length := by omega
    have c2 : ¬ (n : Int) ≥ o.length := by omega
    have c2' : ¬ (o.length : Int) ≤ n := by omega
    generalize strB y.2 = S at *
    obtain ⟨tl, htl⟩ : ∃ x, Td.length = x := ⟨_, rfl⟩
    rw [htl] at hlt c1 hj
    obtain ⟨ol, hol⟩ : ∃ x, o.length = x := ⟨_, rfl⟩
    rw [hol] at hlo c2 c2'
    clear hz hn heq hby ho
    simp -implicitDefEqProofs [-toCells, -AV.one, -forget, c_L16_UmtxFits, keepB, -goodB, goodB_L, sameV, dstNot, dstNe, SOpG.reads, SOp.slots, SX.slots, SOp.noL, rdV_load, selfE_lst, selfE, selfEs, eqV, lp1_L16_UmtxFits, hlt, hlo, hj, c1, c2, c2', qx, qy, hstr, s1, s2, w1, w2]
    exact hfin _ (by simp)
  · have c1 : ¬ (j : Int) < Td.length := by omega
    have hje : j = Td.length := by omega
    have hp : ∀ σ', kill [24, 26, 155, 156, 157, 158] σ' = L 197 (((((((((Tr.full 8).put (path 0) (ai w)).put (path 2) (lst zw 1 none ws)).put (path 8) (.ptr rs 0 12)).put (path 10) (lst true 1 (some 87) (bvs o))).put (path 14) (.ptr rg 0 4)).put (path 15) (ai (n0 + j : Nat))).put (path 16) (ai next)).put (path 17) (ai i0)) → PostF3 rs rg w n0 next i0 zw ws o Td G (.exit 4) σ' G := fun σ' h => ⟨rfl, rfl, by rw [h, hje]⟩
    obtain ⟨n, hnn⟩ : ∃ n, n0 + j = n := ⟨_, rfl⟩
    rw [hnn] at hp ⊢
    obtain ⟨tl, htl⟩ : ∃ x, Td.length = x := ⟨_, rfl⟩
    rw [htl] at hlt c1 hj
    simp -implicitDefEqProofs [-toCells, -AV.one, -forget, c_L16_UmtxFits, lp1_L16_UmtxFits, hlt, hj, c1]
    exact hp _ (by simp)
end
end Go.A.V.S

namespace Go.A.V.S
open Go Go.A
set_option linter.unusedSimpArgs false
set_option linter.unusedVariables false
section
variable {rq rs rg w : Nat} {zw : Bool} {l : List Nat} {o : List Bs} {c : Cfg}
def InvF2 (rq rs rg : Nat) (c : Cfg) (w : Nat) (zw : Bool) (l : List Nat) (o : List Bs) (zz : Nat) (σ : List AV) (G : Heap) : Prop :=
  ∃ (i n : Nat) (q : QM) (z : Bool) (H : Heap) (h : Option Bs) (next : Nat), i + zz = 6001 ∧ i + q.bytes ≤ 5000 ∧ q.Ok ∧ At3 H rq rs rg ∧ n ≤ o.length ∧ q.l.map (·.2) = (o.map (·.2)).drop n ∧ h.map (·.2) = q.held ∧ next < 2 ^ w ∧ G = FH H rq rs rg q z c next h 0 ∧
    σ = L 197 (((((((((Tr.full 8).put (path 0) (ai w)).put (path 2) (lst zw 1 none (wvs l))).put (path 8) (.ptr rs 0 12)).put (path 10) (lst true 1 (some 87) (bvs o))).put (path 14) (.ptr rg 0 4)).put (path 15) (ai n)).put (path 16) (ai next)).put (path 17) (ai i))
def PostF2 (rq rs rg : Nat) (c : Cfg) (o : List Bs) (e : AExit) (σ : List AV) (G : Heap) : Prop :=
  ∃ (q : QM) (z : Bool) (H : Heap) (h : Option Bs) (next : Nat), e = .exit 2 ∧ At3 H rq rs rg ∧ q.bytes = 0 ∧ G = FH H rq rs rg q z c next h 0 ∧
    kill [0, 2, 16, 17, 89, 90, 91, 92, 93, 94, 95] σ = L 197 (((((Tr.full 8).put (path 8) (.ptr rs 0 12)).put (path 10) (lst true 1 (some 87) (bvs o))).put (path 14) (.ptr rg 0 4)).put (path 15) (ai o.length))
theorem FH_at {H : Heap} {q : QM} {z : Bool} {next : Nat} {h : Option Bs} {lost : Nat} (k : At3 H rq rs rg) : callW P f_umtx_Sender_Bytes [.ptr rs 0 12] (FH H rq rs rg q z c next h lost) = some (ai q.bytes, FH H rq rs rg q z c next h lost) := u_Bytes k.at
theorem bytes0 {q : QM} (hq : q.Ok) (h : q.bytes = 0) : q.l = [] := by
  cases hl : q.l with
  | nil => rfl
  | cons t l =>
    have h1 := QM.bytes_ge hq hl
    have h2 := hq.first t l hl
    omega
set_option maxHeartbeats 8000000 in
theorem uf_loop2 (hw : w = 5 ∨ w = 10) (hb : c.bits = w) (ho : o.length ≤ 30) (hby : ∀ b ∈ o, Bytes b.2) (hl0 : 0 < l.length) (hl : ∀ n ∈ l, n < 65536) (zz : Nat) (σ : List AV) (G : Heap) (hI : InvF2 rq rs rg c w zw l o zz (kill (headK lp2_L16_UmtxFits) σ) G) :
    Ends (execW P f_L16_UmtxFits (.loop lp2_L16_UmtxFits) σ G) fun s => PostF2 rq rs rg c o s.e s.σ s.H := by
  refine loop_ends (fun zz σ G => InvF2 rq rs rg c w zw l o zz σ G) (PostF2 rq rs rg c o) ?_ zz σ G hI
  clear hI zz σ G
  rintro zz σ G ⟨i, n, q, z, H, h, next, hz, hib, hq, hAt, hn, hqo, hh, hnx, rfl, rfl⟩
  have hBy := FH_at (q := q) (z := z) (c := c) (next := next) (h := h) (lost := 0) hAt
  by_cases hb0 : q.bytes = 0
  · have hne : n = o.length := by
      rw [bytes0 hq hb0] at hqo
      have := congrArg List.length hqo
      simp at this
      omega
    have hfin : ∀ σ', kill [0, 2, 16, 17, 89, 90, 91, 92, 93, 94, 95] σ' = L 197 (((((Tr.full 8).put (path 8) (.ptr rs 0 12)).put (path 10) (lst true 1 (some 87) (bvs o))).put (path 14) (.ptr rg 0 4)).put (path 15) (ai n)) → PostF2 rq rs rg c o (.exit 2) σ' (FH H rq rs rg q z c next h 0) := fun σ' hσ' => ⟨q, z, H, h, next, rfl, hAt, hb0, rfl, by rw [hσ', hne]⟩
    rw [hb0] at hBy
    replace hBy : callW P f_umtx_Sender_Bytes [.ptr rs 0 12] _ = some (ai 0, _) := hBy
    generalize FH H rq rs rg q z c next h 0 = G at *
    simp -implicitDefEqProofs [-toCells, -AV.one, -forget, c_L16_UmtxFits, lp2_L16_UmtxFits, hBy]
    exact hfin _ (by simp)
  have hql : q.l ≠ [] := fun hl => hb0 (by rw [QM.bytes, hl]; simp [tot])
  have hi6 : i < 6000 := by omega
  -- the grant
  obtain ⟨gl, hgl⟩ : ∃ x, l.length = x := ⟨_, rfl⟩
  obtain ⟨x, hx⟩ : ∃ x, l[i % l.length]? = some x := ⟨_, List.getElem?_eq_getElem (Nat.mod_lt _ hl0)⟩
  have hxl := hl x (List.mem_of_getElem? hx)
  have qg := wvs_at hx zw none .i64
  have hlw : lenW (lst zw 1 none (wvs l)) = some gl := by rw [lenW_lst, wvs_len, hgl]
  rw [hgl] at qg
  have r1 : binA .rem .no (ai i) (ai gl) = some (ai (i % gl : Nat)) := by
    have h2 : ((gl : Nat) : Int) ≠ 0 := by omega
    have h3 : (((i : Nat) : Int).tmod ((gl : Nat) : Int)) = ((i % gl : Nat) : Int) := by
      rw [Int.tmod_eq_emod_of_nonneg (by omega)]; exact (Int.natCast_emod _ _).symm
    have h5 : IntKind.i64.wrap ((i % gl : Nat) : Int) = ((i % gl : Nat) : Int) := wrap_i64 (by omega) (by have := Nat.mod_le i gl; omega)
    rw [binA_rem]
    simp only [intBin, h2, if_false, h3, h5]
  obtain ⟨im, him⟩ : ∃ x, i % gl = x := ⟨_, rfl⟩
  rw [him] at r1 qg
  have w5 : IntKind.i64.wrap (x : Int) = x := wrap_i64 (by omega) (by omega)
  obtain ⟨xr, hxr⟩ : ∃ y, x % 200 = y := ⟨_, rfl⟩
  have r2 : binA .rem .no (ai x) (ai 200) = some (ai xr) := by
    have h3 : (((x : Nat) : Int).tmod (200 : Int)) = (xr : Int) := by
      rw [Int.tmod_eq_emod_of_nonneg (by omega)]; omega
    rw [binA_rem, if_neg (by decide), h3]
  obtain ⟨g, hg⟩ : ∃ g, 3 + xr = g := ⟨_, rfl⟩
  have w6 : IntKind.i64.wrap (3 + (xr : Int)) = (g : Nat) := by rw [wrap_i64 (by omega) (by omega)]; omega
  have hg3 : 3 ≤ g := by omega
  have hg2 : g ≤ 202 := by omega
  -- Build
  obtain ⟨v, q', next', z', k, hBP, hB⟩ := u_Build (z := z) (c := c) (next := next) (q := q) (hAt.at (h := h) (lost := 0)) hq hw hb hnx (g : Int)
  obtain ⟨out, rfl, rfl, rfl, hF, hs, hW, hol⟩ := u_yes hq hql hw hg3 hg2 hnx hBP
  rw [FH_app2 hAt] at hB
  replace hB : callW P f_umtx_Sender_Build [.ptr rs 0 12, ai g] (FH H rq rs rg q z c next h 0) = _ := hB
  obtain ⟨fo, k2, hfo, hRd⟩ := u_read2 hw hs hW (bR_bytes hq w g next) (FH (H ++ List.replicate k .other) rq rs rg (bR q w g).q z' c ((next + 1) % 2 ^ w) h 0)
  replace hfo : fo.map (·.2) = (bR q w g).F := by rw [hfo]; exact bb_F _
  have hA1 := hAt.app (List.replicate k AObj.other)
  have hA2 := hA1.app (List.replicate k2 AObj.other)
  rw [FH_app hA1] at hRd
  have st := uf_step hq hql w g hh hfo hqo hn hF
  replace hRd : callW P f_umd_Read [.vs 1 none (byteCs out), ai w] _ = some (.tup [.agg [ai (bR q w g).fi, ai next, lst true 1 none (bvs fo)], ai 0], _) := hRd
  obtain ⟨fi, hfi⟩ : ∃ x, (bR q w g).fi = x := ⟨_, rfl⟩
  rw [hfi] at hRd st
  have hP := g_Put (H := SH (H ++ List.replicate k .other ++ List.replicate k2 .other) rq rs (bR q w g).q z' c ((next + 1) % 2 ^ w)) (r := rg) (lost := 0) (FH_lg hA2) h st.held st.few st.nonE st.each st.first true st.fi3 st.fi2
  rw [← FH_gg hA2, ← FH_gg hA2] at hP
  have hst1 := st.le
  have hst2 := st.eq
  have hst3 := st.ok
  have hst4 := st.rest
  have hst5 := st.held'
  have hst6 := st.less
  clear st hBP hW hs hfo hfi hql hF
  obtain ⟨Td, hTd⟩ : ∃ x, (gp (decide (fi % 2 = 1)) h fo).1 = x := ⟨_, rfl⟩
  obtain ⟨h', hh'⟩ : ∃ x, (gp (decide (fi % 2 = 1)) h fo).2 = x := ⟨_, rfl⟩
  rw [hTd] at hst1 hst2 hst4 hP
  rw [hh'] at hst5 hP
  clear hTd hh'
  generalize (bR q w g).q = q2 at *
  have hlt2 : (next + 1) % 2 ^ w < 2 ^ w := Nat.mod_lt _ (Nat.pos_of_ne_zero (by rcases hw with rfl | rfl <;> decide))
  have hsh : binA .shl .no (ai 1) (ai w) = some (ai ((2 ^ w : Nat))) := by rcases hw with rfl | rfl <;> rfl
  have hw1 : IntKind.i64.wrap ((next : Int) + 1) = ((next + 1 : Nat) : Int) := by
    have : 2 ^ w ≤ 1024 := by rcases hw with rfl | rfl <;> decide
    rw [wrap_i64 (by omega) (by omega)]; omega
  have hrm : binA .rem .no (ai (next + 1 : Nat)) (ai (2 ^ w : Nat)) = some (ai ((next + 1) % 2 ^ w : Nat)) := by
    have h2 : ((2 ^ w : Nat) : Int) ≠ 0 := by rcases hw with rfl | rfl <;> decide
    have h3 : (((next + 1 : Nat) : Int).tmod ((2 ^ w : Nat) : Int)) = (((next + 1) % 2 ^ w : Nat) : Int) := by
      rw [Int.tmod_eq_emod_of_nonneg (by omega)]; exact (Int.natCast_emod _ _).symm
    have h4 : 2 ^ w ≤ 1024 := by rcases hw with rfl | rfl <;> decide
    have h5 : IntKind.i64.wrap (((next + 1) % 2 ^ w : Nat) : Int) = (((next + 1) % 2 ^ w : Nat) : Int) := wrap_i64 (by omega) (by omega)
    rw [binA_rem]
    simp only [intBin, h2, if_false, h3, h5]
  obtain ⟨nx, hnx2⟩ : ∃ x, (next + 1) % 2 ^ w = x := ⟨_, rfl⟩
  rw [hnx2] at hrm hRd hB hP hlt2
  obtain ⟨n1, hn1⟩ : ∃ x, next + 1 = x := ⟨_, rfl⟩
  rw [hn1] at hw1 hrm
  obtain ⟨pw, hpw⟩ : ∃ x, 2 ^ w = x := ⟨_, rfl⟩
  rw [hpw] at hsh hrm
  have w7 : IntKind.i64.wrap ((i : Int) + 1) = ((i + 1 : Nat) : Int) := by rw [wrap_i64 (by omega) (by omega)]; omega
  have hfin : ∀ σ', σ' = L 197 (((((((((Tr.full 8).put (path 0) (ai w)).put (path 2) (lst zw 1 none (wvs l))).put (path 8) (.ptr rs 0 12)).put (path 10) (lst true 1 (some 87) (bvs o))).put (path 14) (.ptr rg 0 4)).put (path 15) (ai (n + Td.length : Nat))).put (path 16) (ai nx)).put (path 17) (ai (i + 1 : Nat))) → ∃ m, m < zz ∧ InvF2 rq rs rg c w zw l o m σ' (FH (H ++ List.replicate k .other ++ List.replicate k2 .other) rq rs rg q2 z' c nx h' 0) := fun σ' hσ' =>
    ⟨zz - 1, by omega, i + 1, n + Td.length, q2, z', _, h', nx, by omega, by omega, hst3, hA2, hst1, hst4, hst5, hlt2, rfl, hσ'⟩
  obtain ⟨i1, hi1⟩ : ∃ x, i + 1 = x := ⟨_, rfl⟩
  rw [hi1] at w7 hfin
  have hlb := bv_len (false, out)
  replace hlb : lenW (.vs 1 none (byteCs out)) = some out.length := hlb
  obtain ⟨G3, hG3⟩ : ∃ x, FH (H ++ List.replicate k .other ++ List.replicate k2 .other) rq rs rg q2 z' c nx h' 0 = x := ⟨_, rfl⟩
  rw [hG3] at hP hfin
  have hL := fun σ => uf_loop3 (rs := rs) (rg := rg) (w := w) (n0 := n) (next := nx) (i0 := i) (zw := zw) (ws := wvs l) (o := o) (Td := Td) (K := G3) ho hst1 hst2 hby Td.length σ G3
  have hI3 : ∀ σ, σ = L 197 (((((((((((Tr.full 8).put (path 0) (ai w)).put (path 2) (lst zw 1 none (wvs l))).put (path 8) (.ptr rs 0 12)).put (path 10) (lst true 1 (some 87) (bvs o))).put (path 14) (.ptr rg 0 4)).put (path 15) (ai n)).put (path 16) (ai nx)).put (path 17) (ai i)).put (path 24) (lst true 1 none (bvs Td))).put (path 26) (ai 0)) → InvF3 rs rg w n nx i zw (wvs l) o Td G3 Td.length σ G3 := fun σ hσ => ⟨0, by omega, rfl, hσ⟩
  have hPost : ∀ e σ G, PostF3 rs rg w n nx i zw (wvs l) o Td G3 e σ G → e = .exit 4 ∧ G = G3 ∧ kill [24, 26, 155, 156, 157, 158] σ = L 197 (((((((((Tr.full 8).put (path 0) (ai w)).put (path 2) (lst zw 1 none (wvs l))).put (path 8) (.ptr rs 0 12)).put (path 10) (lst true 1 (some 87) (bvs o))).put (path 14) (.ptr rg 0 4)).put (path 15) (ai (n + Td.length : Nat))).put (path 16) (ai nx)).put (path 17) (ai i)) := fun e σ G h => h
  have c1 : (q.bytes : Int) > 0 := by omega
  have c1' : (0 : Int) < q.bytes := by omega
  have c2 : (i : Int) < 6000 := by omega
  have c4 : 0 < q.bytes := by omega
  have c5 : ¬ g < out.length := by omega
  have c3 : ¬ (out.length : Int) > g := by omega
  have c3' : ¬ (g : Int) < out.length := by omega
  obtain ⟨nT, hnT⟩ : ∃ x, n + Td.length = x := ⟨_, rfl⟩
  rw [hnT] at hPost hfin
  generalize q.bytes = qb at *
  obtain ⟨ol, hol2⟩ : ∃ x, out.length = x := ⟨_, rfl⟩
  rw [hol2] at hlb c3 c3' c5
  clear hst1 hst2 hst3 hst4 hst5 hst6 hqo hh hz hib
  generalize FH (H ++ List.replicate k .other ++ List.replicate k2 .other) rq rs rg q2 z' c nx h 0 = G2 at *
  generalize FH (H ++ List.replicate k .other) rq rs rg q2 z' c nx h 0 = G1 at *
  generalize FH H rq rs rg q z c next h 0 = G at *
  generalize uls (bR q w g).D = D1 at *
  generalize byteCs out = ob at *
  simp -implicitDefEqProofs [-toCells, -AV.one, -forget, c_L16_UmtxFits, -binA_shl, -binA_rem, lp2_L16_UmtxFits, hBy, hlw, qg, r1, r2, w5, w6, hB, hRd, hlb, hsh, hrm, hw1, hP, c1, c1', c2, hi6, c3, c3', c4, c5]
  repeat rw [Option.bind_assoc]
  refine Ends.block (P := PostF3 rs rg w n nx i zw (wvs l) o Td G3) (hL _ (hI3 _ (by simp [lp1_L16_UmtxFits]))) ?_
  intro e σ1 G4 hp
  obtain ⟨rfl, rfl, k2⟩ := hPost e σ1 G4 hp
  simp -implicitDefEqProofs [-toCells, -AV.one, -forget, c_L16_UmtxFits, k2, w7]
  exact hfin _ (by simp)
end
end Go.A.V.S

namespace Go.A.V.S
open Go Go.A Go.A.V
set_option linter.unusedSimpArgs false
set_option linter.unusedVariables false
theorem pdu_Usual1 (H : Heap) : callW P f_pdu_Usual [ai 1] H = some (.agg [ai 1, ai 5, ai 16, ai 4, ai 0, ai 0, ai 0, ai 0, ai 0, ai 5000], H) := by
  rw [call_L 5 rfl (rfl : P.T f_pdu_Usual = some F_pdu_Usual) (le_ok rfl)]; simp -implicitDefEqProofs [-toCells, -AV.one, -forget, F_pdu_Usual, c_pdu_Usual]
theorem ufNew (w : Nat) (hw : w = 5 ∨ w = 10) (H : Heap) : callW P f_umtx_New [.agg [ai 1, ai w, ai 16, ai 4, ai 0, ai 0, ai 0, ai 0, ai 0, ai 5000]] H = some (.tup [.ptr (H.length + 1) 0 12, ai 0], SH (H ++ [.other, .other]) H.length (H.length + 1) ⟨5000, [], 0, 0⟩ true ⟨1, w, 16, 4, 0, 0, 0, 0, 0, 5000⟩ 0) := by
  have h := u_New ⟨1, w, 16, 4, 0, 0, 0, 0, 0, 5000⟩ H
  rw [if_pos ⟨by rcases hw with rfl | rfl <;> rfl, rfl⟩] at h
  exact h
theorem uf_mid {rq rs w : Nat} {zw : Bool} {l : List Nat} {z : Bool} {c : Cfg} {q : QM} {H : Heap} {o : List Bs} (hw : w = 5 ∨ w = 10) (hq : q.Ok) (htk : q.taken = 0) (hAt : At H rq rs) (hqo : q.l.map (·.2) = o.map (·.2)) (hro : q.room = 5000) :
    callW P f_glue_New [] (SH H rq rs q z c 0) = some (.ptr H.length 0 4, FH (H ++ [.other]) rq rs H.length q z c 0 none 0) ∧ (∀ b ∈ o, Bytes b.2) ∧
    ∀ σ, σ = L 197 (((((((((Tr.full 8).put (path 0) (ai w)).put (path 2) (lst zw 1 none (wvs l))).put (path 8) (.ptr rs 0 12)).put (path 10) (lst true 1 (some 87) (bvs o))).put (path 14) (.ptr H.length 0 4)).put (path 15) (ai 0)).put (path 16) (ai 0)).put (path 17) (ai 0)) → InvF2 rq rs H.length c w zw l o 6001 σ (FH (H ++ [.other]) rq rs H.length q z c 0 none 0) := by
  have hA3 : At3 (H ++ [.other]) rq rs H.length := ⟨hAt.app _, by simp, by have := hAt.q; omega, by have := hAt.s; omega⟩
  refine ⟨?_, fun b hb => ?_, fun σ hσ => ⟨0, 0, q, z, _, none, 0, rfl, ?_, hq, hA3, by omega, by simpa using hqo, (held0 q htk).symm, Nat.pos_of_ne_zero (by rcases hw with rfl | rfl <;> decide), rfl, hσ⟩⟩
  · rw [g_New, SH_len, SH_app hAt, FH_gg hA3]
  · have : b.2 ∈ q.l.map (·.2) := by rw [hqo]; exact List.mem_map_of_mem hb
    obtain ⟨t, ht, he⟩ := List.mem_map.1 this
    rw [← he]
    exact (hq.each t ht).2.2.1
  · have := hq.fits
    omega
theorem uf_end {rq rs rg : Nat} {c : Cfg} {q : QM} {z : Bool} {H : Heap} {h : Option Bs} {next : Nat} (k : At3 H rq rs rg) (hb : q.bytes = 0) :
    callW P f_umtx_Sender_Bytes [.ptr rs 0 12] (FH H rq rs rg q z c next h 0) = some (ai 0, FH H rq rs rg q z c next h 0) ∧ callW P f_glue_Glue_Lost [.ptr rg 0 4] (FH H rq rs rg q z c next h 0) = some (ai 0, FH H rq rs rg q z c next h 0) := by
  refine ⟨?_, ?_⟩
  · have := FH_at (q := q) (z := z) (c := c) (next := next) (h := h) (lost := 0) k
    rw [hb] at this
    exact this
  · rw [FH_gg k]
    exact g_Lost (lost := 0) (FH_lg k) h
set_option maxHeartbeats 8000000 in
theorem lUmtxFits (bits : Int) (z0 : Bool) (T : List Bs) (hby : ∀ o ∈ T, Bytes o.2) (zw : Bool) (l : List Nat) (hl : ∀ n ∈ l, n < 65536) (H : Heap) : ∃ H', callW P f_L16_UmtxFits [ai bits, lst z0 1 none (bvs T), lst zw 1 none (wvs l)] H = some (ab true, H') := by
  suffices hs : Ends (callW P f_L16_UmtxFits [ai bits, lst z0 1 none (bvs T), lst zw 1 none (wvs l)] H) fun y => y.1 = ab true by
    obtain ⟨⟨v, H'⟩, h2, rfl⟩ := hs
    exact ⟨H', h2⟩
  have hAl := l16alive
  have hU := pdu_Usual1
  refine call_post 8 197 rfl (rfl : P.T f_L16_UmtxFits = some F_L16_UmtxFits) rfl (le_ok rfl) (fun e σ G => e = .ret ∧ resultsA F_L16_UmtxFits.res σ = some (ab true)) ?_ ?_
  · rintro e σ G ⟨rfl, h⟩
    exact ⟨rfl, _, h, by simp, by simp⟩
  by_cases hb : bits ≠ 5 ∧ bits ≠ 10
  · obtain ⟨h5, h10⟩ := hb
    rw [F_L16_UmtxFits]; simp -implicitDefEqProofs [-toCells, -AV.one, -forget, c_L16_UmtxFits, hU, h5, h10, hAl]
    try simp [F_L16_UmtxFits]
  obtain ⟨w, hw, rfl⟩ : ∃ w : Nat, (w = 5 ∨ w = 10) ∧ bits = w := by
    by_cases h5 : bits = 5
    · exact ⟨5, .inl rfl, h5⟩
    · exact ⟨10, .inr rfl, by omega⟩
  clear hb
  have hlw : lenW (lst zw 1 none (wvs l)) = some l.length := by rw [lenW_lst, wvs_len]
  have hb : (((w : Int) = 5) = True ∧ (w = 5) = True) ∨ (((w : Int) = 5) = False ∧ (w = 5) = False ∧ ((w : Int) = 10) = True ∧ (w = 10) = True) := by rcases hw with rfl | rfl <;> simp
  by_cases hl0 : 0 < l.length
  case neg =>
    have h0 : l.length = 0 := by omega
    rw [h0] at hlw
    replace hlw : lenW (lst zw 1 none (wvs l)) = some 0 := hlw
    rcases hb with ⟨a, b⟩ | ⟨a, b, c, d⟩
    · rw [F_L16_UmtxFits]; simp -implicitDefEqProofs [-toCells, -AV.one, -forget, c_L16_UmtxFits, hU, a, b, hAl, hlw]
      try simp [F_L16_UmtxFits]
    · rw [F_L16_UmtxFits]; simp -implicitDefEqProofs [-toCells, -AV.one, -forget, c_L16_UmtxFits, hU, a, b, c, d, hAl, hlw]
      try simp [F_L16_UmtxFits]
  have hN := ufNew w hw H
  obtain ⟨c, hc⟩ : ∃ x, (⟨1, w, 16, 4, 0, 0, 0, 0, 0, 5000⟩ : Cfg) = x := ⟨_, rfl⟩
  have hcb : c.bits = w := by rw [← hc]
  rw [hc] at hN
  have hq : (⟨5000, [], 0, 0⟩ : QM).Ok := ⟨by simp only; omega, by simp, by simp, fun _ => rfl, by simp, by simp [QM.bytes, tot], by simp [QM.ids]⟩
  have hAt : At (H ++ [.other, .other]) H.length (H.length + 1) := ⟨by simp, by simp, by omega⟩
  have hI : ∀ σ, σ = L 197 (((((((Tr.full 8).put (path 0) (ai w)).put (path 1) (lst z0 1 none (bvs T))).put (path 2) (lst zw 1 none (wvs l))).put (path 8) (.ptr (H.length + 1) 0 12)).put (path 10) (nilS)).put (path 11) (ai 0)) → InvF1 H.length (H.length + 1) c w z0 T zw (wvs l) 31 σ (SH (H ++ [.other, .other]) H.length (H.length + 1) ⟨5000, [], 0, 0⟩ true c 0) := fun σ hσ =>
    ⟨0, _, true, _, [], rfl, by omega, hq, by simp, rfl, hAt, by simp, rfl, rfl, rfl, hσ⟩
  have hL := fun σ G => uf_loop1 (rq := H.length) (rs := H.length + 1) (z0 := z0) (T := T) (zw := zw) (ws := wvs l) (w := w) (c := c) hby 31 σ G
  have hL2 := fun rg o ho hb σ G => uf_loop2 (rq := H.length) (rs := H.length + 1) (rg := rg) (w := w) (c := c) (zw := zw) (l := l) (o := o) hw hcb ho hb hl0 hl 6001 σ G
  obtain ⟨G, hG⟩ : ∃ x, SH (H ++ [.other, .other]) H.length (H.length + 1) ⟨5000, [], 0, 0⟩ true c 0 = x := ⟨_, rfl⟩
  rw [hG] at hN hI
  clear hAt hq hG hc
  obtain ⟨gl, hgl⟩ : ∃ x, l.length = x := ⟨_, rfl⟩
  rw [hgl] at hlw hl0
  have c0 : ¬ (gl : Int) = 0 := by omega
  have c0' : ¬ gl = 0 := by omega
  generalize H.length + 1 = rs at *
  generalize H.length = rq at *
  rcases hb with ⟨a, b⟩ | ⟨a, b, d, e⟩
  · rw [F_L16_UmtxFits]; simp -implicitDefEqProofs [-toCells, -AV.one, -forget, c_L16_UmtxFits, hU, hN, hlw, c0, c0', a, b]
    repeat rw [Option.bind_assoc]
    refine Ends.block (P := PostF1 rq rs c w zw (wvs l)) (hL _ _ (hI _ (by simp [lp0_L16_UmtxFits]))) ?_
    rintro e σ1 G1 (⟨q, z, H1, o, rfl, hq, htk, hAt, hol, hqo, hro, rfl, k2⟩ | ⟨rfl, k2⟩)
    · have hQ := uf_mid (w := w) (zw := zw) (l := l) (z := z) (c := c) hw hq htk hAt hqo hro
      obtain ⟨hG, hby2, hI2⟩ := hQ
      have hL3 := hL2 H1.length o hol hby2
      have hFin := fun q z H h next k => uf_end (rq := rq) (rs := rs) (rg := H1.length) (c := c) (q := q) (z := z) (H := H) (h := h) (next := next) k
      have hlo : ∀ f, lenW (lst true 1 f (bvs o)) = some o.length := fun f => by rw [lenW_lst, bvs_len]
      generalize FH (H1 ++ [.other]) rq rs H1.length q z c 0 none 0 = G2 at *
      generalize SH H1 rq rs q z c 0 = G1 at *
      generalize H1.length = rg at *
      simp -implicitDefEqProofs [-toCells, -AV.one, -forget, c_L16_UmtxFits, k2, hG]
      repeat rw [Option.bind_assoc]
      refine Ends.block (P := PostF2 rq rs rg c o) (hL3 _ _ (hI2 _ (by simp [lp2_L16_UmtxFits]))) ?_
      rintro e σ2 G3 ⟨q3, z3, H3, h3, n3, rfl, hAt3, hb0, rfl, k3⟩
      obtain ⟨f1, f2⟩ := hFin q3 z3 H3 h3 n3 hAt3 hb0
      generalize FH H3 rq rs rg q3 z3 c n3 h3 0 = G4 at *
      generalize o.length = ol at *
      simp -implicitDefEqProofs [-toCells, -AV.one, -forget, c_L16_UmtxFits, k3, hAl, hlo, f1, f2]
      try simp [F_L16_UmtxFits]
    · simp -implicitDefEqProofs [-toCells, -AV.one, -forget, c_L16_UmtxFits]
      simpa [F_L16_UmtxFits] using k2
  · rw [F_L16_UmtxFits]; simp -implicitDefEqProofs [-toCells, -AV.one, -forget, c_L16_UmtxFits, hU, hN, hlw, c0, c0', a, b, d, e]
    repeat rw [Option.bind_assoc]
    refine Ends.block (P := PostF1 rq rs c w zw (wvs l)) (hL _ _ (hI _ (by simp [lp0_L16_UmtxFits]))) ?_
    rintro e σ1 G1 (⟨q, z, H1, o, rfl, hq, htk, hAt, hol, hqo, hro, rfl, k2⟩ | ⟨rfl, k2⟩)
    · have hQ := uf_mid (w := w) (zw := zw) (l := l) (z := z) (c := c) hw hq htk hAt hqo hro
      obtain ⟨hG, hby2, hI2⟩ := hQ
      have hL3 := hL2 H1.length o hol hby2
      have hFin := fun q z H h next k => uf_end (rq := rq) (rs := rs) (rg := H1.length) (c := c) (q := q) (z := z) (H := H) (h := h) (next := next) k
      have hlo : ∀ f, lenW (lst true 1 f (bvs o)) = some o.length := fun f => by rw [lenW_lst, bvs_len]
      generalize FH (H1 ++ [.other]) rq rs H1.length q z c 0 none 0 = G2 at *
      generalize SH H1 rq rs q z c 0 = G1 at *
      generalize H1.length = rg at *
      simp -implicitDefEqProofs [-toCells, -AV.one, -forget, c_L16_UmtxFits, k2, hG]
      repeat rw [Option.bind_assoc]
      refine Ends.block (P := PostF2 rq rs rg c o) (hL3 _ _ (hI2 _ (by simp [lp2_L16_UmtxFits]))) ?_
      rintro e σ2 G3 ⟨q3, z3, H3, h3, n3, rfl, hAt3, hb0, rfl, k3⟩
      obtain ⟨f1, f2⟩ := hFin q3 z3 H3 h3 n3 hAt3 hb0
      generalize FH H3 rq rs rg q3 z3 c n3 h3 0 = G4 at *
      generalize o.length = ol at *
      simp -implicitDefEqProofs [-toCells, -AV.one, -forget, c_L16_UmtxFits, k3, hAl, hlo, f1, f2]
      try simp [F_L16_UmtxFits]
    · simp -implicitDefEqProofs [-toCells, -AV.one, -forget, c_L16_UmtxFits]
      simpa [F_L16_UmtxFits] using k2
theorem umtxFits_all (a0 : Int) (h0 : (Lit.int .i64 a0).wf = true) (c1 : AV) (h1 : V.CT.is (.sl [.sl [.i .u8]]) c1) (c2 : AV) (h2 : V.CT.is (.sl [.i .u16]) c2) : ∃ H', callW P f_L16_UmtxFits [ai a0, c1, c2] [] = some (ab true, H') := by
  obtain ⟨z, T, rfl, hT⟩ := is_fields h1
  obtain ⟨zw, l, rfl, hl⟩ := is_words h2
  exact lUmtxFits a0 z T hT zw l hl []
end Go.A.V.S
