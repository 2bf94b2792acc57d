/- Rows of the heap that are told by their cells. -/
import Derived.Test.YtnmobjhmohcjfaaXA
import Derived.Test.YtnmobjhmohcjfaaAX
import Derived.Test.YtnmobjhmohcjfaaV14
set_option linter.unusedSimpArgs false
set_option linter.unusedVariables false
set_option linter.unnecessarySimpa false
namespace Go.A.V.S
open Go Go.A
set_option linter.unusedSimpArgs false
set_option linter.unusedVariables false
/-- Row r holds these cells. -/
def RC (H : Heap) (r : Nat) (cs : List AV) : Heap := H.set r (.row cs)
section
variable {H : Heap} {r : Nat}
theorem RC_get (hlt : r < H.length) (cs : List AV) : (RC H r cs)[r]? = some (.row cs) := by simp [RC, hlt]
theorem RC_len (H : Heap) (r : Nat) (cs : List AV) : (RC H r cs).length = H.length := by simp [RC]
theorem RC_take (H : Heap) (r : Nat) (cs : List AV) : (RC H r cs).take H.length = RC H r cs := List.take_of_length_le (by rw [RC_len]; exact Nat.le_refl _)
theorem RC_rd (hlt : r < H.length) (cs : List AV) (i k n : Nat) : rdRow (RC H r cs) r i k n = if i + k ≤ n ∧ n ≤ cs.length then some ((cs.drop i).take k) else none := by
  simp [rdRow, RC_get hlt, AObj.isRow, AObj.lo, AObj.cells]
theorem RC_st (hlt : r < H.length) (cs : List AV) (i n : Nat) (v : AV) (σ : List AV) : storeA σ (RC H r cs) none (.ptr r i n) v = if okCell v = true ∧ i < n ∧ n = cs.length then some (σ, RC H r (cs.set i v)) else none := by
  simp only [storeA, wrRow, RC_get hlt]
  by_cases h : okCell v = true ∧ i < n ∧ n = cs.length
  · obtain ⟨h1, h2, h3⟩ := h
    have h1' : [v].all okCell = true := by simpa using h1
    rw [if_pos ⟨h3, by simp only [List.length_cons, List.length_nil]; omega, h1'⟩, if_pos ⟨h1, h2, h3⟩]
    have e : cs.take i ++ [v] ++ cs.drop (i + [v].length) = cs.set i v := by
      rw [List.set_eq_take_append_cons_drop, if_pos (by omega)]
      simp
    simp only [Option.map_some, e, RC, List.set_set]
  · rw [if_neg (fun ⟨a, b, c⟩ => h ⟨by simpa using c, by simp only [List.length_cons, List.length_nil] at b; omega, a⟩), if_neg h]
    rfl
theorem RC_comm {s : Nat} (h : r ≠ s) (a b : List AV) : RC (RC H r a) s b = RC (RC H s b) r a := by
  simp only [RC]; exact List.set_comm _ _ h
theorem RC_app (hlt : r < H.length) (cs : List AV) (X : Heap) : RC H r cs ++ X = RC (H ++ X) r cs := by
  simp only [RC]; rw [List.set_append_left _ _ hlt]
end
attribute [simp] RC_len RC_take
end Go.A.V.S

namespace Go.A.V.S
set_option linter.unusedVariables false

/-- A queue: its room, the texts that wait with their numbers, how much of the first is gone, the last number. -/
structure QM where
  room : Nat
  l : List (Nat × List Nat)
  taken : Nat
  last : Nat

/-- How many bytes texts have. -/
def tot (l : List (Nat × List Nat)) : Nat := (l.map fun t => t.2.length).sum
theorem tot_cons (t : Nat × List Nat) (l : List (Nat × List Nat)) : tot (t :: l) = t.2.length + tot l := by simp [tot]
theorem tot_app (a b : List (Nat × List Nat)) : tot (a ++ b) = tot a + tot b := by simp [tot]
def QM.bytes (q : QM) : Nat := tot q.l - q.taken
def QM.ids (q : QM) : List Nat := q.l.map (·.1)

/-- What holds of a queue. -/
structure QM.Ok (q : QM) : Prop where
  room : 1 ≤ q.room ∧ q.room ≤ 20000
  len : q.l.length ≤ 64
  each : ∀ t ∈ q.l, 1 ≤ t.2.length ∧ t.2.length ≤ 1000 ∧ Go.A.Bytes t.2 ∧ 1 ≤ t.1 ∧ t.1 ≤ q.last
  top : q.l = [] → q.taken = 0
  first : ∀ t r, q.l = t :: r → q.taken < t.2.length
  fits : q.bytes ≤ q.room
  inc : q.ids.Pairwise (· < ·)

theorem QM.Ok.tot_le {q : QM} (h : q.Ok) : tot q.l ≤ 64000 := by
  have h1 : ∀ l : List (Nat × List Nat), (∀ t ∈ l, t.2.length ≤ 1000) → tot l ≤ 1000 * l.length := by
    intro l
    induction l with
    | nil => intro _; simp [tot]
    | cons t r ih =>
      intro hl
      rw [tot_cons, List.length_cons]
      have := hl t (by simp)
      have := ih (fun x hx => hl x (by simp [hx]))
      omega
  have := h1 q.l (fun t ht => (h.each t ht).2.1)
  have := h.len
  omega
theorem QM.Ok.taken_le {q : QM} (h : q.Ok) : q.taken ≤ tot q.l := by
  cases hl : q.l with
  | nil => rw [h.top hl]; simp
  | cons t r => have := h.first t r hl; rw [tot_cons]; omega

/-! ### What is done -/
def QM.push (q : QM) (b : List Nat) : QM × Nat × Nat :=
  if b.length = 0 then (q, 0, 1) else if 1000 < b.length then (q, 0, 2) else if 64 ≤ q.l.length ∨ q.room < q.bytes + b.length then (q, 0, 5)
  else (⟨q.room, q.l ++ [(q.last + 1, b)], q.taken, q.last + 1⟩, q.last + 1, 0)
def QM.take (q : QM) (n : Int) : QM × List Nat × Bool × Nat := match q.l with
  | [] => (q, [], false, 4)
  | t :: r => if n < 1 ∨ ((t.2.length - q.taken : Nat) : Int) < n then (q, [], false, 1)
    else if n < ((t.2.length - q.taken : Nat) : Int) then (⟨q.room, q.l, q.taken + n.toNat, q.last⟩, (t.2.drop q.taken).take n.toNat, false, 0)
    else (⟨q.room, r, 0, q.last⟩, t.2.drop q.taken, true, 0)
theorem QM.push_ok {q : QM} (h : q.Ok) {b : List Nat} (hb : Go.A.Bytes b) : (q.push b).1.Ok := by
  unfold QM.push
  split
  · exact h
  · split
    · exact h
    · split
      · exact h
      · rename_i h1 h2 h3
        have ht := h.taken_le
        have hby : q.bytes = tot q.l - q.taken := rfl
        have ht1 : tot [(q.last + 1, b)] = b.length := by simp [tot]
        refine ⟨h.room, by simp; have := h.len; omega, fun t ht => ?_, fun e => by simp at e, fun t r e => ?_, ?_, ?_⟩
        · rcases List.mem_append.1 ht with ht | ht
          · obtain ⟨a, b', c, d, e⟩ := h.each t ht
            exact ⟨a, b', c, d, by simp only; omega⟩
          · simp at ht; subst ht
            exact ⟨by simp only; omega, by simp only; omega, hb, by simp only; omega, by simp only; omega⟩
        · simp only
          cases hl : q.l with
          | nil =>
            rw [hl] at e
            simp at e
            obtain ⟨rfl, _⟩ := e
            rw [h.top hl]; simp only; omega
          | cons t' r' =>
            rw [hl] at e
            simp at e
            obtain ⟨rfl, _⟩ := e
            exact h.first _ _ hl
        · show tot (q.l ++ [(q.last + 1, b)]) - q.taken ≤ q.room
          rw [tot_app, ht1]
          omega
        · show ((q.l ++ [(q.last + 1, b)]).map (·.1)).Pairwise (· < ·)
          rw [List.map_append, List.pairwise_append]
          refine ⟨h.inc, by simp, fun x hx y hy => ?_⟩
          obtain ⟨t, ht, rfl⟩ := List.mem_map.1 hx
          have := (h.each t ht).2.2.2.2
          simp at hy; omega
theorem QM.take_ok {q : QM} (h : q.Ok) (n : Int) : (q.take n).1.Ok := by
  unfold QM.take
  split
  · exact h
  · rename_i t r hl
    split
    · exact h
    · split
      · rename_i h1 h2
        have hf := h.first t r hl
        refine ⟨h.room, h.len, h.each, fun e => by simp only at e; rw [e] at hl; simp at hl, fun t' r' e => ?_, ?_, h.inc⟩
        · simp only at e ⊢
          rw [hl] at e
          simp at e
          obtain ⟨rfl, _⟩ := e
          omega
        · have hfit := h.fits
          have e : q.bytes = tot q.l - q.taken := rfl
          show tot q.l - (q.taken + n.toNat) ≤ q.room
          omega
      · have hln := h.len
        have hfit := h.fits
        have e : q.bytes = tot q.l - q.taken := rfl
        have hf := h.first t r hl
        have hinc := h.inc
        rw [hl, tot_cons] at e
        rw [hl, List.length_cons] at hln
        refine ⟨h.room, by simp only; omega, fun t' ht => h.each t' (by rw [hl]; simp [ht]), fun _ => rfl, fun t' r' e2 => ?_, ?_, ?_⟩
        · simp only at e2 ⊢
          have := (h.each t' (by rw [hl, e2]; simp)).1
          omega
        · show tot r - 0 ≤ q.room
          omega
        · rw [QM.ids, hl, List.map_cons, List.pairwise_cons] at hinc
          exact hinc.2
end Go.A.V.S

namespace Go.A.V.S
open Go Go.A
set_option linter.unusedSimpArgs false
set_option linter.unusedVariables false
abbrev ul (n : Nat) : AV := .c (.int .u64 (n : Int))
/-- Texts with their numbers, as they lie in a slice. -/
def txs (l : List (Nat × List Nat)) : List (List AV) := l.map fun t => [ul t.1, bv (false, t.2)]
theorem txs_len (l : List (Nat × List Nat)) : (txs l).length = l.length := by simp [txs]
/-- A queue's cells. -/
def qv (q : QM) (z : Bool) : List AV := [ai q.room, lst z 2 none (txs q.l), ai q.taken, ul q.last, ai q.bytes]
/-- The heap in which row r is the queue. -/
def QH (H : Heap) (r : Nat) (q : QM) (z : Bool) : Heap := RC H r (qv q z)
section
variable {H : Heap} {r : Nat}
theorem QH_len (H : Heap) (r : Nat) (q : QM) (z : Bool) : (QH H r q z).length = H.length := RC_len _ _ _
theorem QH_take (H : Heap) (r : Nat) (q : QM) (z : Bool) : (QH H r q z).take H.length = QH H r q z := RC_take _ _ _
theorem QH_0 (hlt : r < H.length) (q : QM) (z : Bool) : rdRow (QH H r q z) r 0 1 5 = some [ai q.room] := by rw [QH, RC_rd hlt]; rfl
theorem QH_1 (hlt : r < H.length) (q : QM) (z : Bool) : rdRow (QH H r q z) r 1 1 5 = some [lst z 2 none (txs q.l)] := by rw [QH, RC_rd hlt]; rfl
theorem QH_2 (hlt : r < H.length) (q : QM) (z : Bool) : rdRow (QH H r q z) r 2 1 5 = some [ai q.taken] := by rw [QH, RC_rd hlt]; rfl
theorem QH_4 (hlt : r < H.length) (q : QM) (z : Bool) : rdRow (QH H r q z) r 4 1 5 = some [ai q.bytes] := by rw [QH, RC_rd hlt]; rfl
attribute [simp] QH_len QH_take
theorem q_made (hlt : r < H.length) {q : QM} (h : 1 ≤ q.room) (z : Bool) : callW P f_queue_Queue_made [.ptr r 0 5] (QH H r q z) = some (ab true, QH H r q z) := by
  have r0 := QH_0 hlt q z
  have hl := QH_len H r q z
  have ht : (QH H r q z).take (QH H r q z).length = QH H r q z := List.take_length
  generalize QH H r q z = G at *
  rw [call_L 4 rfl (rfl : P.T f_queue_Queue_made = some F_queue_Queue_made) (le_ok rfl)]; simp -implicitDefEqProofs (disch := first | omega | (simp; done) | fail) [-toCells, -AV.one, -forget, F_queue_Queue_made, c_queue_Queue_made, cmp_ilt, cmp_ilf, cmp_ile, cmp_ilg, cmp_ine, cmp_nlt, cmp_nlf, cmp_nle, cmp_nne, cmp_neq, wrap_i64, wrap_u64, wrap_u8, r0]
theorem q_Bytes (hlt : r < H.length) (q : QM) (z : Bool) : callW P f_queue_Queue_Bytes [.ptr r 0 5] (QH H r q z) = some (ai q.bytes, QH H r q z) := by
  have r0 := QH_4 hlt q z
  generalize QH H r q z = G at *
  rw [call_L 4 rfl (rfl : P.T f_queue_Queue_Bytes = some F_queue_Queue_Bytes) (le_ok rfl)]; simp -implicitDefEqProofs (disch := first | omega | (simp; done) | fail) [-toCells, -AV.one, -forget, F_queue_Queue_Bytes, c_queue_Queue_Bytes, cmp_ilt, cmp_ilf, cmp_ile, cmp_ilg, cmp_ine, cmp_nlt, cmp_nlf, cmp_nle, cmp_nne, cmp_neq, wrap_i64, wrap_u64, wrap_u8, r0]
theorem q_New (n : Int) (H : Heap) : callW P f_queue_New [ai n] H = if 1 ≤ n ∧ n ≤ 20000 then some (.tup [.ptr H.length 0 5, ai 0], H ++ [.row (qv ⟨n.toNat, [], 0, 0⟩ true)]) else some (.tup [.c (.pointer none), ai 1], H) := by
  by_cases h1 : 1 ≤ n
  · by_cases h2 : n ≤ 20000
    · rw [if_pos ⟨h1, h2⟩]
      obtain ⟨m, rfl⟩ : ∃ m : Nat, n = m := ⟨n.toNat, by omega⟩
      rw [call_L 4 rfl (rfl : P.T f_queue_New = some F_queue_New) (le_ok rfl)]; simp -implicitDefEqProofs (disch := first | omega | (simp; done) | fail) [-toCells, -AV.one, -forget, F_queue_New, c_queue_New, cmp_ilt, cmp_ilf, cmp_ile, cmp_ilg, cmp_ine, cmp_nlt, cmp_nlf, cmp_nle, cmp_nne, cmp_neq, wrap_i64, wrap_u64, wrap_u8, qv, txs, QM.bytes, tot]
    · rw [if_neg (fun h => h2 h.2)]
      rw [call_L 4 rfl (rfl : P.T f_queue_New = some F_queue_New) (le_ok rfl)]; simp -implicitDefEqProofs (disch := first | omega | (simp; done) | fail) [-toCells, -AV.one, -forget, F_queue_New, c_queue_New, cmp_ilt, cmp_ilf, cmp_ile, cmp_ilg, cmp_ine, cmp_nlt, cmp_nlf, cmp_nle, cmp_nne, cmp_neq, wrap_i64, wrap_u64, wrap_u8]
  · rw [if_neg (fun h => h1 h.1)]
    rw [call_L 4 rfl (rfl : P.T f_queue_New = some F_queue_New) (le_ok rfl)]; simp -implicitDefEqProofs (disch := first | omega | (simp; done) | fail) [-toCells, -AV.one, -forget, F_queue_New, c_queue_New, cmp_ilt, cmp_ilf, cmp_ile, cmp_ilg, cmp_ine, cmp_nlt, cmp_nlf, cmp_nle, cmp_nne, cmp_neq, wrap_i64, wrap_u64, wrap_u8]
end
end Go.A.V.S

namespace Go.A.V.S
open Go Go.A
set_option linter.unusedSimpArgs false
set_option linter.unusedVariables false
section
variable {H : Heap} {r : Nat}
/-- The queue on the way: its cells. -/
def QC (H : Heap) (r : Nat) (room : Nat) (l : AV) (taken last : Nat) (bytes : Int) : Heap := RC H r [ai room, l, ai taken, ul last, ai bytes]
theorem QC_len (H : Heap) (r room : Nat) (l : AV) (taken last : Nat) (bytes : Int) : (QC H r room l taken last bytes).length = H.length := RC_len _ _ _
theorem QC_take (H : Heap) (r room : Nat) (l : AV) (taken last : Nat) (bytes : Int) : (QC H r room l taken last bytes).take H.length = QC H r room l taken last bytes := RC_take _ _ _
theorem QH_QC (H : Heap) (r : Nat) (q : QM) (z : Bool) : QH H r q z = QC H r q.room (lst z 2 none (txs q.l)) q.taken q.last q.bytes := rfl
section
variable {room taken last : Nat} {l : AV} {bytes : Int}
theorem QC_0 (hlt : r < H.length) : rdRow (QC H r room l taken last bytes) r 0 1 5 = some [ai room] := by rw [QC, RC_rd hlt]; rfl
theorem QC_1 (hlt : r < H.length) : rdRow (QC H r room l taken last bytes) r 1 1 5 = some [l] := by rw [QC, RC_rd hlt]; rfl
theorem QC_2 (hlt : r < H.length) : rdRow (QC H r room l taken last bytes) r 2 1 5 = some [ai taken] := by rw [QC, RC_rd hlt]; rfl
theorem QC_3 (hlt : r < H.length) : rdRow (QC H r room l taken last bytes) r 3 1 5 = some [ul last] := by rw [QC, RC_rd hlt]; rfl
theorem QC_4 (hlt : r < H.length) : rdRow (QC H r room l taken last bytes) r 4 1 5 = some [ai bytes] := by rw [QC, RC_rd hlt]; rfl
theorem QC_s1 (hlt : r < H.length) (v : AV) (hv : okCell v = true) (σ : List AV) : storeA σ (QC H r room l taken last bytes) none (.ptr r 1 5) v = some (σ, QC H r room v taken last bytes) := by
  rw [QC, RC_st hlt, if_pos ⟨hv, by omega, rfl⟩]; rfl
theorem QC_s2 (hlt : r < H.length) (n : Nat) (σ : List AV) : storeA σ (QC H r room l taken last bytes) none (.ptr r 2 5) (ai n) = some (σ, QC H r room l n last bytes) := by
  rw [QC, RC_st hlt, if_pos ⟨rfl, by omega, rfl⟩]; rfl
theorem QC_s2i (hlt : r < H.length) (n : Int) (m : Nat) (e : n = m) (σ : List AV) : storeA σ (QC H r room l taken last bytes) none (.ptr r 2 5) (ai n) = some (σ, QC H r room l m last bytes) := by
  subst e; exact QC_s2 hlt m σ
theorem QC_s3 (hlt : r < H.length) (n : Nat) (σ : List AV) : storeA σ (QC H r room l taken last bytes) none (.ptr r 3 5) (ul n) = some (σ, QC H r room l taken n bytes) := by
  rw [QC, RC_st hlt, if_pos ⟨rfl, by omega, rfl⟩]; rfl
theorem QC_s4 (hlt : r < H.length) (n : Int) (σ : List AV) : storeA σ (QC H r room l taken last bytes) none (.ptr r 4 5) (ai n) = some (σ, QC H r room l taken last n) := by
  rw [QC, RC_st hlt, if_pos ⟨rfl, by omega, rfl⟩]; rfl
end
attribute [simp] QC_len QC_take
theorem app_lst {m : Md} {d c sz bytes : Nat} (hm : m.row (some d) = false) (z : Bool) {l l' : List (List AV)} {x : AV} (hx : ∀ H, elems H sz x = some l') (h0 : l' ≠ []) (h1 : (l.length + l'.length) * bytes ≤ appBound) (h2 : l.length + l'.length ≤ appBound) :
    ∃ cs, ∀ (σ : List AV) (H : Heap), appW m (some d) sz bytes (lst z sz (some c) l) x σ H = some (.vs sz (some d) (l ++ l'), σ.map (unfl cs), H) := by
  cases z with
  | true => exact appW_c hm hx (.inr h0) h1 h2
  | false =>
    refine ⟨[c, d], fun σ H => ?_⟩
    rcases lst_cases false sz (some c) l with ⟨h, _⟩ | ⟨e, _⟩
    · simp at h
    · rw [e, appW_vs hx h1 h2]
theorem cut_all (z : Bool) (k : Nat) (f d : Option Nat) (l : List (List AV)) {n : Nat} (h : l.length = n) : cutV k d (lst z k f l) none (some (ai n)) (some (ai n)) = some (lst z k d l) := by
  subst h
  rw [cutV_3 z k f d l (.inl ⟨rfl, rfl⟩) .i64 .i64 (Nat.zero_le _) (Nat.le_refl _)]
  simp only [cutL, List.take_length, List.drop_zero]
  rcases lst_cases z k f l with ⟨rfl, rfl, e⟩ | ⟨e, h⟩ <;> simp_all [lst]
theorem bv_ne {z : Bool} {b : List Nat} (h : b ≠ []) : bv (z, b) = .vs 1 none (byteCs b) := lst_ne (by cases b <;> simp [byteCs] at h ⊢)
set_option maxHeartbeats 1000000 in
theorem q_Push (hlt : r < H.length) {q : QM} (hq : q.Ok) (hlast : q.last ≤ 100000) (z : Bool) (b : Bs) (hb : b.2.length ≤ 1000000) :
    ∃ z', callW P f_queue_Queue_Push [.ptr r 0 5, bv b] (QH H r q z) = some (.tup [ul (q.push b.2).2.1, ai (q.push b.2).2.2], QH H r (q.push b.2).1 z') := by
  have hm := q_made hlt hq.room.1 z
  have hlen := bv_len b
  have hl2 := txs_len q.l
  have hql := hq.len
  have hlw : lenW (lst z 2 none (txs q.l)) = some q.l.length := by rw [lenW_lst, hl2]
  have hroom := hq.room.2
  have htot := hq.tot_le
  have hby : q.bytes ≤ 64000 := by have : q.bytes = tot q.l - q.taken := rfl; omega
  rw [QH_QC] at hm
  obtain ⟨n, hn⟩ : ∃ t, b.2.length = t := ⟨_, rfl⟩
  obtain ⟨ln, hln⟩ : ∃ t, q.l.length = t := ⟨_, rfl⟩
  rw [hn] at hlen
  rw [hln] at hlw hql
  by_cases h0 : n = 0
  · have hR : q.push b.2 = (q, 0, 1) := by unfold QM.push; rw [if_pos (by omega)]
    refine ⟨z, ?_⟩
    rw [hR, QH_QC]
    generalize hG : QC H r q.room (lst z 2 none (txs q.l)) q.taken q.last q.bytes = G at *
    have hGl : G.length = H.length := by rw [← hG]; exact QC_len _ _ _ _ _ _ _
    rw [call_L 7 rfl (rfl : P.T f_queue_Queue_Push = some F_queue_Queue_Push) (le_ok rfl)]; simp -implicitDefEqProofs (disch := first | omega | (simp; done) | fail) [-toCells, -AV.one, -forget, F_queue_Queue_Push, c_queue_Queue_Push, cmp_ilt, cmp_ilf, cmp_ile, cmp_ilg, cmp_ine, cmp_nlt, cmp_nlf, cmp_nle, cmp_nne, cmp_neq, wrap_i64, wrap_u64, wrap_u8, hm, hlen, h0]
  by_cases h1 : 1000 < n
  · have hR : q.push b.2 = (q, 0, 2) := by unfold QM.push; rw [if_neg (by omega), if_pos (by omega)]
    refine ⟨z, ?_⟩
    rw [hR, QH_QC]
    generalize hG : QC H r q.room (lst z 2 none (txs q.l)) q.taken q.last q.bytes = G at *
    rw [call_L 7 rfl (rfl : P.T f_queue_Queue_Push = some F_queue_Queue_Push) (le_ok rfl)]; simp -implicitDefEqProofs (disch := first | omega | (simp; done) | fail) [-toCells, -AV.one, -forget, F_queue_Queue_Push, c_queue_Queue_Push, cmp_ilt, cmp_ilf, cmp_ile, cmp_ilg, cmp_ine, cmp_nlt, cmp_nlf, cmp_nle, cmp_nne, cmp_neq, wrap_i64, wrap_u64, wrap_u8, hm, hlen]
  by_cases h2 : 64 ≤ ln ∨ q.room < q.bytes + n
  · have hR : q.push b.2 = (q, 0, 5) := by unfold QM.push; rw [if_neg (by omega), if_neg (by omega), if_pos (by omega)]
    refine ⟨z, ?_⟩
    rw [hR, QH_QC]
    have r0 := QC_0 (room := q.room) (l := lst z 2 none (txs q.l)) (taken := q.taken) (last := q.last) (bytes := q.bytes) hlt
    have r1 := QC_1 (room := q.room) (l := lst z 2 none (txs q.l)) (taken := q.taken) (last := q.last) (bytes := q.bytes) hlt
    have r4 := QC_4 (room := q.room) (l := lst z 2 none (txs q.l)) (taken := q.taken) (last := q.last) (bytes := q.bytes) hlt
    generalize hG : QC H r q.room (lst z 2 none (txs q.l)) q.taken q.last q.bytes = G at *
    by_cases h3 : 64 ≤ ln
    · rw [call_L 7 rfl (rfl : P.T f_queue_Queue_Push = some F_queue_Queue_Push) (le_ok rfl)]; simp -implicitDefEqProofs (maxSteps := 1000000) (disch := first | omega | (simp; done) | fail) [-toCells, -AV.one, -forget, F_queue_Queue_Push, c_queue_Queue_Push, cmp_ilt, cmp_ilf, cmp_ile, cmp_ilg, cmp_ine, cmp_nlt, cmp_nlf, cmp_nle, cmp_nne, cmp_neq, wrap_i64, wrap_u64, wrap_u8, keepB, -goodB, goodB_L, sameV, dstNot, dstNe, SOpG.reads, SOp.slots, SX.slots, SOp.noL, rdV_load, selfE_lst, selfE, selfEs, eqV, hm, hlen, r0, r1, r4, hlw]
    · rw [call_L 7 rfl (rfl : P.T f_queue_Queue_Push = some F_queue_Queue_Push) (le_ok rfl)]; simp -implicitDefEqProofs (maxSteps := 1000000) (disch := first | omega | (simp; done) | fail) [-toCells, -AV.one, -forget, F_queue_Queue_Push, c_queue_Queue_Push, cmp_ilt, cmp_ilf, cmp_ile, cmp_ilg, cmp_ine, cmp_nlt, cmp_nlf, cmp_nle, cmp_nne, cmp_neq, wrap_i64, wrap_u64, wrap_u8, keepB, -goodB, goodB_L, sameV, dstNot, dstNe, SOpG.reads, SOp.slots, SX.slots, SOp.noL, rdV_load, selfE_lst, selfE, selfEs, eqV, hm, hlen, r0, r1, r4, hlw]
  have hR : q.push b.2 = (⟨q.room, q.l ++ [(q.last + 1, b.2)], q.taken, q.last + 1⟩, q.last + 1, 0) := by unfold QM.push; rw [if_neg (by omega), if_neg (by omega), if_neg (by omega)]
  refine ⟨z, ?_⟩
  rw [hR, QH_QC, QH_QC]
  simp only
  have hbn : b.2 ≠ [] := fun e => h0 (by rw [← hn, e]; rfl)
  have hcl := Clone_bs b hb
  have hbv : bv (false, b.2) = .vs 1 none (byteCs b.2) := bv_ne hbn
  have hbv' : ∀ z f, lst z 1 f (byteCs b.2) = .vs 1 f (byteCs b.2) := fun z f => lst_ne (by cases hb2 : b.2 <;> simp_all [byteCs])
  rw [hbv'] at hcl
  have htl : lst z 2 none (txs (q.l ++ [(q.last + 1, b.2)])) = .vs 2 none (txs q.l ++ [[ul (q.last + 1), .vs 1 none (byteCs b.2)]]) := by
    rw [← hbv]
    rw [lst_ne (by simp [txs])]
    simp [txs]
  rw [htl]
  have hby2 : ((⟨q.room, q.l ++ [(q.last + 1, b.2)], q.taken, q.last + 1⟩ : QM).bytes : Int) = q.bytes + n := by
    have e1 : q.bytes = tot q.l - q.taken := rfl
    have e2 : (⟨q.room, q.l ++ [(q.last + 1, b.2)], q.taken, q.last + 1⟩ : QM).bytes = tot (q.l ++ [(q.last + 1, b.2)]) - q.taken := rfl
    have e3 : tot [(q.last + 1, b.2)] = n := by simp [tot, hn]
    rw [tot_app] at e2
    have := hq.taken_le
    omega
  rw [hby2]
  have hw3 : IntKind.u64.wrap ((q.last : Int) + 1) = ((q.last + 1 : Nat) : Int) := by rw [wrap_u64 (by omega) (by omega)]; omega
  obtain ⟨la, hla⟩ : ∃ t, q.last + 1 = t := ⟨_, rfl⟩
  rw [hla] at hw3 ⊢
  obtain ⟨cs, hap⟩ := app_lst (m := P.md f_queue_Queue_Push) (d := 70) (c := 61) (sz := 2) (bytes := 32) (R_queue_Queue_Push 70) z (l := txs q.l) (l' := [[ul la, .vs 1 none (byteCs b.2)]]) (x := .vs 2 (some 69) [[ul la, .vs 1 none (byteCs b.2)]]) (fun H => elems_vs H 2 (some 69) _) (by simp) (by simp [appBound, hl2, hln]; omega) (by simp [appBound, hl2, hln]; omega)
  have hcut := cut_all z 2 none (some 61) (txs q.l) (n := ln) (by rw [hl2, hln])
  have a0 := fun last => QC_0 (room := q.room) (l := lst z 2 none (txs q.l)) (taken := q.taken) (last := last) (bytes := q.bytes) hlt
  have a1 := fun last => QC_1 (room := q.room) (l := lst z 2 none (txs q.l)) (taken := q.taken) (last := last) (bytes := q.bytes) hlt
  have a3 := fun last => QC_3 (room := q.room) (l := lst z 2 none (txs q.l)) (taken := q.taken) (last := last) (bytes := q.bytes) hlt
  have a4 := fun last => QC_4 (room := q.room) (l := lst z 2 none (txs q.l)) (taken := q.taken) (last := last) (bytes := q.bytes) hlt
  have s3 := QC_s3 (room := q.room) (l := lst z 2 none (txs q.l)) (taken := q.taken) (last := q.last) (bytes := q.bytes) hlt la
  have hok : okCell (.vs 2 (none : Option Nat) (txs q.l ++ [[ul la, .vs 1 none (byteCs b.2)]])) = true := rfl
  have s1 := QC_s1 (room := q.room) (l := lst z 2 none (txs q.l)) (taken := q.taken) (last := la) (bytes := q.bytes) hlt _ hok
  have b3 := QC_3 (room := q.room) (l := .vs 2 none (txs q.l ++ [[ul la, .vs 1 none (byteCs b.2)]])) (taken := q.taken) (last := la) (bytes := q.bytes) hlt
  have b4 := QC_4 (room := q.room) (l := .vs 2 none (txs q.l ++ [[ul la, .vs 1 none (byteCs b.2)]])) (taken := q.taken) (last := la) (bytes := q.bytes) hlt
  have s4 := QC_s4 (room := q.room) (l := .vs 2 none (txs q.l ++ [[ul la, .vs 1 none (byteCs b.2)]])) (taken := q.taken) (last := la) (bytes := q.bytes) hlt ((q.bytes : Int) + n)
  have c3 := QC_3 (room := q.room) (l := .vs 2 none (txs q.l ++ [[ul la, .vs 1 none (byteCs b.2)]])) (taken := q.taken) (last := la) (bytes := (q.bytes : Int) + n) hlt
  have hw4 : IntKind.i64.wrap ((q.bytes : Int) + n) = q.bytes + n := wrap_i64 (by omega) (by omega)
  have g0 : ¬ (n : Int) = 0 := by omega
  have g1 : ¬ (n : Int) > 1000 := by omega
  have g1' : ¬ (1000 : Int) < n := by omega
  have g1'' : ¬ 1000 < n := by omega
  have g2 : ¬ (ln : Int) ≥ 64 := by omega
  have g2' : ¬ (64 : Int) ≤ ln := by omega
  have g2'' : ¬ 64 ≤ ln := by omega
  have hw5 : IntKind.i64.wrap ((q.room : Int) - q.bytes) = q.room - q.bytes := wrap_i64 (by omega) (by omega)
  have g3 : ¬ (n : Int) > (q.room : Int) - q.bytes := by omega
  have g3' : ¬ (q.room : Int) - q.bytes < n := by omega
  rw [call_L 7 rfl (rfl : P.T f_queue_Queue_Push = some F_queue_Queue_Push) (le_ok rfl)]; simp -implicitDefEqProofs [-toCells, -AV.one, -forget, F_queue_Queue_Push, c_queue_Queue_Push, keepB, -goodB, goodB_L, sameV, dstNot, dstNe, SOpG.reads, SOp.slots, SX.slots, SOp.noL, rdV_load, selfE_lst, selfE, selfEs, eqV, hm, hlen, h0, g0, g1, g1', g1'', g2, g2', g2'', g3, g3', hw5, a0, a1, a3, a4, s3, s1, b3, b4, s4, c3, hlw, hw3, hw4, hap, hcut, hcl, hln]
end
end Go.A.V.S

namespace Go.A.V.S
open Go Go.A
set_option linter.unusedSimpArgs false
set_option linter.unusedVariables false
section
variable {H : Heap} {r : Nat}
theorem txs_at {l : List (Nat × List Nat)} {i : Nat} {t : Nat × List Nat} (h : l[i]? = some t) (z : Bool) (f : Option Nat) (k : IntKind) : iaddrW 2 none (lst z 2 f (txs l)) (.c (.int k i)) = some (.vp [ul t.1, bv (false, t.2)] 0) := iaddrW_lst _ _ _ (by simp [txs, h]) k
theorem q_Front0 (hlt : r < H.length) {q : QM} (hq : q.Ok) (z : Bool) (hl : q.l = []) : callW P f_queue_Queue_Front [.ptr r 0 5] (QH H r q z) = some (.tup [ul 0, nilS, ab false], QH H r q z) := by
  have hm := q_made hlt hq.room.1 z
  have r1 := QH_1 hlt q z
  have hlw : lenW (lst z 2 none (txs q.l)) = some 0 := by rw [lenW_lst, txs_len, hl]; rfl
  generalize hG : QH H r q z = G at *
  rw [call_L 6 rfl (rfl : P.T f_queue_Queue_Front = some F_queue_Queue_Front) (le_ok rfl)]; simp -implicitDefEqProofs [-toCells, -AV.one, -forget, F_queue_Queue_Front, c_queue_Queue_Front, hm, r1, hlw]
theorem q_Front1 (hlt : r < H.length) {q : QM} (hq : q.Ok) (z : Bool) {t : Nat × List Nat} {l : List (Nat × List Nat)} (hl : q.l = t :: l) : callW P f_queue_Queue_Front [.ptr r 0 5] (QH H r q z) = some (.tup [ul t.1, bv (false, t.2.drop q.taken), ab (decide (0 < q.taken))], QH H r q z) := by
  have hm := q_made hlt hq.room.1 z
  have r1 := QH_1 hlt q z
  have r2 := QH_2 hlt q z
  have hlw : lenW (lst z 2 none (txs q.l)) = some (l.length + 1) := by rw [lenW_lst, txs_len, hl]; rfl
  have ht := hq.each t (by rw [hl]; simp)
  have hf := hq.first t l hl
  have q1 : iaddrW 2 none (lst z 2 none (txs q.l)) (.c (.int .i64 0)) = some (.vp [ul t.1, bv (false, t.2)] 0) := txs_at (i := 0) (by rw [hl]; rfl) z none .i64
  have c1 := fun d => bv_from (b := (false, t.2)) (i := q.taken) (by simp only; omega) .i64 d
  have hb1 : bcut (false, t.2) q.taken t.2.length = (false, t.2.drop q.taken) := by simp [bcut]
  simp only [hb1] at c1
  have hcl := Clone_bs (false, t.2.drop q.taken) (by simp; omega)
  have n0 : ¬ ((l.length + 1 : Nat) : Int) = 0 := by omega
  have n1 : ¬ (l.length : Int) + 1 = 0 := by omega
  have hdc : decide ((q.taken : Int) > 0) = decide (0 < q.taken) := decide_eq_decide.2 (by omega)
  have hdc' : decide ((0 : Int) < q.taken) = decide (0 < q.taken) := decide_eq_decide.2 (by omega)
  obtain ⟨bt, hbt⟩ : ∃ x, decide (0 < q.taken) = x := ⟨_, rfl⟩
  rw [hbt] at hdc hdc' ⊢
  have hbw : lst (false, t.2.drop q.taken).1 1 (some 0) (byteCs (false, t.2.drop q.taken).2) = lst false 1 (some 0) (byteCs (t.2.drop q.taken)) := rfl
  rw [hbw] at hcl
  generalize t.2.drop q.taken = bd at *
  obtain ⟨t1, t2⟩ := t
  simp only at *
  generalize hG : QH H r q z = G at *
  rw [call_L 6 rfl (rfl : P.T f_queue_Queue_Front = some F_queue_Queue_Front) (le_ok rfl)]; simp -implicitDefEqProofs [-toCells, -AV.one, -forget, F_queue_Queue_Front, c_queue_Queue_Front, keepB, -goodB, goodB_L, sameV, dstNot, dstNe, SOpG.reads, SOp.slots, SX.slots, SOp.noL, rdV_load, selfE_lst, selfE, selfEs, eqV, hm, r1, r2, hlw, n0, n1, q1, c1, hcl, hdc, hdc', hbt]
  rfl
theorem CloneT (z : Bool) (l : List (List AV)) (hl : l.length ≤ 100000) (H : Heap) : callW P f_slices_Clone_squeue_text_queue_text [lst z 2 none l] H = some (lst z 2 (some 0) l, H) := by
  rcases lst_cases z 2 none l with ⟨rfl, rfl, e⟩ | ⟨e, h⟩
  · rw [e]; rw [call_L 4 rfl (rfl : P.T f_slices_Clone_squeue_text_queue_text = some F_slices_Clone_squeue_text_queue_text) (le_ok rfl)]; simp -implicitDefEqProofs [-toCells, -AV.one, -forget, F_slices_Clone_squeue_text_queue_text, c_slices_Clone_squeue_text_queue_text]
  · have hap := fun σ H => appW_vs (m := P.md f_slices_Clone_squeue_text_queue_text) (d := 7) (bytes := 32) (c := 5) (l := []) (fun H => elems_vs H 2 none l) (by simp [appBound]; omega) (by simp [appBound]; omega) σ H
    rw [e]; rw [call_L 4 rfl (rfl : P.T f_slices_Clone_squeue_text_queue_text = some F_slices_Clone_squeue_text_queue_text) (le_ok rfl)]; simp -implicitDefEqProofs [-toCells, -AV.one, -forget, F_slices_Clone_squeue_text_queue_text, c_slices_Clone_squeue_text_queue_text, hap]
    simp [lst, h]
end
end Go.A.V.S

namespace Go.A.V.S
open Go Go.A
set_option linter.unusedSimpArgs false
set_option linter.unusedVariables false
section
variable {H : Heap} {r : Nat}
theorem q_Take0 (hlt : r < H.length) {q : QM} (hq : q.Ok) (z : Bool) (hl : q.l = []) (n : Int) : callW P f_queue_Queue_Take [.ptr r 0 5, ai n] (QH H r q z) = some (.tup [nilS, ab false, ai 4], QH H r q z) := by
  have hm := q_made hlt hq.room.1 z
  have r1 := QH_1 hlt q z
  have hlw : lenW (lst z 2 none (txs q.l)) = some 0 := by rw [lenW_lst, txs_len, hl]; rfl
  generalize hG : QH H r q z = G at *
  rw [call_L 7 rfl (rfl : P.T f_queue_Queue_Take = some F_queue_Queue_Take) (le_ok rfl)]; simp -implicitDefEqProofs [-toCells, -AV.one, -forget, F_queue_Queue_Take, c_queue_Queue_Take, hm, r1, hlw]
theorem QM.bytes_ge {q : QM} (hq : q.Ok) {t : Nat × List Nat} {l : List (Nat × List Nat)} (hl : q.l = t :: l) : q.bytes + q.taken = t.2.length + tot l := by
  have h1 := hq.taken_le
  have h2 : q.bytes = tot q.l - q.taken := rfl
  rw [hl, tot_cons] at h1 h2
  omega
set_option maxHeartbeats 1000000 in
theorem q_Take1 (hlt : r < H.length) {q : QM} (hq : q.Ok) (z : Bool) {t : Nat × List Nat} {l : List (Nat × List Nat)} (hl : q.l = t :: l) (n : Int) :
    ∃ z', callW P f_queue_Queue_Take [.ptr r 0 5, ai n] (QH H r q z) = some (.tup [bv ((q.take n).2.2.2 != 0, (q.take n).2.1), ab (q.take n).2.2.1, ai (q.take n).2.2.2], QH H r (q.take n).1 z') := by
  have hm := q_made hlt hq.room.1 z
  have ht := hq.each t (by rw [hl]; simp)
  have hf := hq.first t l hl
  have hbg := QM.bytes_ge hq hl
  have htot := hq.tot_le
  rw [hl, tot_cons] at htot
  have hlw : lenW (lst z 2 none (txs q.l)) = some (l.length + 1) := by rw [lenW_lst, txs_len, hl]; rfl
  have hln := hq.len
  rw [hl, List.length_cons] at hln
  have q1 : iaddrW 2 none (lst z 2 none (txs q.l)) (.c (.int .i64 0)) = some (.vp [ul t.1, bv (false, t.2)] 0) := txs_at (i := 0) (by rw [hl]; rfl) z none .i64
  have c1 := fun d => bv_from (b := (false, t.2)) (i := q.taken) (by simp only; omega) .i64 d
  have hb1 : bcut (false, t.2) q.taken t.2.length = (false, t.2.drop q.taken) := by simp [bcut]
  simp only [hb1] at c1
  obtain ⟨m, hmm⟩ : ∃ x, t.2.length - q.taken = x := ⟨_, rfl⟩
  have hbl : (t.2.drop q.taken).length = m := by rw [List.length_drop]; omega
  have hlb : lenW (bv (false, t.2.drop q.taken)) = some m := by rw [bv_len]; simp only; rw [hbl]
  have n0 : ¬ ((l.length + 1 : Nat) : Int) = 0 := by omega
  have n1 : ¬ (l.length : Int) + 1 = 0 := by omega
  have hRR : q.take n = if n < 1 ∨ ((t.2.length - q.taken : Nat) : Int) < n then (q, [], false, 1)
    else if n < ((t.2.length - q.taken : Nat) : Int) then (⟨q.room, q.l, q.taken + n.toNat, q.last⟩, (t.2.drop q.taken).take n.toNat, false, 0)
    else (⟨q.room, l, 0, q.last⟩, t.2.drop q.taken, true, 0) := by unfold QM.take; rw [hl]
  rw [hmm] at hRR
  rw [QH_QC] at hm ⊢
  have r1 := QC_1 (room := q.room) (l := lst z 2 none (txs q.l)) (taken := q.taken) (last := q.last) (bytes := q.bytes) hlt
  have r2 := QC_2 (room := q.room) (l := lst z 2 none (txs q.l)) (taken := q.taken) (last := q.last) (bytes := q.bytes) hlt
  by_cases hn1 : n < 1
  · rw [if_pos (.inl hn1)] at hRR
    refine ⟨z, ?_⟩
    rw [hRR, QH_QC]
    generalize hG : QC H r q.room (lst z 2 none (txs q.l)) q.taken q.last q.bytes = G at *
    rw [call_L 7 rfl (rfl : P.T f_queue_Queue_Take = some F_queue_Queue_Take) (le_ok rfl)]; simp -implicitDefEqProofs [-toCells, -AV.one, -forget, F_queue_Queue_Take, c_queue_Queue_Take, keepB, -goodB, goodB_L, sameV, dstNot, dstNe, SOpG.reads, SOp.slots, SX.slots, SOp.noL, rdV_load, selfE_lst, selfE, selfEs, eqV, hm, r1, r2, hlw, n0, n1, q1, c1, hn1]
    rfl
  by_cases hn2 : (m : Int) < n
  · rw [if_pos (.inr hn2)] at hRR
    refine ⟨z, ?_⟩
    rw [hRR, QH_QC]
    have hn2' : n > (m : Int) := hn2
    generalize hG : QC H r q.room (lst z 2 none (txs q.l)) q.taken q.last q.bytes = G at *
    rw [call_L 7 rfl (rfl : P.T f_queue_Queue_Take = some F_queue_Queue_Take) (le_ok rfl)]; simp -implicitDefEqProofs [-toCells, -AV.one, -forget, F_queue_Queue_Take, c_queue_Queue_Take, keepB, -goodB, goodB_L, sameV, dstNot, dstNe, SOpG.reads, SOp.slots, SX.slots, SOp.noL, rdV_load, selfE_lst, selfE, selfEs, eqV, hm, r1, r2, hlw, n0, n1, q1, c1, hn1, hn2, hn2', hlb]
    rfl
  rw [if_neg (fun h => h.elim hn1 hn2)] at hRR
  have hn2' : ¬ n > (m : Int) := hn2
  obtain ⟨k, rfl⟩ : ∃ k : Nat, n = k := ⟨n.toNat, by omega⟩
  rw [Int.toNat_natCast] at hRR
  have hk : k ≤ m := by omega
  have c3 := fun d => bv_to3 (b := (false, t.2.drop q.taken)) (j := k) (by simp only; omega) .i64 .i64 d
  have hbc : bcut (false, t.2.drop q.taken) 0 k = (false, (t.2.drop q.taken).take k) := by simp [bcut]
  simp only [hbc] at c3
  have hcl : ∀ H, callW P f_slices_Clone_sbyte_byte [.vs 1 none (byteCs ((t.2.drop q.taken).take k))] H = some (.vs 1 (some 0) (byteCs ((t.2.drop q.taken).take k)), H) := fun H => Clone_b false (byteCs ((t.2.drop q.taken).take k)) (by rw [byteCs_len, List.length_take]; omega) H
  have hbv : bv (false, (t.2.drop q.taken).take k) = lst false 1 none (byteCs ((t.2.drop q.taken).take k)) := rfl
  have w1 : IntKind.i64.wrap ((q.taken : Int) + k) = ((q.taken + k : Nat) : Int) := by rw [wrap_i64 (by omega) (by omega)]; omega
  have w2 : IntKind.i64.wrap ((q.bytes : Int) - k) = (q.bytes : Int) - k := wrap_i64 (by omega) (by omega)
  obtain ⟨tk, htk⟩ : ∃ x, q.taken + k = x := ⟨_, rfl⟩
  rw [htk] at w1
  have s2 := QC_s2 (room := q.room) (l := lst z 2 none (txs q.l)) (taken := q.taken) (last := q.last) (bytes := q.bytes) hlt tk
  have a4 := QC_4 (room := q.room) (l := lst z 2 none (txs q.l)) (taken := tk) (last := q.last) (bytes := q.bytes) hlt
  have s4 := QC_s4 (room := q.room) (l := lst z 2 none (txs q.l)) (taken := tk) (last := q.last) (bytes := q.bytes) hlt ((q.bytes : Int) - k)
  by_cases hkm : k < m
  · rw [if_pos (by omega)] at hRR
    refine ⟨z, ?_⟩
    rw [hRR, QH_QC]
    simp only [bne_self_eq_false]
    have hby2 : ((⟨q.room, q.l, q.taken + k, q.last⟩ : QM).bytes : Int) = (q.bytes : Int) - k := by
      have e1 : q.bytes = tot q.l - q.taken := rfl
      have e2 : (⟨q.room, q.l, q.taken + k, q.last⟩ : QM).bytes = tot q.l - (q.taken + k) := rfl
      omega
    rw [hby2, htk]
    have hkm' : (k : Int) < m := by omega
    rw [hbv]
    have hlen0 := QC_len H r q.room (lst z 2 none (txs q.l)) q.taken q.last q.bytes
    generalize (t.2.drop q.taken).take k = bo at *
    generalize t.2.drop q.taken = bd at *
    generalize hG : QC H r q.room (lst z 2 none (txs q.l)) q.taken q.last q.bytes = G at *
    rw [call_L 7 rfl (rfl : P.T f_queue_Queue_Take = some F_queue_Queue_Take) (le_ok rfl)]; simp -implicitDefEqProofs [-toCells, -AV.one, -forget, F_queue_Queue_Take, c_queue_Queue_Take, keepB, -goodB, goodB_L, sameV, dstNot, dstNe, SOpG.reads, SOp.slots, SX.slots, SOp.noL, rdV_load, selfE_lst, selfE, selfEs, eqV, hm, r1, r2, hlw, n0, n1, q1, c1, hn1, hn2, hn2', hlb, c3, hcl, w1, w2, s2, a4, s4, hkm, hkm', hlen0]
  · rw [if_neg (by omega)] at hRR
    refine ⟨false, ?_⟩
    rw [hRR, QH_QC]
    simp only [bne_self_eq_false]
    have hkm' : ¬ (k : Int) < m := by omega
    have hbo : (t.2.drop q.taken).take k = t.2.drop q.taken := List.take_of_length_le (by omega)
    have hby2 : ((⟨q.room, l, 0, q.last⟩ : QM).bytes : Int) = (q.bytes : Int) - k := by
      have e2 : (⟨q.room, l, 0, q.last⟩ : QM).bytes = tot l - 0 := rfl
      omega
    rw [hby2]
    rw [hbo] at c3 hcl hbv
    rw [hbv]
    have a1 := QC_1 (room := q.room) (l := lst z 2 none (txs q.l)) (taken := tk) (last := q.last) (bytes := (q.bytes : Int) - k) hlt
    have ct := fun d => cutV_lst z 2 none d (txs q.l) (lo := some (ai 1)) (hi := none) (i := 1) (j := l.length + 1) (.inr ⟨.i64, rfl⟩) (.inl ⟨rfl, by rw [txs_len, hl]; rfl⟩) (by omega) (by rw [txs_len, hl]; simp)
    have ect : cutL z 2 none (txs q.l) 1 (l.length + 1) = lst false 2 none (txs l) := by
      simp only [cutL]
      rw [hl]
      simp [txs]
      exact List.take_of_length_le (by simp)
    rw [ect] at ct
    have hct : ∀ H, callW P f_slices_Clone_squeue_text_queue_text [.vs 2 none (txs l)] H = some (.vs 2 (some 0) (txs l), H) := fun H => CloneT false (txs l) (by rw [txs_len]; omega) H
    have z0 := QC_s2i (room := q.room) (l := lst z 2 none (txs q.l)) (taken := tk) (last := q.last) (bytes := (q.bytes : Int) - k) hlt 0 0 rfl
    have hok : okCell (lst false 2 (none : Option Nat) (txs l)) = true := by simp [lst_one, lst_free]
    have z1 : ∀ σ, storeA σ (QC H r q.room (lst z 2 none (txs q.l)) 0 q.last ((q.bytes : Int) - k)) none (.ptr r 1 5) (.vs 2 none (txs l)) = _ := QC_s1 (room := q.room) (l := lst z 2 none (txs q.l)) (taken := 0) (last := q.last) (bytes := (q.bytes : Int) - k) hlt _ hok
    have hlen0 := QC_len H r q.room (lst z 2 none (txs q.l)) q.taken q.last q.bytes
    generalize t.2.drop q.taken = bd at *
    generalize hG : QC H r q.room (lst z 2 none (txs q.l)) q.taken q.last q.bytes = G at *
    rw [call_L 7 rfl (rfl : P.T f_queue_Queue_Take = some F_queue_Queue_Take) (le_ok rfl)]; simp -implicitDefEqProofs [-toCells, -AV.one, -forget, F_queue_Queue_Take, c_queue_Queue_Take, keepB, -goodB, goodB_L, sameV, dstNot, dstNe, SOpG.reads, SOp.slots, SX.slots, SOp.noL, rdV_load, selfE_lst, selfE, selfEs, eqV, hm, r1, r2, hlw, n0, n1, q1, c1, hn1, hn2, hn2', hlb, c3, hcl, w1, w2, s2, a4, s4, hkm, hkm', hlen0, a1, ct, hct, z0, z1]
end
end Go.A.V.S

namespace Go.A.V.S
open Go Go.A
set_option linter.unusedSimpArgs false
set_option linter.unusedVariables false
/-- Numbers in a slice. -/
def uls (l : List Nat) : List (List AV) := l.map fun n => [ul n]
theorem uls_len (l : List Nat) : (uls l).length = l.length := by simp [uls]
theorem uls_snoc (l : List Nat) (n : Nat) : uls (l ++ [n]) = uls l ++ [[ul n]] := by simp [uls]
section
variable {H : Heap} {r : Nat}
end
end Go.A.V.S

namespace Go.A.V.S
open Go Go.A
set_option linter.unusedSimpArgs false
set_option linter.unusedVariables false
section
variable {H : Heap}
end
end Go.A.V.S
