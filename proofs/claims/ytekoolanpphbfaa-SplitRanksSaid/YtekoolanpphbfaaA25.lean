/- THE ABSTRACT MACHINE: slices in a heap that grows; cuts. -/
import Derived.Test.YtekoolanpphbfaaA24
set_option linter.unusedSimpArgs false
set_option linter.unusedVariables false
set_option linter.unnecessarySimpa false
namespace Go.A
open Go

theorem rdRow_append {H N : Heap} {r i n g : Nat} {cs : List AV} (h : rdRow H r i n g = some cs) : rdRow (H ++ N) r i n g = some cs := by
  unfold rdRow at h ⊢
  cases hr : H[r]? with
  | none => rw [hr] at h; simp at h
  | some o =>
    rw [List.getElem?_append_left (List.getElem?_eq_some_iff.1 hr).1, hr]
    rw [hr] at h
    exact h

theorem Sl.grow {H N : Heap} {k : Nat} {v : AV} {l : List (List AV)} (h : Sl H k v l) : Sl (H ++ N) k v l := by
  rcases h with h | ⟨r, off, cap, sz, g, ex, h1, h2, h3⟩
  · exact .inl h
  · exact .inr ⟨r, off, cap, sz, g, ex, h1, h2, fun i cs hi => rdRow_append (h3 i cs hi)⟩

def boundV (n : Nat) : Option AV → Nat → Prop
  | none, m => m = n
  | some v, m => v = ai m

theorem cutBound_ai {m y : Nat} (h : m ≤ y) : cutBound (ai m) y = some m := by
  simp [cutBound, h]

/-- A slice from lo to hi. -/
theorem Sl.cut {H : Heap} {k : Nat} {v : AV} {l : List (List AV)} (h : Sl H k v l) {lo hi : Option AV} {i j : Nat} (hi1 : boundV 0 lo i) (hj : boundV l.length hi j) (hij : i ≤ j) (hjl : j ≤ l.length) :
    ∃ v', cutA (.slice k) v lo hi none = some v' ∧ Sl H k v' ((l.take j).drop i) := by
  have hlow : lowOf j lo = some i := by
    cases lo with
    | none => simp only [boundV] at hi1; subst hi1; rfl
    | some x => simp only [boundV] at hi1; subst hi1; exact cutBound_ai hij
  rcases h with ⟨rfl, rfl⟩ | ⟨r, off, cap, sz, g, ex, rfl, ⟨h1, h1'⟩, h2⟩
  · simp only [List.length_nil, Nat.le_zero] at hjl
    subst hjl
    have hi0 : i = 0 := by omega
    subst hi0
    refine ⟨nilS, ?_, .inl ⟨rfl, rfl⟩⟩
    have hh : highOf 0 0 hi none = some 0 := by
      cases hi with
      | none => rfl
      | some x => simp only [boundV] at hj; subst hj; exact cutBound_ai (m := 0) (y := 0) (Nat.le_refl _)
    simp [cutA, cutBounds, capOf, hh, hlow]
  · have hh : highOf l.length cap hi none = some j := by
      cases hi with
      | none => simp only [boundV] at hj; subst hj; rfl
      | some x => simp only [boundV] at hj; subst hj; exact cutBound_ai (by omega)
    have hl : ((l.take j).drop i).length = j - i := by simp; omega
    refine ⟨.sl r (if cap = i then off else off + i * k) (j - i) (cap - i) sz g ex, ?_, ?_⟩
    · simp only [cutA, h1', if_true, cutBounds, h1, capOf, Option.bind_some, hh, hlow, Option.map_some, Option.isSome_none, Bool.or_false]
    · refine .inr ⟨r, _, _, _, _, _, by rw [hl], ⟨by rw [hl]; omega, h1'⟩, fun n cs hn => ?_⟩
      have hn' : l[i + n]? = some cs := by
        rw [List.getElem?_drop, List.getElem?_take] at hn
        split at hn
        · exact hn
        · simp at hn
      have hlt : i + n < j := by
        have := (List.getElem?_eq_some_iff.1 hn).1
        rw [hl] at this; omega
      rw [if_neg (by omega), show off + i * k + n * k = off + (i + n) * k by rw [Nat.add_mul]; omega]
      exact h2 _ _ hn'

theorem opA_cutS (C : Oracle) (d : Option Nat) (k : Nat) (σ : List AV) (H : Heap) (x : SX) (lo hi mx : Option SX) : opA C d (.cut (.slice k) x lo hi mx) σ H = (cutA (.slice k) (evalX σ x) (lo.map (evalX σ)) (hi.map (evalX σ)) (mx.map (evalX σ))).map fun v => (v, σ, H) := rfl
attribute [simp] opA_cutS

/-- A row of one's own is read. -/
theorem rdRow_row {H : Heap} {r : Nat} {cs : List AV} (h : H[r]? = some (.row cs)) {i n : Nat} (hl : i + n ≤ cs.length) : rdRow H r i n cs.length = some ((cs.drop i).take n) := by
  simp [rdRow, h, AObj.isRow, AObj.lo, AObj.cells, hl]

theorem wrRow_row {H : Heap} {r : Nat} {cs xs : List AV} (h : H[r]? = some (.row cs)) {i : Nat} (hl : i + xs.length ≤ cs.length) (hx : xs.all okCell = true) : wrRow H r i cs.length xs = some (H.set r (.row (cs.take i ++ xs ++ cs.drop (i + xs.length)))) := by
  simp only [wrRow, h, hl, hx, and_self, if_true]

/-- The newest row is filled. -/
theorem storeA_new (σ : List AV) (M : Heap) {k : Nat} {zs vs : List AV} (h1 : zs.length = k) (h2 : vs.length = k) (h3 : vs.all okCell = true) : storeA σ (M ++ [.row zs]) (some k) (.ptr M.length 0 k) (.agg vs) = some (σ, M ++ [.row vs]) := by
  have hr : (M ++ [AObj.row zs])[M.length]? = some (.row zs) := by simp
  have hw := wrRow_row (xs := vs) hr (i := 0) (by omega) h3
  simp only [storeA, h2, if_true]
  rw [← h1, hw]
  simp [h1, h2]

/-- One cell of an element. -/
theorem rdRow_field {H : Heap} {r o k g : Nat} {cs : List AV} (h : rdRow H r o k g = some cs) {j : Nat} {v : AV} (hj : cs[j]? = some v) : rdRow H r (o + j) 1 g = some [v] := by
  unfold rdRow at h ⊢
  cases hr : H[r]? with
  | none => rw [hr] at h; simp at h
  | some ob =>
    rw [hr] at h
    simp only at h ⊢
    split at h
    case isFalse => simp at h
    case isTrue hc =>
      obtain rfl := Option.some.inj h
      have hj' := (List.getElem?_eq_some_iff.1 hj).1
      simp only [List.length_take, List.length_drop] at hj'
      rw [List.getElem?_take, List.getElem?_drop] at hj
      split at hj
      case isFalse => simp at hj
      case isTrue hjk =>
        rw [if_pos (by obtain ⟨q1, q2, q3, q4⟩ := hc; exact ⟨q1, q2, by omega, q4⟩)]
        congr 1
        rw [List.take_one, List.head?_drop, hj]
        rfl

end Go.A
