import Derived.Test.YtekoolanpphbfaaC1
import Derived.Test.YtekoolanpphbfaaA24
import Derived.Test.YtekoolanpphbfaaA25
import Derived.Test.YtekoolanpphbfaaA26
import Derived.Test.YtekoolanpphbfaaA27
set_option linter.unusedSimpArgs false
set_option linter.unusedVariables false
set_option linter.unnecessarySimpa false
namespace Go.A.Seat
open Go.A
def X1 : Oracle := constO [(10, ab true)]
theorem X1_none {f : FuncId} (h : f ≠ 10) (args : List AV) (H : Heap) : X1 f args H = none := by
  unfold X1 constO
  split
  · rename_i v hl
    simp [List.lookup, h] at hl
    split at hl <;> simp_all
  · rfl

def ints (l : List Int) : List (List AV) := l.map fun n => [ai n]

theorem same_loop {H : Heap} {va vb : AV} {la lb : List Int} (ha : Sl H 1 va (ints la)) (hb : Sl H 1 vb (ints lb)) (hl : la.length = lb.length) (hm : la.length ≤ 1000000) :
    ∀ (n : Nat) (σ : List AV) (H1 : Heap), (n ≤ la.length ∧ (∀ j, j < la.length - n → la[j]? = lb[j]?) ∧ H1 = H ∧ kill (headK lp15_0) σ = L 26 (((((Tr.full 5).put (path 0) va).put (path 1) vb).put (path 5) (ai ((la.length : Int) - n))))) →
      Ends (execW tbl X1 (.loop lp15_0) σ H1) fun s => s.H = H ∧ IsL 26 s.σ ∧ ((s.e = .exit 0 ∧ la = lb) ∨ (s.e = .ret ∧ la ≠ lb ∧ resultsA fun15.res s.σ = some (ab false))) := by
  intro n σ H1 hI
  have := loop_rule (T := tbl) (X := X1) (b := lp15_0) (fun n σ H1 => n ≤ la.length ∧ (∀ j, j < la.length - n → la[j]? = lb[j]?) ∧ H1 = H ∧ σ = L 26 (((((Tr.full 5).put (path 0) va).put (path 1) vb).put (path 5) (ai ((la.length : Int) - n)))))
    (fun e σ H1 => H1 = H ∧ IsL 26 σ ∧ ((e = .exit 0 ∧ la = lb) ∨ (e = .ret ∧ la ≠ lb ∧ resultsA fun15.res σ = some (ab false)))) ?_ n σ H1 hI
  · exact this.mono fun s hs => hs.2
  · clear hI σ n H1
    rintro n σ H1 ⟨hn, hj, rfl, rfl⟩
    have e1 : lenS va = some la.length := by rw [ha.len]; simp [ints]
    have e2 : ∀ (i : Nat) (x : Int), la[i]? = some x → (ints la)[i]? = some [ai x] := fun i x h => by simp [ints, h]
    have e3 : ∀ (i : Nat) (x : Int), lb[i]? = some x → (ints lb)[i]? = some [ai x] := fun i x h => by simp [ints, h]
    by_cases hz : n = 0
    · subst hz
      simp [lp15_0, ha.ev, e1]
      apply List.ext_getElem?
      intro j
      by_cases h : j < la.length
      · exact hj j (by omega)
      · rw [List.getElem?_eq_none (by omega), List.getElem?_eq_none (by omega)]
    · obtain ⟨x, hx⟩ : ∃ x, la[la.length - n]? = some x := ⟨_, List.getElem?_eq_getElem (by omega)⟩
      obtain ⟨y, hy⟩ : ∃ y, lb[la.length - n]? = some y := ⟨_, List.getElem?_eq_getElem (by omega)⟩
      obtain ⟨r, o, g, p1, p2⟩ := ha.at (e2 _ x hx)
      obtain ⟨r', o', g', p3, p4⟩ := hb.at (e3 _ y hy)
      have q1 := p1 ((la.length : Int) - n) (by omega)
      have q3 := p3 ((la.length : Int) - n) (by omega)
      by_cases hxy : x = y
      · have hw : IntKind.i64.wrap ((la.length : Int) - n + 1) = (la.length : Int) - (n - 1 : Nat) := by rw [wrap_i64 (by omega) (by omega)]; omega
        simp [lp15_0, ha.ev, hb.ev, ha.nb, hb.nb, e1, q1, q3, p2, p4, hxy, hw, show (la.length : Int) - n < la.length by omega]
        refine ⟨n - 1, by omega, by omega, ?_, ?_⟩
        · intro j h
          by_cases hjn : j = la.length - n
          · subst hjn; rw [hx, hy, hxy]
          · exact hj j (by omega)
        · rfl
      · simp [lp15_0, ha.ev, hb.ev, ha.nb, hb.nb, e1, q1, q3, p2, p4, hxy, show (la.length : Int) - n < la.length by omega]
        refine ⟨?_, ?_⟩
        · intro h; subst h
          rw [hx] at hy; exact hxy (Option.some.inj hy)
        · simp [fun15]

theorem same15 {H : Heap} {va vb : AV} {la lb : List Int} (ha : Sl H 1 va (ints la)) (hb : Sl H 1 vb (ints lb)) (hm : la.length ≤ 1000000) (hm' : lb.length ≤ 1000000) :
    callW tbl X1 15 [va, vb] H = some (ab (decide (la = lb)), H) := by
  have e1 : lenS va = some la.length := by rw [ha.len]; simp [ints]
  have e2 : lenS vb = some lb.length := by rw [hb.len]; simp [ints]
  suffices h : Ends (callW tbl X1 15 [va, vb] H) fun y => y = (ab (decide (la = lb)), H) by
    obtain ⟨y, h1, rfl⟩ := h
    exact h1
  refine call_rule (X1_none (by decide) _ _) rfl ?_
  rw [fun15, slots0_L 5 26 _ (by simp)]
  by_cases hl : la.length = lb.length
  · have hc : (la.length : Int) = lb.length := by omega
    simp [code15, ha.ev, hb.ev, e1, e2, hc]
    refine ((same_loop ha hb hl hm la.length _ H ⟨Nat.le_refl _, by intro j hj; omega, rfl, ?_⟩).map (Q := _) (R := fun s => s.H = H ∧ IsL 26 s.σ ∧ ((s.e = .normal ∧ la = lb) ∨ (s.e = .ret ∧ la ≠ lb ∧ resultsA fun15.res s.σ = some (ab false)))) ?_).bind ?_
    · simp [lp15_0]
    · rintro ⟨e, σ, G⟩ ⟨h1, ⟨t, ht⟩, h2⟩
      rcases h2 with ⟨h2, h3⟩ | ⟨h2, h3, h4⟩ <;> simp only at h1 h2 ht <;> subst h1 <;> subst h2 <;> subst ht
      · simp [h3]
      · simp at h4 ⊢; exact ⟨h3, h4⟩
    · rintro ⟨e, σ, G⟩ ⟨h1, ⟨t, ht⟩, h2⟩
      rcases h2 with ⟨h2, h3⟩ | ⟨h2, h3, h4⟩ <;> simp only at h1 h2 ht <;> subst h1 <;> subst h2 <;> subst ht
      · simp [h3]
      · simp [fun15] at h4
        simp [h3, h4]
  · have hc : ¬ (la.length : Int) = lb.length := by omega
    simp [code15, ha.ev, hb.ev, e1, e2, hc]
    intro h; subst h; exact hl rfl
end Go.A.Seat

namespace Go.A.Seat
open Go.A

structure Ask where
  id : Int
  rank : Int
  rate : Int
  want : Int
def Ask.cells (a : Ask) : List AV := [ai a.id, ai a.rank, ai a.rate, ai a.want]
def Ask.right (a : Ask) : Bool := decide (1 ≤ a.rank ∧ a.rank ≤ 16 ∧ 0 ≤ a.rate ∧ a.rate ≤ 4096 ∧ 0 ≤ a.want ∧ a.want ≤ 20000)
def asks (l : List Ask) : List (List AV) := l.map Ask.cells

theorem opA_lbox (C : Oracle) (d k : Nat) (σ : List AV) (H : Heap) (x : SX) : opA C (some d) (.lbox k x) σ H = if (toCells (evalX σ x)).length = k ∧ (toCells (evalX σ x)).all okCell = true then some (.lbox (toCells (evalX σ x)), σ.map (forget d), H) else none := rfl
attribute [simp] opA_lbox

theorem right11 (a : Ask) (H : Heap) : callW tbl X1 11 [.agg a.cells] H = some (ab a.right, H) := by
  obtain ⟨i, b, c, d⟩ := a
  rw [callW_eq, X1_none (by decide)]
  simp only [tbl, Option.bind_some, fun11, code11, Ask.cells, Ask.right]
  rw [slots0_L 5 31 _ (by simp)]
  by_cases h1 : 1 ≤ b
  · by_cases h2 : b ≤ 16
    · by_cases h3 : 0 ≤ c
      · by_cases h4 : c ≤ 4096
        · by_cases h5 : 0 ≤ d
          · by_cases h6 : d ≤ 20000
            · simp -implicitDefEqProofs [h1, h2, h3, h4, h5, h6]
            · simp -implicitDefEqProofs [h1, h2, h3, h4, h5, h6]
          · simp -implicitDefEqProofs [h1, h2, h3, h4, h5]
        · simp -implicitDefEqProofs [h1, h2, h3, h4]
      · simp -implicitDefEqProofs [h1, h2, h3]
    · simp -implicitDefEqProofs [h1, h2]
  · simp -implicitDefEqProofs [h1]

theorem right12 (a : Ask) (H : Heap) : callW tbl X1 12 [.agg a.cells] H = some (ab a.right, H) := by
  obtain ⟨i, b, c, d⟩ := a
  rw [callW_eq, X1_none (by decide)]
  simp only [tbl, Option.bind_some, fun12, code12, Ask.cells, Ask.right]
  rw [slots0_L 5 31 _ (by simp)]
  by_cases h1 : 1 ≤ b
  · have h1' : 0 < b := by omega
    by_cases h2 : b ≤ 16
    · have h2' : b < 17 := by omega
      by_cases h3 : 0 ≤ c
      · by_cases h4 : c ≤ 4096
        · by_cases h5 : 0 ≤ d
          · by_cases h6 : d ≤ 20000
            · simp -implicitDefEqProofs [h1, h1', h2, h2', h3, h4, h5, h6]
            · simp -implicitDefEqProofs [h1, h1', h2, h2', h3, h4, h5, h6]
          · simp -implicitDefEqProofs [h1, h1', h2, h2', h3, h4, h5]
        · simp -implicitDefEqProofs [h1, h1', h2, h2', h3, h4]
      · simp -implicitDefEqProofs [h1, h1', h2, h2', h3]
    · have h2' : ¬ b < 17 := by omega
      simp -implicitDefEqProofs [h1, h1', h2, h2']
  · have h1' : ¬ 0 < b := by omega
    simp -implicitDefEqProofs [h1, h1']

theorem wrong64 (a : Ask) (H : Heap) : callW tbl X1 64 [.agg a.cells] H = some (ab (!a.right), H) := by
  rw [callW_eq, X1_none (by decide)]
  simp only [tbl, Option.bind_some, fun64, code64]
  rw [slots0_L 3 6 _ (by simp)]
  have h := right11 a H
  obtain ⟨i, b, c, d⟩ := a
  simp only [Ask.cells] at h ⊢
  simp -implicitDefEqProofs [h]

theorem is65 (a : Ask) (x : Int) (H : Heap) (r g : Nat) (hr : rdRow H r 0 1 g = some [ai x]) : callW tbl X1 65 [.agg a.cells, .ptr r 0 g] H = some (ab (decide (a.id = x)), H) := by
  rw [callW_eq, X1_none (by decide)]
  simp only [tbl, Option.bind_some, fun65, code65]
  rw [slots0_L 4 9 _ (by simp)]
  obtain ⟨i, b, c, d⟩ := a
  simp -implicitDefEqProofs [Ask.cells, hr]

/-- Where in a list the first one is of which p holds. -/
def idxOf (p : Ask → Bool) (l : List Ask) : Int := if l.any p = true then (l.findIdx p : Int) else -1

def callvV (C : Oracle) (σ : List AV) (H : Heap) (v : AV) (as : List AV) : Option (AV × List AV × Heap) := match v with
  | .fn f cs => if AV.freeAll as = true then (C f (as ++ cs) H).map fun p => (p.1, σ, p.2) else none
  | _ => none
theorem opA_callv (C : Oracle) (d : Option Nat) (σ : List AV) (H : Heap) (x : SX) (xs : List SX) : opA C d (.callv x xs) σ H = callvV C σ H (evalX σ x) (xs.map (evalX σ)) := by
  simp only [opA, callvV]
  split <;> simp_all
theorem callvV_fn (C : Oracle) (σ : List AV) (H : Heap) (f : FuncId) (cs as : List AV) : callvV C σ H (.fn f cs) as = if AV.freeAll as = true then (C f (as ++ cs) H).map fun p => (p.1, σ, p.2) else none := rfl
attribute [simp] opA_callv callvV_fn

end Go.A.Seat

namespace Go.A.Seat
open Go.A

theorem index_loop {H : Heap} {va : AV} {la : List Ask} (ha : Sl H 4 va (asks la)) (hm : la.length ≤ 1000000) {f : FuncId} {cs : List AV} (hcs : AV.freeAll cs = true) {p : Ask → Bool} (hf : ∀ a ∈ la, callW tbl X1 f (.agg a.cells :: cs) H = some (ab (p a), H)) :
    ∀ (n : Nat) (σ : List AV) (H1 : Heap), (n ≤ la.length ∧ (∀ (j : Nat) a, j < la.length - n → la[j]? = some a → p a = false) ∧ H1 = H ∧ kill (headK lp84_0) σ = L 19 ((((((Tr.full 5).put (path 0) va).put (path 1) (.fn f cs)).put (path 7) (ai la.length)).put (path 8) (ai ((la.length : Int) - n))))) →
      Ends (execW tbl X1 (.loop lp84_0) σ H1) fun s => s.H = H ∧ IsL 19 s.σ ∧ ((s.e = .exit 0 ∧ la.any p = false) ∨ (s.e = .ret ∧ la.any p = true ∧ ∃ z : Int, 0 ≤ z ∧ resultsA fun84.res s.σ = some (ai z))) := by
  intro n σ H1 hI
  have := loop_rule (T := tbl) (X := X1) (b := lp84_0) (fun n σ H1 => n ≤ la.length ∧ (∀ (j : Nat) a, j < la.length - n → la[j]? = some a → p a = false) ∧ H1 = H ∧ σ = L 19 ((((((Tr.full 5).put (path 0) va).put (path 1) (.fn f cs)).put (path 7) (ai la.length)).put (path 8) (ai ((la.length : Int) - n)))))
    (fun e σ H1 => H1 = H ∧ IsL 19 σ ∧ ((e = .exit 0 ∧ la.any p = false) ∨ (e = .ret ∧ la.any p = true ∧ ∃ z : Int, 0 ≤ z ∧ resultsA fun84.res σ = some (ai z)))) ?_ n σ H1 hI
  · exact this.mono fun s hs => hs.2
  · clear hI σ n H1
    rintro n σ H1 ⟨hn, hj, rfl, rfl⟩
    by_cases hz : n = 0
    · subst hz
      simp [lp84_0, ha.ev]
      intro a hm2
      obtain ⟨j, hj2⟩ := List.getElem?_of_mem hm2
      exact hj j a (by have := (List.getElem?_eq_some_iff.1 hj2).1; omega) hj2
    · obtain ⟨a, hx⟩ : ∃ x, la[la.length - n]? = some x := ⟨_, List.getElem?_eq_getElem (by omega)⟩
      obtain ⟨r, o, g, p1, p2⟩ := ha.at (cs := a.cells) (i := la.length - n) (by simp [asks, hx])
      have q1 := p1 ((la.length : Int) - n) (by omega)
      have hc := hf a (List.mem_of_getElem? hx)
      have hfree : AV.freeAll a.cells = true := rfl
      cases hp : p a with
      | true =>
        rw [hp] at hc
        have h0 : 0 ≤ (la.length : Int) - n := by omega
        simp [lp84_0, ha.ev, ha.nb, q1, p2, show (la.length : Int) - n < la.length by omega, hfree, hc, fun84, h0]
        first | omega | exact ⟨⟨a, List.mem_of_getElem? hx, hp⟩, hn⟩ | trace_state
      | false =>
        rw [hp] at hc
        have hw : IntKind.i64.wrap ((la.length : Int) - n + 1) = (la.length : Int) - (n - 1 : Nat) := by rw [wrap_i64 (by omega) (by omega)]; omega
        simp [lp84_0, ha.ev, ha.nb, q1, p2, show (la.length : Int) - n < la.length by omega, hfree, hc, hw]
        refine ⟨n - 1, by omega, by omega, ?_, rfl⟩
        intro j b h hb
        by_cases hjn : j = la.length - n
        · subst hjn; rw [hx] at hb; obtain rfl := Option.some.inj hb; exact hp
        · exact hj j b (by omega) hb

theorem index84 {H : Heap} {va : AV} {la : List Ask} (ha : Sl H 4 va (asks la)) (hm : la.length ≤ 1000000) {f : FuncId} {cs : List AV} (hcs : AV.freeAll cs = true) {p : Ask → Bool} (hf : ∀ a ∈ la, callW tbl X1 f (.agg a.cells :: cs) H = some (ab (p a), H)) :
    ∃ z : Int, callW tbl X1 84 [va, .fn f cs] H = some (ai z, H) ∧ (0 ≤ z ↔ la.any p = true) := by
  have e1 : lenS va = some la.length := by rw [ha.len]; simp [asks]
  suffices h : Ends (callW tbl X1 84 [va, .fn f cs] H) fun y => y.2 = H ∧ ∃ z : Int, y.1 = ai z ∧ (0 ≤ z ↔ la.any p = true) by
    obtain ⟨⟨v, G⟩, h1, h2, z, h3, h4⟩ := h
    simp only at h2 h3; subst h2; subst h3
    exact ⟨z, h1, h4⟩
  refine call_rule (X1_none (f := 84) (by decide) _ _) rfl ?_
  rw [fun84, slots0_L 5 19 _ (by simp)]
  simp [code84, ha.ev, e1]
  refine ((index_loop ha hm hcs hf la.length _ H ⟨Nat.le_refl _, by intro j a hj; omega, rfl, ?_⟩).map (R := fun s => s.H = H ∧ IsL 19 s.σ ∧ ((s.e = .normal ∧ la.any p = false) ∨ (s.e = .ret ∧ la.any p = true ∧ ∃ z : Int, 0 ≤ z ∧ resultsA fun84.res s.σ = some (ai z)))) ?_).bind ?_
  · simp [lp84_0]
  · rintro ⟨e, σ, G⟩ ⟨h1, ht, h2⟩
    rcases h2 with ⟨h2, h3⟩ | ⟨h2, h3, z, h4, h5⟩ <;> simp only at h1 h2 ht <;> subst h1 <;> subst h2
    · simp [ht]; simpa using h3
    · refine ⟨rfl, ht, .inr ⟨rfl, h3, z, h4, h5⟩⟩
  · rintro ⟨e, σ, G⟩ ⟨h1, ⟨t, ht⟩, h2⟩
    rcases h2 with ⟨h2, h3⟩ | ⟨h2, h3, z, h4, h5⟩ <;> simp only at h1 h2 ht <;> subst h1 <;> subst h2 <;> subst ht
    · simp
      simpa using h3
    · simp [fun84] at h5
      simp [h5, h4]
      simpa using h3

theorem contains63 {H : Heap} {va : AV} {la : List Ask} (ha : Sl H 4 va (asks la)) (hm : la.length ≤ 1000000) {f : FuncId} {cs : List AV} (hcs : AV.freeAll cs = true) {p : Ask → Bool} (hf : ∀ a ∈ la, callW tbl X1 f (.agg a.cells :: cs) H = some (ab (p a), H)) :
    callW tbl X1 63 [va, .fn f cs] H = some (ab (la.any p), H) := by
  obtain ⟨z, h1, h2⟩ := index84 ha hm hcs hf
  rw [callW_eq, X1_none (f := 63) (by decide)]
  simp only [tbl, Option.bind_some, fun63, code63]
  rw [slots0_L 4 9 _ (by simp)]
  simp [ha.ev, ha.free, hcs, h1]
  by_cases h : 0 ≤ z
  · simp [h, h2.1 h]
  · have : la.any p = false := by
      cases hh : la.any p with
      | false => rfl
      | true => exact absurd (h2.2 hh) h
    simp [h, this]
end Go.A.Seat

namespace Go.A.Seat
open Go.A

/-- Is an ask's ID that of one ahead of it? -/
def twice (l : List Ask) (i : Nat) : Bool := match l[i]? with
  | some a => (l.take i).any fun b => decide (b.id = a.id)
  | none => false

theorem ask_loop {H : Heap} {va : AV} {la : List Ask} (ha : Sl H 4 va (asks la)) (hm : la.length ≤ 1000000) :
    ∀ (n : Nat) (σ : List AV) (H1 : Heap), (n ≤ la.length ∧ (∀ (j : Nat), j < la.length - n → twice la j = false) ∧ (∃ N, H1 = H ++ N) ∧ kill (headK lp34_0) σ = L 33 (((((((Tr.full 6).put (path 1) va).put (path 20) va).put (path 21) (ai la.length)).put (path 22) (ai ((la.length : Int) - n)))))) →
      Ends (execW tbl X1 (.loop lp34_0) σ H1) fun s => (∃ N, s.H = H ++ N) ∧ IsL 33 s.σ ∧ ((s.e = .exit 0 ∧ ∀ j, twice la j = false) ∨ (s.e = .ret ∧ (∃ j, twice la j = true) ∧ resultsA fun34.res s.σ = some (ai 12))) := by
  intro n σ H1 hI
  have := loop_rule (T := tbl) (X := X1) (b := lp34_0) (fun n σ H1 => n ≤ la.length ∧ (∀ (j : Nat), j < la.length - n → twice la j = false) ∧ (∃ N, H1 = H ++ N) ∧ σ = L 33 (((((((Tr.full 6).put (path 1) va).put (path 20) va).put (path 21) (ai la.length)).put (path 22) (ai ((la.length : Int) - n))))))
    (fun e σ H1 => (∃ N, H1 = H ++ N) ∧ IsL 33 σ ∧ ((e = .exit 0 ∧ ∀ j, twice la j = false) ∨ (e = .ret ∧ (∃ j, twice la j = true) ∧ resultsA fun34.res σ = some (ai 12)))) ?_ n σ H1 hI
  · exact this.mono fun s hs => hs.2
  · clear hI σ n H1
    rintro n σ M ⟨hn, hj, ⟨N, hM⟩, rfl⟩
    by_cases hz : n = 0
    · subst hz
      simp [lp34_0, ha.ev]
      refine ⟨⟨N, hM⟩, ?_⟩
      intro j
      by_cases h : j < la.length
      · exact hj j (by omega)
      · simp [twice, List.getElem?_eq_none (show la.length ≤ j by omega)]
    · obtain ⟨a, hx⟩ : ∃ x, la[la.length - n]? = some x := ⟨_, List.getElem?_eq_getElem (by omega)⟩
      have ha1 : Sl M 4 va (asks la) := hM ▸ ha.grow
      obtain ⟨r, o, g, p1, p2⟩ := ha1.at (cs := a.cells) (i := la.length - n) (by simp [asks, hx])
      have q1 := p1 ((la.length : Int) - n) (by omega)
      have ha2 : Sl (M ++ [.row a.cells]) 4 va (asks la) := ha1.grow
      obtain ⟨vc, c1, c2⟩ := ha2.cut (lo := none) (hi := some (ai ((la.length : Int) - n))) (i := 0) (j := la.length - n) rfl (by simp only [boundV]; congr 2; omega) (Nat.zero_le _) (by simp [asks])
      have hrd : rdRow (M ++ [.row a.cells]) M.length 0 1 4 = some [ai a.id] := rdRow_row (cs := a.cells) (by simp) (by simp [Ask.cells])
      have c3 : Sl (M ++ [.row a.cells]) 4 vc (asks (la.take (la.length - n))) := by simpa [asks] using c2
      have hc := contains63 c3 (by simp; omega) (f := 65) (cs := [.ptr M.length 0 4]) rfl (p := fun b => decide (b.id = a.id)) (fun b _ => is65 b a.id _ _ _ hrd)
      have hw : IntKind.i64.wrap ((la.length : Int) - n + 1) = (la.length : Int) - (n - 1 : Nat) := by rw [wrap_i64 (by omega) (by omega)]; omega
      have htw : twice la (la.length - n) = (la.take (la.length - n)).any fun b => decide (b.id = a.id) := by simp [twice, hx]
      rw [← htw] at hc
      have hvc : vc.free = true := c3.free
      have hve : ∀ i, ev1 i vc = vc := c3.ev
      obtain ⟨i, b, c, d⟩ := a
      simp only [Ask.cells] at p2 hc
      cases ht : twice la (la.length - n) with
      | true =>
        rw [ht] at hc
        simp [lp34_0, ha.ev, ha.nb, q1, p2, show (la.length : Int) - n < la.length by omega, storeA_new, c1, hvc, hve, hc]
        refine ⟨⟨N ++ [.row _], by rw [hM, List.append_assoc]⟩, ⟨_, ht⟩, rfl⟩
      | false =>
        rw [ht] at hc
        simp [lp34_0, ha.ev, ha.nb, q1, p2, show (la.length : Int) - n < la.length by omega, storeA_new, c1, hvc, hve, hc, hw]
        refine ⟨n - 1, by omega, by omega, ?_, ⟨N ++ [.row _], by rw [hM, List.append_assoc]⟩, rfl⟩
        intro j h
        by_cases hjn : j = la.length - n
        · subst hjn; exact ht
        · exact hj j (by omega)

/-- Why asks may not be shared out. -/
def askErr (total : Int) (l : List Ask) : Int :=
  if total < 0 ∨ total > 4096 ∨ l.length > 32 then 1 else if l.any (fun a => !a.right) = true then 3 else if (List.range l.length).any (twice l) = true then 12 else 0

end Go.A.Seat

namespace Go.A.Seat
open Go.A

theorem ask34 {H : Heap} {va : AV} {la : List Ask} (total : Int) (ha : Sl H 4 va (asks la)) (hm : la.length ≤ 1000000) :
    ∃ N, callW tbl X1 34 [ai total, va] H = some (ai (askErr total la), H ++ N) := by
  have e1 : lenS va = some la.length := by rw [ha.len]; simp [asks]
  suffices h : Ends (callW tbl X1 34 [ai total, va] H) fun y => y.1 = ai (askErr total la) ∧ ∃ N, y.2 = H ++ N by
    obtain ⟨⟨v, G⟩, h1, h2, N, h3⟩ := h
    simp only at h2 h3; subst h2; subst h3
    exact ⟨N, h1⟩
  refine call_rule (X1_none (f := 34) (by decide) _ _) rfl ?_
  rw [fun34, slots0_L 6 33 _ (by simp)]
  have hw := contains63 ha hm (f := 64) (cs := []) rfl (p := fun a => !a.right) (fun a _ => wrong64 a H)
  by_cases h1 : total < 0
  · simp [code34, ha.ev, e1, h1, askErr]
  · by_cases h2 : total > 4096
    · simp [code34, ha.ev, e1, h1, h2, askErr]
    · by_cases h3 : la.length > 32
      · have h3' : (la.length : Int) > 32 := by omega
        have h3'' : (32 : Int) < la.length := by omega
        simp [code34, ha.ev, e1, h1, h2, h3, h3', h3'', askErr]
      · have h3' : ¬ (la.length : Int) > 32 := by omega
        have h3'' : ¬ (32 : Int) < la.length := by omega
        cases h4 : la.any fun a => !a.right with
        | true =>
          rw [h4] at hw
          have hE : askErr total la = 3 := by unfold askErr; rw [if_neg (by omega), if_pos h4]
          rw [hE]
          simp [code34, ha.ev, ha.free, e1, h1, h2, h3, h3', h3'', hw]
        | false =>
          rw [h4] at hw
          have hE : askErr total la = if (List.range la.length).any (twice la) = true then 12 else 0 := by unfold askErr; rw [if_neg (by omega), if_neg (by rw [h4]; simp)]
          rw [hE]
          simp [code34, ha.ev, ha.free, e1, h1, h2, h3, h3', h3'', hw]
          refine ((ask_loop ha hm la.length _ H ⟨Nat.le_refl _, by intro j hj; omega, ⟨[], by simp⟩, ?_⟩).map (R := fun s => (∃ N, s.H = H ++ N) ∧ IsL 33 s.σ ∧ ((s.e = .normal ∧ ∀ j, twice la j = false) ∨ (s.e = .ret ∧ (∃ j, twice la j = true) ∧ resultsA fun34.res s.σ = some (ai 12)))) ?_).bind ?_
          · simp [lp34_0]
          · rintro ⟨e, σ, G⟩ ⟨h1, ht, h2⟩
            rcases h2 with ⟨h2, h3⟩ | ⟨h2, h3, h5⟩ <;> simp only at h1 h2 ht <;> subst h2
            · simp [ht, h3, h1]
            · exact ⟨h1, ht, .inr ⟨rfl, h3, h5⟩⟩
          · rintro ⟨e, σ, G⟩ ⟨h1, ⟨t, ht⟩, h2⟩
            rcases h2 with ⟨h2, h3⟩ | ⟨h2, ⟨j, h3⟩, h5⟩ <;> simp only at h1 h2 ht <;> subst h2 <;> subst ht
            · simp [h3, h1]
            · simp [fun34] at h5
              have hj : j < la.length := by
                cases hx : la[j]? with
                | none => simp [twice, hx] at h3
                | some a => exact (List.getElem?_eq_some_iff.1 hx).1
              have : ∃ j, j < la.length ∧ twice la j = true := ⟨j, hj, h3⟩
              simp [h5, h1, this]
end Go.A.Seat

namespace Go.A.Seat
open Go.A
set_option linter.unusedSimpArgs false

def rk (l : List Ask) (i : Nat) : Int := match l[i]? with
  | some a => a.rank
  | none => 0
/-- Does the ask at place k stand ahead of that at place i? -/
def ahead (l : List Ask) (i k : Nat) : Bool := decide (rk l k < rk l i) || (decide (rk l k = rk l i) && decide (k < i))
def cnt (l : List Ask) (i : Nat) : Nat → Nat
  | 0 => 0
  | k + 1 => cnt l i k + if ahead l i k = true then 1 else 0
theorem cnt_le (l : List Ask) (i : Nat) : ∀ k, cnt l i k ≤ k
  | 0 => Nat.le_refl _
  | k + 1 => by have := cnt_le l i k; simp only [cnt]; split <;> omega

def T17 (va vo : AV) (i n k : Int) : Tr := (((((Tr.full 6).put (path 0) va).put (path 3) vo).put (path 4) (ai i)).put (path 5) (ai n)).put (path 6) (ai k)

theorem refcount_loop {H : Heap} {va vo : AV} {la : List Ask} (ha : Sl H 4 va (asks la)) (hm : la.length ≤ 1000000) (i : Nat) (hi : i < la.length) (ev_vo : ∀ n, ev1 n vo = vo) (nb_vo : vo.isBox = false) :
    ∀ (n : Nat) (σ : List AV) (H1 : Heap), (n ≤ la.length ∧ H1 = H ∧ kill (headK lp17_0) σ = L 58 (T17 va vo i (cnt la i (la.length - n)) ((la.length : Int) - n))) →
      Ends (execW tbl X1 (.loop lp17_0) σ H1) fun s => s.H = H ∧ s.e = .exit 2 ∧ kill [6, 16, 17, 18, 19] s.σ = L 58 (((((Tr.full 6).put (path 0) va).put (path 3) vo).put (path 4) (ai i)).put (path 5) (ai (cnt la i la.length))) := by
  intro n σ H1 hI
  have := loop_rule (T := tbl) (X := X1) (b := lp17_0) (fun n σ H1 => n ≤ la.length ∧ H1 = H ∧ σ = L 58 (T17 va vo i (cnt la i (la.length - n)) ((la.length : Int) - n)))
    (fun e σ H1 => H1 = H ∧ e = .exit 2 ∧ kill [6, 16, 17, 18, 19] σ = L 58 (((((Tr.full 6).put (path 0) va).put (path 3) vo).put (path 4) (ai i)).put (path 5) (ai (cnt la i la.length)))) ?_ n σ H1 hI
  · exact this.mono fun s hs => hs.2
  · clear hI σ n H1
    rintro n σ M ⟨hn, rfl, rfl⟩
    have e1 : lenS va = some la.length := by rw [ha.len]; simp [asks]
    by_cases hz : n = 0
    · subst hz
      simp [T17, lp17_0, ha.ev, ha.nb, ev_vo, nb_vo, e1]
    · obtain ⟨a, hx⟩ : ∃ x, la[la.length - n]? = some x := ⟨_, List.getElem?_eq_getElem (by omega)⟩
      obtain ⟨b, hy⟩ : ∃ x, la[i]? = some x := ⟨_, List.getElem?_eq_getElem (by omega)⟩
      obtain ⟨r, o, g, p1, p2⟩ := ha.at (cs := a.cells) (i := la.length - n) (by simp [asks, hx])
      obtain ⟨r', o', g', p3, p4⟩ := ha.at (cs := b.cells) (i := i) (by simp [asks, hy])
      have q1 := p1 ((la.length : Int) - n) (by omega)
      have q3 := p3 i rfl
      have f1 := rdRow_field p2 (j := 1) (v := ai a.rank) rfl
      have f2 := rdRow_field p4 (j := 1) (v := ai b.rank) rfl
      have hw : IntKind.i64.wrap ((la.length : Int) - n + 1) = (la.length : Int) - (n - 1 : Nat) := by rw [wrap_i64 (by omega) (by omega)]; omega
      have hs : la.length - (n - 1) = la.length - n + 1 := by omega
      have hc := cnt_le la i (la.length - n)
      have hw2 : IntKind.i64.wrap ((cnt la i (la.length - n) : Int) + 1) = (cnt la i (la.length - n) + 1 : Nat) := by rw [wrap_i64 (by omega) (by omega)]; omega
      have hrk1 : rk la (la.length - n) = a.rank := by simp [rk, hx]
      have hrk2 : rk la i = b.rank := by simp [rk, hy]
      by_cases h1 : a.rank < b.rank
      · have hA : ahead la i (la.length - n) = true := by simp [ahead, hrk1, hrk2, h1]
        simp -implicitDefEqProofs [T17, lp17_0, ha.ev, ha.nb, ev_vo, nb_vo, e1, q1, q3, f1, f2, show (la.length : Int) - n < la.length by omega, h1, hw, hw2]
        exact ⟨n - 1, by omega, by omega, by rw [hs, cnt, hA]; simp⟩
      · by_cases h2 : a.rank = b.rank
        · by_cases h3 : la.length - n < i
          · have hA : ahead la i (la.length - n) = true := by simp [ahead, hrk1, hrk2, h1, h2, h3]
            have h3' : (la.length : Int) - n < i := by omega
            simp -implicitDefEqProofs [T17, lp17_0, ha.ev, ha.nb, ev_vo, nb_vo, e1, q1, q3, f1, f2, show (la.length : Int) - n < la.length by omega, h1, h2, h3', hw, hw2]
            exact ⟨n - 1, by omega, by omega, by rw [hs, cnt, hA]; simp⟩
          · have hA : ahead la i (la.length - n) = false := by simp [ahead, hrk1, hrk2, h1, h2, h3]
            have h3' : ¬ (la.length : Int) - n < i := by omega
            simp -implicitDefEqProofs [T17, lp17_0, ha.ev, ha.nb, ev_vo, nb_vo, e1, q1, q3, f1, f2, show (la.length : Int) - n < la.length by omega, h1, h2, h3', hw, hw2]
            exact ⟨n - 1, by omega, by omega, by rw [hs, cnt, hA]; simp⟩
        · have hA : ahead la i (la.length - n) = false := by simp [ahead, hrk1, hrk2, h1, h2]
          simp -implicitDefEqProofs [T17, lp17_0, ha.ev, ha.nb, ev_vo, nb_vo, e1, q1, q3, f1, f2, show (la.length : Int) - n < la.length by omega, h1, h2, hw, hw2]
          exact ⟨n - 1, by omega, by omega, by rw [hs, cnt, hA]; simp⟩
end Go.A.Seat

namespace Go.A.Seat
open Go.A
set_option linter.unusedSimpArgs false

/-- The reference's order, as far as place i. -/
def outAt (l : List Ask) : Nat → List Int
  | 0 => List.replicate l.length 0
  | i + 1 => (outAt l i).set (cnt l i l.length) i
theorem outAt_len (l : List Ask) : ∀ i, (outAt l i).length = l.length
  | 0 => by simp [outAt]
  | i + 1 => by simp [outAt, outAt_len l i]
theorem cnt_lt (l : List Ask) (i : Nat) (hi : i < l.length) : cnt l i l.length < l.length := by
  have key : ∀ k, i < k → cnt l i k < k := by
    intro k
    induction k with
    | zero => intro h; omega
    | succ k ih =>
      intro h
      simp only [cnt]
      by_cases hk : k = i
      · subst hk
        have : ahead l k k = false := by simp [ahead]
        have h2 := cnt_le l k k
        rw [this]; simp; omega
      · have := ih (by omega)
        split <;> omega
  exact key _ hi

def V17 (va : AV) (r n : Nat) (i : Int) : Tr := (((Tr.full 6).put (path 0) va).put (path 3) (.sl r 0 n n 1 n true)).put (path 4) (ai i)

theorem out_loop {H : Heap} {va : AV} {la : List Ask} (ha : Sl H 4 va (asks la)) (hm : la.length ≤ 1000000) :
    ∀ (n : Nat) (σ : List AV) (H1 : Heap), (n ≤ la.length ∧ H1 = H ++ [.row ((outAt la (la.length - n)).map ai)] ∧ kill (headK lp17_1) σ = L 58 (V17 va H.length la.length ((la.length : Int) - n))) →
      Ends (execW tbl X1 (.loop lp17_1) σ H1) fun s => s.H = H ++ [.row ((outAt la la.length).map ai)] ∧ s.e = .exit 0 ∧ kill [0, 4, 10, 11, 12, 13] s.σ = L 58 ((Tr.full 6).put (path 3) (.sl H.length 0 la.length la.length 1 la.length true)) := by
  intro n σ H1 hI
  have := loop_rule (T := tbl) (X := X1) (b := lp17_1) (fun n σ H1 => n ≤ la.length ∧ H1 = H ++ [.row ((outAt la (la.length - n)).map ai)] ∧ σ = L 58 (V17 va H.length la.length ((la.length : Int) - n)))
    (fun e σ H1 => H1 = H ++ [.row ((outAt la la.length).map ai)] ∧ e = .exit 0 ∧ kill [0, 4, 10, 11, 12, 13] σ = L 58 ((Tr.full 6).put (path 3) (.sl H.length 0 la.length la.length 1 la.length true))) ?_ n σ H1 hI
  · exact this.mono fun s hs => hs.2
  · clear hI σ n H1
    rintro n σ M ⟨hn, hM, rfl⟩
    have e1 : lenS va = some la.length := by rw [ha.len]; simp [asks]
    by_cases hz : n = 0
    · subst hz
      simp -implicitDefEqProofs [V17, lp17_1, ha.ev, ha.nb, e1, hM]
    · have hi : la.length - n < la.length := by omega
      have ha1 : Sl M 4 va (asks la) := hM ▸ ha.grow
      have hloop := refcount_loop ha1 hm (la.length - n) hi (vo := .sl H.length 0 la.length la.length 1 la.length true) (fun _ => rfl) rfl la.length
      have hw : IntKind.i64.wrap ((la.length : Int) - n + 1) = (la.length : Int) - (n - 1 : Nat) := by rw [wrap_i64 (by omega) (by omega)]; omega
      have hcl := cnt_lt la (la.length - n) hi
      have hcl' : (cnt la (la.length - n) la.length : Int) < la.length := by omega
      have hlen := outAt_len la (la.length - n)
      have hlen' : ((outAt la (la.length - n)).map ai).length = la.length := by simp [hlen]
      have hst := fun σ => storeA_row σ (H := M) (r := H.length) (cs := (outAt la (la.length - n)).map ai) (by rw [hM]; exact get_new _ _) (i := cnt la (la.length - n) la.length) (v := ai ((la.length : Int) - n)) (by omega) rfl
      rw [hlen'] at hst
      have hset : M.set H.length (.row (((outAt la (la.length - n)).map ai).set (cnt la (la.length - n) la.length) (ai ((la.length : Int) - n)))) = H ++ [.row ((outAt la (la.length - (n - 1))).map ai)] := by
        rw [hM, set_new, show la.length - (n - 1) = la.length - n + 1 by omega, outAt, ← List.map_set]
        congr 5
        omega
      rw [hset] at hst
      have hcast : (((la.length - n : Nat) : Nat) : Int) = (la.length : Int) - n := by omega
      simp only [hcast] at hloop
      generalize hcd : cnt la (la.length - n) la.length = c at *
      simp -implicitDefEqProofs [V17, lp17_1, ha.ev, ha.nb, e1, show (la.length : Int) - n < la.length by omega]
      rw [Option.bind_assoc]
      refine Ends.bind (Ends.map (hloop _ M ⟨Nat.le_refl _, rfl, ?_⟩) (R := fun s : St => s.H = M ∧ s.e = .normal ∧ kill [6, 16, 17, 18, 19] s.σ = L 58 (((((Tr.full 6).put (path 0) va).put (path 3) (.sl H.length 0 la.length la.length 1 la.length true)).put (path 4) (ai ((la.length : Int) - n))).put (path 5) (ai c))) ?_) ?_
      · simp -implicitDefEqProofs [lp17_0, T17, cnt]
      · rintro ⟨e, σ, G⟩ ⟨q1, q2, q3⟩
        simp only at q1 q2 q3
        subst q1; subst q2
        exact ⟨rfl, by simp [unblock], q3⟩
      · rintro ⟨e, σ, G⟩ ⟨q1, q2, q3⟩
        simp only at q1 q2 q3
        subst q1; subst q2
        simp -implicitDefEqProofs [q3, hcl', hst, hw]
        exact ⟨n - 1, by omega, by omega, rfl, rfl⟩
end Go.A.Seat

namespace Go.A.Seat
open Go.A
set_option linter.unusedSimpArgs false

theorem ref17 {H : Heap} {va : AV} {la : List Ask} (ha : Sl H 4 va (asks la)) (hm : la.length ≤ 1000000) :
    callW tbl X1 17 [va] H = some (.sl H.length 0 la.length la.length 1 la.length true, H ++ [.row ((outAt la la.length).map ai)]) := by
  suffices h : Ends (callW tbl X1 17 [va] H) fun y => y = (.sl H.length 0 la.length la.length 1 la.length true, H ++ [.row ((outAt la la.length).map ai)]) by
    obtain ⟨y, h1, rfl⟩ := h
    exact h1
  have e1 : lenS va = some la.length := by rw [ha.len]; simp [asks]
  have hmk := mks_ok H 1 8 la.length [ai 0] (by simp only [appBound]; omega) (by simp only [appBound]; omega)
  rw [rep_one, Nat.mul_one] at hmk
  have hl := out_loop ha hm la.length
  refine call_rule (X1_none (by decide) _ _) rfl ?_
  rw [fun17, slots0_L 6 58 _ (by simp)]
  simp -implicitDefEqProofs [code17, ha.ev, ha.nb, e1, hmk]
  refine Ends.bind (Ends.map (hl _ _ ⟨Nat.le_refl _, ?_, ?_⟩) (R := fun s : St => s.H = H ++ [.row ((outAt la la.length).map ai)] ∧ s.e = .normal ∧ kill [0, 4, 10, 11, 12, 13] s.σ = L 58 ((Tr.full 6).put (path 3) (.sl H.length 0 la.length la.length 1 la.length true))) ?_) ?_
  · simp [outAt]
  · simp -implicitDefEqProofs [lp17_1, V17]
  · rintro ⟨e, σ, G⟩ ⟨q1, q2, q3⟩
    simp only at q1 q2 q3
    subst q1; subst q2
    exact ⟨rfl, by simp [unblock], q3⟩
  · rintro ⟨e, σ, G⟩ ⟨q1, q2, q3⟩
    simp only at q1 q2 q3
    subst q1; subst q2
    simp -implicitDefEqProofs [q3]
end Go.A.Seat
