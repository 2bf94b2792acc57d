import Derived.Test.YtekoolanpphbfaaND
import Derived.Test.YtekoolanpphbfaaA30
set_option linter.unusedSimpArgs false
set_option linter.unusedVariables false
set_option linter.unnecessarySimpa false
namespace Go.A.Seat
open Go.A
set_option linter.unusedSimpArgs false
set_option linter.unusedVariables false

/-! Sharing, in plain Lean. -/
theorem sum_set : ∀ (l : List Int) (i : Nat) (v : Int), i < l.length → (l.set i v).sum = l.sum - l.getD i 0 + v
  | [], i, v, h => by simp at h
  | x :: r, 0, v, _ => by simp; omega
  | x :: r, i + 1, v, h => by
    have := sum_set r i v (by simpa using h)
    simp only [List.set_cons_succ, List.sum_cons, this]
    simp
    omega

theorem step_sum {l : List Ask} {rd : Nat} {s : Int × List Int} {i : Nat} (hi : i < s.2.length) : (stepS l rd s i).1 + (stepS l rd s i).2.sum = s.1 + s.2.sum := by
  simp only [stepS, sum_set _ _ _ hi]
  omega
theorem step_len (l : List Ask) (rd : Nat) (s : Int × List Int) (i : Nat) : (stepS l rd s i).2.length = s.2.length := by simp [stepS]
theorem round_sum {l : List Ask} {rd : Nat} : ∀ (S : List Nat) (s : Int × List Int), (∀ i ∈ S, i < s.2.length) → (roundS l rd S s).1 + (roundS l rd S s).2.sum = s.1 + s.2.sum
  | [], _, _ => rfl
  | i :: S, s, h => by
    have h1 := round_sum (l := l) (rd := rd) S (stepS l rd s i) (fun j hj => by rw [step_len]; exact h j (by simp [hj]))
    have h2 := step_sum (l := l) (rd := rd) (s := s) (i := i) (h i (by simp))
    show (roundS l rd S (stepS l rd s i)).1 + (roundS l rd S (stepS l rd s i)).2.sum = _
    omega

theorem getD_set_self {l : List Int} {i : Nat} (h : i < l.length) (v : Int) : (l.set i v).getD i 0 = v := by
  rw [List.getD_eq_getElem?_getD, List.getElem?_set_self h]; rfl
theorem getD_set_ne {l : List Int} {i j : Nat} (h : i ≠ j) (v : Int) : (l.set i v).getD j 0 = l.getD j 0 := by
  rw [List.getD_eq_getElem?_getD, List.getElem?_set_ne h, ← List.getD_eq_getElem?_getD]

theorem step_mono {l : List Ask} (hr : AllRight l) {rd : Nat} {s : Int × List Int} (hg : Good l s) {i : Nat} (hi : i < l.length) (j : Nat) : s.2.getD j 0 ≤ (stepS l rd s i).2.getD j 0 := by
  obtain ⟨g1, _, _⟩ := give_bounds hr (rd := rd) hg hi
  simp only [stepS]
  by_cases h : i = j
  · subst h
    rw [getD_set_self (by rw [hg.len]; exact hi)]
    omega
  · rw [getD_set_ne h]
    omega
theorem round_mono {l : List Ask} (hr : AllRight l) {rd : Nat} : ∀ (S : List Nat) {s : Int × List Int}, Good l s → (∀ i ∈ S, i < l.length) → ∀ j, s.2.getD j 0 ≤ (roundS l rd S s).2.getD j 0
  | [], _, _, _, _ => Int.le_refl _
  | i :: S, s, hg, h, j => Int.le_trans (step_mono hr (rd := rd) hg (h i (by simp)) j) (round_mono hr S (hg.step hr (h i (by simp))) (fun k hk => h k (by simp [hk])) j)
theorem round_less {l : List Ask} (hr : AllRight l) {rd : Nat} : ∀ (S : List Nat) {s : Int × List Int}, Good l s → (∀ i ∈ S, i < l.length) → (roundS l rd S s).1 ≤ s.1
  | [], _, _, _ => Int.le_refl _
  | i :: S, s, hg, h => by
    have h1 := round_less hr (rd := rd) S (hg.step hr (rd := rd) (h i (by simp))) (fun k hk => h k (by simp [hk]))
    have h2 := (give_bounds hr (rd := rd) hg (h i (by simp))).1
    show (roundS l rd S (stepS l rd s i)).1 ≤ _
    simp only [stepS] at h1 ⊢
    omega

/-- Behind the second round nothing is left, or all have what they want. -/
theorem round_full {l : List Ask} (hr : AllRight l) : ∀ (S : List Nat) {s : Int × List Int}, Good l s → (∀ i ∈ S, i < l.length) → ∀ i ∈ S, (roundS l 1 S s).1 = 0 ∨ (roundS l 1 S s).2.getD i 0 = wantOf l i
  | i :: S, s, hg, h, j, hj => by
    have hi := h i (by simp)
    have hgs := hg.step hr (rd := 1) hi
    have hS : ∀ k ∈ S, k < l.length := fun k hk => h k (by simp [hk])
    show (roundS l 1 S (stepS l 1 s i)).1 = 0 ∨ (roundS l 1 S (stepS l 1 s i)).2.getD j 0 = wantOf l j
    rcases List.mem_cons.1 hj with rfl | hj
    · have hone : (stepS l 1 s j).1 = 0 ∨ (stepS l 1 s j).2.getD j 0 = wantOf l j := by
        simp only [stepS, getD_set_self (show j < s.2.length by rw [hg.len]; exact hi), give, mn]
        simp only [Nat.one_ne_zero, if_false]
        split <;> omega
      rcases hone with h1 | h1
      · left
        have h2 := round_less hr (rd := 1) S hgs hS
        have h3 := (hgs.round hr (rd := 1) S hS).lo
        omega
      · right
        have h2 := round_mono hr (rd := 1) S hgs hS j
        have h3 := ((hgs.round hr (rd := 1) S hS).at_ j hi).2
        omega
    · exact round_full hr S hgs hS j hj

def rsum (l : List Ask) (S : List Nat) : Int := (S.map (rateOf l)).sum
theorem give_rate {l : List Ask} {s : Int × List Int} {i : Nat} : give l 0 s i ≤ rateOf l i := by
  simp only [give, mn, if_true]
  split <;> split <;> omega
theorem left_rates {l : List Ask} (hr : AllRight l) : ∀ (S : List Nat) {s : Int × List Int}, s.1 - rsum l S ≤ (roundS l 0 S s).1
  | [], s => by simp [rsum, roundS]
  | i :: S, s => by
    have h1 := left_rates hr S (s := stepS l 0 s i)
    have h2 := give_rate (l := l) (s := s) (i := i)
    show _ ≤ (roundS l 0 S (stepS l 0 s i)).1
    simp only [rsum, List.map_cons, List.sum_cons, stepS] at h1 ⊢
    omega
theorem rsum_nonneg {l : List Ask} (hr : AllRight l) : ∀ (S : List Nat), (∀ i ∈ S, i < l.length) → 0 ≤ rsum l S ∧ rsum l S ≤ 4096 * S.length
  | [], _ => by simp [rsum]
  | i :: S, h => by
    have h1 := rsum_nonneg hr S (fun k hk => h k (by simp [hk]))
    have h2 := hr i (h i (by simp))
    simp only [rsum, List.map_cons, List.sum_cons, List.length_cons] at h1 ⊢
    omega

/-- One that wants its rate gets it, if the rates of those ahead, and its own, are within the total. -/
theorem got_rate {l : List Ask} (hr : AllRight l) {total : Int} (hg : Good l (total, List.replicate l.length 0)) {A B : List Nat} {i : Nat} (hnd : (A ++ i :: B).Nodup) (hS : ∀ j ∈ A ++ i :: B, j < l.length) (h1 : rsum l (A ++ [i]) ≤ total) (h2 : rateOf l i ≤ wantOf l i) : rateOf l i ≤ (shareV l total (A ++ i :: B)).getD i 0 := by
  have hi := hS i (by simp)
  have hA : ∀ j ∈ A, j < l.length := fun j hj => hS j (by simp [hj])
  have hB : ∀ j ∈ B, j < l.length := fun j hj => hS j (by simp [hj])
  have hgA := hg.round hr (rd := 0) A hA
  have hgi := hgA.step hr (rd := 0) hi
  have hgB := hgi.round hr (rd := 0) B hB
  have e1 : roundS l 0 (A ++ i :: B) (total, List.replicate l.length 0) = roundS l 0 B (stepS l 0 (roundS l 0 A (total, List.replicate l.length 0)) i) := by simp [roundS]
  have hc0 : (roundS l 0 A (total, List.replicate l.length 0)).2.getD i 0 = 0 := by
    rw [round_other l 0 A _ i (fun hm => by
      have := (List.nodup_append.1 hnd).2.2 i hm i (by simp)
      exact this rfl)]
    simp only [List.getD_eq_getElem?_getD, List.getElem?_replicate]
    split <;> rfl
  have hleft := left_rates hr A (s := (total, List.replicate l.length 0))
  have hsum : rsum l (A ++ [i]) = rsum l A + rateOf l i := by simp [rsum]
  have hstep : (stepS l 0 (roundS l 0 A (total, List.replicate l.length 0)) i).2.getD i 0 = rateOf l i := by
    simp only [stepS, getD_set_self (show i < (roundS l 0 A (total, List.replicate l.length 0)).2.length by rw [hgA.len]; exact hi), hc0, give, mn, if_true]
    split <;> split <;> omega
  have m1 := round_mono hr (rd := 0) B hgi hB i
  have m2 := round_mono hr (rd := 1) (A ++ i :: B) hgB hS i
  rw [shareV, e1]
  omega
end Go.A.Seat

namespace Go.A.Seat
open Go.A
set_option linter.unusedSimpArgs false
set_option linter.unusedVariables false


/-! SplitAll: what each got. -/
def fullTo (l : List Ask) (os : List Int) (k : Nat) : Bool := (List.range k).all fun j => decide (os.getD j 0 = wantOf l j)
def T4 (va vo : AV) (total all : Int) (full : Bool) : Tr := (((((Tr.full 8).put (path 0) (ai total)).put (path 1) va).put (path 5) vo).put (path 7) (ai all)).put (path 8) (ab full)
def Inv4a (l : List Ask) (va vo : AV) (total : Int) (os : List Int) (H : Heap) (z : Nat) (σ : List AV) (M : Heap) : Prop :=
  ∃ k : Nat, ∃ all : Int, ∃ full : Bool, l.length - k = z ∧ k ≤ l.length ∧ all = (os.take k).sum ∧ full = fullTo l os k ∧ M = H ∧ σ = L 152 ((T4 va vo total all full).put (path 9) (ai k))
def Post4a (l : List Ask) (va vo : AV) (total : Int) (os : List Int) (H : Heap) (e : AExit) (σ : List AV) (M : Heap) : Prop :=
  e = .exit 0 ∧ ∃ all : Int, ∃ full : Bool, all = os.sum ∧ full = fullTo l os l.length ∧ M = H ∧ kill [9, 37, 38, 39, 40] σ = L 152 (T4 va vo total all full)

theorem sum_bound {l : List Ask} (hr : AllRight l) {os : List Int} (hl : os.length = l.length) (hb : ∀ i, i < l.length → 0 ≤ os.getD i 0 ∧ os.getD i 0 ≤ wantOf l i) : ∀ k, k ≤ l.length → 0 ≤ (os.take k).sum ∧ (os.take k).sum ≤ 20000 * k
  | 0, _ => by simp
  | k + 1, h => by
    have h1 := sum_bound hr hl hb k (by omega)
    have h2 := hb k (by omega)
    have h3 := hr k (by omega)
    have e : (os.take (k + 1)).sum = (os.take k).sum + os.getD k 0 := by
      rw [List.take_add_one, List.getElem?_eq_getElem (by omega), List.sum_append]
      simp [List.getD, List.getElem?_eq_getElem (show k < os.length by omega)]
    omega

theorem all_loop {H : Heap} {va vo : AV} {la : List Ask} (ha : Sl H 4 va (asks la)) (hm : la.length ≤ 1000) (hr : AllRight la) {os : List Int} (ho : Sl H 1 vo (ints os)) (hl : os.length = la.length) (hb : ∀ i, i < la.length → 0 ≤ os.getD i 0 ∧ os.getD i 0 ≤ wantOf la i) (total : Int) :
    ∀ (z : Nat) (σ : List AV) (M : Heap), Inv4a la va vo total os H z (kill (headK lp4_0) σ) M → Ends (execW tbl X1 (.loop lp4_0) σ M) fun s => Post4a la va vo total os H s.e s.σ s.H := by
  intro z σ M hI
  have := loop_rule (T := tbl) (X := X1) (b := lp4_0) (Inv4a la va vo total os H) (Post4a la va vo total os H) ?_ z σ M hI
  · exact this.mono fun s hs => hs.2
  · clear hI σ z M
    rintro z σ M ⟨k, all, full, rfl, hk, hall, hfull, hMH, rfl⟩
    have e1 : lenS va = some la.length := by rw [ha.len]; simp [asks]
    by_cases hkn : k = la.length
    · subst hkn
      simp -implicitDefEqProofs [lp4_0, T4, ha.ev, ha.nb, e1, ho.ev]
      exact ⟨rfl, all, full, by rw [hall, ← hl, List.take_length], hfull, hMH, by simp [T4, ha.ev, ho.ev]⟩
    · have hkl : k < la.length := by omega
      obtain ⟨a, hx⟩ : ∃ a, la[k]? = some a := ⟨_, List.getElem?_eq_getElem hkl⟩
      have hwa : wantOf la k = a.want := by simp [wantOf, hx]
      obtain ⟨o1, o2⟩ := hb k hkl
      obtain ⟨r1, r2, r3, r4⟩ := hr k hkl
      have hsb := sum_bound hr hl hb k hk
      have hsum : (os.take (k + 1)).sum = (os.take k).sum + os.getD k 0 := by
        rw [List.take_add_one, List.getElem?_eq_getElem (by omega), List.sum_append]
        simp [List.getD, List.getElem?_eq_getElem (show k < os.length by omega)]
      have hfn : fullTo la os (k + 1) = (fullTo la os k && decide (os.getD k 0 = wantOf la k)) := by
        simp [fullTo, List.range_succ]
      rw [← hMH] at ha ho
      obtain ⟨r, o, g, p1, p2⟩ := ha.at (cs := a.cells) (i := k) (by simp [asks, hx])
      obtain ⟨r', o', g', p3, p4⟩ := ho.at (cs := [ai (os.getD k 0)]) (i := k) (by simp [ints, List.getD, List.getElem?_eq_getElem (show k < os.length by omega)])
      have q1 := p1 k rfl
      have q3 := p3 k rfl
      have f3 := rdRow_field p2 (j := 3) (v := ai a.want) rfl
      rw [hwa] at o2 r3 r4 hfn
      generalize os.getD k 0 = v at *
      have h1 : ¬ v < 0 := by omega
      have h2 : ¬ v > a.want := by omega
      have h2' : ¬ a.want < v := by omega
      have b1 : (k : Int) < la.length := by omega
      have w1 : IntKind.i64.wrap (all + v) = all + v := wrap_i64 (by omega) (by omega)
      have w4 : IntKind.i64.wrap ((k : Int) + 1) = ((k + 1 : Nat) : Int) := by rw [wrap_i64 (by omega) (by omega)]; omega
      cases hf : full with
      | false =>
        simp -implicitDefEqProofs [lp4_0, T4, ha.ev, ha.nb, e1, ho.ev, ho.nb, b1, q1, q3, f3, p4, h1, h2, h2', w1, w4]
        exact ⟨la.length - (k + 1), by omega, k + 1, all + v, false, rfl, by omega, by rw [hsum, hall], by rw [hfn, ← hfull, hf]; rfl, hMH, by simp [T4, ha.ev, ho.ev]⟩
      | true =>
        simp -implicitDefEqProofs [lp4_0, T4, ha.ev, ha.nb, e1, ho.ev, ho.nb, b1, q1, q3, f3, p4, h1, h2, h2', w1, w4]
        exact ⟨la.length - (k + 1), by omega, k + 1, all + v, decide (v = a.want), rfl, by omega, by rw [hsum, hall], by rw [hfn, ← hfull, hf]; simp, hMH, by simp [T4, ha.ev, ho.ev]⟩
end Go.A.Seat

namespace Go.A.Seat
open Go.A
set_option linter.unusedSimpArgs false
set_option linter.unusedVariables false

/-! SplitAll: by the order of ranks. -/
def T4b (va vo vr : AV) (total all : Int) (full : Bool) (rates : Int) : Tr := (((((((Tr.full 8).put (path 0) (ai total)).put (path 1) va).put (path 5) vo).put (path 7) (ai all)).put (path 8) (ab full)).put (path 10) vr).put (path 11) (ai rates)
def Inv4b (l : List Ask) (va vo vr : AV) (total all : Int) (full : Bool) (S : List Nat) (H : Heap) (z : Nat) (σ : List AV) (M : Heap) : Prop :=
  ∃ k : Nat, ∃ rates : Int, S.length - k = z ∧ k ≤ S.length ∧ rates = rsum l (S.take k) ∧ M = H ∧ σ = L 152 ((T4b va vo vr total all full rates).put (path 12) (ai k))
def Post4b (total all : Int) (full : Bool) (H : Heap) (e : AExit) (σ : List AV) (M : Heap) : Prop :=
  e = .exit 2 ∧ M = H ∧ kill [1, 5, 10, 11, 12, 81, 82, 83, 84] σ = L 152 ((((Tr.full 8).put (path 0) (ai total)).put (path 7) (ai all)).put (path 8) (ab full))

theorem rank_loop {H : Heap} {va vo vr : AV} {la : List Ask} (ha : Sl H 4 va (asks la)) (hm : la.length ≤ 1000) (hr : AllRight la) {os : List Int} (ho : Sl H 1 vo (ints os)) (hl : os.length = la.length) (total : Int) {S : List Nat} (hp : S.Perm (List.range la.length)) (hs : S.Pairwise (lt (rk la))) (hv : Sl H 1 vr (ints (S.map fun (x : Nat) => (x : Int))))
    (hgot : ∀ (k i : Nat), S[k]? = some i → rsum la (S.take (k + 1)) ≤ total → rateOf la i ≤ wantOf la i → rateOf la i ≤ os.getD i 0) (all : Int) (full : Bool) :
    ∀ (z : Nat) (σ : List AV) (M : Heap), Inv4b la va vo vr total all full S H z (kill (headK lp4_1) σ) M → Ends (execW tbl X1 (.loop lp4_1) σ M) fun s => Post4b total all full H s.e s.σ s.H := by
  intro z σ M hI
  have := loop_rule (T := tbl) (X := X1) (b := lp4_1) (Inv4b la va vo vr total all full S H) (Post4b total all full H) ?_ z σ M hI
  · exact this.mono fun s hs => hs.2
  · clear hI σ z M
    rintro z σ M ⟨k, rates, rfl, hk, hrt, hMH, rfl⟩
    have hS : ∀ i ∈ S, i < la.length := fun i hi => by simpa using hp.mem_iff.1 hi
    have hSl : S.length = la.length := by simpa using hp.length_eq
    have hlen : lenS vr = some S.length := by rw [hv.len]; simp [ints]
    have fa := forget_free ha.free
    have fo := forget_free ho.free
    have fv := forget_free hv.free
    by_cases hkn : k = S.length
    · subst hkn
      simp -implicitDefEqProofs [lp4_1, T4b, ha.ev, ha.nb, ho.ev, hv.ev, hlen]
      exact ⟨rfl, hMH, by simp⟩
    · have hkl : k < S.length := by omega
      obtain ⟨i, hi⟩ : ∃ i, S[k]? = some i := ⟨_, List.getElem?_eq_getElem hkl⟩
      have hil := hS i (List.mem_of_getElem? hi)
      obtain ⟨a, hx⟩ : ∃ a, la[i]? = some a := ⟨_, List.getElem?_eq_getElem hil⟩
      have hwa : wantOf la i = a.want := by simp [wantOf, hx]
      have hra : rateOf la i = a.rate := by simp [rateOf, hx]
      obtain ⟨r1, r2, r3, r4⟩ := hr i hil
      have hsb := rsum_nonneg hr (S.take k) (fun j hj => hS j (List.mem_of_mem_take hj))
      rw [List.length_take] at hsb
      have hsum : rsum la (S.take (k + 1)) = rsum la (S.take k) + a.rate := by
        rw [List.take_add_one, hi, ← hra]
        simp [rsum]
      have hg := hgot k i hi
      rw [hsum, hwa, hra] at hg
      rw [← hMH] at ha ho hv
      obtain ⟨r, o, g, p1, p2⟩ := ha.at (cs := a.cells) (i := i) (by simp [asks, hx])
      obtain ⟨r', o', g', p3, p4⟩ := ho.at (cs := [ai (os.getD i 0)]) (i := i) (by simp [ints, List.getD, List.getElem?_eq_getElem (show i < os.length by omega)])
      obtain ⟨r2', o2', g2', p5, p6⟩ := hv.at (cs := [ai (i : Nat)]) (i := k) (by simp [ints, hi])
      have q1 := p1 i rfl
      have q3 := p3 i rfl
      have q5 := p5 k rfl
      rw [hra] at r1 r2
      generalize os.getD i 0 = v at *
      have b1 : (k : Int) < S.length := by omega
      have w4 : IntKind.i64.wrap ((k : Int) + 1) = ((k + 1 : Nat) : Int) := by rw [wrap_i64 (by omega) (by omega)]; omega
      obtain ⟨nr, hnr⟩ : ∃ nr, rates + a.rate = nr := ⟨_, rfl⟩
      have w1 : IntKind.i64.wrap (rates + a.rate) = nr := by rw [← hnr]; exact wrap_i64 (by omega) (by omega)
      rw [← hrt, hnr] at hg hsum
      have hnext : ∃ m, m < S.length - k ∧ Inv4b la va vo vr total all full S H m (L 152 ((T4b va vo vr total all full nr).put (path 12) (ai ((k + 1 : Nat) : Int)))) M := ⟨S.length - (k + 1), by omega, k + 1, nr, rfl, by omega, hsum.symm, hMH, rfl⟩
      obtain ⟨m, hm1, hm2⟩ := hnext
      simp only [T4b] at hm2
      simp -implicitDefEqProofs at hm2
      /- what the rates ask -/
      have hcond : (nr ≤ total ∧ a.rate ≤ a.want) → ¬ v < a.rate := fun h => by have := hg h.1 h.2; omega
      obtain ⟨c1, c2, c3, c4⟩ := a
      simp only [Ask.cells] at *
      by_cases hk0 : 0 < k
      · have k1 : (k : Int) > 0 := by omega
        have k2 : 0 < (k : Int) := by omega
        obtain ⟨i', hi'⟩ : ∃ i', S[k - 1]? = some i' := ⟨_, List.getElem?_eq_getElem (by omega)⟩
        have hil' := hS i' (List.mem_of_getElem? hi')
        obtain ⟨a', hx'⟩ : ∃ a', la[i']? = some a' := ⟨_, List.getElem?_eq_getElem hil'⟩
        have hlt : lt (rk la) i' i := by
          have h1 := (List.getElem?_eq_some_iff.1 hi').2
          have h2 := (List.getElem?_eq_some_iff.1 hi).2
          have := List.pairwise_iff_getElem.1 hs (k - 1) k (by omega) (by omega) (by omega)
          rw [h1, h2] at this
          exact this
        have hrk : ¬ a'.rank > c2 := by
          have e1 : rk la i' = a'.rank := by simp [rk, hx']
          have e2 : rk la i = c2 := by simp [rk, hx]
          unfold lt at hlt
          omega
        have hrk' : ¬ c2 < a'.rank := hrk
        obtain ⟨r5, o5, g5, p7, p8⟩ := ha.at (cs := a'.cells) (i := i') (by simp [asks, hx'])
        obtain ⟨r6, o6, g6, p9, p10⟩ := hv.at (cs := [ai (i' : Nat)]) (i := k - 1) (by simp [ints, hi'])
        have q7 := p7 i' rfl
        have q9 := p9 ((k : Int) - 1) (by omega)
        have w7 : IntKind.i64.wrap ((k : Int) - 1) = (k : Int) - 1 := wrap_i64 (by omega) (by omega)
        have f8 := rdRow_field p8 (j := 1) (v := ai a'.rank) rfl
        by_cases h1 : nr ≤ total
        · by_cases h2 : c3 ≤ c4
          · have h3 := hcond ⟨h1, h2⟩
            simp -implicitDefEqProofs [-forget, forget_c, forget_undef, forget_sl, forget_ptr, forget_lptr, forget_lbox, forget_agg, forget_tup, forget_fn, forget_iface, lp4_1, T4b, ha.ev, ha.nb, ha.free, ho.ev, ho.nb, hv.ev, hv.nb, fa, fo, fv, hlen, b1, q1, q3, q5, p2, p4, p6, w1, w4, AV.one, hk0, k1, k2, hrk, hrk', q7, q9, p10, w7, f8, h1, h2, h3]
            exact ⟨m, hm1, hm2⟩
          · simp -implicitDefEqProofs [-forget, forget_c, forget_undef, forget_sl, forget_ptr, forget_lptr, forget_lbox, forget_agg, forget_tup, forget_fn, forget_iface, lp4_1, T4b, ha.ev, ha.nb, ha.free, ho.ev, ho.nb, hv.ev, hv.nb, fa, fo, fv, hlen, b1, q1, q3, q5, p2, p4, p6, w1, w4, AV.one, hk0, k1, k2, hrk, hrk', q7, q9, p10, w7, f8, h1, h2]
            exact ⟨m, hm1, hm2⟩
        · simp -implicitDefEqProofs [-forget, forget_c, forget_undef, forget_sl, forget_ptr, forget_lptr, forget_lbox, forget_agg, forget_tup, forget_fn, forget_iface, lp4_1, T4b, ha.ev, ha.nb, ha.free, ho.ev, ho.nb, hv.ev, hv.nb, fa, fo, fv, hlen, b1, q1, q3, q5, p2, p4, p6, w1, w4, AV.one, hk0, k1, k2, hrk, hrk', q7, q9, p10, w7, f8, h1]
          exact ⟨m, hm1, hm2⟩
      · have k1 : ¬ (k : Int) > 0 := by omega
        have k2 : ¬ 0 < (k : Int) := by omega
        by_cases h1 : nr ≤ total
        · by_cases h2 : c3 ≤ c4
          · have h3 := hcond ⟨h1, h2⟩
            simp -implicitDefEqProofs [-forget, forget_c, forget_undef, forget_sl, forget_ptr, forget_lptr, forget_lbox, forget_agg, forget_tup, forget_fn, forget_iface, lp4_1, T4b, ha.ev, ha.nb, ha.free, ho.ev, ho.nb, hv.ev, hv.nb, fa, fo, fv, hlen, b1, q1, q3, q5, p2, p4, p6, w1, w4, AV.one, hk0, k1, k2, h1, h2, h3]
            exact ⟨m, hm1, hm2⟩
          · simp -implicitDefEqProofs [-forget, forget_c, forget_undef, forget_sl, forget_ptr, forget_lptr, forget_lbox, forget_agg, forget_tup, forget_fn, forget_iface, lp4_1, T4b, ha.ev, ha.nb, ha.free, ho.ev, ho.nb, hv.ev, hv.nb, fa, fo, fv, hlen, b1, q1, q3, q5, p2, p4, p6, w1, w4, AV.one, hk0, k1, k2, h1, h2]
            exact ⟨m, hm1, hm2⟩
        · simp -implicitDefEqProofs [-forget, forget_c, forget_undef, forget_sl, forget_ptr, forget_lptr, forget_lbox, forget_agg, forget_tup, forget_fn, forget_iface, lp4_1, T4b, ha.ev, ha.nb, ha.free, ho.ev, ho.nb, hv.ev, hv.nb, fa, fo, fv, hlen, b1, q1, q3, q5, p2, p4, p6, w1, w4, AV.one, hk0, k1, k2, h1]
          exact ⟨m, hm1, hm2⟩
end Go.A.Seat

namespace Go.A.Seat
open Go.A
set_option linter.unusedSimpArgs false
set_option linter.unusedVariables false

theorem fullTo_iff {l : List Ask} {os : List Int} {n : Nat} : fullTo l os n = true ↔ ∀ j, j < n → os.getD j 0 = wantOf l j := by
  simp [fullTo]

/-- What is told of a sharing that is well. -/
theorem shared {la : List Ask} {total : Int} {S : List Nat} (he : askErr total la = 0) (hp : S.Perm (List.range la.length)) :
    AllRight la ∧ Good la (total, List.replicate la.length 0) ∧ (∀ i, i < la.length → 0 ≤ (shareV la total S).getD i 0 ∧ (shareV la total S).getD i 0 ≤ wantOf la i) ∧ (shareV la total S).sum ≤ total ∧ (fullTo la (shareV la total S) la.length = true ∨ (shareV la total S).sum = total) ∧ la.length ≤ 32 := by
  have hab : ¬ (total < 0 ∨ total > 4096 ∨ la.length > 32) ∧ la.any (fun a => !a.right) = false := by
    unfold askErr at he
    split at he
    · simp at he
    · rename_i h1
      split at he
      · simp at he
      · rename_i h2
        exact ⟨h1, by simpa using h2⟩
  obtain ⟨hb, hall⟩ := hab
  have hr := allRight_of hall
  have hS : ∀ i ∈ S, i < la.length := fun i hi => by simpa using hp.mem_iff.1 hi
  have hg0 : Good la (total, List.replicate la.length 0) := by
    refine ⟨by simp only; omega, by simp only; omega, by simp, fun i hi => ?_⟩
    have := hr i hi
    simp only [List.getD_eq_getElem?_getD, List.getElem?_replicate, if_pos hi, Option.getD_some]
    omega
  have hg1 := hg0.round hr (rd := 0) S hS
  have hg2 := hg1.round hr (rd := 1) S hS
  have e1 := round_sum (l := la) (rd := 0) S (total, List.replicate la.length 0) (fun i hi => by simpa using hS i hi)
  have e2 := round_sum (l := la) (rd := 1) S (roundS la 0 S (total, List.replicate la.length 0)) (fun i hi => by rw [hg1.len]; exact hS i hi)
  have hz : (List.replicate la.length (0 : Int)).sum = 0 := by simp
  simp only at e1
  have hlo := hg2.lo
  refine ⟨hr, hg0, hg2.at_, by rw [shareV]; omega, ?_, by omega⟩
  by_cases h0 : (roundS la 1 S (roundS la 0 S (total, List.replicate la.length 0))).1 = 0
  · right; rw [shareV]; omega
  · left
    rw [fullTo_iff]
    intro j hj
    rcases round_full hr S hg1 hS j (hp.mem_iff.2 (by simpa using hj)) with h | h
    · exact absurd h h0
    · exact h

theorem law4 {H : Heap} {va : AV} {la : List Ask} (total : Int) (ha : Sl H 4 va (asks la)) : Ends (callW tbl X1 4 [ai total, va] H) fun y => y.1 = ab true := by
  have e1 : lenS va = some la.length := by rw [ha.len]; simp [asks]
  refine call_rule (X1_none (by decide) _ _) rfl ?_
  rw [fun4, slots0_L 8 152 _ (by simp)]
  by_cases hbig : la.length > 60
  · have h1 : (la.length : Int) > 60 := by omega
    have h2 : (60 : Int) < la.length := by omega
    simp -implicitDefEqProofs [code4, ha.ev, e1, h1, h2, alive10]
  · have h1 : ¬ (la.length : Int) > 60 := by omega
    have h2 : ¬ (60 : Int) < la.length := by omega
    obtain ⟨⟨v, M⟩, c13, N, v13, os, hy, hvf, hvb, hos, herr, hok⟩ := share13 total ha (by omega)
    simp only [Prod.mk.injEq] at hy
    obtain ⟨rfl, hM⟩ := hy
    rw [← hM] at hos
    have ha1 : Sl M 4 va (asks la) := hM ▸ ha.grow
    have hlo : lenS v13 = some os.length := by rw [hos.len]; simp [ints]
    by_cases he : askErr total la = 0
    · obtain ⟨S, hp, hs, rfl⟩ := hok he
      obtain ⟨hr, hg0, hb, hs1, hs2, h32⟩ := shared he hp
      have hl := shareV_len la total S
      obtain ⟨N2, vr, S', hp', hs', c16, hrf, hrb, hrS⟩ := order16 ha1 (by omega)
      obtain rfl := order_unique hp hs hp' hs'
      obtain ⟨M2, hM2⟩ : ∃ M2, M ++ N2 = M2 := ⟨_, rfl⟩
      have ha2 : Sl M2 4 va (asks la) := hM2 ▸ ha1.grow
      have ho2 : Sl M2 1 v13 (ints (shareV la total S)) := hM2 ▸ hos.grow
      have hv2 : Sl M2 1 vr (ints (S.map fun (x : Nat) => (x : Int))) := hM2 ▸ hrS M rfl
      rw [hM2] at c16
      have hgot : ∀ (k i : Nat), S[k]? = some i → rsum la (S.take (k + 1)) ≤ total → rateOf la i ≤ wantOf la i → rateOf la i ≤ (shareV la total S).getD i 0 := by
        intro k i hki h3 h4
        have hkl := (List.getElem?_eq_some_iff.1 hki).1
        have hS : S = S.take k ++ i :: S.drop (k + 1) := by
          have h5 := (List.getElem?_eq_some_iff.1 hki).2
          conv => lhs; rw [← List.take_append_drop k S]
          congr 1
          rw [← h5]
          exact List.drop_eq_getElem_cons hkl
        have hnd : S.Nodup := hp.nodup_iff.2 List.nodup_range
        have hSi : ∀ j ∈ S, j < la.length := fun j hj => by simpa using hp.mem_iff.1 hj
        rw [List.take_add_one, hki] at h3
        rw [hS] at hnd hSi
        have := got_rate hr hg0 hnd hSi h3 h4
        rw [← hS] at this
        exact this
      have hl1 := all_loop ha1 (by omega) hr hos hl hb total la.length
      have hl2 := rank_loop ha2 (by omega) hr ho2 hl total hp hs hv2 hgot (shareV la total S).sum (fullTo la (shareV la total S) la.length) S.length
      rw [hl] at hlo
      generalize shareV la total S = os at *
      simp -implicitDefEqProofs [code4, ha.ev, ha.free, e1, h1, h2, c13, he, hvf, hvb, ev1_nb hvb, hlo]
      repeat rw [Option.bind_assoc]
      refine Ends.bind (Q := fun s : St => Post4a la va v13 total os M (AExit.exit 0) s.σ s.H ∧ s.e = .normal) (Ends.map (hl1 _ _ ⟨0, 0, true, by omega, by omega, by simp, by simp [fullTo], rfl, by simp [lp4_0, T4, ha.ev, ev1_nb hvb]⟩) ?_) ?_
      · rintro ⟨e, σ, G⟩ ⟨q1, q2⟩
        simp only at q1
        subst q1
        exact ⟨⟨rfl, q2⟩, by simp [unblock]⟩
      · rintro ⟨e, σ, M'⟩ ⟨⟨_, all, full, g1, g2, g3, g4⟩, q1⟩
        simp only at q1 g3 g4
        subst q1; subst g3
        simp only [T4] at g4
        simp -implicitDefEqProofs [g4, ha.ev, ha.free, ha.nb, ev1_nb hvb, c16, hrf, hrb, ev1_nb hrb]
        repeat rw [Option.bind_assoc]
        refine Ends.bind (Q := fun s : St => Post4b total all full M2 (AExit.exit 2) s.σ s.H ∧ s.e = .normal) (Ends.map (f := execW tbl X1 lp4_1.loop _ M2) (by rw [g1, g2]; exact hl2 _ _ ⟨0, 0, by omega, by omega, by simp [rsum], rfl, by simp [lp4_1, T4b, ha.ev, ev1_nb hvb, ev1_nb hrb]⟩) ?_) ?_
        · rintro ⟨e, σ, G⟩ ⟨q1, q2⟩
          simp only at q1
          subst q1
          exact ⟨⟨rfl, by rw [← g1, ← g2] at q2; exact q2⟩, by simp [unblock]⟩
        · rintro ⟨e, σ, M''⟩ ⟨⟨_, g5, g6⟩, q1⟩
          simp only at q1 g5 g6
          subst q1; subst g5
          have hle : all ≤ total := by omega
          cases hf : full with
          | true => simp -implicitDefEqProofs [g6, hf, alive10, hle]
          | false =>
            have hal : all = total := by
              rcases hs2 with h | h
              · rw [← g2, hf] at h; simp at h
              · omega
            simp -implicitDefEqProofs [g6, hf, alive10, hal]
    · have ho0 := herr he
      subst ho0
      simp -implicitDefEqProofs [code4, ha.ev, ha.free, e1, h1, h2, c13, he, hvf, hvb, ev1_nb hvb, hlo, alive10]
end Go.A.Seat
