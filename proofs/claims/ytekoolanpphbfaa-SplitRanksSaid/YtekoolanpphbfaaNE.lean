import Derived.Test.YtekoolanpphbfaaND
import Derived.Test.YtekoolanpphbfaaA30
set_option linter.unusedSimpArgs false
set_option linter.unusedVariables false
set_option linter.unnecessarySimpa false
namespace Go.A.Seat
open Go.A
set_option linter.unusedSimpArgs false
set_option linter.unusedVariables false

/-! Sharing, in plain Lean. -/
theorem sum_set : ∀ (l : List Int) (i : Nat) (v : Int), i < l.length → (l.set i v).sum = l.sum - l.getD i 0 + v
  | [], i, v, h => by simp at h
  | x :: r, 0, v, _ => by simp; omega
  | x :: r, i + 1, v, h => by
    have := sum_set r i v (by simpa using h)
    simp only [List.set_cons_succ, List.sum_cons, this]
    simp
    omega

theorem step_sum {l : List Ask} {rd : Nat} {s : Int × List Int} {i : Nat} (hi : i < s.2.length) : (stepS l rd s i).1 + (stepS l rd s i).2.sum = s.1 + s.2.sum := by
  simp only [stepS, sum_set _ _ _ hi]
  omega
theorem step_len (l : List Ask) (rd : Nat) (s : Int × List Int) (i : Nat) : (stepS l rd s i).2.length = s.2.length := by simp [stepS]
theorem round_sum {l : List Ask} {rd : Nat} : ∀ (S : List Nat) (s : Int × List Int), (∀ i ∈ S, i < s.2.length) → (roundS l rd S s).1 + (roundS l rd S s).2.sum = s.1 + s.2.sum
  | [], _, _ => rfl
  | i :: S, s, h => by
    have h1 := round_sum (l := l) (rd := rd) S (stepS l rd s i) (fun j hj => by rw [step_len]; exact h j (by simp [hj]))
    have h2 := step_sum (l := l) (rd := rd) (s := s) (i := i) (h i (by simp))
    show (roundS l rd S (stepS l rd s i)).1 + (roundS l rd S (stepS l rd s i)).2.sum = _
    omega

theorem getD_set_self {l : List Int} {i : Nat} (h : i < l.length) (v : Int) : (l.set i v).getD i 0 = v := by
  rw [List.getD_eq_getElem?_getD, List.getElem?_set_self h]; rfl
theorem getD_set_ne {l : List Int} {i j : Nat} (h : i ≠ j) (v : Int) : (l.set i v).getD j 0 = l.getD j 0 := by
  rw [List.getD_eq_getElem?_getD, List.getElem?_set_ne h, ← List.getD_eq_getElem?_getD]

theorem step_mono {l : List Ask} (hr : AllRight l) {rd : Nat} {s : Int × List Int} (hg : Good l s) {i : Nat} (hi : i < l.length) (j : Nat) : s.2.getD j 0 ≤ (stepS l rd s i).2.getD j 0 := by
  obtain ⟨g1, _, _⟩ := give_bounds hr (rd := rd) hg hi
  simp only [stepS]
  by_cases h : i = j
  · subst h
    rw [getD_set_self (by rw [hg.len]; exact hi)]
    omega
  · rw [getD_set_ne h]
    omega
theorem round_mono {l : List Ask} (hr : AllRight l) {rd : Nat} : ∀ (S : List Nat) {s : Int × List Int}, Good l s → (∀ i ∈ S, i < l.length) → ∀ j, s.2.getD j 0 ≤ (roundS l rd S s).2.getD j 0
  | [], _, _, _, _ => Int.le_refl _
  | i :: S, s, hg, h, j => Int.le_trans (step_mono hr (rd := rd) hg (h i (by simp)) j) (round_mono hr S (hg.step hr (h i (by simp))) (fun k hk => h k (by simp [hk])) j)
theorem round_less {l : List Ask} (hr : AllRight l) {rd : Nat} : ∀ (S : List Nat) {s : Int × List Int}, Good l s → (∀ i ∈ S, i < l.length) → (roundS l rd S s).1 ≤ s.1
  | [], _, _, _ => Int.le_refl _
  | i :: S, s, hg, h => by
    have h1 := round_less hr (rd := rd) S (hg.step hr (rd := rd) (h i (by simp))) (fun k hk => h k (by simp [hk]))
    have h2 := (give_bounds hr (rd := rd) hg (h i (by simp))).1
    show (roundS l rd S (stepS l rd s i)).1 ≤ _
    simp only [stepS] at h1 ⊢
    omega

/-- Behind the second round nothing is left, or all have what they want. -/
theorem round_full {l : List Ask} (hr : AllRight l) : ∀ (S : List Nat) {s : Int × List Int}, Good l s → (∀ i ∈ S, i < l.length) → ∀ i ∈ S, (roundS l 1 S s).1 = 0 ∨ (roundS l 1 S s).2.getD i 0 = wantOf l i
  | i :: S, s, hg, h, j, hj => by
    have hi := h i (by simp)
    have hgs := hg.step hr (rd := 1) hi
    have hS : ∀ k ∈ S, k < l.length := fun k hk => h k (by simp [hk])
    show (roundS l 1 S (stepS l 1 s i)).1 = 0 ∨ (roundS l 1 S (stepS l 1 s i)).2.getD j 0 = wantOf l j
    rcases List.mem_cons.1 hj with rfl | hj
    · have hone : (stepS l 1 s j).1 = 0 ∨ (stepS l 1 s j).2.getD j 0 = wantOf l j := by
        simp only [stepS, getD_set_self (show j < s.2.length by rw [hg.len]; exact hi), give, mn]
        simp only [Nat.one_ne_zero, if_false]
        split <;> omega
      rcases hone with h1 | h1
      · left
        have h2 := round_less hr (rd := 1) S hgs hS
        have h3 := (hgs.round hr (rd := 1) S hS).lo
        omega
      · right
        have h2 := round_mono hr (rd := 1) S hgs hS j
        have h3 := ((hgs.round hr (rd := 1) S hS).at_ j hi).2
        omega
    · exact round_full hr S hgs hS j hj

def rsum (l : List Ask) (S : List Nat) : Int := (S.map (rateOf l)).sum
theorem give_rate {l : List Ask} {s : Int × List Int} {i : Nat} : give l 0 s i ≤ rateOf l i := by
  simp only [give, mn, if_true]
  split <;> split <;> omega
theorem left_rates {l : List Ask} (hr : AllRight l) : ∀ (S : List Nat) {s : Int × List Int}, s.1 - rsum l S ≤ (roundS l 0 S s).1
  | [], s => by simp [rsum, roundS]
  | i :: S, s => by
    have h1 := left_rates hr S (s := stepS l 0 s i)
    have h2 := give_rate (l := l) (s := s) (i := i)
    show _ ≤ (roundS l 0 S (stepS l 0 s i)).1
    simp only [rsum, List.map_cons, List.sum_cons, stepS] at h1 ⊢
    omega
theorem rsum_nonneg {l : List Ask} (hr : AllRight l) : ∀ (S : List Nat), (∀ i ∈ S, i < l.length) → 0 ≤ rsum l S ∧ rsum l S ≤ 4096 * S.length
  | [], _ => by simp [rsum]
  | i :: S, h => by
    have h1 := rsum_nonneg hr S (fun k hk => h k (by simp [hk]))
    have h2 := hr i (h i (by simp))
    simp only [rsum, List.map_cons, List.sum_cons, List.length_cons] at h1 ⊢
    omega

/-- One that wants its rate gets it, if the rates of those ahead, and its own, are within the total. -/
theorem got_rate {l : List Ask} (hr : AllRight l) {total : Int} (hg : Good l (total, List.replicate l.length 0)) {A B : List Nat} {i : Nat} (hnd : (A ++ i :: B).Nodup) (hS : ∀ j ∈ A ++ i :: B, j < l.length) (h1 : rsum l (A ++ [i]) ≤ total) (h2 : rateOf l i ≤ wantOf l i) : rateOf l i ≤ (shareV l total (A ++ i :: B)).getD i 0 := by
  have hi := hS i (by simp)
  have hA : ∀ j ∈ A, j < l.length := fun j hj => hS j (by simp [hj])
  have hB : ∀ j ∈ B, j < l.length := fun j hj => hS j (by simp [hj])
  have hgA := hg.round hr (rd := 0) A hA
  have hgi := hgA.step hr (rd := 0) hi
  have hgB := hgi.round hr (rd := 0) B hB
  have e1 : roundS l 0 (A ++ i :: B) (total, List.replicate l.length 0) = roundS l 0 B (stepS l 0 (roundS l 0 A (total, List.replicate l.length 0)) i) := by simp [roundS]
  have hc0 : (roundS l 0 A (total, List.replicate l.length 0)).2.getD i 0 = 0 := by
    rw [round_other l 0 A _ i (fun hm => by
      have := (List.nodup_append.1 hnd).2.2 i hm i (by simp)
      exact this rfl)]
    simp only [List.getD_eq_getElem?_getD, List.getElem?_replicate]
    split <;> rfl
  have hleft := left_rates hr A (s := (total, List.replicate l.length 0))
  have hsum : rsum l (A ++ [i]) = rsum l A + rateOf l i := by simp [rsum]
  have hstep : (stepS l 0 (roundS l 0 A (total, List.replicate l.length 0)) i).2.getD i 0 = rateOf l i := by
    simp only [stepS, getD_set_self (show i < (roundS l 0 A (total, List.replicate l.length 0)).2.length by rw [hgA.len]; exact hi), hc0, give, mn, if_true]
    split <;> split <;> omega
  have m1 := round_mono hr (rd := 0) B hgi hB i
  have m2 := round_mono hr (rd := 1) (A ++ i :: B) hgB hS i
  rw [shareV, e1]
  omega
end Go.A.Seat

namespace Go.A.Seat
open Go.A
set_option linter.unusedSimpArgs false
set_option linter.unusedVariables false


/-! SplitAll: what each got. -/
def fullTo (l : List Ask) (os : List Int) (k : Nat) : Bool := (List.range k).all fun j => decide (os.getD j 0 = wantOf l j)
def T4 (va vo : AV) (total all : Int) (full : Bool) : Tr := (((((Tr.full 8).put (path 0) (ai total)).put (path 1) va).put (path 5) vo).put (path 7) (ai all)).put (path 8) (ab full)
def Inv4a (l : List Ask) (va vo : AV) (total : Int) (os : List Int) (H : Heap) (z : Nat) (σ : List AV) (M : Heap) : Prop :=
  ∃ k : Nat, ∃ all : Int, ∃ full : Bool, l.length - k = z ∧ k ≤ l.length ∧ all = (os.take k).sum ∧ full = fullTo l os k ∧ M = H ∧ σ = L 152 ((T4 va vo total all full).put (path 9) (ai k))
def Post4a (l : List Ask) (va vo : AV) (total : Int) (os : List Int) (H : Heap) (e : AExit) (σ : List AV) (M : Heap) : Prop :=
  e = .exit 0 ∧ ∃ all : Int, ∃ full : Bool, all = os.sum ∧ full = fullTo l os l.length ∧ M = H ∧ kill [9, 37, 38, 39, 40] σ = L 152 (T4 va vo total all full)

theorem sum_bound {l : List Ask} (hr : AllRight l) {os : List Int} (hl : os.length = l.length) (hb : ∀ i, i < l.length → 0 ≤ os.getD i 0 ∧ os.getD i 0 ≤ wantOf l i) : ∀ k, k ≤ l.length → 0 ≤ (os.take k).sum ∧ (os.take k).sum ≤ 20000 * k
  | 0, _ => by simp
  | k + 1, h => by
    have h1 := sum_bound hr hl hb k (by omega)
    have h2 := hb k (by omega)
    have h3 := hr k (by omega)
    have e : (os.take (k + 1)).sum = (os.take k).sum + os.getD k 0 := by
      rw [List.take_add_one, List.getElem?_eq_getElem (by omega), List.sum_append]
      simp [List.getD, List.getElem?_eq_getElem (show k < os.length by omega)]
    omega

theorem all_loop {H : Heap} {va vo : AV} {la : List Ask} (ha : Sl H 4 va (asks la)) (hm : la.length ≤ 1000) (hr : AllRight la) {os : List Int} (ho : Sl H 1 vo (ints os)) (hl : os.length = la.length) (hb : ∀ i, i < la.length → 0 ≤ os.getD i 0 ∧ os.getD i 0 ≤ wantOf la i) (total : Int) :
    ∀ (z : Nat) (σ : List AV) (M : Heap), Inv4a la va vo total os H z (kill (headK lp4_0) σ) M → Ends (execW tbl X1 (.loop lp4_0) σ M) fun s => Post4a la va vo total os H s.e s.σ s.H := by
  intro z σ M hI
  have := loop_rule (T := tbl) (X := X1) (b := lp4_0) (Inv4a la va vo total os H) (Post4a la va vo total os H) ?_ z σ M hI
  · exact this.mono fun s hs => hs.2
  · clear hI σ z M
    rintro z σ M ⟨k, all, full, rfl, hk, hall, hfull, hMH, rfl⟩
    have e1 : lenS va = some la.length := by rw [ha.len]; simp [asks]
    by_cases hkn : k = la.length
    · subst hkn
      simp -implicitDefEqProofs [lp4_0, T4, ha.ev, ha.nb, e1, ho.ev]
      exact ⟨rfl, all, full, by rw [hall, ← hl, List.take_length], hfull, hMH, by simp [T4, ha.ev, ho.ev]⟩
    · have hkl : k < la.length := by omega
      obtain ⟨a, hx⟩ : ∃ a, la[k]? = some a := ⟨_, List.getElem?_eq_getElem hkl⟩
      have hwa : wantOf la k = a.want := by simp [wantOf, hx]
      obtain ⟨o1, o2⟩ := hb k hkl
      obtain ⟨r1, r2, r3, r4⟩ := hr k hkl
      have hsb := sum_bound hr hl hb k hk
      have hsum : (os.take (k + 1)).sum = (os.take k).sum + os.getD k 0 := by
        rw [List.take_add_one, List.getElem?_eq_getElem (by omega), List.sum_append]
        simp [List.getD, List.getElem?_eq_getElem (show k < os.length by omega)]
      have hfn : fullTo la os (k + 1) = (fullTo la os k && decide (os.getD k 0 = wantOf la k)) := by
        simp [fullTo, List.range_succ]
      rw [← hMH] at ha ho
      obtain ⟨r, o, g, p1, p2⟩ := ha.at (cs := a.cells) (i := k) (by simp [asks, hx])
      obtain ⟨r', o', g', p3, p4⟩ := ho.at (cs := [ai (os.getD k 0)]) (i := k) (by simp [ints, List.getD, List.getElem?_eq_getElem (show k < os.length by omega)])
      have q1 := p1 k rfl
      have q3 := p3 k rfl
      have f3 := rdRow_field p2 (j := 3) (v := ai a.want) rfl
      rw [hwa] at o2 r3 r4 hfn
      generalize os.getD k 0 = v at *
      have h1 : ¬ v < 0 := by omega
      have h2 : ¬ v > a.want := by omega
      have h2' : ¬ a.want < v := by omega
      have b1 : (k : Int) < la.length := by omega
      have w1 : IntKind.i64.wrap (all + v) = all + v := wrap_i64 (by omega) (by omega)
      have w4 : IntKind.i64.wrap ((k : Int) + 1) = ((k + 1 : Nat) : Int) := by rw [wrap_i64 (by omega) (by omega)]; omega
      cases hf : full with
      | false =>
        simp -implicitDefEqProofs [lp4_0, T4, ha.ev, ha.nb, e1, ho.ev, ho.nb, b1, q1, q3, f3, p4, h1, h2, h2', w1, w4]
        exact ⟨la.length - (k + 1), by omega, k + 1, all + v, false, rfl, by omega, by rw [hsum, hall], by rw [hfn, ← hfull, hf]; rfl, hMH, by simp [T4, ha.ev, ho.ev]⟩
      | true =>
        simp -implicitDefEqProofs [lp4_0, T4, ha.ev, ha.nb, e1, ho.ev, ho.nb, b1, q1, q3, f3, p4, h1, h2, h2', w1, w4]
        exact ⟨la.length - (k + 1), by omega, k + 1, all + v, decide (v = a.want), rfl, by omega, by rw [hsum, hall], by rw [hfn, ← hfull, hf]; simp, hMH, by simp [T4, ha.ev, ho.ev]⟩
end Go.A.Seat

namespace Go.A.Seat
open Go.A
set_option linter.unusedSimpArgs false
set_option linter.unusedVariables false

/-! SplitAll: by the order of ranks. -/
def T4b (va vo vr : AV) (total all : Int) (full : Bool) (rates : Int) : Tr := (((((((Tr.full 8).put (path 0) (ai total)).put (path 1) va).put (path 5) vo).put (path 7) (ai all)).put (path 8) (ab full)).put (path 10) vr).put (path 11) (ai rates)
def Inv4b (l : List Ask) (va vo vr : AV) (total all : Int) (full : Bool) (S : List Nat) (H : Heap) (z : Nat) (σ : List AV) (M : Heap) : Prop :=
  ∃ k : Nat, ∃ rates : Int, S.length - k = z ∧ k ≤ S.length ∧ rates = rsum l (S.take k) ∧ M = H ∧ σ = L 152 ((T4b va vo vr total all full rates).put (path 12) (ai k))
def Post4b (total all : Int) (full : Bool) (H : Heap) (e : AExit) (σ : List AV) (M : Heap) : Prop :=
  e = .exit 2 ∧ M = H ∧ kill [1, 5, 10, 11, 12, 81, 82, 83, 84] σ = L 152 ((((Tr.full 8).put (path 0) (ai total)).put (path 7) (ai all)).put (path 8) (ab full))

theorem rank_loop {H : Heap} {va vo vr : AV} {la : List Ask} (ha : Sl H 4 va (asks la)) (hm : la.length ≤ 1000) (hr : AllRight la) {os : List Int} (ho : Sl H 1 vo (ints os)) (hl : os.length = la.length) (total : Int) {S : List Nat} (hp : S.Perm (List.range la.length)) (hs : S.Pairwise (lt (rk la))) (hv : Sl H 1 vr (ints (S.map fun (x : Nat) => (x : Int))))
    (hgot : ∀ (k i : Nat), S[k]? = some i → rsum la (S.take (k + 1)) ≤ total → rateOf la i ≤ wantOf la i → rateOf la i ≤ os.getD i 0) (all : Int) (full : Bool) :
    ∀ (z : Nat) (σ : List AV) (M : Heap), Inv4b la va vo vr total all full S H z (kill (headK lp4_1) σ) M → Ends (execW tbl X1 (.loop lp4_1) σ M) fun s => Post4b total all full H s.e s.σ s.H := by
  intro z σ M hI
  have := loop_rule (T := tbl) (X := X1) (b := lp4_1) (Inv4b la va vo vr total all full S H) (Post4b total all full H) ?_ z σ M hI
  · exact this.mono fun s hs => hs.2
  · clear hI σ z M
    rintro z σ M ⟨k, rates, rfl, hk, hrt, hMH, rfl⟩
    have hS : ∀ i ∈ S, i < la.length := fun i hi => by simpa using hp.mem_iff.1 hi
    have hSl : S.length = la.length := by simpa using hp.length_eq
    have hlen : lenS vr = some S.length := by rw [hv.len]; simp [ints]
    have fa := forget_free ha.free
    have fo := forget_free ho.free
    have fv := forget_free hv.free
    by_cases hkn : k = S.length
    · subst hkn
      simp -implicitDefEqProofs [lp4_1, T4b, ha.ev, ha.nb, ho.ev, hv.ev, hlen]
      exact ⟨rfl, hMH, by simp⟩
    · have hkl : k < S.length := by omega
      obtain ⟨i, hi⟩ : ∃ i, S[k]? = some i := ⟨_, List.getElem?_eq_getElem hkl⟩
      have hil := hS i (List.mem_of_getElem? hi)
      obtain ⟨a, hx⟩ : ∃ a, la[i]? = some a := ⟨_, List.getElem?_eq_getElem hil⟩
      have hwa : wantOf la i = a.want := by simp [wantOf, hx]
      have hra : rateOf la i = a.rate := by simp [rateOf, hx]
      obtain ⟨r1, r2, r3, r4⟩ := hr i hil
      have hsb := rsum_nonneg hr (S.take k) (fun j hj => hS j (List.mem_of_mem_take hj))
      rw [List.length_take] at hsb
      have hsum : rsum la (S.take (k + 1)) = rsum la (S.take k) + a.rate := by
        rw [List.take_add_one, hi, ← hra]
        simp [rsum]
      have hg := hgot k i hi
      rw [hsum, hwa, hra] at hg
      rw [← hMH] at ha ho hv
      obtain ⟨r, o, g, p1, p2⟩ := ha.at (cs := a.cells) (i := i) (by simp [asks, hx])
      obtain ⟨r', o', g', p3, p4⟩ := ho.at (cs := [ai (os.getD i 0)]) (i := i) (by simp [ints, List.getD, List.getElem?_eq_getElem (show i < os.length by omega)])
      obtain ⟨r2', o2', g2', p5, p6⟩ := hv.at (cs := [ai (i : Nat)]) (i := k) (by simp [ints, hi])
      have q1 := p1 i rfl
      have q3 := p3 i rfl
      have q5 := p5 k rfl
      rw [hra] at r1 r2
      generalize os.getD i 0 = v at *
      have b1 : (k : Int) < S.length := by omega
      have w4 : IntKind.i64.wrap ((k : Int) + 1) = ((k + 1 : Nat) : Int) := by rw [wrap_i64 (by omega) (by omega)]; omega
      obtain ⟨nr, hnr⟩ : ∃ nr, rates + a.rate = nr := ⟨_, rfl⟩
      have w1 : IntKind.i64.wrap (rates + a.rate) = nr := by rw [← hnr]; exact wrap_i64 (by omega) (by omega)
      rw [← hrt, hnr] at hg hsum
      have hnext : ∃ m, m < S.length - k ∧ Inv4b la va vo vr total all full S H m (L 152 ((T4b va vo vr total all full nr).put (path 12) (ai ((k + 1 : Nat) : Int)))) M := ⟨S.length - (k + 1), by omega, k + 1, nr, rfl, by omega, hsum.symm, hMH, rfl⟩
      obtain ⟨m, hm1, hm2⟩ := hnext
      simp only [T4b] at hm2
      simp -implicitDefEqProofs at hm2
      /- what the rates ask -/
      have hcond : (nr ≤ total ∧ a.rate ≤ a.want) → ¬ v < a.rate := fun h => by have := hg h.1 h.2; omega
      obtain ⟨c1, c2, c3, c4⟩ := a
      simp only [Ask.cells] at *
      by_cases hk0 : 0 < k
      · have k1 : (k : Int) > 0 := by omega
        have k2 : 0 < (k : Int) := by omega
        obtain ⟨i', hi'⟩ : ∃ i', S[k - 1]? = some i' := ⟨_, List.getElem?_eq_getElem (by omega)⟩
        have hil' := hS i' (List.mem_of_getElem? hi')
        obtain ⟨a', hx'⟩ : ∃ a', la[i']? = some a' := ⟨_, List.getElem?_eq_getElem hil'⟩
        have hlt : lt (rk la) i' i := by
          have h1 := (List.getElem?_eq_some_iff.1 hi').2
          have h2 := (List.getElem?_eq_some_iff.1 hi).2
          have := List.pairwise_iff_getElem.1 hs (k - 1) k (by omega) (by omega) (by omega)
          rw [h1, h2] at this
          exact this
        have hrk : ¬ a'.rank > c2 := by
          have e1 : rk la i' = a'.rank := by simp [rk, hx']
          have e2 : rk la i = c2 := by simp [rk, hx]
          unfold lt at hlt
          omega
        have hrk' : ¬ c2 < a'.rank := hrk
        obtain ⟨r5, o5, g5, p7, p8⟩ := ha.at (cs := a'.cells) (i := i') (by simp [asks, hx'])
        obtain ⟨r6, o6, g6, p9, p10⟩ := hv.at (cs := [ai (i' : Nat)]) (i := k - 1) (by simp [ints, hi'])
        have q7 := p7 i' rfl
        have q9 := p9 ((k : Int) - 1) (by omega)
        have w7 : IntKind.i64.wrap ((k : Int) - 1) = (k : Int) - 1 := wrap_i64 (by omega) (by omega)
        have f8 := rdRow_field p8 (j := 1) (v := ai a'.rank) rfl
        by_cases h1 : nr ≤ total
        · by_cases h2 : c3 ≤ c4
          · have h3 := hcond ⟨h1, h2⟩
            simp -implicitDefEqProofs [-forget, forget_c, forget_undef, forget_sl, forget_ptr, forget_lptr, forget_lbox, forget_agg, forget_tup, forget_fn, forget_iface, lp4_1, T4b, ha.ev, ha.nb, ha.free, ho.ev, ho.nb, hv.ev, hv.nb, fa, fo, fv, hlen, b1, q1, q3, q5, p2, p4, p6, w1, w4, AV.one, hk0, k1, k2, hrk, hrk', q7, q9, p10, w7, f8, h1, h2, h3]
            exact ⟨m, hm1, hm2⟩
          · simp -implicitDefEqProofs [-forget, forget_c, forget_undef, forget_sl, forget_ptr, forget_lptr, forget_lbox, forget_agg, forget_tup, forget_fn, forget_iface, lp4_1, T4b, ha.ev, ha.nb, ha.free, ho.ev, ho.nb, hv.ev, hv.nb, fa, fo, fv, hlen, b1, q1, q3, q5, p2, p4, p6, w1, w4, AV.one, hk0, k1, k2, hrk, hrk', q7, q9, p10, w7, f8, h1, h2]
            exact ⟨m, hm1, hm2⟩
        · simp -implicitDefEqProofs [-forget, forget_c, forget_undef, forget_sl, forget_ptr, forget_lptr, forget_lbox, forget_agg, forget_tup, forget_fn, forget_iface, lp4_1, T4b, ha.ev, ha.nb, ha.free, ho.ev, ho.nb, hv.ev, hv.nb, fa, fo, fv, hlen, b1, q1, q3, q5, p2, p4, p6, w1, w4, AV.one, hk0, k1, k2, hrk, hrk', q7, q9, p10, w7, f8, h1]
          exact ⟨m, hm1, hm2⟩
      · have k1 : ¬ (k : Int) > 0 := by omega
        have k2 : ¬ 0 < (k : Int) := by omega
        by_cases h1 : nr ≤ total
        · by_cases h2 : c3 ≤ c4
          · have h3 := hcond ⟨h1, h2⟩
            simp -implicitDefEqProofs [-forget, forget_c, forget_undef, forget_sl, forget_ptr, forget_lptr, forget_lbox, forget_agg, forget_tup, forget_fn, forget_iface, lp4_1, T4b, ha.ev, ha.nb, ha.free, ho.ev, ho.nb, hv.ev, hv.nb, fa, fo, fv, hlen, b1, q1, q3, q5, p2, p4, p6, w1, w4, AV.one, hk0, k1, k2, h1, h2, h3]
            exact ⟨m, hm1, hm2⟩
          · simp -implicitDefEqProofs [-forget, forget_c, forget_undef, forget_sl, forget_ptr, forget_lptr, forget_lbox, forget_agg, forget_tup, forget_fn, forget_iface, lp4_1, T4b, ha.ev, ha.nb, ha.free, ho.ev, ho.nb, hv.ev, hv.nb, fa, fo, fv, hlen, b1, q1, q3, q5, p2, p4, p6, w1, w4, AV.one, hk0, k1, k2, h1, h2]
            exact ⟨m, hm1, hm2⟩
        · simp -implicitDefEqProofs [-forget, forget_c, forget_undef, forget_sl, forget_ptr, forget_lptr, forget_lbox, forget_agg, forget_tup, forget_fn, forget_iface, lp4_1, T4b, ha.ev, ha.nb, ha.free, ho.ev, ho.nb, hv.ev, hv.nb, fa, fo, fv, hlen, b1, q1, q3, q5, p2, p4, p6, w1, w4, AV.one, hk0, k1, k2, h1]
          exact ⟨m, hm1, hm2⟩
end Go.A.Seat

namespace Go.A.Seat
open Go.A
set_option linter.unusedSimpArgs false
set_option linter.unusedVariables false

theorem fullTo_iff {l : List Ask} {os : List Int} {n : Nat} : fullTo l os n = true ↔ ∀ j, j < n → os.getD j 0 = wantOf l j := by
  simp [fullTo]

/-- What is told of a sharing that is well. -/
theorem shared {la : List Ask} {total : Int} {S : List Nat} (he : askErr total la = 0) (hp : S.Perm (List.range la.length)) :
    AllRight la ∧ Good la (total, List.replicate la.length 0) ∧ (∀ i, i < la.length → 0 ≤ (shareV la total S).getD i 0 ∧ (shareV la total S).getD i 0 ≤ wantOf la i) ∧ (shareV la total S).sum ≤ total ∧ (fullTo la (shareV la total S) la.length = true ∨ (shareV la total S).sum = total) ∧ la.length ≤ 32 := by
  have hab : ¬ (total < 0 ∨ total > 4096 ∨ la.length > 32) ∧ la.any (fun a => !a.right) = false := by
    unfold askErr at he
    split at he
    · simp at he
    · rename_i h1
      split at he
      · simp at he
      · rename_i h2
        exact ⟨h1, by simpa using h2⟩
  obtain ⟨hb, hall⟩ := hab
  have hr := allRight_of hall
  have hS : ∀ i ∈ S, i < la.length := fun i hi => by simpa using hp.mem_iff.1 hi
  have hg0 : Good la (total, List.replicate la.length 0) := by
    refine ⟨by simp only; omega, by simp only; omega, by simp, fun i hi => ?_⟩
    have := hr i hi
    simp only [List.getD_eq_getElem?_getD, List.getElem?_replicate, if_pos hi, Option.getD_some]
    omega
  have hg1 := hg0.round hr (rd := 0) S hS
  have hg2 := hg1.round hr (rd := 1) S hS
  have e1 := round_sum (l := la) (rd := 0) S (total, List.replicate la.length 0) (fun i hi => by simpa using hS i hi)
  have e2 := round_sum (l := la) (rd := 1) S (roundS la 0 S (total, List.replicate la.length 0)) (fun i hi => by rw [hg1.len]; exact hS i hi)
  have hz : (List.replicate la.length (0 : Int)).sum = 0 := by simp
  simp only at e1
  have hlo := hg2.lo
  refine ⟨hr, hg0, hg2.at_, by rw [shareV]; omega, ?_, by omega⟩
  by_cases h0 : (roundS la 1 S (roundS la 0 S (total, List.replicate la.length 0))).1 = 0
  · right; rw [shareV]; omega
  · left
    rw [fullTo_iff]
    intro j hj
    rcases round_full hr S hg1 hS j (hp.mem_iff.2 (by simpa using hj)) with h | h
    · exact absurd h h0
    · exact h

theorem law4 {H : Heap} {va : AV} {la : List Ask} (total : Int) (ha : Sl H 4 va (asks la)) : Ends (callW tbl X1 4 [ai total, va] H) fun y => y.1 = ab true := by
  have e1 : lenS va = some la.length := by rw [ha.len]; simp [asks]
  refine call_rule (X1_none (by decide) _ _) rfl ?_
  rw [fun4, slots0_L 8 152 _ (by simp)]
  by_cases hbig : la.length > 60
  · have h1 : (la.length : Int) > 60 := by omega
    have h2 : (60 : Int) < la.length := by omega
    simp -implicitDefEqProofs [code4, ha.ev, e1, h1, h2, alive10]
  · have h1 : ¬ (la.length : Int) > 60 := by omega
    have h2 : ¬ (60 : Int) < la.length := by omega
    obtain ⟨⟨v, M⟩, c13, N, v13, os, hy, hvf, hvb, hos, herr, hok⟩ := share13 total ha (by omega)
    simp only [Prod.mk.injEq] at hy
    obtain ⟨rfl, hM⟩ := hy
    rw [← hM] at hos
    have ha1 : Sl M 4 va (asks la) := hM ▸ ha.grow
    have hlo : lenS v13 = some os.length := by rw [hos.len]; simp [ints]
    by_cases he : askErr total la = 0
    · obtain ⟨S, hp, hs, rfl⟩ := hok he
      obtain ⟨hr, hg0, hb, hs1, hs2, h32⟩ := shared he hp
      have hl := shareV_len la total S
      obtain ⟨N2, vr, S', hp', hs', c16, hrf, hrb, hrS⟩ := order16 ha1 (by omega)
      obtain rfl := order_unique hp hs hp' hs'
      obtain ⟨M2, hM2⟩ : ∃ M2, M ++ N2 = M2 := ⟨_, rfl⟩
      have ha2 : Sl M2 4 va (asks la) := hM2 ▸ ha1.grow
      have ho2 : Sl M2 1 v13 (ints (shareV la total S)) := hM2 ▸ hos.grow
      have hv2 : Sl M2 1 vr (ints (S.map fun (x : Nat) => (x : Int))) := hM2 ▸ hrS M rfl
      rw [hM2] at c16
      have hgot : ∀ (k i : Nat), S[k]? = some i → rsum la (S.take (k + 1)) ≤ total → rateOf la i ≤ wantOf la i → rateOf la i ≤ (shareV la total S).getD i 0 := by
        intro k i hki h3 h4
        have hkl := (List.getElem?_eq_some_iff.1 hki).1
        have hS : S = S.take k ++ i :: S.drop (k + 1) := by
          have h5 := (List.getElem?_eq_some_iff.1 hki).2
          conv => lhs; rw [← List.take_append_drop k S]
          congr 1
          rw [← h5]
          exact List.drop_eq_getElem_cons hkl
        have hnd : S.Nodup := hp.nodup_iff.2 List.nodup_range
        have hSi : ∀ j ∈ S, j < la.length := fun j hj => by simpa using hp.mem_iff.1 hj
        rw [List.take_add_one, hki] at h3
        rw [hS] at hnd hSi
        have := got_rate hr hg0 hnd hSi h3 h4
        rw [← hS] at this
        exact this
      have hl1 := all_loop ha1 (by omega) hr hos hl hb total la.length
      have hl2 := rank_loop ha2 (by omega) hr ho2 hl total hp hs hv2 hgot (shareV la total S).sum (fullTo la (shareV la total S) la.length) S.length
      rw [hl] at hlo
      generalize shareV la total S = os at *
      simp -implicitDefEqProofs [code4, ha.ev, ha.free, e1, h1, h2, c13, he, hvf, hvb, ev1_nb hvb, hlo]
      repeat rw [Option.bind_assoc]
      refine Ends.bind (Q := fun s : St => Post4a la va v13 total os M (AExit.exit 0) s.σ s.H ∧ s.e = .normal) (Ends.map (hl1 _ _ ⟨0, 0, true, by omega, by omega, by simp, by simp [fullTo], rfl, by simp [lp4_0, T4, ha.ev, ev1_nb hvb]⟩) ?_) ?_
      · rintro ⟨e, σ, G⟩ ⟨q1, q2⟩
        simp only at q1
        subst q1
        exact ⟨⟨rfl, q2⟩, by simp [unblock]⟩
      · rintro ⟨e, σ, M'⟩ ⟨⟨_, all, full, g1, g2, g3, g4⟩, q1⟩
        simp only at q1 g3 g4
        subst q1; subst g3
        simp only [T4] at g4
        simp -implicitDefEqProofs [g4, ha.ev, ha.free, ha.nb, ev1_nb hvb, c16, hrf, hrb, ev1_nb hrb]
        repeat rw [Option.bind_assoc]
        refine Ends.bind (Q := fun s : St => Post4b total all full M2 (AExit.exit 2) s.σ s.H ∧ s.e = .normal) (Ends.map (f := execW tbl X1 lp4_1.loop _ M2) (by rw [g1, g2]; exact hl2 _ _ ⟨0, 0, by omega, by omega, by simp [rsum], rfl, by simp [lp4_1, T4b, ha.ev, ev1_nb hvb, ev1_nb hrb]⟩) ?_) ?_
        · rintro ⟨e, σ, G⟩ ⟨q1, q2⟩
          simp only at q1
          subst q1
          exact ⟨⟨rfl, by rw [← g1, ← g2] at q2; exact q2⟩, by simp [unblock]⟩
        · rintro ⟨e, σ, M''⟩ ⟨⟨_, g5, g6⟩, q1⟩
          simp only at q1 g5 g6
          subst q1; subst g5
          have hle : all ≤ total := by omega
          cases hf : full with
          | true => simp -implicitDefEqProofs [g6, hf, alive10, hle]
          | false =>
            have hal : all = total := by
              rcases hs2 with h | h
              · rw [← g2, hf] at h; simp at h
              · omega
            simp -implicitDefEqProofs [g6, hf, alive10, hal]
    · have ho0 := herr he
      subst ho0
      simp -implicitDefEqProofs [code4, ha.ev, ha.free, e1, h1, h2, c13, he, hvf, hvb, ev1_nb hvb, hlo, alive10]
end Go.A.Seat

namespace Go.A.Seat
open Go.A
set_option linter.unusedSimpArgs false
set_option linter.unusedVariables false

/-! Sharing without rates. -/
theorem round0_none {l : List Ask} (h0 : ∀ i, rateOf l i = 0) (hr : AllRight l) : ∀ (S : List Nat) (s : Int × List Int), Good l s → (∀ i ∈ S, i < l.length) → roundS l 0 S s = s
  | [], s, _, _ => rfl
  | i :: S, s, hg, h => by
    have hi := h i (by simp)
    obtain ⟨o1, o2⟩ := hg.at_ i hi
    have hlo := hg.lo
    have hgv : give l 0 s i = 0 := by
      simp only [give, mn, h0, if_true]
      split <;> split <;> omega
    have hst : stepS l 0 s i = s := by
      simp only [stepS, hgv, Int.sub_zero, Int.add_zero]
      congr 1
      apply List.ext_getElem?
      intro j
      by_cases hij : i = j
      · subst hij
        have := hg.len
        rw [List.getElem?_set_self (by omega), List.getD_eq_getElem?_getD, List.getElem?_eq_getElem (by omega)]
        rfl
      · rw [List.getElem?_set_ne hij]
    show roundS l 0 S (stepS l 0 s i) = s
    rw [hst]
    exact round0_none h0 hr S s hg fun j hj => h j (by simp [hj])

/-- More to share out: nobody gets less. -/
theorem more_mono {l : List Ask} : ∀ (S : List Nat) (s s' : Int × List Int), S.Nodup → (∀ i ∈ S, i < s.2.length ∧ i < s'.2.length ∧ s.2.getD i 0 = 0 ∧ s'.2.getD i 0 = 0 ∧ 0 ≤ wantOf l i) → s.1 ≤ s'.1 → 0 ≤ s.1 → (∀ j, s.2.getD j 0 ≤ s'.2.getD j 0) → ∀ j, (roundS l 1 S s).2.getD j 0 ≤ (roundS l 1 S s').2.getD j 0
  | [], s, s', _, _, _, _, h, j => h j
  | i :: S, s, s', hnd, hS, h1, h0, h, j => by
    obtain ⟨a1, a2, a3, a4, a5⟩ := hS i (by simp)
    obtain ⟨n1, n2⟩ := List.nodup_cons.1 hnd
    have g1 : give l 1 s i = mn (wantOf l i) s.1 := by simp only [give, a3, Nat.one_ne_zero, if_false, Int.sub_zero]
    have g2 : give l 1 s' i = mn (wantOf l i) s'.1 := by simp only [give, a4, Nat.one_ne_zero, if_false, Int.sub_zero]
    refine more_mono S (stepS l 1 s i) (stepS l 1 s' i) n2 (fun k hk => ?_) ?_ ?_ (fun k => ?_) j
    · obtain ⟨b1, b2, b3, b4, b5⟩ := hS k (by simp [hk])
      have hne : i ≠ k := fun e => n1 (e ▸ hk)
      refine ⟨by simp [stepS, b1], by simp [stepS, b2], ?_, ?_, b5⟩
      · simp only [stepS]; rw [getD_set_ne hne]; exact b3
      · simp only [stepS]; rw [getD_set_ne hne]; exact b4
    · simp only [stepS, g1, g2, mn]; split <;> split <;> omega
    · simp only [stepS, g1, mn]; split <;> omega
    · simp only [stepS]
      by_cases hik : i = k
      · subst hik
        rw [getD_set_self a1, getD_set_self a2, a3, a4, g1, g2]
        simp only [mn]; split <;> split <;> omega
      · rw [getD_set_ne hik, getD_set_ne hik]
        exact h k

/-- The smaller rank has all it wants ahead of the greater one's first byte. -/
theorem ahead_full {l : List Ask} (hr : AllRight l) {s : Int × List Int} (hg : Good l s) {A B C : List Nat} {k i : Nat} (hnd : (A ++ k :: (B ++ i :: C)).Nodup) (hS : ∀ j ∈ A ++ k :: (B ++ i :: C), j < l.length) (hz : s.2.getD i 0 = 0) (hgot : 0 < (roundS l 1 (A ++ k :: (B ++ i :: C)) s).2.getD i 0) : wantOf l k ≤ (roundS l 1 (A ++ k :: (B ++ i :: C)) s).2.getD k 0 := by
  have hk := hS k (by simp)
  have hi := hS i (by simp)
  have hA : ∀ j ∈ A, j < l.length := fun j hj => hS j (by simp [hj])
  have hB : ∀ j ∈ B, j < l.length := fun j hj => hS j (by simp [hj])
  have hC : ∀ j ∈ C, j < l.length := fun j hj => hS j (by simp [hj])
  have e1 : roundS l 1 (A ++ k :: (B ++ i :: C)) s = roundS l 1 C (stepS l 1 (roundS l 1 B (stepS l 1 (roundS l 1 A s) k)) i) := by simp [roundS]
  have gA := hg.round hr (rd := 1) A hA
  have gk := gA.step hr (rd := 1) hk
  have gB := gk.round hr (rd := 1) B hB
  have gi := gB.step hr (rd := 1) hi
  obtain ⟨n1, n2, n3⟩ := List.nodup_append.1 hnd
  obtain ⟨n4, n5⟩ := List.nodup_cons.1 n2
  obtain ⟨n6, n7, n8⟩ := List.nodup_append.1 n5
  obtain ⟨n9, n10⟩ := List.nodup_cons.1 n7
  have hiA : i ∉ A := fun h => n3 i h i (by simp) rfl
  have hik : k ≠ i := fun h => n4 (by simp [h])
  have hiB : i ∉ B := fun h => n8 i h i (by simp) rfl
  rw [e1] at hgot ⊢
  rw [round_other l 1 C _ i n9] at hgot
  have hB0 : (roundS l 1 B (stepS l 1 (roundS l 1 A s) k)).2.getD i 0 = 0 := by
    rw [round_other l 1 B _ i hiB]
    simp only [stepS]
    rw [getD_set_ne hik, round_other l 1 A _ i hiA, hz]
  have hleft : 0 < (roundS l 1 B (stepS l 1 (roundS l 1 A s) k)).1 := by
    have hlenB := gB.len
    have hgb := (give_bounds hr (rd := 1) gB hi).2.1
    generalize roundS l 1 B (stepS l 1 (roundS l 1 A s) k) = X at *
    simp only [stepS] at hgot
    rw [getD_set_self (by omega), hB0] at hgot
    omega
  have hlk := round_less hr (rd := 1) B gk hB
  have hone : (stepS l 1 (roundS l 1 A s) k).1 = 0 ∨ (stepS l 1 (roundS l 1 A s) k).2.getD k 0 = wantOf l k := by
    simp only [stepS, getD_set_self (show k < (roundS l 1 A s).2.length by rw [gA.len]; exact hk), give, mn]
    simp only [Nat.one_ne_zero, if_false]
    split <;> omega
  have hfull : (stepS l 1 (roundS l 1 A s) k).2.getD k 0 = wantOf l k := by
    rcases hone with h | h
    · omega
    · exact h
  have m1 := round_mono hr (rd := 1) B gk hB k
  have m2 := step_mono hr (rd := 1) gB hi k
  have m3 := round_mono hr (rd := 1) C gi hC k
  omega
end Go.A.Seat

namespace Go.A.Seat
open Go.A
set_option linter.unusedSimpArgs false
set_option linter.unusedVariables false

/-- An ask without its rate. -/
def zr (a : Ask) : Ask := { a with rate := 0 }

def T5 (va vx : AV) (total more : Int) : Tr := ((((Tr.full 8).put (path 0) (ai total)).put (path 1) (ai more)).put (path 2) va).put (path 7) vx
def Inv5x (H : Heap) (la : List Ask) (va : AV) (total more : Int) (z : Nat) (σ : List AV) (M : Heap) : Prop :=
  ∃ k : Nat, ∃ vx, la.length - k = z ∧ k ≤ la.length ∧ OwnG H 4 vx (asks ((la.take k).map zr)) M ∧ σ = L 151 ((T5 va vx total more).put (path 8) (ai k))
def Post5x (H : Heap) (la : List Ask) (va : AV) (total more : Int) (e : AExit) (σ : List AV) (M : Heap) : Prop :=
  e = .exit 0 ∧ ∃ vx, OwnG H 4 vx (asks (la.map zr)) M ∧ kill [2, 8, 19, 20, 21, 22] σ = L 151 ((((Tr.full 8).put (path 0) (ai total)).put (path 1) (ai more)).put (path 7) vx)

theorem strip_loop {H : Heap} {va : AV} {la : List Ask} (ha : Sl H 4 va (asks la)) (hm : la.length ≤ 1000) (total more : Int) :
    ∀ (z : Nat) (σ : List AV) (M : Heap), Inv5x H la va total more z (kill (headK lp5_0) σ) M → Ends (execW tbl X1 (.loop lp5_0) σ M) fun s => Post5x H la va total more s.e s.σ s.H := by
  intro z σ M hI
  have := loop_rule (T := tbl) (X := X1) (b := lp5_0) (Inv5x H la va total more) (Post5x H la va total more) ?_ z σ M hI
  · exact this.mono fun s hs => hs.2
  · clear hI σ z M
    rintro z σ M ⟨k, vx, rfl, hk, hO, rfl⟩
    have e1 : lenS va = some la.length := by rw [ha.len]; simp [asks]
    have hxb := hO.nb
    have hxf := hO.free
    have hev := ev1_nb hxb
    by_cases hkn : k = la.length
    · subst hkn
      simp -implicitDefEqProofs [lp5_0, T5, ha.ev, ha.nb, e1, hev]
      rw [List.take_length] at hO
      exact ⟨rfl, vx, hO, by simp [ha.ev, hev]⟩
    · have hkl : k < la.length := by omega
      obtain ⟨a, hx⟩ : ∃ a, la[k]? = some a := ⟨_, List.getElem?_eq_getElem hkl⟩
      obtain ⟨N, hN⟩ := hO.ext
      have ham : Sl M 4 va (asks la) := hN ▸ ha.grow
      obtain ⟨r1, o1, g1, p1, p2⟩ := ham.at (cs := a.cells) (i := k) (by simp [asks, hx])
      have q1 := p1 k rfl
      have f0 := rdRow_field p2 (j := 0) (v := ai a.id) rfl
      rw [Nat.add_zero] at f0
      have f1 := rdRow_field p2 (j := 1) (v := ai a.rank) rfl
      have f3 := rdRow_field p2 (j := 3) (v := ai a.want) rfl
      have hal : (asks ((la.take k).map zr)).length = k := by simp [asks]; omega
      obtain ⟨v', M', happ, hO'⟩ := hO.push 32 (zr a).cells rfl (by simp [Ask.cells, AV.one, AV.free]) (by rw [hal]; simp only [appBound]; omega) (by rw [hal]; simp only [appBound]; omega) 4 rfl
      have hnx : asks ((la.take k).map zr) ++ [(zr a).cells] = asks ((la.take (k + 1)).map zr) := by
        rw [List.take_add_one, hx]
        simp [asks]
      rw [hnx] at hO'
      have hxb' := hO'.nb
      have hev' := ev1_nb hxb'
      have b1 : (k : Int) < la.length := by omega
      have w4 : IntKind.i64.wrap ((k : Int) + 1) = ((k + 1 : Nat) : Int) := by rw [wrap_i64 (by omega) (by omega)]; omega
      obtain ⟨ai1, ai2, ai3, ai4⟩ := a
      simp only [Ask.cells, zr] at p2 happ f0 f1 f3
      simp -implicitDefEqProofs [lp5_0, T5, ha.ev, ha.nb, e1, hev, hxb, hev', hxb', b1, q1, p2, f0, f1, f3, happ, AV.one, w4]
      exact ⟨la.length - (k + 1), by omega, k + 1, v', rfl, by omega, hO', by simp [T5]⟩

/-! The comparisons. -/
def T5b (vm vA vB : AV) (total more f : Int) : Tr := ((((((Tr.full 8).put (path 0) (ai total)).put (path 1) (ai more)).put (path 7) vm).put (path 9) vA).put (path 11) vB).put (path 12) (ai f)
def Inv5i (n : Nat) (vm vA vB : AV) (total more f : Int) (i : Nat) (H : Heap) (z : Nat) (σ : List AV) (M : Heap) : Prop :=
  ∃ k : Nat, n - k = z ∧ k ≤ n ∧ M = H ∧ σ = L 151 (((T5b vm vA vB total more f).put (path 13) (ai i)).put (path 14) (ai k))
def Post5i (vm vA vB : AV) (total more f : Int) (i : Nat) (H : Heap) (e : AExit) (σ : List AV) (M : Heap) : Prop :=
  e = .exit 4 ∧ M = H ∧ kill [14, 114, 115, 116, 117] σ = L 151 ((T5b vm vA vB total more f).put (path 13) (ai i))

theorem rank_pairs {H : Heap} {vm vA vB : AV} {m : List Ask} (hmm : Sl H 4 vm (asks m)) (hn : m.length ≤ 1000) {as : List Int} (hA : Sl H 1 vA (ints as)) (hal : as.length = m.length) (hBb : vB.isBox = false) (total more f : Int)
    (hord : ∀ k i, k < m.length → i < m.length → rk m k < rk m i → 0 < as.getD i 0 → wantOf m k ≤ as.getD k 0) (i : Nat) (hi : i < m.length) :
    ∀ (z : Nat) (σ : List AV) (M : Heap), Inv5i m.length vm vA vB total more f i H z (kill (headK lp5_1) σ) M → Ends (execW tbl X1 (.loop lp5_1) σ M) fun s => Post5i vm vA vB total more f i H s.e s.σ s.H := by
  intro z σ M hI
  have := loop_rule (T := tbl) (X := X1) (b := lp5_1) (Inv5i m.length vm vA vB total more f i H) (Post5i vm vA vB total more f i H) ?_ z σ M hI
  · exact this.mono fun s hs => hs.2
  · clear hI σ z M
    rintro z σ M ⟨k, rfl, hk, hMH, rfl⟩
    have e1 : lenS vm = some m.length := by rw [hmm.len]; simp [asks]
    have hBe := ev1_nb hBb
    by_cases hkn : k = m.length
    · subst hkn
      simp -implicitDefEqProofs [lp5_1, T5b, hmm.ev, hmm.nb, hA.ev, hBe, e1]
      exact ⟨rfl, hMH, by simp [T5b, hmm.ev, hA.ev, hBe]⟩
    · have hkl : k < m.length := by omega
      obtain ⟨a, hx⟩ : ∃ a, m[k]? = some a := ⟨_, List.getElem?_eq_getElem hkl⟩
      obtain ⟨b, hy⟩ : ∃ b, m[i]? = some b := ⟨_, List.getElem?_eq_getElem hi⟩
      have hwa : wantOf m k = a.want := by simp [wantOf, hx]
      have hra : rk m k = a.rank := by simp [rk, hx]
      have hrb : rk m i = b.rank := by simp [rk, hy]
      have ho := hord k i hkl hi
      rw [hwa, hra, hrb] at ho
      rw [← hMH] at hmm hA
      obtain ⟨r1, o1, g1, p1, p2⟩ := hmm.at (cs := a.cells) (i := k) (by simp [asks, hx])
      obtain ⟨r2, o2, g2, p3, p4⟩ := hmm.at (cs := b.cells) (i := i) (by simp [asks, hy])
      obtain ⟨r3, o3, g3, p5, p6⟩ := hA.at (cs := [ai (as.getD i 0)]) (i := i) (by simp [ints, List.getD, List.getElem?_eq_getElem (show i < as.length by omega)])
      obtain ⟨r4, o4, g4, p7, p8⟩ := hA.at (cs := [ai (as.getD k 0)]) (i := k) (by simp [ints, List.getD, List.getElem?_eq_getElem (show k < as.length by omega)])
      have q1 := p1 k rfl
      have q3 := p3 i rfl
      have q5 := p5 i rfl
      have q7 := p7 k rfl
      have f1 := rdRow_field p2 (j := 1) (v := ai a.rank) rfl
      have f3 := rdRow_field p2 (j := 3) (v := ai a.want) rfl
      have f2 := rdRow_field p4 (j := 1) (v := ai b.rank) rfl
      generalize as.getD i 0 = v at *
      generalize as.getD k 0 = u at *
      have b1 : (k : Int) < m.length := by omega
      have w4 : IntKind.i64.wrap ((k : Int) + 1) = ((k + 1 : Nat) : Int) := by rw [wrap_i64 (by omega) (by omega)]; omega
      by_cases h1 : a.rank < b.rank
      · by_cases h2 : v > 0
        · have h2' : 0 < v := h2
          have h3 : ¬ u < a.want := by have := ho h1 h2'; omega
          simp -implicitDefEqProofs [lp5_1, T5b, hmm.ev, hmm.nb, hA.ev, hA.nb, hBe, e1, b1, q1, q3, q5, q7, f1, f2, f3, p6, p8, h1, h2, h2', h3, w4]
          exact ⟨m.length - (k + 1), by omega, k + 1, rfl, by omega, hMH, by simp [T5b]⟩
        · have h2' : ¬ 0 < v := h2
          simp -implicitDefEqProofs [lp5_1, T5b, hmm.ev, hmm.nb, hA.ev, hA.nb, hBe, e1, b1, q1, q3, q5, q7, f1, f2, f3, p6, p8, h1, h2, h2', w4]
          exact ⟨m.length - (k + 1), by omega, k + 1, rfl, by omega, hMH, by simp [T5b]⟩
      · simp -implicitDefEqProofs [lp5_1, T5b, hmm.ev, hmm.nb, hA.ev, hA.nb, hBe, e1, b1, q1, q3, q5, q7, f1, f2, f3, p6, p8, h1, w4]
        exact ⟨m.length - (k + 1), by omega, k + 1, rfl, by omega, hMH, by simp [T5b]⟩

def Inv5o (n : Nat) (vm vA vB : AV) (total more f : Int) (H : Heap) (z : Nat) (σ : List AV) (M : Heap) : Prop :=
  ∃ i : Nat, n - i = z ∧ i ≤ n ∧ M = H ∧ σ = L 151 ((T5b vm vA vB total more f).put (path 13) (ai i))
def Post5o (H : Heap) (e : AExit) (σ : List AV) (M : Heap) : Prop :=
  e = .exit 2 ∧ M = H ∧ kill [0, 1, 7, 9, 11, 12, 13, 75, 76, 77, 78] σ = L 151 (Tr.full 8)

theorem ranks_loop {H : Heap} {vm vA vB : AV} {m : List Ask} (hmm : Sl H 4 vm (asks m)) (hn : m.length ≤ 1000) {as bs : List Int} (hA : Sl H 1 vA (ints as)) (hal : as.length = m.length) (hB : Sl H 1 vB (ints bs)) (total more f : Int)
    (hord : ∀ k i, k < m.length → i < m.length → rk m k < rk m i → 0 < as.getD i 0 → wantOf m k ≤ as.getD k 0)
    (hzero : ∀ i, i < m.length → wantOf m i = 0 → as.getD i 0 = 0) (hbl : f = 0 → bs.length = m.length) (hmore : f = 0 → more ≥ total → ∀ i, i < m.length → as.getD i 0 ≤ bs.getD i 0) :
    ∀ (z : Nat) (σ : List AV) (M : Heap), Inv5o m.length vm vA vB total more f H z (kill (headK lp5_2) σ) M → Ends (execW tbl X1 (.loop lp5_2) σ M) fun s => Post5o H s.e s.σ s.H := by
  intro z σ M hI
  have := loop_rule (T := tbl) (X := X1) (b := lp5_2) (Inv5o m.length vm vA vB total more f H) (Post5o H) ?_ z σ M hI
  · exact this.mono fun s hs => hs.2
  · clear hI σ z M
    rintro z σ M ⟨i, rfl, hi, hMH, rfl⟩
    have e1 : lenS vm = some m.length := by rw [hmm.len]; simp [asks]
    by_cases hin : i = m.length
    · subst hin
      simp -implicitDefEqProofs [lp5_2, T5b, hmm.ev, hmm.nb, hA.ev, hB.ev, e1]
      exact ⟨rfl, hMH, by simp⟩
    · have hil : i < m.length := by omega
      obtain ⟨a, hx⟩ : ∃ a, m[i]? = some a := ⟨_, List.getElem?_eq_getElem hil⟩
      have hwa : wantOf m i = a.want := by simp [wantOf, hx]
      have hl := rank_pairs hmm hn hA hal hB.nb total more f hord i hil m.length
      have hz := hzero i hil
      rw [hwa] at hz
      have hmo := fun h1 h2 => hmore h1 h2 i hil
      rw [← hMH] at hmm hA hB hl
      obtain ⟨r1, o1, g1, p1, p2⟩ := hmm.at (cs := a.cells) (i := i) (by simp [asks, hx])
      obtain ⟨r3, o3, g3, p5, p6⟩ := hA.at (cs := [ai (as.getD i 0)]) (i := i) (by simp [ints, List.getD, List.getElem?_eq_getElem (show i < as.length by omega)])
      have q1 := p1 i rfl
      have q5 := p5 i rfl
      have f3 := rdRow_field p2 (j := 3) (v := ai a.want) rfl
      have b1 : (i : Int) < m.length := by omega
      have w4 : IntKind.i64.wrap ((i : Int) + 1) = ((i + 1 : Nat) : Int) := by rw [wrap_i64 (by omega) (by omega)]; omega
      have tail : ∀ t : Tr, kill (headK lp5_1) (L 151 t) = L 151 (((T5b vm vA vB total more f).put (path 13) (ai i)).put (path 14) (ai (0 : Nat))) → Ends (((execW tbl X1 (.loop lp5_1) (L 151 t) M).map (unblock 3 ∘ unblock 4)).bind (andThen (execW tbl X1 lp5_2.sr.sr))) fun s => match s.e with
          | .normal => ∃ z, z < m.length - i ∧ Inv5o m.length vm vA vB total more f H z (kill (headK lp5_2) s.σ) s.H
          | e => Post5o H e s.σ s.H := by
        intro t ht
        refine Ends.bind (Q := fun s : St => s.e = .normal ∧ Post5i vm vA vB total more f i M (.exit 4) s.σ s.H) (Ends.map (hl _ _ ⟨0, by omega, by omega, rfl, ht⟩) ?_) ?_
        · rintro ⟨e, σ, G⟩ ⟨q1, q2⟩
          simp only at q1
          subst q1
          exact ⟨by simp [unblock], rfl, q2⟩
        · rintro ⟨e, σ, G⟩ ⟨q1, _, q2, q3⟩
          simp only at q1 q2 q3
          subst q1; subst q2
          simp only [T5b] at q3
          simp -implicitDefEqProofs [lp5_2, q3, w4, hmm.ev, hA.ev, hB.ev]
          exact ⟨m.length - (i + 1), by omega, i + 1, rfl, by omega, hMH, by simp [T5b]⟩
      have hsr : lp5_2.sr.sr = .region [14, 114, 115, 116, 117] [⟨(some 79), .mov (.t 13), none⟩, ⟨(some 80), .bin .add .no (.t 79) (.k (.c (.int .i64 1))), none⟩, ⟨(some 13), .mov (.t 80), none⟩] := rfl
      have hk2 : headK lp5_2 = [79, 80] := rfl
      rw [hsr, hk2] at tail
      generalize as.getD i 0 = v at *
      by_cases h1 : a.want = 0
      · have h2 := hz h1
        by_cases h3 : f = 0
        · subst h3
          by_cases h4 : more ≥ total
          · have h5 := hmo rfl h4
            have h4' : total ≤ more := h4
            obtain ⟨r6, o6, g6, p7, p8⟩ := hB.at (cs := [ai (bs.getD i 0)]) (i := i) (by have := hbl rfl; simp [ints, List.getD, List.getElem?_eq_getElem (show i < bs.length by omega)])
            have q7 := p7 i rfl
            generalize bs.getD i 0 = u at *
            have h6 : ¬ u < v := by omega
            have h6' : ¬ u < 0 := by omega
            simp -implicitDefEqProofs [lp5_2, T5b, hmm.ev, hmm.nb, hA.ev, hA.nb, hB.ev, hB.nb, e1, b1, q1, q5, f3, p6, q7, p8, h1, h2, h4, h4', h6, h6']
            exact tail _ (by simp [lp5_1, T5b, hmm.ev, hA.ev, hB.ev])
          · have h4' : ¬ total ≤ more := h4
            simp -implicitDefEqProofs [lp5_2, T5b, hmm.ev, hmm.nb, hA.ev, hA.nb, hB.ev, hB.nb, e1, b1, q1, q5, f3, p6, h1, h2, h4, h4']
            exact tail _ (by simp [lp5_1, T5b, hmm.ev, hA.ev, hB.ev])
        · simp -implicitDefEqProofs [lp5_2, T5b, hmm.ev, hmm.nb, hA.ev, hA.nb, hB.ev, hB.nb, e1, b1, q1, q5, f3, p6, h1, h2, h3]
          exact tail _ (by simp [lp5_1, T5b, hmm.ev, hA.ev, hB.ev])
      · by_cases h3 : f = 0
        · subst h3
          by_cases h4 : more ≥ total
          · have h5 := hmo rfl h4
            have h4' : total ≤ more := h4
            obtain ⟨r6, o6, g6, p7, p8⟩ := hB.at (cs := [ai (bs.getD i 0)]) (i := i) (by have := hbl rfl; simp [ints, List.getD, List.getElem?_eq_getElem (show i < bs.length by omega)])
            have q7 := p7 i rfl
            generalize bs.getD i 0 = u at *
            have h6 : ¬ u < v := by omega
            simp -implicitDefEqProofs [lp5_2, T5b, hmm.ev, hmm.nb, hA.ev, hA.nb, hB.ev, hB.nb, e1, b1, q1, q5, f3, p6, q7, p8, h1, h4, h4', h6]
            exact tail _ (by simp [lp5_1, T5b, hmm.ev, hA.ev, hB.ev])
          · have h4' : ¬ total ≤ more := h4
            simp -implicitDefEqProofs [lp5_2, T5b, hmm.ev, hmm.nb, hA.ev, hA.nb, hB.ev, hB.nb, e1, b1, q1, q5, f3, p6, h1, h4, h4']
            exact tail _ (by simp [lp5_1, T5b, hmm.ev, hA.ev, hB.ev])
        · simp -implicitDefEqProofs [lp5_2, T5b, hmm.ev, hmm.nb, hA.ev, hA.nb, hB.ev, hB.nb, e1, b1, q1, q5, f3, p6, h1, h3]
          exact tail _ (by simp [lp5_1, T5b, hmm.ev, hA.ev, hB.ev])
end Go.A.Seat

namespace Go.A.Seat
open Go.A
set_option linter.unusedSimpArgs false
set_option linter.unusedVariables false

theorem split2 {S : List Nat} {p q : Nat} {k i : Nat} (hp : S[p]? = some k) (hq : S[q]? = some i) (hpq : p < q) : ∃ A B C, S = A ++ k :: (B ++ i :: C) := by
  have hql := (List.getElem?_eq_some_iff.1 hq).1
  have e1 : S = S.take p ++ k :: S.drop (p + 1) := by
    have h2 := (List.getElem?_eq_some_iff.1 hp).2
    conv => lhs; rw [← List.take_append_drop p S]
    congr 1
    rw [← h2]
    exact List.drop_eq_getElem_cons (by omega)
  have hq' : (S.drop (p + 1))[q - (p + 1)]? = some i := by
    rw [List.getElem?_drop, show p + 1 + (q - (p + 1)) = q by omega, hq]
  have hl' := (List.getElem?_eq_some_iff.1 hq').1
  have e2 : S.drop (p + 1) = (S.drop (p + 1)).take (q - (p + 1)) ++ i :: (S.drop (p + 1)).drop (q - (p + 1) + 1) := by
    have h2 := (List.getElem?_eq_some_iff.1 hq').2
    conv => lhs; rw [← List.take_append_drop (q - (p + 1)) (S.drop (p + 1))]
    congr 1
    rw [← h2]
    exact List.drop_eq_getElem_cons hl'
  exact ⟨_, _, _, by rw [← e2]; exact e1⟩

theorem noRates {m : List Ask} {total : Int} {S : List Nat} (h0 : ∀ i, rateOf m i = 0) (hr : AllRight m) (hg : Good m (total, List.replicate m.length 0)) (hS : ∀ i ∈ S, i < m.length) : shareV m total S = (roundS m 1 S (total, List.replicate m.length 0)).2 := by
  rw [shareV, round0_none h0 hr S _ hg hS]

theorem rates_zr (la : List Ask) (i : Nat) : rateOf (la.map zr) i = 0 := by
  simp only [rateOf, List.getElem?_map]
  cases la[i]? <;> rfl

theorem law5 {H : Heap} {va : AV} {la : List Ask} (total more : Int) (ha : Sl H 4 va (asks la)) : Ends (callW tbl X1 5 [ai total, ai more, va] H) fun y => y.1 = ab true := by
  have e1 : lenS va = some la.length := by rw [ha.len]; simp [asks]
  refine call_rule (X1_none (by decide) _ _) rfl ?_
  rw [fun5, slots0_L 8 151 _ (by simp)]
  by_cases hbig : la.length > 32
  · have h1 : (la.length : Int) > 32 := by omega
    have h2 : (32 : Int) < la.length := by omega
    simp -implicitDefEqProofs [code5, ha.ev, e1, h1, h2, alive10]
  · have h1 : ¬ (la.length : Int) > 32 := by omega
    have h2 : ¬ (32 : Int) < la.length := by omega
    have hl := strip_loop ha (by omega) total more la.length
    simp -implicitDefEqProofs [code5, ha.ev, e1, h1, h2]
    repeat rw [Option.bind_assoc]
    refine Ends.bind (Q := fun s : St => Post5x H la va total more (AExit.exit 0) s.σ s.H ∧ s.e = .normal) (Ends.map (hl _ _ ⟨0, nilS, by omega, by omega, by have := OwnG.nil H [] 4; simpa [asks] using this, by simp [lp5_0, T5, ha.ev]⟩) ?_) ?_
    · rintro ⟨e, σ, G⟩ ⟨q1, q2⟩
      simp only at q1
      subst q1
      exact ⟨⟨rfl, q2⟩, by simp [unblock]⟩
    · rintro ⟨e, σ, M⟩ ⟨⟨_, vx, hO, q3⟩, q1⟩
      simp only at q1 hO q3
      subst q1
      have hxb := hO.nb
      have hxf := hO.free
      have hev := ev1_nb hxb
      have hx1 : Sl M 4 vx (asks (la.map zr)) := hO.sl
      have hml : (la.map zr).length = la.length := by simp
      have hrate := rates_zr la
      generalize la.map zr = m at *
      obtain ⟨⟨v, M2⟩, c13, N2, vA, as, hy, hvf, hvb, hos, herr, hok⟩ := share13 total hx1 (by omega)
      simp only [Prod.mk.injEq] at hy
      obtain ⟨rfl, hM2⟩ := hy
      by_cases he : askErr total m = 0
      · rw [he] at c13
        obtain ⟨S, hp, hs, rfl⟩ := hok he
        obtain ⟨hr, hg0, hb, _, _, h32⟩ := shared (S := S) he hp
        have hS : ∀ i ∈ S, i < m.length := fun i hi => by simpa using hp.mem_iff.1 hi
        have hnd : S.Nodup := hp.nodup_iff.2 List.nodup_range
        rw [← hM2] at hos
        have hx2 : Sl M2 4 vx (asks m) := hM2 ▸ hx1.grow
        obtain ⟨⟨v, M3⟩, c13', N3, vB, bs, hy, hvf', hvb', hos', herr', hok'⟩ := share13 more hx2 (by omega)
        simp only [Prod.mk.injEq] at hy
        obtain ⟨rfl, hM3⟩ := hy
        rw [← hM3] at hos'
        have hx3 : Sl M3 4 vx (asks m) := hM3 ▸ hx2.grow
        have hA3 : Sl M3 1 vA (ints (shareV m total S)) := hM3 ▸ hos.grow
        have hlA := shareV_len m total S
        have elA : lenS vA = some m.length := by rw [hA3.len]; simp [ints, hlA]
        have elx : lenS vx = some m.length := by rw [hx3.len]; simp [asks]
        have hord : ∀ k i, k < m.length → i < m.length → rk m k < rk m i → 0 < (shareV m total S).getD i 0 → wantOf m k ≤ (shareV m total S).getD k 0 := by
          intro k i hk hi hlt hgot
          obtain ⟨p, hpk⟩ := List.getElem?_of_mem (hp.mem_iff.2 (List.mem_range.2 hk))
          obtain ⟨q, hqi⟩ := List.getElem?_of_mem (hp.mem_iff.2 (List.mem_range.2 hi))
          have hpl := (List.getElem?_eq_some_iff.1 hpk).1
          have hql := (List.getElem?_eq_some_iff.1 hqi).1
          have hpq : p < q := by
            rcases Nat.lt_trichotomy p q with h | h | h
            · exact h
            · subst h
              rw [hpk] at hqi
              obtain rfl := Option.some.inj hqi
              omega
            · have := List.pairwise_iff_getElem.1 hs q p hql hpl h
              rw [(List.getElem?_eq_some_iff.1 hqi).2, (List.getElem?_eq_some_iff.1 hpk).2] at this
              unfold lt at this
              omega
          obtain ⟨A, B, C, hS3⟩ := split2 hpk hqi hpq
          rw [noRates hrate hr hg0 hS] at hgot ⊢
          rw [hS3] at hgot hnd hS ⊢
          refine ahead_full hr hg0 hnd hS ?_ hgot
          simp only [List.getD_eq_getElem?_getD, List.getElem?_replicate]
          split <;> rfl
        have hzero : ∀ i, i < m.length → wantOf m i = 0 → (shareV m total S).getD i 0 = 0 := fun i hi hw => by
          have := hb i hi
          omega
        have hbl : askErr more m = 0 → bs.length = m.length := fun h => by
          obtain ⟨S', _, _, rfl⟩ := hok' h
          exact shareV_len m more S'
        have hmore : askErr more m = 0 → more ≥ total → ∀ i, i < m.length → (shareV m total S).getD i 0 ≤ bs.getD i 0 := fun h hge i hi => by
          obtain ⟨S', hp', hs', rfl⟩ := hok' h
          obtain rfl := order_unique hp hs hp' hs'
          obtain ⟨_, hg0', _⟩ := shared (S := S) h hp
          rw [noRates hrate hr hg0 hS, noRates hrate hr hg0' hS]
          refine more_mono S (total, List.replicate m.length 0) (more, List.replicate m.length 0) hnd (fun j hj => ?_) hge hg0.lo (fun _ => Int.le_refl _) i
          have hj' := hS j hj
          refine ⟨by simpa using hj', by simpa using hj', ?_, ?_, (hr j hj').2.2.1⟩ <;> (simp only [List.getD_eq_getElem?_getD, List.getElem?_replicate]; split <;> rfl)
        have hl2 := ranks_loop hx3 (by omega) hA3 hlA hos' total more (askErr more m) hord hzero hbl hmore m.length
        have elB : askErr more m = 0 → lenS vB = some m.length := fun h => by rw [hos'.len]; simp [ints, hbl h]
        generalize shareV m total S = as at *
        by_cases hf : askErr more m = 0
        · have elB' := elB hf
          rw [hf] at c13' hl2
          simp -implicitDefEqProofs [q3, hev, hxb, hxf, c13, hvf, hvb, ev1_nb hvb, c13', hvf', hvb', ev1_nb hvb', elA, elx, elB']
          repeat rw [Option.bind_assoc]
          refine Ends.bind (Q := fun s : St => Post5o M3 (AExit.exit 2) s.σ s.H ∧ s.e = .normal) (Ends.map (hl2 _ _ ⟨0, by omega, by omega, rfl, by simp [lp5_2, T5b, hev, ev1_nb hvb, ev1_nb hvb']⟩) ?_) ?_
          · rintro ⟨e, σ, G⟩ ⟨q1, q2⟩
            simp only at q1
            subst q1
            exact ⟨⟨rfl, q2⟩, by simp [unblock]⟩
          · rintro ⟨e, σ, G⟩ ⟨⟨_, g1, g2⟩, q1⟩
            simp only at q1 g1 g2
            subst q1; subst g1
            simp -implicitDefEqProofs [g2, alive10]
        · simp -implicitDefEqProofs [q3, hev, hxb, hxf, c13, hvf, hvb, ev1_nb hvb, c13', hvf', hvb', ev1_nb hvb', elA, elx, hf]
          repeat rw [Option.bind_assoc]
          refine Ends.bind (Q := fun s : St => Post5o M3 (AExit.exit 2) s.σ s.H ∧ s.e = .normal) (Ends.map (hl2 _ _ ⟨0, by omega, by omega, rfl, by simp [lp5_2, T5b, hev, ev1_nb hvb, ev1_nb hvb']⟩) ?_) ?_
          · rintro ⟨e, σ, G⟩ ⟨q1, q2⟩
            simp only at q1
            subst q1
            exact ⟨⟨rfl, q2⟩, by simp [unblock]⟩
          · rintro ⟨e, σ, G⟩ ⟨⟨_, g1, g2⟩, q1⟩
            simp only at q1 g1 g2
            subst q1; subst g1
            simp -implicitDefEqProofs [g2, alive10]
      · simp -implicitDefEqProofs [q3, hev, hxb, hxf, c13, hvf, hvb, ev1_nb hvb, he, alive10]
end Go.A.Seat
