import Derived.Test.YtekoolanpphbfaaNB
set_option linter.unusedSimpArgs false
set_option linter.unusedVariables false
set_option linter.unnecessarySimpa false
namespace Go.A.Seat
open Go.A
set_option linter.unusedSimpArgs false
set_option linter.unusedVariables false

section
variable {H0 : Heap} {r n : Nat} {R : Nat → Int} {f : FuncId} {cs : List AV}

/-- Sorted runs of bs places each, of the places from k on. -/
inductive Runs (R : Nat → Int) (bs : Nat) : Nat → List Nat → Prop
  | last (k : Nat) (C : List Nat) : C.Pairwise (lt R) → C.length ≤ bs → (∀ x ∈ C, k ≤ x ∧ x < k + C.length) → Runs R bs k C
  | cons (k : Nat) (C D : List Nat) : C.Pairwise (lt R) → C.length = bs → (∀ x ∈ C, k ≤ x ∧ x < k + bs) → Runs R bs (k + bs) D → Runs R bs k (C ++ D)

theorem Runs.first {bs k : Nat} {U : List Nat} (h : Runs R bs k U) (hb : bs ≤ U.length) : ∃ C U', U = C ++ U' ∧ C.length = bs ∧ C.Pairwise (lt R) ∧ (∀ x ∈ C, k ≤ x ∧ x < k + bs) ∧ Runs R bs (k + bs) U' := by
  cases h with
  | last _ _ p l x =>
    have : U.length = bs := by omega
    refine ⟨U, [], by simp, this, p, by rw [this] at x; exact x, .last _ _ (by simp) (by simp) (by simp)⟩
  | cons _ C D p l x hr => exact ⟨C, D, rfl, l, p, x, hr⟩
theorem Runs.one {bs k : Nat} {U : List Nat} (h : Runs R bs k U) (hb : U.length ≤ bs) : U.Pairwise (lt R) ∧ ∀ x ∈ U, k ≤ x ∧ x < k + U.length := by
  cases h with
  | last _ _ p l x => exact ⟨p, x⟩
  | cons _ C D p l x hr =>
    simp only [List.length_append] at hb
    have : D = [] := List.eq_nil_of_length_eq_zero (by omega)
    subst this
    simp only [List.append_nil]
    exact ⟨p, by rw [l]; exact x⟩

def T66 (r n : Nat) (f : FuncId) (cs : List AV) (bs : Int) : Tr := ((((Tr.full 6).put (path 0) (sv r n)).put (path 1) (ai n)).put (path 2) (.fn f cs)).put (path 6) (ai bs)

def InvA (H0 : Heap) (r n : Nat) (R : Nat → Int) (f : FuncId) (cs : List AV) (z : Nat) (σ : List AV) (M : Heap) : Prop :=
  ∃ S, ∃ a b lo : Nat, S.length = a ∧ n - a = z ∧ a ≤ n ∧ b = a + 20 ∧ lo ≤ n ∧ (S ++ List.range' a (n - a)).Perm (List.range n) ∧ (∀ U, Runs R 20 a U → Runs R 20 0 (S ++ U)) ∧ M = W H0 r (S ++ List.range' a (n - a)) lo ∧ σ = L 63 (((T66 r n f cs 20).put (path 7) (ai a)).put (path 8) (ai b))
def PostA (H0 : Heap) (r n : Nat) (R : Nat → Int) (f : FuncId) (cs : List AV) (e : AExit) (σ : List AV) (M : Heap) : Prop :=
  e = .exit 0 ∧ ∃ S, ∃ a lo : Nat, S.length = a ∧ a ≤ n ∧ n < a + 20 ∧ lo ≤ n ∧ (S ++ List.range' a (n - a)).Perm (List.range n) ∧ (∀ U, Runs R 20 a U → Runs R 20 0 (S ++ U)) ∧ M = W H0 r (S ++ List.range' a (n - a)) lo ∧ kill [8, 11, 12, 13] σ = L 63 ((T66 r n f cs 20).put (path 7) (ai a))

theorem blocks_loop (hr : r < H0.length) (hn : n ≤ 100000) (hcs : AV.freeAll cs = true) (hc : Cmp H0 r n R f cs) :
    ∀ (z : Nat) (σ : List AV) (M : Heap), InvA H0 r n R f cs z (kill (headK lp66_0) σ) M → Ends (execW tbl X1 (.loop lp66_0) σ M) fun s => PostA H0 r n R f cs s.e s.σ s.H := by
  intro z σ M hI
  have := loop_rule (T := tbl) (X := X1) (b := lp66_0) (InvA H0 r n R f cs) (PostA H0 r n R f cs) ?_ z σ M hI
  · exact this.mono fun s hs => hs.2
  · clear hI σ z M
    rintro z σ M ⟨S, a, b, lo, hS, rfl, han, hb0, hlo, hp, hrun, rfl, rfl⟩
    have hb0 := hb0.symm
    by_cases hb : b ≤ n
    · have hsplit : List.range' a (n - a) = List.range' a 20 ++ List.range' b (n - b) := by
        rw [show n - a = 20 + (n - b) by omega, List.range'_append_1.symm, hb0]
      rw [hsplit] at hp
      have hx : ∀ y ∈ S ++ List.range' a 20 ++ List.range' b (n - b), y < n := fun y hy => by
        rw [List.append_assoc] at hy
        simpa using hp.mem_iff.1 hy
      have hlen : (S ++ List.range' a 20 ++ List.range' b (n - b)).length = n := by simp; omega
      obtain ⟨C, lo', hpc, hsc, hlo', hcall⟩ := ins85 hr (by omega) hc S (List.range' a 20) (List.range' b (n - b)) List.pairwise_lt_range' hlen hx lo hlo b (by simp; omega)
      rw [hS, List.append_assoc, ← hsplit] at hcall
      have hb' : (b : Int) ≤ n := by omega
      have w : IntKind.i64.wrap ((b : Int) + 20) = ((b + 20 : Nat) : Int) := by rw [wrap_i64 (by omega) (by omega)]; omega
      generalize S ++ List.range' a (n - a) = D at *
      generalize hD : S ++ C ++ List.range' b (n - b) = D' at *
      simp -implicitDefEqProofs [lp66_0, T66, hb', w, hcs, hcall]
      have hCl : C.length = 20 := by rw [hpc.length_eq]; simp
      refine ⟨n - b, by omega, S ++ C, b, b + 20, lo', by simp [hS, hCl, hb0], rfl, hb, rfl, hlo', ?_, ?_, by rw [hD], by simp [T66]⟩
      · refine List.Perm.trans ?_ hp
        rw [List.append_assoc]
        exact List.Perm.append_left S (List.Perm.append_right _ hpc)
      · intro U hU
        rw [List.append_assoc]
        refine hrun _ (.cons a C U hsc hCl (fun x hx => ?_) (by rw [hb0]; exact hU))
        have := hpc.mem_iff.1 hx
        simp [List.mem_range'_1] at this
        omega
    · have hb' : ¬ (b : Int) ≤ n := by omega
      generalize hD : S ++ List.range' a (n - a) = D at *
      simp -implicitDefEqProofs [lp66_0, T66, hb']
      exact ⟨rfl, S, a, lo, hS, han, by omega, hlo, by rw [hD]; exact hp, hrun, by rw [hD], by simp [T66]⟩

def InvB (H0 : Heap) (r n : Nat) (R : Nat → Int) (f : FuncId) (cs : List AV) (bs : Nat) (z : Nat) (σ : List AV) (M : Heap) : Prop :=
  ∃ S U, ∃ a b lo : Nat, S.length = a ∧ n - a = z ∧ a ≤ n ∧ b = a + 2 * bs ∧ lo ≤ n ∧ (S ++ U).Perm (List.range n) ∧ (∀ U, Runs R (2 * bs) a U → Runs R (2 * bs) 0 (S ++ U)) ∧ Runs R bs a U ∧ M = W H0 r (S ++ U) lo ∧ σ = L 63 (((T66 r n f cs bs).put (path 7) (ai a)).put (path 8) (ai b))
def PostB (H0 : Heap) (r n : Nat) (R : Nat → Int) (f : FuncId) (cs : List AV) (bs : Nat) (e : AExit) (σ : List AV) (M : Heap) : Prop :=
  e = .exit 4 ∧ ∃ S U, ∃ a lo : Nat, S.length = a ∧ a ≤ n ∧ n < a + 2 * bs ∧ lo ≤ n ∧ (S ++ U).Perm (List.range n) ∧ (∀ U, Runs R (2 * bs) a U → Runs R (2 * bs) 0 (S ++ U)) ∧ Runs R bs a U ∧ M = W H0 r (S ++ U) lo ∧ kill [8, 33, 34, 35] σ = L 63 ((T66 r n f cs bs).put (path 7) (ai a))

theorem merges_loop (hr : r < H0.length) (hn : n ≤ 100000) (hcs : AV.freeAll cs = true) (hc : Cmp H0 r n R f cs) (bs : Nat) (hbs : 0 < bs) (hbs' : bs ≤ n) :
    ∀ (z : Nat) (σ : List AV) (M : Heap), InvB H0 r n R f cs bs z (kill (headK lp66_1) σ) M → Ends (execW tbl X1 (.loop lp66_1) σ M) fun s => PostB H0 r n R f cs bs s.e s.σ s.H := by
  intro z σ M hI
  have := loop_rule (T := tbl) (X := X1) (b := lp66_1) (InvB H0 r n R f cs bs) (PostB H0 r n R f cs bs) ?_ z σ M hI
  · exact this.mono fun s hs => hs.2
  · clear hI σ z M
    rintro z σ M ⟨S, U, a, b, lo, hS, rfl, han, hb0, hlo, hp, hrun, hU, rfl, rfl⟩
    have hUl : S.length + U.length = n := by simpa using hp.length_eq
    by_cases hb : b ≤ n
    · obtain ⟨C1, U1, rfl, hl1, hs1, hr1, hU1⟩ := hU.first (by omega)
      simp only [List.length_append] at hUl
      obtain ⟨C2, U2, rfl, hl2, hs2, hr2, hU2⟩ := hU1.first (by omega)
      simp only [List.length_append] at hUl
      have e1 : S ++ (C1 ++ (C2 ++ U2)) = S ++ C1 ++ C2 ++ U2 := by simp
      rw [e1] at hp
      have hx : ∀ y ∈ S ++ C1 ++ C2 ++ U2, y < n := fun y hy => by simpa using hp.mem_iff.1 hy
      obtain ⟨C, lo', hpc, hsc, hlo', hcall⟩ := merge86 hr (by omega) hcs hc _ S C1 C2 U2 a (a + bs) b lo (Nat.le_refl _) (by omega) (by omega) hS.symm (by omega) (by omega) (by simp only [List.length_append]; omega) hx hs1 hs2 (fun x hx y hy => by
        have := hr1 x hx
        have := hr2 y hy
        omega) hlo
      have hb' : (b : Int) ≤ n := by omega
      have w : IntKind.i64.wrap (2 * (bs : Int)) = ((2 * bs : Nat) : Int) := by rw [wrap_i64 (by omega) (by omega)]; omega
      have w2 : IntKind.i64.wrap ((b : Int) + ((2 * bs : Nat) : Int)) = ((b + 2 * bs : Nat) : Int) := by rw [wrap_i64 (by omega) (by omega)]; omega
      have w3 : IntKind.i64.wrap ((a : Int) + bs) = ((a + bs : Nat) : Int) := by rw [wrap_i64 (by omega) (by omega)]; omega
      rw [← e1] at hcall
      generalize S ++ (C1 ++ (C2 ++ U2)) = D at *
      generalize hD : S ++ C ++ U2 = D' at *
      generalize hbb : 2 * bs = bb at *
      generalize hab : a + bs = ab' at *
      simp -implicitDefEqProofs [lp66_1, T66, hb', w, w2, w3, hcs, hcall]
      have hCl : C.length = bb := by rw [hpc.length_eq]; simp; omega
      refine ⟨n - b, by omega, S ++ C, U2, b, b + bb, lo', by simp [hS, hCl, hb0], rfl, hb, by omega, hlo', ?_, ?_, by rw [hb0]; rw [show a + bb = ab' + bs by omega]; exact hU2, by rw [hD], by simp [T66]⟩
      · refine List.Perm.trans ?_ hp
        exact List.Perm.append_right _ (by rw [List.append_assoc]; exact List.Perm.append_left S hpc)
      · intro U hU
        rw [List.append_assoc]
        rw [hbb]
        refine hrun _ (.cons a C U hsc hCl (fun x hx => ?_) (by rw [← hb0, ← hbb]; exact hU))
        rcases List.mem_append.1 (hpc.mem_iff.1 hx) with h | h
        · have := hr1 x h; omega
        · have := hr2 x h; omega
    · have hb' : ¬ (b : Int) ≤ n := by omega
      generalize hD : S ++ U = D at *
      simp -implicitDefEqProofs [lp66_1, T66, hb']
      exact ⟨rfl, S, U, a, lo, hS, han, by omega, hlo, by rw [hD]; exact hp, hrun, hU, by rw [hD], by simp [T66]⟩
end
end Go.A.Seat

namespace Go.A.Seat
open Go.A
set_option linter.unusedSimpArgs false
set_option linter.unusedVariables false

section
variable {H0 : Heap} {r n : Nat} {R : Nat → Int} {f : FuncId} {cs : List AV}

def InvC (H0 : Heap) (r n : Nat) (R : Nat → Int) (f : FuncId) (cs : List AV) (z : Nat) (σ : List AV) (M : Heap) : Prop :=
  ∃ D, ∃ bs lo : Nat, 0 < bs ∧ bs ≤ 2 * n + 20 ∧ 2 * n + 20 - bs = z ∧ lo ≤ n ∧ D.Perm (List.range n) ∧ Runs R bs 0 D ∧ M = W H0 r D lo ∧ σ = L 63 (T66 r n f cs bs)
def PostC (H0 : Heap) (r n : Nat) (R : Nat → Int) (e : AExit) (σ : List AV) (M : Heap) : Prop :=
  e = .exit 2 ∧ ∃ D lo, lo ≤ n ∧ D.Perm (List.range n) ∧ D.Pairwise (lt R) ∧ M = W H0 r D lo

theorem passes_loop (hr : r < H0.length) (hn : n ≤ 100000) (hcs : AV.freeAll cs = true) (hc : Cmp H0 r n R f cs) :
    ∀ (z : Nat) (σ : List AV) (M : Heap), InvC H0 r n R f cs z (kill (headK lp66_2) σ) M → Ends (execW tbl X1 (.loop lp66_2) σ M) fun s => PostC H0 r n R s.e s.σ s.H := by
  intro z σ M hI
  have := loop_rule (T := tbl) (X := X1) (b := lp66_2) (InvC H0 r n R f cs) (PostC H0 r n R) ?_ z σ M hI
  · exact this.mono fun s hs => hs.2
  · clear hI σ z M
    rintro z σ M ⟨D, bs, lo, hbs, hbs2, rfl, hlo, hp, hrun, rfl, rfl⟩
    have hDl : D.length = n := by simpa using hp.length_eq
    by_cases hb : bs < n
    · have hb' : (bs : Int) < n := by omega
      have w : IntKind.i64.wrap (2 * (bs : Int)) = ((2 * bs : Nat) : Int) := by rw [wrap_i64 (by omega) (by omega)]; omega
      have w2 : IntKind.i64.wrap ((bs : Int) * 2) = ((2 * bs : Nat) : Int) := by rw [wrap_i64 (by omega) (by omega)]; omega
      have hl := merges_loop hr hn hcs hc bs hbs (by omega) n
      generalize hbb : 2 * bs = bb at *
      simp -implicitDefEqProofs [lp66_2, T66, hb', w]
      repeat rw [Option.bind_assoc]
      refine Ends.bind (Q := fun s : St => PostB H0 r n R f cs bs (AExit.exit 4) s.σ s.H ∧ s.e = .normal) (Ends.map (hl _ _ ⟨[], D, 0, bb, lo, rfl, by simp, by omega, by omega, hlo, by simpa using hp, by simp, hrun, by simp, by simp [lp66_1, T66]⟩) ?_) ?_
      · rintro ⟨e, σ, G⟩ ⟨q1, q2⟩
        simp only at q1
        subst q1
        exact ⟨⟨rfl, q2⟩, by simp [unblock]⟩
      · rintro ⟨e, σ, G⟩ ⟨⟨_, S, U, a, lo1, hS, han, hnb, hlo1, hp1, hrun1, hU, q6, q7⟩, q1⟩
        simp only at q1 q6 q7
        subst q1; subst q6
        simp only [T66] at q7
        have hUl : S.length + U.length = n := by simpa using hp1.length_eq
        have w3 : IntKind.i64.wrap ((a : Int) + bs) = ((a + bs : Nat) : Int) := by rw [wrap_i64 (by omega) (by omega)]; omega
        by_cases hm : a + bs < n
        · obtain ⟨C1, U1, rfl, hl1, hs1, hr1, hU1⟩ := hU.first (by omega)
          simp only [List.length_append] at hUl
          obtain ⟨hs2, hr2⟩ := hU1.one (by omega)
          have e1 : S ++ (C1 ++ U1) = S ++ C1 ++ U1 ++ [] := by simp
          rw [e1] at hp1
          have hx : ∀ y ∈ S ++ C1 ++ U1 ++ [], y < n := fun y hy => by simpa using hp1.mem_iff.1 hy
          obtain ⟨C, lo', hpc, hsc, hlo', hcall⟩ := merge86 hr (by omega) hcs hc _ S C1 U1 [] a (a + bs) n lo1 (Nat.le_refl _) (by omega) (by omega) hS.symm (by omega) (by omega) (by simp only [List.length_append, List.length_nil]; omega) hx hs1 hs2 (fun x hx y hy => by
            have := hr1 x hx
            have := hr2 y hy
            omega) hlo1
          rw [← e1] at hcall
          have hm' : ((a + bs : Nat) : Int) < n := by omega
          generalize S ++ (C1 ++ U1) = D1 at *
          generalize hD : S ++ C ++ [] = D' at *
          generalize hab : a + bs = ab' at *
          simp -implicitDefEqProofs [q7, w2, w3, hm', hcs, hcall]
          refine ⟨2 * n + 20 - bb, by omega, D', bb, lo', by omega, by omega, rfl, hlo', ?_, ?_, rfl, by simp [T66]⟩
          · refine List.Perm.trans ?_ hp1
            rw [← hD]
            exact List.Perm.append_right _ (by rw [List.append_assoc]; exact List.Perm.append_left S hpc)
          · rw [← hD, List.append_nil]
            have hCl : C.length = C1.length + U1.length := by rw [hpc.length_eq]; simp
            refine hrun1 _ (.last a C hsc (by omega) (fun x hx => ?_)) |> fun h => by simpa [hbb] using h
            rcases List.mem_append.1 (hpc.mem_iff.1 hx) with h | h
            · have := hr1 x h; omega
            · have := hr2 x h; omega
        · obtain ⟨hs2, hr2⟩ := hU.one (by omega)
          have hm' : ¬ ((a + bs : Nat) : Int) < n := by omega
          generalize hD : S ++ U = D' at *
          generalize hab : a + bs = ab' at *
          simp -implicitDefEqProofs [q7, w2, w3, hm', hcs]
          refine ⟨2 * n + 20 - bb, by omega, D', bb, lo1, by omega, by omega, rfl, hlo1, hp1, ?_, rfl, by simp [T66]⟩
          rw [← hD]
          have := hrun1 _ (.last a U hs2 (by omega) hr2)
          simpa [hbb] using this
    · have hb' : ¬ (bs : Int) < n := by omega
      simp -implicitDefEqProofs [lp66_2, T66, hb']
      exact ⟨rfl, D, lo, hlo, hp, (hrun.one (by omega)).1, rfl⟩

theorem stable66 (hr : r < H0.length) (hn : n ≤ 100000) (hcs : AV.freeAll cs = true) (hc : Cmp H0 r n R f cs) (lo : Nat) (hlo : lo ≤ n) :
    ∃ S lo', S.Perm (List.range n) ∧ S.Pairwise (lt R) ∧ lo' ≤ n ∧ callW tbl X1 66 [sv r n, ai n, .fn f cs] (W H0 r (List.range n) lo) = some (.tup [], W H0 r S lo') := by
  suffices h : Ends (callW tbl X1 66 [sv r n, ai n, .fn f cs] (W H0 r (List.range n) lo)) fun z => ∃ S lo', S.Perm (List.range n) ∧ S.Pairwise (lt R) ∧ lo' ≤ n ∧ z = (.tup [], W H0 r S lo') by
    obtain ⟨_, h1, S, lo', h3, h4, h5, rfl⟩ := h
    exact ⟨S, lo', h3, h4, h5, h1⟩
  refine call_rule (X1_none (by decide) _ _) rfl ?_
  rw [fun66, slots0_L 6 63 _ (by simp)]
  have hl := blocks_loop hr hn hcs hc n
  simp -implicitDefEqProofs [code66]
  refine Ends.bind (Q := fun s : St => PostA H0 r n R f cs (AExit.exit 0) s.σ s.H ∧ s.e = .normal) (Ends.map (hl _ _ ⟨[], 0, 20, lo, rfl, by simp, by omega, rfl, hlo, by simp [List.range_eq_range'], by simp, by simp [List.range_eq_range'], by simp [lp66_0, T66]⟩) ?_) ?_
  · rintro ⟨e, σ, G⟩ ⟨q1, q2⟩
    simp only at q1
    subst q1
    exact ⟨⟨rfl, q2⟩, by simp [unblock]⟩
  · rintro ⟨e, σ, G⟩ ⟨⟨_, S, a, lo1, hS, han, hnb, hlo1, hp1, hrun1, q6, q7⟩, q1⟩
    simp only at q1 q6 q7
    subst q1; subst q6
    simp only [T66] at q7
    have hx : ∀ y ∈ S ++ List.range' a (n - a) ++ [], y < n := fun y hy => by
      rw [List.append_nil] at hy
      simpa using hp1.mem_iff.1 hy
    obtain ⟨C, lo', hpc, hsc, hlo', hcall⟩ := ins85 hr (by omega) hc S (List.range' a (n - a)) [] List.pairwise_lt_range' (by simp; omega) hx lo1 hlo1 n (by simp; omega)
    rw [hS, List.append_nil, List.append_nil] at hcall
    have hl2 := passes_loop hr hn hcs hc (2 * n)
    have hCl : C.length = n - a := by rw [hpc.length_eq]; simp
    have hrun : Runs R 20 0 (S ++ C) := hrun1 _ (.last a C hsc (by omega) (fun x hx => by
      have := hpc.mem_iff.1 hx
      simp [List.mem_range'_1] at this
      omega))
    have hpD : (S ++ C).Perm (List.range n) := (List.Perm.append_left S hpc).trans hp1
    generalize S ++ List.range' a (n - a) = D1 at *
    generalize hD : S ++ C = D' at *
    simp -implicitDefEqProofs [q7, hcs, hcall]
    refine Ends.map (hl2 _ _ ⟨D', 20, lo', by omega, by omega, by omega, hlo', hpD, hrun, rfl, by simp [lp66_2, T66]⟩) ?_
    rintro ⟨e, σ, G⟩ ⟨q1, D, lo2, g1, g2, g3, g4⟩
    simp only at q1 g4
    subst q1; subst g4
    simp -implicitDefEqProofs [unblock]
    exact ⟨D, g2, g3, lo2, g1, rfl⟩
end
end Go.A.Seat

namespace Go.A.Seat
open Go.A
set_option linter.unusedSimpArgs false
set_option linter.unusedVariables false

theorem opA_box (C : Oracle) (d : Option Nat) (σ : List AV) (H : Heap) (k : Nat) (x : SX) : opA C d (.box k x) σ H = if (toCells (evalX σ x)).length = k ∧ (toCells (evalX σ x)).all okCell = true then some (.ptr H.length 0 k, σ, H ++ [.row (toCells (evalX σ x))]) else none := rfl
attribute [simp] opA_box

theorem cmp36 {M : Heap} {va : AV} {la : List Ask} (ha : Sl M 4 va (asks la)) {rb : Nat} (hb : rdRow M rb 0 1 1 = some [va]) (a b : Nat) (h1 : a < la.length) (h2 : b < la.length) :
    callW tbl X1 36 [ai a, ai b, .ptr rb 0 1] M = some (ai (cmpI (rk la) a b), M) := by
  obtain ⟨x, hx⟩ : ∃ x, la[a]? = some x := ⟨_, List.getElem?_eq_getElem h1⟩
  obtain ⟨y, hy⟩ : ∃ y, la[b]? = some y := ⟨_, List.getElem?_eq_getElem h2⟩
  obtain ⟨r, o, g, p1, p2⟩ := ha.at (cs := x.cells) (i := a) (by simp [asks, hx])
  obtain ⟨r', o', g', p3, p4⟩ := ha.at (cs := y.cells) (i := b) (by simp [asks, hy])
  have q1 := p1 a rfl
  have q3 := p3 b rfl
  have f1 := rdRow_field p2 (j := 1) (v := ai x.rank) rfl
  have f2 := rdRow_field p4 (j := 1) (v := ai y.rank) rfl
  have hrk1 : rk la a = x.rank := by simp [rk, hx]
  have hrk2 : rk la b = y.rank := by simp [rk, hy]
  rw [callW_eq, X1_none (by decide)]
  simp only [tbl, Option.bind_some, fun36, code36, cmpI, hrk1, hrk2]
  rw [slots0_L 5 30 _ (by simp)]
  by_cases c1 : x.rank < y.rank
  · simp -implicitDefEqProofs [ha.ev, ha.nb, hb, q1, q3, f1, f2, c1]
  · by_cases c2 : y.rank < x.rank
    · simp -implicitDefEqProofs [ha.ev, ha.nb, hb, q1, q3, f1, f2, c1, c2]
    · simp -implicitDefEqProofs [ha.ev, ha.nb, hb, q1, q3, f1, f2, c1, c2]

theorem sort35 {H0 : Heap} {r n : Nat} {R : Nat → Int} {f : FuncId} {cs : List AV} (hr : r < H0.length) (hn : n ≤ 100000) (hcs : AV.freeAll cs = true) (hc : Cmp H0 r n R f cs) (lo : Nat) (hlo : lo ≤ n) :
    ∃ S lo', S.Perm (List.range n) ∧ S.Pairwise (lt R) ∧ lo' ≤ n ∧ callW tbl X1 35 [sv r n, .fn f cs] (W H0 r (List.range n) lo) = some (.tup [], W H0 r S lo') := by
  obtain ⟨S, lo', h1, h2, h3, h4⟩ := stable66 hr hn hcs hc lo hlo
  refine ⟨S, lo', h1, h2, h3, ?_⟩
  generalize W H0 r (List.range n) lo = M at *
  rw [callW_eq, X1_none (by decide)]
  simp only [tbl, Option.bind_some, fun35, code35]
  rw [slots0_L 4 9 _ (by simp)]
  simp -implicitDefEqProofs [hcs, h4, lenS]

theorem sort35nil {f : FuncId} {cs : List AV} (hcs : AV.freeAll cs = true) (M : Heap) : callW tbl X1 35 [nilS, .fn f cs] M = some (.tup [], M) := by
  have h85 : callW tbl X1 85 [nilS, ai 0, ai 0, .fn f cs] M = some (.tup [], M) := by
    rw [callW_eq, X1_none (by decide)]
    simp only [tbl, Option.bind_some, fun85, code85, lp85_1]
    rw [slots0_L 6 53 _ (by simp)]
    simp -implicitDefEqProofs [hcs, execW_loop, wrap_i64]
  have h66 : callW tbl X1 66 [nilS, ai 0, .fn f cs] M = some (.tup [], M) := by
    rw [callW_eq, X1_none (by decide)]
    simp only [tbl, Option.bind_some, fun66, code66, lp66_0, lp66_2]
    rw [slots0_L 6 63 _ (by simp)]
    simp -implicitDefEqProofs [hcs, execW_loop, wrap_i64, h85]
  rw [callW_eq, X1_none (by decide)]
  simp only [tbl, Option.bind_some, fun35, code35]
  rw [slots0_L 4 9 _ (by simp)]
  simp -implicitDefEqProofs [hcs, h66, lenS]
end Go.A.Seat

namespace Go.A.Seat
open Go.A
set_option linter.unusedSimpArgs false
set_option linter.unusedVariables false

/-- One is appended to one's own slice; what is appended lies in a row of its own. -/
theorem append_own {M : Heap} {r k lo : Nat} {cs : List AV} {v : AV} (h : M[r]? = some (.grow cs lo)) (hk : cs.length = k) (h0 : 0 < k) (hkb : k ≤ 1000000) (hv : okCell v = true) :
    appendA (M ++ [AObj.row [v]]) 1 8 (.sl r 0 k k 1 k false) (.sl M.length 0 1 1 1 1 true) = some (.sl r 0 (k + 1) (k + 1) 1 (k + 1) false, (M ++ [AObj.row [v]]).set r (.grow (cs ++ [v]) lo)) := by
  have hr := (List.getElem?_eq_some_iff.1 h).1
  have h' : (M ++ [AObj.row [v]])[r]? = some (.grow cs lo) := by rw [List.getElem?_append_left hr, h]
  have hrd : rdRow (M ++ [AObj.row [v]]) M.length 0 1 1 = some [v] := by
    have := rdRow_row (get_new M (.row [v])) (i := 0) (n := 1) (by simp)
    simpa using this
  have hv' : [v].all okCell = true := by simp only [List.all_cons, hv, List.all_nil, Bool.and_self]
  simp only [appendA, lenA, Option.bind_some, firstA]
  simp only [Nat.one_ne_zero, if_false, Nat.le_refl, if_true, Nat.mul_one, hrd, Option.bind_some]
  rw [if_neg (by omega), if_pos ⟨by simp only [appBound]; omega, by simp only [appBound]; omega, hv'⟩, if_pos ⟨trivial, trivial, fun h => by omega, trivial, trivial, by simp [h', AObj.isW, AObj.cells, hk]⟩, h']
  rfl
theorem append_nil (M : Heap) (v : AV) (hv : okCell v = true) :
    appendA (M ++ [AObj.row [v]]) 1 8 nilS (.sl M.length 0 1 1 1 1 true) = some (.sl (M.length + 1) 0 1 1 1 1 false, (M ++ [AObj.row [v]]) ++ [.grow [v] 0]) := by
  have hrd : rdRow (M ++ [AObj.row [v]]) M.length 0 1 1 = some [v] := by
    have := rdRow_row (get_new M (.row [v])) (i := 0) (n := 1) (by simp)
    simpa using this
  have hv' : [v].all okCell = true := by simp only [List.all_cons, hv, List.all_nil, Bool.and_self]
  simp only [appendA, lenA, Option.bind_some, firstA]
  simp only [Nat.one_ne_zero, if_false, Nat.le_refl, if_true, Nat.mul_one, hrd, Option.bind_some]
  rw [if_pos ⟨by simp only [appBound]; omega, by simp only [appBound]; omega, hv'⟩]
  simp

def places (k : Nat) : List AV := (List.range k).map fun (x : Nat) => ai x

/-- A slice of the first k places, in a row of its own behind H and the box. -/
def OwnOut (H : Heap) (va v : AV) (k : Nat) (M : Heap) : Prop :=
  ∃ N, M = H ++ [.row [va]] ++ N ∧ ((k = 0 ∧ v = nilS) ∨ (0 < k ∧ ∃ r, H.length < r ∧ r < M.length ∧ v = sv r k ∧ M[r]? = some (.grow (places k) 0)))

def Inv16 (H : Heap) (va : AV) (n : Nat) (z : Nat) (σ : List AV) (M : Heap) : Prop :=
  ∃ v, ∃ k : Nat, n - k = z ∧ k ≤ n ∧ OwnOut H va v k M ∧ σ = L 19 (((((Tr.full 5).put (path 1) (.ptr H.length 0 1)).put (path 3) v).put (path 6) (ai n)).put (path 7) (ai k))
def Post16 (H : Heap) (va : AV) (n : Nat) (e : AExit) (σ : List AV) (M : Heap) : Prop :=
  e = .exit 0 ∧ ∃ v, OwnOut H va v n M ∧ kill [6, 7, 8] σ = L 19 (((Tr.full 5).put (path 1) (.ptr H.length 0 1)).put (path 3) v)

theorem places_loop (H : Heap) (va : AV) (n : Nat) (hn : n ≤ 100000) :
    ∀ (z : Nat) (σ : List AV) (M : Heap), Inv16 H va n z (kill (headK lp16_0) σ) M → Ends (execW tbl X1 (.loop lp16_0) σ M) fun s => Post16 H va n s.e s.σ s.H := by
  intro z σ M hI
  have := loop_rule (T := tbl) (X := X1) (b := lp16_0) (Inv16 H va n) (Post16 H va n) ?_ z σ M hI
  · exact this.mono fun s hs => hs.2
  · clear hI σ z M
    rintro z σ M ⟨v, k, rfl, hk, hO, rfl⟩
    obtain ⟨hv1, hv2⟩ : v.isBox = false ∧ v.free = true := by
      obtain ⟨N, _, ⟨_, rfl⟩ | ⟨_, r, _, _, rfl, _⟩⟩ := hO <;> exact ⟨rfl, rfl⟩
    have hev := ev1_nb hv1
    by_cases hkn : k = n
    · subst hkn
      simp -implicitDefEqProofs [lp16_0, hev]
      exact ⟨rfl, v, hO, by simp⟩
    · have hlt : (k : Int) < n := by omega
      have w : IntKind.i64.wrap ((k : Int) + 1) = ((k + 1 : Nat) : Int) := by rw [wrap_i64 (by omega) (by omega)]; omega
      obtain ⟨v', M', happ, hO', hv1', hv2'⟩ : ∃ v' M', appendA (M ++ [AObj.row [ai k]]) 1 8 v (.sl M.length 0 1 1 1 1 true) = some (v', M') ∧ OwnOut H va v' (k + 1) M' ∧ v'.isBox = false ∧ v'.free = true := by
        obtain ⟨N, hM, ⟨rfl, rfl⟩ | ⟨h0, r, hr1, hr2, rfl, hr3⟩⟩ := hO
        · refine ⟨_, _, append_nil M (ai (0 : Nat)) rfl, ⟨N ++ [.row [ai (0 : Nat)]] ++ [.grow [ai (0 : Nat)] 0], by rw [hM]; simp, .inr ⟨by omega, M.length + 1, ?_, ?_, rfl, ?_⟩⟩, rfl, rfl⟩
          · rw [hM]; simp; omega
          · simp
          · simp [places]
        · refine ⟨_, _, append_own hr3 (by simp [places]) h0 (by omega) rfl, ⟨(N ++ [AObj.row [ai k]]).set (r - (H.length + 1)) (.grow (places k ++ [ai k]) 0), ?_, .inr ⟨by omega, r, hr1, ?_, rfl, ?_⟩⟩, rfl, rfl⟩
          · rw [hM]
            have : H ++ [AObj.row [va]] ++ N ++ [AObj.row [ai k]] = (H ++ [AObj.row [va]]) ++ (N ++ [AObj.row [ai k]]) := by simp
            rw [this, List.set_append_right _ _ (by simp; omega)]
            simp
          · simp; omega
          · rw [List.getElem?_set_self (by simp; omega)]
            simp [places, List.range_succ]
      simp -implicitDefEqProofs [lp16_0, hev, hlt, w, AV.one, happ, hv1', hv2', ev1_nb hv1']
      exact ⟨n - (k + 1), by omega, v', k + 1, rfl, by omega, hO', by simp⟩

def PostO (H : Heap) (la : List Ask) (y : AV × Heap) : Prop :=
  ∃ (N : Heap) (v : AV) (S : List Nat), S.Perm (List.range la.length) ∧ S.Pairwise (lt (rk la)) ∧ y = (v, H ++ N) ∧ v.free = true ∧ v.isBox = false ∧ ∀ H' : Heap, H'.length = H.length → Sl (H' ++ N) 1 v (ints (S.map fun (x : Nat) => (x : Int)))

theorem rdRow_behind {H H' N : Heap} (h : H'.length = H.length) {r i n g : Nat} (hr : H.length ≤ r) : rdRow (H' ++ N) r i n g = rdRow (H ++ N) r i n g := by
  unfold rdRow
  rw [List.getElem?_append_right (by omega), List.getElem?_append_right hr, h]

theorem order16 {H : Heap} {va : AV} {la : List Ask} (ha : Sl H 4 va (asks la)) (hn : la.length ≤ 100000) :
    ∃ (N : Heap) (v : AV) (S : List Nat), S.Perm (List.range la.length) ∧ S.Pairwise (lt (rk la)) ∧ callW tbl X1 16 [va] H = some (v, H ++ N) ∧ v.free = true ∧ v.isBox = false ∧ ∀ H' : Heap, H'.length = H.length → Sl (H' ++ N) 1 v (ints (S.map fun (x : Nat) => (x : Int))) := by
  suffices h : Ends (callW tbl X1 16 [va] H) (PostO H la) by
    obtain ⟨_, h1, N, v, S, h2, h3, rfl, h4⟩ := h
    exact ⟨N, v, S, h2, h3, h1, h4⟩
  refine call_rule (X1_none (by decide) _ _) rfl ?_
  rw [fun16, slots0_L 5 19 _ (by simp)]
  have e1 : lenS va = some la.length := by rw [ha.len]; simp [asks]
  have hone : va.one = true := by rcases ha with ⟨rfl, _⟩ | ⟨r, off, cap, sz, g, ex, rfl, _, _⟩ <;> rfl
  have hcells : toCells va = [va] := by rcases ha with ⟨rfl, _⟩ | ⟨r, off, cap, sz, g, ex, rfl, _, _⟩ <;> rfl
  have hl := places_loop H va la.length hn la.length
  have hrd0 : rdRow (H ++ [AObj.row [va]]) H.length 0 1 1 = some [va] := by
    have := rdRow_row (get_new H (.row [va])) (i := 0) (n := 1) (by simp)
    simpa using this
  simp -implicitDefEqProofs [-toCells, -AV.one, code16, ha.ev, ha.nb, ha.free, e1, hone, hcells, hrd0]
  repeat rw [Option.bind_assoc]
  refine Ends.bind (Q := fun s : St => Post16 H va la.length (AExit.exit 0) s.σ s.H ∧ s.e = .normal) (Ends.map (hl _ _ ⟨nilS, 0, by omega, by omega, ⟨[], by simp, .inl ⟨rfl, rfl⟩⟩, by simp [lp16_0]⟩) ?_) ?_
  · rintro ⟨e, σ, G⟩ ⟨q1, q2⟩
    simp only at q1
    subst q1
    exact ⟨⟨rfl, q2⟩, by simp [unblock]⟩
  · rintro ⟨e, σ, M⟩ ⟨⟨_, v, hO, q7⟩, q1⟩
    simp only at q1 hO q7
    subst q1
    obtain ⟨hv1, hv2⟩ : v.isBox = false ∧ v.free = true := by
      obtain ⟨N, _, ⟨_, rfl⟩ | ⟨_, r, _, _, rfl, _⟩⟩ := hO <;> exact ⟨rfl, rfl⟩
    have hev := ev1_nb hv1
    obtain ⟨N, hM, ⟨h0, rfl⟩ | ⟨h0, r, hr1, hr2, rfl, hr3⟩⟩ := hO
    · have hs := sort35nil (f := 36) (cs := [.ptr H.length 0 1]) rfl M
      simp -implicitDefEqProofs [q7, hs]
      exact ⟨[AObj.row [va]] ++ N, nilS, [], by simp [h0], by simp, by rw [hM]; simp, rfl, rfl, fun _ _ => .inl ⟨rfl, rfl⟩⟩
    · have hW : M = W M r (List.range la.length) 0 := by
        apply List.ext_getElem?
        intro i
        simp only [W, List.getElem?_set]
        by_cases hi : r = i
        · subst hi
          rw [if_pos rfl, if_pos hr2, hr3]
          rfl
        · rw [if_neg hi]
      have hC : Cmp M r la.length (rk la) 36 [.ptr H.length 0 1] := by
        intro D lo a b _ _ h1 h2
        have hext : ∃ N', W M r D lo = (H ++ [AObj.row [va]]) ++ N' := ⟨N.set (r - (H.length + 1)) (.grow (D.map fun (x : Nat) => ai x) lo), by
          rw [W, hM, List.set_append_right _ _ (by simp; omega)]
          simp⟩
        obtain ⟨N', hN'⟩ := hext
        rw [hN']
        exact cmp36 (ha.grow.grow) (rdRow_append hrd0) a b h1 h2
      obtain ⟨S, lo', g1, g2, g3, g4⟩ := sort35 hr2 hn (f := 36) (cs := [.ptr H.length 0 1]) rfl hC 0 (by omega)
      rw [← hW] at g4
      have hSl : S.length = la.length := by simpa using g1.length_eq
      have hsl : ∀ i y, S[i]? = some y → rdRow (W M r S lo') r (0 + i * 1) 1 la.length = some [ai (y : Nat)] := fun i y hi => by
        rw [Nat.zero_add, Nat.mul_one]
        exact rd_W hr2 hSl g3 hi
      have hsl2 : ∀ G : Heap, (∀ i y, S[i]? = some y → rdRow G r (0 + i * 1) 1 la.length = some [ai (y : Nat)]) → Sl G 1 (sv r la.length) (ints (S.map fun (x : Nat) => (x : Int))) := by
        intro G hG
        refine .inr ⟨r, 0, la.length, 1, la.length, false, by simp [ints, hSl], ⟨by simp [ints, hSl], rfl⟩, fun i x hx => ?_⟩
        simp only [ints, List.map_map, List.getElem?_map] at hx
        cases hi : S[i]? with
        | none => rw [hi] at hx; simp at hx
        | some y =>
          rw [hi] at hx
          simp at hx
          subst hx
          exact hG i y hi
      have hNf : ∃ N', W M r S lo' = H ++ N' := ⟨[AObj.row [va]] ++ N.set (r - (H.length + 1)) (.grow (S.map fun (x : Nat) => ai x) lo'), by
        rw [W, hM, List.set_append_right _ _ (by simp; omega)]
        simp⟩
      obtain ⟨N', hN'⟩ := hNf
      rw [hN'] at g4 hsl
      simp -implicitDefEqProofs [q7, g4]
      exact ⟨N', _, S, g1, g2, rfl, rfl, rfl, fun H' hH' => hsl2 _ fun i y hi => by rw [rdRow_behind hH' (by omega)]; exact hsl i y hi⟩
end Go.A.Seat

namespace Go.A.Seat
open Go.A
set_option linter.unusedSimpArgs false
set_option linter.unusedVariables false

theorem ahead_iff (l : List Ask) (i k : Nat) : ahead l i k = true ↔ lt (rk l) k i := by
  simp [ahead, lt]
theorem cnt_countP (l : List Ask) (i : Nat) : ∀ k, cnt l i k = (List.range k).countP (ahead l i)
  | 0 => rfl
  | k + 1 => by
    rw [cnt, cnt_countP l i k, List.range_succ, List.countP_append]
    simp [List.countP_cons]

theorem pos_cnt {l : List Ask} {S : List Nat} (hp : S.Perm (List.range l.length)) (hs : S.Pairwise (lt (rk l))) {p i : Nat} (h : S[p]? = some i) : cnt l i l.length = p := by
  rw [cnt_countP, ← hp.countP_eq]
  have hlt := (List.getElem?_eq_some_iff.1 h).1
  obtain ⟨A, B, rfl, hA⟩ : ∃ A B, S = A ++ i :: B ∧ A.length = p := by
    refine ⟨S.take p, S.drop (p + 1), ?_, by simp; omega⟩
    have := (List.getElem?_eq_some_iff.1 h).2
    rw [← this]
    simp
  rw [List.pairwise_append, List.pairwise_cons] at hs
  obtain ⟨h1, ⟨h2, h3⟩, h4⟩ := hs
  have hnl : ∀ a b, lt (rk l) a b → ¬ lt (rk l) b a := by intro a b; unfold lt; omega
  rw [List.countP_append, List.countP_cons]
  have c1 : A.countP (ahead l i) = A.length := List.countP_eq_length.2 fun x hx => (ahead_iff l i x).2 (h4 x hx i (by simp))
  have c2 : B.countP (ahead l i) = 0 := List.countP_eq_zero.2 fun x hx hh => hnl _ _ (h2 x hx) ((ahead_iff l i x).1 hh)
  have c3 : ahead l i i = false := by simp [ahead]
  rw [c1, c2, c3]
  simp [hA]

theorem outAt_get {l : List Ask} {S : List Nat} (hp : S.Perm (List.range l.length)) (hs : S.Pairwise (lt (rk l))) : ∀ (j : Nat), j ≤ l.length → ∀ i, i < j → (outAt l j)[cnt l i l.length]? = some (i : Int)
  | 0, _, i, hi => by omega
  | j + 1, hj, i, hi => by
    have hin : ∀ i, i < l.length → ∃ p, S[p]? = some i := fun i h => List.getElem?_of_mem (hp.mem_iff.2 (by simpa using h))
    rw [outAt]
    by_cases he : i = j
    · subst he
      rw [List.getElem?_set_self (by rw [outAt_len]; exact cnt_lt l i (by omega))]
    · rw [List.getElem?_set_ne]
      · exact outAt_get hp hs j (by omega) i (by omega)
      · intro hc
        obtain ⟨p, h1⟩ := hin i (by omega)
        obtain ⟨q, h2⟩ := hin j (by omega)
        have e1 := pos_cnt hp hs h1
        have e2 := pos_cnt hp hs h2
        rw [← e1] at h1
        rw [← e2, hc, h1] at h2
        exact he (Option.some.inj h2)

/-- The one order. -/
theorem outAt_eq {l : List Ask} {S : List Nat} (hp : S.Perm (List.range l.length)) (hs : S.Pairwise (lt (rk l))) : outAt l l.length = S.map fun (x : Nat) => (x : Int) := by
  have hSl : S.length = l.length := by simpa using hp.length_eq
  apply List.ext_getElem?
  intro p
  rw [List.getElem?_map]
  cases h : S[p]? with
  | none =>
    rw [List.getElem?_eq_none (by rw [outAt_len, ← hSl]; exact List.getElem?_eq_none_iff.1 h)]
    rfl
  | some i =>
    have hi : i < l.length := by simpa using hp.mem_iff.1 (List.mem_of_getElem? h)
    have := outAt_get hp hs l.length (Nat.le_refl _) i hi
    rw [pos_cnt hp hs h] at this
    simpa using this
end Go.A.Seat

namespace Go.A.Seat
open Go.A
set_option linter.unusedSimpArgs false
set_option linter.unusedVariables false

def mn (x y : Int) : Int := if y < x then y else x
def min2V : AV → AV → Option AV
  | .c (.int k x), y => minA (.c (.int k x)) y
  | _, _ => none
theorem opA_min2 (C : Oracle) (d : Option Nat) (σ : List AV) (H : Heap) (x y : SX) : opA C d (.min [x, y]) σ H = (min2V (evalX σ x) (evalX σ y)).map fun v => (v, σ, H) := by
  simp only [opA, min2V, List.map_cons, List.map_nil]
  cases evalX σ x <;> first | rfl | skip
  rename_i v
  cases v <;> first | rfl | (simp only [List.foldlM_cons, List.foldlM_nil]; cases minA _ _ <;> rfl)
theorem min2V_i (a b : Int) : min2V (ai a) (ai b) = some (ai (mn a b)) := rfl
attribute [simp] opA_min2 min2V_i

def wantOf (l : List Ask) (i : Nat) : Int := match l[i]? with
  | some a => a.want
  | none => 0
def rateOf (l : List Ask) (i : Nat) : Int := match l[i]? with
  | some a => a.rate
  | none => 0
/-- What one is given in a round. -/
def give (l : List Ask) (rd : Nat) (s : Int × List Int) (i : Nat) : Int :=
  mn (if rd = 0 then mn (wantOf l i - s.2.getD i 0) (rateOf l i) else wantOf l i - s.2.getD i 0) s.1
def stepS (l : List Ask) (rd : Nat) (s : Int × List Int) (i : Nat) : Int × List Int := (s.1 - give l rd s i, s.2.set i (s.2.getD i 0 + give l rd s i))
def roundS (l : List Ask) (rd : Nat) (S : List Nat) (s : Int × List Int) : Int × List Int := S.foldl (stepS l rd) s

structure Good (l : List Ask) (s : Int × List Int) : Prop where
  lo : 0 ≤ s.1
  hi : s.1 ≤ 4096
  len : s.2.length = l.length
  at_ : ∀ i, i < l.length → 0 ≤ s.2.getD i 0 ∧ s.2.getD i 0 ≤ wantOf l i

def AllRight (l : List Ask) : Prop := ∀ i, i < l.length → 0 ≤ rateOf l i ∧ rateOf l i ≤ 4096 ∧ 0 ≤ wantOf l i ∧ wantOf l i ≤ 20000

theorem give_bounds {l : List Ask} (hr : AllRight l) {rd : Nat} {s : Int × List Int} (hg : Good l s) {i : Nat} (hi : i < l.length) : 0 ≤ give l rd s i ∧ give l rd s i ≤ s.1 ∧ s.2.getD i 0 + give l rd s i ≤ wantOf l i := by
  obtain ⟨a1, a2⟩ := hg.at_ i hi
  obtain ⟨b1, b2, b3, b4⟩ := hr i hi
  have c1 := hg.lo
  simp only [give, mn]
  split <;> split <;> (try split) <;> omega

theorem Good.step {l : List Ask} (hr : AllRight l) {rd : Nat} {s : Int × List Int} (hg : Good l s) {i : Nat} (hi : i < l.length) : Good l (stepS l rd s i) := by
  obtain ⟨g1, g2, g3⟩ := give_bounds hr (rd := rd) hg hi
  have h1 := hg.lo
  have h2 := hg.hi
  refine ⟨by simp only [stepS]; omega, by simp only [stepS]; omega, by simp [stepS, hg.len], fun j hj => ?_⟩
  have hlen := hg.len
  simp only [stepS]
  by_cases hij : i = j
  · subst hij
    rw [List.getD_eq_getElem?_getD, List.getElem?_set_self (by omega)]
    have := (hg.at_ i hi).1
    simp only [Option.getD_some]
    omega
  · rw [List.getD_eq_getElem?_getD, List.getElem?_set_ne hij, ← List.getD_eq_getElem?_getD]
    exact hg.at_ j hj

theorem Good.round {l : List Ask} (hr : AllRight l) {rd : Nat} : ∀ (S : List Nat) {s : Int × List Int}, Good l s → (∀ i ∈ S, i < l.length) → Good l (roundS l rd S s)
  | [], s, hg, _ => hg
  | i :: S, s, hg, hS => Good.round hr S (hg.step hr (hS i (by simp))) fun j hj => hS j (by simp [hj])

def MO (A N : Heap) (os : List Int) : Heap := (A ++ [AObj.row (os.map ai)]) ++ N
theorem MO_get (A N : Heap) (os : List Int) : (MO A N os)[A.length]? = some (.row (os.map ai)) := by simp [MO]
theorem MO_set (A N : Heap) (os : List Int) (i : Nat) (v : Int) : (MO A N os).set A.length (.row ((os.map ai).set i (ai v))) = MO A N (os.set i v) := by
  rw [MO, List.append_assoc, List.set_append_right _ _ (Nat.le_refl _)]
  simp [MO, List.map_set]
theorem rd_MO {A N : Heap} {os : List Int} {n i : Nat} (hn : os.length = n) (hi : i < n) : rdRow (MO A N os) A.length i 1 n = some [ai (os.getD i 0)] := by
  have := rdRow_row (MO_get A N os) (i := i) (n := 1) (by simp; omega)
  rw [List.length_map, hn] at this
  rw [this]
  congr 1
  rw [List.take_one, List.head?_drop, List.getElem?_map, List.getElem?_eq_getElem (by omega)]
  simp [List.getD, List.getElem?_eq_getElem (show i < os.length by omega)]
theorem st_MO {A N : Heap} {os : List Int} {n i : Nat} (hn : os.length = n) (hi : i < n) (v : Int) (σ : List AV) : storeA σ (MO A N os) none (.ptr A.length i n) (ai v) = some (σ, MO A N (os.set i v)) := by
  have := storeA_row σ (MO_get A N os) (i := i) (v := ai v) (by simp; omega) rfl
  rw [List.length_map, hn] at this
  rw [this, MO_set]

def T13 (va vo : AV) (r n : Nat) (total rd k : Int) (m : Int) : Tr := ((((((((Tr.full 7).put (path 0) (ai total)).put (path 1) va).put (path 7) (.sl r 0 n n 1 n true)).put (path 8) vo).put (path 9) (ai rd)).put (path 25) vo).put (path 26) (ai m)).put (path 27) (ai k)
def Inv13 (A N : Heap) (la : List Ask) (va vo : AV) (rd : Nat) (S : List Nat) (s0 : Int × List Int) (z : Nat) (σ : List AV) (M : Heap) : Prop :=
  ∃ k : Nat, ∃ t : Int, S.length - k = z ∧ k ≤ S.length ∧ t = (roundS la rd (S.take k) s0).1 ∧ M = MO A N (roundS la rd (S.take k) s0).2 ∧ σ = L 69 (T13 va vo A.length la.length t rd k S.length)
def Post13 (A N : Heap) (la : List Ask) (va vo : AV) (rd : Nat) (S : List Nat) (s0 : Int × List Int) (e : AExit) (σ : List AV) (M : Heap) : Prop :=
  e = .exit 0 ∧ ∃ t : Int, t = (roundS la rd S s0).1 ∧ M = MO A N (roundS la rd S s0).2 ∧ kill [25, 26, 27, 28] σ = L 69 (((((Tr.full 7).put (path 0) (ai t)).put (path 1) va).put (path 7) (.sl A.length 0 la.length la.length 1 la.length true)).put (path 8) vo |>.put (path 9) (ai rd))

theorem round_loop {A N : Heap} {la : List Ask} {va vo : AV} (ha : Sl A 4 va (asks la)) (hm : la.length ≤ 1000000) (hr : AllRight la) (rd : Nat) (hrd : rd ≤ 1) (S : List Nat) (hS : ∀ i ∈ S, i < la.length) (hSl : S.length ≤ 1000000) (hvb : vo.isBox = false) (hvf : vo.free = true)
    (hv : ∀ os : List Int, Sl (MO A N os) 1 vo (ints (S.map fun (x : Nat) => (x : Int)))) (s0 : Int × List Int) (hg : Good la s0) :
    ∀ (z : Nat) (σ : List AV) (M : Heap), Inv13 A N la va vo rd S s0 z (kill (headK lp13_0) σ) M → Ends (execW tbl X1 (.loop lp13_0) σ M) fun s => Post13 A N la va vo rd S s0 s.e s.σ s.H := by
  intro z σ M hI
  have := loop_rule (T := tbl) (X := X1) (b := lp13_0) (Inv13 A N la va vo rd S s0) (Post13 A N la va vo rd S s0) ?_ z σ M hI
  · exact this.mono fun s hs => hs.2
  · clear hI σ z M
    rintro z σ M ⟨k, t, rfl, hk, ht, rfl, rfl⟩
    have hev := ev1_nb hvb
    by_cases hkn : k = S.length
    · subst hkn
      simp -implicitDefEqProofs [lp13_0, T13, ha.ev, ha.nb, hev]
      exact ⟨rfl, t, by rw [ht, List.take_length], rfl, by simp⟩
    · have hkl : k < S.length := by omega
      obtain ⟨i, hi⟩ : ∃ i, S[k]? = some i := ⟨_, List.getElem?_eq_getElem hkl⟩
      have hil := hS i (List.mem_of_getElem? hi)
      have hgk : Good la (roundS la rd (S.take k) s0) := hg.round hr _ fun j hj => hS j (List.mem_of_mem_take hj)
      have hnext : roundS la rd (S.take (k + 1)) s0 = stepS la rd (roundS la rd (S.take k) s0) i := by
        rw [List.take_add_one, hi]
        simp [roundS, List.foldl_append]
      obtain ⟨a, hx⟩ : ∃ a, la[i]? = some a := ⟨_, List.getElem?_eq_getElem hil⟩
      have hwa : wantOf la i = a.want := by simp [wantOf, hx]
      have hra : rateOf la i = a.rate := by simp [rateOf, hx]
      obtain ⟨g1, g2, g3⟩ := give_bounds hr (rd := rd) hgk hil
      obtain ⟨o1, o2⟩ := hgk.at_ i hil
      obtain ⟨r1, r2, r3, r4⟩ := hr i hil
      have hlo := hgk.lo
      have hhi := hgk.hi
      have hlen := hgk.len
      have hgive : give la rd (roundS la rd (S.take k) s0) i = mn (if rd = 0 then mn (wantOf la i - (roundS la rd (S.take k) s0).2.getD i 0) (rateOf la i) else wantOf la i - (roundS la rd (S.take k) s0).2.getD i 0) (roundS la rd (S.take k) s0).1 := rfl
      generalize hsk : roundS la rd (S.take k) s0 = sk at *
      obtain ⟨tk, os⟩ := sk
      simp only at *
      subst ht
      obtain ⟨r', o', gg, p1, p2⟩ := (hv os).at (cs := [ai (i : Nat)]) (i := k) (by simp [ints, hi])
      have q1 := p1 k rfl
      have ham : Sl (MO A N os) 4 va (asks la) := by
        have : MO A N os = A ++ ([AObj.row (os.map ai)] ++ N) := by simp [MO]
        rw [this]; exact ha.grow
      obtain ⟨r2', o2', g2', p3, p4⟩ := ham.at (cs := a.cells) (i := i) (by simp [asks, hx])
      have q3 := p3 i rfl
      have f3 := rdRow_field p4 (j := 3) (v := ai a.want) rfl
      have f2 := rdRow_field p4 (j := 2) (v := ai a.rate) rfl
      have l1 := rd_MO (A := A) (N := N) hlen hil
      have b1 : (i : Int) < la.length := by omega
      have b2 : (k : Int) < S.length := by omega
      rw [hwa, hra] at hgive
      have w1 : IntKind.i64.wrap (a.want - os.getD i 0) = a.want - os.getD i 0 := wrap_i64 (by omega) (by omega)
      have w4 : IntKind.i64.wrap ((k : Int) + 1) = ((k + 1 : Nat) : Int) := by rw [wrap_i64 (by omega) (by omega)]; omega
      generalize hv0 : os.getD i 0 = v0 at *
      generalize hgv : give la rd (t, os) i = g at *
      have w2 : IntKind.i64.wrap (v0 + g) = v0 + g := wrap_i64 (by omega) (by omega)
      have w3 : IntKind.i64.wrap (t - g) = t - g := wrap_i64 (by omega) (by omega)
      have s1 := fun σ => st_MO (A := A) (N := N) hlen hil (v0 + g) σ
      have hstep : stepS la rd (t, os) i = (t - g, os.set i (v0 + g)) := by simp only [stepS, hgv, hv0]
      rw [hstep] at hnext
      by_cases h0 : rd = 0
      · subst h0
        simp only [if_true] at hgive
        rw [hgive] at w2 w3 s1 hnext
        simp -implicitDefEqProofs [lp13_0, T13, ha.ev, ha.nb, hev, hvb, b1, b2, q1, p2, q3, f3, f2, l1, w1, w2, w3, w4, s1]
        exact ⟨S.length - (k + 1), by omega, k + 1, _, rfl, by omega, rfl, by rw [hnext], by rw [hnext]; simp [T13]⟩
      · have h1 : rd = 1 := by omega
        subst h1
        simp only [Nat.one_ne_zero, if_false] at hgive
        rw [hgive] at w2 w3 s1 hnext
        simp -implicitDefEqProofs [lp13_0, T13, ha.ev, ha.nb, hev, hvb, b1, b2, q1, p2, q3, f3, f2, l1, w1, w2, w3, w4, s1]
        exact ⟨S.length - (k + 1), by omega, k + 1, _, rfl, by omega, rfl, by rw [hnext], by rw [hnext]; simp [T13]⟩
end Go.A.Seat

namespace Go.A.Seat
open Go.A
set_option linter.unusedSimpArgs false
set_option linter.unusedVariables false

theorem jumpW_ret {T : FuncId → Option SFun} {X : Oracle} (r : SCode) (l : Nat) (σ : List AV) (H : Heap) : jumpW T X r l ⟨.ret, σ, H⟩ = some ⟨.ret, σ, H⟩ := jumpW_done (by simp)
theorem jumpW_nor {T : FuncId → Option SFun} {X : Oracle} (r : SCode) (l : Nat) (σ : List AV) (H : Heap) : jumpW T X r l ⟨.normal, σ, H⟩ = some ⟨.normal, σ, H⟩ := jumpW_done (by simp)
theorem jumpW_go {T : FuncId → Option SFun} {X : Oracle} (r : SCode) (l : Nat) (σ : List AV) (H : Heap) : jumpW T X r l ⟨.goto l, σ, H⟩ = (execW T X r σ H).bind (jumpW T X r l) := by
  rw [jumpW_eq, if_pos rfl]

def shareV (l : List Ask) (total : Int) (S : List Nat) : List Int := (roundS l 1 S (roundS l 0 S (total, List.replicate l.length 0))).2

def PostS (H : Heap) (la : List Ask) (total : Int) (y : AV × Heap) : Prop :=
  ∃ (N : Heap) (v : AV) (os : List Int), y = (.tup [v, ai (askErr total la)], H ++ N) ∧ v.free = true ∧ v.isBox = false ∧ Sl (H ++ N) 1 v (ints os) ∧ (askErr total la ≠ 0 → os = []) ∧
    (askErr total la = 0 → ∃ S : List Nat, S.Perm (List.range la.length) ∧ S.Pairwise (lt (rk la)) ∧ os = shareV la total S)

theorem allRight_of {la : List Ask} (h : la.any (fun a => !a.right) = false) : AllRight la := by
  intro i hi
  obtain ⟨a, hx⟩ : ∃ a, la[i]? = some a := ⟨_, List.getElem?_eq_getElem hi⟩
  have := List.any_eq_false.1 h a (List.mem_of_getElem? hx)
  simp [Ask.right] at this
  simp only [wantOf, rateOf, hx]
  omega

theorem lp13_eq : lp13_1 = lp13_0 := rfl

theorem share13 {H : Heap} {va : AV} {la : List Ask} (total : Int) (ha : Sl H 4 va (asks la)) (hm : la.length ≤ 100000) :
    Ends (callW tbl X1 13 [ai total, va] H) (PostS H la total) := by
  obtain ⟨N1, h34⟩ := ask34 total ha (by omega)
  have e1 : lenS va = some la.length := by rw [ha.len]; simp [asks]
  refine call_rule (X1_none (by decide) _ _) rfl ?_
  rw [fun13, slots0_L 7 69 _ (by simp)]
  by_cases he : askErr total la = 0
  · have hab : ¬ (total < 0 ∨ total > 4096 ∨ la.length > 32) ∧ la.any (fun a => !a.right) = false := by
      unfold askErr at he
      split at he
      · simp at he
      · rename_i h1
        split at he
        · simp at he
        · rename_i h2
          exact ⟨h1, by simpa using h2⟩
    obtain ⟨hb, hall⟩ := hab
    have hr := allRight_of hall
    obtain ⟨A, hA⟩ : ∃ A, H ++ N1 = A := ⟨_, rfl⟩
    rw [hA, he] at h34
    have haA : Sl A 4 va (asks la) := hA ▸ ha.grow
    have hmk := mks_ok A 1 8 la.length [ai 0] (by simp only [appBound]; omega) (by simp only [appBound]; omega)
    rw [rep_one, Nat.mul_one] at hmk
    obtain ⟨N2, vo, S, hp, hs, h16, hvf, hvb, hv⟩ := order16 (haA.grow (N := [AObj.row (List.replicate la.length (ai 0))])) hm
    have hS : ∀ i ∈ S, i < la.length := fun i hi => by simpa using hp.mem_iff.1 hi
    have hSl : S.length = la.length := by simpa using hp.length_eq
    have hvM : ∀ os : List Int, Sl (MO A N2 os) 1 vo (ints (S.map fun (x : Nat) => (x : Int))) := fun os => hv _ (by simp)
    have hM0 : (A ++ [AObj.row (List.replicate la.length (ai 0))]) ++ N2 = MO A N2 (List.replicate la.length 0) := by simp [MO]
    rw [hM0] at h16
    have hg0 : Good la (total, List.replicate la.length 0) := by
      refine ⟨by simp only; omega, by simp only; omega, by simp, fun i hi => ?_⟩
      have := hr i hi
      simp only [List.getD_eq_getElem?_getD, List.getElem?_replicate, if_pos hi, Option.getD_some]
      omega
    have hg1 := hg0.round hr (rd := 0) S hS
    have hl0 := round_loop haA (by omega) hr 0 (by omega) S hS (by omega) hvb hvf hvM _ hg0 S.length
    have hl1 := round_loop haA (by omega) hr 1 (by omega) S hS (by omega) hvb hvf hvM _ hg1 S.length
    have hlen : lenS vo = some S.length := by rw [(hvM []).len]; simp [ints]
    have hev := ev1_nb hvb
    have hfin : PostS H la total (.tup [.sl A.length 0 la.length la.length 1 la.length true, ai 0], MO A N2 (shareV la total S)) := by
      have hg2 := hg1.round hr (rd := 1) S hS
      refine ⟨N1 ++ [AObj.row ((shareV la total S).map ai)] ++ N2, .sl A.length 0 la.length la.length 1 la.length true, shareV la total S, by rw [he]; simp [MO, ← hA], rfl, rfl, ?_, fun h => absurd he h, fun _ => ⟨S, hp, hs, rfl⟩⟩
      have e2 : H ++ (N1 ++ [AObj.row ((shareV la total S).map ai)] ++ N2) = MO A N2 (shareV la total S) := by simp [MO, ← hA]
      rw [e2]
      have := Sl.own (MO_get A N2 (shareV la total S)) la.length (by simp; exact hg2.len.symm)
      rw [List.map_map] at this
      exact this
    have hs1 : (roundS la 1 S (roundS la 0 S (total, List.replicate la.length 0))).2 = shareV la total S := rfl
    generalize hsv : shareV la total S = sv1 at *
    generalize hM0' : MO A N2 (List.replicate la.length 0) = M0 at *
    generalize hAM : A ++ [AObj.row (List.replicate la.length (ai 0))] = AM at *
    simp -implicitDefEqProofs [code13, ha.ev, ha.nb, ha.free, e1, h34, hmk, h16, hvf, hvb, hev, hlen]
    repeat rw [Option.bind_assoc]
    refine Ends.bind (Q := fun s : St => Post13 A N2 la va vo 0 S (total, List.replicate la.length 0) (AExit.exit 0) s.σ s.H ∧ s.e = .normal) (Ends.map (hl0 _ _ ⟨0, total, by omega, by omega, by simp [roundS], by rw [← hM0']; simp [roundS], by simp [lp13_0, T13]⟩) ?_) ?_
    · rintro ⟨e, σ, G⟩ ⟨q1, q2⟩
      simp only at q1
      subst q1
      exact ⟨⟨rfl, q2⟩, by simp [unblock]⟩
    · rintro ⟨e, σ, M⟩ ⟨⟨_, t, g1, g2, g3⟩, q1⟩
      simp only at q1 g1 g2 g3
      subst q1
      simp -implicitDefEqProofs [g3, hev, ha.ev, jumpW_go, sc13_2, lp13_eq, hlen, wrap_i64]
      repeat rw [Option.bind_assoc]
      refine Ends.bind (Q := fun s : St => Post13 A N2 la va vo 1 S (roundS la 0 S (total, List.replicate la.length 0)) (AExit.exit 0) s.σ s.H ∧ s.e = .normal) (Ends.map (hl1 _ _ ⟨0, t, by omega, by omega, by simp [roundS, g1], by rw [g2]; simp [roundS], by simp [lp13_0, T13]⟩) ?_) ?_
      · rintro ⟨e, σ, G⟩ ⟨q1, q2⟩
        simp only at q1
        subst q1
        exact ⟨⟨rfl, q2⟩, by simp [unblock]⟩
      · rintro ⟨e, σ, M⟩ ⟨⟨_, t', g4, g5, g6⟩, q1⟩
        simp only at q1 g4 g5 g6
        subst q1
        rw [hs1] at g5
        subst g5
        simp -implicitDefEqProofs [g6, hev, ha.ev, jumpW_ret]
        exact hfin
  · simp -implicitDefEqProofs [code13, ha.ev, ha.nb, ha.free, e1, h34, he, jumpW_ret]
    exact ⟨N1, nilS, [], rfl, rfl, rfl, .inl ⟨rfl, rfl⟩, fun _ => rfl, fun h => absurd h he⟩
end Go.A.Seat
