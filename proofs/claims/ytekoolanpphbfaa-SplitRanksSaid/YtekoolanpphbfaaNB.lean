import Derived.Test.YtekoolanpphbfaaNA
import Derived.Test.YtekoolanpphbfaaA28
set_option linter.unusedSimpArgs false
set_option linter.unusedVariables false
set_option linter.unnecessarySimpa false
namespace Go.A.Seat
open Go.A
set_option linter.unusedSimpArgs false

/-! A row of one's own that holds places, in a heap. -/
def W (H0 : Heap) (r : Nat) (D : List Nat) (lo : Nat) : Heap := H0.set r (.grow (D.map fun (x : Nat) => ai x) lo)

theorem W_get {H0 : Heap} {r : Nat} (hr : r < H0.length) (D : List Nat) (lo : Nat) : (W H0 r D lo)[r]? = some (.grow (D.map fun (x : Nat) => ai x) lo) := by
  simp [W, hr]
theorem W_set {H0 : Heap} {r : Nat} (D D' : List Nat) (lo lo' : Nat) : (W H0 r D lo).set r (.grow (D'.map fun (x : Nat) => ai x) lo') = W H0 r D' lo' := by
  simp [W]
theorem rd_W {H0 : Heap} {r n : Nat} (hr : r < H0.length) {D : List Nat} {lo : Nat} (hn : D.length = n) (hlo : lo ≤ n) {i x : Nat} (h : D[i]? = some x) : rdRow (W H0 r D lo) r i 1 n = some [ai x] := by
  have hi := (List.getElem?_eq_some_iff.1 h).1
  simp only [rdRow, W_get hr, AObj.isRow, AObj.lo, AObj.cells, List.length_map]
  rw [if_pos ⟨trivial, hlo, by omega, by omega⟩]
  congr 1
  rw [List.take_one, List.head?_drop, List.getElem?_map, h]
  rfl
theorem st_W {H0 : Heap} {r n : Nat} (hr : r < H0.length) {D : List Nat} {lo : Nat} (hn : D.length = n) {i : Nat} (hi : i < n) (x : Nat) (σ : List AV) : storeA σ (W H0 r D lo) none (.ptr r i n) (ai x) = some (σ, W H0 r (D.set i x) n) := by
  have hw : wrRow (W H0 r D lo) r i n [ai x] = some (W H0 r (D.set i x) n) := by
    simp only [wrRow, W_get hr, List.length_map, List.length_cons, List.length_nil]
    rw [if_pos ⟨hn.symm, by omega, by simp [AV.one, AV.free]⟩, ← W_set D (D.set i x) lo n]
    congr 3
    rw [List.map_set, List.set_eq_take_append_cons_drop, if_pos (by simp; omega)]
    simp
  simp only [storeA, hw, Option.map_some]

abbrev sv (r n : Nat) : AV := .sl r 0 n n 1 n false

/-- The comparison of two places by rank. -/
def cmpI (R : Nat → Int) (a b : Nat) : Int := if R a < R b then -1 else if R b < R a then 1 else 0
theorem cmpI_neg (R : Nat → Int) (a b : Nat) : cmpI R a b < 0 ↔ R a < R b := by
  unfold cmpI; split
  · simp_all
  · split <;> simp_all

/-- What the closure tells of any two places, whatever is in the row. -/
def Cmp (H0 : Heap) (r n : Nat) (R : Nat → Int) (f : FuncId) (cs : List AV) : Prop :=
  ∀ (D : List Nat) (lo a b : Nat), D.length = n → lo ≤ n → a < n → b < n → callW tbl X1 f (ai a :: ai b :: cs) (W H0 r D lo) = some (ai (cmpI R a b), W H0 r D lo)

theorem wrapN {a : Nat} (h : a ≤ 1000000) : IntKind.i64.wrap (a : Int) = a := wrap_i64 (by omega) (by omega)

section
variable {H0 : Heap} {r n : Nat} {R : Nat → Int} {f : FuncId} {cs : List AV}

def T85 (r n : Nat) (f : FuncId) (cs : List AV) (a b i : Int) : Tr := (((((Tr.full 6).put (path 0) (sv r n)).put (path 1) (ai a)).put (path 2) (ai b)).put (path 3) (.fn f cs)).put (path 8) (ai i)

theorem ins_loop (hr : r < H0.length) (hn : n ≤ 1000000) (hc : Cmp H0 r n R f cs) (P S Q : List Nat) (x : Nat) (b i : Int) (hlen : (P ++ S ++ x :: Q).length = n) (hx : ∀ y ∈ P ++ S ++ x :: Q, y < n) :
    ∀ (k : Nat) (σ : List AV) (M : Heap), (∃ S1 S2 lo, S1.length = k ∧ S = S1 ++ S2 ∧ (∀ y ∈ S2, R x < R y) ∧ lo ≤ n ∧ M = W H0 r (P ++ S1 ++ x :: (S2 ++ Q)) lo ∧ kill (headK lp85_0) σ = L 53 ((T85 r n f cs P.length b i).put (path 9) (ai ((P.length + k : Nat) : Int)))) →
      Ends (execW tbl X1 (.loop lp85_0) σ M) fun s => s.e = .exit 2 ∧ ∃ S1 S2 lo, S = S1 ++ S2 ∧ (∀ y ∈ S2, R x < R y) ∧ (∀ y, S1.getLast? = some y → ¬ R x < R y) ∧ lo ≤ n ∧ s.H = W H0 r (P ++ S1 ++ x :: (S2 ++ Q)) lo ∧ kill [9, 18, 19, 20, 21, 22, 23, 24, 25, 26, 27, 28, 29, 30, 31, 32, 33, 34] s.σ = L 53 (T85 r n f cs P.length b i) := by
  intro k σ M hI
  have := loop_rule (T := tbl) (X := X1) (b := lp85_0) (fun k σ M => ∃ S1 S2 lo, S1.length = k ∧ S = S1 ++ S2 ∧ (∀ y ∈ S2, R x < R y) ∧ lo ≤ n ∧ M = W H0 r (P ++ S1 ++ x :: (S2 ++ Q)) lo ∧ σ = L 53 ((T85 r n f cs P.length b i).put (path 9) (ai ((P.length + k : Nat) : Int))))
    (fun e σ M => e = .exit 2 ∧ ∃ S1 S2 lo, S = S1 ++ S2 ∧ (∀ y ∈ S2, R x < R y) ∧ (∀ y, S1.getLast? = some y → ¬ R x < R y) ∧ lo ≤ n ∧ M = W H0 r (P ++ S1 ++ x :: (S2 ++ Q)) lo ∧ kill [9, 18, 19, 20, 21, 22, 23, 24, 25, 26, 27, 28, 29, 30, 31, 32, 33, 34] σ = L 53 (T85 r n f cs P.length b i)) ?_ k σ M hI
  · exact this.mono fun s hs => hs.2
  · clear hI σ k M
    rintro k σ M ⟨S1, S2, lo, rfl, rfl, h2, hlo, rfl, rfl⟩
    rcases List.eq_nil_or_concat S1 with rfl | ⟨S1, y, rfl⟩
    · simp -implicitDefEqProofs [lp85_0, T85]
      exact ⟨[], S2, by simp, h2, by simp, lo, hlo, by simp⟩
    · simp only [List.concat_eq_append, List.append_assoc, List.length_append, List.length_cons, List.length_nil, List.singleton_append, List.cons_append, List.nil_append, List.mem_append, List.mem_cons] at *
      have hxn : x < n := hx x (by simp)
      have hyn : y < n := hx y (by simp)
      generalize hD : P ++ (S1 ++ y :: x :: (S2 ++ Q)) = D at *
      have hDl : D.length = n := by rw [← hD, ← hlen]; simp; omega
      have g1 : D[P.length + S1.length]? = some y := by rw [← hD, ← List.append_assoc, ← List.length_append, List.getElem?_append_right (Nat.le_refl _)]; simp
      have g2 : D[P.length + (S1.length + 1)]? = some x := by rw [← hD, ← List.append_assoc, ← Nat.add_assoc, ← List.length_append, List.getElem?_append_right (by omega)]; simp
      have hsw : (D.set (P.length + (S1.length + 1)) y).set (P.length + S1.length) x = P ++ (S1 ++ x :: y :: (S2 ++ Q)) := by
        rw [← hD, ← List.append_assoc, ← List.append_assoc, ← Nat.add_assoc, ← List.length_append, List.set_append_right _ _ (by omega), List.set_append_right _ _ (by omega)]
        simp
      have hb : P.length + (S1.length + 1) < n := by rw [← hDl]; exact (List.getElem?_eq_some_iff.1 g2).1
      have hjk : P.length + (S1.length + 1) = P.length + S1.length + 1 := by omega
      have ha0 : P.length < P.length + (S1.length + 1) := by omega
      generalize hq : P.length + (S1.length + 1) = q at *
      generalize hp : P.length + S1.length = p at *
      have l1 := rd_W hr hDl hlo g1
      have l2 := rd_W hr hDl hlo g2
      have hcm := hc D lo x y hDl hlo hxn hyn
      have hsub : IntKind.i64.wrap ((q : Int) - 1) = (p : Int) := by rw [wrap_i64 (by omega) (by omega)]; omega
      have hj : (P.length : Int) < (q : Int) := by omega
      have b1 : (q : Int) < n := by omega
      have b2 : (p : Int) < n := by omega
      by_cases hlt : R x < R y
      · have hneg := (cmpI_neg R x y).2 hlt
        have s1 := fun σ => st_W hr hDl (lo := lo) (i := q) (by omega) y σ
        have hDl2 : (D.set q y).length = n := by simpa using hDl
        have s2 := fun σ => st_W hr hDl2 (lo := n) (i := p) (by omega) x σ
        rw [hsw] at s2
        simp -implicitDefEqProofs [lp85_0, T85, hj, b1, b2, hsub, l1, l2, hcm, hneg, s1, s2]
        exact ⟨S1.length, by omega, S1, rfl, y :: S2, rfl, by simpa using ⟨hlt, h2⟩, n, Nat.le_refl _, rfl, by rw [← hp]; simp⟩
      · have hneg : ¬ cmpI R x y < 0 := fun q => hlt ((cmpI_neg R x y).1 q)
        simp -implicitDefEqProofs [lp85_0, T85, hj, b1, b2, hsub, l1, l2, hcm, hneg]
        refine ⟨S1 ++ [y], S2, by simp, h2, ?_, lo, hlo, by simp [hD]⟩
        intro z hz
        simp at hz
        subst hz
        omega

/-- The order: by rank, then by place. -/
def lt (R : Nat → Int) (a b : Nat) : Prop := R a < R b ∨ (R a = R b ∧ a < b)
theorem lt_trans {a b c : Nat} (h : lt R a b) (h' : lt R b c) : lt R a c := by
  unfold lt at *; omega

theorem ins_join {S1 S2 : List Nat} {x : Nat} (hs : (S1 ++ S2).Pairwise (lt R)) (hx : ∀ y ∈ S1 ++ S2, y < x) (h2 : ∀ y ∈ S2, R x < R y) (h1 : ∀ y, S1.getLast? = some y → ¬ R x < R y) : (S1 ++ x :: S2).Pairwise (lt R) := by
  rw [List.pairwise_append] at hs ⊢
  obtain ⟨p1, p2, p3⟩ := hs
  have hl : ∀ y ∈ S1, lt R y x := by
    rcases List.eq_nil_or_concat S1 with rfl | ⟨S, l, rfl⟩
    · simp
    · have hlx : lt R l x := by
        have := h1 l (by simp)
        have hi := hx l (by simp)
        unfold lt; omega
      intro y hy
      simp only [List.concat_eq_append, List.mem_append, List.mem_singleton] at hy
      rcases hy with hy | rfl
      · simp only [List.concat_eq_append, List.pairwise_append] at p1
        exact lt_trans (p1.2.2 y hy l (by simp)) hlx
      · exact hlx
  refine ⟨p1, ?_, ?_⟩
  · rw [List.pairwise_cons]
    exact ⟨fun y hy => .inl (h2 y hy), p2⟩
  · intro y hy z hz
    rcases List.mem_cons.1 hz with rfl | hz
    · exact hl y hy
    · exact p3 y hy z hz

theorem outer_loop (hr : r < H0.length) (hn : n ≤ 1000000) (hc : Cmp H0 r n R f cs) (P U0 Q : List Nat) (hU : U0.Pairwise (· < ·)) (hlen : (P ++ U0 ++ Q).length = n) (hx : ∀ y ∈ P ++ U0 ++ Q, y < n) :
    ∀ (k : Nat) (σ : List AV) (M : Heap), (∃ S U lo, U.length = k ∧ (S ++ U).Perm U0 ∧ S.Pairwise (lt R) ∧ U.Pairwise (· < ·) ∧ (∀ x ∈ S, ∀ y ∈ U, x < y) ∧ lo ≤ n ∧ M = W H0 r (P ++ S ++ U ++ Q) lo ∧ kill (headK lp85_1) σ = L 53 (T85 r n f cs P.length ((P.length + U0.length : Nat) : Int) ((P.length + U0.length - k : Nat) : Int))) →
      Ends (execW tbl X1 (.loop lp85_1) σ M) fun s => s.e = .exit 0 ∧ ∃ S lo, S.Perm U0 ∧ S.Pairwise (lt R) ∧ lo ≤ n ∧ s.H = W H0 r (P ++ S ++ Q) lo := by
  intro k σ M hI
  have := loop_rule (T := tbl) (X := X1) (b := lp85_1) (fun k σ M => ∃ S U lo, U.length = k ∧ (S ++ U).Perm U0 ∧ S.Pairwise (lt R) ∧ U.Pairwise (· < ·) ∧ (∀ x ∈ S, ∀ y ∈ U, x < y) ∧ lo ≤ n ∧ M = W H0 r (P ++ S ++ U ++ Q) lo ∧ σ = L 53 (T85 r n f cs P.length ((P.length + U0.length : Nat) : Int) ((P.length + U0.length - k : Nat) : Int)))
    (fun e σ M => e = .exit 0 ∧ ∃ S lo, S.Perm U0 ∧ S.Pairwise (lt R) ∧ lo ≤ n ∧ M = W H0 r (P ++ S ++ Q) lo) ?_ k σ M hI
  · exact this.mono fun s hs => hs.2
  · clear hI σ k M
    rintro k σ M ⟨S, U, lo, hk, hp, hs, hu, hsu, hlo, rfl, rfl⟩
    cases U with
    | nil =>
      simp only [List.length_nil] at hk
      subst hk
      simp -implicitDefEqProofs [lp85_1, T85]
      exact ⟨S, by simpa using hp, hs, lo, hlo, rfl⟩
    | cons x U =>
      have hlU : S.length + (U.length + 1) = U0.length := by have := hp.length_eq; simpa using this
      simp only [List.length_cons] at hk
      have hk' : P.length + U0.length - k = P.length + S.length := by omega
      rw [hk']
      have hlen2 : (P ++ S ++ x :: (U ++ Q)).length = n := by rw [← hlen]; simp only [List.length_append, List.length_cons]; omega
      have hx2 : ∀ y ∈ P ++ S ++ x :: (U ++ Q), y < n := by
        intro y hy
        apply hx
        have hm : ∀ z, z ∈ S ++ x :: U ↔ z ∈ U0 := fun z => hp.mem_iff
        simp only [List.mem_append, List.mem_cons] at hy hm ⊢
        have := (hm y).1
        rcases hy with (h | h) | h | h | h
        · exact .inl (.inl h)
        · exact .inl (.inr (this (.inl h)))
        · exact .inl (.inr (this (.inr (.inl h))))
        · exact .inl (.inr (this (.inr (.inr h))))
        · exact .inr h
      have hloop := ins_loop hr hn hc P S (U ++ Q) x ((P.length + U0.length : Nat) : Int) ((P.length + S.length : Nat) : Int) hlen2 hx2 S.length
      have hPS : P.length + S.length < n := by rw [← hlen2]; simp only [List.length_append, List.length_cons]; omega
      have hlt : P.length + S.length < P.length + U0.length := by omega
      have hwrap : IntKind.i64.wrap (((P.length + S.length : Nat) : Int) + 1) = ((P.length + S.length + 1 : Nat) : Int) := by rw [wrap_i64 (by omega) (by omega)]; omega
      have hnext : P.length + U0.length - (k - 1) = P.length + S.length + 1 := by omega
      have hM : P ++ S ++ x :: U ++ Q = P ++ S ++ x :: (U ++ Q) := by simp
      rw [hM]
      generalize hi : P.length + S.length = i at *
      generalize hb : P.length + U0.length = b at *
      have hlt' : (i : Int) < b := by omega
      simp -implicitDefEqProofs [lp85_1, T85, hlt']
      refine Ends.bind (Ends.map (hloop _ _ ⟨S, [], lo, rfl, by simp, by simp, hlo, by simp, ?_⟩) (R := fun s : St => s.e = .normal ∧ ∃ S1 S2 lo, S = S1 ++ S2 ∧ (∀ y ∈ S2, R x < R y) ∧ (∀ y, S1.getLast? = some y → ¬ R x < R y) ∧ lo ≤ n ∧ s.H = W H0 r (P ++ S1 ++ x :: (S2 ++ (U ++ Q))) lo ∧ kill [9, 18, 19, 20, 21, 22, 23, 24, 25, 26, 27, 28, 29, 30, 31, 32, 33, 34] s.σ = L 53 (T85 r n f cs P.length (b : Int) (i : Int))) ?_) ?_
      · simp -implicitDefEqProofs [lp85_0, T85]
      · rintro ⟨e, σ, G⟩ ⟨q1, q2⟩
        simp only at q1 q2
        subst q1
        exact ⟨by simp [unblock], q2⟩
      · rintro ⟨e, σ, G⟩ ⟨q1, S1, S2, lo', rfl, h2, h1, hlo', q3, q4⟩
        simp only at q1 q3 q4
        subst q1; subst q3
        simp only [T85] at q4
        simp -implicitDefEqProofs [q4, hwrap]
        have hux : ∀ y ∈ U, x < y := (List.pairwise_cons.1 hu).1
        refine ⟨k - 1, by omega, S1 ++ x :: S2, U, by omega, ?_, ins_join hs (fun y hy => hsu y hy x (by simp)) h2 h1, (List.pairwise_cons.1 hu).2, ?_, lo', hlo', by simp, ?_⟩
        · refine List.Perm.trans ?_ hp
          simp only [List.append_assoc, List.cons_append]
          exact List.Perm.append_left _ (List.perm_middle.symm)
        · intro y hy z hz
          simp only [List.mem_append, List.mem_cons] at hy
          rcases hy with hy | rfl | hy
          · exact hsu y (by simp [hy]) z (by simp [hz])
          · exact hux z hz
          · exact hsu y (by simp [hy]) z (by simp [hz])
        · rw [hnext]; simp

theorem ins85 (hr : r < H0.length) (hn : n ≤ 1000000) (hc : Cmp H0 r n R f cs) (P U Q : List Nat) (hU : U.Pairwise (· < ·)) (hlen : (P ++ U ++ Q).length = n) (hx : ∀ y ∈ P ++ U ++ Q, y < n) (lo : Nat) (hlo : lo ≤ n) (b : Nat) (hb : b = P.length + U.length) :
    ∃ S lo', S.Perm U ∧ S.Pairwise (lt R) ∧ lo' ≤ n ∧ callW tbl X1 85 [sv r n, ai P.length, ai b, .fn f cs] (W H0 r (P ++ U ++ Q) lo) = some (.tup [], W H0 r (P ++ S ++ Q) lo') := by
  suffices h : Ends (callW tbl X1 85 [sv r n, ai P.length, ai b, .fn f cs] (W H0 r (P ++ U ++ Q) lo)) fun y => y.1 = .tup [] ∧ ∃ S lo', S.Perm U ∧ S.Pairwise (lt R) ∧ lo' ≤ n ∧ y.2 = W H0 r (P ++ S ++ Q) lo' by
    obtain ⟨⟨v, G⟩, h1, h2, S, lo', h3, h4, h5, h6⟩ := h
    simp only at h2 h6; subst h2; subst h6
    exact ⟨S, lo', h3, h4, h5, h1⟩
  subst hb
  refine call_rule (X1_none (by decide) _ _) rfl ?_
  have hPU : P.length + U.length ≤ n := by rw [← hlen]; simp only [List.length_append]; omega
  have hw : IntKind.i64.wrap ((P.length : Int) + 1) = ((P.length + 1 : Nat) : Int) := by rw [wrap_i64 (by omega) (by omega)]; omega
  rw [fun85, slots0_L 6 53 _ (by simp)]
  cases U with
  | nil =>
    have hnl : ¬ (P.length : Int) + 1 < P.length := by omega
    have hw2 : IntKind.i64.wrap ((P.length : Int) + 1) = (P.length : Int) + 1 := by rw [wrap_i64 (by omega) (by omega)]
    simp -implicitDefEqProofs [code85, lp85_1, execW_loop, hw2, hnl]
    exact ⟨lo, hlo, rfl⟩
  | cons x U =>
    have hl := outer_loop hr hn hc P (x :: U) Q hU hlen hx U.length
    have hi : P.length + (x :: U).length - U.length = P.length + 1 := by simp; omega
    rw [hi] at hl
    generalize hb : P.length + (x :: U).length = b at *
    generalize hi : P.length + 1 = i at *
    simp -implicitDefEqProofs [code85, hw]
    refine Ends.map (hl _ _ ⟨[x], U, lo, rfl, by simp, by simp, (List.pairwise_cons.1 hU).2, by simpa using (List.pairwise_cons.1 hU).1, hlo, by simp, ?_⟩) ?_
    · simp -implicitDefEqProofs [lp85_1, T85]
    · rintro ⟨e, σ, G⟩ ⟨q1, S, lo', q2, q3, q4, q5⟩
      simp only at q1 q5
      subst q1; subst q5
      simp -implicitDefEqProofs [unblock]
      exact ⟨S, q2, q3, lo', q4, by simp⟩
end
end Go.A.Seat

namespace Go.A.Seat
open Go.A
set_option linter.unusedSimpArgs false

section
variable {H0 : Heap} {r n : Nat} {R : Nat → Int} {f : FuncId} {cs : List AV}

theorem get_mid (A B : List Nat) (x : Nat) (p : Nat) (hp : p = A.length) : (A ++ x :: B)[p]? = some x := by
  subst hp; simp
theorem get_mid2 (A B C : List Nat) (x y : Nat) (q : Nat) (hq : q = A.length + 1 + B.length) : (A ++ x :: (B ++ y :: C))[q]? = some y := by
  rw [show A ++ x :: (B ++ y :: C) = (A ++ x :: B) ++ y :: C by simp]
  exact get_mid _ _ _ _ (by simp; omega)
theorem set_mid (A B : List Nat) (x y : Nat) (p : Nat) (hp : p = A.length) : (A ++ x :: B).set p y = A ++ y :: B := by
  subst hp; simp
theorem set_mid2 (A B C : List Nat) (x y z : Nat) (q : Nat) (hq : q = A.length + 1 + B.length) : (A ++ x :: (B ++ y :: C)).set q z = A ++ x :: (B ++ z :: C) := by
  rw [show A ++ x :: (B ++ y :: C) = (A ++ x :: B) ++ y :: C by simp, set_mid _ _ _ _ _ (by simp; omega)]
  simp

def T93 (r n : Nat) (a b k i : Int) : Tr := (((((Tr.full 6).put (path 0) (sv r n)).put (path 1) (ai a)).put (path 2) (ai b)).put (path 3) (ai k)).put (path 10) (ai i)

theorem swap_loop (hr : r < H0.length) (hn : n ≤ 1000000) (P U V' V Q : List Nat) (k a b : Nat) (hU : U.length = k) (hV : V.length = k) (ha : a = P.length) (hb : b = P.length + k + V'.length) (hlen : (P ++ U ++ V' ++ V ++ Q).length = n) :
    ∀ (j : Nat) (σ : List AV) (M : Heap), (∃ U1 U2 V1 V2 lo, U2.length = j ∧ U = U1 ++ U2 ∧ V = V1 ++ V2 ∧ U1.length = V1.length ∧ lo ≤ n ∧ M = W H0 r (P ++ V1 ++ U2 ++ V' ++ U1 ++ V2 ++ Q) lo ∧ kill (headK lp93_0) σ = L 38 (T93 r n a b k ((k - j : Nat) : Int))) →
      Ends (execW tbl X1 (.loop lp93_0) σ M) fun s => s.e = .exit 0 ∧ ∃ lo, lo ≤ n ∧ s.H = W H0 r (P ++ V ++ V' ++ U ++ Q) lo := by
  intro j σ M hI
  have := loop_rule (T := tbl) (X := X1) (b := lp93_0) (fun j σ M => ∃ U1 U2 V1 V2 lo, U2.length = j ∧ U = U1 ++ U2 ∧ V = V1 ++ V2 ∧ U1.length = V1.length ∧ lo ≤ n ∧ M = W H0 r (P ++ V1 ++ U2 ++ V' ++ U1 ++ V2 ++ Q) lo ∧ σ = L 38 (T93 r n a b k ((k - j : Nat) : Int)))
    (fun e σ M => e = .exit 0 ∧ ∃ lo, lo ≤ n ∧ M = W H0 r (P ++ V ++ V' ++ U ++ Q) lo) ?_ j σ M hI
  · exact this.mono fun s hs => hs.2
  · clear hI σ j M
    rintro j σ M ⟨U1, U2, V1, V2, lo, rfl, rfl, rfl, hl, hlo, rfl, rfl⟩
    simp only [List.length_append] at hU hV hlen
    cases U2 with
    | nil =>
      have hV2 : V2 = [] := by apply List.eq_nil_of_length_eq_zero; simp at hU; omega
      subst hV2
      simp -implicitDefEqProofs [lp93_0, T93]
      exact ⟨lo, hlo, rfl⟩
    | cons x U2 =>
      cases V2 with
      | nil => simp at hU hV; omega
      | cons y V2 =>
        simp only [List.length_cons] at hU hV hlen ⊢
        have hD : P ++ V1 ++ x :: U2 ++ V' ++ U1 ++ y :: V2 ++ Q = (P ++ V1) ++ x :: ((U2 ++ V' ++ U1) ++ y :: (V2 ++ Q)) := by simp
        have hD' : P ++ (V1 ++ [y]) ++ U2 ++ V' ++ (U1 ++ [x]) ++ V2 ++ Q = (P ++ V1) ++ y :: ((U2 ++ V' ++ U1) ++ x :: (V2 ++ Q)) := by simp
        rw [hD]
        obtain ⟨p, hp⟩ : ∃ p, a + (k - (U2.length + 1)) = p := ⟨_, rfl⟩
        obtain ⟨q, hq⟩ : ∃ q, b + (k - (U2.length + 1)) = q := ⟨_, rfl⟩
        have hpA : p = (P ++ V1).length := by simp; omega
        have hqA : q = (P ++ V1).length + 1 + (U2 ++ V' ++ U1).length := by simp; omega
        have g1 := get_mid (P ++ V1) ((U2 ++ V' ++ U1) ++ y :: (V2 ++ Q)) x p hpA
        have g2 := get_mid2 (P ++ V1) (U2 ++ V' ++ U1) (V2 ++ Q) x y q hqA
        have hs1 := set_mid (P ++ V1) ((U2 ++ V' ++ U1) ++ y :: (V2 ++ Q)) x y p hpA
        have hs2 := set_mid2 (P ++ V1) (U2 ++ V' ++ U1) (V2 ++ Q) y y x q hqA
        have hDl : ((P ++ V1) ++ x :: ((U2 ++ V' ++ U1) ++ y :: (V2 ++ Q))).length = n := by simp only [List.length_append, List.length_cons]; omega
        have hDl2 : ((P ++ V1) ++ y :: ((U2 ++ V' ++ U1) ++ y :: (V2 ++ Q))).length = n := by simp only [List.length_append, List.length_cons] at hDl ⊢; omega
        have hqn : q < n := by rw [← hDl]; exact (List.getElem?_eq_some_iff.1 g2).1
        have hpn : p < n := by rw [← hDl]; exact (List.getElem?_eq_some_iff.1 g1).1
        have l1 := rd_W hr hDl hlo g1
        have l2 := rd_W hr hDl hlo g2
        have s1 := fun σ => st_W hr hDl (lo := lo) hpn y σ
        rw [hs1] at s1
        have s2 := fun σ => st_W hr hDl2 (lo := n) hqn x σ
        rw [hs2] at s2
        generalize (P ++ V1) ++ x :: ((U2 ++ V' ++ U1) ++ y :: (V2 ++ Q)) = D at *
        generalize (P ++ V1) ++ y :: ((U2 ++ V' ++ U1) ++ y :: (V2 ++ Q)) = D2 at *
        obtain ⟨i, hi⟩ : ∃ i, k - (U2.length + 1) = i := ⟨_, rfl⟩
        have hi2 : k - U2.length = i + 1 := by omega
        rw [hi] at hp hq ⊢
        have w1 : IntKind.i64.wrap ((a : Int) + i) = p := by rw [wrap_i64 (by omega) (by omega)]; omega
        have w2 : IntKind.i64.wrap ((b : Int) + i) = q := by rw [wrap_i64 (by omega) (by omega)]; omega
        have w3 : IntKind.i64.wrap ((i : Int) + 1) = ((i + 1 : Nat) : Int) := by rw [wrap_i64 (by omega) (by omega)]; omega
        have hik : (i : Int) < k := by omega
        have b1 : (q : Int) < n := by omega
        have b2 : (p : Int) < n := by omega
        simp -implicitDefEqProofs [lp93_0, T93, hik, b1, b2, w1, w2, w3, l1, l2, s1, s2]
        refine ⟨U2.length, by omega, U1 ++ [x], U2, rfl, by simp, V1 ++ [y], V2, by simp, by simp [hl], n, Nat.le_refl _, ?_, by rw [hi2]; simp⟩
        have := hD'
        simp only [List.append_assoc, List.cons_append, List.nil_append] at this ⊢

theorem swap93 (hr : r < H0.length) (hn : n ≤ 1000000) (P U V' V Q : List Nat) (k a b : Nat) (hU : U.length = k) (hV : V.length = k) (ha : a = P.length) (hb : b = P.length + k + V'.length) (hlen : (P ++ U ++ V' ++ V ++ Q).length = n) (lo : Nat) (hlo : lo ≤ n) (x : AV) (hx : x.free = true) :
    ∃ lo', lo' ≤ n ∧ callW tbl X1 93 [sv r n, ai a, ai b, ai k, x] (W H0 r (P ++ U ++ V' ++ V ++ Q) lo) = some (.tup [], W H0 r (P ++ V ++ V' ++ U ++ Q) lo') := by
  suffices h : Ends (callW tbl X1 93 [sv r n, ai a, ai b, ai k, x] (W H0 r (P ++ U ++ V' ++ V ++ Q) lo)) fun y => y.1 = .tup [] ∧ ∃ lo', lo' ≤ n ∧ y.2 = W H0 r (P ++ V ++ V' ++ U ++ Q) lo' by
    obtain ⟨⟨v, G⟩, h1, h2, lo', h5, h6⟩ := h
    simp only at h2 h6; subst h2; subst h6
    exact ⟨lo', h5, h1⟩
  refine call_rule (X1_none (by decide) _ _) rfl ?_
  rw [fun93, slots0_L 6 38 _ (by simp)]
  have hl := swap_loop hr hn P U V' V Q k a b hU hV ha hb hlen k
  rw [Nat.sub_self] at hl
  simp -implicitDefEqProofs [code93]
  refine Ends.map (hl _ _ ⟨[], U, [], V, lo, hU, rfl, rfl, rfl, hlo, by simp, ?_⟩) ?_
  · simp -implicitDefEqProofs [lp93_0, T93]
  · rintro ⟨e, σ, G⟩ ⟨q1, lo', q4, q5⟩
    simp only at q1 q5
    subst q1; subst q5
    simp -implicitDefEqProofs [unblock]
    exact ⟨lo', q4, rfl⟩
end
end Go.A.Seat

namespace Go.A.Seat
open Go.A
set_option linter.unusedSimpArgs false

section
variable {H0 : Heap} {r n : Nat} {R : Nat → Int}

def T92 (r n : Nat) (x : AV) (m i j : Int) : Tr := (((((Tr.full 6).put (path 0) (sv r n)).put (path 2) (ai m)).put (path 4) x).put (path 10) (ai i)).put (path 11) (ai j)

theorem rot_loop (hr : r < H0.length) (hn : n ≤ 1000000) (F : List Nat) (hF : F.length = n) (m : Nat) (x : AV) (hx : x.free = true) (hxb : x.isBox = false) :
    ∀ (z : Nat) (σ : List AV) (M : Heap), (∃ P X Y Q lo, z = X.length + Y.length ∧ 0 < X.length ∧ 0 < Y.length ∧ m = P.length + X.length ∧ P ++ Y ++ X ++ Q = F ∧ lo ≤ n ∧ M = W H0 r (P ++ X ++ Y ++ Q) lo ∧ kill (headK lp92_0) σ = L 58 (T92 r n x m X.length Y.length)) →
      Ends (execW tbl X1 (.loop lp92_0) σ M) fun s => s.e = .exit 0 ∧ ∃ P X Y Q lo, X.length = Y.length ∧ m = P.length + X.length ∧ P ++ Y ++ X ++ Q = F ∧ lo ≤ n ∧ s.H = W H0 r (P ++ X ++ Y ++ Q) lo ∧ kill [11, 18, 19, 20] s.σ = L 58 (((((Tr.full 6).put (path 0) (sv r n)).put (path 2) (ai m)).put (path 4) x).put (path 10) (ai X.length)) := by
  intro z σ M hI
  have := loop_rule (T := tbl) (X := X1) (b := lp92_0) (fun z σ M => ∃ P X Y Q lo, z = X.length + Y.length ∧ 0 < X.length ∧ 0 < Y.length ∧ m = P.length + X.length ∧ P ++ Y ++ X ++ Q = F ∧ lo ≤ n ∧ M = W H0 r (P ++ X ++ Y ++ Q) lo ∧ σ = L 58 (T92 r n x m X.length Y.length))
    (fun e σ M => e = .exit 0 ∧ ∃ P X Y Q lo, X.length = Y.length ∧ m = P.length + X.length ∧ P ++ Y ++ X ++ Q = F ∧ lo ≤ n ∧ M = W H0 r (P ++ X ++ Y ++ Q) lo ∧ kill [11, 18, 19, 20] σ = L 58 (((((Tr.full 6).put (path 0) (sv r n)).put (path 2) (ai m)).put (path 4) x).put (path 10) (ai X.length))) ?_ z σ M hI
  · exact this.mono fun s hs => hs.2
  · clear hI σ z M
    rintro z σ M ⟨P, X, Y, Q, lo, rfl, hX, hY, hm, hf, hlo, rfl, rfl⟩
    have hev := ev1_nb hxb
    have hFl : P.length + Y.length + X.length + Q.length = n := by rw [← hF, ← hf]; simp only [List.length_append]
    obtain ⟨i, hi⟩ : ∃ i, X.length = i := ⟨_, rfl⟩
    obtain ⟨j, hj⟩ : ∃ j, Y.length = j := ⟨_, rfl⟩
    by_cases heq : i = j
    · simp -implicitDefEqProofs [lp92_0, T92, hi, hj, heq, hev]
      exact ⟨P, X, Y, by omega, by omega, Q, by simpa using hf, lo, hlo, rfl, by rw [hi, heq]⟩
    · have hne : ¬ (i : Int) = j := by omega
      by_cases hgt : j < i
      · have hgt' : (j : Int) < i := by omega
        obtain ⟨X1', X2', rfl, hX1⟩ : ∃ X1' X2', X = X1' ++ X2' ∧ X1'.length = j := ⟨X.take j, X.drop j, by simp, by simp; omega⟩
        simp only [List.length_append] at hi hm hX hFl ⊢
        obtain ⟨lo', hlo', hsw⟩ := swap93 hr hn P X1' X2' Y Q j (m - i) m hX1 hj (by omega) (by omega) (by simp only [List.length_append]; omega) lo hlo x hx
        have w1 : IntKind.i64.wrap ((m : Int) - i) = ((m - i : Nat) : Int) := by rw [wrap_i64 (by omega) (by omega)]; omega
        have w2 : IntKind.i64.wrap ((i : Int) - j) = ((i - j : Nat) : Int) := by rw [wrap_i64 (by omega) (by omega)]; omega
        have e1 : P ++ (X1' ++ X2') ++ Y ++ Q = P ++ X1' ++ X2' ++ Y ++ Q := by simp
        rw [e1]
        have e2 : P ++ Y ++ X2' ++ X1' ++ Q = (P ++ Y) ++ X2' ++ X1' ++ Q := by simp
        rw [e2] at hsw
        generalize hs1 : m - i = mi at *
        generalize hs2 : i - j = ij at *
        generalize P ++ X1' ++ X2' ++ Y ++ Q = D at *
        generalize hD2 : P ++ Y ++ X2' ++ X1' ++ Q = D2 at *
        simp -implicitDefEqProofs [lp92_0, T92, hi, hj, hne, hgt', hev, hx, hxb, w1, w2, hsw]
        refine ⟨X2'.length + X1'.length, by omega, P ++ Y, X2', X1', rfl, by omega, by omega, by simp only [List.length_append]; omega, Q, by simpa using hf, lo', hlo', by rw [← hD2]; simp, ?_⟩
        rw [show X2'.length = ij by omega, hX1]
      · have hgt' : ¬ (j : Int) < i := by omega
        obtain ⟨Y1, Y2, rfl, hY1⟩ : ∃ Y1 Y2, Y = Y1 ++ Y2 ∧ Y2.length = i := ⟨Y.take (j - i), Y.drop (j - i), by simp, by simp; omega⟩
        simp only [List.length_append] at hj hm hY hFl ⊢
        obtain ⟨lo', hlo', hsw⟩ := swap93 hr hn P X Y1 Y2 Q i (m - i) (m + j - i) hi hY1 (by omega) (by omega) (by simp only [List.length_append]; omega) lo hlo x hx
        have w1 : IntKind.i64.wrap ((m : Int) - i) = ((m - i : Nat) : Int) := by rw [wrap_i64 (by omega) (by omega)]; omega
        have w2 : IntKind.i64.wrap ((j : Int) - i) = ((j - i : Nat) : Int) := by rw [wrap_i64 (by omega) (by omega)]; omega
        have w3 : IntKind.i64.wrap ((m : Int) + j) = ((m + j : Nat) : Int) := by rw [wrap_i64 (by omega) (by omega)]; omega
        have w4 : IntKind.i64.wrap (((m + j : Nat) : Int) - i) = ((m + j - i : Nat) : Int) := by rw [wrap_i64 (by omega) (by omega)]; omega
        have e1 : P ++ X ++ (Y1 ++ Y2) ++ Q = P ++ X ++ Y1 ++ Y2 ++ Q := by simp
        rw [e1]
        generalize hs1 : m - i = mi at *
        generalize hs2 : j - i = ij at *
        generalize hs4 : m + j - i = mji at *
        generalize hs3 : m + j = mj at *
        generalize P ++ X ++ Y1 ++ Y2 ++ Q = D at *
        generalize hD2 : P ++ Y2 ++ Y1 ++ X ++ Q = D2 at *
        simp -implicitDefEqProofs [lp92_0, T92, hi, hj, hne, hgt', hev, hx, hxb, w1, w2, w3, w4, hsw]
        refine ⟨Y2.length + Y1.length, by omega, P, Y2, Y1, rfl, by omega, by omega, by omega, X ++ Q, by simpa using hf, lo', hlo', by rw [← hD2]; simp, ?_⟩
        rw [show Y1.length = ij by omega, hY1]

theorem rot92 (hr : r < H0.length) (hn : n ≤ 1000000) (P U V Q : List Nat) (hU : 0 < U.length) (hV : 0 < V.length) (a m b : Nat) (ha : a = P.length) (hm : m = P.length + U.length) (hb : b = P.length + U.length + V.length) (hlen : (P ++ U ++ V ++ Q).length = n) (lo : Nat) (hlo : lo ≤ n) (x : AV) (hx : x.free = true) (hxb : x.isBox = false) :
    ∃ lo', lo' ≤ n ∧ callW tbl X1 92 [sv r n, ai a, ai m, ai b, x] (W H0 r (P ++ U ++ V ++ Q) lo) = some (.tup [], W H0 r (P ++ V ++ U ++ Q) lo') := by
  suffices h : Ends (callW tbl X1 92 [sv r n, ai a, ai m, ai b, x] (W H0 r (P ++ U ++ V ++ Q) lo)) fun y => y.1 = .tup [] ∧ ∃ lo', lo' ≤ n ∧ y.2 = W H0 r (P ++ V ++ U ++ Q) lo' by
    obtain ⟨⟨v, G⟩, h1, h2, lo', h5, h6⟩ := h
    simp only at h2 h6; subst h2; subst h6
    exact ⟨lo', h5, h1⟩
  refine call_rule (X1_none (by decide) _ _) rfl ?_
  rw [fun92, slots0_L 6 58 _ (by simp)]
  have hlen' := hlen
  simp only [List.length_append] at hlen
  have hl := rot_loop hr hn (P ++ V ++ U ++ Q) (by simp only [List.length_append]; omega) m x hx hxb
  have w1 : IntKind.i64.wrap ((m : Int) - a) = U.length := by rw [wrap_i64 (by omega) (by omega)]; omega
  have w2 : IntKind.i64.wrap ((b : Int) - m) = V.length := by rw [wrap_i64 (by omega) (by omega)]; omega
  have hev := ev1_nb hxb
  simp -implicitDefEqProofs [code92, hev, w1, w2]
  refine Ends.bind (Ends.map (hl _ _ _ ⟨P, U, V, Q, lo, rfl, hU, hV, hm, rfl, hlo, by simp, ?_⟩) (R := fun s : St => s.e = .normal ∧ ∃ P1 X Y Q1 lo, X.length = Y.length ∧ m = P1.length + X.length ∧ P1 ++ Y ++ X ++ Q1 = P ++ V ++ U ++ Q ∧ lo ≤ n ∧ s.H = W H0 r (P1 ++ X ++ Y ++ Q1) lo ∧ kill [11, 18, 19, 20] s.σ = L 58 (((((Tr.full 6).put (path 0) (sv r n)).put (path 2) (ai m)).put (path 4) x).put (path 10) (ai X.length))) ?_) ?_
  · simp -implicitDefEqProofs [lp92_0, T92]
  · rintro ⟨e, σ, G⟩ ⟨q1, q2⟩
    simp only at q1
    subst q1
    exact ⟨by simp [unblock], q2⟩
  · rintro ⟨e, σ, G⟩ ⟨q1, P1, X, Y, Q1, lo1, q2, q3, q4, q5, q6, q7⟩
    simp only at q1 q6 q7
    subst q1; subst q6
    have hl1 : (P1 ++ Y ++ X ++ Q1).length = n := by rw [q4]; simp only [List.length_append]; omega
    simp only [List.length_append] at hl1
    obtain ⟨lo', hlo', hsw⟩ := swap93 hr hn P1 X [] Y Q1 X.length (m - X.length) m rfl q2.symm (by omega) (by simp; omega) (by simp only [List.length_append, List.length_nil]; omega) lo1 q5 x hx
    simp only [List.append_nil, q4] at hsw
    have w3 : IntKind.i64.wrap ((m : Int) - X.length) = ((m - X.length : Nat) : Int) := by rw [wrap_i64 (by omega) (by omega)]; omega
    generalize P1 ++ X ++ Y ++ Q1 = D at *
    generalize hD : P ++ V ++ U ++ Q = D2 at *
    generalize m - X.length = mx at *
    simp -implicitDefEqProofs [q7, hev, hx, hxb, w3, hsw]
    exact ⟨lo', hlo', by rw [← hD]; simp⟩
end
end Go.A.Seat

namespace Go.A.Seat
open Go.A
set_option linter.unusedSimpArgs false

section
variable {H0 : Heap} {r n : Nat} {R : Nat → Int} {f : FuncId} {cs : List AV}

theorem get_at (P A B : List Nat) (y : Nat) (Q : List Nat) (h : Nat) (hh : h = P.length + A.length) : (P ++ (A ++ y :: B) ++ Q)[h]? = some y := by
  rw [show P ++ (A ++ y :: B) ++ Q = (P ++ A) ++ y :: (B ++ Q) by simp]
  exact get_mid _ _ _ _ (by simp [hh])

/-- Halves. -/
structure Mid (i j h : Nat) : Prop where
  w1 : IntKind.i64.wrap ((i : Int) + j) = ((i + j : Nat) : Int)
  w2 : IntKind.u64.wrap (((i + j : Nat) : Int)) = ((i + j : Nat) : Int)
  w3 : IntKind.u64.wrap (h : Int) = h
  w4 : IntKind.i64.wrap (h : Int) = h
  w5 : (((i + j : Nat) : Int)).fdiv 2 = (h : Int)
  w6 : IntKind.i64.wrap ((h : Int) + 1) = ((h + 1 : Nat) : Int)
theorem mid_of {i j h : Nat} (hi : i ≤ 1000000) (hj : j ≤ 1000000) (hh : (i + j) / 2 = h) : Mid i j h where
  w1 := by rw [wrap_i64 (by omega) (by omega)]; omega
  w2 := wrap_u64 (by omega) (by omega)
  w3 := wrap_u64 (by omega) (by omega)
  w4 := wrap_i64 (by omega) (by omega)
  w5 := by rw [fdiv2, hh]
  w6 := by rw [wrap_i64 (by omega) (by omega)]; omega

def T86 (r n : Nat) (f : FuncId) (cs : List AV) (a i j : Int) : Tr := (((((Tr.full 8).put (path 0) (sv r n)).put (path 1) (ai a)).put (path 4) (.fn f cs)).put (path 10) (ai i)).put (path 11) (ai j)

def Inv0 (H0 : Heap) (r n : Nat) (R : Nat → Int) (f : FuncId) (cs : List AV) (Rr D : List Nat) (x a m lo : Nat) (z : Nat) (σ : List AV) (M : Heap) : Prop :=
  ∃ A B C, ∃ i j : Nat, B.length = z ∧ Rr = A ++ B ++ C ∧ (∀ y ∈ A, R y < R x) ∧ (∀ y ∈ C, ¬ R y < R x) ∧ m + A.length = i ∧ i + B.length = j ∧ M = W H0 r D lo ∧ σ = L 220 (T86 r n f cs a i j)
def Post0 (H0 : Heap) (r n : Nat) (R : Nat → Int) (Rr D : List Nat) (x a m lo : Nat) (e : AExit) (σ : List AV) (M : Heap) : Prop :=
  e = .exit 0 ∧ ∃ A C, ∃ i : Nat, Rr = A ++ C ∧ (∀ y ∈ A, R y < R x) ∧ (∀ y ∈ C, ¬ R y < R x) ∧ m + A.length = i ∧ M = W H0 r D lo ∧ kill [4, 11, 31, 32, 33] σ = L 220 ((((Tr.full 8).put (path 0) (sv r n)).put (path 1) (ai a)).put (path 10) (ai i))

theorem find_loop (hr : r < H0.length) (hn : n ≤ 1000000) (hcs : AV.freeAll cs = true) (hc : Cmp H0 r n R f cs) (P Rr Q : List Nat) (x a m : Nat) (ha : a = P.length) (hm : m = a + 1) (hs : Rr.Pairwise (lt R)) (D : List Nat) (hD : D = P ++ [x] ++ Rr ++ Q) (hlen : D.length = n) (hx : ∀ y ∈ D, y < n) (lo : Nat) (hlo : lo ≤ n) :
    ∀ (z : Nat) (σ : List AV) (M : Heap), Inv0 H0 r n R f cs Rr D x a m lo z (kill (headK lp86_0) σ) M →
      Ends (execW tbl X1 (.loop lp86_0) σ M) fun s => Post0 H0 r n R Rr D x a m lo s.e s.σ s.H := by
  intro z σ M hI
  have := loop_rule (T := tbl) (X := X1) (b := lp86_0) (Inv0 H0 r n R f cs Rr D x a m lo) (Post0 H0 r n R Rr D x a m lo) ?_ z σ M hI
  · exact this.mono fun s hs => hs.2
  · clear hI σ z M
    rintro z σ M ⟨A, B, C, i, j, rfl, hRr, hA, hC, hi, hj, rfl, rfl⟩
    by_cases hB : B = []
    · subst hB
      simp only [List.length_nil, Nat.add_zero] at hj
      subst hj
      simp -implicitDefEqProofs [lp86_0, T86]
      exact ⟨rfl, A, C, i, by simpa using hRr, hA, hC, hi, rfl, by simp⟩
    · have hBl : 0 < B.length := List.length_pos_iff.2 hB
      obtain ⟨h, hh⟩ : ∃ h, (i + j) / 2 = h := ⟨_, rfl⟩
      obtain ⟨B1, y, B2, rfl, hB1⟩ : ∃ B1 y B2, B = B1 ++ y :: B2 ∧ B1.length = h - i := by
        have hlt : h - i < B.length := by omega
        exact ⟨B.take (h - i), B[h - i], B.drop (h - i + 1), by simp, by simp; omega⟩
      simp only [List.length_append, List.length_cons] at hj hBl
      have hL : P.length + 1 + (A.length + (B1.length + (B2.length + 1)) + C.length) + Q.length = n := by
        rw [← hlen, hD, hRr]; simp only [List.length_append, List.length_cons, List.length_nil]
      have g1 : D[h]? = some y := by
        rw [hD, hRr, show P ++ [x] ++ (A ++ (B1 ++ y :: B2) ++ C) ++ Q = (P ++ [x]) ++ ((A ++ B1) ++ y :: (B2 ++ C)) ++ Q by simp]
        exact get_at _ _ _ _ _ _ (by simp; omega)
      have g2 : D[a]? = some x := by
        rw [hD, show P ++ [x] ++ Rr ++ Q = P ++ x :: (Rr ++ Q) by simp]
        exact get_mid _ _ _ _ ha
      have hyn := hx y (List.mem_of_getElem? g1)
      have hxn := hx x (List.mem_of_getElem? g2)
      have l1 := rd_W hr hlen hlo g1
      have l2 := rd_W hr hlen hlo g2
      have hcm := hc D lo y x hlen hlo hyn hxn
      have hmd := mid_of (i := i) (j := j) (by omega) (by omega) hh
      obtain ⟨w1, w2, w3, w4, w5, w6⟩ := hmd
      have hij : (i : Int) < j := by omega
      have b1 : (h : Int) < n := by omega
      have b2 : (a : Int) < n := by omega
      have hsB : (B1 ++ y :: B2 ++ C).Pairwise (lt R) := by
        rw [hRr, List.append_assoc] at hs
        exact (List.pairwise_append.1 hs).2.1
      have hsB' := List.pairwise_append.1 (show (B1 ++ (y :: (B2 ++ C))).Pairwise (lt R) by simpa using hsB)
      generalize hs0 : i + j = s at *
      by_cases hlt : R y < R x
      · have hneg := (cmpI_neg R y x).2 hlt
        simp -implicitDefEqProofs [lp86_0, T86, hij, w1, w2, w3, w4, w5, w6, b1, b2, l1, l2, hcm, hneg, hcs]
        refine ⟨B2.length, by omega, A ++ B1 ++ [y], B2, C, h + 1, j, rfl, by rw [hRr]; simp, ?_, hC, by simp only [List.length_append, List.length_cons, List.length_nil]; omega, by omega, rfl, by simp [T86]⟩
        intro z hz
        simp only [List.mem_append, List.mem_singleton] at hz
        rcases hz with (hz | hz) | rfl
        · exact hA z hz
        · have := hsB'.2.2 z hz y (by simp)
          unfold lt at this; omega
        · exact hlt
      · have hneg : ¬ cmpI R y x < 0 := fun q => hlt ((cmpI_neg R y x).1 q)
        simp -implicitDefEqProofs [lp86_0, T86, hij, w1, w2, w3, w4, w5, w6, b1, b2, l1, l2, hcm, hneg, hcs]
        refine ⟨B1.length, by omega, A, B1, y :: B2 ++ C, i, h, rfl, by rw [hRr]; simp, hA, ?_, hi, by omega, rfl, by simp [T86]⟩
        intro z hz
        simp only [List.cons_append, List.mem_cons] at hz
        rcases hz with rfl | hz
        · omega
        · have := (List.pairwise_cons.1 hsB'.2.1).1 z hz
          unfold lt at this; omega
end
end Go.A.Seat

namespace Go.A.Seat
open Go.A
set_option linter.unusedSimpArgs false
set_option linter.unusedVariables false

section
variable {H0 : Heap} {r n : Nat} {R : Nat → Int} {f : FuncId} {cs : List AV}

/-! The one element on the left goes to its place. -/
def Inv1 (H0 : Heap) (r n : Nat) (P A Q : List Nat) (x i : Nat) (z : Nat) (σ : List AV) (M : Heap) : Prop :=
  ∃ A1 A2, ∃ k lo : Nat, A2.length = z ∧ A = A1 ++ A2 ∧ P.length + A1.length = k ∧ lo ≤ n ∧ M = W H0 r (P ++ A1 ++ x :: (A2 ++ Q)) lo ∧ σ = L 220 ((((Tr.full 8).put (path 0) (sv r n)).put (path 10) (ai i)).put (path 13) (ai k))
def Post1 (H0 : Heap) (r n : Nat) (P A Q : List Nat) (x : Nat) (e : AExit) (σ : List AV) (M : Heap) : Prop :=
  e = .exit 2 ∧ ∃ lo, lo ≤ n ∧ M = W H0 r (P ++ A ++ x :: Q) lo ∧ IsL 220 σ

theorem shift_loop (hr : r < H0.length) (hn : n ≤ 1000000) (P A Q : List Nat) (x i : Nat) (hi : i = P.length + 1 + A.length) (hlen : (P ++ A ++ x :: Q).length = n) :
    ∀ (z : Nat) (σ : List AV) (M : Heap), Inv1 H0 r n P A Q x i z (kill (headK lp86_1) σ) M → Ends (execW tbl X1 (.loop lp86_1) σ M) fun s => Post1 H0 r n P A Q x s.e s.σ s.H := by
  intro z σ M hI
  have := loop_rule (T := tbl) (X := X1) (b := lp86_1) (Inv1 H0 r n P A Q x i) (Post1 H0 r n P A Q x) ?_ z σ M hI
  · exact this.mono fun s hs => hs.2
  · clear hI σ z M
    rintro z σ M ⟨A1, A2, k, lo, rfl, rfl, hk, hlo, rfl, rfl⟩
    simp only [List.length_append, List.length_cons] at hlen hi
    have w0 : IntKind.i64.wrap ((i : Int) - 1) = ((i - 1 : Nat) : Int) := by rw [wrap_i64 (by omega) (by omega)]; omega
    cases A2 with
    | nil =>
      simp only [List.length_nil] at hi
      have hik : i - 1 = k := by omega
      rw [hik] at w0
      simp -implicitDefEqProofs [lp86_1, w0]
      exact ⟨rfl, lo, hlo, by simp, _, rfl⟩
    | cons y A2 =>
      simp only [List.length_cons] at hi hlen ⊢
      have hD : P ++ A1 ++ x :: (y :: A2 ++ Q) = (P ++ A1) ++ x :: ([] ++ y :: (A2 ++ Q)) := by simp
      have hD2 : P ++ (A1 ++ [y]) ++ x :: (A2 ++ Q) = (P ++ A1) ++ y :: ([] ++ x :: (A2 ++ Q)) := by simp
      rw [hD]
      obtain ⟨q, hq⟩ : ∃ q, k + 1 = q := ⟨_, rfl⟩
      have hpA : k = (P ++ A1).length := by simp; omega
      have hqA : q = (P ++ A1).length + 1 + ([] : List Nat).length := by simp; omega
      have g1 := get_mid (P ++ A1) ([] ++ y :: (A2 ++ Q)) x k hpA
      have g2 := get_mid2 (P ++ A1) [] (A2 ++ Q) x y q hqA
      have hs1 := set_mid (P ++ A1) ([] ++ y :: (A2 ++ Q)) x y k hpA
      have hs2 := set_mid2 (P ++ A1) [] (A2 ++ Q) y y x q hqA
      have hDl : ((P ++ A1) ++ x :: ([] ++ y :: (A2 ++ Q))).length = n := by simp only [List.length_append, List.length_cons, List.length_nil]; omega
      have hDl2 : ((P ++ A1) ++ y :: ([] ++ y :: (A2 ++ Q))).length = n := by simp only [List.length_append, List.length_cons, List.length_nil] at hDl ⊢; omega
      have hqn : q < n := by rw [← hDl]; exact (List.getElem?_eq_some_iff.1 g2).1
      have l1 := rd_W hr hDl hlo g1
      have l2 := rd_W hr hDl hlo g2
      have s1 := fun σ => st_W hr hDl (lo := lo) (show k < n by omega) y σ
      rw [hs1] at s1
      have s2 := fun σ => st_W hr hDl2 (lo := n) hqn x σ
      rw [hs2, ← hD2] at s2
      generalize (P ++ A1) ++ x :: ([] ++ y :: (A2 ++ Q)) = D at *
      generalize (P ++ A1) ++ y :: ([] ++ y :: (A2 ++ Q)) = D2 at *
      generalize hD3 : P ++ (A1 ++ [y]) ++ x :: (A2 ++ Q) = D3 at *
      obtain ⟨i1, hi1⟩ : ∃ i1, i - 1 = i1 := ⟨_, rfl⟩
      rw [hi1] at w0
      have w1 : IntKind.i64.wrap ((k : Int) + 1) = q := by rw [wrap_i64 (by omega) (by omega)]; omega
      have hik : (k : Int) < i1 := by omega
      have b1 : (q : Int) < n := by omega
      have b2 : (k : Int) < n := by omega
      simp -implicitDefEqProofs [lp86_1, hik, b1, b2, w0, w1, l1, l2, s1, s2]
      exact ⟨A2.length, by omega, A1 ++ [y], A2, q, n, rfl, by simp, by simp; omega, Nat.le_refl _, by rw [← hD3], by simp⟩

/-! The place of the one element on the right. -/
def T86b (r n : Nat) (f : FuncId) (cs : List AV) (m i j : Int) : Tr := (((((Tr.full 8).put (path 0) (sv r n)).put (path 2) (ai m)).put (path 4) (.fn f cs)).put (path 14) (ai i)).put (path 15) (ai j)
def Inv2 (H0 : Heap) (r n : Nat) (R : Nat → Int) (f : FuncId) (cs : List AV) (Ll D : List Nat) (y a m lo : Nat) (z : Nat) (σ : List AV) (M : Heap) : Prop :=
  ∃ A B C, ∃ i j : Nat, B.length = z ∧ Ll = A ++ B ++ C ∧ (∀ x ∈ A, ¬ R y < R x) ∧ (∀ x ∈ C, R y < R x) ∧ a + A.length = i ∧ i + B.length = j ∧ M = W H0 r D lo ∧ σ = L 220 (T86b r n f cs m i j)
def Post2 (H0 : Heap) (r n : Nat) (R : Nat → Int) (Ll D : List Nat) (y a m lo : Nat) (e : AExit) (σ : List AV) (M : Heap) : Prop :=
  e = .exit 4 ∧ ∃ A C, ∃ i : Nat, Ll = A ++ C ∧ (∀ x ∈ A, ¬ R y < R x) ∧ (∀ x ∈ C, R y < R x) ∧ a + A.length = i ∧ M = W H0 r D lo ∧ kill [4, 15, 83, 84, 85] σ = L 220 ((((Tr.full 8).put (path 0) (sv r n)).put (path 2) (ai m)).put (path 14) (ai i))

theorem find_loop2 (hr : r < H0.length) (hn : n ≤ 1000000) (hcs : AV.freeAll cs = true) (hc : Cmp H0 r n R f cs) (P Ll Q : List Nat) (y a m : Nat) (ha : a = P.length) (hm : m = a + Ll.length) (hs : Ll.Pairwise (lt R)) (D : List Nat) (hD : D = P ++ Ll ++ [y] ++ Q) (hlen : D.length = n) (hx : ∀ y ∈ D, y < n) (lo : Nat) (hlo : lo ≤ n) :
    ∀ (z : Nat) (σ : List AV) (M : Heap), Inv2 H0 r n R f cs Ll D y a m lo z (kill (headK lp86_2) σ) M →
      Ends (execW tbl X1 (.loop lp86_2) σ M) fun s => Post2 H0 r n R Ll D y a m lo s.e s.σ s.H := by
  intro z σ M hI
  have := loop_rule (T := tbl) (X := X1) (b := lp86_2) (Inv2 H0 r n R f cs Ll D y a m lo) (Post2 H0 r n R Ll D y a m lo) ?_ z σ M hI
  · exact this.mono fun s hs => hs.2
  · clear hI σ z M
    rintro z σ M ⟨A, B, C, i, j, rfl, hRr, hA, hC, hi, hj, rfl, rfl⟩
    by_cases hB : B = []
    · subst hB
      simp only [List.length_nil, Nat.add_zero] at hj
      subst hj
      simp -implicitDefEqProofs [lp86_2, T86b]
      exact ⟨rfl, A, C, i, by simpa using hRr, hA, hC, hi, rfl, by simp⟩
    · have hBl : 0 < B.length := List.length_pos_iff.2 hB
      obtain ⟨h, hh⟩ : ∃ h, (i + j) / 2 = h := ⟨_, rfl⟩
      obtain ⟨B1, x, B2, rfl, hB1⟩ : ∃ B1 y B2, B = B1 ++ y :: B2 ∧ B1.length = h - i := by
        have hlt : h - i < B.length := by omega
        exact ⟨B.take (h - i), B[h - i], B.drop (h - i + 1), by simp, by simp; omega⟩
      simp only [List.length_append, List.length_cons] at hj hBl
      have hL : P.length + (A.length + (B1.length + (B2.length + 1)) + C.length) + 1 + Q.length = n := by
        rw [← hlen, hD, hRr]; simp only [List.length_append, List.length_cons, List.length_nil]
      have hLl : Ll.length = A.length + (B1.length + (B2.length + 1)) + C.length := by rw [hRr]; simp only [List.length_append, List.length_cons]
      have g1 : D[h]? = some x := by
        rw [hD, hRr, show P ++ (A ++ (B1 ++ x :: B2) ++ C) ++ [y] ++ Q = P ++ ((A ++ B1) ++ x :: (B2 ++ C)) ++ ([y] ++ Q) by simp]
        exact get_at _ _ _ _ _ _ (by simp; omega)
      have g2 : D[m]? = some y := by
        rw [hD, show P ++ Ll ++ [y] ++ Q = (P ++ Ll) ++ y :: Q by simp]
        exact get_mid _ _ _ _ (by simp; omega)
      have hxn := hx x (List.mem_of_getElem? g1)
      have hyn := hx y (List.mem_of_getElem? g2)
      have l1 := rd_W hr hlen hlo g1
      have l2 := rd_W hr hlen hlo g2
      have hcm := hc D lo y x hlen hlo hyn hxn
      have hmd := mid_of (i := i) (j := j) (by omega) (by omega) hh
      obtain ⟨w1, w2, w3, w4, w5, w6⟩ := hmd
      have hij : (i : Int) < j := by omega
      have b1 : (h : Int) < n := by omega
      have b2 : (m : Int) < n := by omega
      have hsB : (B1 ++ x :: B2 ++ C).Pairwise (lt R) := by
        rw [hRr, List.append_assoc] at hs
        exact (List.pairwise_append.1 hs).2.1
      have hsB' := List.pairwise_append.1 (show (B1 ++ (x :: (B2 ++ C))).Pairwise (lt R) by simpa using hsB)
      generalize hs0 : i + j = s at *
      by_cases hlt : R y < R x
      · have hneg := (cmpI_neg R y x).2 hlt
        simp -implicitDefEqProofs [lp86_2, T86b, hij, w1, w2, w3, w4, w5, w6, b1, b2, l1, l2, hcm, hneg, hcs]
        refine ⟨B1.length, by omega, A, B1, x :: B2 ++ C, i, h, rfl, by rw [hRr]; simp, hA, ?_, hi, by omega, rfl, by simp [T86b]⟩
        intro z hz
        simp only [List.cons_append, List.mem_cons] at hz
        rcases hz with rfl | hz
        · exact hlt
        · have := (List.pairwise_cons.1 hsB'.2.1).1 z hz
          unfold lt at this; omega
      · have hneg : ¬ cmpI R y x < 0 := fun q => hlt ((cmpI_neg R y x).1 q)
        simp -implicitDefEqProofs [lp86_2, T86b, hij, w1, w2, w3, w4, w5, w6, b1, b2, l1, l2, hcm, hneg, hcs]
        refine ⟨B2.length, by omega, A ++ B1 ++ [x], B2, C, h + 1, j, rfl, by rw [hRr]; simp, ?_, hC, by simp only [List.length_append, List.length_cons, List.length_nil]; omega, by omega, rfl, by simp [T86b]⟩
        intro z hz
        simp only [List.mem_append, List.mem_singleton] at hz
        rcases hz with (hz | hz) | rfl
        · exact hA z hz
        · have := hsB'.2.2 z hz x (by simp)
          unfold lt at this; omega
        · exact hlt

def Inv3 (H0 : Heap) (r n : Nat) (P C Q : List Nat) (y i : Nat) (z : Nat) (σ : List AV) (M : Heap) : Prop :=
  ∃ C1 C2, ∃ k lo : Nat, C1.length = z ∧ C = C1 ++ C2 ∧ i + C1.length = k ∧ lo ≤ n ∧ M = W H0 r (P ++ C1 ++ y :: (C2 ++ Q)) lo ∧ σ = L 220 ((((Tr.full 8).put (path 0) (sv r n)).put (path 14) (ai i)).put (path 17) (ai k))
def Post3 (H0 : Heap) (r n : Nat) (P C Q : List Nat) (y : Nat) (e : AExit) (σ : List AV) (M : Heap) : Prop :=
  e = .exit 6 ∧ ∃ lo, lo ≤ n ∧ M = W H0 r (P ++ y :: (C ++ Q)) lo ∧ IsL 220 σ

theorem shift_loop2 (hr : r < H0.length) (hn : n ≤ 1000000) (P C Q : List Nat) (y i : Nat) (hi : i = P.length) (hlen : (P ++ C ++ y :: Q).length = n) :
    ∀ (z : Nat) (σ : List AV) (M : Heap), Inv3 H0 r n P C Q y i z (kill (headK lp86_3) σ) M → Ends (execW tbl X1 (.loop lp86_3) σ M) fun s => Post3 H0 r n P C Q y s.e s.σ s.H := by
  intro z σ M hI
  have := loop_rule (T := tbl) (X := X1) (b := lp86_3) (Inv3 H0 r n P C Q y i) (Post3 H0 r n P C Q y) ?_ z σ M hI
  · exact this.mono fun s hs => hs.2
  · clear hI σ z M
    rintro z σ M ⟨C1, C2, k, lo, rfl, rfl, hk, hlo, rfl, rfl⟩
    simp only [List.length_append, List.length_cons] at hlen
    rcases List.eq_nil_or_concat C1 with rfl | ⟨C1, x, rfl⟩
    · simp only [List.length_nil, Nat.add_zero] at hk
      subst hk
      simp -implicitDefEqProofs [lp86_3]
      exact ⟨rfl, lo, hlo, by simp, _, rfl⟩
    · simp only [List.concat_eq_append, List.length_append, List.length_cons, List.length_nil] at hk hlen ⊢
      have hD : P ++ (C1 ++ [x]) ++ y :: (C2 ++ Q) = (P ++ C1) ++ x :: ([] ++ y :: (C2 ++ Q)) := by simp
      have hD2 : P ++ C1 ++ y :: (x :: C2 ++ Q) = (P ++ C1) ++ y :: ([] ++ x :: (C2 ++ Q)) := by simp
      rw [hD]
      obtain ⟨p, hp⟩ : ∃ p, i + C1.length = p := ⟨_, rfl⟩
      have hpA : p = (P ++ C1).length := by simp; omega
      have hqA : k = (P ++ C1).length + 1 + ([] : List Nat).length := by simp; omega
      have g1 := get_mid (P ++ C1) ([] ++ y :: (C2 ++ Q)) x p hpA
      have g2 := get_mid2 (P ++ C1) [] (C2 ++ Q) x y k hqA
      have hs1 := set_mid2 (P ++ C1) [] (C2 ++ Q) x y x k hqA
      have hs2 := set_mid (P ++ C1) ([] ++ x :: (C2 ++ Q)) x y p hpA
      have hDl : ((P ++ C1) ++ x :: ([] ++ y :: (C2 ++ Q))).length = n := by simp only [List.length_append, List.length_cons, List.length_nil]; omega
      have hDl2 : ((P ++ C1) ++ x :: ([] ++ x :: (C2 ++ Q))).length = n := by simp only [List.length_append, List.length_cons, List.length_nil] at hDl ⊢; omega
      have hqn : k < n := by rw [← hDl]; exact (List.getElem?_eq_some_iff.1 g2).1
      have l1 := rd_W hr hDl hlo g1
      have l2 := rd_W hr hDl hlo g2
      have s1 := fun σ => st_W hr hDl (lo := lo) hqn x σ
      rw [hs1] at s1
      have s2 := fun σ => st_W hr hDl2 (lo := n) (show p < n by omega) y σ
      rw [hs2, ← hD2] at s2
      generalize (P ++ C1) ++ x :: ([] ++ y :: (C2 ++ Q)) = D at *
      generalize (P ++ C1) ++ x :: ([] ++ x :: (C2 ++ Q)) = D2 at *
      generalize hD3 : P ++ C1 ++ y :: (x :: C2 ++ Q) = D3 at *
      have w1 : IntKind.i64.wrap ((k : Int) - 1) = p := by rw [wrap_i64 (by omega) (by omega)]; omega
      have hik : (i : Int) < k := by omega
      have b1 : (k : Int) < n := by omega
      have b2 : (p : Int) < n := by omega
      simp -implicitDefEqProofs [lp86_3, hik, b1, b2, w1, l1, l2, s1, s2]
      exact ⟨C1.length, by omega, C1, x :: C2, p, n, rfl, by simp, hp, Nat.le_refl _, by rw [← hD3], by simp⟩
end
end Go.A.Seat

namespace Go.A.Seat
open Go.A
set_option linter.unusedSimpArgs false
set_option linter.unusedVariables false

section
variable {H0 : Heap} {r n : Nat} {R : Nat → Int} {f : FuncId} {cs : List AV}

/-! The search for the cut. mid, N = mid + m, p = N - 1. -/
def T86c (r n : Nat) (f : FuncId) (cs : List AV) (a m b mid N s e p : Int) : Tr := (((((((((((Tr.full 8).put (path 0) (sv r n)).put (path 1) (ai a)).put (path 2) (ai m)).put (path 3) (ai b)).put (path 4) (.fn f cs)).put (path 18) (ai mid)).put (path 19) (ai N)).put (path 20) (ai s)).put (path 21) (ai e)).put (path 22) (ai p))
def LowOk (R : Nat → Int) (D : List Nat) (p s0 s : Nat) : Prop := s = s0 ∨ ∃ u v, s0 < s ∧ D[p + 1 - s]? = some u ∧ D[s - 1]? = some v ∧ ¬ R u < R v
def HighOk (R : Nat → Int) (D : List Nat) (p e0 e : Nat) : Prop := e = e0 ∨ ∃ u v, e < e0 ∧ D[p - e]? = some u ∧ D[e]? = some v ∧ R u < R v
def Inv4 (H0 : Heap) (r n : Nat) (R : Nat → Int) (f : FuncId) (cs : List AV) (D : List Nat) (lo a m b mid N p s0 e0 : Nat) (z : Nat) (σ : List AV) (M : Heap) : Prop :=
  ∃ s e : Nat, e - s = z ∧ s0 ≤ s ∧ s ≤ e ∧ e ≤ e0 ∧ LowOk R D p s0 s ∧ HighOk R D p e0 e ∧ M = W H0 r D lo ∧ σ = L 220 (T86c r n f cs a m b mid N s e p)
def Post4 (H0 : Heap) (r n : Nat) (R : Nat → Int) (f : FuncId) (cs : List AV) (D : List Nat) (lo a m b mid N p s0 e0 : Nat) (e : AExit) (σ : List AV) (M : Heap) : Prop :=
  e = .exit 8 ∧ ∃ s : Nat, s0 ≤ s ∧ s ≤ e0 ∧ LowOk R D p s0 s ∧ HighOk R D p e0 s ∧ M = W H0 r D lo ∧ kill [21, 22, 149, 150, 151] σ = L 220 ((((((((Tr.full 8).put (path 0) (sv r n)).put (path 1) (ai a)).put (path 2) (ai m)).put (path 3) (ai b)).put (path 4) (.fn f cs)).put (path 18) (ai mid)).put (path 19) (ai N) |>.put (path 20) (ai s))

theorem cut_loop (hr : r < H0.length) (hn : n ≤ 1000000) (hcs : AV.freeAll cs = true) (hc : Cmp H0 r n R f cs) (D : List Nat) (hlen : D.length = n) (hx : ∀ y ∈ D, y < n) (lo : Nat) (hlo : lo ≤ n) (a m b mid N p s0 e0 : Nat) (hp : p < n + s0) (he0 : e0 ≤ p + 1) (hN : N ≤ 2 * n) (he1 : e0 ≤ n) :
    ∀ (z : Nat) (σ : List AV) (M : Heap), Inv4 H0 r n R f cs D lo a m b mid N p s0 e0 z (kill (headK lp86_4) σ) M →
      Ends (execW tbl X1 (.loop lp86_4) σ M) fun s => Post4 H0 r n R f cs D lo a m b mid N p s0 e0 s.e s.σ s.H := by
  intro z σ M hI
  have := loop_rule (T := tbl) (X := X1) (b := lp86_4) (Inv4 H0 r n R f cs D lo a m b mid N p s0 e0) (Post4 H0 r n R f cs D lo a m b mid N p s0 e0) ?_ z σ M hI
  · exact this.mono fun s hs => hs.2
  · clear hI σ z M
    rintro z σ M ⟨s, e, rfl, h1, h2, h3, hlow, hhigh, rfl, rfl⟩
    by_cases hse : s = e
    · subst hse
      simp -implicitDefEqProofs [lp86_4, T86c]
      exact ⟨rfl, s, h1, h3, hlow, hhigh, rfl, by simp⟩
    · obtain ⟨c, hh⟩ : ∃ c, (s + e) / 2 = c := ⟨_, rfl⟩
      have hce : c < e := by omega
      have hsc : s ≤ c := by omega
      obtain ⟨u, g1⟩ : ∃ u, D[p - c]? = some u := ⟨_, List.getElem?_eq_getElem (by omega)⟩
      obtain ⟨v, g2⟩ : ∃ v, D[c]? = some v := ⟨_, List.getElem?_eq_getElem (by omega)⟩
      have hun := hx u (List.mem_of_getElem? g1)
      have hvn := hx v (List.mem_of_getElem? g2)
      have l1 := rd_W hr hlen hlo g1
      have l2 := rd_W hr hlen hlo g2
      have hcm := hc D lo u v hlen hlo hun hvn
      obtain ⟨w1, w2, w3, w4, w5, w6⟩ := mid_of (i := s) (j := e) (by omega) (by omega) hh
      have w7 : IntKind.i64.wrap ((p : Int) - c) = ((p - c : Nat) : Int) := by rw [wrap_i64 (by omega) (by omega)]; omega
      have hij : (s : Int) < e := by omega
      have b1 : (c : Int) < n := by omega
      have b2 : ((p - c : Nat) : Int) < n := by omega
      have hlow' : ¬ R u < R v → LowOk R D p s0 (c + 1) := fun h => .inr ⟨u, v, by omega, by rw [show p + 1 - (c + 1) = p - c by omega]; exact g1, g2, h⟩
      have hhigh' : R u < R v → HighOk R D p e0 c := fun h => .inr ⟨u, v, by omega, g1, g2, h⟩
      generalize hpc : p - c = pc at *
      generalize hs0 : s + e = se at *
      by_cases hlt : R u < R v
      · have hneg := (cmpI_neg R u v).2 hlt
        simp -implicitDefEqProofs [lp86_4, T86c, hij, w1, w2, w3, w4, w5, w6, w7, b1, b2, l1, l2, hcm, hneg, hcs]
        exact ⟨c - s, by omega, s, c, rfl, h1, hsc, by omega, hlow, hhigh' hlt, rfl, by simp [T86c]⟩
      · have hneg : ¬ cmpI R u v < 0 := fun q => hlt ((cmpI_neg R u v).1 q)
        simp -implicitDefEqProofs [lp86_4, T86c, hij, w1, w2, w3, w4, w5, w6, w7, b1, b2, l1, l2, hcm, hneg, hcs]
        exact ⟨e - (c + 1), by omega, c + 1, e, rfl, by omega, by omega, h3, hlow' hlt, hhigh, rfl, by simp [T86c]⟩
end
end Go.A.Seat

namespace Go.A.Seat
open Go.A
set_option linter.unusedSimpArgs false
set_option linter.unusedVariables false

section
variable {H0 : Heap} {r n : Nat} {R : Nat → Int} {f : FuncId} {cs : List AV}

def MergeOk (H0 : Heap) (r n : Nat) (R : Nat → Int) (f : FuncId) (cs : List AV) (N : Nat) : Prop :=
  ∀ (P Ll Rr Q : List Nat) (a m b lo : Nat), Ll.length + Rr.length ≤ N → 0 < Ll.length → 0 < Rr.length → a = P.length → m = a + Ll.length → b = m + Rr.length → (P ++ Ll ++ Rr ++ Q).length = n → (∀ y ∈ P ++ Ll ++ Rr ++ Q, y < n) →
    Ll.Pairwise (lt R) → Rr.Pairwise (lt R) → (∀ x ∈ Ll, ∀ y ∈ Rr, x < y) → lo ≤ n →
    ∃ S lo', S.Perm (Ll ++ Rr) ∧ S.Pairwise (lt R) ∧ lo' ≤ n ∧ callW tbl X1 86 [sv r n, ai a, ai m, ai b, .fn f cs] (W H0 r (P ++ Ll ++ Rr ++ Q) lo) = some (.tup [], W H0 r (P ++ S ++ Q) lo')

def tl86 : SCode := code86.sr.sr.sr.sr.sr.sr.sr.sr
theorem tl86_eq : tl86 = .seq tl86.sl (.seq tl86.sr.sl (.seq tl86.sr.sr.sl tl86.sr.sr.sr)) := rfl

def U1 (r n : Nat) (f : FuncId) (cs : List AV) (a m b mid s e : Int) : Tr := ((((((((Tr.full 8).put (path 0) (sv r n)).put (path 1) (ai a)).put (path 2) (ai m)).put (path 3) (ai b)).put (path 4) (.fn f cs)).put (path 18) (ai mid)).put (path 20) (ai s)).put (path 24) (ai e)
def U2 (r n : Nat) (f : FuncId) (cs : List AV) (a b mid s e : Int) : Tr := (((((((Tr.full 8).put (path 0) (sv r n)).put (path 1) (ai a)).put (path 3) (ai b)).put (path 4) (.fn f cs)).put (path 18) (ai mid)).put (path 20) (ai s)).put (path 24) (ai e)
def U3 (r n : Nat) (f : FuncId) (cs : List AV) (b mid e : Int) : Tr := (((((Tr.full 8).put (path 0) (sv r n)).put (path 3) (ai b)).put (path 4) (.fn f cs)).put (path 18) (ai mid)).put (path 24) (ai e)

def PostR (H0 : Heap) (r n : Nat) (f : FuncId) (cs : List AV) (D : List Nat) (a b mid s e : Nat) (x : AExit) (σ : List AV) (M : Heap) : Prop :=
  x = .normal ∧ ∃ lo, lo ≤ n ∧ M = W H0 r D lo ∧ kill (headK tl86.sr.sr.sl) σ = L 220 (U2 r n f cs a b mid s e)

theorem rotPart (hr : r < H0.length) (hn : n ≤ 1000000) (hcs : AV.freeAll cs = true) (P L1 L2 R1 R2 Q : List Nat) (a m b mid s e lo : Nat) (hs : s = P.length + L1.length) (hm : m = s + L2.length) (he : e = m + R1.length) (hlen : (P ++ L1 ++ L2 ++ R1 ++ R2 ++ Q).length = n) (hlo : lo ≤ n) (σ : List AV) (hσ : kill (headK tl86.sr.sl) σ = L 220 (U1 r n f cs a m b mid s e)) :
    Ends (execW tbl X1 tl86.sr.sl σ (W H0 r (P ++ L1 ++ L2 ++ R1 ++ R2 ++ Q) lo)) fun st => PostR H0 r n f cs (P ++ L1 ++ R1 ++ L2 ++ R2 ++ Q) a b mid s e st.e st.σ st.H := by
  rw [← execW_head, hσ]
  simp only [List.length_append] at hlen
  by_cases h1 : s < m
  · by_cases h2 : m < e
    · obtain ⟨lo', hlo', hsw⟩ := rot92 hr hn (P ++ L1) L2 R1 (R2 ++ Q) (by omega) (by omega) s m e (by simp; omega) (by simp; omega) (by simp; omega) (by simp only [List.length_append]; omega) lo hlo (.fn f cs) (by simpa [AV.free] using hcs) rfl
      rw [show (P ++ L1) ++ L2 ++ R1 ++ (R2 ++ Q) = P ++ L1 ++ L2 ++ R1 ++ R2 ++ Q by simp, show (P ++ L1) ++ R1 ++ L2 ++ (R2 ++ Q) = P ++ L1 ++ R1 ++ L2 ++ R2 ++ Q by simp] at hsw
      have h1' : (s : Int) < m := by omega
      have h2' : (m : Int) < e := by omega
      generalize P ++ L1 ++ L2 ++ R1 ++ R2 ++ Q = D at *
      generalize P ++ L1 ++ R1 ++ L2 ++ R2 ++ Q = D' at *
      simp -implicitDefEqProofs [tl86, code86, U1, h1', h2', hcs, hsw]
      exact ⟨rfl, lo', hlo', rfl, by simp [U2, tl86, code86]⟩
    · have hR : R1 = [] := List.eq_nil_of_length_eq_zero (by omega)
      subst hR
      have h1' : (s : Int) < m := by omega
      have h2' : ¬ (m : Int) < e := by omega
      simp only [List.append_nil]
      generalize P ++ L1 ++ L2 ++ R2 ++ Q = D at *
      simp -implicitDefEqProofs [tl86, code86, U1, h1', h2', hcs]
      exact ⟨rfl, lo, hlo, rfl, by simp [U2, tl86, code86]⟩
  · have hL : L2 = [] := List.eq_nil_of_length_eq_zero (by omega)
    subst hL
    have h1' : ¬ (s : Int) < m := by omega
    simp only [List.append_nil]
    generalize P ++ L1 ++ R1 ++ R2 ++ Q = D at *
    simp -implicitDefEqProofs [tl86, code86, U1, h1', hcs]
    exact ⟨rfl, lo, hlo, rfl, by simp [U2, tl86, code86]⟩

def PostM (H0 : Heap) (r n : Nat) (R : Nat → Int) (f : FuncId) (cs : List AV) (P Q U : List Nat) (b mid e : Nat) (x : AExit) (σ : List AV) (M : Heap) : Prop :=
  x = .normal ∧ ∃ S lo, S.Perm U ∧ S.Pairwise (lt R) ∧ lo ≤ n ∧ M = W H0 r (P ++ S ++ Q) lo ∧ kill (headK tl86.sr.sr.sr) σ = L 220 (U3 r n f cs b mid e)

theorem m1Part (hcs : AV.freeAll cs = true) (N : Nat) (ih : MergeOk H0 r n R f cs N) (P L1 R1 Q : List Nat) (a b mid s e lo : Nat) (hN : L1.length + R1.length ≤ N) (ha : a = P.length) (hs : s = a + L1.length) (hm : mid = s + R1.length) (hlen : (P ++ L1 ++ R1 ++ Q).length = n) (hx : ∀ y ∈ P ++ L1 ++ R1 ++ Q, y < n) (p1 : L1.Pairwise (lt R)) (p2 : R1.Pairwise (lt R)) (p3 : ∀ x ∈ L1, ∀ y ∈ R1, x < y) (hlo : lo ≤ n) (σ : List AV) (hσ : kill (headK tl86.sr.sr.sl) σ = L 220 (U2 r n f cs a b mid s e)) :
    Ends (execW tbl X1 tl86.sr.sr.sl σ (W H0 r (P ++ L1 ++ R1 ++ Q) lo)) fun st => PostM H0 r n R f cs P Q (L1 ++ R1) b mid e st.e st.σ st.H := by
  rw [← execW_head, hσ]
  by_cases h1 : a < s
  · by_cases h2 : s < mid
    · obtain ⟨S, lo', hp, hS, hlo', hsw⟩ := ih P L1 R1 Q a s mid lo hN (by omega) (by omega) ha hs hm hlen hx p1 p2 p3 hlo
      have h1' : (a : Int) < s := by omega
      have h2' : (s : Int) < mid := by omega
      generalize P ++ L1 ++ R1 ++ Q = D at *
      generalize hD : P ++ S ++ Q = D' at *
      simp -implicitDefEqProofs [tl86, code86, U2, h1', h2', hcs, hsw]
      exact ⟨rfl, S, lo', hp, hS, hlo', by rw [hD], by simp [U3, tl86, code86]⟩
    · have hR : R1 = [] := List.eq_nil_of_length_eq_zero (by omega)
      subst hR
      have h1' : (a : Int) < s := by omega
      have h2' : ¬ (s : Int) < mid := by omega
      simp only [List.append_nil]
      generalize hD : P ++ L1 ++ Q = D at *
      simp -implicitDefEqProofs [tl86, code86, U2, h1', h2', hcs]
      exact ⟨rfl, L1, lo, by simp, p1, hlo, by rw [hD], by simp [U3, tl86, code86]⟩
  · have hL : L1 = [] := List.eq_nil_of_length_eq_zero (by omega)
    subst hL
    have h1' : ¬ (a : Int) < s := by omega
    simp only [List.append_nil, List.nil_append]
    generalize hD : P ++ R1 ++ Q = D at *
    simp -implicitDefEqProofs [tl86, code86, U2, h1', hcs]
    exact ⟨rfl, R1, lo, by simp, p2, hlo, by rw [hD], by simp [U3, tl86, code86]⟩

def PostE (H0 : Heap) (r n : Nat) (R : Nat → Int) (P Q U : List Nat) (x : AExit) (σ : List AV) (M : Heap) : Prop :=
  x = .normal ∧ ∃ S lo, S.Perm U ∧ S.Pairwise (lt R) ∧ lo ≤ n ∧ M = W H0 r (P ++ S ++ Q) lo

theorem m2Part (hcs : AV.freeAll cs = true) (N : Nat) (ih : MergeOk H0 r n R f cs N) (P L2 R2 Q : List Nat) (mid e b lo : Nat) (hN : L2.length + R2.length ≤ N) (ha : mid = P.length) (hs : e = mid + L2.length) (hm : b = e + R2.length) (hlen : (P ++ L2 ++ R2 ++ Q).length = n) (hx : ∀ y ∈ P ++ L2 ++ R2 ++ Q, y < n) (p1 : L2.Pairwise (lt R)) (p2 : R2.Pairwise (lt R)) (p3 : ∀ x ∈ L2, ∀ y ∈ R2, x < y) (hlo : lo ≤ n) (σ : List AV) (hσ : kill (headK tl86.sr.sr.sr) σ = L 220 (U3 r n f cs b mid e)) :
    Ends (execW tbl X1 tl86.sr.sr.sr σ (W H0 r (P ++ L2 ++ R2 ++ Q) lo)) fun st => PostE H0 r n R P Q (L2 ++ R2) st.e st.σ st.H := by
  rw [← execW_head, hσ]
  by_cases h1 : mid < e
  · by_cases h2 : e < b
    · obtain ⟨S, lo', hp, hS, hlo', hsw⟩ := ih P L2 R2 Q mid e b lo hN (by omega) (by omega) ha hs hm hlen hx p1 p2 p3 hlo
      have h1' : (mid : Int) < e := by omega
      have h2' : (e : Int) < b := by omega
      generalize P ++ L2 ++ R2 ++ Q = D at *
      generalize hD : P ++ S ++ Q = D' at *
      simp -implicitDefEqProofs [tl86, code86, U3, h1', h2', hcs, hsw]
      exact ⟨rfl, S, lo', hp, hS, hlo', by rw [hD]⟩
    · have hR : R2 = [] := List.eq_nil_of_length_eq_zero (by omega)
      subst hR
      have h1' : (mid : Int) < e := by omega
      have h2' : ¬ (e : Int) < b := by omega
      simp only [List.append_nil]
      generalize hD : P ++ L2 ++ Q = D at *
      simp -implicitDefEqProofs [tl86, code86, U3, h1', h2', hcs]
      exact ⟨rfl, L2, lo, by simp, p1, hlo, by rw [hD]⟩
  · have hL : L2 = [] := List.eq_nil_of_length_eq_zero (by omega)
    subst hL
    have h1' : ¬ (mid : Int) < e := by omega
    simp only [List.append_nil, List.nil_append]
    generalize hD : P ++ R2 ++ Q = D at *
    simp -implicitDefEqProofs [tl86, code86, U3, h1', hcs]
    exact ⟨rfl, R2, lo, by simp, p2, hlo, by rw [hD]⟩
end
end Go.A.Seat

namespace Go.A.Seat
open Go.A
set_option linter.unusedSimpArgs false
set_option linter.unusedVariables false

section
variable {H0 : Heap} {r n : Nat} {R : Nat → Int} {f : FuncId} {cs : List AV}

theorem last_of {A : List Nat} {v : Nat} (h : A.getLast? = some v) (hs : A.Pairwise (lt R)) : ∀ x ∈ A, x = v ∨ lt R x v := by
  rcases List.eq_nil_or_concat A with rfl | ⟨B, w, rfl⟩
  · simp at h
  · simp at h; subst h
    intro x hx
    simp only [List.concat_eq_append, List.mem_append, List.mem_singleton] at hx
    rcases hx with hx | rfl
    · simp only [List.concat_eq_append, List.pairwise_append] at hs
      exact .inr (hs.2.2 x hx w (by simp))
    · exact .inl rfl
theorem first_of {A : List Nat} {v : Nat} (h : A.head? = some v) (hs : A.Pairwise (lt R)) : ∀ x ∈ A, x = v ∨ lt R v x := by
  cases A with
  | nil => simp at h
  | cons w B =>
    simp at h; subst h
    intro x hx
    rcases List.mem_cons.1 hx with rfl | hx
    · exact .inl rfl
    · exact .inr ((List.pairwise_cons.1 hs).1 x hx)

/-- All that is ahead of the cut is less than all that is behind it. -/
theorem cross {L1 L2 R1 R2 : List Nat} (hL : (L1 ++ L2).Pairwise (lt R)) (hR : (R1 ++ R2).Pairwise (lt R)) (hlr : ∀ x ∈ L1 ++ L2, ∀ y ∈ R1 ++ R2, x < y)
    (hlow : L1 = [] ∨ R2 = [] ∨ ∃ u v, R2.head? = some u ∧ L1.getLast? = some v ∧ ¬ R u < R v)
    (hhigh : L2 = [] ∨ R1 = [] ∨ ∃ u v, R1.getLast? = some u ∧ L2.head? = some v ∧ R u < R v) :
    ∀ x ∈ L1 ++ R1, ∀ y ∈ L2 ++ R2, lt R x y := by
  obtain ⟨l1, l2, l3⟩ := List.pairwise_append.1 hL
  obtain ⟨r1, r2, r3⟩ := List.pairwise_append.1 hR
  intro x hx y hy
  rcases List.mem_append.1 hx with hx | hx <;> rcases List.mem_append.1 hy with hy | hy
  · exact l3 x hx y hy
  · rcases hlow with rfl | rfl | ⟨u, v, h1, h2, h3⟩
    · simp at hx
    · simp at hy
    · have a1 := last_of h2 l1 x hx
      have a2 := first_of h1 r2 y hy
      have hv : v ∈ L1 := List.mem_of_getLast? h2
      have hu : u ∈ R2 := List.mem_of_head? h1
      have hvu : lt R v u := by
        have := hlr v (by simp [hv]) u (by simp [hu])
        unfold lt; omega
      rcases a1 with rfl | a1 <;> rcases a2 with rfl | a2
      · exact hvu
      · exact lt_trans hvu a2
      · exact lt_trans a1 hvu
      · exact lt_trans a1 (lt_trans hvu a2)
  · rcases hhigh with rfl | rfl | ⟨u, v, h1, h2, h3⟩
    · simp at hy
    · simp at hx
    · have a1 := last_of h1 r1 x hx
      have a2 := first_of h2 l2 y hy
      have huv : lt R u v := .inl h3
      rcases a1 with rfl | a1 <;> rcases a2 with rfl | a2
      · exact huv
      · exact lt_trans huv a2
      · exact lt_trans a1 huv
      · exact lt_trans a1 (lt_trans huv a2)
  · exact r3 x hx y hy

/-- Case 1: one element on the left. -/
theorem case1 (hr : r < H0.length) (hn : n ≤ 1000000) (hcs : AV.freeAll cs = true) (hc : Cmp H0 r n R f cs) (P Rr Q : List Nat) (x : Nat) (a m b lo : Nat) (ha : a = P.length) (hm : m = a + 1) (hb : b = m + Rr.length) (hlen : (P ++ [x] ++ Rr ++ Q).length = n) (hx : ∀ y ∈ P ++ [x] ++ Rr ++ Q, y < n) (p2 : Rr.Pairwise (lt R)) (p3 : ∀ y ∈ Rr, x < y) (hlo : lo ≤ n) :
    ∃ S lo', S.Perm ([x] ++ Rr) ∧ S.Pairwise (lt R) ∧ lo' ≤ n ∧ callW tbl X1 86 [sv r n, ai a, ai m, ai b, .fn f cs] (W H0 r (P ++ [x] ++ Rr ++ Q) lo) = some (.tup [], W H0 r (P ++ S ++ Q) lo') := by
  suffices h : Ends (callW tbl X1 86 [sv r n, ai a, ai m, ai b, .fn f cs] (W H0 r (P ++ [x] ++ Rr ++ Q) lo)) fun y => ∃ S lo', S.Perm ([x] ++ Rr) ∧ S.Pairwise (lt R) ∧ lo' ≤ n ∧ y = (.tup [], W H0 r (P ++ S ++ Q) lo') by
    obtain ⟨_, h1, S, lo', h3, h4, h5, rfl⟩ := h
    exact ⟨S, lo', h3, h4, h5, h1⟩
  refine call_rule (X1_none (by decide) _ _) rfl ?_
  rw [fun86, slots0_L 8 220 _ (by simp), show code86 = .seq code86.sl code86.sr from rfl]
  generalize code86.sr = Rest
  have hl := find_loop hr hn hcs hc P Rr Q x a m ha hm p2 _ rfl hlen hx lo hlo Rr.length
  have w : IntKind.i64.wrap ((m : Int) - a) = 1 := by
    simp only [List.length_append, List.length_cons, List.length_nil] at hlen
    rw [wrap_i64 (by omega) (by omega)]; omega
  have hlen' := hlen
  simp only [List.length_append, List.length_cons, List.length_nil] at hlen'
  generalize hD : P ++ [x] ++ Rr ++ Q = D at *
  simp -implicitDefEqProofs [code86, w]
  repeat rw [Option.bind_assoc]
  refine Ends.bind (Q := fun s : St => Post0 H0 r n R Rr D x a m lo (AExit.exit 0) s.σ s.H ∧ s.e = .normal) (Ends.map (hl _ _ ⟨[], Rr, [], m, b, rfl, by simp, by simp, by simp, by simp, hb.symm, rfl, by simp [lp86_0, T86]⟩) ?_) ?_
  · rintro ⟨e, σ, G⟩ ⟨q1, q2⟩
    simp only at q1
    subst q1
    exact ⟨⟨rfl, q2⟩, by simp [unblock]⟩
  · rintro ⟨e, σ, G⟩ ⟨⟨_, A, C, i, q2, q3, q4, q5, q6, q7⟩, q1⟩
    simp only at q1 q6 q7
    subst q1; subst q6
    subst q2
    simp only [List.length_append] at hlen' hb
    have hD2 : D = P ++ [] ++ x :: (A ++ (C ++ Q)) := by rw [← hD]; simp
    have hl2 := shift_loop hr hn P A (C ++ Q) x i (by omega) (by simp only [List.length_append, List.length_cons]; omega) A.length
    simp -implicitDefEqProofs [q7]
    repeat rw [Option.bind_assoc]
    refine Ends.bind (Q := fun s : St => Post1 H0 r n P A (C ++ Q) x (AExit.exit 2) s.σ s.H ∧ s.e = .normal) (Ends.map (hl2 _ _ ⟨[], A, a, lo, rfl, rfl, by simp [ha], hlo, by rw [← hD2], by simp [lp86_1]⟩) ?_) ?_
    · rintro ⟨e, σ, G⟩ ⟨q1, q2⟩
      simp only at q1
      subst q1
      exact ⟨⟨rfl, q2⟩, by simp [unblock]⟩
    · rintro ⟨e, σ, G⟩ ⟨⟨_, lo2, g2, g3, t, ht⟩, q1⟩
      simp only at q1 g3 ht
      subst q1; subst g3; subst ht
      simp -implicitDefEqProofs []
      refine ⟨A ++ x :: C, by simp, ?_, lo2, g2, by simp⟩
      obtain ⟨h1, h2, h3⟩ := List.pairwise_append.1 p2
      rw [List.pairwise_append, List.pairwise_cons]
      refine ⟨h1, ⟨fun y hy => ?_, h2⟩, fun y hy z hz => ?_⟩
      · have := p3 y (by simp [hy])
        have := q4 y hy
        unfold lt; omega
      · rcases List.mem_cons.1 hz with rfl | hz
        · exact .inl (q3 y hy)
        · exact h3 y hy z hz
end
end Go.A.Seat

namespace Go.A.Seat
open Go.A
set_option linter.unusedSimpArgs false
set_option linter.unusedVariables false

section
variable {H0 : Heap} {r n : Nat} {R : Nat → Int} {f : FuncId} {cs : List AV}

/-- Case 2: one element on the right. -/
theorem case2 (hr : r < H0.length) (hn : n ≤ 1000000) (hcs : AV.freeAll cs = true) (hc : Cmp H0 r n R f cs) (P Ll Q : List Nat) (y : Nat) (a m b lo : Nat) (h1 : Ll.length ≠ 1) (ha : a = P.length) (hm : m = a + Ll.length) (hb : b = m + 1) (hlen : (P ++ Ll ++ [y] ++ Q).length = n) (hx : ∀ z ∈ P ++ Ll ++ [y] ++ Q, z < n) (p1 : Ll.Pairwise (lt R)) (p3 : ∀ x ∈ Ll, x < y) (hlo : lo ≤ n) :
    ∃ S lo', S.Perm (Ll ++ [y]) ∧ S.Pairwise (lt R) ∧ lo' ≤ n ∧ callW tbl X1 86 [sv r n, ai a, ai m, ai b, .fn f cs] (W H0 r (P ++ Ll ++ [y] ++ Q) lo) = some (.tup [], W H0 r (P ++ S ++ Q) lo') := by
  suffices h : Ends (callW tbl X1 86 [sv r n, ai a, ai m, ai b, .fn f cs] (W H0 r (P ++ Ll ++ [y] ++ Q) lo)) fun z => ∃ S lo', S.Perm (Ll ++ [y]) ∧ S.Pairwise (lt R) ∧ lo' ≤ n ∧ z = (.tup [], W H0 r (P ++ S ++ Q) lo') by
    obtain ⟨_, h1, S, lo', h3, h4, h5, rfl⟩ := h
    exact ⟨S, lo', h3, h4, h5, h1⟩
  refine call_rule (X1_none (by decide) _ _) rfl ?_
  rw [fun86, slots0_L 8 220 _ (by simp), show code86 = .seq code86.sl (.seq code86.sr.sl code86.sr.sr) from rfl]
  generalize code86.sr.sr = Rest
  have hl := find_loop2 hr hn hcs hc P Ll Q y a m ha hm p1 _ rfl hlen hx lo hlo Ll.length
  have hlen' := hlen
  simp only [List.length_append, List.length_cons, List.length_nil] at hlen'
  have w0 : IntKind.i64.wrap ((m : Int) - a) = ((m - a : Nat) : Int) := by rw [wrap_i64 (by omega) (by omega)]; omega
  have w : IntKind.i64.wrap ((b : Int) - m) = 1 := by rw [wrap_i64 (by omega) (by omega)]; omega
  have hma : ¬ ((m - a : Nat) : Int) = 1 := by omega
  generalize hma0 : m - a = ma at *
  generalize hD : P ++ Ll ++ [y] ++ Q = D at *
  simp -implicitDefEqProofs [code86, w, w0, hma]
  repeat rw [Option.bind_assoc]
  refine Ends.bind (Q := fun s : St => Post2 H0 r n R Ll D y a m lo (AExit.exit 4) s.σ s.H ∧ s.e = .normal) (Ends.map (hl _ _ ⟨[], Ll, [], a, m, rfl, by simp, by simp, by simp, by simp, hm.symm, rfl, by simp [lp86_2, T86b]⟩) ?_) ?_
  · rintro ⟨e, σ, G⟩ ⟨q1, q2⟩
    simp only at q1
    subst q1
    exact ⟨⟨rfl, q2⟩, by simp [unblock]⟩
  · rintro ⟨e, σ, G⟩ ⟨⟨_, A, C, i, q2, q3, q4, q5, q6, q7⟩, q1⟩
    simp only at q1 q6 q7
    subst q1; subst q6
    subst q2
    simp only [List.length_append] at hlen' hm
    have hD2 : D = (P ++ A) ++ C ++ y :: ([] ++ Q) := by rw [← hD]; simp
    have hl2 := shift_loop2 hr hn (P ++ A) C Q y i (by simp; omega) (by simp only [List.length_append, List.length_cons]; omega) C.length
    simp -implicitDefEqProofs [q7]
    repeat rw [Option.bind_assoc]
    refine Ends.bind (Q := fun s : St => Post3 H0 r n (P ++ A) C Q y (AExit.exit 6) s.σ s.H ∧ s.e = .normal) (Ends.map (hl2 _ _ ⟨C, [], m, lo, rfl, by simp, by omega, hlo, by rw [← hD2], by simp [lp86_3]⟩) ?_) ?_
    · rintro ⟨e, σ, G⟩ ⟨q1, q2⟩
      simp only at q1
      subst q1
      exact ⟨⟨rfl, q2⟩, by simp [unblock]⟩
    · rintro ⟨e, σ, G⟩ ⟨⟨_, lo2, g2, g3, t, ht⟩, q1⟩
      simp only at q1 g3 ht
      subst q1; subst g3; subst ht
      simp -implicitDefEqProofs []
      refine ⟨A ++ y :: C, ?_, ?_, lo2, g2, by simp⟩
      · refine List.Perm.append_left A ?_
        exact (List.perm_append_comm (l₁ := C) (l₂ := [y])).symm
      obtain ⟨h1, h2, h3⟩ := List.pairwise_append.1 p1
      rw [List.pairwise_append, List.pairwise_cons]
      refine ⟨h1, ⟨fun z hz => .inl (q4 z hz), h2⟩, fun x hx z hz => ?_⟩
      rcases List.mem_cons.1 hz with rfl | hz
      · have := p3 x (by simp [hx])
        have := q3 x hx
        unfold lt; omega
      · exact h3 x hx z hz

set_option maxHeartbeats 2000000 in
/-- Case 3: the cut. -/
theorem case3 (hr : r < H0.length) (hn : n ≤ 1000000) (hcs : AV.freeAll cs = true) (hc : Cmp H0 r n R f cs) (N0 : Nat) (ih : MergeOk H0 r n R f cs N0) (P Ll Rr Q : List Nat) (a m b lo : Nat) (hN0 : Ll.length + Rr.length ≤ N0 + 1) (hl1 : 1 < Ll.length) (hr1 : 1 < Rr.length) (ha : a = P.length) (hm : m = a + Ll.length) (hb : b = m + Rr.length) (hlen : (P ++ Ll ++ Rr ++ Q).length = n) (hx : ∀ z ∈ P ++ Ll ++ Rr ++ Q, z < n) (p1 : Ll.Pairwise (lt R)) (p2 : Rr.Pairwise (lt R)) (p3 : ∀ x ∈ Ll, ∀ y ∈ Rr, x < y) (hlo : lo ≤ n) :
    ∃ S lo', S.Perm (Ll ++ Rr) ∧ S.Pairwise (lt R) ∧ lo' ≤ n ∧ callW tbl X1 86 [sv r n, ai a, ai m, ai b, .fn f cs] (W H0 r (P ++ Ll ++ Rr ++ Q) lo) = some (.tup [], W H0 r (P ++ S ++ Q) lo') := by
  suffices h : Ends (callW tbl X1 86 [sv r n, ai a, ai m, ai b, .fn f cs] (W H0 r (P ++ Ll ++ Rr ++ Q) lo)) fun z => ∃ S lo', S.Perm (Ll ++ Rr) ∧ S.Pairwise (lt R) ∧ lo' ≤ n ∧ z = (.tup [], W H0 r (P ++ S ++ Q) lo') by
    obtain ⟨_, h1, S, lo', h3, h4, h5, rfl⟩ := h
    exact ⟨S, lo', h3, h4, h5, h1⟩
  have hlen' := hlen
  simp only [List.length_append] at hlen'
  obtain ⟨mid, hmid⟩ : ∃ mid, (a + b) / 2 = mid := ⟨_, rfl⟩
  obtain ⟨N, hN⟩ : ∃ N, mid + m = N := ⟨_, rfl⟩
  obtain ⟨p, hp⟩ : ∃ p, N - 1 = p := ⟨_, rfl⟩
  obtain ⟨s0, hs0⟩ : ∃ s0, (if mid < m then N - b else a) = s0 := ⟨_, rfl⟩
  obtain ⟨e0, he0⟩ : ∃ e0, (if mid < m then mid else m) = e0 := ⟨_, rfl⟩
  have hse : s0 ≤ e0 ∧ e0 ≤ mid ∧ e0 ≤ m ∧ a ≤ s0 ∧ N ≤ b + s0 ∧ (s0 = a ∨ s0 + b = N) ∧ (e0 = m ∨ e0 = mid) := by
    split at hs0 <;> rename_i hh
    · rw [if_pos hh] at he0; omega
    · rw [if_neg hh] at he0; omega
  obtain ⟨b1, b2, b3, b4, b5, b6, b7⟩ := hse
  /- what is behind the search -/
  have after : ∀ (s : Nat) (σ : List AV) (M : Heap), s0 ≤ s → s ≤ e0 → LowOk R (P ++ Ll ++ Rr ++ Q) p s0 s → HighOk R (P ++ Ll ++ Rr ++ Q) p e0 s → M = W H0 r (P ++ Ll ++ Rr ++ Q) lo →
      kill [21, 22, 149, 150, 151] σ = L 220 ((((((((Tr.full 8).put (path 0) (sv r n)).put (path 1) (ai a)).put (path 2) (ai m)).put (path 3) (ai b)).put (path 4) (.fn f cs)).put (path 18) (ai mid)).put (path 19) (ai N) |>.put (path 20) (ai s)) →
      Ends (execW tbl X1 tl86 σ M) fun st => PostE H0 r n R P Q (Ll ++ Rr) st.e st.σ st.H := by
    intro s σ M c1 c2 hlow hhigh hM hσ
    subst hM
    obtain ⟨e, he⟩ : ∃ e, N - s = e := ⟨_, rfl⟩
    obtain ⟨L1, L2, rfl, hL1⟩ : ∃ L1 L2, Ll = L1 ++ L2 ∧ L1.length = s - a := ⟨Ll.take (s - a), Ll.drop (s - a), by simp, by simp; omega⟩
    obtain ⟨R1, R2, rfl, hR1⟩ : ∃ L1 L2, Rr = L1 ++ L2 ∧ L1.length = e - m := ⟨Rr.take (e - m), Rr.drop (e - m), by simp, by simp; omega⟩
    simp only [List.length_append] at hlen' hl1 hr1 hm hb hN0
    have hcross : ∀ x ∈ L1 ++ R1, ∀ y ∈ L2 ++ R2, lt R x y := by
      refine cross p1 p2 p3 ?_ ?_
      · rcases hlow with h | ⟨u, v, d1, d2, d3, d4⟩
        · rcases b6 with h6 | h6
          · exact .inl (List.eq_nil_of_length_eq_zero (by omega))
          · exact .inr (.inl (List.eq_nil_of_length_eq_zero (by omega)))
        · rcases List.eq_nil_or_concat L1 with rfl | ⟨A, v', rfl⟩
          · exact .inl rfl
          · cases R2 with
            | nil => exact .inr (.inl rfl)
            | cons u' B =>
              refine .inr (.inr ⟨u, v, ?_, ?_, d4⟩)
              · have : (P ++ (A.concat v' ++ L2) ++ (R1 ++ u' :: B) ++ Q)[p + 1 - s]? = some u' := by
                  rw [show P ++ (A.concat v' ++ L2) ++ (R1 ++ u' :: B) ++ Q = (P ++ (A.concat v' ++ L2) ++ R1) ++ u' :: (B ++ Q) by simp]
                  exact get_mid _ _ _ _ (by simp only [List.length_append]; omega)
                rw [this] at d2
                simpa using d2
              · have : (P ++ (A.concat v' ++ L2) ++ (R1 ++ u' :: B) ++ Q)[s - 1]? = some v' := by
                  rw [show P ++ (A.concat v' ++ L2) ++ (R1 ++ u' :: B) ++ Q = (P ++ A) ++ v' :: (L2 ++ (R1 ++ u' :: B) ++ Q) by simp]
                  exact get_mid _ _ _ _ (by simp only [List.length_append]; simp only [List.length_concat] at hL1; omega)
                rw [this] at d3
                simpa using d3
      · rcases hhigh with h | ⟨u, v, d1, d2, d3, d4⟩
        · rcases b7 with h7 | h7
          · exact .inl (List.eq_nil_of_length_eq_zero (by omega))
          · exact .inr (.inl (List.eq_nil_of_length_eq_zero (by omega)))
        · rcases List.eq_nil_or_concat R1 with rfl | ⟨A, u', rfl⟩
          · exact .inr (.inl rfl)
          · cases L2 with
            | nil => exact .inl rfl
            | cons v' B =>
              refine .inr (.inr ⟨u, v, ?_, ?_, d4⟩)
              · have : (P ++ (L1 ++ v' :: B) ++ (A.concat u' ++ R2) ++ Q)[p - s]? = some u' := by
                  rw [show P ++ (L1 ++ v' :: B) ++ (A.concat u' ++ R2) ++ Q = (P ++ (L1 ++ v' :: B) ++ A) ++ u' :: (R2 ++ Q) by simp]
                  exact get_mid _ _ _ _ (by simp only [List.length_append, List.length_cons] at *; simp only [List.length_concat] at hR1; omega)
                rw [this] at d2
                simpa using d2
              · have : (P ++ (L1 ++ v' :: B) ++ (A.concat u' ++ R2) ++ Q)[s]? = some v' := by
                  rw [show P ++ (L1 ++ v' :: B) ++ (A.concat u' ++ R2) ++ Q = (P ++ L1) ++ v' :: (B ++ (A.concat u' ++ R2) ++ Q) by simp]
                  exact get_mid _ _ _ _ (by simp only [List.length_append]; omega)
                rw [this] at d3
                simpa using d3
    have w1 : IntKind.i64.wrap ((N : Int) - s) = e := by rw [wrap_i64 (by omega) (by omega)]; omega
    obtain ⟨pL1, pL2, pL3⟩ := List.pairwise_append.1 p1
    obtain ⟨pR1, pR2, pR3⟩ := List.pairwise_append.1 p2
    rw [tl86_eq, ← execW_head, show headK (SCode.seq tl86.sl (SCode.seq tl86.sr.sl (SCode.seq tl86.sr.sr.sl tl86.sr.sr.sr))) = [21, 22, 149, 150, 151] from rfl, hσ]
    have hD1 : P ++ (L1 ++ L2) ++ (R1 ++ R2) ++ Q = P ++ L1 ++ L2 ++ R1 ++ R2 ++ Q := by simp
    rw [hD1] at hx hlen ⊢
    have h7 : Ends (execW tbl X1 tl86.sl (L 220 ((((((((Tr.full 8).put (path 0) (sv r n)).put (path 1) (ai a)).put (path 2) (ai m)).put (path 3) (ai b)).put (path 4) (.fn f cs)).put (path 18) (ai mid)).put (path 19) (ai N) |>.put (path 20) (ai s))) (W H0 r (P ++ L1 ++ L2 ++ R1 ++ R2 ++ Q) lo)) fun st => st.e = .normal ∧ st.H = W H0 r (P ++ L1 ++ L2 ++ R1 ++ R2 ++ Q) lo ∧ kill (headK tl86.sr.sl) st.σ = L 220 (U1 r n f cs a m b mid s e) := by
      generalize P ++ L1 ++ L2 ++ R1 ++ R2 ++ Q = D
      simp -implicitDefEqProofs [tl86, code86, w1, U1]
    rw [execW_seq]
    refine h7.bind fun st => ?_
    obtain ⟨ex, σ1, M⟩ := st
    rintro ⟨d1, d2, d3⟩
    simp only at d1 d2 d3
    subst d1; subst d2
    simp only [andThen]
    rw [execW_seq]
    refine (rotPart hr hn hcs P L1 L2 R1 R2 Q a m b mid s e lo (by omega) (by omega) (by omega) hlen hlo σ1 d3).bind fun st => ?_
    obtain ⟨ex, σ2, M⟩ := st
    rintro ⟨d1, lo2, hlo2, d2, d3⟩
    simp only at d1 d2 d3
    subst d1; subst d2
    simp only [andThen]
    have hx2 : ∀ y ∈ P ++ L1 ++ R1 ++ (L2 ++ R2 ++ Q), y < n := fun y hy => hx y (by
      simp only [List.mem_append] at hy ⊢
      rcases hy with ((h | h) | h) | ((h | h) | h) <;> simp [h])
    rw [execW_seq, show P ++ L1 ++ R1 ++ L2 ++ R2 ++ Q = P ++ L1 ++ R1 ++ (L2 ++ R2 ++ Q) by simp]
    refine (m1Part hcs N0 ih P L1 R1 (L2 ++ R2 ++ Q) a b mid s e lo2 (by omega) ha (by omega) (by omega) (by simp only [List.length_append]; omega) hx2 pL1 pR1 (fun x hx y hy => p3 x (by simp [hx]) y (by simp [hy])) hlo2 σ2 d3).bind fun st => ?_
    obtain ⟨ex, σ3, M⟩ := st
    rintro ⟨d1, S1, lo3, hp1, hs1, hlo3, d2, d3⟩
    simp only at d1 d2 d3
    subst d1; subst d2
    simp only [andThen]
    have hS1 := hp1.length_eq
    simp only [List.length_append] at hS1
    have hx3 : ∀ y ∈ (P ++ S1) ++ L2 ++ R2 ++ Q, y < n := fun y hy => hx2 y (by
      have hm := hp1.mem_iff (a := y)
      simp only [List.mem_append] at hy hm ⊢
      rcases hy with (((h | h) | h) | h) | h
      · simp [h]
      · rcases hm.1 h with h | h <;> simp [h]
      · simp [h]
      · simp [h]
      · simp [h])
    rw [show P ++ S1 ++ (L2 ++ R2 ++ Q) = (P ++ S1) ++ L2 ++ R2 ++ Q by simp]
    refine (m2Part hcs N0 ih (P ++ S1) L2 R2 Q mid e b lo3 (by omega) (by simp only [List.length_append]; omega) (by omega) (by omega) (by simp only [List.length_append]; omega) hx3 pL2 pR2 (fun x hx y hy => p3 x (by simp [hx]) y (by simp [hy])) hlo3 σ3 d3).mono fun st => ?_
    rintro ⟨d1, S2, lo4, hp2, hs2, hlo4, d2⟩
    refine ⟨d1, S1 ++ S2, lo4, ?_, ?_, hlo4, by rw [d2]; simp⟩
    · refine (List.Perm.append hp1 hp2).trans ?_
      simp only [List.append_assoc]
      refine List.Perm.append_left L1 ?_
      rw [← List.append_assoc, ← List.append_assoc]
      exact List.Perm.append_right R2 List.perm_append_comm
    · rw [List.pairwise_append]
      exact ⟨hs1, hs2, fun x hx y hy => hcross x (hp1.mem_iff.1 hx) y (hp2.mem_iff.1 hy)⟩
  refine call_rule (X1_none (by decide) _ _) rfl ?_
  rw [fun86, slots0_L 8 220 _ (by simp)]
  have hcut := cut_loop hr hn hcs hc (P ++ Ll ++ Rr ++ Q) hlen hx lo hlo a m b mid N p s0 e0 (by omega) (by omega) (by omega) (by omega) (e0 - s0)
  have htl : code86.sr.sr.sr.sr.sr.sr.sr.sr = tl86 := rfl
  have hcode : code86 = .seq code86.sl (.seq code86.sr.sl (.seq code86.sr.sr.sl (.seq code86.sr.sr.sr.sl (.seq code86.sr.sr.sr.sr.sl (.seq code86.sr.sr.sr.sr.sr.sl (.seq code86.sr.sr.sr.sr.sr.sr.sl (.seq code86.sr.sr.sr.sr.sr.sr.sr.sl tl86))))))) := rfl
  rw [hcode]
  obtain ⟨v1, v2, v3, v4, v5, v6⟩ := mid_of (i := a) (j := b) (by omega) (by omega) hmid
  have u1 : IntKind.i64.wrap ((m : Int) - a) = ((m - a : Nat) : Int) := by rw [wrap_i64 (by omega) (by omega)]; omega
  have u2 : IntKind.i64.wrap ((b : Int) - m) = ((b - m : Nat) : Int) := by rw [wrap_i64 (by omega) (by omega)]; omega
  have u3 : IntKind.i64.wrap ((mid : Int) + m) = (N : Int) := by rw [wrap_i64 (by omega) (by omega)]; omega
  have u4 : IntKind.i64.wrap ((N : Int) - b) = ((N - b : Nat) : Int) ∨ ¬ mid < m := by
    by_cases h : mid < m
    · left; rw [wrap_i64 (by omega) (by omega)]; omega
    · exact .inr h
  have u5 : IntKind.i64.wrap ((N : Int) - 1) = (p : Int) := by rw [wrap_i64 (by omega) (by omega)]; omega
  have n1 : ¬ ((m - a : Nat) : Int) = 1 := by omega
  have n2 : ¬ ((b - m : Nat) : Int) = 1 := by omega
  generalize hma : m - a = ma at *
  generalize hbm : b - m = bm at *
  generalize hab : a + b = sab at *
  clear htl hcode
  generalize hD : P ++ Ll ++ Rr ++ Q = D at *
  generalize tl86 = TL at *
  have fin : ∀ σ M, Post4 H0 r n R f cs D lo a m b mid N p s0 e0 (AExit.exit 8) σ M → Ends (execW tbl X1 TL σ M) fun st => st.e.ends = true ∧ Ends (resultsA ([] : List SRes) st.σ) fun v => v.free = true ∧ ∃ S lo', S.Perm (Ll ++ Rr) ∧ S.Pairwise (lt R) ∧ lo' ≤ n ∧ (v, st.H) = (.tup [], W H0 r (P ++ S ++ Q) lo') := by
    rintro σ M ⟨_, s, g1, g2, g3, g4, g5, g6⟩
    refine (after s σ M g1 g2 g3 g4 g5 g6).mono ?_
    rintro ⟨e, σ', M'⟩ ⟨k1, S, lo', k2, k3, k4, k5⟩
    simp only at k1 k5
    subst k1; subst k5
    exact ⟨rfl, Ends.some.2 ⟨rfl, S, lo', k2, k3, k4, rfl⟩⟩
  by_cases hmm : mid < m
  · have hmm' : (mid : Int) < m := by omega
    rw [if_pos hmm] at hs0 he0
    have u4' : IntKind.i64.wrap ((N : Int) - b) = (s0 : Int) := by
      rcases u4 with h | h
      · rw [h, hs0]
      · exact absurd hmm h
    subst he0
    simp -implicitDefEqProofs [code86, u1, u2, u3, u4', u5, v1, v2, v3, v4, v5, n1, n2, hmm']
    refine Ends.bind (Q := fun s : St => Post4 H0 r n R f cs D lo a m b mid N p s0 mid (AExit.exit 8) s.σ s.H ∧ s.e = .normal) (Ends.map (hcut _ _ ⟨s0, mid, rfl, Nat.le_refl _, b1, Nat.le_refl _, .inl rfl, .inl rfl, rfl, by simp [lp86_4, T86c]⟩) ?_) ?_
    · rintro ⟨e, σ, G⟩ ⟨q1, q2⟩
      simp only at q1
      subst q1
      exact ⟨⟨rfl, q2⟩, by simp [unblock]⟩
    · rintro ⟨e, σ, G⟩ ⟨q2, q1⟩
      simp only at q1 q2
      subst q1
      simp only [andThen]
      simpa using fin σ G q2
  · have hmm' : ¬ (mid : Int) < m := by omega
    rw [if_neg hmm] at hs0 he0
    subst hs0; subst he0
    simp -implicitDefEqProofs [code86, u1, u2, u3, u5, v1, v2, v3, v4, v5, n1, n2, hmm']
    refine Ends.bind (Q := fun s : St => Post4 H0 r n R f cs D lo a m b mid N p a m (AExit.exit 8) s.σ s.H ∧ s.e = .normal) (Ends.map (hcut _ _ ⟨a, m, rfl, Nat.le_refl _, b1, Nat.le_refl _, .inl rfl, .inl rfl, rfl, by simp [lp86_4, T86c]⟩) ?_) ?_
    · rintro ⟨e, σ, G⟩ ⟨q1, q2⟩
      simp only at q1
      subst q1
      exact ⟨⟨rfl, q2⟩, by simp [unblock]⟩
    · rintro ⟨e, σ, G⟩ ⟨q2, q1⟩
      simp only at q1 q2
      subst q1
      simp only [andThen]
      simpa using fin σ G q2

theorem merge86 (hr : r < H0.length) (hn : n ≤ 1000000) (hcs : AV.freeAll cs = true) (hc : Cmp H0 r n R f cs) : ∀ N, MergeOk H0 r n R f cs N
  | 0 => fun P Ll Rr Q a m b lo hN h1 h2 => by omega
  | N + 1 => fun P Ll Rr Q a m b lo hN h1 h2 ha hm hb hlen hx p1 p2 p3 hlo => by
    by_cases hL : Ll.length = 1
    · match Ll, hL with
      | [x], _ => exact case1 hr hn hcs hc P Rr Q x a m b lo ha hm hb hlen hx p2 (p3 x (by simp)) hlo
    · by_cases hR : Rr.length = 1
      · match Rr, hR with
        | [y], _ => exact case2 hr hn hcs hc P Ll Q y a m b lo hL ha hm hb hlen hx p1 (fun x hx => p3 x hx y (by simp)) hlo
      · exact case3 hr hn hcs hc N (merge86 hr hn hcs hc N) P Ll Rr Q a m b lo hN (by omega) (by omega) ha hm hb hlen hx p1 p2 p3 hlo
end
end Go.A.Seat
