/- slices.IndexFunc, slices.ContainsFunc, of whatever elements. -/
import Derived.Test.YtgjjmhmaomcnaaaA27
namespace Go.A
open Go
set_option linter.unusedSimpArgs false

def idxLp (k : Nat) (ld : Option Nat) : SCode :=
  .seq (.region [6, 18] [⟨(some 9), .bin .lss .no (.t 8) (.t 7), none⟩])
  (.seq (.cond (.t 9)
    (.skip)
    (.exit 0))
  (.seq (.block 1 (.seq (.region [9] [⟨(some 10), .mov (.t 8), none⟩,
      ⟨(some 5), .mov (.t 10), none⟩])
    (.seq (.region [10] [⟨(some 11), .mov (.t 1), none⟩,
      ⟨(some 12), .mov (.t 0), none⟩,
      ⟨(some 13), .mov (.t 5), none⟩,
      ⟨(some 14), .iaddr k none (.t 12) (.t 13), none⟩,
      ⟨(some 15), .load ld (.t 14), none⟩,
      ⟨(some 16), .callv (.t 11) [(.t 15)], none⟩])
    (.cond (.t 16)
      (.seq (.region [0, 1, 7, 8, 11, 12, 13, 14, 15, 16] [⟨(some 17), .mov (.t 5), none⟩,
        ⟨(some 4), .mov (.t 17), none⟩])
      (.ret))
      (.skip)))))
  (.region [5, 11, 12, 13, 14, 15, 16] [⟨(some 18), .bin .add .no (.t 8) (.k (.c (.int .i64 1))), none⟩,
    ⟨(some 8), .mov (.t 18), none⟩])))
def idxCode (k : Nat) (ld : Option Nat) : SCode :=
  .seq (.region [] [⟨(some 4), .mov (.k (.c (.int .i64 0))), none⟩])
  (.seq (.seq (.region [4] [⟨(some 6), .mov (.t 0), none⟩,
    ⟨(some 7), .len .sl (.t 6), none⟩,
    ⟨(some 8), .mov (.k (.c (.int .i64 0))), none⟩])
  (.block 0 (.loop (idxLp k ld))))
  (.seq (.region [0, 1, 7, 8, 9] [⟨(some 4), .mov (.k (.c (.int .i64 (-1)))), none⟩])
  (.ret)))
def idxFun (k : Nat) (ld : Option Nat) : SFun := ⟨idxCode k ld, 19, [.tmp 4]⟩
def cntFun (f : FuncId) : SFun := ⟨.seq (.region [] [⟨(some 4), .mov (.k (.c (.bool false))), none⟩])
  (.seq (.region [4] [⟨(some 5), .mov (.t 0), none⟩,
    ⟨(some 6), .mov (.t 1), none⟩,
    ⟨(some 7), .call f [(.t 5), (.t 6)], none⟩,
    ⟨(some 8), .bin .geq .no (.t 7) (.k (.c (.int .i64 0))), none⟩,
    ⟨(some 4), .mov (.t 8), none⟩])
  (.ret)), 9, [.tmp 4]⟩

/-- A slice's elements are plain: no box, no box's address. -/
def Plains (ld : Option Nat) (l : List (List AV)) : Prop := ∀ cs ∈ l, (elemV ld cs).free = true ∧ (elemV ld cs).isBox = false

section
variable {T : FuncId → Option SFun} {X : Oracle} {k : Nat} {ld : Option Nat}

theorem idx_loop (hl : ld = some k ∨ (ld = none ∧ k = 1)) {H : Heap} {va : AV} {la : List (List AV)} (ha : Sl H k va la) (hpl : Plains ld la) (hm : la.length ≤ 1000000000) {f : FuncId} {cs : List AV} {p : List AV → Bool}
    (hf : ∀ N, ∀ a ∈ la, ∃ N', callW T X f (elemV ld a :: cs) (H ++ N) = some (ab (p a), H ++ N')) :
    ∀ (n : Nat) (σ : List AV) (H1 : Heap), (n ≤ la.length ∧ (∀ (j : Nat) a, j < la.length - n → la[j]? = some a → p a = false) ∧ (∃ N, H1 = H ++ N) ∧ kill (headK (idxLp k ld)) σ = L 19 ((((((Tr.full 5).put (path 0) va).put (path 1) (.fn f cs)).put (path 7) (ai la.length)).put (path 8) (ai ((la.length : Int) - n))))) →
      Ends (execW T X (.loop (idxLp k ld)) σ H1) fun s => (∃ N, s.H = H ++ N) ∧ IsL 19 s.σ ∧ ((s.e = .exit 0 ∧ la.any p = false) ∨ (s.e = .ret ∧ la.any p = true ∧ resultsA [.tmp 4] s.σ = some (ai (la.findIdx p)))) := by
  intro n σ H1 hI
  have := loop_rule (T := T) (X := X) (b := idxLp k ld) (fun n σ H1 => n ≤ la.length ∧ (∀ (j : Nat) a, j < la.length - n → la[j]? = some a → p a = false) ∧ (∃ N, H1 = H ++ N) ∧ σ = L 19 ((((((Tr.full 5).put (path 0) va).put (path 1) (.fn f cs)).put (path 7) (ai la.length)).put (path 8) (ai ((la.length : Int) - n)))))
    (fun e σ H1 => (∃ N, H1 = H ++ N) ∧ IsL 19 σ ∧ ((e = .exit 0 ∧ la.any p = false) ∨ (e = .ret ∧ la.any p = true ∧ resultsA [.tmp 4] σ = some (ai (la.findIdx p))))) ?_ n σ H1 hI
  · exact this.mono fun s hs => hs.2
  · clear hI σ n H1
    rintro n σ M ⟨hn, hj, ⟨N, hM⟩, rfl⟩
    by_cases hz : n = 0
    · subst hz
      simp -implicitDefEqProofs [idxLp, ha.ev]
      refine ⟨⟨N, hM⟩, ?_⟩
      intro a hm2
      obtain ⟨j, hj2⟩ := List.getElem?_of_mem hm2
      exact hj j a (by have := (List.getElem?_eq_some_iff.1 hj2).1; omega) hj2
    · obtain ⟨a, hx⟩ : ∃ x, la[la.length - n]? = some x := ⟨_, List.getElem?_eq_getElem (by omega)⟩
      have ha1 : Sl M k va la := hM ▸ ha.grow
      obtain ⟨r, o, g, p1, p2⟩ := ha1.at (cs := a) (i := la.length - n) hx
      have q1 := p1 ((la.length : Int) - n) (by omega)
      have q2 := load_elem p2 ld hl
      have ham := List.mem_of_getElem? hx
      obtain ⟨e1, e2⟩ := hpl a ham
      have e3 := ev1_nb e2
      obtain ⟨N', hc⟩ := hf N a ham
      rw [← hM] at hc
      cases hp : p a with
      | true =>
        rw [hp] at hc
        have hfi : la.findIdx p = la.length - n := by
          rw [List.findIdx_eq (by omega)]
          have h1 := (List.getElem?_eq_some_iff.1 hx).2
          refine ⟨by rw [h1, hp], fun j hj2 => ?_⟩
          exact hj j _ hj2 (List.getElem?_eq_getElem (by omega))
        have hfi' : ((la.findIdx p : Nat) : Int) = (la.length : Int) - n := by omega
        simp -implicitDefEqProofs [idxLp, ha.ev, ha.nb, q1, q2, e1, e2, e3, show (la.length : Int) - n < la.length by omega, hc]
        exact ⟨⟨a, ham, hp⟩, hfi'.symm⟩
      | false =>
        rw [hp] at hc
        have hw : IntKind.i64.wrap ((la.length : Int) - n + 1) = (la.length : Int) - (n - 1 : Nat) := by rw [wrap_i64 (by omega) (by omega)]; omega
        simp -implicitDefEqProofs [idxLp, ha.ev, ha.nb, q1, q2, e1, e2, e3, show (la.length : Int) - n < la.length by omega, hc, hw]
        refine ⟨n - 1, by omega, by omega, ?_, rfl⟩
        intro j b h hb
        by_cases hjn : j = la.length - n
        · subst hjn; rw [hx] at hb; obtain rfl := Option.some.inj hb; exact hp
        · exact hj j b (by omega) hb

theorem idx_call {f0 : FuncId} (hT : T f0 = some (idxFun k ld)) (hX : ∀ args H, X f0 args H = none) (hl : ld = some k ∨ (ld = none ∧ k = 1)) {H : Heap} {va : AV} {la : List (List AV)} (ha : Sl H k va la) (hpl : Plains ld la) (hm : la.length ≤ 1000000000) {f : FuncId} {cs : List AV} {p : List AV → Bool}
    (hf : ∀ N, ∀ a ∈ la, ∃ N', callW T X f (elemV ld a :: cs) (H ++ N) = some (ab (p a), H ++ N')) :
    ∃ N, callW T X f0 [va, .fn f cs] H = some (ai (if la.any p = true then (la.findIdx p : Int) else -1), H ++ N) := by
  have e1 : lenS va = some la.length := ha.len
  suffices h : Ends (callW T X f0 [va, .fn f cs] H) fun y => y.1 = ai (if la.any p = true then (la.findIdx p : Int) else -1) ∧ ∃ N, y.2 = H ++ N by
    obtain ⟨⟨v, G⟩, h1, h2, N, h3⟩ := h
    simp only at h2 h3; subst h2; subst h3
    exact ⟨N, h1⟩
  refine call_rule (hX _ _) hT ?_
  rw [idxFun, slots0_L 5 19 _ (by simp)]
  simp -implicitDefEqProofs [idxCode, ha.ev, e1]
  refine ((idx_loop hl ha hpl hm hf la.length _ H ⟨Nat.le_refl _, by intro j a hj; omega, ⟨[], by simp⟩, ?_⟩).map (R := fun s => (∃ N, s.H = H ++ N) ∧ IsL 19 s.σ ∧ ((s.e = .normal ∧ la.any p = false) ∨ (s.e = .ret ∧ la.any p = true ∧ resultsA [.tmp 4] s.σ = some (ai (la.findIdx p))))) ?_).bind ?_
  · simp -implicitDefEqProofs [idxLp]
  · rintro ⟨e, σ, G⟩ ⟨h1, ht, h2⟩
    rcases h2 with ⟨h2, h3⟩ | ⟨h2, h3, h5⟩ <;> simp only at h1 h2 ht <;> subst h2
    · exact ⟨h1, ht, .inl ⟨by simp [unblock], h3⟩⟩
    · exact ⟨h1, ht, .inr ⟨by simp [unblock], h3, by simpa using h5⟩⟩
  · rintro ⟨e, σ, G⟩ ⟨⟨N, h1⟩, ⟨t, ht⟩, h2⟩
    rcases h2 with ⟨h2, h3⟩ | ⟨h2, h3, h5⟩ <;> simp only at h1 h2 ht <;> subst h1 <;> subst h2 <;> subst ht
    · simp -implicitDefEqProofs [h3]
      intro x hx
      have := List.any_eq_false.1 h3 x hx
      simpa using this
    · simp at h5
      simp -implicitDefEqProofs [h5, h3]
      exact List.any_eq_true.1 h3

theorem cnt_call {f0 f1 : FuncId} (hT1 : T f1 = some (cntFun f0)) (hX1 : ∀ args H, X f1 args H = none) (hT : T f0 = some (idxFun k ld)) (hX : ∀ args H, X f0 args H = none) (hl : ld = some k ∨ (ld = none ∧ k = 1)) {H : Heap} {va : AV} {la : List (List AV)} (ha : Sl H k va la) (hpl : Plains ld la) (hm : la.length ≤ 1000000000) {f : FuncId} {cs : List AV} (hcs : AV.freeAll cs = true) {p : List AV → Bool}
    (hf : ∀ N, ∀ a ∈ la, ∃ N', callW T X f (elemV ld a :: cs) (H ++ N) = some (ab (p a), H ++ N')) :
    ∃ N, callW T X f1 [va, .fn f cs] H = some (ab (la.any p), H ++ N) := by
  obtain ⟨N, h1⟩ := idx_call hT hX hl ha hpl hm hf
  refine ⟨N, ?_⟩
  rw [callW_eq, hX1]
  simp only [hT1, Option.bind_some, cntFun]
  rw [slots0_L 4 9 _ (by simp)]
  cases h : la.any p with
  | true =>
    rw [if_pos h] at h1
    have h0 : (0 : Int) ≤ (la.findIdx p : Nat) := by omega
    simp -implicitDefEqProofs [ha.ev, ha.free, hcs, h1, h0]
  | false =>
    rw [if_neg (by simp [h])] at h1
    simp -implicitDefEqProofs [ha.ev, ha.free, hcs, h1]
end
end Go.A
