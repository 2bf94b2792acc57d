import Derived.Test.YtekoolanpphbfaaNC
import Derived.Test.YtekoolanpphbfaaA29
set_option linter.unusedSimpArgs false
set_option linter.unusedVariables false
set_option linter.unnecessarySimpa false
namespace Go.A.Seat
open Go.A
set_option linter.unusedSimpArgs false
set_option linter.unusedVariables false

def T14 (va vo : AV) (r n : Nat) (t : Int) : Tr := ((((Tr.full 8).put (path 0) (ai t)).put (path 1) va).put (path 9) (.sl r 0 n n 1 n true)).put (path 10) vo

def InvF (A N : Heap) (va vo : AV) (n : Nat) (os : List Int) (i k : Nat) (c total : Int) (g : Nat) (d : Nat) (z : Nat) (σ : List AV) (M : Heap) : Prop :=
  ∃ j : Nat, ∃ t v : Int, g - j = z ∧ j ≤ g ∧ t = total - j ∧ v = c + j ∧ M = MO A N (os.set i v) ∧ σ = L 156 ((T14 va vo A.length n t).put (path d) (ai k))
def PostF (A N : Heap) (va vo : AV) (n : Nat) (os : List Int) (i k : Nat) (c total : Int) (g : Nat) (d : Nat) (x : Nat) (ks : List Nat) (e : AExit) (σ : List AV) (M : Heap) : Prop :=
  e = .exit x ∧ ∃ t : Int, t = total - g ∧ M = MO A N (os.set i (c + g)) ∧ kill ks σ = L 156 ((T14 va vo A.length n t).put (path d) (ai k))

section
variable {A N : Heap} {la : List Ask} {va vo : AV}

theorem fill_rate (ha : Sl A 4 va (asks la)) (hm : la.length ≤ 1000000) (S : List Nat) (hvb : vo.isBox = false)
    (hv : ∀ os : List Int, Sl (MO A N os) 1 vo (ints (S.map fun (x : Nat) => (x : Int)))) (os : List Int) (hos : os.length = la.length) (i k : Nat) (hk : S[k]? = some i) (hil : i < la.length) (c total : Int) (g : Nat)
    (hg : (g : Int) = mn (mn (wantOf la i - c) (rateOf la i - c)) total) (hb : total ≤ 4096) (hc : 0 ≤ c ∧ c ≤ 20000) :
    ∀ (z : Nat) (σ : List AV) (M : Heap), InvF A N va vo la.length os i k c total g 11 z (kill (headK lp14_3) σ) M → Ends (execW tbl X1 (.loop lp14_3) σ M) fun s => PostF A N va vo la.length os i k c total g 11 8 [69, 70, 71, 72, 73, 74, 75, 76, 77, 78, 79, 80, 81, 82, 83, 84, 85, 86, 87, 88, 89, 90, 91, 92, 93, 94, 95, 96, 97, 98, 99, 100, 101, 102, 103, 104, 105, 106] s.e s.σ s.H := by
  intro z σ M hI
  have := loop_rule (T := tbl) (X := X1) (b := lp14_3) (InvF A N va vo la.length os i k c total g 11) (PostF A N va vo la.length os i k c total g 11 8 [69, 70, 71, 72, 73, 74, 75, 76, 77, 78, 79, 80, 81, 82, 83, 84, 85, 86, 87, 88, 89, 90, 91, 92, 93, 94, 95, 96, 97, 98, 99, 100, 101, 102, 103, 104, 105, 106]) ?_ z σ M hI
  · exact this.mono fun s hs => hs.2
  · clear hI σ z M
    rintro z σ M ⟨j, t, v, rfl, hj, ht, hvv, rfl, rfl⟩
    have hev := ev1_nb hvb
    obtain ⟨a, hx⟩ : ∃ a, la[i]? = some a := ⟨_, List.getElem?_eq_getElem hil⟩
    have hwa : wantOf la i = a.want := by simp [wantOf, hx]
    have hra : rateOf la i = a.rate := by simp [rateOf, hx]
    rw [hwa, hra] at hg
    have hos' : (os.set i v).length = la.length := by simpa using hos
    obtain ⟨r', o', gg, p1, p2⟩ := (hv (os.set i v)).at (cs := [ai (i : Nat)]) (i := k) (by simp [ints, hk])
    have q1 := p1 k rfl
    have ham : Sl (MO A N (os.set i v)) 4 va (asks la) := by
      have : MO A N (os.set i v) = A ++ ([AObj.row ((os.set i v).map ai)] ++ N) := by simp [MO]
      rw [this]; exact ha.grow
    obtain ⟨r2', o2', g2', p3, p4⟩ := ham.at (cs := a.cells) (i := i) (by simp [asks, hx])
    have q3 := p3 i rfl
    have f3 := rdRow_field p4 (j := 3) (v := ai a.want) rfl
    have f2 := rdRow_field p4 (j := 2) (v := ai a.rate) rfl
    have l1 := rd_MO (A := A) (N := N) hos' hil
    have hgd : (os.set i v).getD i 0 = v := by
      rw [List.getD_eq_getElem?_getD, List.getElem?_set_self (by omega)]
      rfl
    rw [hgd] at l1
    have b1 : (i : Int) < la.length := by omega
    have s1 := fun σ => st_MO (A := A) (N := N) hos' hil (v + 1) σ
    rw [List.set_set] at s1
    have w1 : IntKind.i64.wrap (v + 1) = v + 1 := by
      have : (g : Int) ≤ 4096 := by rw [hg]; simp only [mn]; split <;> split <;> omega
      exact wrap_i64 (by omega) (by omega)
    have w2 : IntKind.i64.wrap (t - 1) = t - 1 := by
      have : (g : Int) ≤ 4096 := by rw [hg]; simp only [mn]; split <;> split <;> omega
      have : (g : Int) ≤ total := by rw [hg]; simp only [mn]; split <;> split <;> omega
      exact wrap_i64 (by omega) (by omega)
    generalize hM : MO A N (os.set i v) = M at *
    by_cases hjg : j = g
    · have hfin : PostF A N va vo la.length os i k c total g 11 8 [69, 70, 71, 72, 73, 74, 75, 76, 77, 78, 79, 80, 81, 82, 83, 84, 85, 86, 87, 88, 89, 90, 91, 92, 93, 94, 95, 96, 97, 98, 99, 100, 101, 102, 103, 104, 105, 106] (.exit 8) (L 156 ((T14 va vo A.length la.length t).put (path 11) (ai k))) M := by
        refine ⟨rfl, t, by omega, by rw [← hM, show v = c + g by omega], by simp [T14]⟩
      obtain ⟨_, t0, k1, k2, k3⟩ := hfin
      subst k1
      by_cases h1 : t > 0
      · have h1' : 0 < t := h1
        by_cases h2 : v < a.want
        · have h3 : ¬ v < a.rate := by
            simp only [mn] at hg
            split at hg <;> split at hg <;> omega
          simp -implicitDefEqProofs [lp14_3, T14, ha.ev, ha.nb, hev, hvb, h1, h1', h2, h3, q1, p2, q3, f3, f2, l1, b1]
          exact ⟨rfl, t, ht ▸ by omega, k2, by simp [T14]⟩
        · simp -implicitDefEqProofs [lp14_3, T14, ha.ev, ha.nb, hev, hvb, h1, h1', h2, q1, p2, q3, f3, f2, l1, b1]
          exact ⟨rfl, t, ht ▸ by omega, k2, by simp [T14]⟩
      · have h1' : ¬ 0 < t := h1
        simp -implicitDefEqProofs [lp14_3, T14, ha.ev, ha.nb, hev, hvb, h1, h1']
        exact ⟨rfl, t, ht ▸ by omega, k2, by simp [T14]⟩
    · have hlt : j < g := by omega
      have h123 : 0 < t ∧ v < a.want ∧ v < a.rate := by
        simp only [mn] at hg
        split at hg <;> split at hg <;> omega
      obtain ⟨h1, h2, h3⟩ := h123
      have h1' : t > 0 := h1
      simp -implicitDefEqProofs [lp14_3, T14, ha.ev, ha.nb, hev, hvb, h1, h1', h2, h3, q1, p2, q3, f3, f2, l1, b1, w1, w2, s1]
      exact ⟨g - (j + 1), by omega, j + 1, t - 1, v + 1, rfl, by omega, by omega, by omega, rfl, by simp [T14]⟩

theorem fill_want (ha : Sl A 4 va (asks la)) (hm : la.length ≤ 1000000) (S : List Nat) (hvb : vo.isBox = false)
    (hv : ∀ os : List Int, Sl (MO A N os) 1 vo (ints (S.map fun (x : Nat) => (x : Int)))) (os : List Int) (hos : os.length = la.length) (i k : Nat) (hk : S[k]? = some i) (hil : i < la.length) (c total : Int) (g : Nat)
    (hg : (g : Int) = mn (wantOf la i - c) total) (hb : total ≤ 4096) (hc : 0 ≤ c ∧ c ≤ 20000) :
    ∀ (z : Nat) (σ : List AV) (M : Heap), InvF A N va vo la.length os i k c total g 12 z (kill (headK lp14_5) σ) M → Ends (execW tbl X1 (.loop lp14_5) σ M) fun s => PostF A N va vo la.length os i k c total g 12 12 [124, 125, 126, 127, 128, 129, 130, 131, 132, 133, 134, 135, 136, 137, 138, 139, 140, 141, 142, 143] s.e s.σ s.H := by
  intro z σ M hI
  have := loop_rule (T := tbl) (X := X1) (b := lp14_5) (InvF A N va vo la.length os i k c total g 12) (PostF A N va vo la.length os i k c total g 12 12 [124, 125, 126, 127, 128, 129, 130, 131, 132, 133, 134, 135, 136, 137, 138, 139, 140, 141, 142, 143]) ?_ z σ M hI
  · exact this.mono fun s hs => hs.2
  · clear hI σ z M
    rintro z σ M ⟨j, t, v, rfl, hj, ht, hvv, rfl, rfl⟩
    have hev := ev1_nb hvb
    obtain ⟨a, hx⟩ : ∃ a, la[i]? = some a := ⟨_, List.getElem?_eq_getElem hil⟩
    have hwa : wantOf la i = a.want := by simp [wantOf, hx]
    rw [hwa] at hg
    have hos' : (os.set i v).length = la.length := by simpa using hos
    obtain ⟨r', o', gg, p1, p2⟩ := (hv (os.set i v)).at (cs := [ai (i : Nat)]) (i := k) (by simp [ints, hk])
    have q1 := p1 k rfl
    have ham : Sl (MO A N (os.set i v)) 4 va (asks la) := by
      have : MO A N (os.set i v) = A ++ ([AObj.row ((os.set i v).map ai)] ++ N) := by simp [MO]
      rw [this]; exact ha.grow
    obtain ⟨r2', o2', g2', p3, p4⟩ := ham.at (cs := a.cells) (i := i) (by simp [asks, hx])
    have q3 := p3 i rfl
    have f3 := rdRow_field p4 (j := 3) (v := ai a.want) rfl
    have l1 := rd_MO (A := A) (N := N) hos' hil
    have hgd : (os.set i v).getD i 0 = v := by
      rw [List.getD_eq_getElem?_getD, List.getElem?_set_self (by omega)]
      rfl
    rw [hgd] at l1
    have b1 : (i : Int) < la.length := by omega
    have s1 := fun σ => st_MO (A := A) (N := N) hos' hil (v + 1) σ
    rw [List.set_set] at s1
    have w1 : IntKind.i64.wrap (v + 1) = v + 1 := by
      have : (g : Int) ≤ 4096 := by rw [hg]; simp only [mn]; split <;> omega
      exact wrap_i64 (by omega) (by omega)
    have w2 : IntKind.i64.wrap (t - 1) = t - 1 := by
      have : (g : Int) ≤ 4096 := by rw [hg]; simp only [mn]; split <;> omega
      have : (g : Int) ≤ total := by rw [hg]; simp only [mn]; split <;> omega
      exact wrap_i64 (by omega) (by omega)
    generalize hM : MO A N (os.set i v) = M at *
    by_cases hjg : j = g
    · have k2 : M = MO A N (os.set i (c + g)) := by rw [← hM, show v = c + g by omega]
      by_cases h1 : t > 0
      · have h1' : 0 < t := h1
        have h2 : ¬ v < a.want := by
          simp only [mn] at hg
          split at hg <;> omega
        simp -implicitDefEqProofs [lp14_5, T14, ha.ev, ha.nb, hev, hvb, h1, h1', h2, q1, p2, q3, f3, l1, b1]
        exact ⟨rfl, t, by omega, k2, by simp [T14]⟩
      · have h1' : ¬ 0 < t := h1
        simp -implicitDefEqProofs [lp14_5, T14, ha.ev, ha.nb, hev, hvb, h1, h1']
        exact ⟨rfl, t, by omega, k2, by simp [T14]⟩
    · have hlt : j < g := by omega
      have h123 : 0 < t ∧ v < a.want := by
        simp only [mn] at hg
        split at hg <;> omega
      obtain ⟨h1, h2⟩ := h123
      have h1' : t > 0 := h1
      simp -implicitDefEqProofs [lp14_5, T14, ha.ev, ha.nb, hev, hvb, h1, h1', h2, q1, p2, q3, f3, l1, b1, w1, w2, s1]
      exact ⟨g - (j + 1), by omega, j + 1, t - 1, v + 1, rfl, by omega, by omega, by omega, rfl, by simp [T14]⟩
end
end Go.A.Seat

namespace Go.A.Seat
open Go.A
set_option linter.unusedSimpArgs false
set_option linter.unusedVariables false

theorem round_other (l : List Ask) (rd : Nat) : ∀ (S : List Nat) (s : Int × List Int) (i : Nat), i ∉ S → (roundS l rd S s).2.getD i 0 = s.2.getD i 0
  | [], s, i, _ => rfl
  | j :: S, s, i, h => by
    have hj : j ≠ i := fun e => h (by simp [e])
    have hS : i ∉ S := fun e => h (by simp [e])
    show (roundS l rd S (stepS l rd s j)).2.getD i 0 = _
    rw [round_other l rd S _ i hS]
    simp only [stepS]
    rw [List.getD_eq_getElem?_getD, List.getElem?_set_ne hj, ← List.getD_eq_getElem?_getD]

def InvG (A N : Heap) (la : List Ask) (va vo : AV) (rd : Nat) (S : List Nat) (s0 : Int × List Int) (d : Nat) (z : Nat) (σ : List AV) (M : Heap) : Prop :=
  ∃ k : Nat, ∃ t : Int, S.length - k = z ∧ k ≤ S.length ∧ t = (roundS la rd (S.take k) s0).1 ∧ M = MO A N (roundS la rd (S.take k) s0).2 ∧ σ = L 156 ((T14 va vo A.length la.length t).put (path d) (ai k))
def PostG (A N : Heap) (la : List Ask) (va vo : AV) (rd : Nat) (S : List Nat) (s0 : Int × List Int) (x : Nat) (ks : List Nat) (e : AExit) (σ : List AV) (M : Heap) : Prop :=
  e = .exit x ∧ ∃ t : Int, t = (roundS la rd S s0).1 ∧ M = MO A N (roundS la rd S s0).2 ∧ kill ks σ = L 156 (T14 va vo A.length la.length t)

def PostW (A N : Heap) (la : List Ask) (S : List Nat) (s0 : Int × List Int) (e : AExit) (σ : List AV) (M : Heap) : Prop :=
  e = .exit 10 ∧ M = MO A N (roundS la 1 S s0).2 ∧ kill [0, 1, 10, 12, 118, 119, 120, 121] σ = L 156 ((Tr.full 8).put (path 9) (.sl A.length 0 la.length la.length 1 la.length true))

section
variable {A N : Heap} {la : List Ask} {va vo : AV}

theorem rates_loop (ha : Sl A 4 va (asks la)) (hm : la.length ≤ 1000000) (hr : AllRight la) (S : List Nat) (hS : ∀ i ∈ S, i < la.length) (hnd : S.Nodup) (hSl : S.length ≤ 1000000) (hvb : vo.isBox = false)
    (hv : ∀ os : List Int, Sl (MO A N os) 1 vo (ints (S.map fun (x : Nat) => (x : Int)))) (s0 : Int × List Int) (hg : Good la s0) (hz : ∀ i, s0.2.getD i 0 = 0) :
    ∀ (z : Nat) (σ : List AV) (M : Heap), InvG A N la va vo 0 S s0 11 z (kill (headK lp14_4) σ) M → Ends (execW tbl X1 (.loop lp14_4) σ M) fun s => PostG A N la va vo 0 S s0 6 [11, 63, 64, 65, 66] s.e s.σ s.H := by
  intro z σ M hI
  have := loop_rule (T := tbl) (X := X1) (b := lp14_4) (InvG A N la va vo 0 S s0 11) (PostG A N la va vo 0 S s0 6 [11, 63, 64, 65, 66]) ?_ z σ M hI
  · exact this.mono fun s hs => hs.2
  · clear hI σ z M
    rintro z σ M ⟨k, t, rfl, hk, ht, rfl, rfl⟩
    have hev := ev1_nb hvb
    have hlen : lenS vo = some S.length := by rw [(hv []).len]; simp [ints]
    by_cases hkn : k = S.length
    · subst hkn
      simp -implicitDefEqProofs [lp14_4, T14, ha.ev, ha.nb, hev, hlen]
      exact ⟨rfl, t, by rw [ht, List.take_length], rfl, by simp [T14]⟩
    · have hkl : k < S.length := by omega
      obtain ⟨i, hi⟩ : ∃ i, S[k]? = some i := ⟨_, List.getElem?_eq_getElem hkl⟩
      have hil := hS i (List.mem_of_getElem? hi)
      have hgk : Good la (roundS la 0 (S.take k) s0) := hg.round hr _ fun j hj => hS j (List.mem_of_mem_take hj)
      have hnext : roundS la 0 (S.take (k + 1)) s0 = stepS la 0 (roundS la 0 (S.take k) s0) i := by
        rw [List.take_add_one, hi]
        simp [roundS, List.foldl_append]
      have hni : i ∉ S.take k := by
        intro hmem
        have h1 : S = S.take k ++ i :: S.drop (k + 1) := by
          have h2 := (List.getElem?_eq_some_iff.1 hi).2
          conv => lhs; rw [← List.take_append_drop k S]
          congr 1
          rw [← h2]
          exact List.drop_eq_getElem_cons hkl
        rw [h1] at hnd
        exact (List.nodup_append.1 hnd).2.2 i hmem i (by simp) rfl
      have hc0 : (roundS la 0 (S.take k) s0).2.getD i 0 = 0 := by rw [round_other la 0 _ _ i hni, hz]
      obtain ⟨g1, g2, g3⟩ := give_bounds hr (rd := 0) hgk hil
      have hhi := hgk.hi
      have hos := hgk.len
      have hgive : give la 0 (roundS la 0 (S.take k) s0) i = mn (mn (wantOf la i - (roundS la 0 (S.take k) s0).2.getD i 0) (rateOf la i)) (roundS la 0 (S.take k) s0).1 := rfl
      have hstep : stepS la 0 (roundS la 0 (S.take k) s0) i = ((roundS la 0 (S.take k) s0).1 - give la 0 (roundS la 0 (S.take k) s0) i, (roundS la 0 (S.take k) s0).2.set i ((roundS la 0 (S.take k) s0).2.getD i 0 + give la 0 (roundS la 0 (S.take k) s0) i)) := rfl
      generalize roundS la 0 (S.take k) s0 = sk at *
      obtain ⟨tk, os⟩ := sk
      simp only at *
      subst ht
      rw [hc0] at hgive hstep
      obtain ⟨g, hgn⟩ : ∃ g : Nat, give la 0 (t, os) i = g := ⟨(give la 0 (t, os) i).toNat, by omega⟩
      rw [hgn] at hgive hstep
      have hfill := fill_rate ha hm S hvb hv os hos i k hi hil 0 t g (by rw [hgive]; simp) hhi (by omega) g
      have hM0 : MO A N os = MO A N (os.set i (0 + ((0 : Nat) : Int))) := by
        congr 1
        apply List.ext_getElem?
        intro j
        by_cases hij : i = j
        · subst hij
          rw [List.getElem?_set_self (by omega)]
          rw [List.getD_eq_getElem?_getD] at hc0
          rw [List.getElem?_eq_getElem (by omega)] at hc0 ⊢
          simpa using hc0
        · rw [List.getElem?_set_ne hij]
      have b2 : (k : Int) < S.length := by omega
      have w4 : IntKind.i64.wrap ((k : Int) + 1) = ((k + 1 : Nat) : Int) := by rw [wrap_i64 (by omega) (by omega)]; omega
      simp -implicitDefEqProofs [lp14_4, T14, ha.ev, ha.nb, hev, hlen, b2]
      repeat rw [Option.bind_assoc]
      refine Ends.bind (Q := fun s : St => PostF A N va vo la.length os i k 0 t g 11 8 [69, 70, 71, 72, 73, 74, 75, 76, 77, 78, 79, 80, 81, 82, 83, 84, 85, 86, 87, 88, 89, 90, 91, 92, 93, 94, 95, 96, 97, 98, 99, 100, 101, 102, 103, 104, 105, 106] (AExit.exit 8) s.σ s.H ∧ s.e = .normal) (Ends.map (hfill _ _ ⟨0, t, 0, by omega, by omega, by omega, by omega, by rw [hM0]; simp, by simp [lp14_3, T14]⟩) ?_) ?_
      · rintro ⟨e, σ, G⟩ ⟨q1, q2⟩
        simp only at q1
        subst q1
        exact ⟨⟨rfl, q2⟩, by simp [unblock]⟩
      · rintro ⟨e, σ, M⟩ ⟨⟨_, t', d1, d2, d3⟩, q1⟩
        simp only at q1 d1 d2 d3
        subst q1; subst d2
        simp only [T14] at d3
        simp -implicitDefEqProofs [d3, w4, ha.ev, hev]
        refine ⟨S.length - (k + 1), by omega, k + 1, t', rfl, by omega, by rw [hnext, hstep, d1], by rw [hnext, hstep, Int.zero_add], by simp [T14]⟩

theorem wants_loop (ha : Sl A 4 va (asks la)) (hm : la.length ≤ 1000000) (hr : AllRight la) (S : List Nat) (hS : ∀ i ∈ S, i < la.length) (hSl : S.length ≤ 1000000) (hvb : vo.isBox = false)
    (hv : ∀ os : List Int, Sl (MO A N os) 1 vo (ints (S.map fun (x : Nat) => (x : Int)))) (s0 : Int × List Int) (hg : Good la s0) :
    ∀ (z : Nat) (σ : List AV) (M : Heap), InvG A N la va vo 1 S s0 12 z (kill (headK lp14_6) σ) M → Ends (execW tbl X1 (.loop lp14_6) σ M) fun s => PostW A N la S s0 s.e s.σ s.H := by
  intro z σ M hI
  have := loop_rule (T := tbl) (X := X1) (b := lp14_6) (InvG A N la va vo 1 S s0 12) (PostW A N la S s0) ?_ z σ M hI
  · exact this.mono fun s hs => hs.2
  · clear hI σ z M
    rintro z σ M ⟨k, t, rfl, hk, ht, rfl, rfl⟩
    have hev := ev1_nb hvb
    have hlen : lenS vo = some S.length := by rw [(hv []).len]; simp [ints]
    by_cases hkn : k = S.length
    · subst hkn
      simp -implicitDefEqProofs [lp14_6, T14, ha.ev, ha.nb, hev, hlen]
      exact ⟨rfl, rfl, by simp [ha.ev, hev]⟩
    · have hkl : k < S.length := by omega
      obtain ⟨i, hi⟩ : ∃ i, S[k]? = some i := ⟨_, List.getElem?_eq_getElem hkl⟩
      have hil := hS i (List.mem_of_getElem? hi)
      have hgk : Good la (roundS la 1 (S.take k) s0) := hg.round hr _ fun j hj => hS j (List.mem_of_mem_take hj)
      have hnext : roundS la 1 (S.take (k + 1)) s0 = stepS la 1 (roundS la 1 (S.take k) s0) i := by
        rw [List.take_add_one, hi]
        simp [roundS, List.foldl_append]
      obtain ⟨g1, g2, g3⟩ := give_bounds hr (rd := 1) hgk hil
      obtain ⟨o1, o2⟩ := hgk.at_ i hil
      obtain ⟨r1, r2, r3, r4⟩ := hr i hil
      have hhi := hgk.hi
      have hos := hgk.len
      have hgive : give la 1 (roundS la 1 (S.take k) s0) i = mn (wantOf la i - (roundS la 1 (S.take k) s0).2.getD i 0) (roundS la 1 (S.take k) s0).1 := rfl
      have hstep : stepS la 1 (roundS la 1 (S.take k) s0) i = ((roundS la 1 (S.take k) s0).1 - give la 1 (roundS la 1 (S.take k) s0) i, (roundS la 1 (S.take k) s0).2.set i ((roundS la 1 (S.take k) s0).2.getD i 0 + give la 1 (roundS la 1 (S.take k) s0) i)) := rfl
      generalize roundS la 1 (S.take k) s0 = sk at *
      obtain ⟨tk, os⟩ := sk
      simp only at *
      subst ht
      obtain ⟨c, hc⟩ : ∃ c, os.getD i 0 = c := ⟨_, rfl⟩
      rw [hc] at hgive hstep o1 o2
      obtain ⟨g, hgn⟩ : ∃ g : Nat, give la 1 (t, os) i = g := ⟨(give la 1 (t, os) i).toNat, by omega⟩
      rw [hgn] at hgive hstep
      have hfill := fill_want ha hm S hvb hv os hos i k hi hil c t g hgive hhi (by omega) g
      have hM0 : MO A N os = MO A N (os.set i c) := by
        congr 1
        apply List.ext_getElem?
        intro j
        by_cases hij : i = j
        · subst hij
          rw [List.getElem?_set_self (by omega)]
          rw [List.getD_eq_getElem?_getD] at hc
          rw [List.getElem?_eq_getElem (by omega)] at hc ⊢
          simpa using hc
        · rw [List.getElem?_set_ne hij]
      have b2 : (k : Int) < S.length := by omega
      have w4 : IntKind.i64.wrap ((k : Int) + 1) = ((k + 1 : Nat) : Int) := by rw [wrap_i64 (by omega) (by omega)]; omega
      simp -implicitDefEqProofs [lp14_6, T14, ha.ev, ha.nb, hev, hlen, b2]
      repeat rw [Option.bind_assoc]
      refine Ends.bind (Q := fun s : St => PostF A N va vo la.length os i k c t g 12 12 [124, 125, 126, 127, 128, 129, 130, 131, 132, 133, 134, 135, 136, 137, 138, 139, 140, 141, 142, 143] (AExit.exit 12) s.σ s.H ∧ s.e = .normal) (Ends.map (hfill _ _ ⟨0, t, c, by omega, by omega, by omega, by omega, by rw [hM0], by simp [lp14_5, T14]⟩) ?_) ?_
      · rintro ⟨e, σ, G⟩ ⟨q1, q2⟩
        simp only at q1
        subst q1
        exact ⟨⟨rfl, q2⟩, by simp [unblock]⟩
      · rintro ⟨e, σ, M⟩ ⟨⟨_, t', d1, d2, d3⟩, q1⟩
        simp only at q1 d1 d2 d3
        subst q1; subst d2
        simp only [T14] at d3
        simp -implicitDefEqProofs [d3, w4, ha.ev, hev]
        refine ⟨S.length - (k + 1), by omega, k + 1, t', rfl, by omega, by rw [hnext, hstep, d1], by rw [hnext, hstep], by simp [T14]⟩
end
end Go.A.Seat

namespace Go.A.Seat
open Go.A
set_option linter.unusedSimpArgs false
set_option linter.unusedVariables false

def err14 (c : Int) (σ : List AV) : Prop := resultsA fun14.res σ = some (.tup [nilS, ai c])

def InvR (H : Heap) (la : List Ask) (va : AV) (total : Int) (z : Nat) (σ : List AV) (M : Heap) : Prop :=
  ∃ k : Nat, la.length - k = z ∧ k ≤ la.length ∧ (∀ (j : Nat) a, j < k → la[j]? = some a → a.right = true) ∧ M = H ∧ σ = L 156 ((((Tr.full 8).put (path 0) (ai total)).put (path 1) va).put (path 6) (ai k))
def PostRt (H : Heap) (la : List Ask) (va : AV) (total : Int) (e : AExit) (σ : List AV) (M : Heap) : Prop :=
  M = H ∧ ((e = .exit 0 ∧ la.any (fun a => !a.right) = false ∧ kill [6, 24, 25, 26, 27] σ = L 156 (((Tr.full 8).put (path 0) (ai total)).put (path 1) va)) ∨ (e = .ret ∧ la.any (fun a => !a.right) = true ∧ err14 3 σ))

theorem rights_loop {H : Heap} {va : AV} {la : List Ask} (ha : Sl H 4 va (asks la)) (hm : la.length ≤ 1000000) (total : Int) :
    ∀ (z : Nat) (σ : List AV) (M : Heap), InvR H la va total z (kill (headK lp14_0) σ) M → Ends (execW tbl X1 (.loop lp14_0) σ M) fun s => PostRt H la va total s.e s.σ s.H := by
  intro z σ M hI
  have := loop_rule (T := tbl) (X := X1) (b := lp14_0) (InvR H la va total) (PostRt H la va total) ?_ z σ M hI
  · exact this.mono fun s hs => hs.2
  · clear hI σ z M
    rintro z σ M ⟨k, rfl, hk, hall, hMH, rfl⟩
    have e1 : lenS va = some la.length := by rw [ha.len]; simp [asks]
    by_cases hkn : k = la.length
    · subst hkn
      simp -implicitDefEqProofs [lp14_0, ha.ev, ha.nb, e1]
      refine ⟨hMH, .inl ⟨rfl, ?_, by simp [ha.ev]⟩⟩
      rw [List.any_eq_false]
      intro a hm2
      obtain ⟨j, hj2⟩ := List.getElem?_of_mem hm2
      simp [hall j a (List.getElem?_eq_some_iff.1 hj2).1 hj2]
    · have hkl : k < la.length := by omega
      obtain ⟨a, hx⟩ : ∃ a, la[k]? = some a := ⟨_, List.getElem?_eq_getElem hkl⟩
      rw [← hMH] at ha
      obtain ⟨r2', o2', g2', p3, p4⟩ := ha.at (cs := a.cells) (i := k) (by simp [asks, hx])
      have q3 := p3 k rfl
      have b1 : (k : Int) < la.length := by omega
      have h12 := right12 a M
      have hfree : AV.freeAll a.cells = true := rfl
      have w4 : IntKind.i64.wrap ((k : Int) + 1) = ((k + 1 : Nat) : Int) := by rw [wrap_i64 (by omega) (by omega)]; omega
      cases hr : a.right with
      | true =>
        rw [hr] at h12
        simp -implicitDefEqProofs [lp14_0, ha.ev, ha.nb, e1, b1, q3, p4, hfree, h12, w4]
        refine ⟨la.length - (k + 1), by omega, k + 1, rfl, by omega, fun j b hj hb => ?_, hMH, by simp⟩
        by_cases hjk : j = k
        · subst hjk; rw [hx] at hb; obtain rfl := Option.some.inj hb; exact hr
        · exact hall j b (by omega) hb
      | false =>
        rw [hr] at h12
        simp -implicitDefEqProofs [lp14_0, ha.ev, ha.nb, e1, b1, q3, p4, hfree, h12]
        refine ⟨hMH, .inr ⟨rfl, ?_, by simp [err14, fun14]⟩⟩
        rw [List.any_eq_true]
        exact ⟨a, List.mem_of_getElem? hx, by simp [hr]⟩

def InvD (H : Heap) (la : List Ask) (va : AV) (total : Int) (i : Nat) (a : Ask) (z : Nat) (σ : List AV) (M : Heap) : Prop :=
  ∃ k : Nat, i - k = z ∧ k ≤ i ∧ (∀ (j : Nat) b, j < k → la[j]? = some b → b.id ≠ a.id) ∧ M = H ∧ σ = L 156 (((((Tr.full 8).put (path 0) (ai total)).put (path 1) va).put (path 7) (ai i)).put (path 8) (ai k))
def PostD (H : Heap) (la : List Ask) (va : AV) (total : Int) (i : Nat) (e : AExit) (σ : List AV) (M : Heap) : Prop :=
  M = H ∧ ((e = .exit 4 ∧ twice la i = false ∧ kill [8, 42, 43, 44] σ = L 156 ((((Tr.full 8).put (path 0) (ai total)).put (path 1) va).put (path 7) (ai i))) ∨ (e = .ret ∧ twice la i = true ∧ err14 12 σ))

theorem dup_loop {H : Heap} {va : AV} {la : List Ask} (ha : Sl H 4 va (asks la)) (hm : la.length ≤ 1000000) (total : Int) (i : Nat) (a : Ask) (hx : la[i]? = some a) :
    ∀ (z : Nat) (σ : List AV) (M : Heap), InvD H la va total i a z (kill (headK lp14_1) σ) M → Ends (execW tbl X1 (.loop lp14_1) σ M) fun s => PostD H la va total i s.e s.σ s.H := by
  intro z σ M hI
  have hil := (List.getElem?_eq_some_iff.1 hx).1
  have := loop_rule (T := tbl) (X := X1) (b := lp14_1) (InvD H la va total i a) (PostD H la va total i) ?_ z σ M hI
  · exact this.mono fun s hs => hs.2
  · clear hI σ z M
    rintro z σ M ⟨k, rfl, hk, hall, hMH, rfl⟩
    have htw : twice la i = (la.take i).any fun b => decide (b.id = a.id) := by simp [twice, hx]
    by_cases hkn : k = i
    · subst hkn
      simp -implicitDefEqProofs [lp14_1, ha.ev, ha.nb]
      refine ⟨hMH, .inl ⟨rfl, ?_, by simp [ha.ev]⟩⟩
      rw [htw, List.any_eq_false]
      intro b hb
      obtain ⟨j, hj2⟩ := List.getElem?_of_mem hb
      have hjl := (List.getElem?_eq_some_iff.1 hj2).1
      rw [List.getElem?_take] at hj2
      split at hj2
      · rename_i hjk
        simpa using hall j b hjk hj2
      · simp at hj2
    · have hkl : k < i := by omega
      obtain ⟨b, hy⟩ : ∃ b, la[k]? = some b := ⟨_, List.getElem?_eq_getElem (by omega)⟩
      rw [← hMH] at ha
      obtain ⟨r1, o1, g1, p1, p2⟩ := ha.at (cs := a.cells) (i := i) (by simp [asks, hx])
      obtain ⟨r2, o2, g2, p3, p4⟩ := ha.at (cs := b.cells) (i := k) (by simp [asks, hy])
      have q1 := p1 i rfl
      have q3 := p3 k rfl
      have f1 := rdRow_field p2 (j := 0) (v := ai a.id) rfl
      have f2 := rdRow_field p4 (j := 0) (v := ai b.id) rfl
      rw [Nat.add_zero] at f1 f2
      have b1 : (k : Int) < i := by omega
      have w4 : IntKind.i64.wrap ((k : Int) + 1) = ((k + 1 : Nat) : Int) := by rw [wrap_i64 (by omega) (by omega)]; omega
      by_cases he : a.id = b.id
      · simp -implicitDefEqProofs [lp14_1, ha.ev, ha.nb, b1, q1, q3, f1, f2, he]
        refine ⟨hMH, .inr ⟨rfl, ?_, by simp [err14, fun14]⟩⟩
        rw [htw, List.any_eq_true]
        refine ⟨b, List.mem_of_getElem? (i := k) ?_, by simp [he]⟩
        rw [List.getElem?_take, if_pos hkl, hy]
      · simp -implicitDefEqProofs [lp14_1, ha.ev, ha.nb, b1, q1, q3, f1, f2, he, w4]
        refine ⟨i - (k + 1), by omega, k + 1, rfl, by omega, fun j c hj hb => ?_, hMH, by simp⟩
        by_cases hjk : j = k
        · subst hjk; rw [hy] at hb; obtain rfl := Option.some.inj hb; exact fun h => he h.symm
        · exact hall j c (by omega) hb

def InvDD (H : Heap) (la : List Ask) (va : AV) (total : Int) (z : Nat) (σ : List AV) (M : Heap) : Prop :=
  ∃ i : Nat, la.length - i = z ∧ i ≤ la.length ∧ (∀ j, j < i → twice la j = false) ∧ M = H ∧ σ = L 156 ((((Tr.full 8).put (path 0) (ai total)).put (path 1) va).put (path 7) (ai i))
def PostDD (H : Heap) (la : List Ask) (va : AV) (total : Int) (e : AExit) (σ : List AV) (M : Heap) : Prop :=
  M = H ∧ ((e = .exit 2 ∧ (List.range la.length).any (twice la) = false ∧ kill [7, 36, 37, 38, 39] σ = L 156 (((Tr.full 8).put (path 0) (ai total)).put (path 1) va)) ∨ (e = .ret ∧ (List.range la.length).any (twice la) = true ∧ err14 12 σ))

theorem dups_loop {H : Heap} {va : AV} {la : List Ask} (ha : Sl H 4 va (asks la)) (hm : la.length ≤ 1000000) (total : Int) :
    ∀ (z : Nat) (σ : List AV) (M : Heap), InvDD H la va total z (kill (headK lp14_2) σ) M → Ends (execW tbl X1 (.loop lp14_2) σ M) fun s => PostDD H la va total s.e s.σ s.H := by
  intro z σ M hI
  have := loop_rule (T := tbl) (X := X1) (b := lp14_2) (InvDD H la va total) (PostDD H la va total) ?_ z σ M hI
  · exact this.mono fun s hs => hs.2
  · clear hI σ z M
    rintro z σ M ⟨i, rfl, hi, hall, hMH, rfl⟩
    have e1 : lenS va = some la.length := by rw [ha.len]; simp [asks]
    by_cases hkn : i = la.length
    · subst hkn
      simp -implicitDefEqProofs [lp14_2, ha.ev, ha.nb, e1]
      refine ⟨hMH, .inl ⟨rfl, ?_, by simp [ha.ev]⟩⟩
      rw [List.any_eq_false]
      intro j hj
      simp [hall j (by simpa using hj)]
    · have hil : i < la.length := by omega
      obtain ⟨a, hx⟩ : ∃ a, la[i]? = some a := ⟨_, List.getElem?_eq_getElem hil⟩
      have hl := dup_loop ha hm total i a hx i
      have b1 : (i : Int) < la.length := by omega
      have w4 : IntKind.i64.wrap ((i : Int) + 1) = ((i + 1 : Nat) : Int) := by rw [wrap_i64 (by omega) (by omega)]; omega
      simp -implicitDefEqProofs [lp14_2, ha.ev, ha.nb, e1, b1]
      repeat rw [Option.bind_assoc]
      refine Ends.bind (Q := fun s : St => (s.e = .normal ∧ PostD H la va total i (AExit.exit 4) s.σ s.H) ∨ (s.e = .ret ∧ PostD H la va total i .ret s.σ s.H)) (Ends.map (hl _ _ ⟨0, by omega, by omega, fun j b hj => by omega, hMH, by simp [lp14_1, ha.ev]⟩) ?_) ?_
      · rintro ⟨e, σ, G⟩ ⟨q0, q1⟩
        simp only at q0 q1
        rcases q1 with ⟨q1, q2, q3⟩ | ⟨q1, q2, q3⟩ <;> subst q1
        · exact .inl ⟨by simp [unblock], q0, .inl ⟨rfl, q2, q3⟩⟩
        · exact .inr ⟨by simp [unblock], q0, .inr ⟨rfl, q2, q3⟩⟩
      · rintro ⟨e, σ, M'⟩ (⟨q1, q0, q2⟩ | ⟨q1, q0, q2⟩) <;> simp only at q0 q1 q2 <;> subst q1
        · rcases q2 with ⟨_, q2, q3⟩ | ⟨q2, _⟩
          · simp -implicitDefEqProofs [q3, w4, ha.ev]
            refine ⟨la.length - (i + 1), by omega, i + 1, rfl, by omega, fun j hj => ?_, q0, by simp⟩
            by_cases hji : j = i
            · subst hji; exact q2
            · exact hall j (by omega)
          · simp at q2
        · rcases q2 with ⟨q2, _⟩ | ⟨_, q2, q3⟩
          · simp at q2
          · simp -implicitDefEqProofs []
            exact ⟨q0, .inr ⟨rfl, by rw [List.any_eq_true]; exact ⟨i, by simpa using hil, q2⟩, q3⟩⟩
end Go.A.Seat

namespace Go.A.Seat
open Go.A
set_option linter.unusedSimpArgs false
set_option linter.unusedVariables false

def PostQ (H : Heap) (la : List Ask) (total : Int) (S : List Nat) (y : AV × Heap) : Prop :=
  ∃ (N : Heap) (v : AV) (os : List Int), y = (.tup [v, ai (askErr total la)], H ++ N) ∧ v.free = true ∧ v.isBox = false ∧ Sl (H ++ N) 1 v (ints os) ∧ (askErr total la ≠ 0 → os = []) ∧ (askErr total la = 0 → os = shareV la total S)

theorem tl14_eq : code14 = .seq code14.sl (.seq code14.sr.sl (.seq code14.sr.sr.sl (.seq code14.sr.sr.sr.sl code14.sr.sr.sr.sr))) := rfl
def K14 : List Nat := [7, 36, 37, 38, 39]

/-- Behind the checks. -/
theorem give14 {H : Heap} {va : AV} {la : List Ask} (total : Int) (ha : Sl H 4 va (asks la)) (hm : la.length ≤ 100000) (hr : AllRight la) (h1 : 0 ≤ total) (h2 : total ≤ 4096) (S : List Nat) (hp : S.Perm (List.range la.length)) (hs : S.Pairwise (lt (rk la))) (σ : List AV) (hσ : kill K14 σ = L 156 (((Tr.full 8).put (path 0) (ai total)).put (path 1) va)) :
    Ends (execW tbl X1 code14.sr.sr.sr.sr σ H) fun st => st.e = .ret ∧ ∃ v N, resultsA fun14.res st.σ = some (.tup [v, ai 0]) ∧ v.free = true ∧ v.isBox = false ∧ st.H = H ++ N ∧ Sl (H ++ N) 1 v (ints (shareV la total S)) := by
  rw [← execW_head, show headK code14.sr.sr.sr.sr = K14 from rfl, hσ]
  have e1 : lenS va = some la.length := by rw [ha.len]; simp [asks]
  have hmk := mks_ok H 1 8 la.length [ai 0] (by simp only [appBound]; omega) (by simp only [appBound]; omega)
  rw [rep_one, Nat.mul_one] at hmk
  have h17 := ref17 (ha.grow (N := [AObj.row (List.replicate la.length (ai 0))])) (by omega)
  rw [outAt_eq hp hs] at h17
  have hS : ∀ i ∈ S, i < la.length := fun i hi => by simpa using hp.mem_iff.1 hi
  have hSl : S.length = la.length := by simpa using hp.length_eq
  have hnd : S.Nodup := hp.nodup_iff.2 List.nodup_range
  obtain ⟨N2, hN2⟩ : ∃ N2, [AObj.row ((S.map fun (x : Nat) => (x : Int)).map ai)] = N2 := ⟨_, rfl⟩
  rw [hN2] at h17
  obtain ⟨vo, hvo⟩ : ∃ vo, AV.sl (H ++ [AObj.row (List.replicate la.length (ai 0))]).length 0 la.length la.length 1 la.length true = vo := ⟨_, rfl⟩
  rw [hvo] at h17
  have hvb : vo.isBox = false := by rw [← hvo]; rfl
  have hvf : vo.free = true := by rw [← hvo]; rfl
  have hev := ev1_nb hvb
  have hvM : ∀ os : List Int, Sl (MO H N2 os) 1 vo (ints (S.map fun (x : Nat) => (x : Int))) := by
    intro os
    have hg : (MO H N2 os)[(H ++ [AObj.row (List.replicate la.length (ai 0))]).length]? = some (.row ((S.map fun (x : Nat) => (x : Int)).map ai)) := by
      rw [← hN2, MO, List.getElem?_append_right (by simp)]
      simp
    have := Sl.own hg la.length (by simp [hSl])
    rw [hvo, List.map_map] at this
    exact this
  have hM0 : (H ++ [AObj.row (List.replicate la.length (ai 0))]) ++ N2 = MO H N2 (List.replicate la.length 0) := by simp [MO]
  rw [hM0] at h17
  have hg0 : Good la (total, List.replicate la.length 0) := by
    refine ⟨h1, h2, by simp, fun i hi => ?_⟩
    have := hr i hi
    simp only [List.getD_eq_getElem?_getD, List.getElem?_replicate, if_pos hi, Option.getD_some]
    omega
  have hg1 := hg0.round hr (rd := 0) S hS
  have hg2 := hg1.round hr (rd := 1) S hS
  have hl0 := rates_loop ha (by omega) hr S hS hnd (by omega) hvb hvM _ hg0 (fun i => by
    simp only [List.getD_eq_getElem?_getD, List.getElem?_replicate]
    split <;> rfl) S.length
  have hl1 := wants_loop ha (by omega) hr S hS (by omega) hvb hvM _ hg1 S.length
  have hlen : lenS vo = some S.length := by rw [(hvM []).len]; simp [ints]
  have hsv : (roundS la 1 S (roundS la 0 S (total, List.replicate la.length 0))).2 = shareV la total S := rfl
  have hres : Sl (MO H N2 (shareV la total S)) 1 (.sl H.length 0 la.length la.length 1 la.length true) (ints (shareV la total S)) := by
    have := Sl.own (MO_get H N2 (shareV la total S)) la.length (by simp; exact hg2.len.symm)
    rw [List.map_map] at this
    exact this
  obtain ⟨N3, hN3⟩ : ∃ N3, MO H N2 (shareV la total S) = H ++ N3 := ⟨[AObj.row ((shareV la total S).map ai)] ++ N2, by simp [MO]⟩
  generalize shareV la total S = sv1 at *
  generalize hM0' : MO H N2 (List.replicate la.length 0) = M0 at *
  generalize hAM : H ++ [AObj.row (List.replicate la.length (ai 0))] = AM at *
  simp -implicitDefEqProofs [code14, ha.ev, ha.nb, ha.free, e1, hmk, h17, hvb, hvf, hev]
  repeat rw [Option.bind_assoc]
  refine Ends.bind (Q := fun s : St => PostG H N2 la va vo 0 S (total, List.replicate la.length 0) 6 [11, 63, 64, 65, 66] (AExit.exit 6) s.σ s.H ∧ s.e = .normal) (Ends.map (hl0 _ _ ⟨0, total, by omega, by omega, by simp [roundS], by rw [← hM0']; simp [roundS], by simp [lp14_4, T14]⟩) ?_) ?_
  · rintro ⟨e, σ, G⟩ ⟨q1, q2⟩
    simp only at q1
    subst q1
    exact ⟨⟨rfl, q2⟩, by simp [unblock]⟩
  · rintro ⟨e, σ, M⟩ ⟨⟨_, t, g1, g2, g3⟩, q1⟩
    simp only at q1 g1 g2 g3
    subst q1; subst g2
    simp only [T14] at g3
    simp -implicitDefEqProofs [g3, hev, ha.ev]
    repeat rw [Option.bind_assoc]
    refine Ends.bind (Q := fun s : St => PostW H N2 la S (roundS la 0 S (total, List.replicate la.length 0)) (AExit.exit 10) s.σ s.H ∧ s.e = .normal) (Ends.map (hl1 _ _ ⟨0, t, by omega, by omega, by simp [roundS, g1], by simp [roundS], by simp [lp14_6, T14]⟩) ?_) ?_
    · rintro ⟨e, σ, G⟩ ⟨q1, q2⟩
      simp only at q1
      subst q1
      exact ⟨⟨rfl, q2⟩, by simp [unblock]⟩
    · rintro ⟨e, σ, M⟩ ⟨⟨_, g5, g6⟩, q1⟩
      simp only at q1 g5 g6
      subst q1
      rw [hsv, hN3] at g5
      rw [hN3] at hres
      subst g5
      simp -implicitDefEqProofs [g6, hev, ha.ev, fun14]
      exact hres

theorem share14 {H : Heap} {va : AV} {la : List Ask} (total : Int) (ha : Sl H 4 va (asks la)) (hm : la.length ≤ 100000) (S : List Nat) (hp : S.Perm (List.range la.length)) (hs : S.Pairwise (lt (rk la))) :
    Ends (callW tbl X1 14 [ai total, va] H) (PostQ H la total S) := by
  have e1 : lenS va = some la.length := by rw [ha.len]; simp [asks]
  have hgive := fun h1 h2 h3 σ => give14 total ha hm h1 h2 h3 S hp hs σ
  have hr1 := rights_loop ha (by omega) total la.length
  have hr2 := dups_loop ha (by omega) total la.length
  refine call_rule (X1_none (by decide) _ _) rfl ?_
  rw [fun14, slots0_L 8 156 _ (by simp), tl14_eq]
  generalize code14.sr.sr.sr.sr = Rest at *
  have early : ∀ c : Int, c ≠ 0 → askErr total la = c → PostQ H la total S (.tup [nilS, ai c], H) := fun c h0 hc => ⟨[], nilS, [], by rw [hc]; simp, rfl, rfl, .inl ⟨rfl, rfl⟩, fun _ => rfl, fun h => absurd (hc.symm.trans h) h0⟩
  by_cases h1 : total < 0
  · have hE : askErr total la = 1 := by unfold askErr; rw [if_pos (.inl h1)]
    have := early 1 (by decide) hE
    simp -implicitDefEqProofs [code14, ha.ev, e1, h1]
    exact this
  · by_cases h2 : total > 4096
    · have hE : askErr total la = 1 := by unfold askErr; rw [if_pos (.inr (.inl h2))]
      have := early 1 (by decide) hE
      have h2' : 4096 < total := h2
      simp -implicitDefEqProofs [code14, ha.ev, e1, h1, h2, h2']
      exact this
    · have h2' : ¬ 4096 < total := h2
      by_cases h3 : la.length > 32
      · have hE : askErr total la = 1 := by unfold askErr; rw [if_pos (.inr (.inr h3))]
        have := early 1 (by decide) hE
        have h3' : (la.length : Int) > 32 := by omega
        have h3'' : (32 : Int) < la.length := by omega
        simp -implicitDefEqProofs [code14, ha.ev, e1, h1, h2, h2', h3', h3'']
        exact this
      · have h3' : ¬ (la.length : Int) > 32 := by omega
        have h3'' : ¬ (32 : Int) < la.length := by omega
        have hE0 : askErr total la = if la.any (fun a => !a.right) = true then 3 else if (List.range la.length).any (twice la) = true then 12 else 0 := by
          unfold askErr; rw [if_neg (by omega)]
        simp -implicitDefEqProofs [code14, ha.ev, e1, h1, h2, h2', h3', h3'']
        repeat rw [Option.bind_assoc]
        refine Ends.bind (Q := fun s : St => (s.e = .normal ∧ PostRt H la va total (AExit.exit 0) s.σ s.H) ∨ (s.e = .ret ∧ PostRt H la va total .ret s.σ s.H)) (Ends.map (hr1 _ _ ⟨0, by omega, by omega, fun j b hj => by omega, rfl, by simp [lp14_0, ha.ev]⟩) ?_) ?_
        · rintro ⟨e, σ, G⟩ ⟨q0, q1⟩
          simp only at q0 q1
          rcases q1 with ⟨q1, q2, q3⟩ | ⟨q1, q2, q3⟩ <;> subst q1
          · exact .inl ⟨by simp [unblock], q0, .inl ⟨rfl, q2, q3⟩⟩
          · exact .inr ⟨by simp [unblock], q0, .inr ⟨rfl, q2, q3⟩⟩
        · rintro ⟨e, σ, M'⟩ (⟨q1, q0, q2⟩ | ⟨q1, q0, q2⟩) <;> simp only at q0 q1 q2 <;> subst q1 <;> subst q0
          · rcases q2 with ⟨_, q2, q3⟩ | ⟨q2, _⟩
            · rw [if_neg (by rw [q2]; simp)] at hE0
              simp -implicitDefEqProofs [q3, ha.ev]
              repeat rw [Option.bind_assoc]
              refine Ends.bind (Q := fun s : St => (s.e = .normal ∧ PostDD M' la va total (AExit.exit 2) s.σ s.H) ∨ (s.e = .ret ∧ PostDD M' la va total .ret s.σ s.H)) (Ends.map (hr2 _ _ ⟨0, by omega, by omega, fun j hj => by omega, rfl, by simp [lp14_2, ha.ev]⟩) ?_) ?_
              · rintro ⟨e, σ, G⟩ ⟨q0, q1⟩
                simp only at q0 q1
                rcases q1 with ⟨q1, q2, q3⟩ | ⟨q1, q2, q3⟩ <;> subst q1
                · exact .inl ⟨by simp [unblock], q0, .inl ⟨rfl, q2, q3⟩⟩
                · exact .inr ⟨by simp [unblock], q0, .inr ⟨rfl, q2, q3⟩⟩
              · rintro ⟨e, σ, M⟩ (⟨q1, q0, q5⟩ | ⟨q1, q0, q5⟩) <;> simp only at q0 q1 q5 <;> subst q1 <;> subst q0
                · rcases q5 with ⟨_, q5, q6⟩ | ⟨q5, _⟩
                  · rw [if_neg (by rw [q5]; simp)] at hE0
                    simp only [andThen]
                    refine (hgive (allRight_of q2) (by omega) (by omega) σ q6).mono ?_
                    rintro ⟨e, σ', G⟩ ⟨d1, v, N, d2, d3, d3', d4, d5⟩
                    simp only at d1 d2 d4
                    subst d1; subst d4
                    refine ⟨rfl, ?_⟩
                    simp [fun14] at d2
                    simp only [d2.1, d2.2]
                    exact ⟨⟨d3, rfl⟩, N, v, _, by rw [hE0], d3, d3', d5, fun h => absurd hE0 h, fun _ => rfl⟩
                  · simp at q5
                · rcases q5 with ⟨q5, _⟩ | ⟨_, q5, q6⟩
                  · simp at q5
                  · rw [if_pos q5] at hE0
                    simp [err14, fun14] at q6
                    refine Ends.some.2 ⟨rfl, ?_⟩
                    simp only [q6.1, q6.2]
                    exact ⟨⟨rfl, rfl⟩, early 12 (by decide) hE0⟩
            · simp at q2
          · rcases q2 with ⟨q2, _⟩ | ⟨_, q2, q3⟩
            · simp at q2
            · rw [if_pos q2] at hE0
              simp [err14, fun14] at q3
              refine Ends.some.2 ⟨rfl, ?_⟩
              simp only [q3.1, q3.2]
              exact ⟨⟨rfl, rfl⟩, early 3 (by decide) hE0⟩
end Go.A.Seat

namespace Go.A.Seat
open Go.A
set_option linter.unusedSimpArgs false
set_option linter.unusedVariables false

theorem eqCells (a : Ask) : eqAVs a.cells a.cells = true := by simp [Ask.cells]

def T3 (va vx : AV) (total : Int) : Tr := ((((Tr.full 7).put (path 0) (ai total)).put (path 1) va).put (path 5) vx).put (path 6) (ab true)
def Inv3x (H : Heap) (la : List Ask) (va : AV) (total : Int) (z : Nat) (σ : List AV) (M : Heap) : Prop :=
  ∃ k : Nat, ∃ vx, la.length - k = z ∧ k ≤ la.length ∧ OwnG H 4 vx (asks (la.take k)) M ∧ σ = L 93 ((T3 va vx total).put (path 7) (ai k))
def Post3x (H : Heap) (la : List Ask) (va : AV) (total : Int) (e : AExit) (σ : List AV) (M : Heap) : Prop :=
  e = .exit 0 ∧ ∃ vx, OwnG H 4 vx (asks la) M ∧ kill [7, 16, 17, 18, 19] σ = L 93 (T3 va vx total)

theorem copy_loop {H : Heap} {va : AV} {la : List Ask} (ha : Sl H 4 va (asks la)) (hm : la.length ≤ 1000) (total : Int) :
    ∀ (z : Nat) (σ : List AV) (M : Heap), Inv3x H la va total z (kill (headK lp3_0) σ) M → Ends (execW tbl X1 (.loop lp3_0) σ M) fun s => Post3x H la va total s.e s.σ s.H := by
  intro z σ M hI
  have := loop_rule (T := tbl) (X := X1) (b := lp3_0) (Inv3x H la va total) (Post3x H la va total) ?_ z σ M hI
  · exact this.mono fun s hs => hs.2
  · clear hI σ z M
    rintro z σ M ⟨k, vx, rfl, hk, hO, rfl⟩
    have e1 : lenS va = some la.length := by rw [ha.len]; simp [asks]
    have hxb := hO.nb
    have hxf := hO.free
    have hev := ev1_nb hxb
    by_cases hkn : k = la.length
    · subst hkn
      simp -implicitDefEqProofs [lp3_0, T3, ha.ev, ha.nb, e1, hev]
      rw [List.take_length] at hO
      exact ⟨rfl, vx, hO, by simp [T3, ha.ev, hev]⟩
    · have hkl : k < la.length := by omega
      obtain ⟨a, hx⟩ : ∃ a, la[k]? = some a := ⟨_, List.getElem?_eq_getElem hkl⟩
      obtain ⟨N, hN⟩ := hO.ext
      have ham : Sl M 4 va (asks la) := hN ▸ ha.grow
      obtain ⟨r1, o1, g1, p1, p2⟩ := ham.at (cs := a.cells) (i := k) (by simp [asks, hx])
      have q1 := p1 k rfl
      have f0 := rdRow_field p2 (j := 0) (v := ai a.id) rfl
      rw [Nat.add_zero] at f0
      have f1 := rdRow_field p2 (j := 1) (v := ai a.rank) rfl
      have f2 := rdRow_field p2 (j := 2) (v := ai a.rate) rfl
      have f3 := rdRow_field p2 (j := 3) (v := ai a.want) rfl
      have hal : (asks (la.take k)).length = k := by simp [asks]; omega
      obtain ⟨v', M', happ, hO'⟩ := hO.push 32 a.cells rfl (by simp [Ask.cells, AV.one, AV.free]) (by rw [hal]; simp only [appBound]; omega) (by rw [hal]; simp only [appBound]; omega) 4 rfl
      have hnx : asks (la.take k) ++ [a.cells] = asks (la.take (k + 1)) := by
        rw [List.take_add_one, hx]
        simp [asks]
      rw [hnx] at hO'
      have hxb' := hO'.nb
      have hev' := ev1_nb hxb'
      obtain ⟨N', hN'⟩ := hO'.ext
      have ham' : Sl M' 4 va (asks la) := hN' ▸ ha.grow
      obtain ⟨r2, o2, g2, p3, p4⟩ := ham'.at (cs := a.cells) (i := k) (by simp [asks, hx])
      have q3 := p3 k rfl
      have hsame := q1.symm.trans q3
      simp only [Option.some.injEq, AV.ptr.injEq] at hsame
      obtain ⟨rfl, rfl, rfl⟩ := hsame
      have hxi : (asks (la.take (k + 1)))[k]? = some a.cells := by
        simp [asks, List.getElem?_take, hx]
      obtain ⟨r3, o3, g3, p5, p6⟩ := hO'.sl.at hxi
      have q5 := p5 k rfl
      have b1 : (k : Int) < la.length := by omega
      have w4 : IntKind.i64.wrap ((k : Int) + 1) = ((k + 1 : Nat) : Int) := by rw [wrap_i64 (by omega) (by omega)]; omega
      have c11 := right11 a M'
      have c12 := right12 a M'
      have hfree : AV.freeAll a.cells = true := rfl
      have heq := eqCells a
      obtain ⟨ai1, ai2, ai3, ai4⟩ := a
      simp only [Ask.cells] at p2 p4 p6 happ c11 c12 heq f0 f1 f2 f3
      simp -implicitDefEqProofs [lp3_0, T3, ha.ev, ha.nb, e1, hev, hxb, hev', hxb', b1, q1, p2, f0, f1, f2, f3, happ, AV.one, q3, p4, q5, p6, c11, c12, w4, execW_drawn, runD, sameB, rdv]
      exact ⟨la.length - (k + 1), by omega, k + 1, v', rfl, by omega, hO', by simp [T3]⟩
end Go.A.Seat

namespace Go.A.Seat
open Go.A
set_option linter.unusedSimpArgs false
set_option linter.unusedVariables false

def extV (i : Nat) : AV → Option AV
  | .tup xs => xs[i]?
  | _ => none
theorem opA_ext (C : Oracle) (d : Option Nat) (σ : List AV) (H : Heap) (x : SX) (i : Nat) : opA C d (.ext x i) σ H = (extV i (evalX σ x)).map fun v => (v, σ, H) := by
  simp only [opA, extV]
  split <;> simp_all
theorem extV_0 (a : AV) (r : List AV) : extV 0 (.tup (a :: r)) = some a := rfl
theorem extV_1 (a b : AV) (r : List AV) : extV 1 (.tup (a :: b :: r)) = some b := rfl
attribute [simp] opA_ext extV_0 extV_1

theorem round_len (l : List Ask) (rd : Nat) : ∀ (S : List Nat) (s : Int × List Int), (roundS l rd S s).2.length = s.2.length
  | [], s => rfl
  | i :: S, s => by
    show (roundS l rd S (stepS l rd s i)).2.length = _
    rw [round_len l rd S]
    simp [stepS]
theorem shareV_len (l : List Ask) (total : Int) (S : List Nat) : (shareV l total S).length = l.length := by
  rw [shareV, round_len, round_len]
  simp

theorem alive10 (H : Heap) : callW tbl X1 10 [] H = some (ab true, H) := by
  rw [callW_eq]
  rfl

theorem order_unique {la : List Ask} {S S' : List Nat} (hp : S.Perm (List.range la.length)) (hs : S.Pairwise (lt (rk la))) (hp' : S'.Perm (List.range la.length)) (hs' : S'.Pairwise (lt (rk la))) : S = S' := by
  have h := (outAt_eq hp hs).symm.trans (outAt_eq hp' hs')
  refine List.map_inj_right (f := fun (x : Nat) => (x : Int)) ?_ |>.1 h
  intro x y hxy
  exact Int.ofNat.inj hxy

theorem law3 {H : Heap} {va : AV} {la : List Ask} (total : Int) (ha : Sl H 4 va (asks la)) : Ends (callW tbl X1 3 [ai total, va] H) fun y => y.1 = ab true := by
  have e1 : lenS va = some la.length := by rw [ha.len]; simp [asks]
  refine call_rule (X1_none (by decide) _ _) rfl ?_
  rw [fun3, slots0_L 7 93 _ (by simp)]
  by_cases hbig : la.length > 60
  · have h1 : (la.length : Int) > 60 := by omega
    have h2 : (60 : Int) < la.length := by omega
    simp -implicitDefEqProofs [code3, ha.ev, e1, h1, h2, alive10]
  · have h1 : ¬ (la.length : Int) > 60 := by omega
    have h2 : ¬ (60 : Int) < la.length := by omega
    have hl := copy_loop ha (by omega) total la.length
    simp -implicitDefEqProofs [code3, ha.ev, e1, h1, h2]
    repeat rw [Option.bind_assoc]
    refine Ends.bind (Q := fun s : St => Post3x H la va total (AExit.exit 0) s.σ s.H ∧ s.e = .normal) (Ends.map (hl _ _ ⟨0, nilS, by omega, by omega, by have := OwnG.nil H [] 4; simpa [asks] using this, by simp [lp3_0, T3, ha.ev]⟩) ?_) ?_
    · rintro ⟨e, σ, G⟩ ⟨q1, q2⟩
      simp only at q1
      subst q1
      exact ⟨⟨rfl, q2⟩, by simp [unblock]⟩
    · rintro ⟨e, σ, M⟩ ⟨⟨_, vx, hO, q3⟩, q1⟩
      simp only at q1 hO q3
      subst q1
      simp only [T3] at q3
      have hxb := hO.nb
      have hxf := hO.free
      have hev := ev1_nb hxb
      obtain ⟨N1, hN1⟩ := hO.ext
      have ha1 : Sl M 4 va (asks la) := hN1 ▸ ha.grow
      have hx1 : Sl M 4 vx (asks la) := hO.sl
      obtain ⟨⟨v, M2⟩, c13, N2, v13, os, hy, hvf, hvb, hos, herr, hok⟩ := share13 total ha1 (by omega)
      simp only [Prod.mk.injEq] at hy
      obtain ⟨rfl, hM2⟩ := hy
      obtain ⟨_, _, S, hp, hs, _, _, _, _⟩ := order16 ha1 (by omega)
      have hx2 : Sl M2 4 vx (asks la) := hM2 ▸ hx1.grow
      have ha2 : Sl M2 4 va (asks la) := hM2 ▸ ha1.grow
      obtain ⟨⟨v, M3⟩, c14, N3, v14, os', hy, hvf', hvb', hos', herr', hok'⟩ := share14 total hx2 (by omega) S hp hs
      simp only [Prod.mk.injEq] at hy
      obtain ⟨rfl, hM3⟩ := hy
      have heq : os = os' := by
        by_cases he : askErr total la = 0
        · obtain ⟨S', hp', hs', rfl⟩ := hok he
          rw [hok' he, order_unique hp' hs' hp hs]
        · rw [herr he, herr' he]
      have holen : os.length ≤ 1000000 := by
        by_cases he : askErr total la = 0
        · obtain ⟨S', _, _, rfl⟩ := hok he
          rw [shareV_len]; omega
        · rw [herr he]; simp
      subst heq
      rw [← hM2] at hos
      rw [← hM3] at hos'
      have hos3 : Sl M3 1 v13 (ints os) := hM3 ▸ hos.grow
      have c15 := same15 hos3 hos' holen holen
      rw [decide_eq_true rfl] at c15
      have ha3 : Sl M3 4 va (asks la) := hM3 ▸ ha2.grow
      have hx3 : Sl M3 4 vx (asks la) := hM3 ▸ hx2.grow
      obtain ⟨N4, vo, S4, hp4, hs4, c16, hof, hob, hoS⟩ := order16 ha3 (by omega)
      have c17 := ref17 (hx3.grow (N := N4)) (by omega)
      rw [outAt_eq hp4 hs4] at c17
      obtain ⟨M4, hM4⟩ : ∃ M4, M3 ++ N4 = M4 := ⟨_, rfl⟩
      have ho4 : Sl M4 1 vo (ints (S4.map fun (x : Nat) => (x : Int))) := hM4 ▸ hoS M3 rfl
      rw [hM4] at c16 c17
      have hl4 : S4.length = la.length := by simpa using hp4.length_eq
      obtain ⟨M5, hM5⟩ : ∃ M5, M4 ++ [AObj.row ((S4.map fun (x : Nat) => (x : Int)).map ai)] = M5 := ⟨_, rfl⟩
      have ho5 : Sl M5 1 vo (ints (S4.map fun (x : Nat) => (x : Int))) := hM5 ▸ ho4.grow
      have hr5 : Sl M5 1 (.sl M4.length 0 la.length la.length 1 la.length true) (ints (S4.map fun (x : Nat) => (x : Int))) := by
        have := Sl.own (get_new M4 (.row ((S4.map fun (x : Nat) => (x : Int)).map ai))) la.length (by simp [hl4])
        rw [hM5, List.map_map (f := ai)] at this
        exact this
      have c15' := same15 ho5 hr5 (by simp [hl4]; omega) (by simp [hl4]; omega)
      rw [decide_eq_true rfl] at c15'
      rw [hM5] at c17
      generalize AV.sl M4.length 0 la.length la.length 1 la.length true = vr at *
      have hrf := hr5.free
      have hrb := hr5.nb
      simp -implicitDefEqProofs [q3, ha.ev, ha.nb, ha.free, hev, hxb, hxf, c13, c14, hvf, hvb, ev1_nb hvb, hvf', hvb', ev1_nb hvb', alive10, c15, c16, hof, hob, ev1_nb hob, c17, hrf, hrb, ev1_nb hrb, c15']
end Go.A.Seat
