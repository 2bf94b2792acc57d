/- THE ABSTRACT MACHINE: a slice of one's own that grows by append. -/
import Derived.Test.YtekoolanpphbfaaA28
set_option linter.unusedSimpArgs false
set_option linter.unusedVariables false
set_option linter.unnecessarySimpa false
namespace Go.A
open Go

/-- v is a slice of one's own, behind H, that append alone has made: its elements are l, of k cells each. -/
def OwnG (H : Heap) (k : Nat) (v : AV) (l : List (List AV)) (M : Heap) : Prop :=
  ∃ N, M = H ++ N ∧ (∀ cs ∈ l, cs.length = k) ∧ ((l = [] ∧ v = nilS) ∨ (l ≠ [] ∧ ∃ r, H.length ≤ r ∧ r < M.length ∧ v = .sl r 0 l.length l.length k (l.length * k) false ∧ M[r]? = some (.grow l.flatten 0)))

theorem flatten_len {k : Nat} : ∀ {l : List (List AV)}, (∀ cs ∈ l, cs.length = k) → l.flatten.length = l.length * k
  | [], _ => by simp
  | c :: r, h => by
    simp only [List.flatten_cons, List.length_append, List.length_cons, Nat.add_mul, h c (by simp), flatten_len (l := r) fun cs hc => h cs (by simp [hc])]
    omega
theorem flatten_at {k : Nat} : ∀ {l : List (List AV)} {i : Nat} {cs : List AV}, (∀ cs ∈ l, cs.length = k) → l[i]? = some cs → (l.flatten.drop (i * k)).take k = cs
  | [], i, cs, _, h => by simp at h
  | c :: r, 0, cs, hk, h => by
    simp only [List.getElem?_cons_zero, Option.some.injEq] at h
    subst h
    simp [← hk c (by simp)]
  | c :: r, i + 1, cs, hk, h => by
    simp only [List.getElem?_cons_succ] at h
    have h1 := hk c (by simp)
    rw [← flatten_at (l := r) (fun cs hc => hk cs (by simp [hc])) h]
    simp only [List.flatten_cons]
    rw [show (i + 1) * k = c.length + i * k by rw [Nat.add_mul]; omega, List.drop_append, List.drop_eq_nil_of_le (by omega)]
    simp

theorem OwnG.nil (H N : Heap) (k : Nat) : OwnG H k nilS [] (H ++ N) := ⟨N, rfl, by simp, .inl ⟨rfl, rfl⟩⟩
theorem OwnG.free {H : Heap} {k : Nat} {v : AV} {l : List (List AV)} {M : Heap} (h : OwnG H k v l M) : v.free = true := by
  obtain ⟨N, _, _, ⟨_, rfl⟩ | ⟨_, r, _, _, rfl, _⟩⟩ := h <;> rfl
theorem OwnG.nb {H : Heap} {k : Nat} {v : AV} {l : List (List AV)} {M : Heap} (h : OwnG H k v l M) : v.isBox = false := by
  obtain ⟨N, _, _, ⟨_, rfl⟩ | ⟨_, r, _, _, rfl, _⟩⟩ := h <;> rfl
theorem OwnG.ext {H : Heap} {k : Nat} {v : AV} {l : List (List AV)} {M : Heap} (h : OwnG H k v l M) : ∃ N, M = H ++ N := by
  obtain ⟨N, h, _⟩ := h
  exact ⟨N, h⟩
theorem OwnG.grow {H : Heap} {k : Nat} {v : AV} {l : List (List AV)} {M : Heap} (h : OwnG H k v l M) (N' : Heap) : OwnG H k v l (M ++ N') := by
  obtain ⟨N, h1, h2, h3⟩ := h
  refine ⟨N ++ N', by rw [h1, List.append_assoc], h2, ?_⟩
  rcases h3 with h3 | ⟨h3, r, h4, h5, h6, h7⟩
  · exact .inl h3
  · exact .inr ⟨h3, r, h4, by simp; omega, h6, by rw [List.getElem?_append_left h5, h7]⟩
theorem OwnG.sl {H : Heap} {k : Nat} {v : AV} {l : List (List AV)} {M : Heap} (h : OwnG H k v l M) : Sl M k v l := by
  obtain ⟨N, h1, h2, ⟨rfl, rfl⟩ | ⟨h3, r, h4, h5, rfl, h7⟩⟩ := h
  · exact .inl ⟨rfl, rfl⟩
  · refine .inr ⟨r, 0, l.length, k, l.length * k, false, rfl, ⟨Nat.le_refl _, by simp⟩, fun i cs hi => ?_⟩
    have hl := flatten_len h2
    have hi' := (List.getElem?_eq_some_iff.1 hi).1
    have hle : i * k + k ≤ l.length * k := by
      have := Nat.mul_le_mul_right k (show i + 1 ≤ l.length from hi')
      rw [Nat.add_mul] at this
      omega
    simp only [rdRow, h7, AObj.isRow, AObj.lo, AObj.cells]
    rw [if_pos ⟨trivial, Nat.zero_le _, by omega, by omega⟩, Nat.zero_add, flatten_at h2 hi]

/-- One element more, out of a row of its own. -/
theorem OwnG.push {H : Heap} {k : Nat} {v : AV} {l : List (List AV)} {M : Heap} (h : OwnG H k v l M) (bytes : Nat) (cs : List AV) (hk : cs.length = k) (hok : cs.all okCell = true) (hb : (l.length + 1) * bytes ≤ appBound) (hb' : l.length + 1 ≤ appBound) (g : Nat) (hg : g = k) :
    ∃ v' M', appendA (M ++ [.row cs]) k bytes v (.sl M.length 0 1 1 k g true) = some (v', M') ∧ OwnG H k v' (l ++ [cs]) M' := by
  subst hg
  have hrd : rdRow (M ++ [AObj.row cs]) M.length 0 g g = some cs := by
    have := rdRow_row (get_new M (.row cs)) (i := 0) (n := g) (by omega)
    rw [hk] at this
    simpa [← hk] using this
  obtain ⟨N, h1, h2, ⟨rfl, rfl⟩ | ⟨h3, r, h4, h5, rfl, h7⟩⟩ := h
  · refine ⟨.sl (M.length + 1) 0 1 1 g (1 * g) false, (M ++ [.row cs]) ++ [.grow cs 0], ?_, N ++ [.row cs] ++ [.grow cs 0], by rw [h1]; simp, by simpa using hk, .inr ⟨by simp, M.length + 1, by rw [h1]; simp; omega, by simp, by simp, by simp⟩⟩
    simp only [appendA, lenA, Option.bind_some, firstA]
    simp only [Nat.one_ne_zero, if_false, Nat.le_refl, if_true, Nat.one_mul, hrd, Option.bind_some]
    rw [if_pos ⟨by simpa using hb, by simpa using hb', hok⟩]
    simp
  · have h' : (M ++ [AObj.row cs])[r]? = some (.grow l.flatten 0) := by rw [List.getElem?_append_left h5, h7]
    have hl := flatten_len h2
    have hl0 : 0 < l.length := List.length_pos_iff.2 h3
    refine ⟨.sl r 0 (l.length + 1) (l.length + 1) g (l.length * g + 1 * g) false, (M ++ [AObj.row cs]).set r (.grow (l.flatten ++ cs) 0), ?_, (N ++ [AObj.row cs]).set (r - H.length) (.grow (l.flatten ++ cs) 0), ?_, ?_, .inr ⟨by simp, r, h4, by simp; omega, by simp [Nat.add_mul], ?_⟩⟩
    · simp only [appendA, lenA, Option.bind_some, firstA]
      simp only [Nat.one_ne_zero, if_false, Nat.le_refl, if_true, Nat.one_mul, hrd, Option.bind_some]
      rw [if_neg (by omega), if_pos ⟨hb, hb', hok⟩, if_pos ⟨trivial, trivial, fun h => by omega, trivial, trivial, by simp [h', AObj.isW, AObj.cells, hl]⟩, h']
      rfl
    · rw [h1, List.append_assoc, List.set_append_right _ _ h4]
    · intro c hc
      rcases List.mem_append.1 hc with hc | hc
      · exact h2 c hc
      · simp at hc; rw [hc]; exact hk
    · rw [List.getElem?_set_self (by simp; omega)]
      simp
end Go.A
