/- THE ABSTRACT MACHINE: rules for loops and jumps. -/
import Derived.Test.YtekoolanpphbfaaA22
import Derived.Test.YtekoolanpphbfaaA21
set_option linter.unusedSimpArgs false
set_option linter.unusedVariables false
set_option linter.unnecessarySimpa false
namespace Go.A
open Go

/-- It comes to an end, and what it gives is so. -/
def Ends {α : Type} (o : Option α) (Q : α → Prop) : Prop := ∃ y, o = some y ∧ Q y

theorem Ends.some {α : Type} {y : α} {Q : α → Prop} : Ends (some y) Q ↔ Q y := ⟨fun ⟨_, h, q⟩ => by obtain rfl := Option.some.inj h; exact q, fun q => ⟨y, rfl, q⟩⟩
theorem Ends.bind {α β : Type} {f : Option α} {K : α → Option β} {Q : α → Prop} {R : β → Prop} (h : Ends f Q) (k : ∀ y, Q y → Ends (K y) R) : Ends (f.bind K) R := by
  obtain ⟨y, rfl, q⟩ := h
  exact k y q
theorem Ends.map {α β : Type} {f : Option α} {K : α → β} {Q : α → Prop} {R : β → Prop} (h : Ends f Q) (k : ∀ y, Q y → R (K y)) : Ends (f.map K) R := by
  obtain ⟨y, rfl, q⟩ := h
  exact ⟨_, rfl, k y q⟩
theorem Ends.mono {α : Type} {f : Option α} {Q R : α → Prop} (h : Ends f Q) (k : ∀ y, Q y → R y) : Ends f R := by
  obtain ⟨y, e, q⟩ := h
  exact ⟨y, e, k y q⟩

def headK : SCode → List Nat
  | .region ks _ => ks
  | .drawn ks _ => ks
  | .seq a _ => headK a
  | .block _ b => headK b
  | .loop b => headK b
  | .scope b _ _ => headK b
  | _ => []

theorem kill_length : ∀ (ks : List Nat) (σ : List AV), (kill ks σ).length = σ.length
  | [], _ => rfl
  | k :: ks, σ => by rw [kill, kill_length ks]; simp

theorem kill_get : ∀ (ks : List Nat) (σ : List AV) (i : Nat), (kill ks σ)[i]? = if i ∈ ks ∧ i < σ.length then some .undef else σ[i]?
  | [], σ, i => by simp [kill]
  | k :: ks, σ, i => by
    rw [kill, kill_get ks]
    simp only [List.length_set, List.mem_cons, List.getElem?_set]
    by_cases h1 : i ∈ ks <;> by_cases h2 : i < σ.length <;> by_cases h3 : k = i <;> simp_all
    all_goals first
      | done
      | (intro h; exact absurd h.symm h3)
      | (simp [Ne.symm h3])
      | skip

theorem kill_kill (ks : List Nat) (σ : List AV) : kill ks (kill ks σ) = kill ks σ := by
  apply List.ext_getElem?
  intro i
  rw [kill_get, kill_length, kill_get]
  split <;> rfl

section
variable {T : FuncId → Option SFun} {X : Oracle}

theorem execW_head : ∀ (s : SCode) (σ : List AV) (H : Heap), execW T X s (kill (headK s) σ) H = execW T X s σ H
  | .region ks ops, σ, H => by rw [execW_region, execW_region, headK, kill_kill]
  | .drawn ks ops, σ, H => by rw [execW_drawn, execW_drawn, headK, kill_kill]
  | .seq a b, σ, H => by rw [execW_seq, execW_seq, headK, execW_head a]
  | .block id b, σ, H => by rw [execW_block, execW_block, headK, execW_head b]
  | .loop b, σ, H => by rw [execW_loop T X (kill _ σ), execW_loop T X σ, headK, execW_head b]
  | .scope b l r, σ, H => by rw [execW_scope, execW_scope, headK, execW_head b]
  | .skip, _, _ => rfl
  | .cond _ _ _, _, _ => rfl
  | .label _, _, _ => rfl
  | .goto _, _, _ => rfl
  | .exit _, _, _ => rfl
  | .ret, _, _ => rfl

theorem loop_rule {b : SCode} (I : Nat → List AV → Heap → Prop) (Q : AExit → List AV → Heap → Prop)
    (step : ∀ n σ H, I n σ H → Ends (execW T X b σ H) fun s => match s.e with
      | .normal => ∃ m, m < n ∧ I m (kill (headK b) s.σ) s.H
      | e => Q e s.σ s.H) :
    ∀ (n : Nat) (σ : List AV) (H : Heap), I n (kill (headK b) σ) H → Ends (execW T X (.loop b) σ H) fun s => s.e ≠ .normal ∧ Q s.e s.σ s.H := by
  intro n
  induction n using Nat.strongRecOn with
  | _ n ih =>
    intro σ H h
    rw [execW_loop, ← execW_head b]
    refine (step n _ H h).bind fun s hs => ?_
    obtain ⟨e, σ', H'⟩ := s
    cases e with
    | normal =>
      obtain ⟨m, hm, hI⟩ := hs
      exact ih m hm σ' H' hI
    | exit id => exact Ends.some.2 ⟨by simp, hs⟩
    | goto l => exact Ends.some.2 ⟨by simp, hs⟩
    | ret => exact Ends.some.2 ⟨by simp, hs⟩

theorem jump_rule {r : SCode} {l : Nat} (I : Nat → List AV → Heap → Prop) (Q : AExit → List AV → Heap → Prop)
    (step : ∀ n σ H, I n σ H → Ends (execW T X r σ H) fun s => if s.e = .goto l then ∃ m, m < n ∧ I m (kill (headK r) s.σ) s.H else Q s.e s.σ s.H) :
    ∀ (n : Nat) (σ : List AV) (H : Heap), I n (kill (headK r) σ) H → Ends (jumpW T X r l ⟨.goto l, σ, H⟩) fun s => s.e ≠ .goto l ∧ Q s.e s.σ s.H := by
  intro n
  induction n using Nat.strongRecOn with
  | _ n ih =>
    intro σ H h
    rw [jumpW_eq]
    simp only [if_true]
    rw [← execW_head r]
    refine (step n _ H h).bind fun s hs => ?_
    obtain ⟨e, σ', H'⟩ := s
    by_cases he : e = .goto l
    · subst he
      simp only [if_true] at hs
      obtain ⟨m, hm, hI⟩ := hs
      exact ih m hm σ' H' hI
    · simp only [he, if_false] at hs
      rw [jumpW_eq]
      simp only [he, if_false]
      exact Ends.some.2 ⟨he, hs⟩

/-- A scope whose code comes straight to its label. -/
theorem jumpW_done {r : SCode} {l : Nat} {s : St} (h : s.e ≠ .goto l) : jumpW T X r l s = some s := by
  rw [jumpW_eq, if_neg h]

theorem call_rule {f : FuncId} {fn : SFun} {args : List AV} {H : Heap} {Q : AV × Heap → Prop} (hx : X f args H = none) (ht : T f = some fn)
    (h : Ends (execW T X fn.body (slots0 fn.nslots args) H) fun st => st.e.ends = true ∧ Ends (resultsA fn.res st.σ) fun v => v.free = true ∧ Q (v, st.H)) : Ends (callW T X f args H) Q := by
  rw [callW_eq, hx]
  simp only [ht, Option.bind_some]
  refine h.bind fun st ⟨h1, h2⟩ => ?_
  rw [if_pos h1]
  refine h2.bind fun v ⟨h3, h4⟩ => ?_
  rw [if_pos h3]
  exact Ends.some.2 h4
end
end Go.A
