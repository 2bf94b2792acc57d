/- The law UmtxNumbers. -/
import Derived.Test.YtnmobjhmohcjfaaXG
import Derived.Test.YtnmobjhmohcjfaaXE
import Derived.Test.YtnmobjhmohcjfaaXA
import Derived.Test.YtnmobjhmohcjfaaAX
import Derived.Test.YtnmobjhmohcjfaaXC
set_option linter.unusedSimpArgs false
set_option linter.unusedVariables false
set_option linter.unnecessarySimpa false
namespace Go.A.V.S
open Go Go.A
set_option linter.unusedSimpArgs false
set_option linter.unusedVariables false
/-- A call of a law of umtx. -/
structure UOp where
  kind : Int
  n : Int
  b : Bs
theorem l16alive (H : Heap) : callW P f_L16_alive [] H = some (ab true, H) := by
  rw [callW_eq]; rfl
theorem WrU_by {p : Um} {w : Nat} {out : List Nat} (h : WrU p w out) (hf : ∀ f ∈ p.ff, Bytes f.2) : Bytes out := by
  obtain ⟨a1, a2, x1, x2, rfl⟩ := h
  intro b hb
  rcases List.mem_append.1 hb with hb | hb
  · rcases List.mem_append.1 hb with hb | hb
    · exact x1.byte b hb
    · exact x2.byte b hb
  · obtain ⟨f, hf1, hf2⟩ := List.mem_flatten.1 hb
    obtain ⟨c, hc, rfl⟩ := List.mem_map.1 hf1
    exact hf c hc b hf2
theorem bR_bytes {q : QM} (hq : q.Ok) (w : Nat) (g : Int) (next : Nat) : ∀ f ∈ (umOf (bR q w g) next).ff, Bytes f.2 := fun f hf => by
  obtain ⟨b, hb, rfl⟩ := List.mem_map.1 hf
  exact (cutQ_F (room := rmOf w g) (w := 11) Bytes (fun b i n hb x hx => hb.2 x (List.mem_of_mem_drop (List.mem_of_mem_take hx))) 24 q [] [] 0 0 hq (fun f hf => by simp at hf)).1 b hb
section
variable {rq rs : Nat} {c : Cfg} {w : Nat} {zo : Bool} {l : List UOp}
end
end Go.A.V.S

namespace Go.A.V.S
open Go Go.A Go.A.V
set_option linter.unusedSimpArgs false
set_option linter.unusedVariables false
/-- What a push that is taken does, behind a Discard of the same. -/
theorem push_yes {q : QM} {b : List Nat} (h : (q.push b).2.2 = 0) : q.push b = (⟨q.room, q.l ++ [(q.last + 1, b)], q.taken, q.last + 1⟩, q.last + 1, 0) := by
  unfold QM.push at h ⊢
  by_cases h1 : b.length = 0
  · rw [if_pos h1] at h; simp at h
  rw [if_neg h1] at h ⊢
  by_cases h2 : 1000 < b.length
  · rw [if_pos h2] at h; simp at h
  rw [if_neg h2] at h ⊢
  by_cases h3 : 64 ≤ q.l.length ∨ q.room < q.bytes + b.length
  · rw [if_pos h3] at h; simp at h
  rw [if_neg h3]
theorem push_no {q : QM} {b : List Nat} (h : (q.push b).2.2 ≠ 0) : (q.push b).1 = q := by
  unfold QM.push at h ⊢
  by_cases h1 : b.length = 0
  · rw [if_pos h1]
  rw [if_neg h1] at h ⊢
  by_cases h2 : 1000 < b.length
  · rw [if_pos h2]
  rw [if_neg h2] at h ⊢
  by_cases h3 : 64 ≤ q.l.length ∨ q.room < q.bytes + b.length
  · rw [if_pos h3]
  rw [if_neg h3] at h; simp at h
end Go.A.V.S

namespace Go.A.V.S
open Go Go.A Go.A.V
set_option linter.unusedSimpArgs false
set_option linter.unusedVariables false
theorem lst_strP (H : Heap) (z : Bool) (f : Option Nat) (l : List Nat) : strV H (lst z 1 f (byteCs l)) = some (.c (.string (strB l))) := by
  have h : ∀ f, strV H (.vs 1 f (byteCs l)) = some (.c (.string (strB l))) := fun f => by
    simp only [strV]
    rw [if_pos trivial, Go.A.byteCs_flat, bytesOf_au]
    rfl
  rcases lst_cases z 1 f (byteCs l) with ⟨_, e1, e⟩ | ⟨e, _⟩
  · have : l = [] := by simpa [byteCs] using e1
    subst this
    rw [e]; rfl
  · rw [e]; exact h f
/-- Grants. -/
def wvs (l : List Nat) : List (List AV) := l.map fun (n : Nat) => [.c (.int .u16 n)]
theorem wvs_len (l : List Nat) : (wvs l).length = l.length := by simp [wvs]
theorem wvs_at {l : List Nat} {i n : Nat} (h : l[i]? = some n) (z : Bool) (f : Option Nat) (k : IntKind) : iaddrW 1 none (lst z 1 f (wvs l)) (.c (.int k i)) = some (.vp [.c (.int .u16 n)] 0) := iaddrW_lst _ _ _ (by simp [wvs, h]) k
end Go.A.V.S

namespace Go.A.V.S
open Go Go.A Go.A.V
set_option linter.unusedSimpArgs false
set_option linter.unusedVariables false
theorem isss_words : ∀ (l : List (List AV)), (∀ cs ∈ l, V.CT.iss [.i .u16] cs) → ∃ b : List Nat, l = wvs b ∧ ∀ n ∈ b, n < 65536
  | [], _ => ⟨[], rfl, by simp⟩
  | x :: r, h => by
    have h1 := h x (by simp)
    obtain ⟨c0, r0, rfl, h0, h1⟩ := iss_cons h1
    obtain rfl := iss_nil h1
    obtain ⟨a0, rfl, ha⟩ := is_i h0
    obtain ⟨b, rfl, hb⟩ := isss_words r (fun cs hc => h cs (by simp [hc]))
    have hn : ∃ n : Nat, a0 = n ∧ n < 65536 := by
      simp only [Lit.wf, Bool.and_eq_true, decide_eq_true_eq] at ha
      have h1 : IntKind.u16.min = 0 := by decide
      have h2 : IntKind.u16.max = 65535 := by decide
      rw [h1, h2] at ha
      exact ⟨a0.toNat, by omega, by omega⟩
    obtain ⟨n, rfl, hn⟩ := hn
    exact ⟨n :: b, rfl, fun y hy => by
      rcases List.mem_cons.1 hy with rfl | hy
      · exact hn
      · exact hb y hy⟩
theorem is_words {c : AV} (h : V.CT.is (.sl [.i .u16]) c) : ∃ (z : Bool) (l : List Nat), c = lst z 1 none (wvs l) ∧ ∀ n ∈ l, n < 65536 := by
  rw [V.CT.is] at h
  obtain ⟨z, l, rfl, hl⟩ := h
  obtain ⟨os, rfl, ho⟩ := isss_words l hl
  exact ⟨z, os, rfl, ho⟩
end Go.A.V.S
