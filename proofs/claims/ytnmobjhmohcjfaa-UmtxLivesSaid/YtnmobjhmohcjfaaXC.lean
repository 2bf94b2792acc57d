/- The plain law: a packet's bytes are read back. -/
import Derived.Test.YtnmobjhmohcjfaaXB
import Derived.Test.YtnmobjhmohcjfaaR3
set_option linter.unusedSimpArgs false
set_option linter.unusedVariables false
set_option linter.unnecessarySimpa false
namespace Go.A.V.S
open Go Go.A
end Go.A.V.S

namespace Go.A.V.S
open Go Go.A
section
variable {w : Nat} {l lb rest : List Nat}
end
end Go.A.V.S

namespace Go.A.V.S
open Go Go.A
end Go.A.V.S

namespace Go.A.V.S
open Go Go.A
def sl (bs : List Nat) (a n : Nat) : List Bool := ((bitsB bs).drop a).take n
end Go.A.V.S

namespace Go.A.V.S
open Go Go.A
end Go.A.V.S

namespace Go.A.V.S
open Go Go.A
end Go.A.V.S

namespace Go.A.V.S
open Go Go.A
end Go.A.V.S

namespace Go.A.V.S
open Go Go.A
theorem sumR_of : ∀ (ff : List (List Nat)) (n : Nat),(∀ f ∈ ff,f.length ≠ 0) → (∀ f ∈ ff.dropLast,f.length ≤ 2047) → n + ff.flatten.length ≤ 4000 → sumR n ff = n + ff.flatten.length
 | [],n,_,_,_ => by simp [sumR]
 | f :: r,n,h1,h2,h3 => by
  rw [List.flatten_cons,List.length_append] at h3 ⊢
  have c2 : ¬ (2047 < f.length ∧ 0 < r.length) := fun ⟨a,b⟩ => by
   cases r with
   | nil => simp at b
   | cons g s =>
    have := h2 f (by simp)
    omega
  rw [sumR,if_neg (h1 f (by simp)),if_neg c2,if_neg (by omega),sumR_of r (n + f.length) (fun x hx => h1 x (by simp [hx])) (fun x hx => h2 x (by
   cases r with
   | nil => simp at hx
   | cons g s => exact List.mem_cons_of_mem _ hx)) (by omega)]
  omega
end Go.A.V.S

namespace Go.A.V.S
open Go Go.A
end Go.A.V.S

namespace Go.A.V.S
open Go Go.A
end Go.A.V.S

namespace Go.A.V.S
open Go Go.A
theorem len_le_sum : ∀ {l : List (List Nat)} {f : List Nat},f ∈ l → f.length ≤ (l.map List.length).sum
 | a :: r,f,h => by
  rw [List.map_cons,List.sum_cons]
  rcases List.mem_cons.1 h with rfl | h
  ·omega
  ·have := len_le_sum h; omega
end Go.A.V.S

namespace Go.A.V.S
open Go Go.A Go.A.V
theorem u8_wf {z : Int} (h : (Lit.int .u8 z).wf = true) : ∃ n : Nat,z = n ∧ n < 256 := by
 simp only [Lit.wf,Bool.and_eq_true,decide_eq_true_eq] at h
 have h1 : IntKind.u8.min = 0 := by decide
 have h2 : IntKind.u8.max = 255 := by decide
 rw [h1,h2] at h
 exact ⟨z.toNat,by omega,by omega⟩
theorem iss_byte {cs : List AV} (h : V.CT.iss [.i .u8] cs) : ∃ n : Nat,n < 256 ∧ cs = [.c (.int .u8 (n : Nat))] := by
 simp only [V.CT.iss,V.CT.is] at h
 obtain ⟨c,r,rfl,⟨z,rfl,hz⟩,rfl⟩ := h
 obtain ⟨n,rfl,hn⟩ := u8_wf hz
 exact ⟨n,hn,rfl⟩
theorem isss_bytes : ∀ (l : List (List AV)),(∀ cs ∈ l,V.CT.iss [.i .u8] cs) → ∃ b : List Nat,l = byteCs b ∧ Bytes b
 | [],_ => ⟨[],rfl,by simp [Bytes]⟩
 | x :: r,h => by
  obtain ⟨n,hn,rfl⟩ := iss_byte (h x (by simp))
  obtain ⟨b,rfl,hb⟩ := isss_bytes r (fun cs hc => h cs (by simp [hc]))
  exact ⟨n :: b,rfl,fun y hy => by
   rcases List.mem_cons.1 hy with rfl | hy
   ·exact hn
   ·exact hb y hy⟩
theorem is_bytes {c : AV} (h : V.CT.is (.sl [.i .u8]) c) : ∃ b : Bs,c = bv b ∧ Bytes b.2 := by
 simp only [V.CT.is] at h
 obtain ⟨z,l,rfl,hl⟩ := h
 obtain ⟨b,rfl,hb⟩ := isss_bytes l hl
 exact ⟨(z,b),rfl,hb⟩
theorem iss_cons {t : V.CT} {ts : List V.CT} {cs : List AV} (h : V.CT.iss (t :: ts) cs) : ∃ c r,cs = c :: r ∧ t.is c ∧ V.CT.iss ts r := by simpa only [V.CT.iss] using h
theorem iss_nil {cs : List AV} (h : V.CT.iss [] cs) : cs = [] := by simpa only [V.CT.iss] using h
theorem is_i {k : IntKind} {c : AV} (h : V.CT.is (.i k) c) : ∃ z,c = .c (.int k z) ∧ (Lit.int k z).wf = true := by simpa only [V.CT.is] using h
end Go.A.V.S
