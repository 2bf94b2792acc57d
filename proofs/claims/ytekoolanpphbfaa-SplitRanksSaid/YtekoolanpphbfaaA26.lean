/- THE ABSTRACT MACHINE: rows of one's own. -/
import Derived.Test.YtekoolanpphbfaaA25
set_option linter.unusedSimpArgs false
set_option linter.unusedVariables false
set_option linter.unnecessarySimpa false
namespace Go.A
open Go

def mksV (H : Heap) (sz bytes : Nat) (zs : List AV) (l c : AV) : Option (AV × Heap) := match l, c with
  | .c (.int _ l), .c (.int _ c) => if 0 ≤ l ∧ l ≤ c ∧ c ≤ appBound ∧ c * bytes ≤ appBound then
      some (.sl H.length 0 l.toNat c.toNat sz (c.toNat * sz) true, H ++ [.row (rep zs c.toNat)]) else none
  | _, _ => none
theorem opA_mks (C : Oracle) (d : Option Nat) (σ : List AV) (H : Heap) (sz bytes : Nat) (zs : List AV) (l c : SX) : opA C d (.mks sz bytes zs l c) σ H = (mksV H sz bytes zs (evalX σ l) (evalX σ c)).map fun p => (p.1, σ, p.2) := by
  simp only [opA, mksV]
  split
  · rename_i h1 h2
    rw [h1, h2]
    dsimp only
    split <;> rfl
  · split
    · rename_i h _ _ _ _ _ _ h1 h2; exact (h _ _ _ _ h1 h2).elim
    · rfl
attribute [simp] opA_mks

theorem rep_one (v : AV) : ∀ n, rep [v] n = List.replicate n v
  | 0 => rfl
  | n + 1 => by rw [rep, rep_one v n]; rfl

theorem mks_ok (H : Heap) (sz bytes n : Nat) (zs : List AV) (h1 : n ≤ appBound) (h2 : n * bytes ≤ appBound) : mksV H sz bytes zs (ai n) (ai n) = some (.sl H.length 0 n n sz (n * sz) true, H ++ [.row (rep zs n)]) := by
  simp only [mksV, Int.toNat_natCast]
  rw [if_pos]
  refine ⟨by omega, by omega, by omega, ?_⟩
  exact_mod_cast h2

theorem wr1 {H : Heap} {r : Nat} {cs : List AV} (h : H[r]? = some (.row cs)) {i : Nat} {v : AV} (hi : i < cs.length) (hv : okCell v = true) : wrRow H r i cs.length [v] = some (H.set r (.row (cs.set i v))) := by
  rw [wrRow_row h (by simp; omega) (by simp [hv])]
  congr 3
  rw [List.set_eq_take_append_cons_drop, if_pos hi]
  simp

theorem set_new (H : Heap) (x y : AObj) : (H ++ [x]).set H.length y = H ++ [y] := by
  rw [List.set_append_right _ _ (Nat.le_refl _)]
  simp

theorem get_new (H : Heap) (x : AObj) : (H ++ [x])[H.length]? = some x := by simp

theorem storeA_row (σ : List AV) {H : Heap} {r : Nat} {cs : List AV} (h : H[r]? = some (.row cs)) {i : Nat} {v : AV} (hi : i < cs.length) (hv : okCell v = true) : storeA σ H none (.ptr r i cs.length) v = some (σ, H.set r (.row (cs.set i v))) := by
  simp only [storeA, wr1 h hi hv, Option.map_some]

theorem Sl.own {H : Heap} {r : Nat} {cs : List AV} (h : H[r]? = some (.row cs)) (n : Nat) (hn : n = cs.length) : Sl H 1 (.sl r 0 n n 1 n true) (cs.map fun c => [c]) := by
  subst hn
  refine .inr ⟨r, 0, cs.length, 1, cs.length, true, by simp, by simp, fun i x hx => ?_⟩
  rw [List.getElem?_map] at hx
  cases hc : cs[i]? with
  | none => rw [hc] at hx; simp at hx
  | some c =>
    rw [hc] at hx
    obtain rfl := Option.some.inj hx
    have hi := (List.getElem?_eq_some_iff.1 hc).1
    rw [rdRow_row h (by omega)]
    simp only [Nat.zero_add, Nat.mul_one, List.take_one, List.head?_drop, hc]
    rfl
end Go.A
