/- Bits, lengths, fields, heads: plain words and laws. -/
import Derived.Test.YtnmobjhmohcjfaaAX
import Derived.Test.YtnmobjhmohcjfaaK1P
set_option linter.unusedSimpArgs false
set_option linter.unusedVariables false
set_option linter.unnecessarySimpa false
namespace Go.A.V.S
open Go Go.A
set_option linter.unusedSimpArgs false
set_option linter.unusedVariables false
theorem byteCs_len (bs : List Nat) : (byteCs bs).length = bs.length := by simp [byteCs]
def lenWd (w : Int) : Nat := if w = 10 then 11 else 15
def headV (part : Bool) (w : Int) : Nat := if w = 10 ∨ w = 16 then (if w = 16 then 3 else 2) + (if part = true then 2 else 0) else 0
/-- lens.Size. -/
def lsize (n w : Nat) : Nat := if n < 1 ∨ n > 23 then 0 else (n * (w + 1) + 7) / 8
end Go.A.V.S

namespace Go.A.V.S
open Go Go.A
set_option linter.unusedSimpArgs false
set_option linter.unusedVariables false

theorem Clone_b (z : Bool) (l : List (List AV)) (hl : l.length ≤ 1000000) (H : Heap) : callW P f_slices_Clone_sbyte_byte [lst z 1 none l] H = some (lst z 1 (some 0) l, H) := by
  rcases lst_cases z 1 none l with ⟨rfl, rfl, e⟩ | ⟨e, h⟩
  · rw [e]; rw [call_L 4 rfl (rfl : P.T f_slices_Clone_sbyte_byte = some F_slices_Clone_sbyte_byte) (le_ok rfl)]; simp -implicitDefEqProofs [-toCells, -AV.one, -forget, F_slices_Clone_sbyte_byte, c_slices_Clone_sbyte_byte]
  · have hap := fun σ H => appW_vs (m := P.md f_slices_Clone_sbyte_byte) (d := 7) (bytes := 1) (c := 5) (l := []) (fun H => elems_vs H 1 none l) (by simp [appBound]; omega) (by simp [appBound]; omega) σ H
    rw [e]; rw [call_L 4 rfl (rfl : P.T f_slices_Clone_sbyte_byte = some F_slices_Clone_sbyte_byte) (le_ok rfl)]; simp -implicitDefEqProofs [-toCells, -AV.one, -forget, F_slices_Clone_sbyte_byte, c_slices_Clone_sbyte_byte, hap]
    simp [lst, h]

/-- Slices of bytes: are they nil if they have none; their bytes. -/
abbrev Bs := Bool × List Nat
def bv (b : Bs) : AV := lst b.1 1 none (byteCs b.2)
def bcut (b : Bs) (i j : Nat) : Bs := (b.1 && b.2.isEmpty, (b.2.take j).drop i)
theorem byteCs_emp (l : List Nat) : (byteCs l).isEmpty = l.isEmpty := by cases l <;> rfl
theorem bv_len (b : Bs) : lenW (bv b) = some b.2.length := by rw [bv, lenW_lst, byteCs_len]
theorem bv_box (b : Bs) : (bv b).isBox = false := lst_box _ _ _ _
theorem bv_free (b : Bs) : (bv b).free = true := lst_free _ _ _ _
theorem bv_one (b : Bs) : (bv b).one = true := lst_one _ _ _ _
theorem bv_ev (n : Nat) (b : Bs) : ev1 n (bv b) = bv b := lst_ev _ _ _ _ _
theorem bv_pln (b : Bs) : pln (bv b) = bv b := lst_pln _ _ _ _
theorem bv_unfl (cs : List Nat) (b : Bs) : unfl cs (bv b) = bv b := lst_unfl _ _ _ _ _
theorem bv_frz (n : Nat) (H : Heap) (b : Bs) : frz n H (bv b) = some (bv b) := frz_lst _ _ _ _ _ _
theorem byteCs_tk (l : List Nat) (i j : Nat) : ((byteCs l).take j).drop i = byteCs ((l.take j).drop i) := by simp [byteCs, List.map_take, List.map_drop]
theorem bv_cut {b : Bs} {lo hi : Option AV} {i j : Nat} (h1 : lo = none ∧ i = 0 ∨ ∃ kk, lo = some (.c (.int kk i))) (h2 : hi = none ∧ j = b.2.length ∨ ∃ kk, hi = some (.c (.int kk j))) (hij : i ≤ j) (hj : j ≤ b.2.length) (d : Option Nat) :
    cutV 1 d (bv b) lo hi none = some (bv (bcut b i j)) := by
  rw [bv, cutV_lst (i := i) (j := j) _ _ _ _ _ h1 (by rw [byteCs_len]; exact h2) hij (by rw [byteCs_len]; exact hj), cutL, byteCs_emp, byteCs_tk]
  rfl
/-- b[i:]. -/
theorem bv_from {b : Bs} {i : Nat} (hi : i ≤ b.2.length) (k : IntKind) (d : Option Nat) : cutV 1 d (bv b) (some (.c (.int k i))) none none = some (bv (bcut b i b.2.length)) := bv_cut (.inr ⟨k, rfl⟩) (.inl ⟨rfl, rfl⟩) hi (Nat.le_refl _) d
/-- b[:j:j]. -/
theorem bv_to3 {b : Bs} {j : Nat} (hj : j ≤ b.2.length) (k k2 : IntKind) (d : Option Nat) : cutV 1 d (bv b) none (some (.c (.int k j))) (some (.c (.int k2 j))) = some (lst (bcut b 0 j).1 1 d (byteCs (bcut b 0 j).2)) := by
  rw [bv, cutV_3 (i := 0) (j := j) _ _ _ _ _ (.inl ⟨rfl, rfl⟩) k k2 (Nat.zero_le _) (by rw [byteCs_len]; exact hj), cutL, byteCs_emp, byteCs_tk]
  rfl
theorem bv_recolT (dd : Nat) (b : Bs) (r : List AV) (σ : List AV) (H : Heap) : recol (some dd) (.tup (bv b :: r)) σ H = (.tup (bv b :: plns r), σ.map (unfl [dd]), H) := recol_tupL _ _ _ _ _ _ _ _
attribute [simp] bv_recolT bv_len bv_box bv_free bv_one bv_ev bv_pln bv_unfl bv_frz
theorem Clone_bs (b : Bs) (hl : b.2.length ≤ 1000000) (H : Heap) : callW P f_slices_Clone_sbyte_byte [bv b] H = some (lst b.1 1 (some 0) (byteCs b.2), H) := Clone_b b.1 (byteCs b.2) (by rw [byteCs_len]; exact hl) H

/-! ### The reader -/
end Go.A.V.S

namespace Go.A.V.S
open Go Go.A
set_option linter.unusedSimpArgs false
set_option linter.unusedVariables false

theorem call_post {p : VP} {f : FuncId} {s : SFun} {args : List AV} {H : Heap} {Q : AV × Heap → Prop} (k n : Nat) (hx : p.X f args H = none) (ht : p.T f = some s) (hn : s.nslots = n) (hl : args.length ≤ n) (R : AExit → List AV → Heap → Prop)
    (h2 : ∀ e σ G, R e σ G → e.ends = true ∧ ∃ v, resultsA s.res σ = some v ∧ v.free = true ∧ Ends (finish (p.K f) (p.C f) H.length v G) Q)
    (h1 : Ends (execW p f s.body (L n (putAll 0 args (Tr.full k))) H) fun st => R st.e st.σ st.H) : Ends (callW p f args H) Q := by
  subst hn
  refine call_rule hx ht ?_
  rw [slots0_L k s.nslots args hl]
  refine h1.mono fun st h => ?_
  obtain ⟨q1, v, q2, q3, q4⟩ := h2 _ _ _ h
  exact ⟨q1, v, q2, q3, q4⟩
theorem scope_ends {p : VP} {f : FuncId} {tail sc : SCode} {l : Nat} (I : Nat → List AV → Heap → Prop) (Q : AExit → List AV → Heap → Prop) (hsc : sc = .seq .skip tail)
    (step : ∀ n σ H, I n (kill (headK tail) σ) H → Ends (execW p f tail σ H) fun s => if s.e = .goto l then ∃ m, m < n ∧ I m (kill (headK tail) s.σ) s.H else Q s.e s.σ s.H)
    (n : Nat) (σ : List AV) (H : Heap) (h : I n (kill (headK tail) σ) H) : Ends ((execW p f tail σ H).bind (jumpW p f sc l)) fun s => Q s.e s.σ s.H := by
  subst hsc
  exact (scope_rule I Q step n σ H h).mono fun s h => h.2
theorem jump_ret {p : VP} {f : FuncId} (r : SCode) (l : Nat) (σ : List AV) (H : Heap) : jumpW p f r l ⟨.ret, σ, H⟩ = some ⟨.ret, σ, H⟩ := jumpW_done (by simp)
attribute [simp] jump_ret
section
variable {H : Heap} {rr : Nat} {b : Bs}
end
end Go.A.V.S

namespace Go.A.V.S
open Go Go.A
set_option linter.unusedSimpArgs false
set_option linter.unusedVariables false

/-- An element more, that is one cell. -/
theorem app1 {m : Md} {d bytes : Nat} {l : List (List AV)} {v : AV} (hm : m.row (some d) = false) (hb : bytes ≤ 1000) (h : l.length ≤ 100000) (f : Option Nat) (σ : List AV) (H : Heap) :
    appW m (some d) 1 bytes (lst true 1 (some d) l) (.vs 1 f [[v]]) σ H = some (lst true 1 (some d) (l ++ [[v]]), σ.map (unfl [d]), H) :=
  appW_lst hm (fun H => elems_vs H 1 f [[v]]) (by
    have : (l.length + 1) * bytes ≤ 100001 * 1000 := Nat.mul_le_mul (by omega) hb
    simp only [List.length_cons, List.length_nil, appBound, Nat.zero_add]; omega) (by simp only [List.length_cons, List.length_nil, appBound]; omega) σ H

section
variable {M : Heap} {rr : Nat} {b : Bs}
end
end Go.A.V.S

namespace Go.A.V.S
open Go Go.A
set_option linter.unusedSimpArgs false
set_option linter.unusedVariables false

/-- Where the first such element is. -/
def idxOf (p : List AV → Bool) : List (List AV) → Nat → Option Nat
  | [], _ => none
  | c :: r, i => if p c = true then some i else idxOf p r (i + 1)
def idxZ (o : Option Nat) : Int := match o with
  | some i => i
  | none => -1
theorem idxOf_any {p : List AV → Bool} : ∀ (l : List (List AV)) (i : Nat), (idxOf p l i).isSome = l.any p
  | [], _ => rfl
  | c :: r, i => by
    simp only [idxOf, List.any_cons]
    cases h : p c
    · simp [idxOf_any r (i + 1)]
    · simp
section
variable {f0 : FuncId} {k : Nat} {ld : Option Nat}
def InvI (z : Bool) (k : Nat) (l : List (List AV)) (f : FuncId) (cs : List AV) (p : List AV → Bool) (H : Heap) (n : Nat) (σ : List AV) (G : Heap) : Prop :=
  ∃ i, i + n = l.length ∧ idxOf p l 0 = idxOf p (l.drop i) i ∧ G = H ∧ σ = L 19 (((((Tr.full 5).put (path 0) (lst z k none l)).put (path 1) (.fn f cs)).put (path 7) (ai l.length)).put (path 8) (ai i))
def PostI (l : List (List AV)) (p : List AV → Bool) (H : Heap) (e : AExit) (σ : List AV) (G : Heap) : Prop :=
  G = H ∧ ((e = .exit 0 ∧ idxOf p l 0 = none ∧ kill [0, 1, 7, 8, 9] σ = L 19 (Tr.full 5)) ∨ (e = .ret ∧ ∃ j, idxOf p l 0 = some j ∧ resultsA (idxFun k ld).res σ = some (ai (j : Nat))))
theorem idx_loop (hl : ld = some k ∨ (ld = none ∧ k = 1)) {z : Bool} {l : List (List AV)} (hk : ∀ c ∈ l, c.length = k) (hm : l.length ≤ 1000000000) {f : FuncId} {cs : List AV} {p : List AV → Bool} (hW : (P.W f0 || !P.W f) = true) {H : Heap}
    (hpl : ∀ c ∈ l, (elemV ld c).free = true ∧ (elemV ld c).isBox = false ∧ pln (elemV ld c) = elemV ld c) (hf : ∀ c ∈ l, callW P f (elemV ld c :: cs) H = some (ab (p c), H)) (n : Nat) (σ : List AV) (G : Heap) (hI : InvI z k l f cs p H n (kill (headK (idxLp k ld)) σ) G) :
    Ends (execW P f0 (.loop (idxLp k ld)) σ G) fun s => PostI (k := k) (ld := ld) l p H s.e s.σ s.H := by
  refine loop_ends (fun n σ G => InvI z k l f cs p H n σ G) (PostI (k := k) (ld := ld) l p H) ?_ n σ G hI
  clear hI n σ G
  rintro n σ G ⟨i, hn, hidx, rfl, rfl⟩
  by_cases hi : i < l.length
  · have hi' : (i : Int) < l.length := by omega
    obtain ⟨c, hc⟩ : ∃ c, l[i]? = some c := ⟨_, List.getElem?_eq_getElem hi⟩
    have hmem := List.mem_of_getElem? hc
    have q1 := iaddrW_lst z k none hc .i64
    have hlen := hk c hmem
    have q2 : fromCells ld c 0 = some (elemV ld c) := by
      rcases hl with rfl | ⟨rfl, rfl⟩
      · subst hlen; simp [fromCells, elemV]
      · match c, hlen with
        | [x], _ => rfl
    obtain ⟨p1, p2, p3⟩ := hpl c hmem
    have q3 := hf c hmem
    have hdr : l.drop i = c :: l.drop (i + 1) := by
      rw [List.drop_eq_getElem_cons hi]
      rw [List.getElem?_eq_getElem hi] at hc
      rw [Option.some.inj hc]
    rw [hdr, idxOf] at hidx
    have p4 := fun n => ev1_nb p2 n
    have w1 : IntKind.i64.wrap ((i : Int) + 1) = ((i + 1 : Nat) : Int) := by rw [wrap_i64 (by omega) (by omega)]; omega
    have hW' : P.W f0 = true ∨ P.W f = false := by simpa using hW
    generalize elemV ld c = x at *
    obtain ⟨i1, hi1⟩ : ∃ t, i + 1 = t := ⟨_, rfl⟩
    rw [hi1] at w1 hidx
    cases hp : p c with
    | true =>
      rw [hp] at hidx q3
      simp -implicitDefEqProofs [-toCells, -AV.one, -fromCells, idxLp, hi, hi', q1, q2, p1, p2, p3, p4, q3, hW']
      exact ⟨rfl, .inr ⟨rfl, i, by simpa using hidx, by simp [idxFun]⟩⟩
    | false =>
      rw [hp] at hidx q3
      simp -implicitDefEqProofs [-toCells, -AV.one, -fromCells, idxLp, hi, hi', q1, q2, p1, p2, p3, p4, q3, w1, hW']
      exact ⟨n - 1, by omega, i1, by omega, by simpa using hidx, rfl, by simp⟩
  · have hi' : ¬ (i : Int) < l.length := by omega
    have hd : l.drop i = [] := List.drop_eq_nil_of_le (by omega)
    rw [hd, idxOf] at hidx
    simp -implicitDefEqProofs [-toCells, -AV.one, -fromCells, idxLp, hi, hi']
    exact ⟨rfl, .inl ⟨rfl, hidx, by simp⟩⟩
theorem idx_call (hT : P.T f0 = some (idxFun k ld)) (hX : ∀ a H, P.X f0 a H = none) (hK : P.K f0 = false) (hl : ld = some k ∨ (ld = none ∧ k = 1)) {z : Bool} {l : List (List AV)} (hk : ∀ c ∈ l, c.length = k) (hm : l.length ≤ 1000000000) {f : FuncId} {cs : List AV} {p : List AV → Bool} (hW : (P.W f0 || !P.W f) = true) {H : Heap}
    (hpl : ∀ c ∈ l, (elemV ld c).free = true ∧ (elemV ld c).isBox = false ∧ pln (elemV ld c) = elemV ld c) (hf : ∀ c ∈ l, callW P f (elemV ld c :: cs) H = some (ab (p c), H)) : callW P f0 [lst z k none l, .fn f cs] H = some (ai (idxZ (idxOf p l 0)), H) := by
  rw [ends_eq]
  refine call_post 5 19 (hX _ _) hT rfl (le_ok rfl) (fun e σ G => e = .ret ∧ G = H ∧ resultsA (idxFun k ld).res σ = some (ai (idxZ (idxOf p l 0)))) ?_ ?_
  · rintro e σ G ⟨rfl, rfl, h⟩
    exact ⟨rfl, _, h, rfl, by simp [hK]⟩
  rw [idxFun]
  simp -implicitDefEqProofs [-toCells, -AV.one, idxCode]
  repeat rw [Option.bind_assoc]
  refine Ends.block (P := PostI (k := k) (ld := ld) l p H) (idx_loop (z := z) hl hk hm hW hpl hf l.length _ _ ⟨0, by omega, by simp, rfl, by simp [idxLp]⟩) ?_
  rintro e σ1 G1 ⟨rfl, ⟨rfl, k1, k2⟩ | ⟨rfl, j, k1, k2⟩⟩
  · simp -implicitDefEqProofs [k2]
    simp [k1, idxFun, idxZ]
  · simp [idxFun] at k2
    simp -implicitDefEqProofs [k1, idxZ, k2]
theorem cnt_call {f1 : FuncId} (hT1 : P.T f1 = some (cntFun f0)) (hX1 : ∀ a H, P.X f1 a H = none) (hK1 : P.K f1 = false) (hW1 : (P.W f1 || !P.W f0) = true) (hT : P.T f0 = some (idxFun k ld)) (hX : ∀ a H, P.X f0 a H = none) (hK : P.K f0 = false) (hl : ld = some k ∨ (ld = none ∧ k = 1)) {z : Bool} {l : List (List AV)} (hk : ∀ c ∈ l, c.length = k) (hm : l.length ≤ 1000000000) {f : FuncId} {cs : List AV} (hcs : AV.freeAll cs = true) {p : List AV → Bool} (hW : (P.W f0 || !P.W f) = true) {H : Heap}
    (hpl : ∀ c ∈ l, (elemV ld c).free = true ∧ (elemV ld c).isBox = false ∧ pln (elemV ld c) = elemV ld c) (hf : ∀ c ∈ l, callW P f (elemV ld c :: cs) H = some (ab (p c), H)) : callW P f1 [lst z k none l, .fn f cs] H = some (ab (l.any p), H) := by
  have h := idx_call (z := z) hT hX hK hl hk hm hW hpl hf
  have hW' : P.W f1 = true ∨ P.W f0 = false := by simpa using hW1
  rw [call_L 4 (hX1 _ _) hT1 (le_ok rfl)]
  have hany := idxOf_any (p := p) l 0
  cases hi : idxOf p l 0 with
  | none =>
    rw [hi] at h hany
    simp only [idxZ] at h
    rw [← hany]
    simp -implicitDefEqProofs [-toCells, -AV.one, cntFun, h, hW', hcs, hK1]
  | some j =>
    rw [hi] at h hany
    simp only [idxZ] at h
    rw [← hany]
    have h0 : (j : Int) ≥ 0 := by omega
    simp -implicitDefEqProofs [-toCells, -AV.one, cntFun, h, hW', hcs, hK1, h0]
end
end Go.A.V.S

namespace Go.A.V.S
open Go Go.A
set_option linter.unusedSimpArgs false
set_option linter.unusedVariables false

end Go.A.V.S

namespace Go.A.V.S
open Go Go.A
set_option linter.unusedSimpArgs false
set_option linter.unusedVariables false

section
variable {M : Heap} {rr : Nat} {b : Bs}
end
end Go.A.V.S

namespace Go.A.V.S
open Go Go.A
set_option linter.unusedSimpArgs false
set_option linter.unusedVariables false

end Go.A.V.S

namespace Go.A.V.S
open Go Go.A
set_option linter.unusedSimpArgs false
set_option linter.unusedVariables false

section
variable {H : Heap} {l : List Nat} {n lo : Nat}
end

section
variable {H : Heap}
end
end Go.A.V.S

namespace Go.A.V.S
open Go Go.A
set_option linter.unusedSimpArgs false
set_option linter.unusedVariables false

theorem binV_sl (r o l c z g : Nat) (e : Bool) : binV .eql .slice (.sl r o l c z g e) (.c (.slice none 0 0)) = some (ab false) := rfl
theorem binV_sl' (r o l c z g : Nat) (e : Bool) : binV .neq .slice (.sl r o l c z g e) (.c (.slice none 0 0)) = some (ab true) := rfl
attribute [simp] binV_sl binV_sl'
section
variable {H : Heap} {bits : List Bool}
end
end Go.A.V.S

namespace Go.A.V.S
open Go Go.A
set_option linter.unusedSimpArgs false
set_option linter.unusedVariables false

def vo (r n : Nat) : AV := .sl r 0 n n 1 n true
theorem vo_ev (m r n : Nat) : ev1 m (vo r n) = vo r n := rfl
theorem vo_box (r n : Nat) : (vo r n).isBox = false := rfl
theorem vo_free (r n : Nat) : (vo r n).free = true := rfl
theorem vo_one (r n : Nat) : (vo r n).one = true := rfl
theorem vo_cells (r n : Nat) : toCells (vo r n) = [vo r n] := rfl
theorem vo_unfl (cs : List Nat) (r n : Nat) : unfl cs (vo r n) = vo r n := rfl
theorem vo_forget (m r n : Nat) : forget m (vo r n) = vo r n := rfl
theorem vo_pln (r n : Nat) : pln (vo r n) = vo r n := rfl
attribute [simp] vo_ev vo_box vo_free vo_one vo_cells vo_unfl vo_forget vo_pln
theorem bv_elems (H : Heap) (b : Bs) : elems H 1 (bv b) = some (byteCs b.2) := by
  unfold bv
  rcases lst_cases b.1 1 none (byteCs b.2) with ⟨_, h, e⟩ | ⟨e, _⟩
  · rw [e, h]; rfl
  · rw [e]; rfl
section
variable {H : Heap}
def bb (ff : List Bs) : List (List Nat) := ff.map (·.2)
end
end Go.A.V.S

namespace Go.A.V.S
open Go Go.A
set_option linter.unusedSimpArgs false
set_option linter.unusedVariables false

theorem selfE_lst (z : Bool) (k : Nat) (f : Option Nat) (l : List (List AV)) : selfE (lst z k f l) = true := by
  rcases lst_cases z k f l with ⟨_, _, e⟩ | ⟨e, _⟩ <;> rw [e] <;> rfl
theorem goodB_L (n : Nat) (t : Tr) (H : Heap) (d : SOpG) : goodB (L n t) H d = (dstNot d.dst d.reads && (match d.dst with | some t => decide (t < n) | none => false) && match rdV d.op (L n t) H with
  | some v => selfE v
  | none => false) := by
  simp only [goodB, L_length]; rfl
/-! ### A packet -/
structure Pk where
  poll : Bool
  fi : Int
  sn : Int
  part : Bool
  last : Bool
  off : Int
  z : Bool
  ff : List Bs
section
variable {H : Heap}
end
end Go.A.V.S

namespace Go.A.V.S
open Go Go.A
set_option linter.unusedSimpArgs false
set_option linter.unusedVariables false

section
variable {H : Heap}
end
end Go.A.V.S
