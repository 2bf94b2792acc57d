/- Bits, lengths, fields, heads: plain words and laws. -/
import Derived.Test.YtnmobjhmohcjfaaAX
import Derived.Test.YtnmobjhmohcjfaaK1P
set_option linter.unusedSimpArgs false
set_option linter.unusedVariables false
set_option linter.unnecessarySimpa false
namespace Go.A.V.S
open Go Go.A
theorem byteCs_len (bs : List Nat) : (byteCs bs).length = bs.length := by simp [byteCs]
theorem fdiv_pow (b s : Nat) : ((b : Nat) : Int).fdiv (2 ^ s) = ((b / 2 ^ s : Nat) : Int) := by
 have h : ((2 : Int) ^ s) = ((2 ^ s : Nat) : Int) := by simp
 rw [h,Int.fdiv_eq_ediv_of_nonneg _ (Int.natCast_nonneg _)]
 simp
theorem tdiv8 (a : Nat) : ((a : Nat) : Int).tdiv 8 = ((a / 8 : Nat) : Int) := by
 rw [Int.tdiv_eq_ediv_of_nonneg (by omega)]
 simp
theorem tmod8 (a : Nat) : ((a : Nat) : Int).tmod 8 = ((a % 8 : Nat) : Int) := by
 rw [Int.tmod_eq_emod_of_nonneg (by omega)]
 simp
def lenWd (w : Int) : Nat := if w = 10 then 11 else 15
def headV (part : Bool) (w : Int) : Nat := if w = 10 ∨ w = 16 then (if w = 16 then 3 else 2) + (if part = true then 2 else 0) else 0
def lsize (n w : Nat) : Nat := if n < 1 ∨ n > 23 then 0 else (n * (w + 1) + 7) / 8
theorem take_snoc {α : Type} {l : List α} {i : Nat} {x : α} (h : l[i]? = some x) : l.take (i + 1) = l.take i ++ [x] := by
 rw [List.take_add_one,h]; rfl
def bitsOf (v n : Nat) : List Bool := (List.range n).map fun j => decide (v / 2 ^ (n - 1 - j) % 2 = 1)
theorem bitsOf_len (v n : Nat) : (bitsOf v n).length = n := by simp [bitsOf]
theorem bitsOf_take {v n i : Nat} (h : i < n) : (bitsOf v n).take (n - i) = (bitsOf v n).take (n - (i + 1)) ++ [decide (v / 2 ^ i % 2 = 1)] := by
 rw [show n - i = (n - (i + 1)) + 1 by omega,List.take_add_one]
 have : (bitsOf v n)[n - (i + 1)]? = some (decide (v / 2 ^ i % 2 = 1)) := by
  simp only [bitsOf,List.getElem?_map,List.getElem?_range (show n - (i + 1) < n by omega),Option.map_some]
  rw [show n - 1 - (n - (i + 1)) = i by omega]
 rw [this]
 rfl
theorem bitsOf_b (b : Bool) : bitsOf b.toNat 1 = [b] := by cases b <;> rfl
theorem bitsOf_1 : bitsOf 1 1 = [true] := rfl
theorem bitsOf_0 : bitsOf 0 1 = [false] := rfl
def lBits (w : Nat) : List Nat → List Bool
 | [] => []
 | n :: r => decide (0 < r.length) :: (bitsOf n w ++ lBits w r)
theorem lBits_len (w : Nat) : ∀ l : List Nat,(lBits w l).length = l.length * (w + 1)
 | [] => by simp [lBits]
 | n :: r => by
  simp only [lBits,List.length_cons,List.length_append,bitsOf_len,lBits_len w r,Nat.add_mul]
  omega
def sumR : Nat → List (List Nat) → Nat
 | n,[] => n
 | n,f :: r => if f.length = 0 then 0 else if 2047 < f.length ∧ 0 < r.length then 0 else if 4000 < f.length + n then 0 else sumR (n + f.length) r
theorem lsize_le {n w : Nat} (hw : w = 11 ∨ w = 15) (hn : n ≤ 23) : lsize n w ≤ 46 := by
 have : n * (w + 1) ≤ 23 * 16 := Nat.mul_le_mul hn (by omega)
 rw [lsize]
 split <;> omega
theorem flat_take {ff : List (List Nat)} {i : Nat} {x : List Nat} (h : ff[i]? = some x) : (ff.take (i + 1)).flatten = (ff.take i).flatten ++ x := by
 rw [take_snoc h]; simp
theorem flat_le (ff : List (List Nat)) (i : Nat) : (ff.take i).flatten.length ≤ ff.flatten.length := by
 have := List.take_append_drop i ff
 have h2 : ff.flatten.length = (ff.take i).flatten.length + (ff.drop i).flatten.length := by
  conv => lhs; rw [← this,List.flatten_append,List.length_append]
 omega
theorem flat_drop {ff : List (List Nat)} {i : Nat} {x : List Nat} (h : ff[i]? = some x) : (ff.flatten.drop (ff.take i).flatten.length).take x.length = x := by
 have h1 : ff.flatten = (ff.take i).flatten ++ (ff.drop i).flatten := by rw [← List.flatten_append,List.take_append_drop]
 have hi := (List.getElem?_eq_some_iff.1 h).1
 have h2 : ff.drop i = x :: ff.drop (i + 1) := by
  rw [List.drop_eq_getElem_cons hi]
  rw [List.getElem?_eq_getElem hi] at h
  rw [Option.some.inj h]
 rw [h1,List.drop_left,h2]
 simp
end Go.A.V.S

namespace Go.A.V.S
open Go Go.A
theorem Clone_b (z : Bool) (l : List (List AV)) (hl : l.length ≤ 1000000) (H : Heap) : callW P f_q43 [lst z 1 none l] H = some (lst z 1 (some 0) l,H) := by
 rcases lst_cases z 1 none l with ⟨rfl,rfl,e⟩ | ⟨e,h⟩
 ·rw [e]; rw [call_L 4 rfl (rfl : P.T f_q43 = some F_q43) (le_ok rfl)]; simp -implicitDefEqProofs [-toCells,-AV.one,-forget,F_q43,c_q43]
 ·have hap := fun σ H => appW_vs (m := P.md f_q43) (d := 7) (bytes := 1) (c := 5) (l := []) (fun H => elems_vs H 1 none l) (by simp [appBound]; omega) (by simp [appBound]; omega) σ H
  rw [e]; rw [call_L 4 rfl (rfl : P.T f_q43 = some F_q43) (le_ok rfl)]; simp -implicitDefEqProofs [-toCells,-AV.one,-forget,F_q43,c_q43,hap]
  simp [lst,h]
abbrev Bs := Bool × List Nat
def bv (b : Bs) : AV := lst b.1 1 none (byteCs b.2)
def bvs (l : List Bs) : List (List AV) := l.map fun b => [bv b]
def nvs (l : List Nat) : List (List AV) := l.map fun (n : Nat) => [ai n]
def bcut (b : Bs) (i j : Nat) : Bs := (b.1 && b.2.isEmpty,(b.2.take j).drop i)
theorem byteCs_emp (l : List Nat) : (byteCs l).isEmpty = l.isEmpty := by cases l <;> rfl
theorem bv_len (b : Bs) : lenW (bv b) = some b.2.length := by rw [bv,lenW_lst,byteCs_len]
theorem bv_box (b : Bs) : (bv b).isBox = false := lst_box _ _ _ _
theorem bv_free (b : Bs) : (bv b).free = true := lst_free _ _ _ _
theorem bv_one (b : Bs) : (bv b).one = true := lst_one _ _ _ _
theorem bv_cells (b : Bs) : toCells (bv b) = [bv b] := lst_cells _ _ _ _
theorem bv_ev (n : Nat) (b : Bs) : ev1 n (bv b) = bv b := lst_ev _ _ _ _ _
theorem bv_pln (b : Bs) : pln (bv b) = bv b := lst_pln _ _ _ _
theorem bv_unfl (cs : List Nat) (b : Bs) : unfl cs (bv b) = bv b := lst_unfl _ _ _ _ _
theorem bv_frz (n : Nat) (H : Heap) (b : Bs) : frz n H (bv b) = some (bv b) := frz_lst _ _ _ _ _ _
theorem byteCs_tk (l : List Nat) (i j : Nat) : ((byteCs l).take j).drop i = byteCs ((l.take j).drop i) := by simp [byteCs,List.map_take,List.map_drop]
theorem bv_cut {b : Bs} {lo hi : Option AV} {i j : Nat} (h1 : lo = none ∧ i = 0 ∨ ∃ kk,lo = some (.c (.int kk i))) (h2 : hi = none ∧ j = b.2.length ∨ ∃ kk,hi = some (.c (.int kk j))) (hij : i ≤ j) (hj : j ≤ b.2.length) (d : Option Nat) :
  cutV 1 d (bv b) lo hi none = some (bv (bcut b i j)) := by
 rw [bv,cutV_lst (i := i) (j := j) _ _ _ _ _ h1 (by rw [byteCs_len]; exact h2) hij (by rw [byteCs_len]; exact hj),cutL,byteCs_emp,byteCs_tk]
 rfl
theorem bv_from {b : Bs} {i : Nat} (hi : i ≤ b.2.length) (k : IntKind) (d : Option Nat) : cutV 1 d (bv b) (some (.c (.int k i))) none none = some (bv (bcut b i b.2.length)) := bv_cut (.inr ⟨k,rfl⟩) (.inl ⟨rfl,rfl⟩) hi (Nat.le_refl _) d
theorem bv_to3 {b : Bs} {j : Nat} (hj : j ≤ b.2.length) (k k2 : IntKind) (d : Option Nat) : cutV 1 d (bv b) none (some (.c (.int k j))) (some (.c (.int k2 j))) = some (lst (bcut b 0 j).1 1 d (byteCs (bcut b 0 j).2)) := by
 rw [bv,cutV_3 (i := 0) (j := j) _ _ _ _ _ (.inl ⟨rfl,rfl⟩) k k2 (Nat.zero_le _) (by rw [byteCs_len]; exact hj),cutL,byteCs_emp,byteCs_tk]
 rfl
theorem bv_recolT (dd : Nat) (b : Bs) (r : List AV) (σ : List AV) (H : Heap) : recol (some dd) (.tup (bv b :: r)) σ H = (.tup (bv b :: plns r),σ.map (unfl [dd]),H) := recol_tupL _ _ _ _ _ _ _ _
attribute [simp] bv_recolT bv_len bv_box bv_free bv_one bv_cells bv_ev bv_pln bv_unfl bv_frz
theorem Clone_bs (b : Bs) (hl : b.2.length ≤ 1000000) (H : Heap) : callW P f_q43 [bv b] H = some (lst b.1 1 (some 0) (byteCs b.2),H) := Clone_b b.1 (byteCs b.2) (by rw [byteCs_len]; exact hl) H
theorem mn_le {a b : Nat} (h : a ≤ b) : mn (a : Int) (b : Int) = a := by simp only [mn]; rw [if_neg (by omega)]
end Go.A.V.S

namespace Go.A.V.S
open Go Go.A
theorem call_post {p : VP} {f : FuncId} {s : SFun} {args : List AV} {H : Heap} {Q : AV × Heap → Prop} (k n : Nat) (hx : p.X f args H = none) (ht : p.T f = some s) (hn : s.nslots = n) (hl : args.length ≤ n) (R : AExit → List AV → Heap → Prop)
  (h2 : ∀ e σ G,R e σ G → e.ends = true ∧ ∃ v,resultsA s.res σ = some v ∧ v.free = true ∧ Ends (finish (p.K f) (p.C f) H.length v G) Q)
  (h1 : Ends (execW p f s.body (L n (putAll 0 args (Tr.full k))) H) fun st => R st.e st.σ st.H) : Ends (callW p f args H) Q := by
 subst hn
 refine call_rule hx ht ?_
 rw [slots0_L k s.nslots args hl]
 refine h1.mono fun st h => ?_
 obtain ⟨q1,v,q2,q3,q4⟩ := h2 _ _ _ h
 exact ⟨q1,v,q2,q3,q4⟩
theorem scope_ends {p : VP} {f : FuncId} {tail sc : SCode} {l : Nat} (I : Nat → List AV → Heap → Prop) (Q : AExit → List AV → Heap → Prop) (hsc : sc = .seq .skip tail)
  (step : ∀ n σ H,I n (kill (headK tail) σ) H → Ends (execW p f tail σ H) fun s => if s.e = .goto l then ∃ m,m < n ∧ I m (kill (headK tail) s.σ) s.H else Q s.e s.σ s.H)
  (n : Nat) (σ : List AV) (H : Heap) (h : I n (kill (headK tail) σ) H) : Ends ((execW p f tail σ H).bind (jumpW p f sc l)) fun s => Q s.e s.σ s.H := by
 subst hsc
 exact (scope_rule I Q step n σ H h).mono fun s h => h.2
theorem jump_ret {p : VP} {f : FuncId} (r : SCode) (l : Nat) (σ : List AV) (H : Heap) : jumpW p f r l ⟨.ret,σ,H⟩ = some ⟨.ret,σ,H⟩ := jumpW_done (by simp)
attribute [simp] jump_ret
section
variable {H : Heap} {rr : Nat} {b : Bs}
end
end Go.A.V.S

namespace Go.A.V.S
open Go Go.A
theorem lens_isWidth (w : Int) (H : Heap) : callW P f_q68 [ai w] H = some (ab (decide (w = 11 ∨ w = 15)),H) := by
 rw [call_L 4 rfl (rfl : P.T f_q68 = some F_q68) (le_ok rfl)]; simp -implicitDefEqProofs [-toCells,-AV.one,-forget,F_q68,c_q68]
 split <;> simp_all
theorem lens_Size (n w : Nat) (hw : w = 11 ∨ w = 15) (hn : n ≤ 1000000) (H : Heap) : callW P f_q50 [ai n,ai w] H = some (ai (lsize n w : Nat),H) := by
 have h := fun H => lens_isWidth w H
 have hd : decide ((w : Int) = 11 ∨ (w : Int) = 15) = true := by rcases hw with rfl | rfl <;> simp
 rw [hd] at h
 by_cases h1 : n < 1
 ·have h1' : (n : Int) < 1 := by omega
  rw [lsize,if_pos (.inl h1)]
  rw [call_L 5 rfl (rfl : P.T f_q50 = some F_q50) (le_ok rfl)]; simp -implicitDefEqProofs [-toCells,-AV.one,-forget,F_q50,c_q50,h,h1']
 ·have h1' : ¬ (n : Int) < 1 := by omega
  by_cases h2 : n > 23
  ·have h2' : (n : Int) > 23 := by omega
   have h2'' : (23 : Int) < n := by omega
   rw [lsize,if_pos (.inr h2)]
   rw [call_L 5 rfl (rfl : P.T f_q50 = some F_q50) (le_ok rfl)]; simp -implicitDefEqProofs [-toCells,-AV.one,-forget,F_q50,c_q50,h,h1',h2',h2'']
  ·have h2' : ¬ (n : Int) > 23 := by omega
   have h2'' : ¬ (23 : Int) < n := by omega
   rw [lsize,if_neg (by omega)]
   have w1 : IntKind.i64.wrap ((w : Int) + 1) = ((w + 1 : Nat) : Int) := by rw [wrap_i64 (by omega) (by omega)]; omega
   have hm : n * (w + 1) ≤ 23 * 16 := Nat.mul_le_mul (by omega) (by omega)
   have w2 : IntKind.i64.wrap ((n : Int) * (w + 1 : Nat)) = ((n * (w + 1) : Nat) : Int) := by
    have : (n : Int) * ((w + 1 : Nat) : Int) = ((n * (w + 1) : Nat) : Int) := by simp
    rw [this,wrap_i64 (by omega) (by omega)]
   obtain ⟨w',hw'⟩ : ∃ t,w + 1 = t := ⟨_,rfl⟩
   rw [hw'] at w1 w2 hm ⊢
   obtain ⟨p,hp⟩ : ∃ t,n * w' = t := ⟨_,rfl⟩
   rw [hp] at w2 hm ⊢
   have w3 : IntKind.i64.wrap ((p : Int) + 8) = ((p + 8 : Nat) : Int) := by rw [wrap_i64 (by omega) (by omega)]; omega
   obtain ⟨p8,hp8⟩ : ∃ t,p + 8 = t := ⟨_,rfl⟩
   rw [hp8] at w3
   have w4 : IntKind.i64.wrap ((p8 : Int) - 1) = ((p + 7 : Nat) : Int) := by rw [wrap_i64 (by omega) (by omega)]; omega
   obtain ⟨p7,hp7⟩ : ∃ t,p + 7 = t := ⟨_,rfl⟩
   rw [hp7] at w4 ⊢
   have w5 : IntKind.i64.wrap ((p7 : Int).tdiv 8) = ((p7 / 8 : Nat) : Int) := by rw [tdiv8]; exact wrap_i64 (by omega) (by omega)
   have w5' : IntKind.i64.wrap ((p7 : Int) / 8) = ((p7 / 8 : Nat) : Int) := by rw [wrap_i64 (by omega) (by omega)]; omega
   obtain ⟨q,hq⟩ : ∃ t,p7 / 8 = t := ⟨_,rfl⟩
   rw [hq] at w5 w5' ⊢
   rw [call_L 5 rfl (rfl : P.T f_q50 = some F_q50) (le_ok rfl)]; simp -implicitDefEqProofs [-toCells,-AV.one,-forget,F_q50,c_q50,h,h1',h2',h2'',w1,w2,w3,w4,w5,w5']
theorem nvs_snoc (l : List Nat) (n : Nat) : nvs (l ++ [n]) = nvs l ++ [[ai n]] := by simp [nvs]
theorem nvs_len (l : List Nat) : (nvs l).length = l.length := by simp [nvs]
theorem app1 {m : Md} {d bytes : Nat} {l : List (List AV)} {v : AV} (hm : m.row (some d) = false) (hb : bytes ≤ 1000) (h : l.length ≤ 100000) (f : Option Nat) (σ : List AV) (H : Heap) :
  appW m (some d) 1 bytes (lst true 1 (some d) l) (.vs 1 f [[v]]) σ H = some (lst true 1 (some d) (l ++ [[v]]),σ.map (unfl [d]),H) :=
 appW_lst hm (fun H => elems_vs H 1 f [[v]]) (by
  have : (l.length + 1) * bytes ≤ 100001 * 1000 := Nat.mul_le_mul (by omega) hb
  simp only [List.length_cons,List.length_nil,appBound,Nat.zero_add]; omega) (by simp only [List.length_cons,List.length_nil,appBound]; omega) σ H
section
variable {M : Heap} {rr : Nat} {b : Bs}
end
end Go.A.V.S

namespace Go.A.V.S
open Go Go.A
def idxOf (p : List AV → Bool) : List (List AV) → Nat → Option Nat
 | [],_ => none
 | c :: r,i => if p c = true then some i else idxOf p r (i + 1)
def idxZ (o : Option Nat) : Int := match o with
 | some i => i
 | none => -1
theorem idxOf_any {p : List AV → Bool} : ∀ (l : List (List AV)) (i : Nat),(idxOf p l i).isSome = l.any p
 | [],_ => rfl
 | c :: r,i => by
  simp only [idxOf,List.any_cons]
  cases h : p c
  ·simp [idxOf_any r (i + 1)]
  ·simp
section
variable {f0 : FuncId} {k : Nat} {ld : Option Nat}
def InvI (z : Bool) (k : Nat) (l : List (List AV)) (f : FuncId) (cs : List AV) (p : List AV → Bool) (H : Heap) (n : Nat) (σ : List AV) (G : Heap) : Prop :=
 ∃ i,i + n = l.length ∧ idxOf p l 0 = idxOf p (l.drop i) i ∧ G = H ∧ σ = L 19 (((((Tr.full 5).put (path 0) (lst z k none l)).put (path 1) (.fn f cs)).put (path 7) (ai l.length)).put (path 8) (ai i))
def PostI (l : List (List AV)) (p : List AV → Bool) (H : Heap) (e : AExit) (σ : List AV) (G : Heap) : Prop :=
 G = H ∧ ((e = .exit 0 ∧ idxOf p l 0 = none ∧ kill [0,1,7,8,9] σ = L 19 (Tr.full 5)) ∨ (e = .ret ∧ ∃ j,idxOf p l 0 = some j ∧ resultsA (idxFun k ld).res σ = some (ai (j : Nat))))
theorem idx_loop (hl : ld = some k ∨ (ld = none ∧ k = 1)) {z : Bool} {l : List (List AV)} (hk : ∀ c ∈ l,c.length = k) (hm : l.length ≤ 1000000000) {f : FuncId} {cs : List AV} {p : List AV → Bool} (hW : (P.W f0 || !P.W f) = true) {H : Heap}
  (hpl : ∀ c ∈ l,(elemV ld c).free = true ∧ (elemV ld c).isBox = false ∧ pln (elemV ld c) = elemV ld c) (hf : ∀ c ∈ l,callW P f (elemV ld c :: cs) H = some (ab (p c),H)) (n : Nat) (σ : List AV) (G : Heap) (hI : InvI z k l f cs p H n (kill (headK (idxLp k ld)) σ) G) :
  Ends (execW P f0 (.loop (idxLp k ld)) σ G) fun s => PostI (k := k) (ld := ld) l p H s.e s.σ s.H := by
 refine loop_ends (fun n σ G => InvI z k l f cs p H n σ G) (PostI (k := k) (ld := ld) l p H) ?_ n σ G hI
 clear hI n σ G
 rintro n σ G ⟨i,hn,hidx,rfl,rfl⟩
 by_cases hi : i < l.length
 ·have hi' : (i : Int) < l.length := by omega
  obtain ⟨c,hc⟩ : ∃ c,l[i]? = some c := ⟨_,List.getElem?_eq_getElem hi⟩
  have hmem := List.mem_of_getElem? hc
  have q1 := iaddrW_lst z k none hc .i64
  have hlen := hk c hmem
  have q2 : fromCells ld c 0 = some (elemV ld c) := by
   rcases hl with rfl | ⟨rfl,rfl⟩
   ·subst hlen; simp [fromCells,elemV]
   ·match c,hlen with
    | [x],_ => rfl
  obtain ⟨p1,p2,p3⟩ := hpl c hmem
  have q3 := hf c hmem
  have hdr : l.drop i = c :: l.drop (i + 1) := by
   rw [List.drop_eq_getElem_cons hi]
   rw [List.getElem?_eq_getElem hi] at hc
   rw [Option.some.inj hc]
  rw [hdr,idxOf] at hidx
  have p4 := fun n => ev1_nb p2 n
  have w1 : IntKind.i64.wrap ((i : Int) + 1) = ((i + 1 : Nat) : Int) := by rw [wrap_i64 (by omega) (by omega)]; omega
  have hW' : P.W f0 = true ∨ P.W f = false := by simpa using hW
  generalize elemV ld c = x at *
  obtain ⟨i1,hi1⟩ : ∃ t,i + 1 = t := ⟨_,rfl⟩
  rw [hi1] at w1 hidx
  cases hp : p c with
  | true =>
   rw [hp] at hidx q3
   simp -implicitDefEqProofs [-toCells,-AV.one,-fromCells,idxLp,hi,hi',q1,q2,p1,p2,p3,p4,q3,hW']
   exact ⟨rfl,.inr ⟨rfl,i,by simpa using hidx,by simp [idxFun]⟩⟩
  | false =>
   rw [hp] at hidx q3
   simp -implicitDefEqProofs [-toCells,-AV.one,-fromCells,idxLp,hi,hi',q1,q2,p1,p2,p3,p4,q3,w1,hW']
   exact ⟨n - 1,by omega,i1,by omega,by simpa using hidx,rfl,by simp⟩
 ·have hi' : ¬ (i : Int) < l.length := by omega
  have hd : l.drop i = [] := List.drop_eq_nil_of_le (by omega)
  rw [hd,idxOf] at hidx
  simp -implicitDefEqProofs [-toCells,-AV.one,-fromCells,idxLp,hi,hi']
  exact ⟨rfl,.inl ⟨rfl,hidx,by simp⟩⟩
theorem idx_call (hT : P.T f0 = some (idxFun k ld)) (hX : ∀ a H,P.X f0 a H = none) (hK : P.K f0 = false) (hl : ld = some k ∨ (ld = none ∧ k = 1)) {z : Bool} {l : List (List AV)} (hk : ∀ c ∈ l,c.length = k) (hm : l.length ≤ 1000000000) {f : FuncId} {cs : List AV} {p : List AV → Bool} (hW : (P.W f0 || !P.W f) = true) {H : Heap}
  (hpl : ∀ c ∈ l,(elemV ld c).free = true ∧ (elemV ld c).isBox = false ∧ pln (elemV ld c) = elemV ld c) (hf : ∀ c ∈ l,callW P f (elemV ld c :: cs) H = some (ab (p c),H)) : callW P f0 [lst z k none l,.fn f cs] H = some (ai (idxZ (idxOf p l 0)),H) := by
 rw [ends_eq]
 refine call_post 5 19 (hX _ _) hT rfl (le_ok rfl) (fun e σ G => e = .ret ∧ G = H ∧ resultsA (idxFun k ld).res σ = some (ai (idxZ (idxOf p l 0)))) ?_ ?_
 ·rintro e σ G ⟨rfl,rfl,h⟩
  exact ⟨rfl,_,h,rfl,by simp [hK]⟩
 rw [idxFun]
 simp -implicitDefEqProofs [-toCells,-AV.one,idxCode]
 repeat rw [Option.bind_assoc]
 refine Ends.block (P := PostI (k := k) (ld := ld) l p H) (idx_loop (z := z) hl hk hm hW hpl hf l.length _ _ ⟨0,by omega,by simp,rfl,by simp [idxLp]⟩) ?_
 rintro e σ1 G1 ⟨rfl,⟨rfl,k1,k2⟩ | ⟨rfl,j,k1,k2⟩⟩
 ·simp -implicitDefEqProofs [k2]
  simp [k1,idxFun,idxZ]
 ·simp [idxFun] at k2
  simp -implicitDefEqProofs [k1,idxZ,k2]
theorem cnt_call {f1 : FuncId} (hT1 : P.T f1 = some (cntFun f0)) (hX1 : ∀ a H,P.X f1 a H = none) (hK1 : P.K f1 = false) (hW1 : (P.W f1 || !P.W f0) = true) (hT : P.T f0 = some (idxFun k ld)) (hX : ∀ a H,P.X f0 a H = none) (hK : P.K f0 = false) (hl : ld = some k ∨ (ld = none ∧ k = 1)) {z : Bool} {l : List (List AV)} (hk : ∀ c ∈ l,c.length = k) (hm : l.length ≤ 1000000000) {f : FuncId} {cs : List AV} (hcs : AV.freeAll cs = true) {p : List AV → Bool} (hW : (P.W f0 || !P.W f) = true) {H : Heap}
  (hpl : ∀ c ∈ l,(elemV ld c).free = true ∧ (elemV ld c).isBox = false ∧ pln (elemV ld c) = elemV ld c) (hf : ∀ c ∈ l,callW P f (elemV ld c :: cs) H = some (ab (p c),H)) : callW P f1 [lst z k none l,.fn f cs] H = some (ab (l.any p),H) := by
 have h := idx_call (z := z) hT hX hK hl hk hm hW hpl hf
 have hW' : P.W f1 = true ∨ P.W f0 = false := by simpa using hW1
 rw [call_L 4 (hX1 _ _) hT1 (le_ok rfl)]
 have hany := idxOf_any (p := p) l 0
 cases hi : idxOf p l 0 with
 | none =>
  rw [hi] at h hany
  simp only [idxZ] at h
  rw [← hany]
  simp -implicitDefEqProofs [-toCells,-AV.one,cntFun,h,hW',hcs,hK1]
 | some j =>
  rw [hi] at h hany
  simp only [idxZ] at h
  rw [← hany]
  have h0 : (j : Int) ≥ 0 := by omega
  simp -implicitDefEqProofs [-toCells,-AV.one,cntFun,h,hW',hcs,hK1,h0]
end
end Go.A.V.S

namespace Go.A.V.S
open Go Go.A
theorem bvs_len (l : List Bs) : (bvs l).length = l.length := by simp [bvs]
theorem nvs_at {l : List Nat} {i n : Nat} (h : l[i]? = some n) (z : Bool) (f : Option Nat) (k : IntKind) : iaddrW 1 none (lst z 1 f (nvs l)) (.c (.int k i)) = some (.vp [ai n] 0) := iaddrW_lst _ _ _ (by simp [nvs,h]) k
theorem bvs_at {l : List Bs} {i : Nat} {b : Bs} (h : l[i]? = some b) (z : Bool) (f : Option Nat) (k : IntKind) : iaddrW 1 none (lst z 1 f (bvs l)) (.c (.int k i)) = some (.vp [bv b] 0) := iaddrW_lst _ _ _ (by simp [bvs,h]) k
end Go.A.V.S

namespace Go.A.V.S
open Go Go.A
section
variable {M : Heap} {rr : Nat} {b : Bs}
end
end Go.A.V.S

namespace Go.A.V.S
open Go Go.A
theorem oth_app (H : Heap) (a b : Nat) : (H ++ List.replicate a AObj.other) ++ List.replicate b .other = H ++ List.replicate (a + b) .other := by
 rw [List.append_assoc,List.replicate_append_replicate]
end Go.A.V.S

namespace Go.A.V.S
open Go Go.A
def WH (H : Heap) (l : List Nat) (n lo : Nat) : Heap := H ++ [.row [.sl (H.length + 1) 0 l.length l.length 1 l.length false,ai n],.grow (l.map fun b => au b) lo]
def W0 (H : Heap) : Heap := H ++ [.row [nilS,ai 0]]
def WN (H : Heap) (bits : List Bool) (l : List Nat) : Heap := if bits = [] then W0 H else WH H l bits.length l.length
section
variable {H : Heap} {l : List Nat} {n lo : Nat}
theorem WH_get0 : (WH H l n lo)[H.length]? = some (.row [.sl (H.length + 1) 0 l.length l.length 1 l.length false,ai n]) := by simp [WH]
theorem WH_get1 : (WH H l n lo)[H.length + 1]? = some (.grow (l.map fun b => au b) lo) := by simp [WH]
theorem WH_r0 : rdRow (WH H l n lo) H.length 0 1 2 = some [.sl (H.length + 1) 0 l.length l.length 1 l.length false] := by rw [rdRow,WH_get0]; rfl
theorem WH_r1 : rdRow (WH H l n lo) H.length 1 1 2 = some [ai n] := by rw [rdRow,WH_get0]; rfl
theorem WH_rb {i c : Nat} (h : l[i]? = some c) (hlo : lo ≤ l.length) : rdRow (WH H l n lo) (H.length + 1) i 1 l.length = some [au c] := by
 have hi := (List.getElem?_eq_some_iff.1 h).1
 rw [rdRow,WH_get1]
 simp only [AObj.isRow,AObj.lo,AObj.cells,List.length_map]
 rw [if_pos ⟨trivial,hlo,by omega,Nat.le_refl _⟩,List.take_one]
 simp [h]
theorem WH_sb {i c : Nat} (hi : i < l.length) (σ : List AV) : storeA σ (WH H l n lo) none (.ptr (H.length + 1) i l.length) (au c) = some (σ,WH H (l.set i c) n l.length) := by
 simp only [storeA,wrRow,WH_get1]
 rw [if_pos ⟨by simp,by simp; omega,rfl⟩]
 have h1 : (l.map fun b : Nat => au b).take i ++ [au c] ++ (l.map fun b : Nat => au b).drop (i + [au c].length) = (l.set i c).map fun b => au b := by
  rw [List.map_set,List.set_eq_take_append_cons_drop,if_pos (by simpa using hi)]
  simp
 rw [h1]
 simp [WH]
theorem WH_s1 (x : Nat) (σ : List AV) : storeA σ (WH H l n lo) none (.ptr H.length 1 2) (ai x) = some (σ,WH H l x lo) := by
 simp only [storeA,wrRow,WH_get0]
 rw [if_pos ⟨rfl,by simp,rfl⟩]
 simp [WH]
theorem W0_r0 : rdRow (W0 H) H.length 0 1 2 = some [nilS] := by rw [rdRow,W0]; simp [AObj.isRow,AObj.lo,AObj.cells]
theorem W0_r1 : rdRow (W0 H) H.length 1 1 2 = some [ai 0] := by rw [rdRow,W0]; simp [AObj.isRow,AObj.lo,AObj.cells]
theorem W0_s0 (σ : List AV) : storeA σ (W0 H ++ [.grow [.c (.int .u8 0)] 0]) none (.ptr H.length 0 2) (.sl (H.length + 1) 0 1 1 1 1 false) = some (σ,WH H [0] 0 0) := by
 have h : (W0 H ++ [.grow [.c (.int .u8 0)] 0])[H.length]? = some (.row [nilS,ai 0]) := by simp [W0]
 simp only [storeA,wrRow,h]
 rw [if_pos ⟨rfl,by simp,rfl⟩]
 simp [WH,W0]
theorem WH_s0 (σ : List AV) : storeA σ ((WH H l n lo).set (H.length + 1) (.grow ((l.map fun b => au b) ++ [.c (.int .u8 0)]) lo)) none (.ptr H.length 0 2) (.sl (H.length + 1) 0 (l.length + 1) (l.length + 1) 1 (l.length + 1) false) = some (σ,WH H (l ++ [0]) n lo) := by
 have h : ((WH H l n lo).set (H.length + 1) (.grow ((l.map fun b => au b) ++ [.c (.int .u8 0)]) lo))[H.length]? = some (.row [.sl (H.length + 1) 0 l.length l.length 1 l.length false,ai n]) := by
  rw [List.getElem?_set_ne (by omega),WH_get0]
 simp only [storeA,wrRow,h]
 rw [if_pos ⟨rfl,by simp,rfl⟩]
 simp [WH]
theorem WH_app {m : Md} {d : Nat} {f : Option Nat} (hl : l ≠ []) (hll : l.length ≤ 100000) (hm : m.wr = true) (σ : List AV) : appW m (some d) 1 1 (.sl (H.length + 1) 0 l.length l.length 1 l.length false) (.vs 1 f [[.c (.int .u8 0)]]) σ (WH H l n lo) =
  some (.sl (H.length + 1) 0 (l.length + 1) (l.length + 1) 1 (l.length + 1) false,σ,(WH H l n lo).set (H.length + 1) (.grow ((l.map fun b => au b) ++ [.c (.int .u8 0)]) lo)) := by
 have hl0 : l.length ≠ 0 := fun h => hl (List.length_eq_zero_iff.1 h)
 have he : elems (WH H l n lo) 1 (.vs 1 f [[.c (.int .u8 0)]]) = some [[.c (.int .u8 0)]] := rfl
 simp only [appW]
 rw [if_pos hm,he,Option.bind_some,if_neg (by simp),if_pos ⟨trivial,trivial,⟨hl0,trivial⟩,trivial,by simp,by simp [appBound]; omega,by simp [appBound]; omega⟩,WH_get1]
 simp [AObj.isW,AObj.cells,AObj.lo]
end
section
variable {H : Heap}
theorem one_fin {l : List Nat} {bits : List Bool} (r1 : l.length = bits.length / 8 + 1) (r2 : Bytes l) (r3 : bitsB l = bits ++ List.replicate (8 * l.length - bits.length) false) (b : Bool) :
  ∃ c,l[bits.length / 8]? = some c ∧ c < 256 ∧ PackR (bits ++ [b]) (l.set (bits.length / 8) (c ||| b.toNat * 2 ^ (7 - bits.length % 8))) := by
 obtain ⟨c,hc⟩ : ∃ c,l[bits.length / 8]? = some c := ⟨_,List.getElem?_eq_getElem (by rw [r1]; omega)⟩
 exact ⟨c,hc,r2 c (List.mem_of_getElem? hc),PackR.snoc r1 r2 r3 b hc⟩
theorem bits_one (bits : List Bool) (l : List Nat) (hp : PackR bits l) (hs : bits.length ≤ 65536) (b : Bool) :
  ∃ l',PackR (bits ++ [b]) l' ∧ callW P f_q74 [.ptr H.length 0 2,au b.toNat] (WN H bits l) = some (.tup [],WN H (bits ++ [b]) l') := by
 have hE : ∀ l',WN H (bits ++ [b]) l' = WH H l' (bits.length + 1) l'.length := fun l' => by rw [WN,if_neg (by simp),List.length_append]; rfl
 obtain ⟨n,hn⟩ : ∃ n,bits.length = n := ⟨_,rfl⟩
 have w1 : (n : Int).tmod 8 = ((n % 8 : Nat) : Int) := tmod8 n
 have w1' : (n : Int) % 8 = ((n % 8 : Nat) : Int) := by omega
 have w2 : IntKind.i64.wrap ((n : Int).tdiv 8) = ((n / 8 : Nat) : Int) := by rw [tdiv8]; exact wrap_i64 (by omega) (by omega)
 have w2' : IntKind.i64.wrap ((n : Int) / 8) = ((n / 8 : Nat) : Int) := by rw [wrap_i64 (by omega) (by omega)]; omega
 have w10 : IntKind.i64.wrap ((n : Int) + 1) = ((n + 1 : Nat) : Int) := by rw [wrap_i64 (by omega) (by omega)]; omega
 have hll := hp.len
 rw [hn] at hll
 have hx8 : b.toNat * 2 ^ (7 - n % 8) < 2 ^ 8 := by
  have : 2 ^ (7 - n % 8) ≤ 2 ^ 7 := Nat.pow_le_pow_right (by omega) (by omega)
  cases b
  ·simp
  ·simp only [Bool.toNat_true,Nat.one_mul]; omega
 obtain ⟨m8,hm8⟩ : ∃ m,n % 8 = m := ⟨_,rfl⟩
 obtain ⟨d8,hd8⟩ : ∃ m,n / 8 = m := ⟨_,rfl⟩
 have w3 : IntKind.i64.wrap (7 - (m8 : Int)) = ((7 - m8 : Nat) : Int) := by rw [wrap_i64 (by omega) (by omega)]; omega
 obtain ⟨s,hss⟩ : ∃ s,7 - m8 = s := ⟨_,rfl⟩
 have w4 : min s 8 = s := by omega
 have hs0 : ¬ (s : Int) < 0 := by omega
 have w5 : IntKind.u8.wrap ((b.toNat : Int) * 2 ^ s) = ((b.toNat * 2 ^ s : Nat) : Int) := by
  have e : (b.toNat : Int) * 2 ^ s = ((b.toNat * 2 ^ s : Nat) : Int) := by simp
  rw [hm8,hss] at hx8
  rw [e]; exact wrap_u8 (by omega) (by omega)
 obtain ⟨n1,hn1⟩ : ∃ n1,n + 1 = n1 := ⟨_,rfl⟩
 by_cases h8 : m8 = 0
 ·have h8' : (m8 : Int) = 0 := by omega
  have w30 : IntKind.i64.wrap 7 = (s : Int) := by rw [wrap_i64 (by omega) (by omega)]; omega
  obtain ⟨r1,r2,r3⟩ := hp.room (by omega)
  obtain ⟨c,k1,k2,k3⟩ := one_fin r1 r2 r3 b
  refine ⟨_,k3,?_⟩
  rw [hE]
  rw [hn,hd8] at r1
  rw [hn,hm8,hd8,hss]
  rw [hn,hd8] at k1
  rw [hm8] at w1 w1' hx8
  rw [hd8] at w2 w2'
  rw [hn1] at w10 ⊢
  rw [hss] at w3 hx8
  have worI := orI_u8 k2 (show b.toNat * 2 ^ s < 256 by omega)
  obtain ⟨sh,hsh⟩ : ∃ x,b.toNat * 2 ^ s = x := ⟨_,rfl⟩
  rw [hsh] at w5 worI ⊢
  obtain ⟨cc,hcc⟩ : ∃ x,c ||| sh = x := ⟨_,rfl⟩
  rw [hcc] at worI ⊢
  obtain ⟨bt,hbt⟩ : ∃ x,b.toNat = x := ⟨_,rfl⟩
  rw [hbt] at w5 ⊢
  obtain ⟨l1,hl1⟩ : ∃ x,l ++ [0] = x := ⟨_,rfl⟩
  have hl1l : l1.length = l.length + 1 := by rw [← hl1]; simp
  have hl1' : (l.map fun b : Nat => au b) ++ [.c (.int .u8 0)] = l1.map fun b => au b := by rw [← hl1]; simp
  rw [hl1] at r1 k1 ⊢
  have hset : (l1.set d8 cc).length = l1.length := by simp
  have hd1 : d8 < l1.length := by omega
  have hd1' : (d8 : Int) < l1.length := by omega
  rw [hset]
  by_cases h0 : bits = []
  ·subst h0
   have hn0 : n = 0 := hn.symm
   subst hn0
   have hl0 : l = [] := List.length_eq_zero_iff.1 (by omega)
   subst hl0
   have hl10 : l1 = [0] := hl1.symm
   rw [WN,if_pos rfl]
   have i0 : IntKind.i64.wrap 0 = 0 := rfl
   have i1 : IntKind.i64.wrap 1 = n1 := by subst hn1; rfl
   have g0 := W0_r0 (H := H)
   have g1 := W0_r1 (H := H)
   have s0 := fun σ => W0_s0 (H := H) σ
   have hd0 : d8 = 0 := by omega
   subst hl10; subst hd0
   have ap : ∀ f σ,appW (P.md f_q74) (some 16) 1 1 (.c (.slice none 0 0)) (.vs 1 f [[.c (.int .u8 0)]]) σ (W0 H) = some (.sl (H.length + 1) 0 1 1 1 1 false,σ,W0 H ++ [.grow [.c (.int .u8 0)] 0]) := fun f σ => by
    have hl : (W0 H).length = H.length + 1 := by simp [W0]
    have hr : (P.md f_q74).row (some 16) = true := rfl
    simp [appW,hr,elems,appBound,hl]
   have g0' : rdRow (WH H [0] 0 0) H.length 0 1 2 = some [.sl (H.length + 1) 0 1 1 1 1 false] := WH_r0
   have g1' : rdRow (WH H [0] 0 0) H.length 1 1 2 = some [ai 0] := WH_r1
   have gb : rdRow (WH H [0] 0 0) (H.length + 1) 0 1 1 = some [au c] := WH_rb (H := H) (n := 0) k1 (by omega)
   have sb : ∀ σ,storeA σ (WH H [0] 0 0) none (.ptr (H.length + 1) 0 1) (au cc) = some (σ,WH H [cc] 0 1) := fun σ => WH_sb (H := H) (n := 0) (lo := 0) (c := cc) hd1 σ
   have g1b : rdRow (WH H [cc] 0 1) H.length 1 1 2 = some [ai 0] := WH_r1
   have s1 : ∀ σ,storeA σ (WH H [cc] 0 1) none (.ptr H.length 1 2) (ai n1) = some (σ,WH H [cc] n1 1) := fun σ => WH_s1 (H := H) (l := [cc]) (n := 0) (lo := 1) n1 σ
   rw [call_L 6 rfl (rfl : P.T f_q74 = some F_q74) (le_ok rfl)]; simp -implicitDefEqProofs [-toCells,-AV.one,-forget,F_q74,c_q74,binA_andI,binA_orI,i0,i1,g0,g1,ap,s0,g0',g1',w1,w1',w2,w2',h8,h8',gb,g1b,sb,s1,w3,w30,w4,w5,hs0,worI,w10]
  ·have hl0 : l ≠ [] := fun e => h0 (by
    subst e
    have : n = 0 := by simp at hll; omega
    exact List.length_eq_zero_iff.1 (by omega))
   rw [WN,if_neg h0,hn]
   have g0 := WH_r0 (H := H) (l := l) (n := n) (lo := l.length)
   have g1 := WH_r1 (H := H) (l := l) (n := n) (lo := l.length)
   have ap := fun (d : Nat) f σ => WH_app (m := P.md f_q74) (H := H) (n := n) (lo := l.length) (d := d) (f := f) hl0 (by omega) rfl σ
   have s0 := fun σ => WH_s0 (H := H) (l := l) (n := n) (lo := l.length) σ
   rw [hl1',← hl1l] at ap
   rw [hl1',← hl1l,hl1] at s0
   have g0' := WH_r0 (H := H) (l := l1) (n := n) (lo := l.length)
   have g1' := WH_r1 (H := H) (l := l1) (n := n) (lo := l.length)
   have gb := WH_rb (H := H) (n := n) k1 (show l.length ≤ l1.length by omega)
   have sb := fun σ => WH_sb (H := H) (n := n) (lo := l.length) (c := cc) hd1 σ
   have g1b := WH_r1 (H := H) (l := l1.set d8 cc) (n := n) (lo := l1.length)
   have s1 := fun σ => WH_s1 (H := H) (l := l1.set d8 cc) (n := n) (lo := l1.length) n1 σ
   rw [call_L 6 rfl (rfl : P.T f_q74 = some F_q74) (le_ok rfl)]; simp -implicitDefEqProofs [-toCells,-AV.one,-forget,F_q74,c_q74,binA_andI,binA_orI,g0,g1,ap,s0,g0',g1',w1,w1',w2,w2',h8,h8',gb,g1b,hd1,hd1',sb,s1,w3,w30,w4,w5,hs0,worI,w10]
 ·have h8' : ¬ (m8 : Int) = 0 := by omega
  obtain ⟨r1,r2,r3⟩ := hp.full (by omega)
  obtain ⟨c,k1,k2,k3⟩ := one_fin r1 r2 r3 b
  refine ⟨_,k3,?_⟩
  have hb : bits ≠ [] := fun e => by subst e; simp at hn; omega
  rw [hE,WN,if_neg hb]
  rw [hn,hd8] at r1
  rw [hn,hm8,hd8,hss]
  rw [hn,hd8] at k1
  rw [hm8] at w1 w1' hx8
  rw [hd8] at w2 w2'
  rw [hn1] at w10 ⊢
  rw [hss] at w3 hx8
  have worI := orI_u8 k2 (show b.toNat * 2 ^ s < 256 by omega)
  obtain ⟨sh,hsh⟩ : ∃ x,b.toNat * 2 ^ s = x := ⟨_,rfl⟩
  rw [hsh] at w5 worI ⊢
  obtain ⟨cc,hcc⟩ : ∃ x,c ||| sh = x := ⟨_,rfl⟩
  rw [hcc] at worI ⊢
  obtain ⟨bt,hbt⟩ : ∃ x,b.toNat = x := ⟨_,rfl⟩
  rw [hbt] at w5 ⊢
  have hset : (l.set d8 cc).length = l.length := by simp
  have hd1 : d8 < l.length := by omega
  have hd1' : (d8 : Int) < l.length := by omega
  have g0 := WH_r0 (H := H) (l := l) (n := n) (lo := l.length)
  have g1 := WH_r1 (H := H) (l := l) (n := n) (lo := l.length)
  have g1b := WH_r1 (H := H) (l := l.set d8 cc) (n := n) (lo := l.length)
  have gb := WH_rb (H := H) (n := n) k1 (Nat.le_refl l.length)
  have sb := fun σ => WH_sb (H := H) (n := n) (lo := l.length) (c := cc) hd1 σ
  have s1 := fun σ => WH_s1 (H := H) (l := l.set d8 cc) (n := n) (lo := l.length) n1 σ
  rw [hset]
  rw [call_L 6 rfl (rfl : P.T f_q74 = some F_q74) (le_ok rfl)]; simp -implicitDefEqProofs [-toCells,-AV.one,-forget,F_q74,c_q74,binA_andI,binA_orI,g0,g1,w1,w1',w2,w2',h8,h8',gb,g1b,hd1,hd1',sb,s1,w3,w4,w5,hs0,worI,w10]
end
end Go.A.V.S

namespace Go.A.V.S
open Go Go.A
theorem binV_sl (r o l c z g : Nat) (e : Bool) : binV .eql .slice (.sl r o l c z g e) (.c (.slice none 0 0)) = some (ab false) := rfl
theorem binV_sl' (r o l c z g : Nat) (e : Bool) : binV .neq .slice (.sl r o l c z g e) (.c (.slice none 0 0)) = some (ab true) := rfl
attribute [simp] binV_sl binV_sl'
section
variable {H : Heap} {bits : List Bool}
theorem WN_r1 (H : Heap) (bits : List Bool) (l : List Nat) : rdRow (WN H bits l) H.length 1 1 2 = some [ai bits.length] := by
 unfold WN
 split
 ·rename_i h; subst h; exact W0_r1
 ·exact WH_r1
def InvP (H : Heap) (bits : List Bool) (v n : Nat) (z : Nat) (σ : List AV) (G : Heap) : Prop :=
 ∃ l,z ≤ n ∧ PackR (bits ++ (bitsOf v n).take (n - z)) l ∧ G = WN H (bits ++ (bitsOf v n).take (n - z)) l ∧ σ = L 48 ((((Tr.full 6).put (path 0) (.ptr H.length 0 2)).put (path 1) (.c (.int .u64 (v : Int)))).put (path 7) (ai z))
def PostP (H : Heap) (bits : List Bool) (v n : Nat) (e : AExit) (σ : List AV) (G : Heap) : Prop :=
 e = .ret ∧ resultsA F_q53.res σ = some (ai 0) ∧ ∃ l,PackR (bits ++ bitsOf v n) l ∧ G = WN H (bits ++ bitsOf v n) l
theorem put_tail {v n : Nat} (hn : n ≤ 64) (hv : v < 18446744073709551616) (hb : bits.length ≤ 65000) (z : Nat) (σ : List AV) (G : Heap) (hI : InvP H bits v n z (kill (headK tsc0_q53) σ) G) :
  Ends ((execW P f_q53 tsc0_q53 σ G).bind (jumpW P f_q53 sc0_q53 0)) fun s => PostP H bits v n s.e s.σ s.H := by
 refine scope_ends (InvP H bits v n) (PostP H bits v n) rfl ?_ z σ G hI
 clear hI z σ G
 rintro z σ G ⟨l,hz,hp,rfl,hσ⟩
 rw [← execW_head,hσ]
 by_cases h0 : z = 0
 ·subst h0
  have ht : (bitsOf v n).take (n - 0) = bitsOf v n := List.take_of_length_le (by rw [bitsOf_len]; omega)
  rw [ht] at hp ⊢
  simp -implicitDefEqProofs [-toCells,-AV.one,-forget,c_q53,tsc0_q53]
  exact ⟨rfl,by simp [F_q53],l,hp,rfl⟩
 ·obtain ⟨i,rfl⟩ : ∃ i,z = i + 1 := ⟨z - 1,by omega⟩
  have ht := bitsOf_take (v := v) (n := n) (i := i) (by omega)
  obtain ⟨z',hz'⟩ : ∃ z',i + 1 = z' := ⟨_,rfl⟩
  have hz0 : (z' : Int) > 0 := by omega
  have hz0' : (0 : Int) < z' := by omega
  have hz0'' : 0 < z' := by omega
  have w1 : IntKind.i64.wrap ((z' : Int) - 1) = (i : Int) := by rw [wrap_i64 (by omega) (by omega)]; omega
  rw [hz'] at hp hz ht ⊢
  have hi0 : ¬ (i : Int) < 0 := by omega
  have hm : min i 64 = i := by omega
  obtain ⟨q,hq⟩ : ∃ q,v / 2 ^ i = q := ⟨_,rfl⟩
  have hqv : q ≤ v := by rw [← hq]; exact Nat.div_le_self _ _
  rw [hq] at ht
  have w2 : (v : Int).fdiv (2 ^ i) = (q : Int) := by rw [fdiv_pow,hq]
  have w2' : (v : Int) / 2 ^ i = (q : Int) := by rw [← hq]; simp
  have w3 := andI_u64 (a := q) (by omega)
  obtain ⟨u,hu⟩ : ∃ u,q % 2 = u := ⟨_,rfl⟩
  rw [hu] at w3 ht
  have w4 : IntKind.u8.wrap (u : Int) = u := wrap_u8 (by omega) (by omega)
  have hlen : (bits ++ (bitsOf v n).take (n - z')).length ≤ 65536 := by
   rw [List.length_append,List.length_take,bitsOf_len]; omega
  obtain ⟨l',c2,c1⟩ := bits_one (H := H) _ l hp hlen (decide (u = 1))
  have hun : (decide (u = 1)).toNat = u := by
   have : u = 0 ∨ u = 1 := by omega
   rcases this with rfl | rfl <;> rfl
  rw [hun] at c1
  rw [List.append_assoc,← ht] at c1 c2
  simp -implicitDefEqProofs [-toCells,-AV.one,-forget,c_q53,binA_andI,tsc0_q53,hz0,hz0',hz0'',w1,hi0,hm,w2,w2',w3,w4,c1]
  exact ⟨i,by omega,l',by omega,c2,rfl,by simp⟩
theorem bits_Put {l : List Nat} (hp : PackR bits l) {v n : Nat} (hn : n ≤ 64) (hv : v < 2 ^ n) (hb : bits.length ≤ 65000) (v' n' : Int) (hv' : v' = v) (hn' : n' = n) :
  ∃ l',PackR (bits ++ bitsOf v n) l' ∧ callW P f_q53 [.ptr H.length 0 2,.c (.int .u64 v'),ai n'] (WN H bits l) = some (ai 0,WN H (bits ++ bitsOf v n) l') := by
 subst hv'; subst hn'
 have hv64 : v < 18446744073709551616 := by
  have : 2 ^ n ≤ 2 ^ 64 := Nat.pow_le_pow_right (by omega) hn
  have : (2 : Nat) ^ 64 = 18446744073709551616 := by decide
  omega
 have g1 := WN_r1 H bits l
 suffices hs : Ends (callW P f_q53 [.ptr H.length 0 2,.c (.int .u64 (v : Int)),ai n] (WN H bits l)) fun y => ∃ l',PackR (bits ++ bitsOf v n) l' ∧ y = (ai 0,WN H (bits ++ bitsOf v n) l') by
  obtain ⟨y,h2,l',h3,rfl⟩ := hs
  exact ⟨l',h3,h2⟩
 refine call_post 6 48 rfl (rfl : P.T f_q53 = some F_q53) rfl (le_ok rfl) (PostP H bits v n) ?_ ?_
 ·rintro e σ G ⟨rfl,h2,l',h3,rfl⟩
  exact ⟨rfl,_,h2,rfl,by simp; exact ⟨l',h3,rfl⟩⟩
 have hp0 : binA .eql .ptr (.ptr H.length 0 2) (.c (.pointer none)) = some (ab false) := rfl
 have h0 : ¬ (n : Int) < 0 := by omega
 have h1 : ¬ (n : Int) > 64 := by omega
 have h1' : ¬ (64 : Int) < n := by omega
 have h1'' : ¬ 64 < n := by omega
 have hm : min n 64 = n := by omega
 have hq : v / 2 ^ n = 0 := Nat.div_eq_of_lt hv
 have w2 : (v : Int).fdiv (2 ^ n) = 0 := by rw [fdiv_pow,hq]; rfl
 have w2' : (v : Int) / 2 ^ n = 0 := by
  have : ((v / 2 ^ n : Nat) : Int) = (v : Int) / 2 ^ n := by simp
  rw [← this,hq]; rfl
 have hin : ∀ σ,σ = L 48 ((((Tr.full 6).put (path 0) (.ptr H.length 0 2)).put (path 1) (.c (.int .u64 (v : Int)))).put (path 7) (ai n)) → InvP H bits v n n σ (WN H bits l) := fun σ e => ⟨l,Nat.le_refl _,by simpa using hp,by simp,e⟩
 obtain ⟨bl,hbl⟩ : ∃ x,bits.length = x := ⟨_,rfl⟩
 rw [hbl] at g1
 have w3 : IntKind.i64.wrap (65536 - (bl : Int)) = 65536 - (bl : Int) := wrap_i64 (by omega) (by omega)
 have h3 : ¬ (n : Int) > 65536 - (bl : Int) := by omega
 have h3' : ¬ 65536 - (bl : Int) < n := by omega
 by_cases h64 : (n : Int) < 64
 ·have h64' : n < 64 := by omega
  rw [F_q53]; simp -implicitDefEqProofs [-toCells,-AV.one,-forget,c_q53,hp0,h0,h1,h1',h1'',h64,h64',hm,w2,w2',g1,w3,h3,h3']
  exact put_tail hn hv64 hb n _ _ (hin _ (by simp [tsc0_q53]))
 ·have h64' : ¬ n < 64 := by omega
  rw [F_q53]; simp -implicitDefEqProofs [-toCells,-AV.one,-forget,c_q53,hp0,h0,h1,h1',h1'',h64,h64',g1,w3,h3,h3']
  exact put_tail hn hv64 hb n _ _ (hin _ (by simp [tsc0_q53]))
theorem bits_New (H : Heap) : callW P f_q52 [] H = some (.ptr H.length 0 2,WN H [] []) := by
 rw [call_L 3 rfl (rfl : P.T f_q52 = some F_q52) (le_ok rfl)]; simp -implicitDefEqProofs [-toCells,-AV.one,-forget,F_q52,c_q52,WN,W0]
theorem Clone_row {l : List Nat} (hl : l ≠ []) (hb : l.length ≤ 100000) (n : Nat) : callW P f_q43 [.sl (H.length + 1) 0 l.length l.length 1 l.length false] (WH H l n l.length) = some (.vs 1 (some 0) (byteCs l),WH H l n l.length) := by
 have hl0 : l.length ≠ 0 := fun h => hl (List.length_eq_zero_iff.1 h)
 have ch : ∀ x : List Nat,chunk 1 x.length (x.map fun b => au b) = byteCs x := by
  intro x
  induction x with
  | nil => rfl
  | cons a r ih => simp only [List.length_cons,List.map_cons,chunk,List.take_succ_cons,List.take_zero,List.drop_succ_cons,List.drop_zero,ih]; rfl
 have he : elems (WH H l n l.length) 1 (.sl (H.length + 1) 0 l.length l.length 1 l.length false) = some (byteCs l) := by
  simp only [elems,rdRow0]
  rw [if_neg (by omega),if_neg (by omega),rdRow,WH_get1]
  simp only [AObj.isRow,AObj.lo,AObj.cells,List.length_map]
  rw [if_pos ⟨trivial,Nat.le_refl _,by omega,Nat.le_refl _⟩]
  rw [List.drop_zero,List.take_of_length_le (by simp),Option.bind_some,if_pos (by simp),ch]
 have hap : ∀ (d : Nat) σ,appW (P.md f_q43) (some d) 1 1 (.vs 1 (some 5) []) (.sl (H.length + 1) 0 l.length l.length 1 l.length false) σ (WH H l n l.length) = some (.vs 1 (some d) (byteCs l),σ.map (unfl [5,d]),WH H l n l.length) := fun d σ => by
  simp only [appW,appV,he,Option.bind_some,List.length_nil,byteCs_len]
  rw [if_pos ⟨trivial,by simp [appBound]; omega,by simp [appBound]; omega⟩]
  rfl
 rw [call_L 4 rfl (rfl : P.T f_q43 = some F_q43) (le_ok rfl)]; simp -implicitDefEqProofs [-toCells,-AV.one,-forget,F_q43,c_q43,hap]
theorem bits_Bytes {l : List Nat} (hp : PackR bits l) (hb0 : bits ≠ []) (hb : bits.length ≤ 65536) : callW P f_q54 [.ptr H.length 0 2] (WN H bits l) = some (.vs 1 (some 0) (byteCs l),WN H bits l) := by
 have hp0 : binA .eql .ptr (.ptr H.length 0 2) (.c (.pointer none)) = some (ab false) := rfl
 have hll := hp.len
 have hl : l ≠ [] := fun h => by
  subst h
  have : bits.length ≠ 0 := fun h => hb0 (List.length_eq_zero_iff.1 h)
  simp at hll
  omega
 rw [WN,if_neg hb0]
 have g0 := WH_r0 (H := H) (l := l) (n := bits.length) (lo := l.length)
 have hc := Clone_row (H := H) hl (by omega) bits.length
 rw [call_L 4 rfl (rfl : P.T f_q54 = some F_q54) (le_ok rfl)]; simp -implicitDefEqProofs [-toCells,-AV.one,-forget,F_q54,c_q54,hp0,g0,hc]
end
end Go.A.V.S

namespace Go.A.V.S
open Go Go.A
def JC (data : List Nat) (p : Nat) : List AV := (data.take p).map (fun b => au b) ++ List.replicate (data.length - p) .undef
theorem JC_len {data : List Nat} {p : Nat} (h : p ≤ data.length) : (JC data p).length = data.length := by simp [JC]; omega
theorem JC_step {data b : List Nat} {p : Nat} (h : (data.drop p).take b.length = b) (hp : p + b.length ≤ data.length) :
  (JC data p).take p ++ (b.map fun x => au x) ++ (JC data p).drop (p + b.length) = JC data (p + b.length) := by
 have h1 : (data.take p).length = p := by rw [List.length_take]; omega
 have e1 : (JC data p).take p = (data.take p).map fun x => au x := by
  rw [JC,List.take_append_of_le_length (by simp; omega),List.take_of_length_le (by simp; omega)]
 have e2 : (JC data p).drop (p + b.length) = List.replicate (data.length - (p + b.length)) .undef := by
  rw [JC,List.drop_append,List.drop_eq_nil_of_le (by simp; omega),List.nil_append,List.drop_replicate]
  congr 1
  simp
  omega
 rw [e1,e2,JC]
 have e3 : data.take (p + b.length) = data.take p ++ b := by rw [List.take_add,h]
 rw [e3]; simp
def vo (r n : Nat) : AV := .sl r 0 n n 1 n true
theorem vo_ev (m r n : Nat) : ev1 m (vo r n) = vo r n := rfl
theorem vo_box (r n : Nat) : (vo r n).isBox = false := rfl
theorem vo_free (r n : Nat) : (vo r n).free = true := rfl
theorem vo_one (r n : Nat) : (vo r n).one = true := rfl
theorem vo_cells (r n : Nat) : toCells (vo r n) = [vo r n] := rfl
theorem vo_unfl (cs : List Nat) (r n : Nat) : unfl cs (vo r n) = vo r n := rfl
theorem vo_forget (m r n : Nat) : forget m (vo r n) = vo r n := rfl
theorem vo_pln (r n : Nat) : pln (vo r n) = vo r n := rfl
attribute [simp] vo_ev vo_box vo_free vo_one vo_cells vo_unfl vo_forget vo_pln
def JH (M : Heap) (data : List Nat) (p lo : Nat) : Heap := M ++ [.grow (JC data p) lo]
theorem cut_vo {r n p : Nat} (h : p ≤ n) (d : Option Nat) : cutV 1 d (vo r n) (some (ai p)) none none = some (.sl r (if n = p then 0 else p) (n - p) (n - p) 1 n true) := by
 have : cutBound (ai p) n = some p := cutBound_nat _ h
 simp [cutV,cutA,vo,cutBounds,capOf,highOf,lowOf,this]
theorem cut_v3 {r n : Nat} (e : Bool) (d : Option Nat) : cutV 1 d (.sl r 0 n n 1 n e) none (some (ai n)) (some (ai n)) = some (vo r n) := by
 have : cutBound (ai n) n = some n := cutBound_nat _ (Nat.le_refl _)
 simp [cutV,cutA,vo,cutBounds,capOf,highOf,lowOf,this]
theorem byteCs_flat (l : List Nat) : (byteCs l).flatten = l.map fun b => au b := by
 induction l with
 | nil => rfl
 | cons a r ih =>
  have : byteCs (a :: r) = [au a] :: byteCs r := rfl
  rw [this,List.flatten_cons,ih]; rfl
theorem bv_elems (H : Heap) (b : Bs) : elems H 1 (bv b) = some (byteCs b.2) := by
 unfold bv
 rcases lst_cases b.1 1 none (byteCs b.2) with ⟨_,h,e⟩ | ⟨e,_⟩
 ·rw [e,h]; rfl
 ·rw [e]; rfl
theorem copy_b {m : Md} (hm : m.wr = true) {M : Heap} {data : List Nat} {p lo : Nat} (b : Bs) (hp : p + b.2.length ≤ data.length) (hlo : lo ≤ data.length) (hd : (data.drop p).take b.2.length = b.2) :
  ∃ lo',lo' ≤ data.length ∧ copyW m 1 (.sl M.length (if data.length = p then 0 else p) (data.length - p) (data.length - p) 1 data.length true) (bv b) (JH M data p lo) = some (ai b.2.length,JH M data (p + b.2.length) lo') := by
 by_cases h0 : b.2 = []
 ·refine ⟨lo,hlo,?_⟩
  simp only [copyW,bv_elems,Option.bind_some,h0]
  rfl
 ·refine ⟨data.length,Nat.le_refl _,?_⟩
  have hb : byteCs b.2 ≠ [] := by simpa [byteCs] using h0
  have hl : 0 < b.2.length := List.length_pos_iff.2 h0
  have hget : (JH M data p lo)[M.length]? = some (.grow (JC data p) lo) := by simp [JH]
  have hjl : (JC data p).length = data.length := JC_len (by omega)
  have hmap : ((byteCs b.2).flatten).length = b.2.length := by rw [byteCs_flat]; simp
  simp only [copyW,bv_elems,Option.bind_some]
  rw [if_neg hb,if_pos ⟨hm,by rw [byteCs_len]; omega⟩,if_neg (by omega)]
  simp only [wrRow,hget]
  rw [if_pos ⟨hjl.symm,by rw [hmap]; omega,by rw [byteCs_flat]; simp [okCell]⟩]
  rw [byteCs_flat,List.length_map,JC_step hd hp,hjl]
  simp [JH,byteCs_len]
theorem copy_n (m : Md) (r o l c s g : Nat) (e : Bool) (H : Heap) : copyW m 1 (.sl r o l c s g e) (.c (.slice none 0 0)) H = some (ai 0,H) := rfl
theorem mknz_ok (H : Heap) (data : List Nat) (h : data.length ≤ appBound) : mknzW H 1 1 none (ai data.length) = some (.sl H.length 0 data.length data.length 1 data.length false,JH H data 0 0) := by
 simp only [mknzW]
 rw [if_pos ⟨by omega,by omega⟩]
 simp [JH,JC]
section
variable {H : Heap}
def bb (ff : List Bs) : List (List Nat) := ff.map (·.2)
theorem bb_at {ff : List Bs} {i : Nat} {x : Bs} (h : ff[i]? = some x) : (bb ff)[i]? = some x.2 := by simp [bb,h]
theorem bb_len (ff : List Bs) : (bb ff).length = ff.length := by simp [bb]
def InvJ (H : Heap) (z0 : Bool) (ff : List Bs) (z : Nat) (σ : List AV) (G : Heap) : Prop :=
 ∃ (i n : Nat),i + z = ff.length ∧ n = ((bb ff).take i).flatten.length ∧ G = H ∧ σ = L 92 (((((((Tr.full 7).put (path 0) (lst z0 1 none (bvs ff))).put (path 1) (.c (.slice none 0 0))).put (path 5) (ai n)).put (path 42) (lst z0 1 none (bvs ff))).put (path 43) (ai ff.length)).put (path 44) (ai i))
def PostJ (H : Heap) (z0 : Bool) (ff : List Bs) (e : AExit) (σ : List AV) (G : Heap) : Prop :=
 G = H ∧ e = .exit 0 ∧ kill [42,43,44,45] σ = L 92 ((((Tr.full 7).put (path 0) (lst z0 1 none (bvs ff))).put (path 1) (.c (.slice none 0 0))).put (path 5) (ai (bb ff).flatten.length))
theorem loopJ {z0 : Bool} {ff : List Bs} (hl : ff.length ≤ 100000) (hs : (bb ff).flatten.length ≤ 1000000) (z : Nat) (σ : List AV) (G : Heap) (hI : InvJ H z0 ff z (kill (headK lp0_q57) σ) G) :
  Ends (execW P f_q57 (.loop lp0_q57) σ G) fun s => PostJ H z0 ff s.e s.σ s.H := by
 refine loop_ends (fun z σ G => InvJ H z0 ff z σ G) (PostJ H z0 ff) ?_ z σ G hI
 clear hI z σ G
 rintro z σ G ⟨i,n,hz,hn,rfl,rfl⟩
 have hla : (bvs ff).length = ff.length := bvs_len ff
 by_cases hi : i < ff.length
 ·have hi' : (i : Int) < ff.length := by omega
  obtain ⟨x,hx⟩ : ∃ x,ff[i]? = some x := ⟨_,List.getElem?_eq_getElem hi⟩
  have q1 := bvs_at hx z0 none .i64
  have hft := flat_take (bb_at hx)
  have hle := flat_le (bb ff) (i + 1)
  rw [hft,List.length_append] at hle
  have w4 : IntKind.i64.wrap (9223372036854775807 - (n : Int)) = 9223372036854775807 - (n : Int) := wrap_i64 (by omega) (by omega)
  have w5 : IntKind.i64.wrap ((n : Int) + x.2.length) = ((n + x.2.length : Nat) : Int) := by rw [wrap_i64 (by omega) (by omega)]; omega
  have w6 : IntKind.i64.wrap ((i : Int) + 1) = ((i + 1 : Nat) : Int) := by rw [wrap_i64 (by omega) (by omega)]; omega
  have hxl := bv_len x
  obtain ⟨xl,hxl'⟩ : ∃ t,x.2.length = t := ⟨_,rfl⟩
  rw [hxl'] at hxl w5 hle
  obtain ⟨n1,hn1⟩ : ∃ t,n + xl = t := ⟨_,rfl⟩
  rw [hn1] at w5
  obtain ⟨i1,hi1⟩ : ∃ t,i + 1 = t := ⟨_,rfl⟩
  rw [hi1] at w6 hft
  have c1 : ¬ (xl : Int) > 9223372036854775807 - (n : Int) := by omega
  have c2 : ¬ 9223372036854775807 - (n : Int) < xl := c1
  simp -implicitDefEqProofs [-toCells,-AV.one,-forget,c_q57,lp0_q57,hla,hi,hi',q1,hxl,hxl',w4,w5,w6,c1,c2]
  exact ⟨z - 1,by omega,i1,n1,by omega,by rw [hft,List.length_append]; omega,rfl,by simp⟩
 ·have hi' : ¬ (i : Int) < ff.length := by omega
  have hall : (bb ff).take i = bb ff := List.take_of_length_le (by rw [bb_len]; omega)
  rw [hall] at hn
  simp -implicitDefEqProofs [-toCells,-AV.one,-forget,c_q57,lp0_q57,hla,hi,hi',hn]
  exact ⟨rfl,rfl,by simp⟩
def InvK (M : Heap) (z1 : Bool) (ff r : List Bs) (z : Nat) (σ : List AV) (G : Heap) : Prop :=
 ∃ (i p lo : Nat),i + 1 + z = ff.length ∧ p = ((bb ff).take (i + 1)).flatten.length ∧ lo ≤ (bb ff).flatten.length ∧ G = JH M (bb ff).flatten p lo ∧
  σ = L 92 (((((((Tr.full 7).put (path 1) (.c (.slice none 0 0))).put (path 8) (vo M.length (bb ff).flatten.length)).put (path 9) (ai p)).put (path 70) (lst z1 1 none (bvs r))).put (path 71) (ai (ff.length - 1 : Nat))).put (path 72) (ai i))
def PostK (M : Heap) (ff : List Bs) (e : AExit) (σ : List AV) (G : Heap) : Prop :=
 ∃ lo,lo ≤ (bb ff).flatten.length ∧ G = JH M (bb ff).flatten (bb ff).flatten.length lo ∧ e = .exit 2 ∧ kill [1,9,70,71,72,73] σ = L 92 ((Tr.full 7).put (path 8) (vo M.length (bb ff).flatten.length))
theorem loopK {M : Heap} {z1 : Bool} {ff r : List Bs} (hr : ff.drop 1 = r) (hl : ff.length ≤ 100000) (hl2 : 1 ≤ ff.length) (hs : (bb ff).flatten.length ≤ 1000000) (z : Nat) (σ : List AV) (G : Heap) (hI : InvK M z1 ff r z (kill (headK lp1_q57) σ) G) :
  Ends (execW P f_q57 (.loop lp1_q57) σ G) fun s => PostK M ff s.e s.σ s.H := by
 refine loop_ends (fun z σ G => InvK M z1 ff r z σ G) (PostK M ff) ?_ z σ G hI
 clear hI z σ G
 rintro z σ G ⟨i,p,lo,hz,hp,hlo,rfl,rfl⟩
 have hla : (bvs r).length = ff.length - 1 := by rw [bvs_len,← hr,List.length_drop]
 obtain ⟨l1,hl1⟩ : ∃ t,ff.length - 1 = t := ⟨_,rfl⟩
 by_cases hi : i + 1 < ff.length
 ·have hi' : (i : Int) < (l1 : Nat) := by omega
  have hi2 : i < l1 := by omega
  obtain ⟨x,hx⟩ : ∃ x,ff[i + 1]? = some x := ⟨_,List.getElem?_eq_getElem hi⟩
  have hx' : r[i]? = some x := by rw [← hr,List.getElem?_drop,Nat.add_comm]; exact hx
  have q1 := bvs_at hx' z1 none .i64
  have hft := flat_take (bb_at hx)
  have hle := flat_le (bb ff) (i + 1 + 1)
  have hfd := flat_drop (bb_at hx)
  rw [← hp] at hfd
  rw [hft,List.length_append,← hp] at hle
  have hcut := fun d => cut_vo (r := M.length) (n := (bb ff).flatten.length) (p := p) (by omega) d
  obtain ⟨lo2,hlo2,k2⟩ := copy_b (m := P.md f_q57) rfl (M := M) (lo := lo) (p := p) (data := (bb ff).flatten) x (by omega) hlo hfd
  have w5 : IntKind.i64.wrap ((p : Int) + x.2.length) = ((p + x.2.length : Nat) : Int) := by rw [wrap_i64 (by omega) (by omega)]; omega
  have w6 : IntKind.i64.wrap ((i : Int) + 1) = ((i + 1 : Nat) : Int) := by rw [wrap_i64 (by omega) (by omega)]; omega
  have w7 : IntKind.i64.wrap (p : Int) = p := wrap_i64 (by omega) (by omega)
  have hP : p + x.2.length = ((bb ff).take (i + 1 + 1)).flatten.length := by rw [hft,List.length_append,← hp]
  obtain ⟨p1,hp1⟩ : ∃ t,p + x.2.length = t := ⟨_,rfl⟩
  rw [hp1] at w5 k2 hP
  obtain ⟨i1,hi1⟩ : ∃ t,i + 1 = t := ⟨_,rfl⟩
  rw [hi1] at w6 hP
  obtain ⟨data,hdata⟩ : ∃ t,(bb ff).flatten = t := ⟨_,rfl⟩
  have hRes : ∀ σ,σ = L 92 (((((((Tr.full 7).put (path 1) (.c (.slice none 0 0))).put (path 8) (vo M.length data.length)).put (path 9) (ai p1)).put (path 70) (lst z1 1 none (bvs r))).put (path 71) (ai (l1 : Nat))).put (path 72) (ai i1)) → ∃ m,m < z ∧ InvK M z1 ff r m σ (JH M data p1 lo2) := fun σ e => by
   rw [← hdata,← hl1] at e
   exact ⟨z - 1,by omega,i1,p1,lo2,by omega,hP,hlo2,by rw [hdata],e⟩
  rw [hdata] at hcut k2 ⊢
  rw [hl1] at hla ⊢
  generalize JH M data p lo = G0 at *
  generalize JH M data p1 lo2 = G2 at *
  generalize M.length = ml at *
  simp -implicitDefEqProofs [-toCells,-AV.one,-forget,c_q57,lp1_q57,hla,hi2,hi',q1,hcut,copy_n,k2,w5,w6,w7]
  exact hRes _ (by simp)
 ·have hi' : ¬ (i : Int) < (l1 : Nat) := by omega
  have hi2 : ¬ i < l1 := by omega
  have hall : (bb ff).take (i + 1) = bb ff := List.take_of_length_le (by rw [bb_len]; omega)
  rw [hall] at hp
  subst hp
  rw [hl1] at hla ⊢
  simp -implicitDefEqProofs [-toCells,-AV.one,-forget,c_q57,lp1_q57,hla,hi2,hi']
  exact ⟨lo,hlo,by simp,rfl,by simp⟩
theorem frz_vo {data : List Nat} {lo n0 : Nat} (h : n0 = H.length) (hlo : lo ≤ data.length) : frz n0 (JH H data data.length lo) (vo H.length data.length) = some (.vs 1 none (byteCs data)) := by
 subst h
 have hget : (JH H data data.length lo)[H.length]? = some (.grow (data.map fun b => au b) lo) := by simp [JH,JC]
 have ch : ∀ x : List Nat,chunk 1 x.length (x.map fun b => au b) = byteCs x := by
  intro x
  induction x with
  | nil => rfl
  | cons a r ih => simp only [List.length_cons,List.map_cons,chunk,List.take_succ_cons,List.take_zero,List.drop_succ_cons,List.drop_zero,ih]; rfl
 simp only [vo,frz]
 rw [if_neg (by omega),if_neg (by omega)]
 by_cases h0 : data.length = 0
 ·have : data = [] := List.length_eq_zero_iff.1 h0
  subst this
  rfl
 ·rw [rdRow0,if_neg (by omega),rdRow,hget]
  simp only [AObj.isRow,AObj.lo,AObj.cells,List.length_map]
  rw [if_pos ⟨trivial,hlo,by omega,Nat.le_refl _⟩,List.drop_zero,List.take_of_length_le (by simp),Option.bind_some,if_pos (by simp [okCell]),ch]
set_option maxHeartbeats 1000000 in
theorem bytes_Join {z0 : Bool} {ff : List Bs} (hl : ff.length ≤ 100000) (hs : (bb ff).flatten.length ≤ 1000000) (H : Heap) :
  ∃ z f k,callW P f_q57 [lst z0 1 none (bvs ff),.c (.slice none 0 0)] H = some (lst z 1 f (byteCs (bb ff).flatten),H ++ List.replicate k .other) := by
 have hla : (bvs ff).length = ff.length := bvs_len ff
 by_cases c1 : ff.length = 0
 ·have c1' : (ff.length : Int) = 0 := by omega
  have c1'' : ff = [] := List.length_eq_zero_iff.1 c1
  refine ⟨false,some 0,0,?_⟩
  subst c1''
  have hb0 : bvs [] = [] := rfl
  rw [call_L 7 rfl (rfl : P.T f_q57 = some F_q57) (le_ok rfl)]; simp -implicitDefEqProofs [-toCells,-AV.one,-forget,F_q57,c_q57,hb0]
  simp [bb,byteCs]
 ·have c1' : ¬ (ff.length : Int) = 0 := by omega
  have c1'' : ¬ ff = [] := fun h => c1 (by rw [h]; rfl)
  obtain ⟨x,hx⟩ : ∃ x,ff[0]? = some x := ⟨_,List.getElem?_eq_getElem (by omega)⟩
  have q1 : iaddrW 1 none (lst z0 1 none (bvs ff)) (.c (.int .i64 0)) = some (.vp [bv x] 0) := bvs_at hx z0 none .i64
  by_cases c2 : ff.length = 1
  ·have c2' : (ff.length : Int) = 1 := by omega
   have hflat : (bb ff).flatten = x.2 := by
    match ff,c2,hx with
    | [a],_,hx => simp at hx; subst hx; simp [bb]
   rw [hflat] at hs ⊢
   refine ⟨true,some 0,0,?_⟩
   have hap : ∀ d σ H,appW (P.md f_q57) (some d) 1 1 (.c (.slice none 0 0)) (bv x) σ H = some (lst true 1 (some d) (byteCs x.2),σ.map (unfl [d]),H) := fun d σ H => by
    have hm : (P.md f_q57).row (some d) = false := by simp
    simpa using appW_lst (l := []) hm (fun H => bv_elems H x) (by simp [byteCs_len,appBound]; omega) (by simp [byteCs_len,appBound]; omega) σ H
   rw [call_L 7 rfl (rfl : P.T f_q57 = some F_q57) (le_ok rfl)]; simp -implicitDefEqProofs [-toCells,-AV.one,-forget,F_q57,c_q57,hla,c1,c1',c1'',c2,c2',q1,hap]
  ·have c2' : ¬ (ff.length : Int) = 1 := by omega
   refine ⟨false,none,1,?_⟩
   obtain ⟨data,hdata⟩ : ∃ t,(bb ff).flatten = t := ⟨_,rfl⟩
   rw [ends_eq]
   refine call_post 7 92 rfl (rfl : P.T f_q57 = some F_q57) rfl (le_ok rfl) (fun e σ G => e = .ret ∧ (∃ lo,lo ≤ data.length ∧ G = JH H data data.length lo) ∧ resultsA F_q57.res σ = some (vo H.length data.length)) ?_ ?_
   ·rintro e σ G ⟨rfl,⟨lo,hlo,rfl⟩,h2⟩
    refine ⟨rfl,_,h2,rfl,?_⟩
    simp [frz_vo (H := H) (data := data) rfl hlo,hdata]
    simp [JH]
   rw [F_q57]; simp -implicitDefEqProofs [-toCells,-AV.one,-forget,c_q57,hla,c1,c1',c1'',c2,c2']
   repeat rw [Option.bind_assoc]
   refine Ends.block (P := PostJ H z0 ff) (loopJ hl hs ff.length _ _ ⟨0,0,by omega,by simp,rfl,by simp [lp0_q57]⟩) ?_
   rintro e σ1 G1 ⟨rfl,rfl,k1⟩
   rw [hdata] at k1
   have hm := mknz_ok G1 data (by rw [← hdata]; simp only [appBound]; omega)
   have hc3 := fun e d => cut_v3 (r := G1.length) (n := data.length) e d
   have hfd := flat_drop (bb_at hx)
   rw [hdata] at hfd
   have hle := flat_le (bb ff) 1
   rw [flat_take (bb_at hx),hdata] at hle
   simp at hfd hle
   obtain ⟨lo,hlo,hcp⟩ := copy_b (m := P.md f_q57) rfl (M := G1) (data := data) (p := 0) (lo := 0) x (by omega) (by omega) (by simpa using hfd)
   have hvs : (AV.sl G1.length (if data.length = 0 then 0 else 0) (data.length - 0) (data.length - 0) 1 data.length true) = vo G1.length data.length := by simp [vo]
   rw [hvs] at hcp
   rw [Nat.zero_add] at hcp
   obtain ⟨r,hr⟩ : ∃ r,ff.drop 1 = r := ⟨_,rfl⟩
   have hcut : ∀ d,cutV 1 d (lst z0 1 none (bvs ff)) (some (.c (.int .i64 1))) none none = some (lst (z0 && (bvs ff).isEmpty) 1 none (bvs r)) := fun d => by
    have h := cutV_lst (lo := some (.c (.int .i64 1))) (hi := none) (i := 1) (j := (bvs ff).length) z0 1 none d (bvs ff) (.inr ⟨.i64,rfl⟩) (.inl ⟨rfl,rfl⟩) (by omega) (by omega)
    rw [h,cutL,List.take_length,← hr,bvs,bvs,List.map_drop]
   have hrl : (bvs r).length = ff.length - 1 := by rw [bvs_len,← hr,List.length_drop]
   obtain ⟨l1,hl1⟩ : ∃ t,ff.length - 1 = t := ⟨_,rfl⟩
   simp -implicitDefEqProofs [-toCells,-AV.one,-forget,c_q57,k1,hm,hc3,q1,hcp,hcut,hrl]
   refine Ends.block (P := PostK G1 ff) (loopK (z1 := z0 && (bvs ff).isEmpty) hr hl (by omega) hs (ff.length - 1) _ _ ⟨0,x.2.length,lo,by omega,?_,by rw [hdata]; exact hlo,by rw [hdata],?_⟩) ?_
   ·rw [flat_take (bb_at hx)]; simp
   ·rw [hdata]; simp [lp1_q57]
   rintro e σ2 G2 ⟨lo2,hlo2,rfl,rfl,k2⟩
   rw [hdata] at k2 hlo2 ⊢
   simp -implicitDefEqProofs [-toCells,-AV.one,-forget,c_q57,k2]
   exact ⟨lo2,hlo2,rfl⟩
end
end Go.A.V.S

namespace Go.A.V.S
open Go Go.A
theorem selfE_lst (z : Bool) (k : Nat) (f : Option Nat) (l : List (List AV)) : selfE (lst z k f l) = true := by
 rcases lst_cases z k f l with ⟨_,_,e⟩ | ⟨e,_⟩ <;> rw [e] <;> rfl
theorem goodB_L (n : Nat) (t : Tr) (H : Heap) (d : SOpG) : goodB (L n t) H d = (dstNot d.dst d.reads && (match d.dst with | some t => decide (t < n) | none => false) && match rdV d.op (L n t) H with
 | some v => selfE v
 | none => false) := by
 simp only [goodB,L_length]; rfl
theorem sn_Right {w : Nat} (hw : w = 10 ∨ w = 16) (H : Heap) : callW P f_q75 [.agg [ai w]] H = some (ab true,H) := by
 rcases hw with rfl | rfl
 ·show callW P f_q75 [.agg [ai 10]] H = _
  rw [call_L 5 rfl (rfl : P.T f_q75 = some F_q75) (le_ok rfl)]; simp -implicitDefEqProofs [-toCells,-AV.one,-forget,F_q75,c_q75,binA_nea,eqAll_i]
 ·show callW P f_q75 [.agg [ai 16]] H = _
  rw [call_L 5 rfl (rfl : P.T f_q75 = some F_q75) (le_ok rfl)]; simp -implicitDefEqProofs [-toCells,-AV.one,-forget,F_q75,c_q75,binA_nea,eqAll_i]
theorem sn_Size {w : Nat} (hw : w = 10 ∨ w = 16) (H : Heap) : callW P f_q59 [.agg [ai w]] H = some (ai (2 ^ w : Nat),H) := by
 have h90 := fun H => sn_Right hw H
 rcases hw with rfl | rfl
 ·have h90' : ∀ H,callW P f_q75 [.agg [ai 10]] H = some (ab true,H) := h90
  show callW P f_q59 [.agg [ai 10]] H = _
  rw [call_L 4 rfl (rfl : P.T f_q59 = some F_q59) (le_ok rfl)]; simp -implicitDefEqProofs [-toCells,-AV.one,-forget,F_q59,c_q59,h90']
  rfl
 ·have h90' : ∀ H,callW P f_q75 [.agg [ai 16]] H = some (ab true,H) := h90
  show callW P f_q59 [.agg [ai 16]] H = _
  rw [call_L 4 rfl (rfl : P.T f_q59 = some F_q59) (le_ok rfl)]; simp -implicitDefEqProofs [-toCells,-AV.one,-forget,F_q59,c_q59,h90']
  rfl
theorem sn_Is {w : Nat} (hw : w = 10 ∨ w = 16) (n : Int) (H : Heap) : callW P f_q76 [.agg [ai w],ai n] H = some (ab (decide (0 ≤ n ∧ n < (2 ^ w : Nat))),H) := by
 have h79 := fun H => sn_Size hw H
 generalize hq : 2 ^ w = q at *
 by_cases h0 : n ≥ 0
 ·have h0' : 0 ≤ n := h0
  rw [call_L 4 rfl (rfl : P.T f_q76 = some F_q76) (le_ok rfl)]; simp -implicitDefEqProofs [-toCells,-AV.one,-forget,F_q76,c_q76,h79,h0,h0']
 ·have h0' : ¬ 0 ≤ n := h0
  rw [call_L 4 rfl (rfl : P.T f_q76 = some F_q76) (le_ok rfl)]; simp -implicitDefEqProofs [-toCells,-AV.one,-forget,F_q76,c_q76,h79,h0,h0']
structure Pk where
 poll : Bool
 fi : Int
 sn : Int
 part : Bool
 last : Bool
 off : Int
 z : Bool
 ff : List Bs
theorem WN_fin {H : Heap} {b : List Bool} (l : List Nat) (hb : b ≠ []) : (WN H b l).take H.length = H ∧ (WN H b l).length = H.length + 2 := by
 rw [WN,if_neg hb,WH]
 simp
theorem put1 {H : Heap} {bits : List Bool} {l : List Nat} {m : Nat} (hm : bits.length = m) (hp : PackR bits l) (hb : m ≤ 65000) (v n : Nat) (hn : n ≤ 64) (hv : v < 2 ^ n) (v' n' : Int) (hv' : v' = v) (hn' : n' = n) :
  ∃ bits' l',bits' = bits ++ bitsOf v n ∧ bits'.length = m + n ∧ PackR bits' l' ∧ callW P f_q53 [.ptr H.length 0 2,.c (.int .u64 v'),ai n'] (WN H bits l) = some (ai 0,WN H bits' l') := by
 obtain ⟨l',h1,h2⟩ := bits_Put (H := H) hp hn hv (by omega) v' n' hv' hn'
 exact ⟨_,l',rfl,by rw [List.length_append,bitsOf_len,hm],h1,h2⟩
theorem lt2 (b : Bool) : b.toNat < 2 ^ 1 := by cases b <;> decide
section
variable {H : Heap}
end
end Go.A.V.S

namespace Go.A.V.S
open Go Go.A
section
variable {H : Heap}
def InvW (H : Heap) (z0 : Bool) (l : List Nat) (w : Nat) (z : Nat) (σ : List AV) (G : Heap) : Prop :=
 ∃ (i : Nat) (bits : List Bool) (lb : List Nat),i + z = l.length ∧ PackR bits lb ∧ G = WN H bits lb ∧ bits ++ lBits w (l.drop i) = lBits w l
  ∧ σ = L 54 (((((((Tr.full 6).put (path 0) (lst z0 1 none (nvs l))).put (path 1) (ai w)).put (path 6) (.ptr H.length 0 2)).put (path 23) (lst z0 1 none (nvs l))).put (path 24) (ai l.length)).put (path 25) (ai i))
def PostW (H : Heap) (l : List Nat) (w : Nat) (e : AExit) (σ : List AV) (G : Heap) : Prop :=
 e = .exit 1 ∧ ∃ lb,PackR (lBits w l) lb ∧ G = WN H (lBits w l) lb ∧ kill [0,1,23,24,25,26] σ = L 54 ((Tr.full 6).put (path 6) (.ptr H.length 0 2))
theorem loopW {z0 : Bool} {l : List Nat} (hll : l.length ≤ 23) {w : Nat} (hw : w = 11 ∨ w = 15) (hv : ∀ n ∈ l,1 ≤ n ∧ n < 2 ^ w) (z : Nat) (σ : List AV) (G : Heap) (hI : InvW H z0 l w z (kill (headK lp0_q55) σ) G) :
  Ends (execW P f_q55 (.loop lp0_q55) σ G) fun s => PostW H l w s.e s.σ s.H := by
 refine loop_ends (fun z σ G => InvW H z0 l w z σ G) (PostW H l w) ?_ z σ G hI
 clear hI z σ G
 rintro z σ G ⟨i,bits,lb,hz,hp,rfl,hb,rfl⟩
 have hlen : (nvs l).length = l.length := nvs_len l
 have hbl : bits.length ≤ 23 * 16 := by
  have e1 := congrArg List.length hb
  rw [List.length_append,lBits_len,lBits_len] at e1
  have : l.length * (w + 1) ≤ 23 * 16 := Nat.mul_le_mul hll (by omega)
  omega
 by_cases hi : i < l.length
 ·have hi' : (i : Int) < l.length := by omega
  obtain ⟨n,hn⟩ : ∃ n,l[i]? = some n := ⟨_,List.getElem?_eq_getElem hi⟩
  obtain ⟨hn1,hn2⟩ := hv n (List.mem_of_getElem? hn)
  have q1 := nvs_at hn z0 none .i64
  have hdrop : l.drop i = n :: l.drop (i + 1) := by
   rw [List.drop_eq_getElem_cons hi]
   rw [List.getElem?_eq_getElem hi] at hn
   rw [Option.some.inj hn]
  rw [hdrop,lBits,List.length_drop] at hb
  have hmore : decide (0 < l.length - (i + 1)) = decide (i + 1 < l.length) := decide_eq_decide.2 (by omega)
  rw [hmore] at hb
  obtain ⟨x1,l1,e1,n1,p1,c1⟩ := put1 (H := H) rfl hp (by omega) (decide (i + 1 < l.length)).toNat 1 (by omega) (lt2 _) ((decide (i + 1 < l.length)).toNat : Nat) 1 rfl rfl
  rw [bitsOf_b] at e1
  obtain ⟨x2,l2,e2,n2,p2,c2⟩ := put1 (H := H) n1 p1 (by omega) n w (by omega) hn2 n w rfl rfl
  have hb2 : x2 ++ lBits w (l.drop (i + 1)) = lBits w l := by rw [e2,e1,← hb]; simp
  have hn15 : n < 32768 := by
   have : 2 ^ w ≤ 2 ^ 15 := Nat.pow_le_pow_right (by omega) (by omega)
   have : (2 : Nat) ^ 15 = 32768 := by decide
   omega
  have a1 : ¬ (n : Int) < 1 := by omega
  have a1' : ¬ n < 1 := by omega
  have a1'' : ¬ n = 0 := by omega
  have hm : min w 64 = w := by omega
  have hw0 : ¬ (w : Int) < 0 := by omega
  have hpp : IntKind.i64.wrap (1 * 2 ^ w) = ((2 ^ w : Nat) : Int) := by
   rcases hw with rfl | rfl <;> rfl
  have hpp' : IntKind.i64.wrap (2 ^ w) = ((2 ^ w : Nat) : Int) := by
   rcases hw with rfl | rfl <;> rfl
  have a2 : ¬ (n : Int) ≥ ((2 ^ w : Nat) : Int) := by omega
  have a2' : ¬ ((2 ^ w : Nat) : Int) ≤ n := by omega
  have a2'' : ¬ 2 ^ w ≤ n := by omega
  have wl : IntKind.i64.wrap ((l.length : Int) - 1) = (l.length : Int) - 1 := wrap_i64 (by omega) (by omega)
  have wn : IntKind.u64.wrap (n : Int) = n := wrap_u64 (by omega) (by omega)
  have w3 : IntKind.i64.wrap ((i : Int) + 1) = ((i + 1 : Nat) : Int) := by rw [wrap_i64 (by omega) (by omega)]; omega
  generalize hpw : 2 ^ w = pw at *
  obtain ⟨i1,hi1⟩ : ∃ i1,i + 1 = i1 := ⟨_,rfl⟩
  rw [hi1] at w3 c1 hb2
  by_cases hlast : (i : Int) < (l.length : Int) - 1
  ·have hd : decide (i1 < l.length) = true := decide_eq_true (by omega)
   have hlast' : i < l.length - 1 := by omega
   rw [hd] at c1
   replace c1 : callW P f_q53 [.ptr H.length 0 2,.c (.int .u64 1),ai 1] (WN H bits lb) = _ := c1
   simp -implicitDefEqProofs [-toCells,-AV.one,-forget,c_q55,lp0_q55,hlen,hi,hi',q1,a1,a1',a1'',hm,hw0,hpp,hpp',a2,a2',a2'',wl,hlast,hlast',c1,wn,c2,w3]
   exact ⟨z - 1,by omega,i1,x2,l2,by omega,p2,rfl,hb2,by simp⟩
  ·have hd : decide (i1 < l.length) = false := decide_eq_false (by omega)
   have hlast' : ¬ i < l.length - 1 := by omega
   rw [hd] at c1
   replace c1 : callW P f_q53 [.ptr H.length 0 2,.c (.int .u64 0),ai 1] (WN H bits lb) = _ := c1
   simp -implicitDefEqProofs [-toCells,-AV.one,-forget,c_q55,lp0_q55,hlen,hi,hi',q1,a1,a1',a1'',hm,hw0,hpp,hpp',a2,a2',a2'',wl,hlast,hlast',c1,wn,c2,w3]
   exact ⟨z - 1,by omega,i1,x2,l2,by omega,p2,rfl,hb2,by simp⟩
 ·have hi' : ¬ (i : Int) < l.length := by omega
  have hnil : l.drop i = [] := List.drop_eq_nil_of_le (by omega)
  rw [hnil,lBits,List.append_nil] at hb
  subst hb
  simp -implicitDefEqProofs [-toCells,-AV.one,-forget,c_q55,lp0_q55,hlen,hi,hi']
  exact ⟨rfl,lb,hp,rfl,by simp⟩
theorem lens_Write {z0 : Bool} {l : List Nat} (h1 : 1 ≤ l.length) (hll : l.length ≤ 23) {w : Nat} (hw : w = 11 ∨ w = 15) (hv : ∀ n ∈ l,1 ≤ n ∧ n < 2 ^ w) (H : Heap) :
  ∃ lb,PackR (lBits w l) lb ∧ callW P f_q55 [lst z0 1 none (nvs l),ai w] H = some (.tup [.vs 1 none (byteCs lb),ai 0],H ++ List.replicate 2 .other) := by
 have h70 := fun H => lens_isWidth w H
 have hw' : decide ((w : Int) = 11 ∨ (w : Int) = 15) = true := by
  rcases hw with rfl | rfl <;> rfl
 rw [hw'] at h70
 have hlen : (nvs l).length = l.length := nvs_len l
 have a1 : ¬ (l.length : Int) = 0 := by omega
 have a1' : ¬ l.length = 0 := by omega
 have a1'' : ¬ l = [] := fun h => a1' (by rw [h]; rfl)
 have a2 : ¬ (l.length : Int) > 23 := by omega
 have a2' : ¬ (23 : Int) < l.length := by omega
 have a2'' : ¬ 23 < l.length := by omega
 have c75 := bits_New H
 suffices hs : Ends (callW P f_q55 [lst z0 1 none (nvs l),ai w] H) fun y => ∃ lb,PackR (lBits w l) lb ∧ y = (.tup [.vs 1 none (byteCs lb),ai 0],H ++ List.replicate 2 .other) by
  obtain ⟨y,h2,lb,h3,rfl⟩ := hs
  exact ⟨lb,h3,h2⟩
 have hne : lBits w l ≠ [] := fun e => by
  have := lBits_len w l
  rw [e] at this
  have h0 : 1 * 1 ≤ l.length * (w + 1) := Nat.mul_le_mul h1 (by omega)
  simp at this
  omega
 refine call_post 6 54 rfl (rfl : P.T f_q55 = some F_q55) rfl (le_ok rfl) (fun e σ G => e = .ret ∧ ∃ lb,PackR (lBits w l) lb ∧ G = WN H (lBits w l) lb ∧ resultsA F_q55.res σ = some (.tup [.vs 1 (some 53) (byteCs lb),ai 0])) ?_ ?_
 ·rintro e σ G ⟨rfl,lb,hp,rfl,h2⟩
  obtain ⟨t1,t2⟩ := WN_fin (H := H) lb hne
  refine ⟨rfl,_,h2,rfl,?_⟩
  simp [t1,t2]
  exact ⟨lb,hp,rfl⟩
 rw [F_q55]; simp -implicitDefEqProofs [-toCells,-AV.one,-forget,c_q55,h70,hlen,a1,a1',a1'',a2,a2',a2'',c75]
 repeat rw [Option.bind_assoc]
 refine Ends.block (P := PostW H l w) (loopW (z0 := z0) hll hw hv l.length _ _ ⟨0,[],[],by omega,PackR.nil,rfl,by simp,by simp [lp0_q55]⟩) ?_
 rintro e σ1 G1 ⟨rfl,lb,hp,rfl,k2⟩
 have hc := bits_Bytes (H := H) hp hne (by
  rw [lBits_len]
  have : l.length * (w + 1) ≤ 23 * 16 := Nat.mul_le_mul hll (by omega)
  omega)
 simp -implicitDefEqProofs [-toCells,-AV.one,-forget,c_q55,k2,hc]
 exact ⟨lb,hp,rfl,rfl⟩
end
end Go.A.V.S
