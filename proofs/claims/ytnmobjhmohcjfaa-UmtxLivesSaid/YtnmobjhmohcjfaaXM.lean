/- The reference's sizes. -/
import Derived.Test.YtnmobjhmohcjfaaXB
import Derived.Test.YtnmobjhmohcjfaaV14
import Derived.Test.YtnmobjhmohcjfaaXA
import Derived.Test.YtnmobjhmohcjfaaXC
import Derived.Test.YtnmobjhmohcjfaaXD
import Derived.Test.YtnmobjhmohcjfaaXG
set_option linter.unusedSimpArgs false
set_option linter.unusedVariables false
set_option linter.unnecessarySimpa false
namespace Go.A.V.S
open Go Go.A
def sz2 (b : Int) : Nat := if b < 1 ∨ 16 < b then 0 else 2 ^ b.toNat
section
variable {H : Heap}
def InvZ2 (H : Heap) (b : Nat) (z : Nat) (σ : List AV) (G : Heap) : Prop :=
 ∃ (i n : Nat),i + z = b ∧ n = 2 ^ i ∧ G = H ∧ σ = L 19 ((((Tr.full 5).put (path 0) (ai b)).put (path 3) (ai n)).put (path 4) (ai i))
def PostZ2 (H : Heap) (m : Nat) (e : AExit) (σ : List AV) (G : Heap) : Prop :=
 G = H ∧ e = .exit 0 ∧ kill [0,4,11,12,13] σ = L 19 ((Tr.full 5).put (path 3) (ai m))
theorem loopZ2 {b m : Nat} (hb : b ≤ 16) (hm : m = 2 ^ b) (z : Nat) (σ : List AV) (G : Heap) (hI : InvZ2 H b z (kill (headK lp0_q21) σ) G) :
  Ends (execW P f_q21 (.loop lp0_q21) σ G) fun s => PostZ2 H m s.e s.σ s.H := by
 refine loop_ends (fun z σ G => InvZ2 H b z σ G) (PostZ2 H m) ?_ z σ G hI
 clear hI z σ G
 rintro z σ G ⟨i,n,hz,hn,rfl,rfl⟩
 have hp : n ≤ 65536 := by
  rw [hn]
  calc 2 ^ i ≤ 2 ^ 16 := Nat.pow_le_pow_right (by omega) (by omega)
   _ = 65536 := by decide
 by_cases hi : i < b
 ·have hn2 : 2 * n = 2 ^ (i + 1) := by rw [Nat.pow_succ]; omega
  clear hn
  simp -implicitDefEqProofs (disch := first | omega | (simp; done) | fail) [-toCells,-AV.one,-forget,c_q21,cmp_ilt,cmp_ilf,cmp_ile,cmp_ilg,cmp_ine,cmp_ieq,cmp_nlt,cmp_nlf,cmp_nle,cmp_nne,cmp_neq,wrap_i64,wrap_u64,wrap_u8,lp0_q21]
  exact ⟨z - 1,by omega,i + 1,2 * n,by omega,hn2,rfl,by simp⟩
 ·have : i = b := by omega
  subst this
  obtain rfl : n = m := by rw [hn,hm]
  clear hn hm
  simp -implicitDefEqProofs (disch := first | omega | (simp; done) | fail) [-toCells,-AV.one,-forget,c_q21,cmp_ilt,cmp_ilf,cmp_ile,cmp_ilg,cmp_ine,cmp_ieq,cmp_nlt,cmp_nlf,cmp_nle,cmp_nne,cmp_neq,wrap_i64,wrap_u64,wrap_u8,lp0_q21]
  exact ⟨rfl,rfl,by simp⟩
theorem rSize02 (b : Int) (H : Heap) : callW P f_q21 [ai b] H = some (ai (sz2 b : Nat),H) := by
 by_cases hb : b < 1 ∨ 16 < b
 ·rw [sz2,if_pos hb]
  rcases hb with hb | hb
  ·rw [call_L 5 rfl (rfl : P.T f_q21 = some F_q21) (le_ok rfl)]; simp -implicitDefEqProofs (disch := first | omega | (simp; done) | fail) [-toCells,-AV.one,-forget,F_q21,c_q21,cmp_ilt,cmp_ilf,cmp_ile,cmp_ilg,cmp_ine,cmp_ieq,cmp_nlt,cmp_nlf,cmp_nle,cmp_nne,cmp_neq,wrap_i64,wrap_u64,wrap_u8]
  ·rw [call_L 5 rfl (rfl : P.T f_q21 = some F_q21) (le_ok rfl)]; simp -implicitDefEqProofs (disch := first | omega | (simp; done) | fail) [-toCells,-AV.one,-forget,F_q21,c_q21,cmp_ilt,cmp_ilf,cmp_ile,cmp_ilg,cmp_ine,cmp_ieq,cmp_nlt,cmp_nlf,cmp_nle,cmp_nne,cmp_neq,wrap_i64,wrap_u64,wrap_u8]
 ·rw [sz2,if_neg hb]
  obtain ⟨n,rfl⟩ : ∃ n : Nat,b = n := ⟨b.toNat,by omega⟩
  obtain ⟨m,hm⟩ : ∃ t,2 ^ (n : Int).toNat = t := ⟨_,rfl⟩
  rw [hm,ends_eq]
  have hl := loopZ2 (H := H) (b := n) (m := m) (by omega) (by rw [← hm]; simp) n
  clear hm
  refine call_post 5 19 rfl (rfl : P.T f_q21 = some F_q21) rfl (le_ok rfl) (fun e σ G => e = .ret ∧ G = H ∧ resultsA F_q21.res σ = some (ai m)) ?_ ?_
  ·rintro e σ G ⟨rfl,rfl,h⟩
   exact ⟨rfl,_,h,rfl,by simp⟩
  rw [F_q21]; simp -implicitDefEqProofs (disch := first | omega | (simp; done) | fail) [-toCells,-AV.one,-forget,c_q21,cmp_ilt,cmp_ilf,cmp_ile,cmp_ilg,cmp_ine,cmp_ieq,cmp_nlt,cmp_nlf,cmp_nle,cmp_nne,cmp_neq,wrap_i64,wrap_u64,wrap_u8]
  repeat rw [Option.bind_assoc]
  refine Ends.block (P := PostZ2 H m) (hl _ _ ⟨0,1,by omega,rfl,rfl,by simp [lp0_q21]⟩) ?_
  rintro e σ1 G1 ⟨rfl,rfl,c⟩
  simp -implicitDefEqProofs (disch := first | omega | (simp; done) | fail) [-toCells,-AV.one,-forget,c_q21,cmp_ilt,cmp_ilf,cmp_ile,cmp_ilg,cmp_ine,cmp_ieq,cmp_nlt,cmp_nlf,cmp_nle,cmp_nne,cmp_neq,wrap_i64,wrap_u64,wrap_u8,c]
end
end Go.A.V.S

namespace Go.A.V.S
open Go Go.A
section
variable {H : Heap}
theorem rIs (b n : Int) (H : Heap) : callW P f_q63 [ai b,ai n] H = some (ab (decide (0 ≤ n ∧ n < (sz2 b : Nat))),H) := by
 by_cases h : 0 ≤ n
 ·by_cases h2 : n < (sz2 b : Nat)
  ·rw [call_L 4 rfl (rfl : P.T f_q63 = some F_q63) (le_ok rfl)]; simp -implicitDefEqProofs (disch := first | omega | (simp; done) | fail) [-toCells,-AV.one,-forget,F_q63,c_q63,cmp_ilt,cmp_ilf,cmp_ile,cmp_ilg,cmp_ine,cmp_ieq,cmp_nlt,cmp_nlf,cmp_nle,cmp_nne,cmp_neq,wrap_i64,wrap_u64,wrap_u8,rSize02]
  ·rw [call_L 4 rfl (rfl : P.T f_q63 = some F_q63) (le_ok rfl)]; simp -implicitDefEqProofs (disch := first | omega | (simp; done) | fail) [-toCells,-AV.one,-forget,F_q63,c_q63,cmp_ilt,cmp_ilf,cmp_ile,cmp_ilg,cmp_ine,cmp_ieq,cmp_nlt,cmp_nlf,cmp_nle,cmp_nne,cmp_neq,wrap_i64,wrap_u64,wrap_u8,rSize02]
 ·rw [call_L 4 rfl (rfl : P.T f_q63 = some F_q63) (le_ok rfl)]; simp -implicitDefEqProofs (disch := first | omega | (simp; done) | fail) [-toCells,-AV.one,-forget,F_q63,c_q63,cmp_ilt,cmp_ilf,cmp_ile,cmp_ilg,cmp_ine,cmp_ieq,cmp_nlt,cmp_nlf,cmp_nle,cmp_nne,cmp_neq,wrap_i64,wrap_u64,wrap_u8,rSize02]
def InvL8 (H : Heap) (n w m : Nat) (z : Nat) (σ : List AV) (G : Heap) : Prop :=
 ∃ (i : Nat),i + z = m ∧ G = H ∧ σ = L 30 ((((Tr.full 5).put (path 0) (ai n)).put (path 1) (ai w)).put (path 5) (ai i))
def PostL8 (H : Heap) (m : Nat) (e : AExit) (σ : List AV) (G : Heap) : Prop :=
 G = H ∧ e = .exit 0 ∧ kill [0,1,20,21,22,23,24,25,26] σ = L 30 ((Tr.full 5).put (path 5) (ai m))
theorem loopL8 {n w m : Nat} (hn : n ≤ 23) (hw : w = 11 ∨ w = 15) (hm : m = (n * (w + 1) + 7) / 8) (z : Nat) (σ : List AV) (G : Heap) (hI : InvL8 H n w m z (kill (headK lp0_q62) σ) G) :
  Ends (execW P f_q62 (.loop lp0_q62) σ G) fun s => PostL8 H m s.e s.σ s.H := by
 refine loop_ends (fun z σ G => InvL8 H n w m z σ G) (PostL8 H m) ?_ z σ G hI
 clear hI z σ G
 rintro z σ G ⟨i,hz,rfl,rfl⟩
 have hmm : m ≤ 46 := by
  have : n * (w + 1) ≤ 23 * 16 := Nat.mul_le_mul hn (by omega)
  omega
 rcases hw with rfl | rfl
 ·by_cases hi : i < m
  ·simp -implicitDefEqProofs (disch := first | omega | (simp; done) | fail) [-toCells,-AV.one,-forget,c_q62,cmp_ilt,cmp_ilf,cmp_ile,cmp_ilg,cmp_ine,cmp_ieq,cmp_nlt,cmp_nlf,cmp_nle,cmp_nne,cmp_neq,wrap_i64,wrap_u64,wrap_u8,lp0_q62]
   exact ⟨z - 1,by omega,i + 1,by omega,rfl,by simp⟩
  ·obtain rfl : i = m := by omega
   simp -implicitDefEqProofs (disch := first | omega | (simp; done) | fail) [-toCells,-AV.one,-forget,c_q62,cmp_ilt,cmp_ilf,cmp_ile,cmp_ilg,cmp_ine,cmp_ieq,cmp_nlt,cmp_nlf,cmp_nle,cmp_nne,cmp_neq,wrap_i64,wrap_u64,wrap_u8,lp0_q62]
   exact ⟨rfl,rfl,by simp⟩
 ·by_cases hi : i < m
  ·simp -implicitDefEqProofs (disch := first | omega | (simp; done) | fail) [-toCells,-AV.one,-forget,c_q62,cmp_ilt,cmp_ilf,cmp_ile,cmp_ilg,cmp_ine,cmp_ieq,cmp_nlt,cmp_nlf,cmp_nle,cmp_nne,cmp_neq,wrap_i64,wrap_u64,wrap_u8,lp0_q62]
   exact ⟨z - 1,by omega,i + 1,by omega,rfl,by simp⟩
  ·obtain rfl : i = m := by omega
   simp -implicitDefEqProofs (disch := first | omega | (simp; done) | fail) [-toCells,-AV.one,-forget,c_q62,cmp_ilt,cmp_ilf,cmp_ile,cmp_ilg,cmp_ine,cmp_ieq,cmp_nlt,cmp_nlf,cmp_nle,cmp_nne,cmp_neq,wrap_i64,wrap_u64,wrap_u8,lp0_q62]
   exact ⟨rfl,rfl,by simp⟩
theorem rSize08 (n : Int) {w : Nat} (hw : w = 11 ∨ w = 15) (H : Heap) : callW P f_q62 [ai n,ai w] H = some (ai (if n < 1 then 0 else lsize n.toNat w : Nat),H) := by
 by_cases hn : n < 1 ∨ 23 < n
 ·have e : (if n < 1 then 0 else lsize n.toNat w : Nat) = 0 := by
   split
   ·rfl
   ·rw [lsize,if_pos (by omega)]
  rw [e]
  rcases hn with hn | hn <;> rcases hw with rfl | rfl
  ·rw [call_L 5 rfl (rfl : P.T f_q62 = some F_q62) (le_ok rfl)]; simp -implicitDefEqProofs (disch := first | omega | (simp; done) | fail) [-toCells,-AV.one,-forget,F_q62,c_q62,cmp_ilt,cmp_ilf,cmp_ile,cmp_ilg,cmp_ine,cmp_ieq,cmp_nlt,cmp_nlf,cmp_nle,cmp_nne,cmp_neq,wrap_i64,wrap_u64,wrap_u8]
  ·rw [call_L 5 rfl (rfl : P.T f_q62 = some F_q62) (le_ok rfl)]; simp -implicitDefEqProofs (disch := first | omega | (simp; done) | fail) [-toCells,-AV.one,-forget,F_q62,c_q62,cmp_ilt,cmp_ilf,cmp_ile,cmp_ilg,cmp_ine,cmp_ieq,cmp_nlt,cmp_nlf,cmp_nle,cmp_nne,cmp_neq,wrap_i64,wrap_u64,wrap_u8]
  ·rw [call_L 5 rfl (rfl : P.T f_q62 = some F_q62) (le_ok rfl)]; simp -implicitDefEqProofs (disch := first | omega | (simp; done) | fail) [-toCells,-AV.one,-forget,F_q62,c_q62,cmp_ilt,cmp_ilf,cmp_ile,cmp_ilg,cmp_ine,cmp_ieq,cmp_nlt,cmp_nlf,cmp_nle,cmp_nne,cmp_neq,wrap_i64,wrap_u64,wrap_u8]
  ·rw [call_L 5 rfl (rfl : P.T f_q62 = some F_q62) (le_ok rfl)]; simp -implicitDefEqProofs (disch := first | omega | (simp; done) | fail) [-toCells,-AV.one,-forget,F_q62,c_q62,cmp_ilt,cmp_ilf,cmp_ile,cmp_ilg,cmp_ine,cmp_ieq,cmp_nlt,cmp_nlf,cmp_nle,cmp_nne,cmp_neq,wrap_i64,wrap_u64,wrap_u8]
 ·obtain ⟨k,rfl⟩ : ∃ n' : Nat,n = n' := ⟨n.toNat,by omega⟩
  have e : (if (k : Int) < 1 then 0 else lsize (k : Int).toNat w : Nat) = (k * (w + 1) + 7) / 8 := by
   rw [if_neg (by omega),lsize,if_neg (by omega)]; rfl
  rw [e]
  obtain ⟨m,hm⟩ : ∃ t,(k * (w + 1) + 7) / 8 = t := ⟨_,rfl⟩
  rw [hm,ends_eq]
  refine call_post 5 30 rfl (rfl : P.T f_q62 = some F_q62) rfl (le_ok rfl) (fun e σ G => e = .ret ∧ G = H ∧ resultsA F_q62.res σ = some (ai (m : Nat))) ?_ ?_
  ·rintro e σ G ⟨rfl,rfl,h⟩
   exact ⟨rfl,_,h,rfl,by simp⟩
  have hl := loopL8 (H := H) (n := k) (w := w) (m := m) (by omega) hw hm.symm m
  clear hm
  rcases hw with rfl | rfl
  ·rw [F_q62]; simp -implicitDefEqProofs (disch := first | omega | (simp; done) | fail) [-toCells,-AV.one,-forget,c_q62,cmp_ilt,cmp_ilf,cmp_ile,cmp_ilg,cmp_ine,cmp_ieq,cmp_nlt,cmp_nlf,cmp_nle,cmp_nne,cmp_neq,wrap_i64,wrap_u64,wrap_u8]
   repeat rw [Option.bind_assoc]
   refine Ends.block (P := PostL8 H m) (hl _ _ ⟨0,by omega,rfl,by simp [lp0_q62]⟩) ?_
   rintro e σ1 G1 ⟨rfl,rfl,c⟩
   simp -implicitDefEqProofs (disch := first | omega | (simp; done) | fail) [-toCells,-AV.one,-forget,c_q62,cmp_ilt,cmp_ilf,cmp_ile,cmp_ilg,cmp_ine,cmp_ieq,cmp_nlt,cmp_nlf,cmp_nle,cmp_nne,cmp_neq,wrap_i64,wrap_u64,wrap_u8,c]
  ·rw [F_q62]; simp -implicitDefEqProofs (disch := first | omega | (simp; done) | fail) [-toCells,-AV.one,-forget,c_q62,cmp_ilt,cmp_ilf,cmp_ile,cmp_ilg,cmp_ine,cmp_ieq,cmp_nlt,cmp_nlf,cmp_nle,cmp_nne,cmp_neq,wrap_i64,wrap_u64,wrap_u8]
   repeat rw [Option.bind_assoc]
   refine Ends.block (P := PostL8 H m) (hl _ _ ⟨0,by omega,rfl,by simp [lp0_q62]⟩) ?_
   rintro e σ1 G1 ⟨rfl,rfl,c⟩
   simp -implicitDefEqProofs (disch := first | omega | (simp; done) | fail) [-toCells,-AV.one,-forget,c_q62,cmp_ilt,cmp_ilf,cmp_ile,cmp_ilg,cmp_ine,cmp_ieq,cmp_nlt,cmp_nlf,cmp_nle,cmp_nne,cmp_neq,wrap_i64,wrap_u64,wrap_u8,c]
end
end Go.A.V.S

namespace Go.A.V.S
open Go Go.A
def bls (l : List Bool) : List (List AV) := l.map fun b => [ab b]
theorem bls_len (l : List Bool) : (bls l).length = l.length := by simp [bls]
theorem bls_snoc (l : List Bool) (b : Bool) : bls (l ++ [b]) = bls l ++ [[ab b]] := by simp [bls]
theorem bls_at {l : List Bool} {i : Nat} {b : Bool} (h : l[i]? = some b) (z : Bool) (f : Option Nat) (k : IntKind) : iaddrW 1 none (lst z 1 f (bls l)) (.c (.int k i)) = some (.vp [ab b] 0) := iaddrW_lst _ _ _ (by simp [bls,h]) k
end Go.A.V.S

namespace Go.A.V.S
open Go Go.A
theorem app1c {m : Md} {d c bytes : Nat} {l : List (List AV)} {v : AV} (hm : m.row (some d) = false) (hb : bytes ≤ 1000) (h : l.length ≤ 100000) (f : Option Nat) :
  ∃ cs,(cs = [d] ∨ cs = [c,d]) ∧ ∀ (σ : List AV) (H : Heap),appW m (some d) 1 bytes (lst true 1 (some c) l) (.vs 1 f [[v]]) σ H = some (lst true 1 (some d) (l ++ [[v]]),σ.map (unfl cs),H) := by
 have h1 : (l.length + 1) * bytes ≤ appBound := by
  have : (l.length + 1) * bytes ≤ 100001 * 1000 := Nat.mul_le_mul (by omega) hb
  simp only [appBound]; omega
 have h2 : l.length + 1 ≤ appBound := by simp only [appBound]; omega
 have hne : lst true 1 (some d) (l ++ [[v]]) = .vs 1 (some d) (l ++ [[v]]) := lst_ne (by simp)
 rcases lst_cases true 1 (some c) l with ⟨_,rfl,e⟩ | ⟨e,h3⟩
 ·refine ⟨[d],.inl rfl,fun σ H => ?_⟩
  rw [e,hne]
  simp only [appW,hm,Bool.false_eq_true,if_false,appV,elems_vs,Option.bind_some,List.nil_append]
  rw [if_neg (by simp),if_pos ⟨by simpa using h1,by simpa using h2⟩]
 ·refine ⟨[c,d],.inr rfl,fun σ H => ?_⟩
  rw [e,hne,appW_vs (fun H => elems_vs H 1 f [[v]]) h1 h2]
theorem tdivu2 (u : Nat) (h : u < 2 ^ 64) : IntKind.u64.wrap ((u : Int).tdiv 2) = ((u / 2 : Nat) : Int) ∧ IntKind.u64.wrap ((u : Int) / 2) = ((u / 2 : Nat) : Int) ∧ (u : Int).tmod 2 = ((u % 2 : Nat) : Int) ∧ (u : Int) % 2 = ((u % 2 : Nat) : Int) ∧ IntKind.u64.wrap ((u % 2 : Nat) : Int) = ((u % 2 : Nat) : Int) := by
 have e : (u : Int) / 2 = ((u / 2 : Nat) : Int) := by omega
 have e2 : (u : Int) % 2 = ((u % 2 : Nat) : Int) := by omega
 refine ⟨?_,?_,?_,e2,wrap_u64 (by omega) (by omega)⟩
 ·rw [Int.tdiv_eq_ediv_of_nonneg (by omega),e]; exact wrap_u64 (by omega) (by omega)
 ·rw [e]; exact wrap_u64 (by omega) (by omega)
 ·rw [Int.tmod_eq_emod_of_nonneg (by omega),e2]
section
variable {H : Heap}
def InvT1 (H : Heap) (v n : Nat) (z : Nat) (σ : List AV) (G : Heap) : Prop :=
 ∃ (i u : Nat),i + z = n ∧ u = v / 2 ^ i ∧ G = H ∧ σ = L 21 ((((Tr.full 5).put (path 0) (.c (.int .u64 u))).put (path 1) (ai n)).put (path 5) (ai i))
def PostT1 (H : Heap) (v n : Nat) (e : AExit) (σ : List AV) (G : Heap) : Prop :=
 G = H ∧ e = .exit 0 ∧ ∃ u : Nat,u = v / 2 ^ n ∧ kill [1,5,12,13,14] σ = L 21 ((Tr.full 5).put (path 0) (.c (.int .u64 u)))
theorem loopT1 {v n : Nat} (hv : v < 2 ^ 64) (hn : n ≤ 64) (z : Nat) (σ : List AV) (G : Heap) (hI : InvT1 H v n z (kill (headK lp0_q65) σ) G) :
  Ends (execW P f_q65 (.loop lp0_q65) σ G) fun s => PostT1 H v n s.e s.σ s.H := by
 refine loop_ends (fun z σ G => InvT1 H v n z σ G) (PostT1 H v n) ?_ z σ G hI
 clear hI z σ G
 rintro z σ G ⟨i,u,hz,hu,rfl,rfl⟩
 have hu64 : u < 2 ^ 64 := by
  have := Nat.div_le_self v (2 ^ i); omega
 by_cases hi : i < n
 ·obtain ⟨d1,d2,_⟩ := tdivu2 u hu64
  have hu2 : u / 2 = v / 2 ^ (i + 1) := by rw [hu,Nat.div_div_eq_div_mul,Nat.pow_succ]
  obtain ⟨u2,hu2'⟩ : ∃ t,u / 2 = t := ⟨_,rfl⟩
  rw [hu2'] at d1 d2 hu2
  clear hu
  simp -implicitDefEqProofs (disch := first | omega | (simp; done) | fail) [-toCells,-AV.one,-forget,c_q65,cmp_ilt,cmp_ilf,cmp_ile,cmp_ilg,cmp_ine,cmp_ieq,cmp_nlt,cmp_nlf,cmp_nle,cmp_nne,cmp_neq,wrap_i64,wrap_u64,wrap_u8,lp0_q65,d1,d2]
  exact ⟨z - 1,by omega,i + 1,u2,by omega,hu2,rfl,by simp⟩
 ·obtain rfl : i = n := by omega
  have hu' : ∃ u' : Nat,u' = v / 2 ^ i ∧ u = u' := ⟨u,hu,rfl⟩
  clear hu
  simp -implicitDefEqProofs (disch := first | omega | (simp; done) | fail) [-toCells,-AV.one,-forget,c_q65,cmp_ilt,cmp_ilf,cmp_ile,cmp_ilg,cmp_ine,cmp_ieq,cmp_nlt,cmp_nlf,cmp_nle,cmp_nne,cmp_neq,wrap_i64,wrap_u64,wrap_u8,lp0_q65]
  obtain ⟨u',h1,rfl⟩ := hu'
  exact ⟨rfl,rfl,u,h1,by simp⟩
theorem rFits {v n : Nat} (hv : v < 2 ^ 64) (hn : n ≤ 64) (hvn : v < 2 ^ n) (H : Heap) : callW P f_q65 [.c (.int .u64 v),ai n] H = some (ab true,H) := by
 rw [ends_eq]
 have hl := loopT1 (H := H) hv hn n
 refine call_post 5 21 rfl (rfl : P.T f_q65 = some F_q65) rfl (le_ok rfl) (fun e σ G => e = .ret ∧ G = H ∧ resultsA F_q65.res σ = some (ab true)) ?_ ?_
 ·rintro e σ G ⟨rfl,rfl,h⟩
  exact ⟨rfl,_,h,rfl,by simp⟩
 rw [F_q65]; simp -implicitDefEqProofs (disch := first | omega | (simp; done) | fail) [-toCells,-AV.one,-forget,c_q65,cmp_ilt,cmp_ilf,cmp_ile,cmp_ilg,cmp_ine,cmp_ieq,cmp_nlt,cmp_nlf,cmp_nle,cmp_nne,cmp_neq,wrap_i64,wrap_u64,wrap_u8]
 repeat rw [Option.bind_assoc]
 refine Ends.block (P := PostT1 H v n) (hl _ _ ⟨0,v,by omega,by simp,rfl,by simp [lp0_q65]⟩) ?_
 rintro e σ1 G1 ⟨rfl,rfl,u,hu,c⟩
 obtain rfl : u = 0 := by rw [hu]; exact Nat.div_eq_of_lt hvn
 replace c : kill [1,5,12,13,14] σ1 = L 21 ((Tr.full 5).put (path 0) (.c (.int .u64 0))) := c
 simp -implicitDefEqProofs (disch := first | omega | (simp; done) | fail) [-toCells,-AV.one,-forget,c_q65,cmp_ilt,cmp_ilf,cmp_ile,cmp_ilg,cmp_ine,cmp_ieq,cmp_nlt,cmp_nlf,cmp_nle,cmp_nne,cmp_neq,wrap_i64,wrap_u64,wrap_u8,c]
def lowB (v i : Nat) : List Bool := (List.range i).map fun j => decide (v / 2 ^ j % 2 = 1)
theorem lowB_succ (v i : Nat) : lowB v (i + 1) = lowB v i ++ [decide (v / 2 ^ i % 2 = 1)] := by simp [lowB,List.range_succ]
theorem lowB_len (v i : Nat) : (lowB v i).length = i := by simp [lowB]
theorem lowB_at {v i j : Nat} (h : j < i) : (lowB v i)[j]? = some (decide (v / 2 ^ j % 2 = 1)) := by simp [lowB,h]
def InvT2 (H : Heap) (x : AV) (v n : Nat) (z : Nat) (σ : List AV) (G : Heap) : Prop :=
 ∃ (i u : Nat),i + z = n ∧ u = v / 2 ^ i ∧ G = H ∧ σ = L 53 (((((((Tr.full 6).put (path 0) (x)).put (path 1) (.c (.int .u64 u))).put (path 2) (ai n)).put (path 8) (lst true 1 (some 33) (bls (lowB v i)))).put (path 9) (nilS)).put (path 10) (ai i))
def PostT2 (H : Heap) (x : AV) (v n : Nat) (e : AExit) (σ : List AV) (G : Heap) : Prop :=
 G = H ∧ e = .exit 0 ∧ kill [1,10,23,24,25] σ = L 53 (((((Tr.full 6).put (path 0) (x)).put (path 2) (ai n)).put (path 8) (lst true 1 (some 33) (bls (lowB v n)))).put (path 9) (nilS))
theorem loopT2 {zx : Bool} {x : List Bool} {v n : Nat} (hv : v < 2 ^ 64) (hn : n ≤ 64) (z : Nat) (σ : List AV) (G : Heap) (hI : InvT2 H (lst zx 1 none (bls x)) v n z (kill (headK lp0_q34) σ) G) :
  Ends (execW P f_q34 (.loop lp0_q34) σ G) fun s => PostT2 H (lst zx 1 none (bls x)) v n s.e s.σ s.H := by
 refine loop_ends (fun z σ G => InvT2 H (lst zx 1 none (bls x)) v n z σ G) (PostT2 H (lst zx 1 none (bls x)) v n) ?_ z σ G hI
 clear hI z σ G
 rintro z σ G ⟨i,u,hz,hu,rfl,rfl⟩
 have hu64 : u < 2 ^ 64 := by
  have := Nat.div_le_self v (2 ^ i); omega
 by_cases hi : i < n
 ·obtain ⟨d1,d2,d3,d4,d5⟩ := tdivu2 u hu64
  have hu2 : u / 2 = v / 2 ^ (i + 1) := by rw [hu,Nat.div_div_eq_div_mul,Nat.pow_succ]
  have hsn := lowB_succ v i
  rw [← hu] at hsn
  obtain ⟨u2,hu2'⟩ : ∃ t,u / 2 = t := ⟨_,rfl⟩
  rw [hu2'] at d1 d2 hu2
  obtain ⟨r,hr⟩ : ∃ t,u % 2 = t := ⟨_,rfl⟩
  rw [hr] at d3 d4 d5 hsn
  have hd : decide ((r : Int) = 1) = decide (r = 1) := decide_eq_decide.2 (by omega)
  clear hu
  have hap := fun σ H => app1 (m := P.md f_q34) (d := 33) (bytes := 1) (v := ab (decide (r = 1))) (R_q34 33) (by omega) (by rw [bls_len,lowB_len]; omega) (l := bls (lowB v i)) (some 32) σ H
  rw [← bls_snoc,← hsn] at hap
  generalize bls (lowB v i) = L0 at *
  have hres : ∀ σ,σ = L 53 (((((((Tr.full 6).put (path 0) (lst zx 1 none (bls x))).put (path 1) (.c (.int .u64 u2))).put (path 2) (ai n)).put (path 8) (lst true 1 (some 33) (bls (lowB v (i + 1))))).put (path 9) (nilS)).put (path 10) (ai (i + 1 : Nat))) → ∃ m,m < z ∧ InvT2 G (lst zx 1 none (bls x)) v n m σ G := fun σ e => ⟨z - 1,by omega,i + 1,u2,by omega,hu2,rfl,e⟩
  generalize bls (lowB v (i + 1)) = L1 at *
  simp -implicitDefEqProofs (disch := first | omega | (simp; done) | fail) [-toCells,-AV.one,-forget,c_q34,cmp_ilt,cmp_ilf,cmp_ile,cmp_ilg,cmp_ine,cmp_ieq,cmp_nlt,cmp_nlf,cmp_nle,cmp_nne,cmp_neq,wrap_i64,wrap_u64,wrap_u8,lp0_q34,d1,d2,d3,d4,d5,hd,hap]
  exact hres _ (by simp)
 ·obtain rfl : i = n := by omega
  clear hu
  simp -implicitDefEqProofs (disch := first | omega | (simp; done) | fail) [-toCells,-AV.one,-forget,c_q34,cmp_ilt,cmp_ilf,cmp_ile,cmp_ilg,cmp_ine,cmp_ieq,cmp_nlt,cmp_nlf,cmp_nle,cmp_nne,cmp_neq,wrap_i64,wrap_u64,wrap_u8,lp0_q34]
  exact ⟨rfl,rfl,by simp⟩
def InvT3 (H : Heap) (x : List Bool) (v n : Nat) (z : Nat) (σ : List AV) (G : Heap) : Prop :=
 ∃ (c : Nat) (i : Int),(c = 38 ∨ c = 51) ∧ i = (z : Int) - 1 ∧ z ≤ n ∧ G = H ∧ σ = L 53 ((((Tr.full 6).put (path 8) (lst true 1 (some 33) (bls (lowB v n)))).put (path 9) (lst true 1 (some c) (bls (x ++ (bitsOf v n).take (n - z))))).put (path 11) (ai i))
def PostT3 (H : Heap) (x : List Bool) (v n : Nat) (e : AExit) (σ : List AV) (G : Heap) : Prop :=
 G = H ∧ e = .exit 2 ∧ ∃ c,kill [8,11,41,42] σ = L 53 ((Tr.full 6).put (path 9) (lst true 1 (some c) (bls (x ++ bitsOf v n))))
theorem loopT3 {x : List Bool} {v n : Nat} (hx : x.length ≤ 65536) (hn : n ≤ 64) (z : Nat) (σ : List AV) (G : Heap) (hI : InvT3 H x v n z (kill (headK lp1_q34) σ) G) :
  Ends (execW P f_q34 (.loop lp1_q34) σ G) fun s => PostT3 H x v n s.e s.σ s.H := by
 refine loop_ends (fun z σ G => InvT3 H x v n z σ G) (PostT3 H x v n) ?_ z σ G hI
 clear hI z σ G
 rintro z σ G ⟨c,i,hc,hi,hz,rfl,rfl⟩
 cases z with
 | succ z =>
  obtain rfl : i = (z : Int) := by omega
  have q1 := bls_at (lowB_at (v := v) (i := n) (j := z) (by omega)) true (some 33) .i64
  have hsn := bitsOf_take (v := v) (n := n) (i := z) (by omega)
  obtain ⟨cs,hcs,hap⟩ := app1c (m := P.md f_q34) (d := 51) (c := c) (bytes := 1) (v := ab (decide (v / 2 ^ z % 2 = 1))) (R_q34 51) (by omega) (by rw [bls_len,List.length_append,List.length_take,bitsOf_len]; omega) (l := bls (x ++ (bitsOf v n).take (n - (z + 1)))) (some 50)
  rw [← bls_snoc,List.append_assoc,← hsn] at hap
  obtain ⟨b,hb⟩ : ∃ t,decide (v / 2 ^ z % 2 = 1) = t := ⟨_,rfl⟩
  rw [hb] at hap q1
  generalize bls (x ++ (bitsOf v n).take (n - (z + 1))) = L0 at *
  have hres : ∀ σ,σ = L 53 ((((Tr.full 6).put (path 8) (lst true 1 (some 33) (bls (lowB v n)))).put (path 9) (lst true 1 (some 51) (bls (x ++ (bitsOf v n).take (n - z))))).put (path 11) (ai ((z : Int) - 1))) → ∃ m,m < z + 1 ∧ InvT3 G x v n m σ G := fun σ e => ⟨z,by omega,51,(z : Int) - 1,.inr rfl,rfl,by omega,rfl,e⟩
  generalize bls (x ++ (bitsOf v n).take (n - z)) = L1 at *
  generalize bls (lowB v n) = L2 at *
  rcases hcs with rfl | rfl
  ·simp -implicitDefEqProofs (disch := first | omega | (simp; done) | fail) [-toCells,-AV.one,-forget,c_q34,cmp_ilt,cmp_ilf,cmp_ile,cmp_ilg,cmp_ine,cmp_ieq,cmp_nlt,cmp_nlf,cmp_nle,cmp_nne,cmp_neq,wrap_i64,wrap_u64,wrap_u8,lp1_q34,q1,hap]
   exact hres _ (by simp)
  ·rcases hc with rfl | rfl
   ·simp -implicitDefEqProofs (disch := first | omega | (simp; done) | fail) [-toCells,-AV.one,-forget,c_q34,cmp_ilt,cmp_ilf,cmp_ile,cmp_ilg,cmp_ine,cmp_ieq,cmp_nlt,cmp_nlf,cmp_nle,cmp_nne,cmp_neq,wrap_i64,wrap_u64,wrap_u8,lp1_q34,q1,hap]
    exact hres _ (by simp)
   ·simp -implicitDefEqProofs (disch := first | omega | (simp; done) | fail) [-toCells,-AV.one,-forget,c_q34,cmp_ilt,cmp_ilf,cmp_ile,cmp_ilg,cmp_ine,cmp_ieq,cmp_nlt,cmp_nlf,cmp_nle,cmp_nne,cmp_neq,wrap_i64,wrap_u64,wrap_u8,lp1_q34,q1,hap]
    exact hres _ (by simp)
 | zero =>
  obtain rfl : i = -1 := by omega
  have ht : (bitsOf v n).take (n - 0) = bitsOf v n := List.take_of_length_le (by rw [bitsOf_len]; omega)
  rw [ht]
  simp -implicitDefEqProofs (disch := first | omega | (simp; done) | fail) [-toCells,-AV.one,-forget,c_q34,cmp_ilt,cmp_ilf,cmp_ile,cmp_ilg,cmp_ine,cmp_ieq,cmp_nlt,cmp_nlf,cmp_nle,cmp_nne,cmp_neq,wrap_i64,wrap_u64,wrap_u8,lp1_q34]
  exact ⟨rfl,rfl,c,by simp⟩
theorem rPut {zx : Bool} {x : List Bool} (hx : x.length ≤ 60000) {v n : Nat} (hn : n ≤ 63) (hvn : v < 2 ^ n) (H : Heap) :
  callW P f_q34 [lst zx 1 none (bls x),.c (.int .u64 v),ai n] H = some (.tup [lst true 1 (some 0) (bls (x ++ bitsOf v n)),ai 0],H) := by
 have hv : v < 2 ^ 64 := Nat.lt_of_lt_of_le hvn (Nat.pow_le_pow_right (by omega) (by omega))
 have hf := fun H => rFits (H := H) hv (by omega : n ≤ 64) hvn
 rw [ends_eq]
 have hl := loopT2 (H := H) (zx := zx) (x := x) hv (by omega : n ≤ 64) n
 have hl2 := loopT3 (H := H) (x := x) (v := v) (n := n) (by omega) (by omega) n
 have hbl := bls_len x
 have hap := fun σ H => appW_lst (m := P.md f_q34) (d := 38) (bytes := 1) (sz := 1) (l := []) (l' := bls x) (x := lst zx 1 none (bls x)) (R_q34 38) (fun H => Go.A.V.elems_lst H zx 1 none _) (by simp [bls_len,appBound]; omega) (by simp [bls_len,appBound]; omega) σ H
 rw [lst_nil,List.nil_append] at hap
 refine call_post 6 53 rfl (rfl : P.T f_q34 = some F_q34) rfl (le_ok rfl) (fun e σ G => e = .ret ∧ G = H ∧ ∃ c,resultsA F_q34.res σ = some (.tup [lst true 1 (some c) (bls (x ++ bitsOf v n)),ai 0])) ?_ ?_
 ·rintro e σ G ⟨rfl,rfl,c,h⟩
  exact ⟨rfl,_,h,by simp,by simp⟩
 rw [F_q34]; simp -implicitDefEqProofs (disch := first | omega | (simp; done) | fail) [-toCells,-AV.one,-forget,c_q34,cmp_ilt,cmp_ilf,cmp_ile,cmp_ilg,cmp_ine,cmp_ieq,cmp_nlt,cmp_nlf,cmp_nle,cmp_nne,cmp_neq,wrap_i64,wrap_u64,wrap_u8,hf,hbl]
 repeat rw [Option.bind_assoc]
 refine Ends.block (P := PostT2 H (lst zx 1 none (bls x)) v n) (hl _ _ ⟨0,v,by omega,by simp,rfl,by simp [lp0_q34,lowB,bls]⟩) ?_
 rintro e σ1 G1 ⟨rfl,rfl,c⟩
 obtain ⟨L2,hL2⟩ : ∃ t,bls (lowB v n) = t := ⟨_,rfl⟩
 rw [hL2] at c
 obtain ⟨L1,hL1⟩ : ∃ t,bls x = t := ⟨_,rfl⟩
 rw [hL1] at c hap
 simp -implicitDefEqProofs (disch := first | omega | (simp; done) | fail) [-toCells,-AV.one,-forget,c_q34,cmp_ilt,cmp_ilf,cmp_ile,cmp_ilg,cmp_ine,cmp_ieq,cmp_nlt,cmp_nlf,cmp_nle,cmp_nne,cmp_neq,wrap_i64,wrap_u64,wrap_u8,c,hap]
 repeat rw [Option.bind_assoc]
 refine Ends.block (P := PostT3 G1 x v n) (hl2 _ _ ⟨38,(n : Int) - 1,.inl rfl,rfl,by omega,rfl,by simp [lp1_q34,hL2,hL1]⟩) ?_
 rintro e σ1 G1 ⟨rfl,rfl,cc,c⟩
 generalize bls (x ++ bitsOf v n) = L0 at *
 simp -implicitDefEqProofs (disch := first | omega | (simp; done) | fail) [-toCells,-AV.one,-forget,c_q34,cmp_ilt,cmp_ilf,cmp_ile,cmp_ilg,cmp_ine,cmp_ieq,cmp_nlt,cmp_nlf,cmp_nle,cmp_nne,cmp_neq,wrap_i64,wrap_u64,wrap_u8,c]
 exact ⟨cc,rfl⟩
end
end Go.A.V.S

namespace Go.A.V.S
open Go Go.A
theorem bits8_num : ∀ l : List Bool,l.length = 8 → bits8 (num l) = l := by
 intro l h
 match l,h with
 | [a,b,c,d,e,f,g,x],_ => revert a b c d e f g x; decide
def padB (l : List Bool) : List Bool := l ++ List.replicate (8 * ((l.length + 7) / 8) - l.length) false
theorem padB_len (l : List Bool) : (padB l).length = 8 * ((l.length + 7) / 8) := by simp [padB]; omega
theorem padB_at {l : List Bool} {j : Nat} (h : j < 8 * ((l.length + 7) / 8)) : (padB l)[j]? = some (if h : j < l.length then l[j] else false) := by
 rw [padB]
 by_cases c : j < l.length
 ·rw [List.getElem?_append_left c,List.getElem?_eq_getElem c,dif_pos c]
 ·rw [List.getElem?_append_right (by omega),List.getElem?_replicate,if_pos (by omega),dif_neg c]
def bys (o : List Nat) : List AV := o.map fun b => au b
theorem bys_len (o : List Nat) : (bys o).length = o.length := by simp [bys]
theorem bys_app (a b : List Nat) : bys (a ++ b) = bys a ++ bys b := by simp [bys]
def rw0 (r n : Nat) : AV := .sl r 0 n n 1 n false
def bval (r m : Nat) : AV := if m = 0 then nilS else rw0 r m
theorem bval_ev (n r m : Nat) : ev1 n (bval r m) = bval r m := by unfold bval; split <;> rfl
theorem bval_free (r m : Nat) : (bval r m).free = true := by unfold bval; split <;> rfl
theorem bval_norm (r m : Nat) : norm (bval r m) = bval r m := by unfold bval; split <;> rfl
theorem bval_recol (d : Option Nat) (r m : Nat) (σ : List AV) (H : Heap) (h : m ≠ 0) : recol d (bval r m) σ H = (bval r m,σ,H) := by
 rw [bval,if_neg h]; cases d <;> rfl
attribute [simp] bval_ev bval_free bval_norm
theorem byteCs_flat' (l : List Nat) : (byteCs l).flatten = bys l := by
 induction l with
 | nil => rfl
 | cons a r ih =>
  have : byteCs (a :: r) = [au a] :: byteCs r := rfl
  rw [this,List.flatten_cons,ih]; rfl
def BH (H : Heap) (o : List Nat) : Heap := if o = [] then H else H ++ [.grow (bys o) 0]
theorem app_bh {m : Md} (hm : m.wr = true) {d : Nat} (hr : m.row (some d) = true) {H : Heap} {o l : List Nat} {x : AV} (hx : ∀ H,elems H 1 x = some (byteCs l)) (hl : o.length + l.length ≤ 1000000) (σ : List AV) :
  appW m (some d) 1 1 (bval H.length o.length) x σ (BH H o) = some (bval H.length (o ++ l).length,σ,BH H (o ++ l)) := by
 by_cases h0 : o = []
 ·subst h0
  by_cases h1 : l = []
  ·subst h1
   simp only [bval,BH,appW,hr,hx,if_true,Option.bind_some,List.length_nil,byteCs,List.map_nil,List.append_nil]
  ·have hne : ¬ byteCs l = [] := by simpa [byteCs] using h1
   have hl0 : l.length ≠ 0 := fun e => h1 (List.length_eq_zero_iff.1 e)
   simp only [List.length_nil] at hl
   simp only [bval,BH,appW,hr,hx,if_true,Option.bind_some,List.length_nil,List.nil_append,h1,if_false,hne,hl0]
   rw [if_pos ⟨by rw [byteCs_len]; simp only [appBound]; omega,by rw [byteCs_len]; simp only [appBound]; omega⟩,byteCs_flat',byteCs_len,Nat.mul_one]
   rfl
 ·have ho0 : o.length ≠ 0 := fun e => h0 (List.length_eq_zero_iff.1 e)
  have hol : (o ++ l).length ≠ 0 := by rw [List.length_append]; omega
  have hol' : o ++ l ≠ [] := fun e => hol (by rw [e]; rfl)
  have hget : (H ++ [AObj.grow (bys o) 0])[H.length]? = some (.grow (bys o) 0) := by simp
  simp only [bval,BH,h0,ho0,hol,hol',if_false,rw0]
  by_cases h1 : l = []
  ·subst h1
   have : byteCs ([] : List Nat) = [] := rfl
   simp only [appW,hm,if_true,hx,Option.bind_some,this,List.append_nil]
   rw [if_pos (Nat.le_refl _)]
  ·have hne : ¬ byteCs l = [] := by simpa [byteCs] using h1
   simp only [appW,hm,if_true,hx,Option.bind_some,hne,if_false]
   rw [if_pos (by simp [ho0,byteCs_len,appBound]; omega),hget]
   simp only [AObj.isW,AObj.cells,AObj.lo,bys_len,true_and,if_true]
   rw [byteCs_flat',← bys_app,byteCs_len,List.length_append,Nat.mul_one]
   simp
theorem frz_bh (H : Heap) (o : List Nat) : frz H.length (BH H o) (bval H.length o.length) = some (lst true 1 none (byteCs o)) := by
 by_cases h0 : o = []
 ·subst h0
  simp [bval,byteCs]
 ·have ho0 : o.length ≠ 0 := fun e => h0 (List.length_eq_zero_iff.1 e)
  have hne : byteCs o ≠ [] := by simpa [byteCs] using h0
  have hget : (H ++ [AObj.grow (bys o) 0])[H.length]? = some (.grow (bys o) 0) := by simp
  have hrd : rdRow0 (H ++ [AObj.grow (bys o) 0]) H.length 0 (o.length * 1) o.length = some (bys o) := by
   rw [rdRow0,if_neg (by omega),rdRow,hget]
   simp only [AObj.isRow,AObj.lo,AObj.cells,bys_len]
   rw [if_pos ⟨trivial,by omega,by omega,by omega⟩,List.drop_zero,List.take_of_length_le (by rw [bys_len]; omega)]
  have hok : (bys o).all okCell = true := by
   refine List.all_eq_true.2 fun x hx => ?_
   obtain ⟨b,_,rfl⟩ := List.mem_map.1 hx
   rfl
  have hch : ∀ l : List Nat,chunk 1 l.length (bys l) = byteCs l := by
   intro l
   induction l with
   | nil => rfl
   | cons x r ih =>
    have e1 : bys (x :: r) = au x :: bys r := rfl
    have e2 : byteCs (x :: r) = [au x] :: byteCs r := rfl
    rw [e1,e2,List.length_cons,chunk,List.take_succ_cons,List.take_zero,List.drop_succ_cons,List.drop_zero,ih]
  simp only [bval,BH,h0,ho0,if_false,rw0,frz]
  rw [if_neg (by omega),if_neg (by omega),hrd,Option.bind_some,if_pos hok,hch,lst_ne hne]
theorem oth_bh (H : Heap) (o : List Nat) : ∃ k,List.take H.length (BH H o) ++ List.replicate ((BH H o).length - H.length) AObj.other = H ++ List.replicate k .other := by
 refine ⟨(BH H o).length - H.length,?_⟩
 congr 1
 unfold BH
 split <;> simp
theorem norm_sl (r o l c s g : Nat) (e : Bool) : norm (.sl r o l c s g e) = .sl r o l c s g e := rfl
attribute [simp] norm_sl
section
variable {H : Heap}
def InvB1 (H : Heap) (r : Nat) (x : AV) (l : List Bool) (m : Nat) (z : Nat) (σ : List AV) (G : Heap) : Prop :=
 ∃ (k v : Nat),k + z = 8 ∧ v = num (((padB l).drop (8 * m)).take k) ∧ v < 2 ^ k ∧ G = H ∧ σ = L 40 ((((((Tr.full 6).put (path 0) (x)).put (path 3) (bval r m)).put (path 4) (ai (8 * (m : Int)))).put (path 5) (.c (.int .u8 v))).put (path 6) (ai k))
def PostB1 (H : Heap) (r : Nat) (x : AV) (l : List Bool) (m : Nat) (e : AExit) (σ : List AV) (G : Heap) : Prop :=
 G = H ∧ e = .exit 2 ∧ ∃ v : Nat,v = num (((padB l).drop (8 * m)).take 8) ∧ v < 256 ∧ kill [6,13,14] σ = L 40 (((((Tr.full 6).put (path 0) (x)).put (path 3) (bval r m)).put (path 4) (ai (8 * (m : Int)))).put (path 5) (.c (.int .u8 v)))
theorem loopB1 {zx : Bool} {l : List Bool} (hl : l.length ≤ 65536) {m : Nat} (hm : m < (l.length + 7) / 8) (r : Nat) (z : Nat) (σ : List AV) (G : Heap) (hI : InvB1 H r (lst zx 1 none (bls l)) l m z (kill (headK lp0_q36) σ) G) :
  Ends (execW P f_q36 (.loop lp0_q36) σ G) fun s => PostB1 H r (lst zx 1 none (bls l)) l m s.e s.σ s.H := by
 refine loop_ends (fun z σ G => InvB1 H r (lst zx 1 none (bls l)) l m z σ G) (PostB1 H r (lst zx 1 none (bls l)) l m) ?_ z σ G hI
 clear hI z σ G
 rintro z σ G ⟨k,v,hk,hv,hv2,rfl,rfl⟩
 have hbl := bls_len l
 by_cases hk8 : k < 8
 ·have hv128 : v < 128 := Nat.lt_of_lt_of_le hv2 (by
   have : (2 : Nat) ^ k ≤ 2 ^ 7 := Nat.pow_le_pow_right (by omega) (by omega)
   omega)
  have hat := padB_at (l := l) (j := 8 * m + k) (by omega)
  have hnext : ((padB l).drop (8 * m)).take (k + 1) = ((padB l).drop (8 * m)).take k ++ [if h : 8 * m + k < l.length then l[8 * m + k] else false] := by
   rw [List.take_add_one,List.getElem?_drop,hat]; rfl
  have hnum : num (((padB l).drop (8 * m)).take (k + 1)) = 2 * v + (if h : 8 * m + k < l.length then l[8 * m + k] else false).toNat := by rw [hnext,num_snoc,← hv]
  clear hnext hat hv
  have hp2 : 2 ^ (k + 1) = 2 * 2 ^ k := by rw [Nat.pow_succ]; omega
  have hres : ∀ (v' : Nat) σ,v' = num (((padB l).drop (8 * m)).take (k + 1)) → v' ≤ 2 * v + 1 → σ = L 40 ((((((Tr.full 6).put (path 0) (lst zx 1 none (bls l))).put (path 3) (bval r m)).put (path 4) (ai (8 * (m : Int)))).put (path 5) (.c (.int .u8 v'))).put (path 6) (ai (k + 1 : Nat))) → ∃ m',m' < z ∧ InvB1 G r (lst zx 1 none (bls l)) l m m' σ G := fun v' σ e1 e2 e3 => ⟨z - 1,by omega,k + 1,v',by omega,e1,by omega,rfl,e3⟩
  clear hv2 hp2
  by_cases c : 8 * m + k < l.length
  ·rw [dif_pos c] at hnum
   obtain ⟨b,hb⟩ : ∃ t,l[8 * m + k] = t := ⟨_,rfl⟩
   have q1 := bls_at (show l[8 * m + k]? = some b by rw [List.getElem?_eq_getElem c,hb]) zx none .i64
   have ecast : (((8 * m + k : Nat)) : Int) = 8 * (m : Int) + k := by omega
   rw [ecast] at q1
   rw [hb] at hnum
   cases b with
   | true =>
    simp -implicitDefEqProofs (disch := first | omega | (simp; done) | fail) [-toCells,-AV.one,-forget,c_q36,cmp_ilt,cmp_ilf,cmp_ile,cmp_ilg,cmp_ine,cmp_ieq,cmp_nlt,cmp_nlf,cmp_nle,cmp_nne,cmp_neq,wrap_i64,wrap_u64,wrap_u8,lp0_q36,hbl,q1]
    exact hres (2 * v + 1) _ (by rw [hnum]; rfl) (by omega) (by simp)
   | false =>
    simp -implicitDefEqProofs (disch := first | omega | (simp; done) | fail) [-toCells,-AV.one,-forget,c_q36,cmp_ilt,cmp_ilf,cmp_ile,cmp_ilg,cmp_ine,cmp_ieq,cmp_nlt,cmp_nlf,cmp_nle,cmp_nne,cmp_neq,wrap_i64,wrap_u64,wrap_u8,lp0_q36,hbl,q1]
    exact hres (2 * v) _ (by rw [hnum]; rfl) (by omega) (by simp)
  ·rw [dif_neg c] at hnum
   simp -implicitDefEqProofs (disch := first | omega | (simp; done) | fail) [-toCells,-AV.one,-forget,c_q36,cmp_ilt,cmp_ilf,cmp_ile,cmp_ilg,cmp_ine,cmp_ieq,cmp_nlt,cmp_nlf,cmp_nle,cmp_nne,cmp_neq,wrap_i64,wrap_u64,wrap_u8,lp0_q36,hbl]
   exact hres (2 * v) _ (by rw [hnum]; rfl) (by omega) (by simp)
 ·obtain rfl : k = 8 := by omega
  have hx : ∃ v' : Nat,v' = num (((padB l).drop (8 * m)).take 8) ∧ v' < 256 ∧ v = v' := ⟨v,hv,by simpa using hv2,rfl⟩
  clear hv hv2
  simp -implicitDefEqProofs (disch := first | omega | (simp; done) | fail) [-toCells,-AV.one,-forget,c_q36,cmp_ilt,cmp_ilf,cmp_ile,cmp_ilg,cmp_ine,cmp_ieq,cmp_nlt,cmp_nlf,cmp_nle,cmp_nne,cmp_neq,wrap_i64,wrap_u64,wrap_u8,lp0_q36]
  obtain ⟨v',h1,h2,rfl⟩ := hx
  exact ⟨rfl,rfl,v,h1,h2,by simp⟩
def InvB2 (H : Heap) (x : AV) (l : List Bool) (z : Nat) (σ : List AV) (G : Heap) : Prop :=
 ∃ (m : Nat) (o : List Nat),m + z = (l.length + 7) / 8 ∧ o.length = m ∧ Bytes o ∧ bitsB o = (padB l).take (8 * m) ∧ G = BH H o ∧ σ = L 40 ((((Tr.full 6).put (path 0) (x)).put (path 3) (bval H.length m)).put (path 4) (ai (8 * (m : Int))))
def PostB2 (H : Heap) (l : List Bool) (e : AExit) (σ : List AV) (G : Heap) : Prop :=
 e = .exit 0 ∧ ∃ o,PackR l o ∧ G = BH H o ∧ kill [0,4,7,8,9,10] σ = L 40 ((Tr.full 6).put (path 3) (bval H.length o.length))
theorem loopB2 {zx : Bool} {l : List Bool} (hl : l.length ≤ 65536) (z : Nat) (σ : List AV) (G : Heap) (hI : InvB2 H (lst zx 1 none (bls l)) l z (kill (headK lp1_q36) σ) G) :
  Ends (execW P f_q36 (.loop lp1_q36) σ G) fun s => PostB2 H l s.e s.σ s.H := by
 refine loop_ends (fun z σ G => InvB2 H (lst zx 1 none (bls l)) l z σ G) (PostB2 H l) ?_ z σ G hI
 clear hI z σ G
 rintro z σ G ⟨m,o,hm,ho,hb,hbits,rfl,rfl⟩
 have hbl := bls_len l
 by_cases hlt : m < (l.length + 7) / 8
 ·have hin := loopB1 (H := BH H o) (zx := zx) hl hlt H.length 8
  have hap := fun (v : Nat) (f : Option Nat) σ => app_bh (m := P.md f_q36) rfl (d := 38) (R_q36 38) (H := H) (o := o) (l := [v]) (x := .vs 1 f [[.c (.int .u8 v)]]) (fun H => elems_vs H 1 f _) (by simp; omega) σ
  have hol : ∀ v : Nat,(o ++ [v]).length = m + 1 := fun v => by simp [ho]
  simp only [hol,ho] at hap
  obtain ⟨G0,hG0⟩ : ∃ t,BH H o = t := ⟨_,rfl⟩
  rw [hG0] at hin hap ⊢
  simp -implicitDefEqProofs (disch := first | omega | (simp; done) | fail) [-toCells,-AV.one,-forget,c_q36,cmp_ilt,cmp_ilf,cmp_ile,cmp_ilg,cmp_ine,cmp_ieq,cmp_nlt,cmp_nlf,cmp_nle,cmp_nne,cmp_neq,wrap_i64,wrap_u64,wrap_u8,lp1_q36,hbl]
  repeat rw [Option.bind_assoc]
  refine Ends.block (P := PostB1 G0 H.length (lst zx 1 none (bls l)) l m) (hin _ _ ⟨0,0,by omega,by simp [num],by simp,rfl,by simp [lp0_q36]⟩) ?_
  rintro e σ1 G1 ⟨rfl,rfl,v,hv,hv2,c⟩
  have hres : ∀ σ,σ = L 40 ((((Tr.full 6).put (path 0) (lst zx 1 none (bls l))).put (path 3) (bval H.length (m + 1))).put (path 4) (ai (8 * ((m + 1 : Nat) : Int)))) → ∃ m',m' < z ∧ InvB2 H (lst zx 1 none (bls l)) l m' σ (BH H (o ++ [v])) := fun σ e => ⟨z - 1,by omega,m + 1,o ++ [v],by omega,by simp [ho],fun b hb' => by
    rcases List.mem_append.1 hb' with h | h
    ·exact hb b h
    ·simp at h; omega,by
    have h8 : (((padB l).drop (8 * m)).take 8).length = 8 := by rw [List.length_take,List.length_drop,padB_len]; omega
    have : bitsB (o ++ [v]) = bitsB o ++ bits8 v := by simp [bitsB]
    rw [this,hbits,hv,bits8_num _ h8,← List.take_add,show 8 * m + 8 = 8 * (m + 1) by omega],rfl,e⟩
  clear hv hbits
  have hap' := hap v
  obtain ⟨G2,hG2⟩ : ∃ t,BH H (o ++ [v]) = t := ⟨_,rfl⟩
  rw [hG2] at hap' hres
  obtain ⟨b1,hb1⟩ : ∃ t,bval H.length (m + 1) = t := ⟨_,rfl⟩
  simp -implicitDefEqProofs (disch := first | omega | (simp; done) | fail) [-toCells,-AV.one,-forget,c_q36,cmp_ilt,cmp_ilf,cmp_ile,cmp_ilg,cmp_ine,cmp_ieq,cmp_nlt,cmp_nlf,cmp_nle,cmp_nne,cmp_neq,wrap_i64,wrap_u64,wrap_u8,c,hap']
  refine hres _ ?_
  have e8 : 8 * (((m + 1 : Nat)) : Int) = 8 * (m : Int) + 8 := by omega
  rw [e8]
  simp [lp1_q36]
 ·have hmm : m = (l.length + 7) / 8 := by omega
  have hpk : PackR l o := by
   refine ⟨by omega,hb,?_⟩
   rw [hbits,List.take_of_length_le (by rw [padB_len]; omega),padB,ho,← hmm]
  clear hbits
  obtain ⟨G0,hG0⟩ : ∃ t,BH H o = t := ⟨_,rfl⟩
  rw [hG0]
  simp -implicitDefEqProofs (disch := first | omega | (simp; done) | fail) [-toCells,-AV.one,-forget,c_q36,cmp_ilt,cmp_ilf,cmp_ile,cmp_ilg,cmp_ine,cmp_ieq,cmp_nlt,cmp_nlf,cmp_nle,cmp_nne,cmp_neq,wrap_i64,wrap_u64,wrap_u8,lp1_q36,hbl]
  exact ⟨rfl,o,hpk,hG0.symm,by rw [ho]; simp⟩
theorem rBytes {zx : Bool} {l : List Bool} (hl : l.length ≤ 65536) (H : Heap) :
  ∃ o,PackR l o ∧ callW P f_q36 [lst zx 1 none (bls l)] H = some (bval H.length o.length,BH H o) := by
 suffices hs : Ends (callW P f_q36 [lst zx 1 none (bls l)] H) fun y => ∃ o,PackR l o ∧ y = (bval H.length o.length,BH H o) by
  obtain ⟨y,h2,o,h3,rfl⟩ := hs
  exact ⟨o,h3,h2⟩
 have hl2 := loopB2 (H := H) (zx := zx) hl ((l.length + 7) / 8)
 refine call_post 6 40 rfl (rfl : P.T f_q36 = some F_q36) rfl (le_ok rfl) (fun e σ G => e = .ret ∧ ∃ o,PackR l o ∧ G = BH H o ∧ resultsA F_q36.res σ = some (bval H.length o.length)) ?_ ?_
 ·rintro e σ G ⟨rfl,o,h1,rfl,h⟩
  exact ⟨rfl,_,h,by simp,by simp; exact ⟨o,h1,rfl,rfl⟩⟩
 rw [F_q36]; simp -implicitDefEqProofs (disch := first | omega | (simp; done) | fail) [-toCells,-AV.one,-forget,c_q36,cmp_ilt,cmp_ilf,cmp_ile,cmp_ilg,cmp_ine,cmp_ieq,cmp_nlt,cmp_nlf,cmp_nle,cmp_nne,cmp_neq,wrap_i64,wrap_u64,wrap_u8]
 repeat rw [Option.bind_assoc]
 refine Ends.block (P := PostB2 H l) (hl2 _ _ ⟨0,[],by omega,rfl,by simp [Bytes],by simp [bitsB],rfl,by simp [lp1_q36,bval]⟩) ?_
 rintro e σ1 G1 ⟨rfl,o,hp,rfl,c⟩
 have hx : ∃ o',PackR l o' ∧ BH H o = BH H o' ∧ bval H.length o.length = bval H.length o'.length := ⟨o,hp,rfl,rfl⟩
 generalize BH H o = G0 at *
 simp -implicitDefEqProofs (disch := first | omega | (simp; done) | fail) [-toCells,-AV.one,-forget,c_q36,cmp_ilt,cmp_ilf,cmp_ile,cmp_ilg,cmp_ine,cmp_ieq,cmp_nlt,cmp_nlf,cmp_nle,cmp_nne,cmp_neq,wrap_i64,wrap_u64,wrap_u8,c]
 exact hx
end
end Go.A.V.S

namespace Go.A.V.S
open Go Go.A
section
variable {H : Heap}
def InvU1 (H : Heap) (b : Nat) (z : Nat) (σ : List AV) (G : Heap) : Prop :=
 ∃ (i n : Nat),i + z = b ∧ n = 2 ^ i ∧ G = H ∧ σ = L 13 ((((Tr.full 4).put (path 0) (ai b)).put (path 3) (ai n)).put (path 4) (ai i))
def PostU1 (H : Heap) (m : Nat) (e : AExit) (σ : List AV) (G : Heap) : Prop :=
 G = H ∧ e = .exit 0 ∧ kill [0,4,5,6,7] σ = L 13 ((Tr.full 4).put (path 3) (ai m))
theorem loopU1 {b m : Nat} (hb : b ≤ 16) (hm : m = 2 ^ b) (z : Nat) (σ : List AV) (G : Heap) (hI : InvU1 H b z (kill (headK lp0_q78) σ) G) :
  Ends (execW P f_q78 (.loop lp0_q78) σ G) fun s => PostU1 H m s.e s.σ s.H := by
 refine loop_ends (fun z σ G => InvU1 H b z σ G) (PostU1 H m) ?_ z σ G hI
 clear hI z σ G
 rintro z σ G ⟨i,n,hz,hn,rfl,rfl⟩
 have hp : n ≤ 65536 := by
  rw [hn]
  calc 2 ^ i ≤ 2 ^ 16 := Nat.pow_le_pow_right (by omega) (by omega)
   _ = 65536 := by decide
 by_cases hi : i < b
 ·have hn2 : 2 * n = 2 ^ (i + 1) := by rw [Nat.pow_succ]; omega
  clear hn
  simp -implicitDefEqProofs (disch := first | omega | (simp; done) | fail) [-toCells,-AV.one,-forget,c_q78,cmp_ilt,cmp_ilf,cmp_ile,cmp_ilg,cmp_ine,cmp_ieq,cmp_nlt,cmp_nlf,cmp_nle,cmp_nne,cmp_neq,wrap_i64,wrap_u64,wrap_u8,lp0_q78]
  exact ⟨z - 1,by omega,i + 1,2 * n,by omega,hn2,rfl,by simp⟩
 ·have : i = b := by omega
  subst this
  obtain rfl : n = m := by rw [hn,hm]
  clear hn hm
  simp -implicitDefEqProofs (disch := first | omega | (simp; done) | fail) [-toCells,-AV.one,-forget,c_q78,cmp_ilt,cmp_ilf,cmp_ile,cmp_ilg,cmp_ine,cmp_ieq,cmp_nlt,cmp_nlf,cmp_nle,cmp_nne,cmp_neq,wrap_i64,wrap_u64,wrap_u8,lp0_q78]
  exact ⟨rfl,rfl,by simp⟩
theorem rTop {n m : Nat} (hn : n ≤ 16) (hm : m = 2 ^ n) (H : Heap) : callW P f_q78 [ai n] H = some (ai m,H) := by
 rw [ends_eq]
 have hl := loopU1 (H := H) hn hm n
 clear hm
 refine call_post 4 13 rfl (rfl : P.T f_q78 = some F_q78) rfl (le_ok rfl) (fun e σ G => e = .ret ∧ G = H ∧ resultsA F_q78.res σ = some (ai m)) ?_ ?_
 ·rintro e σ G ⟨rfl,rfl,h⟩
  exact ⟨rfl,_,h,rfl,by simp⟩
 rw [F_q78]; simp -implicitDefEqProofs (disch := first | omega | (simp; done) | fail) [-toCells,-AV.one,-forget,c_q78,cmp_ilt,cmp_ilf,cmp_ile,cmp_ilg,cmp_ine,cmp_ieq,cmp_nlt,cmp_nlf,cmp_nle,cmp_nne,cmp_neq,wrap_i64,wrap_u64,wrap_u8]
 repeat rw [Option.bind_assoc]
 refine Ends.block (P := PostU1 H m) (hl _ _ ⟨0,1,by omega,rfl,rfl,by simp [lp0_q78]⟩) ?_
 rintro e σ1 G1 ⟨rfl,rfl,c⟩
 simp -implicitDefEqProofs (disch := first | omega | (simp; done) | fail) [-toCells,-AV.one,-forget,c_q78,cmp_ilt,cmp_ilf,cmp_ile,cmp_ilg,cmp_ine,cmp_ieq,cmp_nlt,cmp_nlf,cmp_nle,cmp_nne,cmp_neq,wrap_i64,wrap_u64,wrap_u8,c]
def InvU2 (H : Heap) (z0 : Bool) (ls : List Nat) (w : Nat) (z : Nat) (σ : List AV) (G : Heap) : Prop :=
 ∃ (i : Nat) (out : List Bool),i + z = ls.length ∧ lBits w ls = out ++ lBits w (ls.drop i) ∧ out.length = i * (w + 1) ∧ G = H ∧ σ = L 61 (((((Tr.full 6).put (path 0) (lst z0 1 none (nvs ls))).put (path 1) (ai w)).put (path 6) (lst true 1 (some 56) (bls out))).put (path 7) (ai i))
def PostU2 (H : Heap) (ls : List Nat) (w : Nat) (e : AExit) (σ : List AV) (G : Heap) : Prop :=
 G = H ∧ e = .exit 0 ∧ kill [0,1,7,20,21,22,23] σ = L 61 ((Tr.full 6).put (path 6) (lst true 1 (some 56) (bls (lBits w ls))))
set_option maxHeartbeats 2000000 in
theorem loopU2 {z0 : Bool} {ls : List Nat} {w : Nat} (hl : ls.length ≤ 23) (hw : w = 11 ∨ w = 15) (hls : ∀ n ∈ ls,1 ≤ n ∧ n < 2 ^ w) (z : Nat) (σ : List AV) (G : Heap) (hI : InvU2 H z0 ls w z (kill (headK lp0_q66) σ) G) :
  Ends (execW P f_q66 (.loop lp0_q66) σ G) fun s => PostU2 H ls w s.e s.σ s.H := by
 refine loop_ends (fun z σ G => InvU2 H z0 ls w z σ G) (PostU2 H ls w) ?_ z σ G hI
 clear hI z σ G
 rintro z σ G ⟨i,out,hz,hb,hol,rfl,rfl⟩
 have hla : (nvs ls).length = ls.length := nvs_len ls
 by_cases hi : i < ls.length
 ·obtain ⟨n,hn⟩ : ∃ n,ls[i]? = some n := ⟨_,List.getElem?_eq_getElem hi⟩
  have hn1 := hls n (List.mem_of_getElem? hn)
  have q1 := nvs_at hn z0 none .i64
  have hdrop : ls.drop i = n :: ls.drop (i + 1) := by
   rw [List.drop_eq_getElem_cons hi]
   rw [List.getElem?_eq_getElem hi] at hn
   rw [Option.some.inj hn]
  rw [hdrop,lBits,List.length_drop] at hb
  have hol2 : out.length ≤ 1000 := by
   have : i * (w + 1) ≤ 23 * 16 := Nat.mul_le_mul (by omega) (by omega)
   omega
  obtain ⟨tp,htp⟩ : ∃ t,2 ^ w = t := ⟨_,rfl⟩
  have ht := fun H => rTop (n := w) (m := tp) (by omega) htp.symm H
  rw [htp] at hn1
  have htp16 : tp ≤ 65536 := by
   rw [← htp]
   calc 2 ^ w ≤ 2 ^ 16 := Nat.pow_le_pow_right (by omega) (by omega)
    _ = 65536 := by decide
  obtain ⟨b,hbb⟩ : ∃ t,decide (0 < ls.length - (i + 1)) = t := ⟨_,rfl⟩
  rw [hbb] at hb
  obtain ⟨cs,hcs,hap⟩ := app1c (m := P.md f_q66) (d := 47) (c := 56) (bytes := 1) (v := ab b) (R_q66 47) (by omega) (by rw [bls_len]; omega) (l := bls out) (some 46)
  rw [← bls_snoc] at hap
  have hput := fun H => rPut (zx := true) (x := out ++ [b]) (by rw [List.length_append]; simp; omega) (v := n) (n := w) (by omega) (by omega) H
  have hn64 : IntKind.u64.wrap (n : Int) = n := wrap_u64 (by omega) (by omega)
  have hdc : (b = true ∧ i + 1 < ls.length) ∨ (b = false ∧ ls.length ≤ i + 1) := by
   by_cases c : i + 1 < ls.length
   ·exact .inl ⟨by rw [← hbb]; exact decide_eq_true (by omega),c⟩
   ·exact .inr ⟨by rw [← hbb]; exact decide_eq_false (by omega),by omega⟩
  have hres : ∀ σ,σ = L 61 (((((Tr.full 6).put (path 0) (lst z0 1 none (nvs ls))).put (path 1) (ai w)).put (path 6) (lst true 1 (some 56) (bls (out ++ [b] ++ bitsOf n w)))).put (path 7) (ai (i + 1 : Nat))) → ∃ m,m < z ∧ InvU2 G z0 ls w m σ G := fun σ e => ⟨z - 1,by omega,i + 1,out ++ [b] ++ bitsOf n w,by omega,by rw [hb]; simp,by rw [List.length_append,List.length_append,bitsOf_len,hol,Nat.add_mul]; simp; omega,rfl,e⟩
  clear hb htp hbb hls
  obtain ⟨L0,hL0⟩ : ∃ t,bls out = t := ⟨_,rfl⟩
  obtain ⟨L1,hL1⟩ : ∃ t,bls (out ++ [b]) = t := ⟨_,rfl⟩
  obtain ⟨L2,hL2⟩ : ∃ t,bls (out ++ [b] ++ bitsOf n w) = t := ⟨_,rfl⟩
  simp only [hL0,hL1,hL2] at hap hput hres
  rw [hL0]
  have hw2 : (w : Int) = 11 ∨ (w : Int) = 15 := by omega
  have f1 : ¬ (n : Int) < 1 := by omega
  have f1' : ¬ n < 1 := by omega
  have f2 : ¬ (n : Int) ≥ tp := by omega
  have f2' : ¬ (tp : Int) ≤ n := by omega
  have f2'' : ¬ tp ≤ n := by omega
  have f3 : IntKind.i64.wrap ((i : Int) + 1) = ((i + 1 : Nat) : Int) := by rw [wrap_i64 (by omega) (by omega)]; omega
  have f4 : (i : Int) < ls.length := by omega
  obtain ⟨i1,hi1⟩ : ∃ t,i + 1 = t := ⟨_,rfl⟩
  rw [hi1] at f3 hres hdc
  rcases hcs with rfl | rfl <;> rcases hdc with ⟨rfl,hc⟩ | ⟨rfl,hc⟩
  ·have f5 : (i1 : Int) < ls.length := by omega
   simp -implicitDefEqProofs [-toCells,-AV.one,-forget,c_q66,lp0_q66,hi,f1,f1',f2,f2',f2'',f3,f4,f5,hc,hla,q1,ht,hap,hput,hn64,keepB,goodB_L,sameV,dstNot,dstNe,SOpG.reads,SOp.slots,SX.slots,SOp.noL,rdV,selfE_lst,selfE,selfEs,eqV]
   exact hres _ (by simp)
  ·have f5 : ¬ (i1 : Int) < ls.length := by omega
   have hc' : ¬ i1 < ls.length := by omega
   simp -implicitDefEqProofs [-toCells,-AV.one,-forget,c_q66,lp0_q66,hi,f1,f1',f2,f2',f2'',f3,f4,f5,hc',hla,q1,ht,hap,hput,hn64,keepB,goodB_L,sameV,dstNot,dstNe,SOpG.reads,SOp.slots,SX.slots,SOp.noL,rdV,selfE_lst,selfE,selfEs,eqV]
   exact hres _ (by simp)
  ·have f5 : (i1 : Int) < ls.length := by omega
   simp -implicitDefEqProofs [-toCells,-AV.one,-forget,c_q66,lp0_q66,hi,f1,f1',f2,f2',f2'',f3,f4,f5,hc,hla,q1,ht,hap,hput,hn64,keepB,goodB_L,sameV,dstNot,dstNe,SOpG.reads,SOp.slots,SX.slots,SOp.noL,rdV,selfE_lst,selfE,selfEs,eqV]
   exact hres _ (by simp)
  ·have f5 : ¬ (i1 : Int) < ls.length := by omega
   have hc' : ¬ i1 < ls.length := by omega
   simp -implicitDefEqProofs [-toCells,-AV.one,-forget,c_q66,lp0_q66,hi,f1,f1',f2,f2',f2'',f3,f4,f5,hc',hla,q1,ht,hap,hput,hn64,keepB,goodB_L,sameV,dstNot,dstNe,SOpG.reads,SOp.slots,SX.slots,SOp.noL,rdV,selfE_lst,selfE,selfEs,eqV]
   exact hres _ (by simp)
 ·have h0 : lBits w ls = out := by
   rw [hb,List.drop_eq_nil_of_le (by omega),lBits,List.append_nil]
  clear hb
  simp -implicitDefEqProofs (disch := first | omega | (simp; done) | fail) [-toCells,-AV.one,-forget,c_q66,cmp_ilt,cmp_ilf,cmp_ile,cmp_ilg,cmp_ine,cmp_ieq,cmp_nlt,cmp_nlf,cmp_nle,cmp_nne,cmp_neq,wrap_i64,wrap_u64,wrap_u8,lp0_q66,hla]
  exact ⟨rfl,rfl,by rw [h0]; simp⟩
theorem rWrite08 {z0 : Bool} {ls : List Nat} {w : Nat} (h1 : 1 ≤ ls.length) (hl : ls.length ≤ 23) (hw : w = 11 ∨ w = 15) (hls : ∀ n ∈ ls,1 ≤ n ∧ n < 2 ^ w) (H : Heap) :
  ∃ o k,PackR (lBits w ls) o ∧ callW P f_q66 [lst z0 1 none (nvs ls),ai w] H = some (.tup [lst true 1 none (byteCs o),ai 0],H ++ List.replicate k .other) := by
 have hll := loopU2 (H := H) (z0 := z0) hl hw hls ls.length
 have hla : (nvs ls).length = ls.length := nvs_len ls
 obtain ⟨o,hp,hB⟩ := rBytes (zx := true) (l := lBits w ls) (by have := lBits_le hw hl; omega) H
 obtain ⟨k,hk⟩ := oth_bh H o
 have hfz := frz_bh H o
 refine ⟨o,k,hp,?_⟩
 have hpl := hp.len
 have ho : o.length ≠ 0 := by
  rw [hpl,lBits_len]
  have : 1 * 12 ≤ ls.length * (w + 1) := Nat.mul_le_mul h1 (by omega)
  omega
 have hrc := fun d σ H' => bval_recol d H.length o.length σ H' ho
 clear hp hpl
 generalize BH H o = G2 at *
 rw [ends_eq]
 refine call_post 6 61 rfl (rfl : P.T f_q66 = some F_q66) rfl (le_ok rfl) (fun e σ G => e = .ret ∧ G = G2 ∧ resultsA F_q66.res σ = some (.tup [bval H.length o.length,ai 0])) ?_ ?_
 ·rintro e σ G ⟨rfl,rfl,h⟩
  exact ⟨rfl,_,h,by simp,by simp [hfz,hk]⟩
 have hw2 : (w : Int) = 11 ∨ (w : Int) = 15 := by omega
 obtain ⟨L0,hL0⟩ : ∃ t,bls (lBits w ls) = t := ⟨_,rfl⟩
 rw [hL0] at hB
 rw [F_q66]; simp -implicitDefEqProofs (disch := first | omega | (simp; done) | fail) [-toCells,-AV.one,-forget,c_q66,cmp_ilt,cmp_ilf,cmp_ile,cmp_ilg,cmp_ine,cmp_ieq,cmp_nlt,cmp_nlf,cmp_nle,cmp_nne,cmp_neq,wrap_i64,wrap_u64,wrap_u8,hla]
 repeat rw [Option.bind_assoc]
 refine Ends.block (P := PostU2 H ls w) (hll _ _ ⟨0,[],by omega,by simp,by simp,rfl,by simp [lp0_q66,bls]⟩) ?_
 rintro e σ1 G1 ⟨rfl,rfl,c⟩
 rw [hL0] at c
 simp -implicitDefEqProofs (disch := first | omega | (simp; done) | fail) [-toCells,-AV.one,-forget,c_q66,cmp_ilt,cmp_ilf,cmp_ile,cmp_ilg,cmp_ine,cmp_ieq,cmp_nlt,cmp_nlf,cmp_nle,cmp_nne,cmp_neq,wrap_i64,wrap_u64,wrap_u8,c,hB,hrc]
end
end Go.A.V.S

namespace Go.A.V.S
open Go Go.A
def TH (M : Heap) (a : List Nat) (k : Nat) : Heap := M ++ AObj.grow (bys a) 0 :: List.replicate k .other
theorem TH_get (M : Heap) (a : List Nat) (k : Nat) : (TH M a k)[M.length]? = some (.grow (bys a) 0) := by simp [TH]
theorem TH_set (M : Heap) (a b : List Nat) (k : Nat) : (TH M a k).set M.length (.grow (bys b) 0) = TH M b k := by
 rw [TH,List.set_append_right _ _ (Nat.le_refl _)]; simp [TH]
theorem TH_oth (M : Heap) (a : List Nat) (k j : Nat) : TH M a k ++ List.replicate j .other = TH M a (k + j) := by
 simp only [TH,List.append_assoc,List.cons_append,List.replicate_append_replicate]
def rwv (r n : Nat) : AV := .sl r 0 n n 1 n false
theorem rwv_ev (n r m : Nat) : ev1 n (rwv r m) = rwv r m := rfl
theorem rwv_box (r m : Nat) : (rwv r m).isBox = false := rfl
theorem rwv_free (r m : Nat) : (rwv r m).free = true := rfl
theorem rwv_one (r m : Nat) : (rwv r m).one = true := rfl
theorem rwv_cells (r m : Nat) : toCells (rwv r m) = [rwv r m] := rfl
theorem rwv_unfl (cs : List Nat) (r m : Nat) : unfl cs (rwv r m) = rwv r m := rfl
theorem rwv_forget (n r m : Nat) : forget n (rwv r m) = rwv r m := rfl
theorem rwv_pln (r m : Nat) : pln (rwv r m) = rwv r m := rfl
theorem rwv_norm (r m : Nat) : norm (rwv r m) = rwv r m := rfl
theorem rwv_len (r m : Nat) : lenW (rwv r m) = some m := rfl
theorem rwv_recol (d : Option Nat) (r m : Nat) (σ : List AV) (H : Heap) : recol d (rwv r m) σ H = (rwv r m,σ,H) := by cases d <;> rfl
attribute [simp] rwv_ev rwv_box rwv_free rwv_one rwv_cells rwv_unfl rwv_forget rwv_pln rwv_norm rwv_len rwv_recol
theorem app_th {m : Md} (hm : m.wr = true) {d : Nat} {M : Heap} {a l : List Nat} {k : Nat} {x : AV} (ha : a ≠ []) (hx : ∀ H,elems H 1 x = some (byteCs l)) (hl : a.length + l.length ≤ 1000000) (σ : List AV) :
  appW m (some d) 1 1 (rwv M.length a.length) x σ (TH M a k) = some (rwv M.length (a ++ l).length,σ,TH M (a ++ l) k) := by
 have ha0 : a.length ≠ 0 := fun e => ha (List.length_eq_zero_iff.1 e)
 by_cases h1 : l = []
 ·subst h1
  have : byteCs ([] : List Nat) = [] := rfl
  simp only [rwv,appW,hm,if_true,hx,Option.bind_some,this,List.append_nil]
  rw [if_pos (Nat.le_refl _)]
 ·have hne : ¬ byteCs l = [] := by simpa [byteCs] using h1
  simp only [rwv,appW,hm,if_true,hx,Option.bind_some,hne,if_false]
  rw [if_pos (by simp [ha0,byteCs_len,appBound]; omega),TH_get]
  simp only [AObj.isW,AObj.cells,AObj.lo,bys_len,true_and,if_true]
  rw [byteCs_flat',← bys_app,byteCs_len,List.length_append,Nat.mul_one,TH_set]
section
variable {H : Heap}
def InvX1 (H : Heap) (z0 : Bool) (ff : List Bs) (r n w : Nat) (z : Nat) (σ : List AV) (G : Heap) : Prop :=
 ∃ (i : Nat),i + z = ff.length - 1 ∧ G = H ∧ σ = L 52 ((((((Tr.full 6).put (path 0) (rwv r n)).put (path 1) (lst z0 1 none (bvs ff))).put (path 2) (ai w)).put (path 7) (lst true 1 (some 26) (nvs (((bb ff).take i).map (·.length))))).put (path 8) (ai i))
def PostX1 (H : Heap) (z0 : Bool) (ff : List Bs) (r n w : Nat) (e : AExit) (σ : List AV) (G : Heap) : Prop :=
 G = H ∧ e = .exit 0 ∧ kill [8,12,13,14,15,16] σ = L 52 (((((Tr.full 6).put (path 0) (rwv r n)).put (path 1) (lst z0 1 none (bvs ff))).put (path 2) (ai w)).put (path 7) (lst true 1 (some 26) (nvs (((bb ff).take (ff.length - 1)).map (·.length)))))
theorem loopX1 {z0 : Bool} {ff : List Bs} (hl : ff.length ≤ 100) (r n w : Nat) (z : Nat) (σ : List AV) (G : Heap) (hI : InvX1 H z0 ff r n w z (kill (headK lp0_q35) σ) G) :
  Ends (execW P f_q35 (.loop lp0_q35) σ G) fun s => PostX1 H z0 ff r n w s.e s.σ s.H := by
 refine loop_ends (fun z σ G => InvX1 H z0 ff r n w z σ G) (PostX1 H z0 ff r n w) ?_ z σ G hI
 clear hI z σ G
 rintro z σ G ⟨i,hz,rfl,rfl⟩
 have hla : (bvs ff).length = ff.length := bvs_len ff
 by_cases hi : i < ff.length - 1
 ·obtain ⟨x,hx⟩ : ∃ x,ff[i]? = some x := ⟨_,List.getElem?_eq_getElem (by omega)⟩
  have q1 := bvs_at hx z0 none .i64
  have hxl := bv_len x
  have hsn : ((bb ff).take (i + 1)).map (·.length) = ((bb ff).take i).map (·.length) ++ [x.2.length] := by rw [take_snoc (bb_at hx)]; simp
  have hap := fun σ H => app1 (m := P.md f_q35) (d := 26) (bytes := 8) (v := ai x.2.length) (R_q35 26) (by omega) (by rw [nvs_len]; simp [bb_len]; omega) (l := nvs (((bb ff).take i).map (·.length))) (some 25) σ H
  rw [← nvs_snoc,← hsn] at hap
  have hres : ∀ σ,σ = L 52 ((((((Tr.full 6).put (path 0) (rwv r n)).put (path 1) (lst z0 1 none (bvs ff))).put (path 2) (ai w)).put (path 7) (lst true 1 (some 26) (nvs (((bb ff).take (i + 1)).map (·.length))))).put (path 8) (ai (i + 1 : Nat))) → ∃ m,m < z ∧ InvX1 G z0 ff r n w m σ G := fun σ e => ⟨z - 1,by omega,i + 1,by omega,rfl,e⟩
  obtain ⟨L0,hL0⟩ : ∃ t,nvs (((bb ff).take i).map (·.length)) = t := ⟨_,rfl⟩
  obtain ⟨L1,hL1⟩ : ∃ t,nvs (((bb ff).take (i + 1)).map (·.length)) = t := ⟨_,rfl⟩
  simp only [hL0,hL1] at hap hres
  rw [hL0]
  obtain ⟨xl,hxl'⟩ : ∃ t,x.2.length = t := ⟨_,rfl⟩
  rw [hxl'] at hxl hap
  clear hsn
  simp -implicitDefEqProofs (disch := first | omega | (simp; done) | fail) [-toCells,-AV.one,-forget,c_q35,cmp_ilt,cmp_ilf,cmp_ile,cmp_ilg,cmp_ine,cmp_ieq,cmp_nlt,cmp_nlf,cmp_nle,cmp_nne,cmp_neq,wrap_i64,wrap_u64,wrap_u8,lp0_q35,hla,q1,hxl,hap]
  exact hres _ (by simp)
 ·have e : ((bb ff).take i).map (·.length) = ((bb ff).take (ff.length - 1)).map (·.length) := by
   have : i = ff.length - 1 := by omega
   rw [this]
  rw [e]
  simp -implicitDefEqProofs (disch := first | omega | (simp; done) | fail) [-toCells,-AV.one,-forget,c_q35,cmp_ilt,cmp_ilf,cmp_ile,cmp_ilg,cmp_ine,cmp_ieq,cmp_nlt,cmp_nlf,cmp_nle,cmp_nne,cmp_neq,wrap_i64,wrap_u64,wrap_u8,lp0_q35,hla]
  exact ⟨rfl,rfl,by simp⟩
def InvX2 (M : Heap) (k : Nat) (z0 : Bool) (ff : List Bs) (a : List Nat) (z : Nat) (σ : List AV) (G : Heap) : Prop :=
 ∃ (i : Nat),i + z = ff.length ∧ G = TH M (a ++ ((bb ff).take i).flatten) k ∧ σ = L 52 ((((Tr.full 6).put (path 0) (rwv M.length (a ++ ((bb ff).take i).flatten).length)).put (path 1) (lst z0 1 none (bvs ff))).put (path 11) (ai i))
def PostX2 (M : Heap) (k : Nat) (ff : List Bs) (a : List Nat) (e : AExit) (σ : List AV) (G : Heap) : Prop :=
 G = TH M (a ++ (bb ff).flatten) k ∧ e = .exit 2 ∧ kill [1,11,39,40,41,42] σ = L 52 ((Tr.full 6).put (path 0) (rwv M.length (a ++ (bb ff).flatten).length))
theorem loopX2 {M : Heap} {k : Nat} {z0 : Bool} {ff : List Bs} {a : List Nat} (ha : a ≠ []) (hal : a.length ≤ 10000) (hl : ff.length ≤ 100) (hs : (bb ff).flatten.length ≤ 100000) (z : Nat) (σ : List AV) (G : Heap) (hI : InvX2 M k z0 ff a z (kill (headK lp1_q35) σ) G) :
  Ends (execW P f_q35 (.loop lp1_q35) σ G) fun s => PostX2 M k ff a s.e s.σ s.H := by
 refine loop_ends (fun z σ G => InvX2 M k z0 ff a z σ G) (PostX2 M k ff a) ?_ z σ G hI
 clear hI z σ G
 rintro z σ G ⟨i,hz,rfl,rfl⟩
 have hla : (bvs ff).length = ff.length := bvs_len ff
 have htl : ((bb ff).take i).flatten.length ≤ (bb ff).flatten.length := by
  conv => rhs; rw [← List.take_append_drop i (bb ff),List.flatten_append,List.length_append]
  omega
 have hne : a ++ ((bb ff).take i).flatten ≠ [] := fun e => ha (List.append_eq_nil_iff.1 e).1
 by_cases hi : i < ff.length
 ·obtain ⟨x,hx⟩ : ∃ x,ff[i]? = some x := ⟨_,List.getElem?_eq_getElem hi⟩
  have q1 := bvs_at hx z0 none .i64
  have hxs : x.2.length ≤ (bb ff).flatten.length := by
   rw [List.length_flatten]; exact len_le_sum (List.mem_map_of_mem (List.mem_of_getElem? hx))
  have hap := app_th (m := P.md f_q35) rfl (d := 50) (M := M) (k := k) (l := x.2) (x := bv x) hne (fun H => bv_elems H x) (by rw [List.length_append]; omega)
  have hsn : a ++ ((bb ff).take (i + 1)).flatten = a ++ ((bb ff).take i).flatten ++ x.2 := by rw [take_snoc (bb_at hx)]; simp
  rw [← hsn] at hap
  have hres : ∀ σ,σ = L 52 ((((Tr.full 6).put (path 0) (rwv M.length (a ++ ((bb ff).take (i + 1)).flatten).length)).put (path 1) (lst z0 1 none (bvs ff))).put (path 11) (ai (i + 1 : Nat))) → ∃ m,m < z ∧ InvX2 M k z0 ff a m σ (TH M (a ++ ((bb ff).take (i + 1)).flatten) k) := fun σ e => ⟨z - 1,by omega,i + 1,by omega,rfl,e⟩
  clear hsn hne
  generalize a ++ ((bb ff).take i).flatten = o0 at *
  generalize a ++ ((bb ff).take (i + 1)).flatten = o1 at *
  obtain ⟨G0,hG0⟩ : ∃ t,TH M o0 k = t := ⟨_,rfl⟩
  obtain ⟨G1,hG1⟩ : ∃ t,TH M o1 k = t := ⟨_,rfl⟩
  simp only [hG0,hG1] at hap hres ⊢
  simp -implicitDefEqProofs (disch := first | omega | (simp; done) | fail) [-toCells,-AV.one,-forget,c_q35,cmp_ilt,cmp_ilf,cmp_ile,cmp_ilg,cmp_ine,cmp_ieq,cmp_nlt,cmp_nlf,cmp_nle,cmp_nne,cmp_neq,wrap_i64,wrap_u64,wrap_u8,lp1_q35,hla,q1,hap]
  exact hres _ (by simp)
 ·have e : (bb ff).take i = bb ff := List.take_of_length_le (by rw [bb_len]; omega)
  rw [e]
  obtain ⟨o,ho⟩ : ∃ t,a ++ (bb ff).flatten = t := ⟨_,rfl⟩
  have hP : ∀ e σ G,PostX2 M k ff a e σ G = (G = TH M o k ∧ e = .exit 2 ∧ kill [1,11,39,40,41,42] σ = L 52 ((Tr.full 6).put (path 0) (rwv M.length o.length))) := fun e σ G => by rw [PostX2,ho]
  rw [ho]
  obtain ⟨G0,hG0⟩ : ∃ t,TH M o k = t := ⟨_,rfl⟩
  rw [hG0]
  simp -implicitDefEqProofs (disch := first | omega | (simp; done) | fail) [-toCells,-AV.one,-forget,c_q35,cmp_ilt,cmp_ilf,cmp_ile,cmp_ilg,cmp_ine,cmp_ieq,cmp_nlt,cmp_nlf,cmp_nle,cmp_nne,cmp_neq,wrap_i64,wrap_u64,wrap_u8,lp1_q35,hla]
  rw [hP,hG0]
  exact ⟨rfl,rfl,by simp⟩
def PostX3 (M : Heap) (a : List Nat) (ff : List Bs) (w : Nat) (ls : List Nat) (e : AExit) (σ : List AV) (G : Heap) : Prop :=
 e = .ret ∧ ∃ lb k,PackR (lBits w ls) lb ∧ G = TH M (a ++ lb ++ (bb ff).flatten) k ∧ resultsA F_q35.res σ = some (rwv M.length (a ++ lb ++ (bb ff).flatten).length)
theorem rTail {M : Heap} {z0 : Bool} {ff : List Bs} {a : List Nat} {w : Nat} (ha : a ≠ []) (hal : a.length ≤ 1000) (hl1 : 1 ≤ ff.length) (hl : ff.length ≤ 24) (hs : (bb ff).flatten.length ≤ 5000) (hw : w = 11 ∨ w = 15) (hls : ∀ n ∈ ((bb ff).take (ff.length - 1)).map (·.length),1 ≤ n ∧ n < 2 ^ w) :
  ∃ lb k,PackR (lBits w (((bb ff).take (ff.length - 1)).map (·.length))) lb ∧ callW P f_q35 [rwv M.length a.length,lst z0 1 none (bvs ff),ai w] (TH M a 0) = some (rwv M.length (a ++ lb ++ (bb ff).flatten).length,TH M (a ++ lb ++ (bb ff).flatten) k) := by
 have hL1 := loopX1 (H := TH M a 0) (z0 := z0) (ff := ff) (by omega) M.length a.length w (ff.length - 1)
 obtain ⟨ls,hls'⟩ : ∃ t,((bb ff).take (ff.length - 1)).map (·.length) = t := ⟨_,rfl⟩
 have hll : ls.length = ff.length - 1 := by rw [← hls']; simp [bb_len]
 rw [hls'] at hls ⊢
 suffices hend : Ends (callW P f_q35 [rwv M.length a.length,lst z0 1 none (bvs ff),ai w] (TH M a 0)) fun y => ∃ lb k,PackR (lBits w ls) lb ∧ y = (rwv M.length (a ++ lb ++ (bb ff).flatten).length,TH M (a ++ lb ++ (bb ff).flatten) k) by
  obtain ⟨y,h2,lb,k,h3,rfl⟩ := hend
  exact ⟨lb,k,h3,h2⟩
 refine call_post 6 52 rfl (rfl : P.T f_q35 = some F_q35) rfl (le_ok rfl) (PostX3 M a ff w ls) ?_ ?_
 ·rintro e σ G ⟨rfl,lb,k,h1,rfl,h⟩
  exact ⟨rfl,_,h,by simp,by simp; exact ⟨lb,h1,rfl,k,rfl⟩⟩
 have hbeg : ∀ σ1 G1 lb k,PackR (lBits w ls) lb → lb.length ≤ 500 → InvX2 M k z0 ff (a ++ lb) ff.length (kill (headK lp1_q35) σ1) G1 → Ends (execW P f_q35 (.loop lp1_q35) σ1 G1) fun s => PostX2 M k ff (a ++ lb) s.e s.σ s.H := fun σ1 G1 lb k _ hlb h => loopX2 (fun e => ha (List.append_eq_nil_iff.1 e).1) (by rw [List.length_append]; omega) (by omega) (by omega) _ _ _ h
 obtain ⟨G0,hG0⟩ : ∃ t,TH M a 0 = t := ⟨_,rfl⟩
 rw [hG0] at hL1 ⊢
 rw [F_q35]; simp -implicitDefEqProofs (disch := first | omega | (simp; done) | fail) [-toCells,-AV.one,-forget,c_q35,cmp_ilt,cmp_ilf,cmp_ile,cmp_ilg,cmp_ine,cmp_ieq,cmp_nlt,cmp_nlf,cmp_nle,cmp_nne,cmp_neq,wrap_i64,wrap_u64,wrap_u8]
 repeat rw [Option.bind_assoc]
 refine Ends.block (P := PostX1 G0 z0 ff M.length a.length w) (hL1 _ _ ⟨0,by omega,rfl,by simp [lp0_q35,nvs]⟩) ?_
 rintro e σ1 G1 ⟨rfl,rfl,c⟩
 rw [hls'] at c
 have hnl : (nvs ls).length = ls.length := nvs_len ls
 by_cases h0 : ls.length = 0
 ·have hls0 : ls = [] := List.length_eq_zero_iff.1 h0
  have hb := hbeg
  have hP : ∀ k e σ G,PostX2 M k ff a e σ G = (G = TH M (a ++ (bb ff).flatten) k ∧ e = .exit 2 ∧ kill [1,11,39,40,41,42] σ = L 52 ((Tr.full 6).put (path 0) (rwv M.length (a ++ (bb ff).flatten).length))) := fun k e σ G => rfl
  rw [hls0] at c
  replace c : kill [8,12,13,14,15,16] σ1 = L 52 (((((Tr.full 6).put (path 0) (rwv M.length a.length)).put (path 1) (lst z0 1 none (bvs ff))).put (path 2) (ai w)).put (path 7) (nilS)) := c
  simp -implicitDefEqProofs (disch := first | omega | (simp; done) | fail) [-toCells,-AV.one,-forget,c_q35,cmp_ilt,cmp_ilf,cmp_ile,cmp_ilg,cmp_ine,cmp_ieq,cmp_nlt,cmp_nlf,cmp_nle,cmp_nne,cmp_neq,wrap_i64,wrap_u64,wrap_u8,c]
  repeat rw [Option.bind_assoc]
  have hpk : PackR (lBits w ls) [] := by rw [hls0]; exact PackR.nil
  refine Ends.block (P := PostX2 M 0 ff (a ++ [])) (hbeg _ _ [] 0 hpk (by simp) ⟨0,by omega,by simp [hG0],by simp [lp1_q35]⟩) ?_
  rintro e σ1 G1 ⟨rfl,rfl,c⟩
  have hx : ∀ σ,resultsA F_q35.res σ = some (rwv M.length (a ++ [] ++ (bb ff).flatten).length) → PostX3 M a ff w ls .ret σ (TH M (a ++ [] ++ (bb ff).flatten) 0) := fun σ h => ⟨rfl,[],0,hpk,rfl,h⟩
  generalize a ++ [] ++ (bb ff).flatten = o at *
  generalize TH M o 0 = G2 at *
  simp -implicitDefEqProofs (disch := first | omega | (simp; done) | fail) [-toCells,-AV.one,-forget,c_q35,cmp_ilt,cmp_ilf,cmp_ile,cmp_ilg,cmp_ine,cmp_ieq,cmp_nlt,cmp_nlf,cmp_nle,cmp_nne,cmp_neq,wrap_i64,wrap_u64,wrap_u8,c]
  exact hx _ (by simp [F_q35])
 ·obtain ⟨lb,k,hpb,hW⟩ := rWrite08 (z0 := true) (ls := ls) (by omega) (by omega) hw hls G1
  have hlbl := hpb.len
  have hlb2 := lBits_le hw (l := ls) (by omega)
  rw [← hG0,TH_oth,hG0] at hW
  have hap := app_th (m := P.md f_q35) rfl (d := 38) (M := M) (a := a) (k := 0 + k) (l := lb) (x := lst true 1 none (byteCs lb)) ha (fun H => Go.A.V.elems_lst H true 1 none _) (by omega)
  obtain ⟨G2,hG2⟩ : ∃ t,TH M a (0 + k) = t := ⟨_,rfl⟩
  rw [hG2] at hW hap
  obtain ⟨G3,hG3⟩ : ∃ t,TH M (a ++ lb) (0 + k) = t := ⟨_,rfl⟩
  rw [hG3] at hap
  obtain ⟨nn,hnn⟩ : ∃ t,(a ++ lb).length = t := ⟨_,rfl⟩
  rw [hnn] at hap
  obtain ⟨L0,hL0⟩ : ∃ t,byteCs lb = t := ⟨_,rfl⟩
  rw [hL0] at hW hap
  simp -implicitDefEqProofs (disch := first | omega | (simp; done) | fail) [-toCells,-AV.one,-forget,c_q35,cmp_ilt,cmp_ilf,cmp_ile,cmp_ilg,cmp_ine,cmp_ieq,cmp_nlt,cmp_nlf,cmp_nle,cmp_nne,cmp_neq,wrap_i64,wrap_u64,wrap_u8,c,hnl,hW,hap]
  repeat rw [Option.bind_assoc]
  refine Ends.block (P := PostX2 M (0 + k) ff (a ++ lb)) (hbeg _ _ lb (0 + k) hpb (by omega) ⟨0,by omega,by simp [← hG3],by simp [lp1_q35,← hnn]⟩) ?_
  rintro e σ1 G1 ⟨rfl,rfl,c⟩
  have hx : ∀ σ,resultsA F_q35.res σ = some (rwv M.length (a ++ lb ++ (bb ff).flatten).length) → PostX3 M a ff w ls .ret σ (TH M (a ++ lb ++ (bb ff).flatten) (0 + k)) := fun σ h => ⟨rfl,lb,0 + k,hpb,rfl,h⟩
  generalize a ++ lb ++ (bb ff).flatten = o at *
  generalize TH M o (0 + k) = G4 at *
  simp -implicitDefEqProofs (disch := first | omega | (simp; done) | fail) [-toCells,-AV.one,-forget,c_q35,cmp_ilt,cmp_ilf,cmp_ile,cmp_ilg,cmp_ine,cmp_ieq,cmp_nlt,cmp_nlf,cmp_nle,cmp_nne,cmp_neq,wrap_i64,wrap_u64,wrap_u8,c]
  exact hx _ (by simp [F_q35])
end
end Go.A.V.S

namespace Go.A.V.S
open Go Go.A
theorem bls_app (a b : List Bool) : bls (a ++ b) = bls a ++ bls b := by simp [bls]
theorem bls_ne {x : List Bool} (h : x ≠ []) : bls x ≠ [] := by simpa [bls] using h
theorem rPutV {x : List Bool} (h0 : x ≠ []) (hx : x.length ≤ 60000) {v n : Nat} (hn : n ≤ 63) (hvn : v < 2 ^ n) (H : Heap) :
  callW P f_q34 [.vs 1 none (bls x),.c (.int .u64 v),ai n] H = some (.tup [.vs 1 (some 0) (bls (x ++ bitsOf v n)),ai 0],H) := by
 have h := rPut (zx := false) hx hn hvn H
 have hne : x ++ bitsOf v n ≠ [] := fun e => h0 (List.append_eq_nil_iff.1 e).1
 rw [lst_ne (bls_ne hne)] at h
 exact h
theorem appB {m : Md} {d c : Nat} {x y : List Bool} (hx : x.length ≤ 60000) (hy : y.length ≤ 1000) (f : Option Nat) (σ : List AV) (H : Heap) :
  appW m (some d) 1 1 (.vs 1 (some c) (bls x)) (.vs 1 f (bls y)) σ H = some (.vs 1 (some d) (bls (x ++ y)),σ.map (unfl [c,d]),H) := by
 rw [bls_app]
 exact appW_vs (fun H => elems_vs H 1 f _) (by simp [bls_len,appBound]; omega) (by simp [bls_len,appBound]; omega) σ H
theorem frz_th (H : Heap) {o : List Nat} (k : Nat) (h0 : o ≠ []) : frz H.length (TH H o k) (rwv H.length o.length) = some (.vs 1 none (byteCs o)) := by
 have ho0 : o.length ≠ 0 := fun e => h0 (List.length_eq_zero_iff.1 e)
 have hrd : rdRow0 (TH H o k) H.length 0 (o.length * 1) o.length = some (bys o) := by
  rw [rdRow0,if_neg (by omega),rdRow,TH_get]
  simp only [AObj.isRow,AObj.lo,AObj.cells,bys_len]
  rw [if_pos ⟨trivial,by omega,by omega,by omega⟩,List.drop_zero,List.take_of_length_le (by rw [bys_len]; omega)]
 have hok : (bys o).all okCell = true := by
  refine List.all_eq_true.2 fun x hx => ?_
  obtain ⟨b,_,rfl⟩ := List.mem_map.1 hx
  rfl
 have hch : ∀ l : List Nat,chunk 1 l.length (bys l) = byteCs l := by
  intro l
  induction l with
  | nil => rfl
  | cons x r ih =>
   have e1 : bys (x :: r) = au x :: bys r := rfl
   have e2 : byteCs (x :: r) = [au x] :: byteCs r := rfl
   rw [e1,e2,List.length_cons,chunk,List.take_succ_cons,List.take_zero,List.drop_succ_cons,List.drop_zero,ih]
 simp only [rwv,frz]
 rw [if_neg (by omega),if_neg (by omega),hrd,Option.bind_some,if_pos hok,hch]
theorem oth_th (H : Heap) (o : List Nat) (k : Nat) : List.take H.length (TH H o k) ++ List.replicate ((TH H o k).length - H.length) AObj.other = H ++ List.replicate (k + 1) .other := by
 have : (TH H o k).length - H.length = k + 1 := by simp [TH]
 rw [this,TH,List.take_left]
theorem u64_of {z : Int} (h : 0 ≤ z) (h2 : z ≤ 100000) : IntKind.u64.wrap z = (z.toNat : Nat) := by rw [wrap_u64 h (by omega)]; omega
theorem rUWrite (p : Um) {w : Int} (h0 : sizeU p w ≠ 0) (H : Heap) :
  ∃ out k,WrU p w.toNat out ∧ callW P f_q14 [.agg p.v,ai w] H = some (.vs 1 none (byteCs out),H ++ List.replicate k .other) := by
 obtain ⟨hw,⟨hfi,hfi2⟩,⟨hsn,hsn2⟩,hf1,hf24,hsz⟩ := sizeU_pos h0
 obtain ⟨wn,rfl,hwn⟩ : ∃ wn : Nat,w = wn ∧ (wn = 5 ∨ wn = 10) := by
  rcases hw with rfl | rfl
  ·exact ⟨5,rfl,.inl rfl⟩
  ·exact ⟨10,rfl,.inr rfl⟩
 have htn : ((wn : Nat) : Int).toNat = wn := by simp
 rw [htn] at hsn2 hsz ⊢
 obtain ⟨s1,s2,s3,s4⟩ := sumR_pos (bb p.ff) (baseU p wn) (by rw [← hsz]; exact h0)
 have hbne : bb p.ff ≠ [] := fun e => by have := congrArg List.length e; rw [bb_len] at this; simp at this; rw [this] at hf1; simp at hf1
 have hdl := s3 hbne
 have hlens : ∀ n ∈ ((bb p.ff).take (p.ff.length - 1)).map (·.length),1 ≤ n ∧ n < 2 ^ 11 := fun n hn => by
  obtain ⟨b,hb1,rfl⟩ := List.mem_map.1 hn
  have hdr : (bb p.ff).take (p.ff.length - 1) = (bb p.ff).dropLast := by rw [List.dropLast_eq_take,bb_len]
  rw [hdr] at hb1
  have h2 := s2 b hb1
  have h3 := s1 b (List.mem_of_mem_take (by rw [List.dropLast_eq_take] at hb1; exact hb1))
  have : (2 : Nat) ^ 11 = 2048 := by decide
  omega
 have hbl : (uBits p wn).length ≤ 60 ∧ 3 ≤ (uBits p wn).length := by
  unfold uBits
  simp only [List.length_append,bitsOf_len,List.length_cons,List.length_nil]
  split <;> simp <;> omega
 obtain ⟨hb,hpk,hB⟩ := rBytes (zx := false) (l := uBits p wn) (by omega) H
 have hhl := hpk.len
 have hb0 : hb ≠ [] := fun e => by rw [e] at hhl; simp at hhl; omega
 have hb1 : hb.length ≠ 0 := fun e => hb0 (List.length_eq_zero_iff.1 e)
 have hbh : BH H hb = TH H hb 0 := by simp [BH,TH,hb0]
 have hbv : bval H.length hb.length = rwv H.length hb.length := by rw [bval,if_neg hb1]; rfl
 rw [hbh,hbv] at hB
 obtain ⟨lb,k,hpl,hT⟩ := rTail (M := H) (z0 := p.z) (ff := p.ff) (a := hb) (w := 11) hb0 (by omega) hf1 hf24 (by omega) (.inl rfl) hlens
 have hfin : WrU p wn (hb ++ lb ++ (bb p.ff).flatten) := ⟨hb,lb,hpk,by
  have : lenU p = ((bb p.ff).take (p.ff.length - 1)).map (·.length) := by rw [lenU,bb,bb,List.map_take]
  rw [this]; exact hpl,rfl⟩
 have ho0 : hb ++ lb ++ (bb p.ff).flatten ≠ [] := fun e => hb0 (List.append_eq_nil_iff.1 (List.append_eq_nil_iff.1 e).1).1
 have hfz := frz_th H k ho0
 have hoth := oth_th H (hb ++ lb ++ (bb p.ff).flatten) k
 refine ⟨_,k + 1,hfin,?_⟩
 rw [← hoth]
 clear hfin hoth
 obtain ⟨out,hout⟩ : ∃ t,hb ++ lb ++ (bb p.ff).flatten = t := ⟨_,rfl⟩
 rw [hout] at hT hfz ⊢
 have hpw : (2 : Nat) ^ wn ≤ 65536 := by rcases hwn with rfl | rfl <;> decide
 have u1 := u64_of hfi (by omega)
 have u2 := u64_of hsn (by omega)
 have v1 : p.fi.toNat < 2 ^ 2 := by omega
 have v2 : p.sn.toNat < 2 ^ wn := by omega
 have hla : (bvs p.ff).length = p.ff.length := bvs_len p.ff
 obtain ⟨fi,sn,z0,ff⟩ := p
 simp only at *
 simp only [Um.v,Um.f]
 obtain ⟨b1,hb1'⟩ : ∃ t,decide (1 < ff.length) = t := ⟨_,rfl⟩
 have hdc : decide ((ff.length : Int) > 1) = b1 := by rw [← hb1']; exact decide_eq_decide.2 (by omega)
 have hdc' : decide ((1 : Int) < ff.length) = b1 := by rw [← hb1']; exact decide_eq_decide.2 (by omega)
 have fin : ∀ x : List Bool,x.length ≤ 100 → ∀ v n : Nat,n ≤ 16 → x ≠ [] → v < 2 ^ n → ∀ H,callW P f_q34 [.vs 1 none (bls x),.c (.int .u64 v),ai n] H = some (.tup [.vs 1 (some 0) (bls (x ++ bitsOf v n)),ai 0],H) := fun x hx v n hn h0 hv H => rPutV h0 (by omega) (by omega) hv H
 have hbits : uBits ⟨fi,sn,z0,ff⟩ wn = (((if wn = 10 then [false,false,false] else []) ++ bitsOf fi.toNat 2) ++ [b1]) ++ bitsOf sn.toNat wn := by
  rw [← hb1']; simp [uBits]
 rw [hbits] at hB
 clear hbits hpk hpl hsz s1 s2 s3 s4 hlens h0 hbl hbh hbv hdl hb1' hbne
 generalize fi.toNat = fn at *
 generalize sn.toNat = sN at *
 have main : ∀ x0 : List Bool,x0 = (if wn = 10 then [false,false,false] else []) → (∀ H,callW P f_q34 [lst true 1 none (bls x0),.c (.int .u64 fn),ai 2] H = some (.tup [.vs 1 (some 0) (bls (x0 ++ bitsOf fn 2)),ai 0],H)) := by
  intro x0 h H
  have hl0 : x0.length ≤ 3 := by rw [h]; split <;> simp
  have h1 := rPut (zx := true) (x := x0) (by omega) (v := fn) (n := 2) (by omega) v1 H
  have hne : bls (x0 ++ bitsOf fn 2) ≠ [] := bls_ne (fun e => by have := congrArg List.length e; rw [List.length_append,bitsOf_len] at this; simp at this)
  rw [lst_ne hne] at h1
  exact h1
 rcases hwn with rfl | rfl
 ·have hP1 := main [] rfl
  replace hP1 : ∀ H,callW P f_q34 [nilS,.c (.int .u64 fn),ai 2] H = some (.tup [.vs 1 (some 0) (bls (bitsOf fn 2)),ai 0],H) := hP1
  rw [show (if (5 : Nat) = 10 then [false,false,false] else []) = [] from rfl,List.nil_append] at hB
  obtain ⟨x1,hx1⟩ : ∃ t,bitsOf fn 2 = t := ⟨_,rfl⟩
  have hx1l : x1.length = 2 := by rw [← hx1,bitsOf_len]
  rw [hx1] at hP1 hB
  have hA1 := fun f σ H => appB (m := P.md f_q14) (d := 23) (c := 14) (x := x1) (y := [b1]) (by omega) (by simp) f σ H
  obtain ⟨x2,hx2⟩ : ∃ t,x1 ++ [b1] = t := ⟨_,rfl⟩
  have hx2l : x2.length = 3 := by rw [← hx2]; simp [hx1l]
  have hx20 : x2 ≠ [] := fun e => by rw [e] at hx2l; simp at hx2l
  rw [hx2] at hA1 hB
  replace hA1 : ∀ f σ H,appW (P.md f_q14) (some 23) 1 1 (.vs 1 (some 14) (bls x1)) (.vs 1 f [[ab b1]]) σ H = some (.vs 1 (some 23) (bls x2),σ.map (unfl [14,23]),H) := hA1
  have hP2 := fin x2 (by omega) sN 5 (by omega) hx20 v2
  obtain ⟨x3,hx3⟩ : ∃ t,x2 ++ bitsOf sN 5 = t := ⟨_,rfl⟩
  rw [hx3] at hP2 hB
  generalize bls x1 = L1 at *
  generalize bls x2 = L2 at *
  generalize bls x3 = L3 at *
  replace hP2 : ∀ H,callW P f_q34 [.vs 1 none L2,.c (.int .u64 sN),ai 5] H = some (.tup [.vs 1 (some 0) L3,ai 0],H) := hP2
  replace hB : callW P f_q36 [.vs 1 none L3] H = _ := hB
  replace hT : callW P f_q35 [rwv H.length hb.length,lst z0 1 none (bvs ff),ai 11] (TH H hb 0) = _ := hT
  generalize TH H hb 0 = G1 at *
  obtain ⟨G2,hG2⟩ : ∃ t,TH H out k = t := ⟨_,rfl⟩
  rw [hG2] at hT hfz ⊢
  clear main fin
  rw [call_L 6 rfl (rfl : P.T f_q14 = some F_q14) (le_ok rfl)]; simp -implicitDefEqProofs [-toCells,-AV.one,-forget,F_q14,c_q14,u1,u2,hP1,hdc,hdc',hla,hA1,hP2,hB,hT,hfz,keepB,goodB_L,sameV,dstNot,dstNe,SOpG.reads,SOp.slots,SX.slots,SOp.noL,rdV,selfE_lst,selfE,selfEs,eqV]
  intro h; rw [L_length] at h; omega
 ·have hP1 := main [false,false,false] rfl
  replace hP1 : ∀ H,callW P f_q34 [.vs 1 none [[ab false],[ab false],[ab false]],.c (.int .u64 fn),ai 2] H = some (.tup [.vs 1 (some 0) (bls ([false,false,false] ++ bitsOf fn 2)),ai 0],H) := hP1
  rw [show (if (10 : Nat) = 10 then [false,false,false] else []) = [false,false,false] from rfl] at hB
  obtain ⟨x1,hx1⟩ : ∃ t,[false,false,false] ++ bitsOf fn 2 = t := ⟨_,rfl⟩
  have hx1l : x1.length = 5 := by rw [← hx1]; simp [bitsOf_len]
  rw [hx1] at hP1 hB
  have hA1 := fun f σ H => appB (m := P.md f_q14) (d := 23) (c := 14) (x := x1) (y := [b1]) (by omega) (by simp) f σ H
  obtain ⟨x2,hx2⟩ : ∃ t,x1 ++ [b1] = t := ⟨_,rfl⟩
  have hx2l : x2.length = 6 := by rw [← hx2]; simp [hx1l]
  have hx20 : x2 ≠ [] := fun e => by rw [e] at hx2l; simp at hx2l
  rw [hx2] at hA1 hB
  replace hA1 : ∀ f σ H,appW (P.md f_q14) (some 23) 1 1 (.vs 1 (some 14) (bls x1)) (.vs 1 f [[ab b1]]) σ H = some (.vs 1 (some 23) (bls x2),σ.map (unfl [14,23]),H) := hA1
  have hP2 := fin x2 (by omega) sN 10 (by omega) hx20 v2
  obtain ⟨x3,hx3⟩ : ∃ t,x2 ++ bitsOf sN 10 = t := ⟨_,rfl⟩
  rw [hx3] at hP2 hB
  generalize bls x1 = L1 at *
  generalize bls x2 = L2 at *
  generalize bls x3 = L3 at *
  replace hP2 : ∀ H,callW P f_q34 [.vs 1 none L2,.c (.int .u64 sN),ai 10] H = some (.tup [.vs 1 (some 0) L3,ai 0],H) := hP2
  replace hB : callW P f_q36 [.vs 1 none L3] H = _ := hB
  replace hT : callW P f_q35 [rwv H.length hb.length,lst z0 1 none (bvs ff),ai 11] (TH H hb 0) = _ := hT
  generalize TH H hb 0 = G1 at *
  obtain ⟨G2,hG2⟩ : ∃ t,TH H out k = t := ⟨_,rfl⟩
  rw [hG2] at hT hfz ⊢
  clear main fin
  rw [call_L 6 rfl (rfl : P.T f_q14 = some F_q14) (le_ok rfl)]; simp -implicitDefEqProofs [-toCells,-AV.one,-forget,F_q14,c_q14,u1,u2,hP1,hdc,hdc',hla,hA1,hP2,hB,hT,hfz,keepB,goodB_L,sameV,dstNot,dstNe,SOpG.reads,SOp.slots,SX.slots,SOp.noL,rdV,selfE_lst,selfE,selfEs,eqV]
  intro h; rw [L_length] at h; omega
end Go.A.V.S

namespace Go.A.V.S
open Go Go.A
def inD (x a b : Int) : Bool := decide (a ≤ x) && decide (x ≤ b)
theorem rIs12 (x a b : Int) (H : Heap) : callW P f_q20 [ai x,ai a,ai b] H = some (ab (inD x a b),H) := by
 by_cases h1 : a ≤ x
 ·by_cases h2 : x ≤ b
  ·rw [inD,decide_eq_true h1,decide_eq_true h2]
   rw [call_L 5 rfl (rfl : P.T f_q20 = some F_q20) (le_ok rfl)]; simp -implicitDefEqProofs (disch := first | omega | (simp; done) | fail) [-toCells,-AV.one,-forget,F_q20,c_q20,cmp_ilt,cmp_ilf,cmp_ile,cmp_ilg,cmp_ine,cmp_ieq,cmp_nlt,cmp_nlf,cmp_nle,cmp_nne,cmp_neq,wrap_i64,wrap_u64,wrap_u8,h1,h2]
  ·rw [inD,decide_eq_true h1,decide_eq_false h2]
   rw [call_L 5 rfl (rfl : P.T f_q20 = some F_q20) (le_ok rfl)]; simp -implicitDefEqProofs (disch := first | omega | (simp; done) | fail) [-toCells,-AV.one,-forget,F_q20,c_q20,cmp_ilt,cmp_ilf,cmp_ile,cmp_ilg,cmp_ine,cmp_ieq,cmp_nlt,cmp_nlf,cmp_nle,cmp_nne,cmp_neq,wrap_i64,wrap_u64,wrap_u8,h1,h2]
 ·rw [inD,decide_eq_false h1]
  rw [call_L 5 rfl (rfl : P.T f_q20 = some F_q20) (le_ok rfl)]; simp -implicitDefEqProofs (disch := first | omega | (simp; done) | fail) [-toCells,-AV.one,-forget,F_q20,c_q20,cmp_ilt,cmp_ilf,cmp_ile,cmp_ilg,cmp_ine,cmp_ieq,cmp_nlt,cmp_nlf,cmp_nle,cmp_nne,cmp_neq,wrap_i64,wrap_u64,wrap_u8,h1]
theorem inD_inn (x a b : Int) : inD x a b = inn (x,(a,b)) := by
 simp only [inD,inn]
 by_cases h1 : a ≤ x <;> by_cases h2 : x ≤ b <;> simp [h1,h2] <;> omega
def Cfg.oth (c : Cfg) : Bool := decide (c.pollRetx = 0) && (decide (c.prohibit = 0) && (decide (c.pollPDU = 0) && (decide (c.pollByte = 0) && decide (c.maxRetx = 0))))
def Cfg.d0 (c : Cfg) : Bool := inD c.queue 1 20000 && (decide (c.bits = 0) && (decide (c.window = 0) && (decide (c.reorder = 0) && c.oth)))
def Cfg.d1 (c : Cfg) (h : Int) : Bool := inD c.queue 1 20000 && (inD c.window 1 h && (inD c.reorder 1 1000 && c.oth))
def Cfg.d2 (c : Cfg) (h : Int) : Bool := inD c.queue 1 20000 && (inD c.window 1 h && (inD c.reorder 1 1000 && (inD c.pollRetx 1 1000 && (inD c.prohibit 0 1000 && (inD c.pollPDU 1 1000 && (inD c.pollByte 1 20000 && inD c.maxRetx 1 32))))))
section
variable {bi wi re pr ph pp pb mr q : Int} {H : Heap}
theorem chk_d0 : callW P f_q2 [.agg (Cfg.v ⟨0,bi,wi,re,pr,ph,pp,pb,mr,q⟩)] H = some (ai (cond (Cfg.d0 ⟨0,bi,wi,re,pr,ph,pp,pb,mr,q⟩) 0 1),H) := by
 have h1 := fun H => rIs12 q 1 20000 H
 have h2 := fun H => rSize02 bi H
 obtain ⟨s,hs⟩ : ∃ t,sz2 bi = t := ⟨_,rfl⟩
 rw [hs] at h2
 obtain ⟨s2,hs2⟩ : ∃ t : Int,IntKind.i64.wrap ((s : Int).tdiv 2) = t := ⟨_,rfl⟩
 clear hs
 simp only [Cfg.d0]
 generalize inD q 1 20000 = iq at *
 by_cases pr_0 : pr = 0
 case neg =>
  cases iq with
  | false => rw [call_L 8 rfl (rfl : P.T f_q2 = some F_q2) (le_ok rfl)]; simp -implicitDefEqProofs [-toCells,-AV.one,-forget,F_q2,c_q2,Cfg.v,Cfg.d0,Cfg.d1,Cfg.d2,Cfg.oth,h1,h2,hs2,pr_0]
  | true =>
  by_cases bi_0 : bi = 0
  case neg => rw [call_L 8 rfl (rfl : P.T f_q2 = some F_q2) (le_ok rfl)]; simp -implicitDefEqProofs [-toCells,-AV.one,-forget,F_q2,c_q2,Cfg.v,Cfg.d0,Cfg.d1,Cfg.d2,Cfg.oth,h1,h2,hs2,pr_0,bi_0]
  subst bi_0
  by_cases wi_0 : wi = 0
  case neg => rw [call_L 8 rfl (rfl : P.T f_q2 = some F_q2) (le_ok rfl)]; simp -implicitDefEqProofs [-toCells,-AV.one,-forget,F_q2,c_q2,Cfg.v,Cfg.d0,Cfg.d1,Cfg.d2,Cfg.oth,h1,h2,hs2,pr_0,wi_0]
  subst wi_0
  by_cases re_0 : re = 0
  case neg => rw [call_L 8 rfl (rfl : P.T f_q2 = some F_q2) (le_ok rfl)]; simp -implicitDefEqProofs [-toCells,-AV.one,-forget,F_q2,c_q2,Cfg.v,Cfg.d0,Cfg.d1,Cfg.d2,Cfg.oth,h1,h2,hs2,pr_0,re_0]
  subst re_0
  rw [call_L 8 rfl (rfl : P.T f_q2 = some F_q2) (le_ok rfl)]; simp -implicitDefEqProofs [-toCells,-AV.one,-forget,F_q2,c_q2,Cfg.v,Cfg.d0,Cfg.d1,Cfg.d2,Cfg.oth,h1,h2,hs2,pr_0]
 subst pr_0
 by_cases ph_0 : ph = 0
 case neg =>
  cases iq with
  | false => rw [call_L 8 rfl (rfl : P.T f_q2 = some F_q2) (le_ok rfl)]; simp -implicitDefEqProofs [-toCells,-AV.one,-forget,F_q2,c_q2,Cfg.v,Cfg.d0,Cfg.d1,Cfg.d2,Cfg.oth,h1,h2,hs2,ph_0]
  | true =>
  by_cases bi_0 : bi = 0
  case neg => rw [call_L 8 rfl (rfl : P.T f_q2 = some F_q2) (le_ok rfl)]; simp -implicitDefEqProofs [-toCells,-AV.one,-forget,F_q2,c_q2,Cfg.v,Cfg.d0,Cfg.d1,Cfg.d2,Cfg.oth,h1,h2,hs2,ph_0,bi_0]
  subst bi_0
  by_cases wi_0 : wi = 0
  case neg => rw [call_L 8 rfl (rfl : P.T f_q2 = some F_q2) (le_ok rfl)]; simp -implicitDefEqProofs [-toCells,-AV.one,-forget,F_q2,c_q2,Cfg.v,Cfg.d0,Cfg.d1,Cfg.d2,Cfg.oth,h1,h2,hs2,ph_0,wi_0]
  subst wi_0
  by_cases re_0 : re = 0
  case neg => rw [call_L 8 rfl (rfl : P.T f_q2 = some F_q2) (le_ok rfl)]; simp -implicitDefEqProofs [-toCells,-AV.one,-forget,F_q2,c_q2,Cfg.v,Cfg.d0,Cfg.d1,Cfg.d2,Cfg.oth,h1,h2,hs2,ph_0,re_0]
  subst re_0
  rw [call_L 8 rfl (rfl : P.T f_q2 = some F_q2) (le_ok rfl)]; simp -implicitDefEqProofs [-toCells,-AV.one,-forget,F_q2,c_q2,Cfg.v,Cfg.d0,Cfg.d1,Cfg.d2,Cfg.oth,h1,h2,hs2,ph_0]
 subst ph_0
 by_cases pp_0 : pp = 0
 case neg =>
  cases iq with
  | false => rw [call_L 8 rfl (rfl : P.T f_q2 = some F_q2) (le_ok rfl)]; simp -implicitDefEqProofs [-toCells,-AV.one,-forget,F_q2,c_q2,Cfg.v,Cfg.d0,Cfg.d1,Cfg.d2,Cfg.oth,h1,h2,hs2,pp_0]
  | true =>
  by_cases bi_0 : bi = 0
  case neg => rw [call_L 8 rfl (rfl : P.T f_q2 = some F_q2) (le_ok rfl)]; simp -implicitDefEqProofs [-toCells,-AV.one,-forget,F_q2,c_q2,Cfg.v,Cfg.d0,Cfg.d1,Cfg.d2,Cfg.oth,h1,h2,hs2,pp_0,bi_0]
  subst bi_0
  by_cases wi_0 : wi = 0
  case neg => rw [call_L 8 rfl (rfl : P.T f_q2 = some F_q2) (le_ok rfl)]; simp -implicitDefEqProofs [-toCells,-AV.one,-forget,F_q2,c_q2,Cfg.v,Cfg.d0,Cfg.d1,Cfg.d2,Cfg.oth,h1,h2,hs2,pp_0,wi_0]
  subst wi_0
  by_cases re_0 : re = 0
  case neg => rw [call_L 8 rfl (rfl : P.T f_q2 = some F_q2) (le_ok rfl)]; simp -implicitDefEqProofs [-toCells,-AV.one,-forget,F_q2,c_q2,Cfg.v,Cfg.d0,Cfg.d1,Cfg.d2,Cfg.oth,h1,h2,hs2,pp_0,re_0]
  subst re_0
  rw [call_L 8 rfl (rfl : P.T f_q2 = some F_q2) (le_ok rfl)]; simp -implicitDefEqProofs [-toCells,-AV.one,-forget,F_q2,c_q2,Cfg.v,Cfg.d0,Cfg.d1,Cfg.d2,Cfg.oth,h1,h2,hs2,pp_0]
 subst pp_0
 by_cases pb_0 : pb = 0
 case neg =>
  cases iq with
  | false => rw [call_L 8 rfl (rfl : P.T f_q2 = some F_q2) (le_ok rfl)]; simp -implicitDefEqProofs [-toCells,-AV.one,-forget,F_q2,c_q2,Cfg.v,Cfg.d0,Cfg.d1,Cfg.d2,Cfg.oth,h1,h2,hs2,pb_0]
  | true =>
  by_cases bi_0 : bi = 0
  case neg => rw [call_L 8 rfl (rfl : P.T f_q2 = some F_q2) (le_ok rfl)]; simp -implicitDefEqProofs [-toCells,-AV.one,-forget,F_q2,c_q2,Cfg.v,Cfg.d0,Cfg.d1,Cfg.d2,Cfg.oth,h1,h2,hs2,pb_0,bi_0]
  subst bi_0
  by_cases wi_0 : wi = 0
  case neg => rw [call_L 8 rfl (rfl : P.T f_q2 = some F_q2) (le_ok rfl)]; simp -implicitDefEqProofs [-toCells,-AV.one,-forget,F_q2,c_q2,Cfg.v,Cfg.d0,Cfg.d1,Cfg.d2,Cfg.oth,h1,h2,hs2,pb_0,wi_0]
  subst wi_0
  by_cases re_0 : re = 0
  case neg => rw [call_L 8 rfl (rfl : P.T f_q2 = some F_q2) (le_ok rfl)]; simp -implicitDefEqProofs [-toCells,-AV.one,-forget,F_q2,c_q2,Cfg.v,Cfg.d0,Cfg.d1,Cfg.d2,Cfg.oth,h1,h2,hs2,pb_0,re_0]
  subst re_0
  rw [call_L 8 rfl (rfl : P.T f_q2 = some F_q2) (le_ok rfl)]; simp -implicitDefEqProofs [-toCells,-AV.one,-forget,F_q2,c_q2,Cfg.v,Cfg.d0,Cfg.d1,Cfg.d2,Cfg.oth,h1,h2,hs2,pb_0]
 subst pb_0
 by_cases mr_0 : mr = 0
 case neg =>
  cases iq with
  | false => rw [call_L 8 rfl (rfl : P.T f_q2 = some F_q2) (le_ok rfl)]; simp -implicitDefEqProofs [-toCells,-AV.one,-forget,F_q2,c_q2,Cfg.v,Cfg.d0,Cfg.d1,Cfg.d2,Cfg.oth,h1,h2,hs2,mr_0]
  | true =>
  by_cases bi_0 : bi = 0
  case neg => rw [call_L 8 rfl (rfl : P.T f_q2 = some F_q2) (le_ok rfl)]; simp -implicitDefEqProofs [-toCells,-AV.one,-forget,F_q2,c_q2,Cfg.v,Cfg.d0,Cfg.d1,Cfg.d2,Cfg.oth,h1,h2,hs2,mr_0,bi_0]
  subst bi_0
  by_cases wi_0 : wi = 0
  case neg => rw [call_L 8 rfl (rfl : P.T f_q2 = some F_q2) (le_ok rfl)]; simp -implicitDefEqProofs [-toCells,-AV.one,-forget,F_q2,c_q2,Cfg.v,Cfg.d0,Cfg.d1,Cfg.d2,Cfg.oth,h1,h2,hs2,mr_0,wi_0]
  subst wi_0
  by_cases re_0 : re = 0
  case neg => rw [call_L 8 rfl (rfl : P.T f_q2 = some F_q2) (le_ok rfl)]; simp -implicitDefEqProofs [-toCells,-AV.one,-forget,F_q2,c_q2,Cfg.v,Cfg.d0,Cfg.d1,Cfg.d2,Cfg.oth,h1,h2,hs2,mr_0,re_0]
  subst re_0
  rw [call_L 8 rfl (rfl : P.T f_q2 = some F_q2) (le_ok rfl)]; simp -implicitDefEqProofs [-toCells,-AV.one,-forget,F_q2,c_q2,Cfg.v,Cfg.d0,Cfg.d1,Cfg.d2,Cfg.oth,h1,h2,hs2,mr_0]
 subst mr_0
 cases iq with
 | false => rw [call_L 8 rfl (rfl : P.T f_q2 = some F_q2) (le_ok rfl)]; simp -implicitDefEqProofs [-toCells,-AV.one,-forget,F_q2,c_q2,Cfg.v,Cfg.d0,Cfg.d1,Cfg.d2,Cfg.oth,h1,h2,hs2]
 | true =>
  by_cases bi_0 : bi = 0
  case neg => rw [call_L 8 rfl (rfl : P.T f_q2 = some F_q2) (le_ok rfl)]; simp -implicitDefEqProofs [-toCells,-AV.one,-forget,F_q2,c_q2,Cfg.v,Cfg.d0,Cfg.d1,Cfg.d2,Cfg.oth,h1,h2,hs2,bi_0]
  subst bi_0
  by_cases wi_0 : wi = 0
  case neg => rw [call_L 8 rfl (rfl : P.T f_q2 = some F_q2) (le_ok rfl)]; simp -implicitDefEqProofs [-toCells,-AV.one,-forget,F_q2,c_q2,Cfg.v,Cfg.d0,Cfg.d1,Cfg.d2,Cfg.oth,h1,h2,hs2,wi_0]
  subst wi_0
  by_cases re_0 : re = 0
  case neg => rw [call_L 8 rfl (rfl : P.T f_q2 = some F_q2) (le_ok rfl)]; simp -implicitDefEqProofs [-toCells,-AV.one,-forget,F_q2,c_q2,Cfg.v,Cfg.d0,Cfg.d1,Cfg.d2,Cfg.oth,h1,h2,hs2,re_0]
  subst re_0
  rw [call_L 8 rfl (rfl : P.T f_q2 = some F_q2) (le_ok rfl)]; simp -implicitDefEqProofs [-toCells,-AV.one,-forget,F_q2,c_q2,Cfg.v,Cfg.d0,Cfg.d1,Cfg.d2,Cfg.oth,h1,h2,hs2]
theorem chk_d1_5 : callW P f_q2 [.agg (Cfg.v ⟨1,5,wi,re,pr,ph,pp,pb,mr,q⟩)] H = some (ai (cond (Cfg.d1 ⟨1,5,wi,re,pr,ph,pp,pb,mr,q⟩ 16) 0 1),H) := by
 have h1 := fun H => rIs12 q 1 20000 H
 have h2 := fun H => rIs12 wi 1 16 H
 have h3 := fun H => rIs12 re 1 1000 H
 have h4 : ∀ H,callW P f_q21 [ai 5] H = some (ai 32,H) := fun H => rSize02 5 H
 have wh : IntKind.i64.wrap 16 = 16 := rfl
 simp only [Cfg.d1]
 generalize inD q 1 20000 = iq at *
 generalize inD wi 1 16 = iw at *
 generalize inD re 1 1000 = ir at *
 by_cases pr_0 : pr = 0
 case neg =>
  cases iq with
  | false => rw [call_L 8 rfl (rfl : P.T f_q2 = some F_q2) (le_ok rfl)]; simp -implicitDefEqProofs [-toCells,-AV.one,-forget,F_q2,c_q2,Cfg.v,Cfg.d0,Cfg.d1,Cfg.d2,Cfg.oth,h1,h2,h3,h4,wh,pr_0]
  | true =>
  cases iw with
  | false => rw [call_L 8 rfl (rfl : P.T f_q2 = some F_q2) (le_ok rfl)]; simp -implicitDefEqProofs [-toCells,-AV.one,-forget,F_q2,c_q2,Cfg.v,Cfg.d0,Cfg.d1,Cfg.d2,Cfg.oth,h1,h2,h3,h4,wh,pr_0]
  | true =>
   cases ir with
   | false => rw [call_L 8 rfl (rfl : P.T f_q2 = some F_q2) (le_ok rfl)]; simp -implicitDefEqProofs [-toCells,-AV.one,-forget,F_q2,c_q2,Cfg.v,Cfg.d0,Cfg.d1,Cfg.d2,Cfg.oth,h1,h2,h3,h4,wh,pr_0]
   | true =>
   rw [call_L 8 rfl (rfl : P.T f_q2 = some F_q2) (le_ok rfl)]; simp -implicitDefEqProofs [-toCells,-AV.one,-forget,F_q2,c_q2,Cfg.v,Cfg.d0,Cfg.d1,Cfg.d2,Cfg.oth,h1,h2,h3,h4,wh,pr_0]
 subst pr_0
 by_cases ph_0 : ph = 0
 case neg =>
  cases iq with
  | false => rw [call_L 8 rfl (rfl : P.T f_q2 = some F_q2) (le_ok rfl)]; simp -implicitDefEqProofs [-toCells,-AV.one,-forget,F_q2,c_q2,Cfg.v,Cfg.d0,Cfg.d1,Cfg.d2,Cfg.oth,h1,h2,h3,h4,wh,ph_0]
  | true =>
  cases iw with
  | false => rw [call_L 8 rfl (rfl : P.T f_q2 = some F_q2) (le_ok rfl)]; simp -implicitDefEqProofs [-toCells,-AV.one,-forget,F_q2,c_q2,Cfg.v,Cfg.d0,Cfg.d1,Cfg.d2,Cfg.oth,h1,h2,h3,h4,wh,ph_0]
  | true =>
   cases ir with
   | false => rw [call_L 8 rfl (rfl : P.T f_q2 = some F_q2) (le_ok rfl)]; simp -implicitDefEqProofs [-toCells,-AV.one,-forget,F_q2,c_q2,Cfg.v,Cfg.d0,Cfg.d1,Cfg.d2,Cfg.oth,h1,h2,h3,h4,wh,ph_0]
   | true =>
   rw [call_L 8 rfl (rfl : P.T f_q2 = some F_q2) (le_ok rfl)]; simp -implicitDefEqProofs [-toCells,-AV.one,-forget,F_q2,c_q2,Cfg.v,Cfg.d0,Cfg.d1,Cfg.d2,Cfg.oth,h1,h2,h3,h4,wh,ph_0]
 subst ph_0
 by_cases pp_0 : pp = 0
 case neg =>
  cases iq with
  | false => rw [call_L 8 rfl (rfl : P.T f_q2 = some F_q2) (le_ok rfl)]; simp -implicitDefEqProofs [-toCells,-AV.one,-forget,F_q2,c_q2,Cfg.v,Cfg.d0,Cfg.d1,Cfg.d2,Cfg.oth,h1,h2,h3,h4,wh,pp_0]
  | true =>
  cases iw with
  | false => rw [call_L 8 rfl (rfl : P.T f_q2 = some F_q2) (le_ok rfl)]; simp -implicitDefEqProofs [-toCells,-AV.one,-forget,F_q2,c_q2,Cfg.v,Cfg.d0,Cfg.d1,Cfg.d2,Cfg.oth,h1,h2,h3,h4,wh,pp_0]
  | true =>
   cases ir with
   | false => rw [call_L 8 rfl (rfl : P.T f_q2 = some F_q2) (le_ok rfl)]; simp -implicitDefEqProofs [-toCells,-AV.one,-forget,F_q2,c_q2,Cfg.v,Cfg.d0,Cfg.d1,Cfg.d2,Cfg.oth,h1,h2,h3,h4,wh,pp_0]
   | true =>
   rw [call_L 8 rfl (rfl : P.T f_q2 = some F_q2) (le_ok rfl)]; simp -implicitDefEqProofs [-toCells,-AV.one,-forget,F_q2,c_q2,Cfg.v,Cfg.d0,Cfg.d1,Cfg.d2,Cfg.oth,h1,h2,h3,h4,wh,pp_0]
 subst pp_0
 by_cases pb_0 : pb = 0
 case neg =>
  cases iq with
  | false => rw [call_L 8 rfl (rfl : P.T f_q2 = some F_q2) (le_ok rfl)]; simp -implicitDefEqProofs [-toCells,-AV.one,-forget,F_q2,c_q2,Cfg.v,Cfg.d0,Cfg.d1,Cfg.d2,Cfg.oth,h1,h2,h3,h4,wh,pb_0]
  | true =>
  cases iw with
  | false => rw [call_L 8 rfl (rfl : P.T f_q2 = some F_q2) (le_ok rfl)]; simp -implicitDefEqProofs [-toCells,-AV.one,-forget,F_q2,c_q2,Cfg.v,Cfg.d0,Cfg.d1,Cfg.d2,Cfg.oth,h1,h2,h3,h4,wh,pb_0]
  | true =>
   cases ir with
   | false => rw [call_L 8 rfl (rfl : P.T f_q2 = some F_q2) (le_ok rfl)]; simp -implicitDefEqProofs [-toCells,-AV.one,-forget,F_q2,c_q2,Cfg.v,Cfg.d0,Cfg.d1,Cfg.d2,Cfg.oth,h1,h2,h3,h4,wh,pb_0]
   | true =>
   rw [call_L 8 rfl (rfl : P.T f_q2 = some F_q2) (le_ok rfl)]; simp -implicitDefEqProofs [-toCells,-AV.one,-forget,F_q2,c_q2,Cfg.v,Cfg.d0,Cfg.d1,Cfg.d2,Cfg.oth,h1,h2,h3,h4,wh,pb_0]
 subst pb_0
 by_cases mr_0 : mr = 0
 case neg =>
  cases iq with
  | false => rw [call_L 8 rfl (rfl : P.T f_q2 = some F_q2) (le_ok rfl)]; simp -implicitDefEqProofs [-toCells,-AV.one,-forget,F_q2,c_q2,Cfg.v,Cfg.d0,Cfg.d1,Cfg.d2,Cfg.oth,h1,h2,h3,h4,wh,mr_0]
  | true =>
  cases iw with
  | false => rw [call_L 8 rfl (rfl : P.T f_q2 = some F_q2) (le_ok rfl)]; simp -implicitDefEqProofs [-toCells,-AV.one,-forget,F_q2,c_q2,Cfg.v,Cfg.d0,Cfg.d1,Cfg.d2,Cfg.oth,h1,h2,h3,h4,wh,mr_0]
  | true =>
   cases ir with
   | false => rw [call_L 8 rfl (rfl : P.T f_q2 = some F_q2) (le_ok rfl)]; simp -implicitDefEqProofs [-toCells,-AV.one,-forget,F_q2,c_q2,Cfg.v,Cfg.d0,Cfg.d1,Cfg.d2,Cfg.oth,h1,h2,h3,h4,wh,mr_0]
   | true =>
   rw [call_L 8 rfl (rfl : P.T f_q2 = some F_q2) (le_ok rfl)]; simp -implicitDefEqProofs [-toCells,-AV.one,-forget,F_q2,c_q2,Cfg.v,Cfg.d0,Cfg.d1,Cfg.d2,Cfg.oth,h1,h2,h3,h4,wh,mr_0]
 subst mr_0
 cases iq with
 | false => rw [call_L 8 rfl (rfl : P.T f_q2 = some F_q2) (le_ok rfl)]; simp -implicitDefEqProofs [-toCells,-AV.one,-forget,F_q2,c_q2,Cfg.v,Cfg.d0,Cfg.d1,Cfg.d2,Cfg.oth,h1,h2,h3,h4,wh]
 | true =>
  cases iw with
  | false => rw [call_L 8 rfl (rfl : P.T f_q2 = some F_q2) (le_ok rfl)]; simp -implicitDefEqProofs [-toCells,-AV.one,-forget,F_q2,c_q2,Cfg.v,Cfg.d0,Cfg.d1,Cfg.d2,Cfg.oth,h1,h2,h3,h4,wh]
  | true =>
  cases ir with
  | false => rw [call_L 8 rfl (rfl : P.T f_q2 = some F_q2) (le_ok rfl)]; simp -implicitDefEqProofs [-toCells,-AV.one,-forget,F_q2,c_q2,Cfg.v,Cfg.d0,Cfg.d1,Cfg.d2,Cfg.oth,h1,h2,h3,h4,wh]
  | true =>
   rw [call_L 8 rfl (rfl : P.T f_q2 = some F_q2) (le_ok rfl)]; simp -implicitDefEqProofs [-toCells,-AV.one,-forget,F_q2,c_q2,Cfg.v,Cfg.d0,Cfg.d1,Cfg.d2,Cfg.oth,h1,h2,h3,h4,wh]
theorem chk_d1_10 : callW P f_q2 [.agg (Cfg.v ⟨1,10,wi,re,pr,ph,pp,pb,mr,q⟩)] H = some (ai (cond (Cfg.d1 ⟨1,10,wi,re,pr,ph,pp,pb,mr,q⟩ 512) 0 1),H) := by
 have h1 := fun H => rIs12 q 1 20000 H
 have h2 := fun H => rIs12 wi 1 512 H
 have h3 := fun H => rIs12 re 1 1000 H
 have h4 : ∀ H,callW P f_q21 [ai 10] H = some (ai 1024,H) := fun H => rSize02 10 H
 have wh : IntKind.i64.wrap 512 = 512 := rfl
 simp only [Cfg.d1]
 generalize inD q 1 20000 = iq at *
 generalize inD wi 1 512 = iw at *
 generalize inD re 1 1000 = ir at *
 by_cases pr_0 : pr = 0
 case neg =>
  cases iq with
  | false => rw [call_L 8 rfl (rfl : P.T f_q2 = some F_q2) (le_ok rfl)]; simp -implicitDefEqProofs [-toCells,-AV.one,-forget,F_q2,c_q2,Cfg.v,Cfg.d0,Cfg.d1,Cfg.d2,Cfg.oth,h1,h2,h3,h4,wh,pr_0]
  | true =>
  cases iw with
  | false => rw [call_L 8 rfl (rfl : P.T f_q2 = some F_q2) (le_ok rfl)]; simp -implicitDefEqProofs [-toCells,-AV.one,-forget,F_q2,c_q2,Cfg.v,Cfg.d0,Cfg.d1,Cfg.d2,Cfg.oth,h1,h2,h3,h4,wh,pr_0]
  | true =>
   cases ir with
   | false => rw [call_L 8 rfl (rfl : P.T f_q2 = some F_q2) (le_ok rfl)]; simp -implicitDefEqProofs [-toCells,-AV.one,-forget,F_q2,c_q2,Cfg.v,Cfg.d0,Cfg.d1,Cfg.d2,Cfg.oth,h1,h2,h3,h4,wh,pr_0]
   | true =>
   rw [call_L 8 rfl (rfl : P.T f_q2 = some F_q2) (le_ok rfl)]; simp -implicitDefEqProofs [-toCells,-AV.one,-forget,F_q2,c_q2,Cfg.v,Cfg.d0,Cfg.d1,Cfg.d2,Cfg.oth,h1,h2,h3,h4,wh,pr_0]
 subst pr_0
 by_cases ph_0 : ph = 0
 case neg =>
  cases iq with
  | false => rw [call_L 8 rfl (rfl : P.T f_q2 = some F_q2) (le_ok rfl)]; simp -implicitDefEqProofs [-toCells,-AV.one,-forget,F_q2,c_q2,Cfg.v,Cfg.d0,Cfg.d1,Cfg.d2,Cfg.oth,h1,h2,h3,h4,wh,ph_0]
  | true =>
  cases iw with
  | false => rw [call_L 8 rfl (rfl : P.T f_q2 = some F_q2) (le_ok rfl)]; simp -implicitDefEqProofs [-toCells,-AV.one,-forget,F_q2,c_q2,Cfg.v,Cfg.d0,Cfg.d1,Cfg.d2,Cfg.oth,h1,h2,h3,h4,wh,ph_0]
  | true =>
   cases ir with
   | false => rw [call_L 8 rfl (rfl : P.T f_q2 = some F_q2) (le_ok rfl)]; simp -implicitDefEqProofs [-toCells,-AV.one,-forget,F_q2,c_q2,Cfg.v,Cfg.d0,Cfg.d1,Cfg.d2,Cfg.oth,h1,h2,h3,h4,wh,ph_0]
   | true =>
   rw [call_L 8 rfl (rfl : P.T f_q2 = some F_q2) (le_ok rfl)]; simp -implicitDefEqProofs [-toCells,-AV.one,-forget,F_q2,c_q2,Cfg.v,Cfg.d0,Cfg.d1,Cfg.d2,Cfg.oth,h1,h2,h3,h4,wh,ph_0]
 subst ph_0
 by_cases pp_0 : pp = 0
 case neg =>
  cases iq with
  | false => rw [call_L 8 rfl (rfl : P.T f_q2 = some F_q2) (le_ok rfl)]; simp -implicitDefEqProofs [-toCells,-AV.one,-forget,F_q2,c_q2,Cfg.v,Cfg.d0,Cfg.d1,Cfg.d2,Cfg.oth,h1,h2,h3,h4,wh,pp_0]
  | true =>
  cases iw with
  | false => rw [call_L 8 rfl (rfl : P.T f_q2 = some F_q2) (le_ok rfl)]; simp -implicitDefEqProofs [-toCells,-AV.one,-forget,F_q2,c_q2,Cfg.v,Cfg.d0,Cfg.d1,Cfg.d2,Cfg.oth,h1,h2,h3,h4,wh,pp_0]
  | true =>
   cases ir with
   | false => rw [call_L 8 rfl (rfl : P.T f_q2 = some F_q2) (le_ok rfl)]; simp -implicitDefEqProofs [-toCells,-AV.one,-forget,F_q2,c_q2,Cfg.v,Cfg.d0,Cfg.d1,Cfg.d2,Cfg.oth,h1,h2,h3,h4,wh,pp_0]
   | true =>
   rw [call_L 8 rfl (rfl : P.T f_q2 = some F_q2) (le_ok rfl)]; simp -implicitDefEqProofs [-toCells,-AV.one,-forget,F_q2,c_q2,Cfg.v,Cfg.d0,Cfg.d1,Cfg.d2,Cfg.oth,h1,h2,h3,h4,wh,pp_0]
 subst pp_0
 by_cases pb_0 : pb = 0
 case neg =>
  cases iq with
  | false => rw [call_L 8 rfl (rfl : P.T f_q2 = some F_q2) (le_ok rfl)]; simp -implicitDefEqProofs [-toCells,-AV.one,-forget,F_q2,c_q2,Cfg.v,Cfg.d0,Cfg.d1,Cfg.d2,Cfg.oth,h1,h2,h3,h4,wh,pb_0]
  | true =>
  cases iw with
  | false => rw [call_L 8 rfl (rfl : P.T f_q2 = some F_q2) (le_ok rfl)]; simp -implicitDefEqProofs [-toCells,-AV.one,-forget,F_q2,c_q2,Cfg.v,Cfg.d0,Cfg.d1,Cfg.d2,Cfg.oth,h1,h2,h3,h4,wh,pb_0]
  | true =>
   cases ir with
   | false => rw [call_L 8 rfl (rfl : P.T f_q2 = some F_q2) (le_ok rfl)]; simp -implicitDefEqProofs [-toCells,-AV.one,-forget,F_q2,c_q2,Cfg.v,Cfg.d0,Cfg.d1,Cfg.d2,Cfg.oth,h1,h2,h3,h4,wh,pb_0]
   | true =>
   rw [call_L 8 rfl (rfl : P.T f_q2 = some F_q2) (le_ok rfl)]; simp -implicitDefEqProofs [-toCells,-AV.one,-forget,F_q2,c_q2,Cfg.v,Cfg.d0,Cfg.d1,Cfg.d2,Cfg.oth,h1,h2,h3,h4,wh,pb_0]
 subst pb_0
 by_cases mr_0 : mr = 0
 case neg =>
  cases iq with
  | false => rw [call_L 8 rfl (rfl : P.T f_q2 = some F_q2) (le_ok rfl)]; simp -implicitDefEqProofs [-toCells,-AV.one,-forget,F_q2,c_q2,Cfg.v,Cfg.d0,Cfg.d1,Cfg.d2,Cfg.oth,h1,h2,h3,h4,wh,mr_0]
  | true =>
  cases iw with
  | false => rw [call_L 8 rfl (rfl : P.T f_q2 = some F_q2) (le_ok rfl)]; simp -implicitDefEqProofs [-toCells,-AV.one,-forget,F_q2,c_q2,Cfg.v,Cfg.d0,Cfg.d1,Cfg.d2,Cfg.oth,h1,h2,h3,h4,wh,mr_0]
  | true =>
   cases ir with
   | false => rw [call_L 8 rfl (rfl : P.T f_q2 = some F_q2) (le_ok rfl)]; simp -implicitDefEqProofs [-toCells,-AV.one,-forget,F_q2,c_q2,Cfg.v,Cfg.d0,Cfg.d1,Cfg.d2,Cfg.oth,h1,h2,h3,h4,wh,mr_0]
   | true =>
   rw [call_L 8 rfl (rfl : P.T f_q2 = some F_q2) (le_ok rfl)]; simp -implicitDefEqProofs [-toCells,-AV.one,-forget,F_q2,c_q2,Cfg.v,Cfg.d0,Cfg.d1,Cfg.d2,Cfg.oth,h1,h2,h3,h4,wh,mr_0]
 subst mr_0
 cases iq with
 | false => rw [call_L 8 rfl (rfl : P.T f_q2 = some F_q2) (le_ok rfl)]; simp -implicitDefEqProofs [-toCells,-AV.one,-forget,F_q2,c_q2,Cfg.v,Cfg.d0,Cfg.d1,Cfg.d2,Cfg.oth,h1,h2,h3,h4,wh]
 | true =>
  cases iw with
  | false => rw [call_L 8 rfl (rfl : P.T f_q2 = some F_q2) (le_ok rfl)]; simp -implicitDefEqProofs [-toCells,-AV.one,-forget,F_q2,c_q2,Cfg.v,Cfg.d0,Cfg.d1,Cfg.d2,Cfg.oth,h1,h2,h3,h4,wh]
  | true =>
  cases ir with
  | false => rw [call_L 8 rfl (rfl : P.T f_q2 = some F_q2) (le_ok rfl)]; simp -implicitDefEqProofs [-toCells,-AV.one,-forget,F_q2,c_q2,Cfg.v,Cfg.d0,Cfg.d1,Cfg.d2,Cfg.oth,h1,h2,h3,h4,wh]
  | true =>
   rw [call_L 8 rfl (rfl : P.T f_q2 = some F_q2) (le_ok rfl)]; simp -implicitDefEqProofs [-toCells,-AV.one,-forget,F_q2,c_q2,Cfg.v,Cfg.d0,Cfg.d1,Cfg.d2,Cfg.oth,h1,h2,h3,h4,wh]
theorem chk_d2_10 : callW P f_q2 [.agg (Cfg.v ⟨2,10,wi,re,pr,ph,pp,pb,mr,q⟩)] H = some (ai (cond (Cfg.d2 ⟨2,10,wi,re,pr,ph,pp,pb,mr,q⟩ 512) 0 1),H) := by
 have h1 := fun H => rIs12 q 1 20000 H
 have h2 := fun H => rIs12 wi 1 512 H
 have h3 := fun H => rIs12 re 1 1000 H
 have h4 : ∀ H,callW P f_q21 [ai 10] H = some (ai 1024,H) := fun H => rSize02 10 H
 have wh : IntKind.i64.wrap 512 = 512 := rfl
 have g_pr := fun H => rIs12 pr 1 1000 H
 have g_ph := fun H => rIs12 ph 0 1000 H
 have g_pp := fun H => rIs12 pp 1 1000 H
 have g_pb := fun H => rIs12 pb 1 20000 H
 have g_mr := fun H => rIs12 mr 1 32 H
 simp only [Cfg.d2]
 generalize inD q 1 20000 = iq at *
 generalize inD wi 1 512 = iw at *
 generalize inD re 1 1000 = ir at *
 generalize inD pr 1 1000 = i_pr at *
 generalize inD ph 0 1000 = i_ph at *
 generalize inD pp 1 1000 = i_pp at *
 generalize inD pb 1 20000 = i_pb at *
 generalize inD mr 1 32 = i_mr at *
 cases iq with
 | false => rw [call_L 8 rfl (rfl : P.T f_q2 = some F_q2) (le_ok rfl)]; simp -implicitDefEqProofs [-toCells,-AV.one,-forget,F_q2,c_q2,Cfg.v,Cfg.d0,Cfg.d1,Cfg.d2,Cfg.oth,h1,h2,h3,h4,wh,g_pr,g_ph,g_pp,g_pb,g_mr]
 | true =>
  cases iw with
  | false => rw [call_L 8 rfl (rfl : P.T f_q2 = some F_q2) (le_ok rfl)]; simp -implicitDefEqProofs [-toCells,-AV.one,-forget,F_q2,c_q2,Cfg.v,Cfg.d0,Cfg.d1,Cfg.d2,Cfg.oth,h1,h2,h3,h4,wh,g_pr,g_ph,g_pp,g_pb,g_mr]
  | true =>
  cases ir with
  | false => rw [call_L 8 rfl (rfl : P.T f_q2 = some F_q2) (le_ok rfl)]; simp -implicitDefEqProofs [-toCells,-AV.one,-forget,F_q2,c_q2,Cfg.v,Cfg.d0,Cfg.d1,Cfg.d2,Cfg.oth,h1,h2,h3,h4,wh,g_pr,g_ph,g_pp,g_pb,g_mr]
  | true =>
   cases i_pr with
   | false => rw [call_L 8 rfl (rfl : P.T f_q2 = some F_q2) (le_ok rfl)]; simp -implicitDefEqProofs [-toCells,-AV.one,-forget,F_q2,c_q2,Cfg.v,Cfg.d0,Cfg.d1,Cfg.d2,Cfg.oth,h1,h2,h3,h4,wh,g_pr,g_ph,g_pp,g_pb,g_mr]
   | true =>
   cases i_ph with
   | false => rw [call_L 8 rfl (rfl : P.T f_q2 = some F_q2) (le_ok rfl)]; simp -implicitDefEqProofs [-toCells,-AV.one,-forget,F_q2,c_q2,Cfg.v,Cfg.d0,Cfg.d1,Cfg.d2,Cfg.oth,h1,h2,h3,h4,wh,g_pr,g_ph,g_pp,g_pb,g_mr]
   | true =>
    cases i_pp with
    | false => rw [call_L 8 rfl (rfl : P.T f_q2 = some F_q2) (le_ok rfl)]; simp -implicitDefEqProofs [-toCells,-AV.one,-forget,F_q2,c_q2,Cfg.v,Cfg.d0,Cfg.d1,Cfg.d2,Cfg.oth,h1,h2,h3,h4,wh,g_pr,g_ph,g_pp,g_pb,g_mr]
    | true =>
    cases i_pb with
    | false => rw [call_L 8 rfl (rfl : P.T f_q2 = some F_q2) (le_ok rfl)]; simp -implicitDefEqProofs [-toCells,-AV.one,-forget,F_q2,c_q2,Cfg.v,Cfg.d0,Cfg.d1,Cfg.d2,Cfg.oth,h1,h2,h3,h4,wh,g_pr,g_ph,g_pp,g_pb,g_mr]
    | true =>
     cases i_mr with
     | false => rw [call_L 8 rfl (rfl : P.T f_q2 = some F_q2) (le_ok rfl)]; simp -implicitDefEqProofs [-toCells,-AV.one,-forget,F_q2,c_q2,Cfg.v,Cfg.d0,Cfg.d1,Cfg.d2,Cfg.oth,h1,h2,h3,h4,wh,g_pr,g_ph,g_pp,g_pb,g_mr]
     | true =>
     rw [call_L 8 rfl (rfl : P.T f_q2 = some F_q2) (le_ok rfl)]; simp -implicitDefEqProofs [-toCells,-AV.one,-forget,F_q2,c_q2,Cfg.v,Cfg.d0,Cfg.d1,Cfg.d2,Cfg.oth,h1,h2,h3,h4,wh,g_pr,g_ph,g_pp,g_pb,g_mr]
theorem chk_d2_16 : callW P f_q2 [.agg (Cfg.v ⟨2,16,wi,re,pr,ph,pp,pb,mr,q⟩)] H = some (ai (cond (Cfg.d2 ⟨2,16,wi,re,pr,ph,pp,pb,mr,q⟩ 32768) 0 1),H) := by
 have h1 := fun H => rIs12 q 1 20000 H
 have h2 := fun H => rIs12 wi 1 32768 H
 have h3 := fun H => rIs12 re 1 1000 H
 have h4 : ∀ H,callW P f_q21 [ai 16] H = some (ai 65536,H) := fun H => rSize02 16 H
 have wh : IntKind.i64.wrap 32768 = 32768 := rfl
 have g_pr := fun H => rIs12 pr 1 1000 H
 have g_ph := fun H => rIs12 ph 0 1000 H
 have g_pp := fun H => rIs12 pp 1 1000 H
 have g_pb := fun H => rIs12 pb 1 20000 H
 have g_mr := fun H => rIs12 mr 1 32 H
 simp only [Cfg.d2]
 generalize inD q 1 20000 = iq at *
 generalize inD wi 1 32768 = iw at *
 generalize inD re 1 1000 = ir at *
 generalize inD pr 1 1000 = i_pr at *
 generalize inD ph 0 1000 = i_ph at *
 generalize inD pp 1 1000 = i_pp at *
 generalize inD pb 1 20000 = i_pb at *
 generalize inD mr 1 32 = i_mr at *
 cases iq with
 | false => rw [call_L 8 rfl (rfl : P.T f_q2 = some F_q2) (le_ok rfl)]; simp -implicitDefEqProofs [-toCells,-AV.one,-forget,F_q2,c_q2,Cfg.v,Cfg.d0,Cfg.d1,Cfg.d2,Cfg.oth,h1,h2,h3,h4,wh,g_pr,g_ph,g_pp,g_pb,g_mr]
 | true =>
  cases iw with
  | false => rw [call_L 8 rfl (rfl : P.T f_q2 = some F_q2) (le_ok rfl)]; simp -implicitDefEqProofs [-toCells,-AV.one,-forget,F_q2,c_q2,Cfg.v,Cfg.d0,Cfg.d1,Cfg.d2,Cfg.oth,h1,h2,h3,h4,wh,g_pr,g_ph,g_pp,g_pb,g_mr]
  | true =>
  cases ir with
  | false => rw [call_L 8 rfl (rfl : P.T f_q2 = some F_q2) (le_ok rfl)]; simp -implicitDefEqProofs [-toCells,-AV.one,-forget,F_q2,c_q2,Cfg.v,Cfg.d0,Cfg.d1,Cfg.d2,Cfg.oth,h1,h2,h3,h4,wh,g_pr,g_ph,g_pp,g_pb,g_mr]
  | true =>
   cases i_pr with
   | false => rw [call_L 8 rfl (rfl : P.T f_q2 = some F_q2) (le_ok rfl)]; simp -implicitDefEqProofs [-toCells,-AV.one,-forget,F_q2,c_q2,Cfg.v,Cfg.d0,Cfg.d1,Cfg.d2,Cfg.oth,h1,h2,h3,h4,wh,g_pr,g_ph,g_pp,g_pb,g_mr]
   | true =>
   cases i_ph with
   | false => rw [call_L 8 rfl (rfl : P.T f_q2 = some F_q2) (le_ok rfl)]; simp -implicitDefEqProofs [-toCells,-AV.one,-forget,F_q2,c_q2,Cfg.v,Cfg.d0,Cfg.d1,Cfg.d2,Cfg.oth,h1,h2,h3,h4,wh,g_pr,g_ph,g_pp,g_pb,g_mr]
   | true =>
    cases i_pp with
    | false => rw [call_L 8 rfl (rfl : P.T f_q2 = some F_q2) (le_ok rfl)]; simp -implicitDefEqProofs [-toCells,-AV.one,-forget,F_q2,c_q2,Cfg.v,Cfg.d0,Cfg.d1,Cfg.d2,Cfg.oth,h1,h2,h3,h4,wh,g_pr,g_ph,g_pp,g_pb,g_mr]
    | true =>
    cases i_pb with
    | false => rw [call_L 8 rfl (rfl : P.T f_q2 = some F_q2) (le_ok rfl)]; simp -implicitDefEqProofs [-toCells,-AV.one,-forget,F_q2,c_q2,Cfg.v,Cfg.d0,Cfg.d1,Cfg.d2,Cfg.oth,h1,h2,h3,h4,wh,g_pr,g_ph,g_pp,g_pb,g_mr]
    | true =>
     cases i_mr with
     | false => rw [call_L 8 rfl (rfl : P.T f_q2 = some F_q2) (le_ok rfl)]; simp -implicitDefEqProofs [-toCells,-AV.one,-forget,F_q2,c_q2,Cfg.v,Cfg.d0,Cfg.d1,Cfg.d2,Cfg.oth,h1,h2,h3,h4,wh,g_pr,g_ph,g_pp,g_pb,g_mr]
     | true =>
     rw [call_L 8 rfl (rfl : P.T f_q2 = some F_q2) (le_ok rfl)]; simp -implicitDefEqProofs [-toCells,-AV.one,-forget,F_q2,c_q2,Cfg.v,Cfg.d0,Cfg.d1,Cfg.d2,Cfg.oth,h1,h2,h3,h4,wh,g_pr,g_ph,g_pp,g_pb,g_mr]
theorem chk_dx_1 (n1 : ¬ bi = 5) (n2 : ¬ bi = 10) : callW P f_q2 [.agg (Cfg.v ⟨1,bi,wi,re,pr,ph,pp,pb,mr,q⟩)] H = some (ai 1,H) := by
 have h1 := fun H => rIs12 q 1 20000 H
 have h2 := fun H => rSize02 bi H
 obtain ⟨s,hs⟩ : ∃ t,sz2 bi = t := ⟨_,rfl⟩
 rw [hs] at h2
 obtain ⟨s2,hs2⟩ : ∃ t : Int,IntKind.i64.wrap ((s : Int).tdiv 2) = t := ⟨_,rfl⟩
 clear hs
 generalize inD q 1 20000 = iq at *
 by_cases pr_0 : pr = 0
 case neg =>
  cases iq with
  | false => rw [call_L 8 rfl (rfl : P.T f_q2 = some F_q2) (le_ok rfl)]; simp -implicitDefEqProofs [-toCells,-AV.one,-forget,F_q2,c_q2,Cfg.v,Cfg.d0,Cfg.d1,Cfg.d2,Cfg.oth,h1,h2,hs2,n1,n2,pr_0]
  | true =>
  rw [call_L 8 rfl (rfl : P.T f_q2 = some F_q2) (le_ok rfl)]; simp -implicitDefEqProofs [-toCells,-AV.one,-forget,F_q2,c_q2,Cfg.v,Cfg.d0,Cfg.d1,Cfg.d2,Cfg.oth,h1,h2,hs2,n1,n2,pr_0]
 subst pr_0
 by_cases ph_0 : ph = 0
 case neg =>
  cases iq with
  | false => rw [call_L 8 rfl (rfl : P.T f_q2 = some F_q2) (le_ok rfl)]; simp -implicitDefEqProofs [-toCells,-AV.one,-forget,F_q2,c_q2,Cfg.v,Cfg.d0,Cfg.d1,Cfg.d2,Cfg.oth,h1,h2,hs2,n1,n2,ph_0]
  | true =>
  rw [call_L 8 rfl (rfl : P.T f_q2 = some F_q2) (le_ok rfl)]; simp -implicitDefEqProofs [-toCells,-AV.one,-forget,F_q2,c_q2,Cfg.v,Cfg.d0,Cfg.d1,Cfg.d2,Cfg.oth,h1,h2,hs2,n1,n2,ph_0]
 subst ph_0
 by_cases pp_0 : pp = 0
 case neg =>
  cases iq with
  | false => rw [call_L 8 rfl (rfl : P.T f_q2 = some F_q2) (le_ok rfl)]; simp -implicitDefEqProofs [-toCells,-AV.one,-forget,F_q2,c_q2,Cfg.v,Cfg.d0,Cfg.d1,Cfg.d2,Cfg.oth,h1,h2,hs2,n1,n2,pp_0]
  | true =>
  rw [call_L 8 rfl (rfl : P.T f_q2 = some F_q2) (le_ok rfl)]; simp -implicitDefEqProofs [-toCells,-AV.one,-forget,F_q2,c_q2,Cfg.v,Cfg.d0,Cfg.d1,Cfg.d2,Cfg.oth,h1,h2,hs2,n1,n2,pp_0]
 subst pp_0
 by_cases pb_0 : pb = 0
 case neg =>
  cases iq with
  | false => rw [call_L 8 rfl (rfl : P.T f_q2 = some F_q2) (le_ok rfl)]; simp -implicitDefEqProofs [-toCells,-AV.one,-forget,F_q2,c_q2,Cfg.v,Cfg.d0,Cfg.d1,Cfg.d2,Cfg.oth,h1,h2,hs2,n1,n2,pb_0]
  | true =>
  rw [call_L 8 rfl (rfl : P.T f_q2 = some F_q2) (le_ok rfl)]; simp -implicitDefEqProofs [-toCells,-AV.one,-forget,F_q2,c_q2,Cfg.v,Cfg.d0,Cfg.d1,Cfg.d2,Cfg.oth,h1,h2,hs2,n1,n2,pb_0]
 subst pb_0
 by_cases mr_0 : mr = 0
 case neg =>
  cases iq with
  | false => rw [call_L 8 rfl (rfl : P.T f_q2 = some F_q2) (le_ok rfl)]; simp -implicitDefEqProofs [-toCells,-AV.one,-forget,F_q2,c_q2,Cfg.v,Cfg.d0,Cfg.d1,Cfg.d2,Cfg.oth,h1,h2,hs2,n1,n2,mr_0]
  | true =>
  rw [call_L 8 rfl (rfl : P.T f_q2 = some F_q2) (le_ok rfl)]; simp -implicitDefEqProofs [-toCells,-AV.one,-forget,F_q2,c_q2,Cfg.v,Cfg.d0,Cfg.d1,Cfg.d2,Cfg.oth,h1,h2,hs2,n1,n2,mr_0]
 subst mr_0
 cases iq with
 | false => rw [call_L 8 rfl (rfl : P.T f_q2 = some F_q2) (le_ok rfl)]; simp -implicitDefEqProofs [-toCells,-AV.one,-forget,F_q2,c_q2,Cfg.v,Cfg.d0,Cfg.d1,Cfg.d2,Cfg.oth,h1,h2,hs2,n1,n2]
 | true =>
  rw [call_L 8 rfl (rfl : P.T f_q2 = some F_q2) (le_ok rfl)]; simp -implicitDefEqProofs [-toCells,-AV.one,-forget,F_q2,c_q2,Cfg.v,Cfg.d0,Cfg.d1,Cfg.d2,Cfg.oth,h1,h2,hs2,n1,n2]
theorem chk_dx_2 (n1 : ¬ bi = 10) (n2 : ¬ bi = 16) : callW P f_q2 [.agg (Cfg.v ⟨2,bi,wi,re,pr,ph,pp,pb,mr,q⟩)] H = some (ai 1,H) := by
 have h1 := fun H => rIs12 q 1 20000 H
 have h2 := fun H => rSize02 bi H
 obtain ⟨s,hs⟩ : ∃ t,sz2 bi = t := ⟨_,rfl⟩
 rw [hs] at h2
 obtain ⟨s2,hs2⟩ : ∃ t : Int,IntKind.i64.wrap ((s : Int).tdiv 2) = t := ⟨_,rfl⟩
 clear hs
 generalize inD q 1 20000 = iq at *
 cases iq with
 | false => rw [call_L 8 rfl (rfl : P.T f_q2 = some F_q2) (le_ok rfl)]; simp -implicitDefEqProofs [-toCells,-AV.one,-forget,F_q2,c_q2,Cfg.v,Cfg.d0,Cfg.d1,Cfg.d2,Cfg.oth,h1,h2,hs2,n1,n2]
 | true =>
  rw [call_L 8 rfl (rfl : P.T f_q2 = some F_q2) (le_ok rfl)]; simp -implicitDefEqProofs [-toCells,-AV.one,-forget,F_q2,c_q2,Cfg.v,Cfg.d0,Cfg.d1,Cfg.d2,Cfg.oth,h1,h2,hs2,n1,n2]
end
end Go.A.V.S

namespace Go.A.V.S
open Go Go.A
theorem all1 {α : Type} (f : α → Bool) (a : α) : [a].all f = f a := by simp
theorem chk_c0 {bi wi re pr ph pp pb mr q : Int} : Cfg.chk ⟨0,bi,wi,re,pr,ph,pp,pb,mr,q⟩ = cond (Cfg.d0 ⟨0,bi,wi,re,pr,ph,pp,pb,mr,q⟩) 0 1 := by
 have h : (Cfg.tm ⟨0,bi,wi,re,pr,ph,pp,pb,mr,q⟩ && [(q,((1 : Int),(20000 : Int)))].all inn) = Cfg.d0 ⟨0,bi,wi,re,pr,ph,pp,pb,mr,q⟩ := by
  rw [all1,← inD_inn,Bool.eq_iff_iff]
  simp only [Cfg.tm,Cfg.d0,Cfg.oth,Bool.and_eq_true,decide_eq_true_eq,List.cons.injEq,and_true,true_and]
  constructor
  ·rintro ⟨⟨h1,h2,h3,h4,h5,h6,h7,h8⟩,h9⟩; exact ⟨h9,h1,h2,h3,h4,h5,h6,h7,h8⟩
  ·rintro ⟨h9,h1,h2,h3,h4,h5,h6,h7,h8⟩; exact ⟨⟨h1,h2,h3,h4,h5,h6,h7,h8⟩,h9⟩
 rw [Cfg.chk,if_pos (.inl rfl)]
 simp only [if_true,h]
 cases Cfg.d0 ⟨0,bi,wi,re,pr,ph,pp,pb,mr,q⟩ <;> rfl
theorem um_plain {bi wi re pr ph pp pb mr q : Int} : Cfg.plainUM ⟨1,bi,wi,re,pr,ph,pp,pb,mr,q⟩ = Cfg.oth ⟨1,bi,wi,re,pr,ph,pp,pb,mr,q⟩ := by
 rw [Bool.eq_iff_iff]
 simp only [Cfg.plainUM,Cfg.oth,Bool.and_eq_true,decide_eq_true_eq,List.cons.injEq,and_true,true_and]
theorem chk_c1 {bi wi re pr ph pp pb mr q : Int} (hb : bi = 5 ∨ bi = 10) : Cfg.chk ⟨1,bi,wi,re,pr,ph,pp,pb,mr,q⟩ = cond (Cfg.d1 ⟨1,bi,wi,re,pr,ph,pp,pb,mr,q⟩ (if bi = 5 then 16 else 512)) 0 1 := by
 have h : (Cfg.um ⟨1,bi,wi,re,pr,ph,pp,pb,mr,q⟩ && [(q,((1 : Int),(20000 : Int)))].all inn) = Cfg.d1 ⟨1,bi,wi,re,pr,ph,pp,pb,mr,q⟩ (if bi = 5 then 16 else 512) := by
  rw [Cfg.um,um_plain,decide_eq_true hb,Bool.true_and,all1,Cfg.d1]
  simp only [List.all_cons,List.all_nil,Bool.and_true,inD_inn]
  cases inn (q,((1 : Int),(20000 : Int))) <;> cases inn (wi,((1 : Int),if bi = 5 then (16 : Int) else 512)) <;> cases inn (re,((1 : Int),(1000 : Int))) <;> cases Cfg.oth ⟨1,bi,wi,re,pr,ph,pp,pb,mr,q⟩ <;> rfl
 rw [Cfg.chk,if_pos (.inr (.inl rfl))]
 simp only [show ¬ (1 : Int) = 0 by decide,if_false,if_true,h]
 cases Cfg.d1 ⟨1,bi,wi,re,pr,ph,pp,pb,mr,q⟩ (if bi = 5 then 16 else 512) <;> rfl
theorem chk_c2 {bi wi re pr ph pp pb mr q : Int} (hb : bi = 10 ∨ bi = 16) : Cfg.chk ⟨2,bi,wi,re,pr,ph,pp,pb,mr,q⟩ = cond (Cfg.d2 ⟨2,bi,wi,re,pr,ph,pp,pb,mr,q⟩ (if bi = 10 then 512 else 32768)) 0 1 := by
 have h : (Cfg.am ⟨2,bi,wi,re,pr,ph,pp,pb,mr,q⟩ && [(q,((1 : Int),(20000 : Int)))].all inn) = Cfg.d2 ⟨2,bi,wi,re,pr,ph,pp,pb,mr,q⟩ (if bi = 10 then 512 else 32768) := by
  rw [Cfg.am,decide_eq_true hb,Bool.true_and,all1,Cfg.d2]
  simp only [List.all_cons,List.all_nil,Bool.and_true,inD_inn]
  rw [Bool.and_comm]
 rw [Cfg.chk,if_pos (.inr (.inr rfl))]
 simp only [show ¬ (2 : Int) = 0 by decide,show ¬ (2 : Int) = 1 by decide,if_false,h]
 cases Cfg.d2 ⟨2,bi,wi,re,pr,ph,pp,pb,mr,q⟩ (if bi = 10 then 512 else 32768) <;> rfl
theorem chk_cx {mo bi wi re pr ph pp pb mr q : Int} (h : (mo = 1 ∧ ¬ (bi = 5 ∨ bi = 10)) ∨ (mo = 2 ∧ ¬ (bi = 10 ∨ bi = 16))) : Cfg.chk ⟨mo,bi,wi,re,pr,ph,pp,pb,mr,q⟩ = 1 := by
 rcases h with ⟨rfl,h⟩ | ⟨rfl,h⟩
 ·rw [Cfg.chk,if_pos (.inr (.inl rfl))]
  simp only [show ¬ (1 : Int) = 0 by decide,if_false,if_true]
  rw [Cfg.um,decide_eq_false h]; rfl
 ·rw [Cfg.chk,if_pos (.inr (.inr rfl))]
  simp only [show ¬ (2 : Int) = 0 by decide,show ¬ (2 : Int) = 1 by decide,if_false]
  rw [Cfg.am,decide_eq_false h]; rfl
end Go.A.V.S

namespace Go.A.V.S
open Go Go.A
theorem cond_i (b : Bool) : ((cond b 0 1 : Nat) : Int) = cond b 0 1 := by cases b <;> rfl
theorem rCheck (c : Cfg) (H : Heap) : callW P f_q2 [.agg c.v] H = some (ai c.chk,H) := by
 obtain ⟨mo,bi,wi,re,pr,ph,pp,pb,mr,q⟩ := c
 by_cases m0 : mo = 0
 ·subst m0
  rw [chk_c0,cond_i]; exact chk_d0
 by_cases m1 : mo = 1
 ·subst m1
  by_cases h5 : bi = 5
  ·subst h5
   rw [chk_c1 (.inl rfl),cond_i]; exact chk_d1_5
  by_cases h10 : bi = 10
  ·subst h10
   rw [chk_c1 (.inr rfl),cond_i]; exact chk_d1_10
  rw [chk_cx (.inl ⟨rfl,fun h => h.elim h5 h10⟩)]
  exact chk_dx_1 h5 h10
 by_cases m2 : mo = 2
 ·subst m2
  by_cases h5 : bi = 10
  ·subst h5
   rw [chk_c2 (.inl rfl),cond_i]; exact chk_d2_10
  by_cases h10 : bi = 16
  ·subst h10
   rw [chk_c2 (.inr rfl),cond_i]; exact chk_d2_16
  rw [chk_cx (.inr ⟨rfl,fun h => h.elim h5 h10⟩)]
  exact chk_dx_2 h5 h10
 rw [show Cfg.chk ⟨mo,bi,wi,re,pr,ph,pp,pb,mr,q⟩ = 9 by rw [Cfg.chk,if_neg (by simp only; omega)]]
 have h1 := fun H => rIs12 q 1 20000 H
 have h2 := fun H => rSize02 bi H
 obtain ⟨s,hs⟩ : ∃ t,sz2 bi = t := ⟨_,rfl⟩
 rw [hs] at h2
 generalize inD q 1 20000 = iq at *
 clear hs
 rw [call_L 8 rfl (rfl : P.T f_q2 = some F_q2) (le_ok rfl)]; simp -implicitDefEqProofs [-toCells,-AV.one,-forget,F_q2,c_q2,Cfg.v,h1,h2,m0,m1,m2]
end Go.A.V.S
