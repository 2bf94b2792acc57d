/- status: a miss. -/
import Derived.Test.YtnmobjhmohcjfaaXD
set_option linter.unusedSimpArgs false
set_option linter.unusedVariables false
set_option linter.unnecessarySimpa false
namespace Go.A.V.S
open Go Go.A
set_option linter.unusedSimpArgs false
set_option linter.unusedVariables false
structure Ms where
 sn : Int
 part : Bool
 fr : Int
 to : Int
 deriving DecidableEq
def Ms.v (m : Ms) : List AV := [ai m.sn,ab m.part,ai m.fr,ai m.to]
def missOk (m : Ms) (q r : Nat) : Bool :=
 decide (0 ≤ m.sn ∧ m.sn < q) && decide (0 ≤ m.fr) && decide (0 ≤ m.to) && decide (m.to < r) && (if m.part = true then (if m.to = 0 then decide (m.fr < r) else decide (m.fr < m.to)) else decide (m.fr = 0) && decide (m.to = 0))
theorem eqAll_b (b : Bool) (ks : List BK) (xs ys : List AV) : eqAll (.b :: ks) (ab b :: xs) (ab b :: ys) = eqAll ks xs ys := by
 simp [eqAll,eqScalar]
theorem st_isWidth (w : Int) (H : Heap) : callW P f_q45 [ai w] H = some (ab (decide (w = 10 ∨ w = 16)),H) := by
 by_cases h : w = 10
 ·rw [call_L 4 rfl (rfl : P.T f_q45 = some F_q45) (le_ok rfl)]; simp -implicitDefEqProofs (disch := first | omega | (simp; done) | fail) [-toCells,-AV.one,-forget,F_q45,c_q45,cmp_ilt,cmp_ilf,cmp_ile,cmp_ilg,cmp_ine,cmp_ieq,cmp_nlt,cmp_nlf,cmp_nle,cmp_nne,cmp_neq,wrap_i64,wrap_u64,wrap_u8,h]
 ·by_cases h2 : w = 16
  ·rw [call_L 4 rfl (rfl : P.T f_q45 = some F_q45) (le_ok rfl)]; simp -implicitDefEqProofs (disch := first | omega | (simp; done) | fail) [-toCells,-AV.one,-forget,F_q45,c_q45,cmp_ilt,cmp_ilf,cmp_ile,cmp_ilg,cmp_ine,cmp_ieq,cmp_nlt,cmp_nlf,cmp_nle,cmp_nne,cmp_neq,wrap_i64,wrap_u64,wrap_u8,h,h2]
  ·rw [call_L 4 rfl (rfl : P.T f_q45 = some F_q45) (le_ok rfl)]; simp -implicitDefEqProofs (disch := first | omega | (simp; done) | fail) [-toCells,-AV.one,-forget,F_q45,c_q45,cmp_ilt,cmp_ilf,cmp_ile,cmp_ilg,cmp_ine,cmp_ieq,cmp_nlt,cmp_nlf,cmp_nle,cmp_nne,cmp_neq,wrap_i64,wrap_u64,wrap_u8,h,h2]
theorem st_ow10 (H : Heap) : callW P f_q59 [ai 10] H = some (ai 15,H) := by
 rw [call_L 3 rfl (rfl : P.T f_q59 = some F_q59) (le_ok rfl)]; simp -implicitDefEqProofs (disch := first | omega | (simp; done) | fail) [-toCells,-AV.one,-forget,F_q59,c_q59,cmp_ilt,cmp_ilf,cmp_ile,cmp_ilg,cmp_ine,cmp_ieq,cmp_nlt,cmp_nlf,cmp_nle,cmp_nne,cmp_neq,wrap_i64,wrap_u64,wrap_u8]
theorem st_ow16 (H : Heap) : callW P f_q59 [ai 16] H = some (ai 16,H) := by
 rw [call_L 3 rfl (rfl : P.T f_q59 = some F_q59) (le_ok rfl)]; simp -implicitDefEqProofs (disch := first | omega | (simp; done) | fail) [-toCells,-AV.one,-forget,F_q59,c_q59,cmp_ilt,cmp_ilf,cmp_ile,cmp_ilg,cmp_ine,cmp_ieq,cmp_nlt,cmp_nlf,cmp_nle,cmp_nne,cmp_neq,wrap_i64,wrap_u64,wrap_u8]
theorem st_bit (b : Bool) (H : Heap) : callW P f_q58 [ab b] H = some (.c (.int .u64 b.toNat),H) := by
 cases b
 ·rw [call_L 3 rfl (rfl : P.T f_q58 = some F_q58) (le_ok rfl)]; simp -implicitDefEqProofs (disch := first | omega | (simp; done) | fail) [-toCells,-AV.one,-forget,F_q58,c_q58,cmp_ilt,cmp_ilf,cmp_ile,cmp_ilg,cmp_ine,cmp_ieq,cmp_nlt,cmp_nlf,cmp_nle,cmp_nne,cmp_neq,wrap_i64,wrap_u64,wrap_u8]
 ·rw [call_L 3 rfl (rfl : P.T f_q58 = some F_q58) (le_ok rfl)]; simp -implicitDefEqProofs (disch := first | omega | (simp; done) | fail) [-toCells,-AV.one,-forget,F_q58,c_q58,cmp_ilt,cmp_ilf,cmp_ile,cmp_ilg,cmp_ine,cmp_ieq,cmp_nlt,cmp_nlf,cmp_nle,cmp_nne,cmp_neq,wrap_i64,wrap_u64,wrap_u8]
end Go.A.V.S

namespace Go.A.V.S
open Go Go.A
set_option linter.unusedSimpArgs false
set_option linter.unusedVariables false
set_option maxHeartbeats 1000000 in
theorem st_isMiss10 (m : Ms) (H : Heap) : callW P f_q48 [.agg m.v,ai 10] H = some (ab (missOk m 1024 32768),H) := by
 have hI := fun H => sn_Is (w := 10) (by omega) m.sn H
 replace hI : ∀ H,callW P f_q66 [.agg [ai 10],ai m.sn] H = some (ab (decide (0 ≤ m.sn ∧ m.sn < 1024)),H) := hI
 have ho := fun H => st_ow10 H
 obtain ⟨sn,pa,fr,to⟩ := m
 simp only at hI
 by_cases c1 : 0 ≤ sn ∧ sn < 1024
 ·rw [decide_eq_true c1] at hI
  by_cases c2 : fr < 0
  ·rw [show missOk ⟨sn,pa,fr,to⟩ 1024 32768 = false by simp [missOk]; omega]
   rw [call_L 6 rfl (rfl : P.T f_q48 = some F_q48) (le_ok rfl)]; simp -implicitDefEqProofs (disch := first | omega | (simp; done) | fail) [-toCells,-AV.one,-forget,F_q48,c_q48,cmp_ilt,cmp_ilf,cmp_ile,cmp_ilg,cmp_ine,cmp_ieq,cmp_nlt,cmp_nlf,cmp_nle,cmp_nne,cmp_neq,wrap_i64,wrap_u64,wrap_u8,Ms.v,hI,ho]
  by_cases c3 : to < 0
  ·rw [show missOk ⟨sn,pa,fr,to⟩ 1024 32768 = false by simp [missOk]; omega]
   rw [call_L 6 rfl (rfl : P.T f_q48 = some F_q48) (le_ok rfl)]; simp -implicitDefEqProofs (disch := first | omega | (simp; done) | fail) [-toCells,-AV.one,-forget,F_q48,c_q48,cmp_ilt,cmp_ilf,cmp_ile,cmp_ilg,cmp_ine,cmp_ieq,cmp_nlt,cmp_nlf,cmp_nle,cmp_nne,cmp_neq,wrap_i64,wrap_u64,wrap_u8,Ms.v,hI,ho]
  by_cases c4 : 32768 ≤ to
  ·rw [show missOk ⟨sn,pa,fr,to⟩ 1024 32768 = false by simp [missOk]; omega]
   rw [call_L 6 rfl (rfl : P.T f_q48 = some F_q48) (le_ok rfl)]; simp -implicitDefEqProofs (disch := first | omega | (simp; done) | fail) [-toCells,-AV.one,-forget,F_q48,c_q48,cmp_ilt,cmp_ilf,cmp_ile,cmp_ilg,cmp_ine,cmp_ieq,cmp_nlt,cmp_nlf,cmp_nle,cmp_nne,cmp_neq,wrap_i64,wrap_u64,wrap_u8,Ms.v,hI,ho]
  have hm : missOk ⟨sn,pa,fr,to⟩ 1024 32768 = (if pa = true then (if to = 0 then decide (fr < 32768) else decide (fr < to)) else decide (fr = 0) && decide (to = 0)) := by
   simp only [missOk]; rw [decide_eq_true (show 0 ≤ sn ∧ sn < ((1024 : Nat) : Int) from c1),decide_eq_true (show 0 ≤ fr by omega),decide_eq_true (show 0 ≤ to by omega),decide_eq_true (show to < ((32768 : Nat) : Int) by omega)]; simp
  rw [hm]
  clear hm
  cases pa with
  | true =>
   rw [if_pos rfl]
   by_cases c5 : to = 0
   ·rw [if_pos c5]
    by_cases c6 : fr < 32768
    ·rw [decide_eq_true c6]
     rw [call_L 6 rfl (rfl : P.T f_q48 = some F_q48) (le_ok rfl)]; simp -implicitDefEqProofs (disch := first | omega | (simp; done) | fail) [-toCells,-AV.one,-forget,F_q48,c_q48,cmp_ilt,cmp_ilf,cmp_ile,cmp_ilg,cmp_ine,cmp_ieq,cmp_nlt,cmp_nlf,cmp_nle,cmp_nne,cmp_neq,wrap_i64,wrap_u64,wrap_u8,Ms.v,hI,ho]
    ·rw [decide_eq_false c6]
     rw [call_L 6 rfl (rfl : P.T f_q48 = some F_q48) (le_ok rfl)]; simp -implicitDefEqProofs (disch := first | omega | (simp; done) | fail) [-toCells,-AV.one,-forget,F_q48,c_q48,cmp_ilt,cmp_ilf,cmp_ile,cmp_ilg,cmp_ine,cmp_ieq,cmp_nlt,cmp_nlf,cmp_nle,cmp_nne,cmp_neq,wrap_i64,wrap_u64,wrap_u8,Ms.v,hI,ho]
   ·rw [if_neg c5]
    by_cases c6 : fr < to
    ·rw [decide_eq_true c6]
     rw [call_L 6 rfl (rfl : P.T f_q48 = some F_q48) (le_ok rfl)]; simp -implicitDefEqProofs (disch := first | omega | (simp; done) | fail) [-toCells,-AV.one,-forget,F_q48,c_q48,cmp_ilt,cmp_ilf,cmp_ile,cmp_ilg,cmp_ine,cmp_ieq,cmp_nlt,cmp_nlf,cmp_nle,cmp_nne,cmp_neq,wrap_i64,wrap_u64,wrap_u8,Ms.v,hI,ho]
    ·rw [decide_eq_false c6]
     rw [call_L 6 rfl (rfl : P.T f_q48 = some F_q48) (le_ok rfl)]; simp -implicitDefEqProofs (disch := first | omega | (simp; done) | fail) [-toCells,-AV.one,-forget,F_q48,c_q48,cmp_ilt,cmp_ilf,cmp_ile,cmp_ilg,cmp_ine,cmp_ieq,cmp_nlt,cmp_nlf,cmp_nle,cmp_nne,cmp_neq,wrap_i64,wrap_u64,wrap_u8,Ms.v,hI,ho]
  | false =>
   rw [if_neg (by simp)]
   by_cases c5 : fr = 0
   ·by_cases c6 : to = 0
    ·rw [decide_eq_true c5,decide_eq_true c6]
     rw [call_L 6 rfl (rfl : P.T f_q48 = some F_q48) (le_ok rfl)]; simp -implicitDefEqProofs (disch := first | omega | (simp; done) | fail) [-toCells,-AV.one,-forget,F_q48,c_q48,cmp_ilt,cmp_ilf,cmp_ile,cmp_ilg,cmp_ine,cmp_ieq,cmp_nlt,cmp_nlf,cmp_nle,cmp_nne,cmp_neq,wrap_i64,wrap_u64,wrap_u8,Ms.v,hI,ho,binA_eqa,eqAll_i,eqAll_b,eqAll_nil]
    ·rw [decide_eq_true c5,decide_eq_false c6]
     rw [call_L 6 rfl (rfl : P.T f_q48 = some F_q48) (le_ok rfl)]; simp -implicitDefEqProofs (disch := first | omega | (simp; done) | fail) [-toCells,-AV.one,-forget,F_q48,c_q48,cmp_ilt,cmp_ilf,cmp_ile,cmp_ilg,cmp_ine,cmp_ieq,cmp_nlt,cmp_nlf,cmp_nle,cmp_nne,cmp_neq,wrap_i64,wrap_u64,wrap_u8,Ms.v,hI,ho,binA_eqa,eqAll_i,eqAll_b,eqAll_nil]
   ·rw [decide_eq_false c5]
    rw [call_L 6 rfl (rfl : P.T f_q48 = some F_q48) (le_ok rfl)]; simp -implicitDefEqProofs (disch := first | omega | (simp; done) | fail) [-toCells,-AV.one,-forget,F_q48,c_q48,cmp_ilt,cmp_ilf,cmp_ile,cmp_ilg,cmp_ine,cmp_ieq,cmp_nlt,cmp_nlf,cmp_nle,cmp_nne,cmp_neq,wrap_i64,wrap_u64,wrap_u8,Ms.v,hI,ho,binA_eqa,eqAll_i,eqAll_b,eqAll_nil]
 ·rw [show missOk ⟨sn,pa,fr,to⟩ 1024 32768 = false by simp only [missOk]; rw [decide_eq_false (show ¬ (0 ≤ sn ∧ sn < ((1024 : Nat) : Int)) from c1)]; rfl]
  rw [decide_eq_false c1] at hI
  rw [call_L 6 rfl (rfl : P.T f_q48 = some F_q48) (le_ok rfl)]; simp -implicitDefEqProofs (disch := first | omega | (simp; done) | fail) [-toCells,-AV.one,-forget,F_q48,c_q48,cmp_ilt,cmp_ilf,cmp_ile,cmp_ilg,cmp_ine,cmp_ieq,cmp_nlt,cmp_nlf,cmp_nle,cmp_nne,cmp_neq,wrap_i64,wrap_u64,wrap_u8,Ms.v,hI,ho]
set_option maxHeartbeats 1000000 in
theorem st_isMiss16 (m : Ms) (H : Heap) : callW P f_q48 [.agg m.v,ai 16] H = some (ab (missOk m 65536 65536),H) := by
 have hI := fun H => sn_Is (w := 16) (by omega) m.sn H
 replace hI : ∀ H,callW P f_q66 [.agg [ai 16],ai m.sn] H = some (ab (decide (0 ≤ m.sn ∧ m.sn < 65536)),H) := hI
 have ho := fun H => st_ow16 H
 obtain ⟨sn,pa,fr,to⟩ := m
 simp only at hI
 by_cases c1 : 0 ≤ sn ∧ sn < 65536
 ·rw [decide_eq_true c1] at hI
  by_cases c2 : fr < 0
  ·rw [show missOk ⟨sn,pa,fr,to⟩ 65536 65536 = false by simp [missOk]; omega]
   rw [call_L 6 rfl (rfl : P.T f_q48 = some F_q48) (le_ok rfl)]; simp -implicitDefEqProofs (disch := first | omega | (simp; done) | fail) [-toCells,-AV.one,-forget,F_q48,c_q48,cmp_ilt,cmp_ilf,cmp_ile,cmp_ilg,cmp_ine,cmp_ieq,cmp_nlt,cmp_nlf,cmp_nle,cmp_nne,cmp_neq,wrap_i64,wrap_u64,wrap_u8,Ms.v,hI,ho]
  by_cases c3 : to < 0
  ·rw [show missOk ⟨sn,pa,fr,to⟩ 65536 65536 = false by simp [missOk]; omega]
   rw [call_L 6 rfl (rfl : P.T f_q48 = some F_q48) (le_ok rfl)]; simp -implicitDefEqProofs (disch := first | omega | (simp; done) | fail) [-toCells,-AV.one,-forget,F_q48,c_q48,cmp_ilt,cmp_ilf,cmp_ile,cmp_ilg,cmp_ine,cmp_ieq,cmp_nlt,cmp_nlf,cmp_nle,cmp_nne,cmp_neq,wrap_i64,wrap_u64,wrap_u8,Ms.v,hI,ho]
  by_cases c4 : 65536 ≤ to
  ·rw [show missOk ⟨sn,pa,fr,to⟩ 65536 65536 = false by simp [missOk]; omega]
   rw [call_L 6 rfl (rfl : P.T f_q48 = some F_q48) (le_ok rfl)]; simp -implicitDefEqProofs (disch := first | omega | (simp; done) | fail) [-toCells,-AV.one,-forget,F_q48,c_q48,cmp_ilt,cmp_ilf,cmp_ile,cmp_ilg,cmp_ine,cmp_ieq,cmp_nlt,cmp_nlf,cmp_nle,cmp_nne,cmp_neq,wrap_i64,wrap_u64,wrap_u8,Ms.v,hI,ho]
  have hm : missOk ⟨sn,pa,fr,to⟩ 65536 65536 = (if pa = true then (if to = 0 then decide (fr < 65536) else decide (fr < to)) else decide (fr = 0) && decide (to = 0)) := by
   simp only [missOk]; rw [decide_eq_true (show 0 ≤ sn ∧ sn < ((65536 : Nat) : Int) from c1),decide_eq_true (show 0 ≤ fr by omega),decide_eq_true (show 0 ≤ to by omega),decide_eq_true (show to < ((65536 : Nat) : Int) by omega)]; simp
  rw [hm]
  clear hm
  cases pa with
  | true =>
   rw [if_pos rfl]
   by_cases c5 : to = 0
   ·rw [if_pos c5]
    by_cases c6 : fr < 65536
    ·rw [decide_eq_true c6]
     rw [call_L 6 rfl (rfl : P.T f_q48 = some F_q48) (le_ok rfl)]; simp -implicitDefEqProofs (disch := first | omega | (simp; done) | fail) [-toCells,-AV.one,-forget,F_q48,c_q48,cmp_ilt,cmp_ilf,cmp_ile,cmp_ilg,cmp_ine,cmp_ieq,cmp_nlt,cmp_nlf,cmp_nle,cmp_nne,cmp_neq,wrap_i64,wrap_u64,wrap_u8,Ms.v,hI,ho]
    ·rw [decide_eq_false c6]
     rw [call_L 6 rfl (rfl : P.T f_q48 = some F_q48) (le_ok rfl)]; simp -implicitDefEqProofs (disch := first | omega | (simp; done) | fail) [-toCells,-AV.one,-forget,F_q48,c_q48,cmp_ilt,cmp_ilf,cmp_ile,cmp_ilg,cmp_ine,cmp_ieq,cmp_nlt,cmp_nlf,cmp_nle,cmp_nne,cmp_neq,wrap_i64,wrap_u64,wrap_u8,Ms.v,hI,ho]
   ·rw [if_neg c5]
    by_cases c6 : fr < to
    ·rw [decide_eq_true c6]
     rw [call_L 6 rfl (rfl : P.T f_q48 = some F_q48) (le_ok rfl)]; simp -implicitDefEqProofs (disch := first | omega | (simp; done) | fail) [-toCells,-AV.one,-forget,F_q48,c_q48,cmp_ilt,cmp_ilf,cmp_ile,cmp_ilg,cmp_ine,cmp_ieq,cmp_nlt,cmp_nlf,cmp_nle,cmp_nne,cmp_neq,wrap_i64,wrap_u64,wrap_u8,Ms.v,hI,ho]
    ·rw [decide_eq_false c6]
     rw [call_L 6 rfl (rfl : P.T f_q48 = some F_q48) (le_ok rfl)]; simp -implicitDefEqProofs (disch := first | omega | (simp; done) | fail) [-toCells,-AV.one,-forget,F_q48,c_q48,cmp_ilt,cmp_ilf,cmp_ile,cmp_ilg,cmp_ine,cmp_ieq,cmp_nlt,cmp_nlf,cmp_nle,cmp_nne,cmp_neq,wrap_i64,wrap_u64,wrap_u8,Ms.v,hI,ho]
  | false =>
   rw [if_neg (by simp)]
   by_cases c5 : fr = 0
   ·by_cases c6 : to = 0
    ·rw [decide_eq_true c5,decide_eq_true c6]
     rw [call_L 6 rfl (rfl : P.T f_q48 = some F_q48) (le_ok rfl)]; simp -implicitDefEqProofs (disch := first | omega | (simp; done) | fail) [-toCells,-AV.one,-forget,F_q48,c_q48,cmp_ilt,cmp_ilf,cmp_ile,cmp_ilg,cmp_ine,cmp_ieq,cmp_nlt,cmp_nlf,cmp_nle,cmp_nne,cmp_neq,wrap_i64,wrap_u64,wrap_u8,Ms.v,hI,ho,binA_eqa,eqAll_i,eqAll_b,eqAll_nil]
    ·rw [decide_eq_true c5,decide_eq_false c6]
     rw [call_L 6 rfl (rfl : P.T f_q48 = some F_q48) (le_ok rfl)]; simp -implicitDefEqProofs (disch := first | omega | (simp; done) | fail) [-toCells,-AV.one,-forget,F_q48,c_q48,cmp_ilt,cmp_ilf,cmp_ile,cmp_ilg,cmp_ine,cmp_ieq,cmp_nlt,cmp_nlf,cmp_nle,cmp_nne,cmp_neq,wrap_i64,wrap_u64,wrap_u8,Ms.v,hI,ho,binA_eqa,eqAll_i,eqAll_b,eqAll_nil]
   ·rw [decide_eq_false c5]
    rw [call_L 6 rfl (rfl : P.T f_q48 = some F_q48) (le_ok rfl)]; simp -implicitDefEqProofs (disch := first | omega | (simp; done) | fail) [-toCells,-AV.one,-forget,F_q48,c_q48,cmp_ilt,cmp_ilf,cmp_ile,cmp_ilg,cmp_ine,cmp_ieq,cmp_nlt,cmp_nlf,cmp_nle,cmp_nne,cmp_neq,wrap_i64,wrap_u64,wrap_u8,Ms.v,hI,ho,binA_eqa,eqAll_i,eqAll_b,eqAll_nil]
 ·rw [show missOk ⟨sn,pa,fr,to⟩ 65536 65536 = false by simp only [missOk]; rw [decide_eq_false (show ¬ (0 ≤ sn ∧ sn < ((65536 : Nat) : Int)) from c1)]; rfl]
  rw [decide_eq_false c1] at hI
  rw [call_L 6 rfl (rfl : P.T f_q48 = some F_q48) (le_ok rfl)]; simp -implicitDefEqProofs (disch := first | omega | (simp; done) | fail) [-toCells,-AV.one,-forget,F_q48,c_q48,cmp_ilt,cmp_ilf,cmp_ile,cmp_ilg,cmp_ine,cmp_ieq,cmp_nlt,cmp_nlf,cmp_nle,cmp_nne,cmp_neq,wrap_i64,wrap_u64,wrap_u8,Ms.v,hI,ho]
end Go.A.V.S

namespace Go.A.V.S
open Go Go.A
set_option linter.unusedSimpArgs false
set_option linter.unusedVariables false
structure St where
 ack : Int
 z : Bool
 ms : List Ms
def mvs (l : List Ms) : List (List AV) := l.map Ms.v
def St.v (s : St) : List AV := [ai s.ack,lst s.z 4 none (mvs s.ms)]
theorem mvs_len (l : List Ms) : (mvs l).length = l.length := by simp [mvs]
def qW (w : Nat) : Nat := 2 ^ w
def rW (w : Nat) : Nat := if w = 10 then 32768 else 65536
def stOk (s : St) (w : Nat) : Bool := decide (0 ≤ s.ack ∧ s.ack < qW w) && decide (s.ms.length ≤ 32) && !(s.ms.any fun m => !missOk m (qW w) (rW w))
theorem rdRow_last (H : Heap) (x : AV) : rdRow (H ++ [.row [x]]) H.length 0 1 1 = some [x] := by
 simp [rdRow,AObj.isRow,AObj.lo,AObj.cells]
theorem st_isMiss {w : Nat} (hw : w = 10 ∨ w = 16) (m : Ms) (H : Heap) : callW P f_q48 [.agg m.v,ai w] H = some (ab (missOk m (qW w) (rW w)),H) := by
 rcases hw with rfl | rfl
 ·exact st_isMiss10 m H
 ·exact st_isMiss16 m H
theorem st_Right1 {w : Nat} (hw : w = 10 ∨ w = 16) (m : Ms) (H : Heap) : callW P f_q74 [.agg m.v,.ptr H.length 0 1] (H ++ [.row [ai w]]) = some (ab (!missOk m (qW w) (rW w)),H ++ [.row [ai w]]) := by
 have h := fun H => st_isMiss hw m H
 obtain ⟨b,hb⟩ : ∃ t,missOk m (qW w) (rW w) = t := ⟨_,rfl⟩
 rw [hb] at h ⊢
 obtain ⟨sn,pa,fr,to⟩ := m
 simp only [Ms.v] at h
 rw [call_L 4 rfl (rfl : P.T f_q74 = some F_q74) (le_ok rfl)]; simp -implicitDefEqProofs [-toCells,-AV.one,-forget,F_q74,c_q74,Ms.v,h,rdRow_last]
 exact List.take_of_length_le (by simp)
theorem st_any {w : Nat} (hw : w = 10 ∨ w = 16) (z : Bool) (l : List Ms) (hl : l.length ≤ 100000) (H : Heap) :
  callW P f_q73 [lst z 4 none (mvs l),.fn f_q74 [.ptr H.length 0 1]] (H ++ [.row [ai w]]) = some (ab (l.any fun m => !missOk m (qW w) (rW w)),H ++ [.row [ai w]]) := by
 have h := cnt_call (f1 := f_q73) (f0 := f_q78) (k := 4) (ld := some 4) (z := z) (l := mvs l) (f := f_q74) (cs := [.ptr H.length 0 1]) (p := fun c => match c with
  | [.c (.int _ sn),.c (.bool p),.c (.int _ fr),.c (.int _ to)] => !missOk ⟨sn,p,fr,to⟩ (qW w) (rW w)
  | _ => false) (H := H ++ [.row [ai w]]) rfl (fun _ _ => rfl) rfl rfl rfl (fun _ _ => rfl) rfl (.inl rfl) (fun c hc => by obtain ⟨n,_,rfl⟩ := List.mem_map.1 hc; rfl) (by rw [mvs_len]; omega) rfl rfl (fun c hc => by obtain ⟨n,_,rfl⟩ := List.mem_map.1 hc; exact ⟨rfl,rfl,rfl⟩)
  (fun c hc => by
   obtain ⟨n,_,rfl⟩ := List.mem_map.1 hc
   exact st_Right1 hw n H)
 rw [h]
 congr 3
 rw [mvs,List.any_map]
 rfl
theorem st_Right {w : Int} (s : St) (hl : s.ms.length ≤ 100000) (H : Heap) : ∃ k,callW P f_q57 [.agg s.v,ai w] H = some (ab (decide (w = 10 ∨ w = 16) && stOk s w.toNat),H ++ List.replicate k .other) := by
 have hW := fun H => st_isWidth w H
 have hml : (mvs s.ms).length = s.ms.length := mvs_len _
 by_cases hw : w = 10 ∨ w = 16
 ·obtain ⟨wn,rfl,hwn⟩ : ∃ wn : Nat,w = wn ∧ (wn = 10 ∨ wn = 16) := by
   rcases hw with rfl | rfl
   ·exact ⟨10,rfl,.inl rfl⟩
   ·exact ⟨16,rfl,.inr rfl⟩
  have htn : ((wn : Nat) : Int).toNat = wn := by simp
  rw [htn]
  rw [decide_eq_true hw] at hW ⊢
  have hI := fun H => sn_Is hwn s.ack H
  have hA := st_any hwn s.z s.ms hl H
  obtain ⟨b,hb⟩ : ∃ t,(s.ms.any fun m => !missOk m (qW wn) (rW wn)) = t := ⟨_,rfl⟩
  rw [stOk,qW]
  rw [qW] at hb hA
  rw [hb] at hA ⊢
  refine ⟨1,?_⟩
  obtain ⟨ack,z,ms⟩ := s
  simp only at *
  by_cases c1 : 0 ≤ ack ∧ ack < (2 ^ wn : Nat)
  ·rw [decide_eq_true c1] at hI ⊢
   by_cases c2 : ms.length ≤ 32
   ·rw [decide_eq_true c2]
    rw [call_L 5 rfl (rfl : P.T f_q57 = some F_q57) (le_ok rfl)]; simp -implicitDefEqProofs (disch := first | omega | (simp; done) | fail) [-toCells,-AV.one,-forget,F_q57,c_q57,cmp_ilt,cmp_ilf,cmp_ile,cmp_ilg,cmp_ine,cmp_ieq,cmp_nlt,cmp_nlf,cmp_nle,cmp_nne,cmp_neq,wrap_i64,wrap_u64,wrap_u8,St.v,hW,hI,hA,hml,rdRow_last]
   ·rw [decide_eq_false c2]
    rw [call_L 5 rfl (rfl : P.T f_q57 = some F_q57) (le_ok rfl)]; simp -implicitDefEqProofs (disch := first | omega | (simp; done) | fail) [-toCells,-AV.one,-forget,F_q57,c_q57,cmp_ilt,cmp_ilf,cmp_ile,cmp_ilg,cmp_ine,cmp_ieq,cmp_nlt,cmp_nlf,cmp_nle,cmp_nne,cmp_neq,wrap_i64,wrap_u64,wrap_u8,St.v,hW,hI,hml,rdRow_last]
  ·rw [decide_eq_false c1] at hI ⊢
   rw [call_L 5 rfl (rfl : P.T f_q57 = some F_q57) (le_ok rfl)]; simp -implicitDefEqProofs (disch := first | omega | (simp; done) | fail) [-toCells,-AV.one,-forget,F_q57,c_q57,cmp_ilt,cmp_ilf,cmp_ile,cmp_ilg,cmp_ine,cmp_ieq,cmp_nlt,cmp_nlf,cmp_nle,cmp_nne,cmp_neq,wrap_i64,wrap_u64,wrap_u8,St.v,hW,hI,rdRow_last]
 ·rw [decide_eq_false hw] at hW ⊢
  refine ⟨1,?_⟩
  obtain ⟨ack,z,ms⟩ := s
  rw [call_L 5 rfl (rfl : P.T f_q57 = some F_q57) (le_ok rfl)]; simp -implicitDefEqProofs (disch := first | omega | (simp; done) | fail) [-toCells,-AV.one,-forget,F_q57,c_q57,cmp_ilt,cmp_ilf,cmp_ile,cmp_ilg,cmp_ine,cmp_ieq,cmp_nlt,cmp_nlf,cmp_nle,cmp_nne,cmp_neq,wrap_i64,wrap_u64,wrap_u8,St.v,hW,rdRow_last]
end Go.A.V.S

namespace Go.A.V.S
open Go Go.A
set_option linter.unusedSimpArgs false
set_option linter.unusedVariables false
theorem and_low (t k : Nat) (hk : k ≤ 16) (ht : t < 2 ^ k) : IntKind.u64.wrap ((BitVec.ofInt 64 (t : Int) &&& BitVec.ofInt 64 ((2 ^ k - 1 : Nat) : Int)).toNat : Int) = t := by
 have h16 : 2 ^ k ≤ 2 ^ 16 := Nat.pow_le_pow_right (by omega) hk
 have e16 : (2 : Nat) ^ 16 = 65536 := by decide
 have e : (BitVec.ofInt 64 (t : Int) &&& BitVec.ofInt 64 ((2 ^ k - 1 : Nat) : Int)).toNat = t := by
  rw [BitVec.ofInt_natCast,BitVec.ofInt_natCast,BitVec.toNat_and,BitVec.toNat_ofNat,BitVec.toNat_ofNat,Nat.mod_eq_of_lt (by omega),Nat.mod_eq_of_lt (by omega),Nat.and_two_pow_sub_one_eq_mod,Nat.mod_eq_of_lt ht]
 rw [e,wrap_u64 (by omega) (by omega)]
theorem and_all (k : Nat) (hk : k ≤ 16) : IntKind.u64.wrap ((BitVec.ofInt 64 (18446744073709551615 : Int) &&& BitVec.ofInt 64 ((2 ^ k - 1 : Nat) : Int)).toNat : Int) = ((2 ^ k - 1 : Nat) : Int) := by
 have h16 : 2 ^ k ≤ 2 ^ 16 := Nat.pow_le_pow_right (by omega) hk
 have e16 : (2 : Nat) ^ 16 = 65536 := by decide
 have e : (BitVec.ofInt 64 (18446744073709551615 : Int) &&& BitVec.ofInt 64 ((2 ^ k - 1 : Nat) : Int)).toNat = 2 ^ k - 1 := by
  have e1 : BitVec.ofInt 64 (18446744073709551615 : Int) = BitVec.allOnes 64 := by decide
  rw [e1,BitVec.allOnes_and,BitVec.ofInt_natCast,BitVec.toNat_ofNat,Nat.mod_eq_of_lt (by omega)]
 rw [e,wrap_u64 (by omega) (by omega)]
def toE (m : Ms) (ow : Nat) : Nat := if m.to = 0 then 2 ^ ow - 1 else m.to.toNat - 1
def mBits (w : Nat) (m : Ms) (more : Bool) : List Bool :=
 bitsOf m.sn.toNat w ++ [more] ++ [m.part] ++ (if m.part = true then bitsOf m.fr.toNat (offWd w) ++ bitsOf (toE m (offWd w)) (offWd w) else [])
def msBits (w : Nat) : List Ms → List Bool
 | [] => []
 | m :: r => mBits w m (decide (0 < r.length)) ++ msBits w r
def sBits (s : St) (w : Nat) : List Bool := [false,false,false,false] ++ bitsOf s.ack.toNat w ++ [decide (0 < s.ms.length)] ++ msBits w s.ms
theorem mBits_len {w : Nat} (hw : w = 10 ∨ w = 16) (m : Ms) (b : Bool) : (mBits w m b).length = w + 2 + (if m.part = true then 2 * offWd w else 0) := by
 simp only [mBits,List.length_append,bitsOf_len,List.length_cons,List.length_nil]
 split <;> simp [bitsOf_len] <;> omega
theorem msBits_len {w : Nat} (hw : w = 10 ∨ w = 16) : ∀ l : List Ms,(msBits w l).length ≤ 50 * l.length
 | [] => by simp [msBits]
 | m :: r => by
  have h := msBits_len hw r
  have h2 := mBits_len hw m (decide (0 < r.length))
  have h3 : offWd w ≤ 16 := by simp only [offWd]; split <;> omega
  rw [msBits,List.length_append,h2,List.length_cons]
  split <;> omega
end Go.A.V.S

namespace Go.A.V.S
open Go Go.A
set_option linter.unusedSimpArgs false
set_option linter.unusedVariables false
theorem mvs_at {l : List Ms} {i : Nat} {m : Ms} (h : l[i]? = some m) (z : Bool) (f : Option Nat) (k : IntKind) : iaddrW 4 none (lst z 4 f (mvs l)) (.c (.int k i)) = some (.vp m.v 0) := iaddrW_lst _ _ _ (by simp [mvs,h]) k
theorem and_low' (t k : Nat) (hk : k ≤ 16) (ht : t < 2 ^ k) : (BitVec.ofNat 64 t &&& BitVec.ofNat 64 (2 ^ k - 1)).toNat = t := by
 have h16 : 2 ^ k ≤ 2 ^ 16 := Nat.pow_le_pow_right (by omega) hk
 have e16 : (2 : Nat) ^ 16 = 65536 := by decide
 rw [BitVec.toNat_and,BitVec.toNat_ofNat,BitVec.toNat_ofNat,Nat.mod_eq_of_lt (by omega),Nat.mod_eq_of_lt (by omega),Nat.and_two_pow_sub_one_eq_mod,Nat.mod_eq_of_lt ht]
theorem and_all' (k : Nat) (hk : k ≤ 16) : (18446744073709551615#64 &&& BitVec.ofNat 64 (2 ^ k - 1)).toNat = 2 ^ k - 1 := by
 have h16 : 2 ^ k ≤ 2 ^ 16 := Nat.pow_le_pow_right (by omega) hk
 have e16 : (2 : Nat) ^ 16 = 65536 := by decide
 have e1 : 18446744073709551615#64 = BitVec.allOnes 64 := by decide
 rw [e1,BitVec.allOnes_and,BitVec.toNat_ofNat,Nat.mod_eq_of_lt (by omega)]
section
variable {H : Heap}
def InvSw (H : Heap) (s : St) (w : Nat) (z : Nat) (σ : List AV) (G : Heap) : Prop :=
 ∃ (i : Nat) (bits : List Bool) (lb : List Nat),i + z = s.ms.length ∧ PackR bits lb ∧ bits.length ≤ 21 + 50 * i ∧ G = WN H bits lb ∧ bits ++ msBits w (s.ms.drop i) = sBits s w
  ∧ σ = L 87 (((((((Tr.full 7).put (path 1) (ai w)).put (path 2) (.lbox [ai s.ack,lst s.z 4 none (mvs s.ms)])).put (path 6) (.ptr H.length 0 2)).put (path 36) (lst s.z 4 none (mvs s.ms))).put (path 37) (ai s.ms.length)).put (path 38) (ai i))
def PostSw (H : Heap) (s : St) (w : Nat) (e : AExit) (σ : List AV) (G : Heap) : Prop :=
 e = .exit 1 ∧ ∃ lb,PackR (sBits s w) lb ∧ G = WN H (sBits s w) lb ∧ kill [1,2,36,37,38,39] σ = L 87 ((Tr.full 7).put (path 6) (.ptr H.length 0 2))
structure stepF (w ow : Nat) : Prop where
 cl : ∀ H,callW P f_q59 [ai w] H = some (ai ow,H)
 of : offWd w = ow
 o16 : ow ≤ 16 ∧ 1 ≤ ow
 sh : IntKind.u64.wrap (1 * 2 ^ ow) = ((2 ^ ow : Nat) : Int)
set_option maxHeartbeats 4000000 in
theorem loopSw {s : St} {w ow : Nat} (hw : w = 10 ∨ w = 16) (F : stepF w ow) (hl : s.ms.length ≤ 32) (hv : ∀ m ∈ s.ms,missOk m (2 ^ w) (2 ^ ow) = true) (z : Nat) (σ : List AV) (G : Heap) (hI : InvSw H s w z (kill (headK lp0_q23) σ) G) :
  Ends (execW P f_q23 (.loop lp0_q23) σ G) fun t => PostSw H s w t.e t.σ t.H := by
 refine loop_ends (fun z σ G => InvSw H s w z σ G) (PostSw H s w) ?_ z σ G hI
 clear hI z σ G
 rintro z σ G ⟨i,bits,lb,hz,hp,hbl,rfl,hb,rfl⟩
 obtain ⟨ack,z0,ms⟩ := s
 simp only at hz hb hl hv
 have hlen : (mvs ms).length = ms.length := mvs_len ms
 by_cases hi : i < ms.length
 ·obtain ⟨m,hm⟩ : ∃ m,ms[i]? = some m := ⟨_,List.getElem?_eq_getElem hi⟩
  have hok := hv m (List.mem_of_getElem? hm)
  have q1 := mvs_at hm z0 none .i64
  have hdrop : ms.drop i = m :: ms.drop (i + 1) := by
   rw [List.drop_eq_getElem_cons hi]
   rw [List.getElem?_eq_getElem hi] at hm
   rw [Option.some.inj hm]
  have hmore : decide (0 < ms.length - (i + 1)) = decide (i + 1 < ms.length) := decide_eq_decide.2 (by omega)
  rw [hdrop,msBits,List.length_drop,hmore,mBits,F.of] at hb
  obtain ⟨sn,pa,fr,to⟩ := m
  simp only [missOk,Bool.and_eq_true,decide_eq_true_eq] at hok
  obtain ⟨⟨⟨⟨⟨o1,o2⟩,o3⟩,o4⟩,o5⟩,o6⟩ := hok
  simp only [Ms.v] at q1
  simp only at hb
  obtain ⟨sn',rfl⟩ : ∃ n : Nat,sn = n := ⟨sn.toNat,by omega⟩
  obtain ⟨fn,rfl⟩ : ∃ n : Nat,fr = n := ⟨fr.toNat,by omega⟩
  obtain ⟨tn,rfl⟩ : ∃ n : Nat,to = n := ⟨to.toNat,by omega⟩
  rw [Int.toNat_natCast,Int.toNat_natCast] at hb
  have hw16 : 2 ^ w ≤ 2 ^ 16 := Nat.pow_le_pow_right (by omega) (by omega)
  have ho16 : 2 ^ ow ≤ 2 ^ 16 := Nat.pow_le_pow_right (by omega) F.o16.1
  have e16 : (2 : Nat) ^ 16 = 65536 := by decide
  have wsn : IntKind.u64.wrap (sn' : Int) = sn' := wrap_u64 (by omega) (by omega)
  have hb1 := fun b H => st_bit b H
  have wl : IntKind.i64.wrap ((ms.length : Int) - 1) = (ms.length : Int) - 1 := wrap_i64 (by omega) (by omega)
  have w3 : IntKind.i64.wrap ((i : Int) + 1) = ((i + 1 : Nat) : Int) := by rw [wrap_i64 (by omega) (by omega)]; omega
  obtain ⟨mo,hmo⟩ : ∃ t,decide (i + 1 < ms.length) = t := ⟨_,rfl⟩
  rw [hmo] at hb
  have hlast : decide ((i : Int) < (ms.length : Int) - 1) = mo := by rw [← hmo]; exact decide_eq_decide.2 (by omega)
  obtain ⟨x1,l1,e1,n1,p1,c1⟩ := put1 (H := H) rfl hp (by omega) sn' w (by omega) (by omega) sn' w rfl rfl
  obtain ⟨x2,l2,e2,n2,p2,c2⟩ := put1 (H := H) n1 p1 (by omega) mo.toNat 1 (by omega) (lt2 _) (mo.toNat : Nat) 1 rfl rfl
  obtain ⟨x3,l3,e3,n3,p3,c3⟩ := put1 (H := H) n2 p2 (by omega) pa.toNat 1 (by omega) (lt2 _) (pa.toNat : Nat) 1 rfl rfl
  rw [bitsOf_b] at e2 e3
  obtain ⟨i1,hi1⟩ : ∃ i1,i + 1 = i1 := ⟨_,rfl⟩
  rw [hi1] at w3 hb
  clear hmo hmore hdrop hm hv
  cases pa with
  | false =>
   replace c3 : callW P f_q36 [.ptr H.length 0 2,.c (.int .u64 0),ai 1] (WN H x2 l2) = _ := c3
   have hb2 : x3 ++ msBits w (ms.drop i1) = sBits ⟨ack,z0,ms⟩ w := by rw [e3,e2,e1,← hb]; simp
   have hfin : ∀ σ,σ = L 87 (((((((Tr.full 7).put (path 1) (ai w)).put (path 2) (.lbox [ai ack,lst z0 4 none (mvs ms)])).put (path 6) (.ptr H.length 0 2)).put (path 36) (lst z0 4 none (mvs ms))).put (path 37) (ai ms.length)).put (path 38) (ai i1)) → ∃ m,m < z ∧ InvSw H ⟨ack,z0,ms⟩ w m σ (WN H x3 l3) := fun σ e => ⟨z - 1,by omega,i1,x3,l3,by simp only; omega,p3,by omega,rfl,hb2,e⟩
   clear hb hb2 e1 e2 e3
   simp -implicitDefEqProofs (disch := first | omega | (simp; done) | fail) [-toCells,-AV.one,-forget,c_q23,cmp_ilt,cmp_ilf,cmp_ile,cmp_ilg,cmp_ine,cmp_ieq,cmp_nlt,cmp_nlf,cmp_nle,cmp_nne,cmp_neq,wrap_i64,wrap_u64,wrap_u8,lp0_q23,hlen,q1,wsn,c1,wl,hlast,hb1,c2,c3,w3]
   refine hfin _ ?_
   simp
  | true =>
   replace c3 : callW P f_q36 [.ptr H.length 0 2,.c (.int .u64 1),ai 1] (WN H x2 l2) = _ := c3
   have hfn : fn < 2 ^ ow := by
    rw [if_pos rfl] at o6
    by_cases h : (tn : Int) = 0
    ·rw [if_pos h] at o6; simp only [decide_eq_true_eq] at o6; omega
    ·rw [if_neg h] at o6; simp only [decide_eq_true_eq] at o6; omega
   have wfn : IntKind.u64.wrap (fn : Int) = fn := wrap_u64 (by omega) (by omega)
   have hoc := F.cl
   have hmn : min ow 64 = ow := by have := F.o16; omega
   have hw0 : ¬ (ow : Int) < 0 := by omega
   have hpp := F.sh
   have hpp' : IntKind.u64.wrap (2 ^ ow) = ((2 ^ ow : Nat) : Int) := by rw [← hpp,Int.one_mul]
   obtain ⟨x4,l4,e4,n4,p4,c4⟩ := put1 (H := H) n3 p3 (by omega) fn ow (by have := F.o16; omega) hfn fn ow rfl rfl
   have hpos : 1 ≤ 2 ^ ow := Nat.one_le_two_pow
   have hs1 : IntKind.u64.wrap (((2 ^ ow : Nat) : Int) - 1) = ((2 ^ ow - 1 : Nat) : Int) := by rw [wrap_u64 (by omega) (by omega)]; omega
   rw [if_pos rfl] at hb
   simp only [toE] at hb
   have hand := and_low (tn - 1) ow F.o16.1
   have hall := and_all ow F.o16.1
   by_cases ht : tn = 0
   ·subst ht
    obtain ⟨x5,l5,e5,n5,p5,c5⟩ := put1 (H := H) n4 p4 (by have := F.o16; omega) (2 ^ ow - 1) ow (by have := F.o16; omega) (by omega) ((2 ^ ow - 1 : Nat) : Int) ow rfl rfl
    have hb2 : x5 ++ msBits w (ms.drop i1) = sBits ⟨ack,z0,ms⟩ w := by rw [e5,e4,e3,e2,e1,← hb]; simp
    have hfin : ∀ σ,σ = L 87 (((((((Tr.full 7).put (path 1) (ai w)).put (path 2) (.lbox [ai ack,lst z0 4 none (mvs ms)])).put (path 6) (.ptr H.length 0 2)).put (path 36) (lst z0 4 none (mvs ms))).put (path 37) (ai ms.length)).put (path 38) (ai i1)) → ∃ m,m < z ∧ InvSw H ⟨ack,z0,ms⟩ w m σ (WN H x5 l5) := fun σ e => ⟨z - 1,by omega,i1,x5,l5,by simp only; omega,p5,by have := F.o16; omega,rfl,hb2,e⟩
    have hA := and_all' ow F.o16.1
    have wm : IntKind.i64.wrap (((0 : Nat) : Int) - 1) = -1 := rfl
    have wu : IntKind.u64.wrap (-1) = 18446744073709551615 := rfl
    clear hb hb2 e1 e2 e3 e4 e5 hand hall
    generalize 2 ^ ow - 1 = pm at *
    generalize ((2 ^ ow : Nat) : Int) = pw at *
    simp -implicitDefEqProofs (disch := first | omega | (simp; done) | fail) [-toCells,-AV.one,-forget,c_q23,cmp_ilt,cmp_ilf,cmp_ile,cmp_ilg,cmp_ine,cmp_ieq,cmp_nlt,cmp_nlf,cmp_nle,cmp_nne,cmp_neq,wrap_i64,wrap_u64,wrap_u8,keepB,goodB_L,sameV,dstNot,dstNe,SOpG.reads,SOp.slots,SX.slots,SOp.noL,rdV,selfE_lst,selfE,selfEs,eqV,lp0_q23,hlen,q1,wsn,c1,wl,hlast,hb1,c2,c3,w3,hoc,wfn,c4,hmn,hw0,hpp,hpp',hs1,wm,wu]
    erw [hA]
    simp -implicitDefEqProofs (disch := first | omega | (simp; done) | fail) [-toCells,-AV.one,-forget,c_q23,cmp_ilt,cmp_ilf,cmp_ile,cmp_ilg,cmp_ine,cmp_ieq,cmp_nlt,cmp_nlf,cmp_nle,cmp_nne,cmp_neq,wrap_i64,wrap_u64,wrap_u8,keepB,goodB_L,sameV,dstNot,dstNe,SOpG.reads,SOp.slots,SX.slots,SOp.noL,rdV,selfE_lst,selfE,selfEs,eqV,lp0_q23,c5,w3]
    refine hfin _ ?_
    simp
   ·obtain ⟨t1,rfl⟩ : ∃ t,tn = t + 1 := ⟨tn - 1,by omega⟩
    have ht1 : t1 < 2 ^ ow := by omega
    obtain ⟨x5,l5,e5,n5,p5,c5⟩ := put1 (H := H) n4 p4 (by have := F.o16; omega) t1 ow (by have := F.o16; omega) ht1 t1 ow rfl rfl
    have hb2 : x5 ++ msBits w (ms.drop i1) = sBits ⟨ack,z0,ms⟩ w := by
     rw [e5,e4,e3,e2,e1,← hb,if_neg (show ¬ ((t1 + 1 : Nat) : Int) = 0 by omega),show ((t1 + 1 : Nat) : Int).toNat - 1 = t1 by omega]; simp
    have hfin : ∀ σ,σ = L 87 (((((((Tr.full 7).put (path 1) (ai w)).put (path 2) (.lbox [ai ack,lst z0 4 none (mvs ms)])).put (path 6) (.ptr H.length 0 2)).put (path 36) (lst z0 4 none (mvs ms))).put (path 37) (ai ms.length)).put (path 38) (ai i1)) → ∃ m,m < z ∧ InvSw H ⟨ack,z0,ms⟩ w m σ (WN H x5 l5) := fun σ e => ⟨z - 1,by omega,i1,x5,l5,by simp only; omega,p5,by have := F.o16; omega,rfl,hb2,e⟩
    have hA := and_low' t1 ow F.o16.1 ht1
    obtain ⟨ti,hti⟩ : ∃ t,((t1 + 1 : Nat) : Int) = t := ⟨_,rfl⟩
    have wm : IntKind.i64.wrap (ti - 1) = t1 := by rw [wrap_i64 (by omega) (by omega)]; omega
    have wu : IntKind.u64.wrap (t1 : Int) = t1 := wrap_u64 (by omega) (by omega)
    rw [hti] at q1
    clear hb hb2 e1 e2 e3 e4 e5 hand hall
    generalize 2 ^ ow - 1 = pm at *
    generalize ((2 ^ ow : Nat) : Int) = pw at *
    simp -implicitDefEqProofs (disch := first | omega | (simp; done) | fail) [-toCells,-AV.one,-forget,c_q23,cmp_ilt,cmp_ilf,cmp_ile,cmp_ilg,cmp_ine,cmp_ieq,cmp_nlt,cmp_nlf,cmp_nle,cmp_nne,cmp_neq,wrap_i64,wrap_u64,wrap_u8,keepB,goodB_L,sameV,dstNot,dstNe,SOpG.reads,SOp.slots,SX.slots,SOp.noL,rdV,selfE_lst,selfE,selfEs,eqV,lp0_q23,hlen,q1,wsn,c1,wl,hlast,hb1,c2,c3,w3,hoc,wfn,c4,hmn,hw0,hpp,hpp',hs1,wm,wu]
    erw [hA]
    simp -implicitDefEqProofs (disch := first | omega | (simp; done) | fail) [-toCells,-AV.one,-forget,c_q23,cmp_ilt,cmp_ilf,cmp_ile,cmp_ilg,cmp_ine,cmp_ieq,cmp_nlt,cmp_nlf,cmp_nle,cmp_nne,cmp_neq,wrap_i64,wrap_u64,wrap_u8,keepB,goodB_L,sameV,dstNot,dstNe,SOpG.reads,SOp.slots,SX.slots,SOp.noL,rdV,selfE_lst,selfE,selfEs,eqV,lp0_q23,c5,w3]
    refine hfin _ ?_
    simp
 ·have hnil : ms.drop i = [] := List.drop_eq_nil_of_le (by omega)
  rw [hnil,msBits,List.append_nil] at hb
  subst hb
  simp -implicitDefEqProofs (disch := first | omega | (simp; done) | fail) [-toCells,-AV.one,-forget,c_q23,cmp_ilt,cmp_ilf,cmp_ile,cmp_ilg,cmp_ine,cmp_ieq,cmp_nlt,cmp_nlf,cmp_nle,cmp_nne,cmp_neq,wrap_i64,wrap_u64,wrap_u8,lp0_q23,hlen]
  exact ⟨rfl,lb,hp,rfl,by simp⟩
end
end Go.A.V.S

namespace Go.A.V.S
open Go Go.A
set_option linter.unusedSimpArgs false
set_option linter.unusedVariables false
theorem step10 : stepF 10 15 := ⟨st_ow10,rfl,by omega,rfl⟩
theorem step16 : stepF 16 16 := ⟨st_ow16,rfl,by omega,rfl⟩
theorem stOk_iff {s : St} {w : Nat} (h : stOk s w = true) : (0 ≤ s.ack ∧ s.ack < (2 ^ w : Nat)) ∧ s.ms.length ≤ 32 ∧ ∀ m ∈ s.ms,missOk m (2 ^ w) (rW w) = true := by
 simp only [stOk,qW,Bool.and_eq_true,decide_eq_true_eq,Bool.not_eq_true',List.any_eq_false] at h
 exact ⟨of_decide_eq_true h.1.1,by simpa using h.1.2,fun m hm => by have := h.2 m hm; simpa using this⟩
section
variable {H : Heap}
set_option maxHeartbeats 2000000 in
theorem st_Write_ok {s : St} {w ow : Nat} (hw : w = 10 ∨ w = 16) (F : stepF w ow) (hr : rW w = 2 ^ ow) (h : stOk s w = true) (H : Heap) :
  ∃ out k,PackR (sBits s w) out ∧ callW P f_q23 [.agg s.v,ai w] H = some (.tup [.vs 1 none (byteCs out),ai 0],H ++ List.replicate k .other) := by
 obtain ⟨⟨ha0,ha1⟩,hl,hv⟩ := stOk_iff h
 rw [hr] at hv
 have hW := fun H => st_isWidth w H
 rw [decide_eq_true (by omega)] at hW
 obtain ⟨kr,hR⟩ := st_Right (w := w) s (by omega) H
 rw [decide_eq_true (by omega),show ((w : Nat) : Int).toNat = w by simp,h] at hR
 replace hR : callW P f_q57 [.agg s.v,ai w] H = some (ab true,H ++ List.replicate kr .other) := hR
 obtain ⟨H1,hH1⟩ : ∃ t,H ++ List.replicate kr AObj.other = t := ⟨_,rfl⟩
 rw [hH1] at hR
 obtain ⟨nn,hnn⟩ : ∃ n,s.ms.length = n := ⟨_,rfl⟩
 have hlen : (mvs s.ms).length = nn := (mvs_len s.ms).trans hnn
 have hw16 : 2 ^ w ≤ 2 ^ 16 := Nat.pow_le_pow_right (by omega) (by omega)
 have e16 : (2 : Nat) ^ 16 = 65536 := by decide
 have wack : IntKind.u64.wrap s.ack = s.ack := wrap_u64 (by omega) (by omega)
 have c0 := bits_New H1
 have hb1 := fun b H => st_bit b H
 obtain ⟨an,han⟩ : ∃ n : Nat,s.ack = n := ⟨s.ack.toNat,by omega⟩
 obtain ⟨x1,l1,e1,n1,p1,c1⟩ := put1 (H := H1) (l := []) (bits := []) (m := 0) rfl PackR.nil (by omega) 0 4 (by omega) (by omega) 0 4 rfl rfl
 obtain ⟨x2,l2,e2,n2,p2,c2⟩ := put1 (H := H1) n1 p1 (by omega) an w (by omega) (by omega) s.ack w han rfl
 obtain ⟨mo,hmo⟩ : ∃ t,decide (0 < s.ms.length) = t := ⟨_,rfl⟩
 have hmo' : decide ((nn : Int) > 0) = mo := by rw [← hmo]; exact decide_eq_decide.2 (by omega)
 have hmo'' : decide ((0 : Int) < nn) = mo := by rw [← hmo]; exact decide_eq_decide.2 (by omega)
 have hmo3 : decide (0 < nn) = mo := by rw [← hmo]; exact decide_eq_decide.2 (by omega)
 obtain ⟨x3,l3,e3,n3,p3,c3⟩ := put1 (H := H1) n2 p2 (by omega) mo.toNat 1 (by omega) (lt2 _) (mo.toNat : Nat) 1 rfl rfl
 rw [bitsOf_b] at e3
 have hz4 : bitsOf 0 4 = [false,false,false,false] := by decide
 have hsb : x3 ++ msBits w s.ms = sBits s w := by rw [sBits,hmo,e3,e2,e1,hz4,han,Int.toNat_natCast]; simp
 have hne : sBits s w ≠ [] := fun e => by rw [← hsb] at e; have := congrArg List.length e; rw [List.length_append,n3,List.length_nil] at this; omega
 have hsl : (sBits s w).length ≤ 2000 := by rw [← hsb,List.length_append,n3]; have := msBits_len hw s.ms; omega
 suffices hs : Ends (callW P f_q23 [.agg s.v,ai w] H) fun y => ∃ lb k,PackR (sBits s w) lb ∧ y = (.tup [.vs 1 none (byteCs lb),ai 0],H ++ List.replicate k .other) by
  obtain ⟨y,h2,lb,k,h3,rfl⟩ := hs
  exact ⟨lb,k,h3,h2⟩
 refine call_post 7 87 rfl (rfl : P.T f_q23 = some F_q23) rfl (le_ok rfl) (fun e σ G => e = .ret ∧ ∃ lb,PackR (sBits s w) lb ∧ G = WN H1 (sBits s w) lb ∧ resultsA F_q23.res σ = some (.tup [.vs 1 (some 86) (byteCs lb),ai 0])) ?_ ?_
 ·rintro e σ G ⟨rfl,lb,hp,rfl,h2⟩
  obtain ⟨t1,t2⟩ := WN_fin (H := H1) lb hne
  generalize WN H1 (sBits s w) lb = G0 at *
  have t3 : G0.take H.length = H := by
   have := congrArg (List.take H.length) t1
   rw [List.take_take,← hH1,List.take_left,Nat.min_eq_left (by rw [List.length_append]; omega)] at this
   exact this
  have t4 : G0.length = H.length + (kr + 2) := by rw [t2,← hH1,List.length_append,List.length_replicate]; omega
  refine ⟨rfl,_,h2,rfl,?_⟩
  simp [t3,t4]
  exact ⟨lb,hp,rfl⟩
 have hloop := fun σ hσ => loopSw (H := H1) (s := s) hw F hl hv s.ms.length σ (WN H1 x3 l3) ⟨0,x3,l3,by omega,p3,by omega,rfl,hsb,hσ⟩
 generalize hsB : sBits s w = sB at *
 obtain ⟨ack,z0,ms⟩ := s
 simp only [St.v] at *
 rw [F_q23]; simp -implicitDefEqProofs [-toCells,-AV.one,-forget,c_q23,hW,hR,c0,c1,wack,c2,hlen,hmo',hmo'',hmo3,hb1,c3]
 repeat rw [Option.bind_assoc]
 refine Ends.block (P := PostSw H1 ⟨ack,z0,ms⟩ w) (hloop _ ?_) ?_
 ·simp [lp0_q23,hnn]
 rintro e σ1 G1 ⟨rfl,lb,hp,rfl,k2⟩
 rw [hsB] at hp ⊢
 have hc := bits_Bytes (H := H1) hp hne (by omega)
 simp -implicitDefEqProofs [-toCells,-AV.one,-forget,c_q23,k2,hc]
 exact ⟨lb,hp,rfl,rfl⟩
end
end Go.A.V.S

namespace Go.A.V.S
open Go Go.A
set_option linter.unusedSimpArgs false
set_option linter.unusedVariables false
theorem st_Write (s : St) (hl : s.ms.length ≤ 100000) (w : Int) (H : Heap) :
  (¬ (w = 10 ∨ w = 16) → callW P f_q23 [.agg s.v,ai w] H = some (.tup [nilS,ai 9],H)) ∧
  ((w = 10 ∨ w = 16) → stOk s w.toNat = false → ∃ k,callW P f_q23 [.agg s.v,ai w] H = some (.tup [nilS,ai 3],H ++ List.replicate k .other)) ∧
  ((w = 10 ∨ w = 16) → stOk s w.toNat = true → ∃ out k,PackR (sBits s w.toNat) out ∧ callW P f_q23 [.agg s.v,ai w] H = some (.tup [.vs 1 none (byteCs out),ai 0],H ++ List.replicate k .other)) := by
 have hW := fun H => st_isWidth w H
 refine ⟨fun hw => ?_,fun hw h0 => ?_,fun hw h0 => ?_⟩
 ·rw [decide_eq_false hw] at hW
  obtain ⟨ack,z,ms⟩ := s
  rw [call_L 7 rfl (rfl : P.T f_q23 = some F_q23) (le_ok rfl)]; simp -implicitDefEqProofs [-toCells,-AV.one,-forget,F_q23,c_q23,St.v,hW]
 ·obtain ⟨k,hR⟩ := st_Right (w := w) s hl H
  rw [decide_eq_true hw] at hW hR
  rw [h0] at hR
  replace hR : callW P f_q57 [.agg s.v,ai w] H = some (ab false,H ++ List.replicate k .other) := hR
  refine ⟨k,?_⟩
  obtain ⟨ack,z,ms⟩ := s
  simp only [St.v] at hR
  rw [call_L 7 rfl (rfl : P.T f_q23 = some F_q23) (le_ok rfl)]; simp -implicitDefEqProofs [-toCells,-AV.one,-forget,F_q23,c_q23,St.v,hW,hR]
 ·rcases hw with rfl | rfl
  ·exact st_Write_ok (w := 10) (.inl rfl) step10 rfl h0 H
  ·exact st_Write_ok (w := 16) (.inr rfl) step16 rfl h0 H
end Go.A.V.S
