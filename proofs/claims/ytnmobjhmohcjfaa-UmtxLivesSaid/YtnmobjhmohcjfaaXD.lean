/- umd: sizes. -/
import Derived.Test.YtnmobjhmohcjfaaXB
import Derived.Test.YtnmobjhmohcjfaaV14
import Derived.Test.YtnmobjhmohcjfaaXA
import Derived.Test.YtnmobjhmohcjfaaXC
set_option linter.unusedSimpArgs false
set_option linter.unusedVariables false
set_option linter.unnecessarySimpa false
namespace Go.A.V.S
open Go Go.A
structure Um where
 fi : Int
 sn : Int
 z : Bool
 ff : List Bs
def Um.f (p : Um) : AV := lst p.z 1 none (bvs p.ff)
def Um.v (p : Um) : List AV := [ai p.fi,ai p.sn,p.f]
def baseU (p : Um) (w : Nat) : Nat := w / 5 + lsize (p.ff.length - 1) 11
def sizeU (p : Um) (w : Int) : Nat :=
 if ¬ (w = 5 ∨ w = 10) then 0 else if p.fi < 0 then 0 else if 3 < p.fi then 0 else if ¬ (0 ≤ p.sn ∧ p.sn < (2 ^ w.toNat : Nat)) then 0
 else if p.ff.length < 1 then 0 else if 24 < p.ff.length then 0 else sumR (baseU p w.toNat) (bb p.ff)
theorem umd_isWidth (w : Int) (H : Heap) : callW P f_q39 [ai w] H = some (ab (decide (w = 5 ∨ w = 10)),H) := by
 rw [call_L 4 rfl (rfl : P.T f_q39 = some F_q39) (le_ok rfl)]; simp -implicitDefEqProofs [-toCells,-AV.one,-forget,F_q39,c_q39]
 split <;> simp_all
theorem umd_head (w : Nat) (h : w ≤ 100) (H : Heap) : callW P f_q40 [ai w] H = some (ai (w / 5 : Nat),H) := by
 have e : IntKind.i64.wrap ((w : Int).tdiv 5) = ((w / 5 : Nat) : Int) := by
  rw [Int.tdiv_eq_ediv_of_nonneg (by omega),wrap_i64 (by omega) (by omega)]; omega
 have e2 : IntKind.i64.wrap ((w : Int) / 5) = ((w / 5 : Nat) : Int) := by
  rw [wrap_i64 (by omega) (by omega)]; omega
 obtain ⟨d,hd⟩ : ∃ t,w / 5 = t := ⟨_,rfl⟩
 rw [hd] at e e2 ⊢
 rw [call_L 3 rfl (rfl : P.T f_q40 = some F_q40) (le_ok rfl)]; simp -implicitDefEqProofs [-toCells,-AV.one,-forget,F_q40,c_q40,e,e2]
section
variable {H : Heap}
def InvUs (H : Heap) (Q : List AV) (z0 : Bool) (ff : List Bs) (n0 : Nat) (z : Nat) (σ : List AV) (G : Heap) : Prop :=
 ∃ (i n : Nat),i + z = ff.length ∧ n ≤ 4000 ∧ sumR n0 (bb ff) = sumR n ((bb ff).drop i) ∧ G = H ∧ σ = L 63 ((((((Tr.full 7).put (path 2) (.lbox Q)).put (path 5) (ai n)).put (path 27) (lst z0 1 none (bvs ff))).put (path 28) (ai ff.length)).put (path 29) (ai i))
def PostUs (H : Heap) (ff : List Bs) (n0 : Nat) (e : AExit) (σ : List AV) (G : Heap) : Prop :=
 G = H ∧ ((e = .exit 0 ∧ kill [2,27,28,29,30] σ = L 63 ((Tr.full 7).put (path 5) (ai (sumR n0 (bb ff) : Nat)))) ∨ (e = .ret ∧ sumR n0 (bb ff) = 0 ∧ resultsA F_q80.res σ = some (ai 0)))
theorem bbdrop {ff : List Bs} {i : Nat} {x : Bs} (hx : ff[i]? = some x) : (bb ff).drop i = x.2 :: (bb ff).drop (i + 1) := by
 have h2 := bb_at hx
 have hi2 : i < (bb ff).length := (List.getElem?_eq_some_iff.1 h2).1
 rw [List.drop_eq_getElem_cons hi2]
 rw [List.getElem?_eq_getElem hi2] at h2
 rw [Option.some.inj h2]
set_option maxHeartbeats 1000000 in
theorem loopUs {z0 : Bool} {ff : List Bs} (fi sn : Int) (hl : ff.length ≤ 24) (hs : ∀ f ∈ ff,f.2.length ≤ 100000) (n0 : Nat) (z : Nat) (σ : List AV) (G : Heap) (hI : InvUs H [ai fi,ai sn,lst z0 1 none (bvs ff)] z0 ff n0 z (kill (headK lp0_q80) σ) G) :
  Ends (execW P f_q80 (.loop lp0_q80) σ G) fun s => PostUs H ff n0 s.e s.σ s.H := by
 refine loop_ends (fun z σ G => InvUs H [ai fi,ai sn,lst z0 1 none (bvs ff)] z0 ff n0 z σ G) (PostUs H ff n0) ?_ z σ G hI
 clear hI z σ G
 rintro z σ G ⟨i,n,hz,hn4,hsum,rfl,rfl⟩
 have hla : (bvs ff).length = ff.length := bvs_len ff
 by_cases hi : i < ff.length
 ·obtain ⟨x,hx⟩ : ∃ x,ff[i]? = some x := ⟨_,List.getElem?_eq_getElem hi⟩
  have hxs := hs x (List.mem_of_getElem? hx)
  have q1 := bvs_at hx z0 none .i64
  rw [bbdrop hx,sumR,List.length_drop,bb_len] at hsum
  have hxl := bv_len x
  obtain ⟨xl,hxl'⟩ : ∃ t,x.2.length = t := ⟨_,rfl⟩
  rw [hxl'] at hxl hsum hxs
  by_cases c1 : xl = 0
  ·rw [if_pos c1] at hsum
   simp -implicitDefEqProofs (disch := first | omega | (simp; done) | fail) [-toCells,-AV.one,-forget,c_q80,cmp_ilt,cmp_ilf,cmp_ile,cmp_ilg,cmp_ine,cmp_ieq,cmp_nlt,cmp_nlf,cmp_nle,cmp_nne,cmp_neq,wrap_i64,wrap_u64,wrap_u8,lp0_q80,hla,q1,hxl]
   exact ⟨rfl,.inr ⟨rfl,hsum,by simp [F_q80]⟩⟩
  rw [if_neg c1] at hsum
  by_cases c2 : 2047 < xl ∧ i + 1 < ff.length
  ·rw [if_pos ⟨c2.1,by omega⟩] at hsum
   simp -implicitDefEqProofs (disch := first | omega | (simp; done) | fail) [-toCells,-AV.one,-forget,c_q80,cmp_ilt,cmp_ilf,cmp_ile,cmp_ilg,cmp_ine,cmp_ieq,cmp_nlt,cmp_nlf,cmp_nle,cmp_nne,cmp_neq,wrap_i64,wrap_u64,wrap_u8,lp0_q80,hla,q1,hxl]
   exact ⟨rfl,.inr ⟨rfl,hsum,by simp [F_q80]⟩⟩
  rw [if_neg (by omega)] at hsum
  by_cases c5 : 2047 < xl
  ·by_cases c4 : 4000 < n + xl
   ·rw [if_pos (by omega)] at hsum
    simp -implicitDefEqProofs (disch := first | omega | (simp; done) | fail) [-toCells,-AV.one,-forget,c_q80,cmp_ilt,cmp_ilf,cmp_ile,cmp_ilg,cmp_ine,cmp_ieq,cmp_nlt,cmp_nlf,cmp_nle,cmp_nne,cmp_neq,wrap_i64,wrap_u64,wrap_u8,lp0_q80,hla,q1,hxl]
    exact ⟨rfl,.inr ⟨rfl,hsum,by simp [F_q80]⟩⟩
   ·rw [if_neg (by omega)] at hsum
    simp -implicitDefEqProofs (disch := first | omega | (simp; done) | fail) [-toCells,-AV.one,-forget,c_q80,cmp_ilt,cmp_ilf,cmp_ile,cmp_ilg,cmp_ine,cmp_ieq,cmp_nlt,cmp_nlf,cmp_nle,cmp_nne,cmp_neq,wrap_i64,wrap_u64,wrap_u8,lp0_q80,hla,q1,hxl]
    exact ⟨z - 1,by omega,i + 1,n + xl,by omega,by omega,hsum,rfl,by simp⟩
  ·by_cases c4 : 4000 < n + xl
   ·rw [if_pos (by omega)] at hsum
    simp -implicitDefEqProofs (disch := first | omega | (simp; done) | fail) [-toCells,-AV.one,-forget,c_q80,cmp_ilt,cmp_ilf,cmp_ile,cmp_ilg,cmp_ine,cmp_ieq,cmp_nlt,cmp_nlf,cmp_nle,cmp_nne,cmp_neq,wrap_i64,wrap_u64,wrap_u8,lp0_q80,hla,q1,hxl]
    exact ⟨rfl,.inr ⟨rfl,hsum,by simp [F_q80]⟩⟩
   ·rw [if_neg (by omega)] at hsum
    simp -implicitDefEqProofs (disch := first | omega | (simp; done) | fail) [-toCells,-AV.one,-forget,c_q80,cmp_ilt,cmp_ilf,cmp_ile,cmp_ilg,cmp_ine,cmp_ieq,cmp_nlt,cmp_nlf,cmp_nle,cmp_nne,cmp_neq,wrap_i64,wrap_u64,wrap_u8,lp0_q80,hla,q1,hxl]
    exact ⟨z - 1,by omega,i + 1,n + xl,by omega,by omega,hsum,rfl,by simp⟩
 ·have hnil : (bb ff).drop i = [] := List.drop_eq_nil_of_le (by rw [bb_len]; omega)
  rw [hnil,sumR] at hsum
  rw [← hsum]
  simp -implicitDefEqProofs (disch := first | omega | (simp; done) | fail) [-toCells,-AV.one,-forget,c_q80,cmp_ilt,cmp_ilf,cmp_ile,cmp_ilg,cmp_ine,cmp_ieq,cmp_nlt,cmp_nlf,cmp_nle,cmp_nne,cmp_neq,wrap_i64,wrap_u64,wrap_u8,lp0_q80,hla]
  exact ⟨rfl,.inl ⟨rfl,by simp⟩⟩
end
theorem umd_size (p : Um) (hs : ∀ f ∈ p.ff,f.2.length ≤ 100000) (hfl : p.ff.length ≤ 100000) {w : Nat} (hw : w ≤ 100) (H : Heap) :
  callW P f_q80 [.agg p.v,ai w] H = some (ai (if p.ff.length < 1 ∨ 24 < p.ff.length then 0 else sumR (baseU p w) (bb p.ff) : Nat),H) := by
 obtain ⟨fi,sn,z0,ff⟩ := p
 simp only at hs hfl
 have hla : (bvs ff).length = ff.length := bvs_len ff
 have hh := fun H => umd_head w hw H
 by_cases h1 : ff.length < 1 ∨ 24 < ff.length
 ·rw [if_pos h1]
  rcases h1 with h1 | h1
  ·rw [call_L 7 rfl (rfl : P.T f_q80 = some F_q80) (le_ok rfl)]; simp -implicitDefEqProofs (disch := first | omega | (simp; done) | fail) [-toCells,-AV.one,-forget,F_q80,c_q80,cmp_ilt,cmp_ilf,cmp_ile,cmp_ilg,cmp_ine,cmp_ieq,cmp_nlt,cmp_nlf,cmp_nle,cmp_nne,cmp_neq,wrap_i64,wrap_u64,wrap_u8,Um.v,Um.f,hla]
  ·rw [call_L 7 rfl (rfl : P.T f_q80 = some F_q80) (le_ok rfl)]; simp -implicitDefEqProofs (disch := first | omega | (simp; done) | fail) [-toCells,-AV.one,-forget,F_q80,c_q80,cmp_ilt,cmp_ilf,cmp_ile,cmp_ilg,cmp_ine,cmp_ieq,cmp_nlt,cmp_nlf,cmp_nle,cmp_nne,cmp_neq,wrap_i64,wrap_u64,wrap_u8,Um.v,Um.f,hla]
 rw [if_neg h1,baseU]
 have hL := fun H => lens_Size (ff.length - 1) 11 (.inl rfl) (by omega) H
 have hll := lsize_le (n := ff.length - 1) (w := 11) (.inl rfl) (by omega)
 obtain ⟨k,hk⟩ : ∃ t,ff.length - 1 = t := ⟨_,rfl⟩
 have wk : IntKind.i64.wrap ((ff.length : Int) - 1) = (k : Int) := by rw [wrap_i64 (by omega) (by omega)]; omega
 simp only
 rw [hk] at hL hll ⊢
 replace hL : ∀ H,callW P f_q50 [ai k,ai 11] H = some (ai (lsize k 11 : Nat),H) := hL
 obtain ⟨hd,hhd⟩ : ∃ t,w / 5 = t := ⟨_,rfl⟩
 rw [hhd] at hh ⊢
 obtain ⟨ls,hls⟩ : ∃ t,lsize k 11 = t := ⟨_,rfl⟩
 rw [hls] at hL hll ⊢
 have wn : IntKind.i64.wrap ((hd : Int) + ls) = ((hd + ls : Nat) : Int) := by rw [wrap_i64 (by omega) (by omega)]; omega
 obtain ⟨n0,hn0⟩ : ∃ t,hd + ls = t := ⟨_,rfl⟩
 rw [hn0] at wn ⊢
 rw [ends_eq]
 have hF := loopUs (H := H) (z0 := z0) (ff := ff) fi sn (by omega) hs n0 ff.length
 refine call_post 7 63 rfl (rfl : P.T f_q80 = some F_q80) rfl (le_ok rfl) (fun e σ G => e = .ret ∧ G = H ∧ resultsA F_q80.res σ = some (ai (sumR n0 (bb ff) : Nat))) ?_ ?_
 ·rintro e σ G ⟨rfl,rfl,h⟩
  exact ⟨rfl,_,h,rfl,by simp⟩
 have g1 : ¬ (ff.length : Int) < 1 := by omega
 have g1' : ¬ ff.length < 1 := by omega
 have g2 : ¬ (ff.length : Int) > 24 := by omega
 have g2' : ¬ (24 : Int) < ff.length := by omega
 have g2'' : ¬ 24 < ff.length := by omega
 have g3 : ¬ ff = [] := fun e => by subst e; simp at g1'
 rw [F_q80]; simp -implicitDefEqProofs [-toCells,-AV.one,-forget,c_q80,Um.v,Um.f,hla,g1,g1',g2,g2',g2'',g3,hh,wk,hL,wn,keepB,-goodB,goodB_L,sameV,dstNot,dstNe,SOpG.reads,SOp.slots,SX.slots,SOp.noL,rdV_load,rdV_str,selfE_lst,selfE,selfEs,eqV]
 repeat rw [Option.bind_assoc]
 refine Ends.block (P := PostUs H ff n0) (hF _ _ ⟨0,n0,by omega,by omega,by simp,rfl,by simp [lp0_q80]⟩) ?_
 rintro e σ1 G1 ⟨rfl,⟨rfl,c⟩ | ⟨rfl,c1,c2⟩⟩
 ·generalize sumR n0 (bb ff) = s at *
  simp -implicitDefEqProofs (disch := first | omega | (simp; done) | fail) [-toCells,-AV.one,-forget,c_q80,cmp_ilt,cmp_ilf,cmp_ile,cmp_ilg,cmp_ine,cmp_ieq,cmp_nlt,cmp_nlf,cmp_nle,cmp_nne,cmp_neq,wrap_i64,wrap_u64,wrap_u8,c]
 ·simp [F_q80] at c2
  rw [c1]
  simp -implicitDefEqProofs (disch := first | omega | (simp; done) | fail) [-toCells,-AV.one,-forget,c_q80,cmp_ilt,cmp_ilf,cmp_ile,cmp_ilg,cmp_ine,cmp_ieq,cmp_nlt,cmp_nlf,cmp_nle,cmp_nne,cmp_neq,wrap_i64,wrap_u64,wrap_u8,c2]
theorem sn_Right5 (H : Heap) : callW P f_q75 [.agg [ai 5]] H = some (ab true,H) := by
 rw [call_L 5 rfl (rfl : P.T f_q75 = some F_q75) (le_ok rfl)]; simp -implicitDefEqProofs [-toCells,-AV.one,-forget,F_q75,c_q75,binA_nea,eqAll_i]
theorem sn_Size5 (H : Heap) : callW P f_q59 [.agg [ai 5]] H = some (ai 32,H) := by
 have h := fun H => sn_Right5 H
 rw [call_L 4 rfl (rfl : P.T f_q59 = some F_q59) (le_ok rfl)]; simp -implicitDefEqProofs [-toCells,-AV.one,-forget,F_q59,c_q59,h]
 try rfl
theorem sn_Is5 {w : Nat} (hw : w = 5 ∨ w = 10) (n : Int) (H : Heap) : callW P f_q76 [.agg [ai w],ai n] H = some (ab (decide (0 ≤ n ∧ n < (2 ^ w : Nat))),H) := by
 rcases hw with rfl | rfl
 ·have h79 := fun H => sn_Size5 H
  show callW P f_q76 [.agg [ai 5],ai n] H = some (ab (decide (0 ≤ n ∧ n < 32)),H)
  by_cases h0 : n ≥ 0
  ·have h0' : 0 ≤ n := h0
   rw [call_L 4 rfl (rfl : P.T f_q76 = some F_q76) (le_ok rfl)]; simp -implicitDefEqProofs [-toCells,-AV.one,-forget,F_q76,c_q76,h79,h0,h0']
  ·have h0' : ¬ 0 ≤ n := h0
   rw [call_L 4 rfl (rfl : P.T f_q76 = some F_q76) (le_ok rfl)]; simp -implicitDefEqProofs [-toCells,-AV.one,-forget,F_q76,c_q76,h79,h0,h0']
 ·exact sn_Is (.inl rfl) n H
theorem umd_Size (p : Um) (hs : ∀ f ∈ p.ff,f.2.length ≤ 100000) (hfl : p.ff.length ≤ 100000) (w : Int) (H : Heap) :
  callW P f_q73 [.agg p.v,ai w] H = some (ai (sizeU p w : Nat),H) := by
 have hW := fun H => umd_isWidth w H
 by_cases hw : w = 5 ∨ w = 10
 ·obtain ⟨wn,rfl,hwn⟩ : ∃ wn : Nat,w = wn ∧ (wn = 5 ∨ wn = 10) := by
   rcases hw with rfl | rfl
   ·exact ⟨5,rfl,.inl rfl⟩
   ·exact ⟨10,rfl,.inr rfl⟩
  rw [decide_eq_true hw] at hW
  have htn : ((wn : Nat) : Int).toNat = wn := by simp
  have hI := fun H => sn_Is5 hwn p.sn H
  have hS := fun H => umd_size p hs hfl (w := wn) (by omega) H
  rw [sizeU,if_neg (not_not_intro hw),htn]
  have e : (if p.ff.length < 1 then 0 else if 24 < p.ff.length then 0 else sumR (baseU p wn) (bb p.ff)) = (if p.ff.length < 1 ∨ 24 < p.ff.length then 0 else sumR (baseU p wn) (bb p.ff)) := by
   by_cases a1 : p.ff.length < 1
   ·rw [if_pos a1,if_pos (.inl a1)]
   ·by_cases a2 : 24 < p.ff.length
    ·rw [if_neg a1,if_pos a2,if_pos (.inr a2)]
    ·rw [if_neg a1,if_neg a2,if_neg (by omega)]
  rw [e]
  obtain ⟨n,hn⟩ : ∃ t,(if p.ff.length < 1 ∨ 24 < p.ff.length then 0 else sumR (baseU p wn) (bb p.ff)) = t := ⟨_,rfl⟩
  rw [hn] at hS ⊢
  obtain ⟨fi,sn,z0,ff⟩ := p
  simp only at hI
  simp only [Um.v,Um.f] at hS
  clear hn e hs hfl
  by_cases c1 : fi < 0
  ·rw [if_pos c1]
   rw [call_L 6 rfl (rfl : P.T f_q73 = some F_q73) (le_ok rfl)]; simp -implicitDefEqProofs (disch := first | omega | (simp; done) | fail) [-toCells,-AV.one,-forget,F_q73,c_q73,cmp_ilt,cmp_ilf,cmp_ile,cmp_ilg,cmp_ine,cmp_ieq,cmp_nlt,cmp_nlf,cmp_nle,cmp_nne,cmp_neq,wrap_i64,wrap_u64,wrap_u8,Um.v,Um.f,hW]
  rw [if_neg c1]
  by_cases c2 : 3 < fi
  ·rw [if_pos c2]
   rw [call_L 6 rfl (rfl : P.T f_q73 = some F_q73) (le_ok rfl)]; simp -implicitDefEqProofs (disch := first | omega | (simp; done) | fail) [-toCells,-AV.one,-forget,F_q73,c_q73,cmp_ilt,cmp_ilf,cmp_ile,cmp_ilg,cmp_ine,cmp_ieq,cmp_nlt,cmp_nlf,cmp_nle,cmp_nne,cmp_neq,wrap_i64,wrap_u64,wrap_u8,Um.v,Um.f,hW]
  rw [if_neg c2]
  simp only
  by_cases c3 : 0 ≤ sn ∧ sn < (2 ^ wn : Nat)
  ·rw [decide_eq_true c3] at hI
   rw [if_neg (not_not_intro c3)]
   clear c3
   rw [call_L 6 rfl (rfl : P.T f_q73 = some F_q73) (le_ok rfl)]; simp -implicitDefEqProofs (disch := first | omega | (simp; done) | fail) [-toCells,-AV.one,-forget,F_q73,c_q73,cmp_ilt,cmp_ilf,cmp_ile,cmp_ilg,cmp_ine,cmp_ieq,cmp_nlt,cmp_nlf,cmp_nle,cmp_nne,cmp_neq,wrap_i64,wrap_u64,wrap_u8,Um.v,Um.f,hW,hI,hS]
  ·rw [decide_eq_false c3] at hI
   rw [if_pos c3]
   clear c3
   rw [call_L 6 rfl (rfl : P.T f_q73 = some F_q73) (le_ok rfl)]; simp -implicitDefEqProofs (disch := first | omega | (simp; done) | fail) [-toCells,-AV.one,-forget,F_q73,c_q73,cmp_ilt,cmp_ilf,cmp_ile,cmp_ilg,cmp_ine,cmp_ieq,cmp_nlt,cmp_nlf,cmp_nle,cmp_nne,cmp_neq,wrap_i64,wrap_u64,wrap_u8,Um.v,Um.f,hW,hI]
 ·rw [decide_eq_false hw] at hW
  rw [sizeU,if_pos hw]
  obtain ⟨fi,sn,z0,ff⟩ := p
  clear hs hfl
  rw [call_L 6 rfl (rfl : P.T f_q73 = some F_q73) (le_ok rfl)]; simp -implicitDefEqProofs (disch := first | omega | (simp; done) | fail) [-toCells,-AV.one,-forget,F_q73,c_q73,cmp_ilt,cmp_ilf,cmp_ile,cmp_ilg,cmp_ine,cmp_ieq,cmp_nlt,cmp_nlf,cmp_nle,cmp_nne,cmp_neq,wrap_i64,wrap_u64,wrap_u8,Um.v,Um.f,hW]
theorem umd_Right (p : Um) (hs : ∀ f ∈ p.ff,f.2.length ≤ 100000) (hfl : p.ff.length ≤ 100000) (w : Int) (H : Heap) :
  callW P f_q51 [.agg p.v,ai w] H = some (ab (decide (0 < sizeU p w)),H) := by
 have h := fun H => umd_Size p hs hfl w H
 obtain ⟨n,hn⟩ : ∃ n,sizeU p w = n := ⟨_,rfl⟩
 rw [hn] at h ⊢
 obtain ⟨fi,sn,z0,ff⟩ := p
 simp only [Um.v,Um.f] at h
 clear hs hfl hn
 by_cases h0 : 0 < n
 ·rw [call_L 4 rfl (rfl : P.T f_q51 = some F_q51) (le_ok rfl)]; simp -implicitDefEqProofs (disch := first | omega | (simp; done) | fail) [-toCells,-AV.one,-forget,F_q51,c_q51,cmp_ilt,cmp_ilf,cmp_ile,cmp_ilg,cmp_ine,cmp_ieq,cmp_nlt,cmp_nlf,cmp_nle,cmp_nne,cmp_neq,wrap_i64,wrap_u64,wrap_u8,Um.v,Um.f,h]
 ·rw [call_L 4 rfl (rfl : P.T f_q51 = some F_q51) (le_ok rfl)]; simp -implicitDefEqProofs (disch := first | omega | (simp; done) | fail) [-toCells,-AV.one,-forget,F_q51,c_q51,cmp_ilt,cmp_ilf,cmp_ile,cmp_ilg,cmp_ine,cmp_ieq,cmp_nlt,cmp_nlf,cmp_nle,cmp_nne,cmp_neq,wrap_i64,wrap_u64,wrap_u8,Um.v,Um.f,h]
end Go.A.V.S

namespace Go.A.V.S
open Go Go.A
end Go.A.V.S

namespace Go.A.V.S
open Go Go.A
end Go.A.V.S

namespace Go.A.V.S
open Go Go.A
section
variable {H : Heap}
def InvUl (H : Heap) (z1 : Bool) (r : List Bs) (z : Nat) (σ : List AV) (G : Heap) : Prop :=
 ∃ i : Nat,i + z = r.length ∧ G = H ∧ σ = L 23 (((((Tr.full 5).put (path 3) (lst true 1 (some 20) (nvs (((bb r).take i).map (·.length))))).put (path 10) (lst z1 1 none (bvs r))).put (path 11) (ai r.length)).put (path 12) (ai i))
def PostUl (H : Heap) (r : List Bs) (e : AExit) (σ : List AV) (G : Heap) : Prop :=
 G = H ∧ e = .exit 0 ∧ kill [10,11,12,13] σ = L 23 ((Tr.full 5).put (path 3) (lst true 1 (some 20) (nvs ((bb r).map (·.length)))))
theorem loopUl {z1 : Bool} {r : List Bs} (hl : r.length ≤ 100) (z : Nat) (σ : List AV) (G : Heap)
  (hI : InvUl H z1 r z (kill (headK lp0_q56) σ) G) :
  Ends (execW P f_q56 (.loop lp0_q56) σ G) fun s => PostUl H r s.e s.σ s.H := by
 refine loop_ends (fun z σ G => InvUl H z1 r z σ G) (PostUl H r) ?_ z σ G hI
 clear hI z σ G
 rintro z σ G ⟨i,hz,rfl,rfl⟩
 have hla : (bvs r).length = r.length := bvs_len r
 by_cases hi : i < r.length
 ·have hi' : (i : Int) < r.length := by omega
  obtain ⟨x,hx⟩ : ∃ x,r[i]? = some x := ⟨_,List.getElem?_eq_getElem hi⟩
  have q1 := bvs_at hx z1 none .i64
  have hxl := bv_len x
  have hsn : ((bb r).take (i + 1)).map (·.length) = ((bb r).take i).map (·.length) ++ [x.2.length] := by rw [take_snoc (bb_at hx)]; simp
  have hap := fun σ H => app1 (m := P.md f_q56) (d := 20) (bytes := 8) (v := ai x.2.length) (R_q56 20) (by omega) (by rw [nvs_len]; simp [bb_len]; omega) (l := nvs (((bb r).take i).map (·.length))) (some 19) σ H
  rw [← nvs_snoc,← hsn] at hap
  have w6 : IntKind.i64.wrap ((i : Int) + 1) = ((i + 1 : Nat) : Int) := by rw [wrap_i64 (by omega) (by omega)]; omega
  obtain ⟨i1,hi1⟩ : ∃ t,i + 1 = t := ⟨_,rfl⟩
  rw [hi1] at w6 hap
  generalize nvs (((bb r).take i).map (·.length)) = L0 at *
  have hres : ∀ σ,σ = L 23 (((((Tr.full 5).put (path 3) (lst true 1 (some 20) (nvs (((bb r).take i1).map (·.length))))).put (path 10) (lst z1 1 none (bvs r))).put (path 11) (ai r.length)).put (path 12) (ai i1)) → ∃ m,m < z ∧ InvUl G z1 r m σ G := fun σ e => ⟨z - 1,by omega,i1,by omega,rfl,e⟩
  generalize nvs (((bb r).take i1).map (·.length)) = L1 at *
  simp -implicitDefEqProofs [-toCells,-AV.one,-forget,c_q56,lp0_q56,hla,hi,hi',q1,hxl,hap,w6]
  exact hres _ (by simp)
 ·have hi' : ¬ (i : Int) < r.length := by omega
  have hall : (bb r).take i = bb r := List.take_of_length_le (by rw [bb_len]; omega)
  rw [hall]
  obtain ⟨L0,hL0⟩ : ∃ t,nvs ((bb r).map (·.length)) = t := ⟨_,rfl⟩
  rw [hL0]
  simp -implicitDefEqProofs [-toCells,-AV.one,-forget,c_q56,lp0_q56,hla,hi,hi']
  exact ⟨rfl,rfl,by rw [hL0]; simp⟩
theorem umd_lengths {z0 : Bool} {ff : List Bs} (h1 : 1 ≤ ff.length) (hl : ff.length ≤ 24) (H : Heap) :
  callW P f_q56 [lst z0 1 none (bvs ff)] H = some (lst true 1 (some 0) (nvs ((bb (ff.take (ff.length - 1))).map (·.length))),H) := by
 obtain ⟨l1,hl1⟩ : ∃ t,ff.length - 1 = t := ⟨_,rfl⟩
 obtain ⟨r,hr⟩ : ∃ t,ff.take l1 = t := ⟨_,rfl⟩
 have hrl : r.length = l1 := by rw [← hr,List.length_take]; omega
 rw [hl1,hr]
 have wl : IntKind.i64.wrap ((ff.length : Int) - 1) = (l1 : Int) := by rw [wrap_i64 (by omega) (by omega)]; omega
 have hla : (bvs ff).length = ff.length := bvs_len ff
 have hcut : ∀ d,cutV 1 d (lst z0 1 none (bvs ff)) none (some (ai l1)) none = some (lst (z0 && (bvs ff).isEmpty) 1 none (bvs r)) := fun d => by
  have h := cutV_lst (lo := none) (hi := some (ai l1)) (i := 0) (j := l1) z0 1 none d (bvs ff) (.inl ⟨rfl,rfl⟩) (.inr ⟨.i64,rfl⟩) (by omega) (by rw [hla]; omega)
  rw [h,cutL,List.drop_zero,← hr,bvs,bvs,List.map_take]
 have hrb : (bvs r).length = l1 := by rw [bvs_len,hrl]
 suffices hend : Ends (callW P f_q56 [lst z0 1 none (bvs ff)] H) fun y => y = (lst true 1 (some 0) (nvs ((bb r).map (·.length))),H) by
  obtain ⟨y,h2,rfl⟩ := hend
  exact h2
 refine call_post 5 23 rfl (rfl : P.T f_q56 = some F_q56) rfl (le_ok rfl) (fun e σ G => e = .ret ∧ G = H ∧ resultsA F_q56.res σ = some (lst true 1 (some 20) (nvs ((bb r).map (·.length))))) ?_ ?_
 ·rintro e σ G ⟨rfl,rfl,h2⟩
  refine ⟨rfl,_,h2,by simp,?_⟩
  simp
 obtain ⟨L0,hL0⟩ : ∃ t,nvs ((bb r).map (·.length)) = t := ⟨_,rfl⟩
 rw [F_q56]; simp -implicitDefEqProofs [-toCells,-AV.one,-forget,c_q56,hla,wl,hcut,hrb]
 repeat rw [Option.bind_assoc]
 refine Ends.block (P := PostUl H r) (loopUl (z1 := z0 && (bvs ff).isEmpty) (by omega) r.length _ _ ⟨0,by omega,rfl,by simp [lp0_q56,nvs,bb,hrl]⟩) ?_
 rintro e σ1 G2 ⟨rfl,rfl,k2⟩
 rw [hL0] at k2 ⊢
 simp -implicitDefEqProofs [-toCells,-AV.one,-forget,c_q56,k2]
end
end Go.A.V.S

namespace Go.A.V.S
open Go Go.A
def uBits (p : Um) (w : Nat) : List Bool :=
 ((if w = 10 then [false,false,false] else []) ++ bitsOf p.fi.toNat 2 ++ [decide (1 < p.ff.length)]) ++ bitsOf p.sn.toNat w
def lenU (p : Um) : List Nat := (bb (p.ff.take (p.ff.length - 1))).map (·.length)
def WrU (p : Um) (w : Nat) (out : List Nat) : Prop := ∃ hb lb,PackR (uBits p w) hb ∧ PackR (lBits 11 (lenU p)) lb ∧ out = hb ++ lb ++ (bb p.ff).flatten
theorem uBits_len (p : Um) {w : Nat} (hw : w = 5 ∨ w = 10) : (uBits p w).length = 8 * (w / 5) := by
 unfold uBits
 rcases hw with rfl | rfl <;> simp [bitsOf_len]
theorem sizeU_pos {p : Um} {w : Int} (h : sizeU p w ≠ 0) : (w = 5 ∨ w = 10) ∧ (0 ≤ p.fi ∧ p.fi ≤ 3) ∧ (0 ≤ p.sn ∧ p.sn < (2 ^ w.toNat : Nat)) ∧ 1 ≤ p.ff.length ∧ p.ff.length ≤ 24 ∧ sizeU p w = sumR (baseU p w.toNat) (bb p.ff) := by
 rw [sizeU] at h ⊢
 by_cases c1 : w = 5 ∨ w = 10
 ·rw [if_neg (not_not_intro c1)] at h ⊢
  by_cases c2 : p.fi < 0
  ·rw [if_pos c2] at h; exact (h rfl).elim
  rw [if_neg c2] at h ⊢
  by_cases c3 : 3 < p.fi
  ·rw [if_pos c3] at h; exact (h rfl).elim
  rw [if_neg c3] at h ⊢
  by_cases c4 : 0 ≤ p.sn ∧ p.sn < (2 ^ w.toNat : Nat)
  ·rw [if_neg (not_not_intro c4)] at h ⊢
   by_cases c5 : p.ff.length < 1
   ·rw [if_pos c5] at h; exact (h rfl).elim
   rw [if_neg c5] at h ⊢
   by_cases c6 : 24 < p.ff.length
   ·rw [if_pos c6] at h; exact (h rfl).elim
   rw [if_neg c6]
   exact ⟨c1,⟨by omega,by omega⟩,c4,by omega,by omega,rfl⟩
  ·rw [if_pos c4] at h; exact (h rfl).elim
 ·rw [if_pos c1] at h; exact (h rfl).elim
theorem bitsOf_z {w n0 : Nat} (hw : w = 5 ∧ n0 = 0 ∨ w = 10 ∧ n0 = 3) : bitsOf 0 n0 = (if w = 10 then [false,false,false] else []) := by
 rcases hw with ⟨rfl,rfl⟩ | ⟨rfl,rfl⟩ <;> decide
theorem lens_ok {p : Um} {n : Nat} (h : sumR n (bb p.ff) ≠ 0) : ∀ n ∈ lenU p,1 ≤ n ∧ n < 2 ^ 11 := fun n hn => by
 obtain ⟨s1,s2,s3,s4⟩ := sumR_pos (bb p.ff) _ h
 rw [lenU] at hn
 obtain ⟨b,hb1,rfl⟩ := List.mem_map.1 hn
 have hdr : bb (p.ff.take (p.ff.length - 1)) = (bb p.ff).dropLast := by rw [List.dropLast_eq_take,bb_len,bb,bb,List.map_take]
 rw [hdr] at hb1
 have h2 := s2 b hb1
 have h3 := s1 b (List.mem_of_mem_take (by rw [List.dropLast_eq_take] at hb1; exact hb1))
 have : (2 : Nat) ^ 11 = 2048 := by decide
 omega
section
variable {H : Heap}
set_option maxHeartbeats 2000000 in
theorem umd_Write_ok (p : Um) (hs : ∀ f ∈ p.ff,f.2.length ≤ 100000) (hfl : p.ff.length ≤ 100000) {w n0 : Nat} (hw : w = 5 ∧ n0 = 0 ∨ w = 10 ∧ n0 = 3) (H : Heap) (h0 : sizeU p w ≠ 0) :
  ∃ out k,WrU p w out ∧ callW P f_q26 [.agg p.v,ai w] H = some (.tup [.vs 1 none (byteCs out),ai 0],H ++ List.replicate k .other) := by
 obtain ⟨c1,⟨hf0,hf3⟩,⟨hs0,hs1⟩,hl1,hl24,hsz⟩ := sizeU_pos h0
 have h37 := fun H => umd_isWidth w H
 rw [decide_eq_true c1] at h37
 have hR := fun H => umd_Right p hs hfl w H
 rw [decide_eq_true (by omega)] at hR
 have htn : ((w : Nat) : Int).toNat = w := by simp
 rw [htn] at hs1 hsz
 rw [hsz] at h0
 have hlens := lens_ok h0
 obtain ⟨s1,s2,s3,s4⟩ := sumR_pos (bb p.ff) _ h0
 have hbne : bb p.ff ≠ [] := fun e => by have := congrArg List.length e; rw [bb_len] at this; simp at this; rw [this] at hl1; simp at hl1
 have hdl := s3 hbne
 clear s1 s2 s3 s4 hbne h0 hsz
 have hul := uBits_len p (w := w) (by omega)
 have huB : uBits p w = bitsOf 0 n0 ++ bitsOf p.fi.toNat 2 ++ [decide (1 < p.ff.length)] ++ bitsOf p.sn.toNat w := by rw [uBits,bitsOf_z hw]
 have hW : ∀ hb lb,PackR (uBits p w) hb → PackR (lBits 11 (lenU p)) lb → WrU p w (hb ++ lb ++ (bb p.ff).flatten) := fun hb lb a b => ⟨hb,lb,a,b,rfl⟩
 have hlu : lenU p = (bb (p.ff.take (p.ff.length - 1))).map (·.length) := rfl
 have hll : (lenU p).length = p.ff.length - 1 := by rw [hlu]; simp [bb_len]
 generalize WrU p w = WW at *
 generalize lenU p = ls at *
 generalize uBits p w = ub at *
 obtain ⟨fi,sn,z0,ff⟩ := p
 simp only [Um.v,Um.f] at *
 have hld := fun H => umd_lengths (z0 := z0) hl1 hl24 H
 rw [← hlu] at hld
 have hJ := fun H => bytes_Join (z0 := z0) hfl (by omega : (bb ff).flatten.length ≤ 1000000) H
 generalize (bb ff).flatten = data at *
 clear hs hfl hlu
 obtain ⟨fn,rfl⟩ : ∃ n : Nat,fi = n := ⟨fi.toNat,by omega⟩
 obtain ⟨sn',rfl⟩ : ∃ n : Nat,sn = n := ⟨sn.toNat,by omega⟩
 have hw16 : 2 ^ w ≤ 2 ^ 10 := Nat.pow_le_pow_right (by omega) (by omega)
 have e16 : (2 : Nat) ^ 10 = 1024 := by decide
 have hsn2 : sn' < 2 ^ w := by omega
 have wfi : IntKind.u64.wrap (fn : Int) = fn := wrap_u64 (by omega) (by omega)
 have wsn : IntKind.u64.wrap (sn' : Int) = sn' := wrap_u64 (by omega) (by omega)
 have hh := fun H => umd_head w (by omega) H
 have w8 : IntKind.i64.wrap (8 * ((w / 5 : Nat) : Int)) = (n0 + 3 + w : Nat) := by rcases hw with ⟨rfl,rfl⟩ | ⟨rfl,rfl⟩ <;> rfl
 have w5 : IntKind.i64.wrap (((n0 + 3 + w : Nat) : Int) - 3) = (n0 + w : Nat) := by rcases hw with ⟨rfl,rfl⟩ | ⟨rfl,rfl⟩ <;> rfl
 have w0 : IntKind.i64.wrap (((n0 + w : Nat) : Int) - w) = n0 := by rcases hw with ⟨rfl,rfl⟩ | ⟨rfl,rfl⟩ <;> rfl
 generalize ((w / 5 : Nat) : Int) = hd at *
 generalize ((n0 + 3 + w : Nat) : Int) = q8 at *
 generalize ((n0 + w : Nat) : Int) = q5 at *
 have hla : (bvs ff).length = ff.length := bvs_len ff
 obtain ⟨l1,hl1e⟩ : ∃ t,ff.length - 1 = t := ⟨_,rfl⟩
 have wl : IntKind.i64.wrap ((ff.length : Int) - 1) = (l1 : Int) := by rw [wrap_i64 (by omega) (by omega)]; omega
 have c0 := bits_New H
 have hcs : ∀ a b : List Nat,byteCs a ++ byteCs b = byteCs (a ++ b) := fun a b => by simp [byteCs]
 obtain ⟨x1,y1,e1,n1,p1,k1⟩ := put1 (H := H) (l := []) (bits := []) (m := 0) rfl PackR.nil (by omega) 0 n0 (by omega) (Nat.two_pow_pos _) 0 n0 rfl rfl
 obtain ⟨x2,y2,e2,n2,p2,k2⟩ := put1 (H := H) n1 p1 (by omega) fn 2 (by omega) (by simp; omega) fn 2 rfl rfl
 by_cases hl0 : l1 = 0
 ·have hls0 : ls = [] := List.length_eq_zero_iff.1 (by omega)
  obtain ⟨x3,y3,e3,n3,p3,k3⟩ := put1 (H := H) n2 p2 (by omega) 0 1 (by omega) (by decide) 0 1 rfl rfl
  obtain ⟨x4,y4,e4,n4,p4,k4⟩ := put1 (H := H) n3 p3 (by omega) sn' w (by omega) hsn2 sn' w rfl rfl
  have hb : ub = x4 := by rw [huB,e4,e3,e2,e1,bitsOf_0,decide_eq_false (by omega),Int.toNat_natCast,Int.toNat_natCast,List.nil_append]
  have hx0 : x4 ≠ [] := fun e => by rw [e,List.length_nil] at n4; omega
  have c9 := bits_Bytes (H := H) p4 hx0 (by omega)
  obtain ⟨t1,t2⟩ := WN_fin (H := H) y4 hx0
  generalize WN H x4 y4 = G0 at *
  obtain ⟨zd,fd,kd,hD⟩ := hJ G0
  have hyl : y4.length ≤ 100 := by have := p4.len; omega
  have wz : IntKind.u64.wrap 0 = 0 := rfl
  have hmn : mn (l1 : Int) 1 = 0 := by rw [mn,if_neg (by omega)]; omega
  have hap := fun (f : Option Nat) σ H => appW_vs (m := P.md f_q26) (d := 70) (bytes := 1) (c := 50) (l := byteCs y4) (l' := byteCs data) (x := lst zd 1 f (byteCs data)) (fun H => elems_lst zd f 1 _ H) (by simp [byteCs_len,appBound]; omega) (by simp [byteCs_len,appBound]; omega) σ H
  have hres := hW y4 [] (by rw [hb]; exact p4) (by rw [hls0]; exact PackR.nil)
  rw [List.append_nil] at hres
  rw [hcs] at hap
  generalize y4 ++ data = out at *
  have t1' : (G0 ++ List.replicate kd AObj.other).take H.length = H := by rw [List.take_append_of_le_length (by omega),t1]
  have t2' : (G0 ++ List.replicate kd AObj.other).length = H.length + (2 + kd) := by simp [t2]; omega
  generalize G0 ++ List.replicate kd AObj.other = G1 at *
  refine ⟨out,2 + kd,hres,?_⟩
  clear hres hW huB hlens hls0 hb
  rw [call_L 7 rfl (rfl : P.T f_q26 = some F_q26) (le_ok rfl)]; simp -implicitDefEqProofs [-toCells,-AV.one,-forget,F_q26,c_q26,keepB,goodB_L,sameV,dstNot,dstNe,SOpG.reads,SOp.slots,SX.slots,SOp.noL,rdV,selfE_lst,selfE,selfEs,eqV,h37,hR,c0,hla,wl,hmn,wz,hh,w8,w5,w0,k1,wfi,k2,k3,wsn,k4,c9,hD,hap,t1',t2']
 ·have hl0p : 0 < l1 := by omega
  obtain ⟨x3,y3,e3,n3,p3,k3⟩ := put1 (H := H) n2 p2 (by omega) 1 1 (by omega) (by decide) 1 1 rfl rfl
  obtain ⟨x4,y4,e4,n4,p4,k4⟩ := put1 (H := H) n3 p3 (by omega) sn' w (by omega) hsn2 sn' w rfl rfl
  have hb : ub = x4 := by rw [huB,e4,e3,e2,e1,bitsOf_1,decide_eq_true (by omega),Int.toNat_natCast,Int.toNat_natCast,List.nil_append]
  have hx0 : x4 ≠ [] := fun e => by rw [e,List.length_nil] at n4; omega
  have c9 := bits_Bytes (H := H) p4 hx0 (by omega)
  obtain ⟨t1,t2⟩ := WN_fin (H := H) y4 hx0
  generalize WN H x4 y4 = G0 at *
  obtain ⟨lb,hpb,hL⟩ := lens_Write (z0 := true) (l := ls) (w := 11) (by omega) (by omega) (.inl rfl) hlens G0
  replace hL : callW P f_q55 [lst true 1 none (nvs ls),ai 11] G0 = some (.tup [.vs 1 none (byteCs lb),ai 0],G0 ++ List.replicate 2 .other) := hL
  have hlbl := hpb.len
  have hlb2 := lBits_le (w := 11) (.inl rfl) (l := ls) (by omega)
  obtain ⟨zd,fd,kd,hD⟩ := hJ (G0 ++ List.replicate 2 .other)
  rw [oth_app] at hD
  generalize G0 ++ List.replicate 2 AObj.other = GL at *
  have hyl : y4.length ≤ 100 := by have := p4.len; omega
  have wz : IntKind.u64.wrap 1 = 1 := rfl
  have hmn : mn (l1 : Int) 1 = 1 := by
   by_cases h : l1 = 1
   ·rw [h]; rfl
   ·rw [mn,if_pos (by omega)]
  have hap1 := fun σ H => appW_vs (m := P.md f_q26) (d := 65) (bytes := 1) (c := 50) (l := byteCs y4) (l' := byteCs lb) (x := .vs 1 none (byteCs lb)) (fun H => elems_vs H 1 none (byteCs lb)) (by simp [byteCs_len,appBound]; omega) (by simp [byteCs_len,appBound]; omega) σ H
  have hap := fun (f : Option Nat) σ H => appW_vs (m := P.md f_q26) (d := 70) (bytes := 1) (c := 65) (l := byteCs (y4 ++ lb)) (l' := byteCs data) (x := lst zd 1 f (byteCs data)) (fun H => elems_lst zd f 1 _ H) (by simp [byteCs_len,appBound]; omega) (by simp [byteCs_len,appBound]; omega) σ H
  have hres := hW y4 lb (by rw [hb]; exact p4) hpb
  rw [hcs] at hap1
  rw [hcs] at hap
  generalize y4 ++ lb = yl at *
  generalize yl ++ data = out at *
  have t1' : (G0 ++ List.replicate (2 + kd) AObj.other).take H.length = H := by rw [List.take_append_of_le_length (by omega),t1]
  have t2' : (G0 ++ List.replicate (2 + kd) AObj.other).length = H.length + (2 + (2 + kd)) := by simp [t2]; omega
  generalize G0 ++ List.replicate (2 + kd) AObj.other = G1 at *
  refine ⟨out,2 + (2 + kd),hres,?_⟩
  clear hres hW huB hlens hb
  rw [call_L 7 rfl (rfl : P.T f_q26 = some F_q26) (le_ok rfl)]; simp -implicitDefEqProofs [-toCells,-AV.one,-forget,F_q26,c_q26,keepB,goodB_L,sameV,dstNot,dstNe,SOpG.reads,SOp.slots,SX.slots,SOp.noL,rdV,selfE_lst,selfE,selfEs,eqV,h37,hR,c0,hla,wl,hmn,wz,hh,w8,w5,w0,k1,wfi,k2,k3,wsn,k4,c9,hld,hL,hap1,hD,hap,t1',t2']
end
end Go.A.V.S

namespace Go.A.V.S
open Go Go.A
theorem umd_Write (p : Um) (hs : ∀ f ∈ p.ff,f.2.length ≤ 100000) (hfl : p.ff.length ≤ 100000) (w : Int) (H : Heap) :
  (¬ (w = 5 ∨ w = 10) → callW P f_q26 [.agg p.v,ai w] H = some (.tup [nilS,ai 9],H)) ∧
  ((w = 5 ∨ w = 10) → sizeU p w = 0 → callW P f_q26 [.agg p.v,ai w] H = some (.tup [nilS,ai 3],H)) ∧
  (sizeU p w ≠ 0 → ∃ out k,WrU p w.toNat out ∧ callW P f_q26 [.agg p.v,ai w] H = some (.tup [.vs 1 none (byteCs out),ai 0],H ++ List.replicate k .other)) := by
 have h37 := fun H => umd_isWidth w H
 have hR := fun H => umd_Right p hs hfl w H
 refine ⟨fun hw => ?_,fun hw h0 => ?_,fun h0 => ?_⟩
 ·rw [decide_eq_false hw] at h37
  obtain ⟨fi,sn,z0,ff⟩ := p
  rw [call_L 7 rfl (rfl : P.T f_q26 = some F_q26) (le_ok rfl)]; simp -implicitDefEqProofs [-toCells,-AV.one,-forget,F_q26,c_q26,Um.v,Um.f,h37]
 ·rw [decide_eq_true hw] at h37
  rw [h0] at hR
  replace hR : ∀ H,callW P f_q51 [.agg p.v,ai w] H = some (ab false,H) := hR
  obtain ⟨fi,sn,z0,ff⟩ := p
  simp only [Um.v,Um.f] at hR
  rw [call_L 7 rfl (rfl : P.T f_q26 = some F_q26) (le_ok rfl)]; simp -implicitDefEqProofs [-toCells,-AV.one,-forget,F_q26,c_q26,Um.v,Um.f,h37,hR]
 ·obtain ⟨c1,-⟩ := sizeU_pos h0
  rcases c1 with rfl | rfl
  ·exact umd_Write_ok p hs hfl (w := 5) (n0 := 0) (.inl ⟨rfl,rfl⟩) H h0
  ·exact umd_Write_ok p hs hfl (w := 10) (n0 := 3) (.inr ⟨rfl,rfl⟩) H h0
end Go.A.V.S

namespace Go.A.V.S
open Go Go.A
end Go.A.V.S
