/- Equal statuses, equal packets that are not acknowledged. -/
import Derived.Test.YtnmobjhmohcjfaaXG
import Derived.Test.YtnmobjhmohcjfaaXD
import Derived.Test.YtnmobjhmohcjfaaXB
set_option linter.unusedSimpArgs false
set_option linter.unusedVariables false
set_option linter.unnecessarySimpa false
namespace Go.A.V.S
open Go Go.A
set_option linter.unusedSimpArgs false
set_option linter.unusedVariables false
def Um.eq (p q : Um) : Bool := decide (p.fi = q.fi) && decide (p.sn = q.sn) && decide (bb p.ff = bb q.ff)
def St.eq (s t : St) : Bool := decide (s.ack = t.ack) && decide (s.ms = t.ms)
theorem ms_ne (m n : Ms) : binA .neq (.agg [.i,.b,.i,.i]) (.agg m.v) (.agg n.v) = some (ab (decide (m ≠ n))) := by
 obtain ⟨a,b,c,d⟩ := m
 obtain ⟨a2,b2,c2,d2⟩ := n
 rw [binA_nea,if_pos ⟨rfl,rfl⟩]
 simp only [Ms.v,eqAll_i]
 by_cases h1 : a = a2
 ·subst h1
  by_cases h2 : b = b2
  ·subst h2
   simp only [eqAll_b,eqAll_i,eqAll_nil]
   by_cases h3 : c = c2
   ·by_cases h4 : d = d2
    ·simp [h3,h4]
    ·simp [h3,h4]
   ·simp [h3]
  ·have e : eqAll [.b,.i,.i] [ab b,ai c,ai d] [ab b2,ai c2,ai d2] = some false := by
    have h2' : (b == b2) = false := by simp [h2]
    simp only [eqAll,eqScalar,h2']
   rw [if_pos rfl,e]
   simp [h2]
 ·rw [if_neg h1]; simp [h1]
theorem rUSame (p q : Um) (hs : p.ff.length ≤ 100000) (hs2 : q.ff.length ≤ 100000) (hba : BytesF p.ff) (hbb : BytesF q.ff) (H : Heap) :
  callW P f_q24 [.agg p.v,.agg q.v] H = some (ab (p.eq q),H) := by
 have hf := fun H => rSameFields (za := p.z) (zb := q.z) hs hs2 hba hbb H
 obtain ⟨fi,sn,z0,ff⟩ := p
 obtain ⟨fi2,sn2,z02,ff2⟩ := q
 simp only at hf
 simp only [Um.eq]
 by_cases h2 : fi = fi2
 ·by_cases h3 : sn = sn2
  ·rw [call_L 5 rfl (rfl : P.T f_q24 = some F_q24) (le_ok rfl)]; simp -implicitDefEqProofs [-toCells,-AV.one,-forget,F_q24,c_q24,Um.v,Um.f,h2,h3,hf]
  ·rw [call_L 5 rfl (rfl : P.T f_q24 = some F_q24) (le_ok rfl)]; simp -implicitDefEqProofs [-toCells,-AV.one,-forget,F_q24,c_q24,Um.v,Um.f,h2,h3]
 ·rw [call_L 5 rfl (rfl : P.T f_q24 = some F_q24) (le_ok rfl)]; simp -implicitDefEqProofs [-toCells,-AV.one,-forget,F_q24,c_q24,Um.v,Um.f,h2]
section
variable {H : Heap}
def InvSm (H : Heap) (s t : St) (z : Nat) (σ : List AV) (G : Heap) : Prop :=
 ∃ i : Nat,i + z = s.ms.length ∧ s.ms.take i = t.ms.take i ∧ G = H ∧ σ = L 38 ((((Tr.full 6).put (path 2) (.lbox [ai s.ack,lst s.z 4 none (mvs s.ms)])).put (path 3) (.lbox [ai t.ack,lst t.z 4 none (mvs t.ms)])).put (path 5) (ai i))
def PostSm (H : Heap) (s t : St) (e : AExit) (σ : List AV) (G : Heap) : Prop :=
 G = H ∧ ((e = .exit 0 ∧ s.ms = t.ms ∧ kill [2,3,5,20,21,22,23,24] σ = L 38 (Tr.full 6)) ∨ (e = .ret ∧ s.ms ≠ t.ms ∧ resultsA F_q26.res σ = some (ab false)))
theorem sm_loop {s t : St} (hl : s.ms.length = t.ms.length) (hs : s.ms.length ≤ 100000) (z : Nat) (σ : List AV) (G : Heap) (hI : InvSm H s t z (kill (headK lp0_q26) σ) G) :
  Ends (execW P f_q26 (.loop lp0_q26) σ G) fun x => PostSm H s t x.e x.σ x.H := by
 refine loop_ends (fun z σ G => InvSm H s t z σ G) (PostSm H s t) ?_ z σ G hI
 clear hI z σ G
 rintro z σ G ⟨i,hz,heq,rfl,rfl⟩
 obtain ⟨sa,sz,sm⟩ := s
 obtain ⟨ta,tz,tm⟩ := t
 simp only at hl hs hz heq
 have hla : (mvs sm).length = sm.length := mvs_len sm
 by_cases hi : i < sm.length
 ·have hi' : (i : Int) < sm.length := by omega
  obtain ⟨x,hx⟩ : ∃ x,sm[i]? = some x := ⟨_,List.getElem?_eq_getElem hi⟩
  obtain ⟨y,hy⟩ : ∃ y,tm[i]? = some y := ⟨_,List.getElem?_eq_getElem (by omega)⟩
  have q1 := mvs_at hx sz none .i64
  have q2 := mvs_at hy tz none .i64
  have hne := ms_ne x y
  have hx4 : x.v.length = 4 := rfl
  have hy4 : y.v.length = 4 := rfl
  have hxt : x.v.take 4 = x.v := rfl
  have hyt : y.v.take 4 = y.v := rfl
  have w1 : IntKind.i64.wrap ((i : Int) + 1) = ((i + 1 : Nat) : Int) := by rw [wrap_i64 (by omega) (by omega)]; omega
  obtain ⟨i1,hi1⟩ : ∃ i1,i + 1 = i1 := ⟨_,rfl⟩
  rw [hi1] at w1
  have htk : x = y → sm.take i1 = tm.take i1 := fun h => by rw [← hi1,take_snoc hx,take_snoc hy,heq,h]
  by_cases hxy : x = y
  ·rw [decide_eq_false (not_not_intro hxy)] at hne
   replace htk := htk hxy
   generalize y.v = yv at *
   generalize x.v = xv at *
   simp -implicitDefEqProofs [-toCells,-AV.one,-forget,c_q26,lp0_q26,keepB,-goodB,goodB_L,sameV,dstNot,dstNe,SOpG.reads,SOp.slots,SX.slots,SOp.noL,rdV_load,selfE_lst,selfE,selfEs,eqV,hla,hi,hi',q1,q2,hx4,hy4,hxt,hyt,hne,w1]
   exact ⟨z - 1,by omega,i1,by simp only; omega,htk,rfl,by simp⟩
  ·rw [decide_eq_true hxy] at hne
   have hnn : sm ≠ tm := by
    intro h
    rw [h,hy] at hx
    exact hxy (Option.some.inj hx).symm
   generalize y.v = yv at *
   generalize x.v = xv at *
   simp -implicitDefEqProofs [-toCells,-AV.one,-forget,c_q26,lp0_q26,keepB,-goodB,goodB_L,sameV,dstNot,dstNe,SOpG.reads,SOp.slots,SX.slots,SOp.noL,rdV_load,selfE_lst,selfE,selfEs,eqV,hla,hi,hi',q1,q2,hx4,hy4,hxt,hyt,hne,w1]
   exact ⟨rfl,.inr ⟨rfl,hnn,by simp [F_q26]⟩⟩
 ·have hi' : ¬ (i : Int) < sm.length := by omega
  rw [List.take_of_length_le (by omega),List.take_of_length_le (by omega)] at heq
  simp -implicitDefEqProofs [-toCells,-AV.one,-forget,c_q26,lp0_q26,hla,hi,hi']
  exact ⟨rfl,.inl ⟨rfl,heq,by simp⟩⟩
theorem rSSame (s t : St) (hs : s.ms.length ≤ 100000) (hs2 : t.ms.length ≤ 100000) (H : Heap) :
  callW P f_q26 [.agg s.v,.agg t.v] H = some (ab (s.eq t),H) := by
 have hla : (mvs s.ms).length = s.ms.length := mvs_len _
 have hlb : (mvs t.ms).length = t.ms.length := mvs_len _
 by_cases ha : s.ack = t.ack
 ·by_cases hl : s.ms.length = t.ms.length
  ·have hl' : (s.ms.length : Int) = t.ms.length := by omega
   rw [ends_eq,St.eq,decide_eq_true ha,Bool.true_and]
   refine call_post 6 38 rfl (rfl : P.T f_q26 = some F_q26) rfl (le_ok rfl) (fun e σ G => e = .ret ∧ G = H ∧ resultsA F_q26.res σ = some (ab (decide (s.ms = t.ms)))) ?_ ?_
   ·rintro e σ G ⟨rfl,rfl,h⟩
    exact ⟨rfl,_,h,rfl,by simp⟩
   rw [F_q26]; simp -implicitDefEqProofs [-toCells,-AV.one,-forget,c_q26,St.v,hla,hlb,ha,hl,hl']
   repeat rw [Option.bind_assoc]
   refine Ends.block (P := PostSm H s t) (sm_loop hl hs s.ms.length _ _ ⟨0,by omega,by simp,rfl,by simp [lp0_q26,ha]⟩) ?_
   rintro e σ1 G1 ⟨rfl,⟨rfl,c1,c2⟩ | ⟨rfl,c1,c2⟩⟩
   ·simp -implicitDefEqProofs [-toCells,-AV.one,-forget,c_q26,c2,c1]
   ·simp [F_q26] at c2
    simp -implicitDefEqProofs [-toCells,-AV.one,-forget,c_q26,c2,c1]
  ·have hl' : ¬ (s.ms.length : Int) = t.ms.length := by omega
   have hne : s.ms ≠ t.ms := fun h => hl (by rw [h])
   rw [St.eq,decide_eq_false hne,Bool.and_false]
   rw [call_L 6 rfl (rfl : P.T f_q26 = some F_q26) (le_ok rfl)]; simp -implicitDefEqProofs [-toCells,-AV.one,-forget,F_q26,c_q26,St.v,hla,hlb,ha,hl,hl']
 ·rw [St.eq,decide_eq_false ha,Bool.false_and]
  rw [call_L 6 rfl (rfl : P.T f_q26 = some F_q26) (le_ok rfl)]; simp -implicitDefEqProofs [-toCells,-AV.one,-forget,F_q26,c_q26,St.v,ha]
end
end Go.A.V.S

namespace Go.A.V.S
open Go Go.A
set_option linter.unusedSimpArgs false
set_option linter.unusedVariables false
section
variable {H : Heap}
def InvAs (H : Heap) (s : St) (z : Nat) (σ : List AV) (G : Heap) : Prop :=
 ∃ i : Nat,i + z = s.ms.length ∧ G = H ∧ σ = L 36 (((((Tr.full 6).put (path 1) (.lbox [ai s.ack,lst s.z 4 none (mvs s.ms)])).put (path 2) (.lbox [ai 0,nilS])).put (path 3) (.lbox [ai s.ack,lst true 4 (some 33) (mvs (s.ms.take i))])).put (path 4) (ai i))
def PostAs (H : Heap) (s : St) (e : AExit) (σ : List AV) (G : Heap) : Prop :=
 G = H ∧ e = .exit 0 ∧ kill [1,4,9,10,11,12,13] σ = L 36 (((Tr.full 6).put (path 2) (.lbox [ai 0,nilS])).put (path 3) (.lbox [ai s.ack,lst true 4 (some 33) (mvs s.ms)]))
theorem as_loop {s : St} (hs : s.ms.length ≤ 1000) (z : Nat) (σ : List AV) (G : Heap) (hI : InvAs H s z (kill (headK lp0_q28) σ) G) :
  Ends (execW P f_q28 (.loop lp0_q28) σ G) fun x => PostAs H s x.e x.σ x.H := by
 refine loop_ends (fun z σ G => InvAs H s z σ G) (PostAs H s) ?_ z σ G hI
 clear hI z σ G
 rintro z σ G ⟨i,hz,rfl,rfl⟩
 obtain ⟨sa,sz,sm⟩ := s
 simp only at hs hz
 have hla : (mvs sm).length = sm.length := mvs_len sm
 by_cases hi : i < sm.length
 ·have hi' : (i : Int) < sm.length := by omega
  obtain ⟨x,hx⟩ : ∃ x,sm[i]? = some x := ⟨_,List.getElem?_eq_getElem hi⟩
  have q1 := mvs_at hx sz none .i64
  have w1 : IntKind.i64.wrap ((i : Int) + 1) = ((i + 1 : Nat) : Int) := by rw [wrap_i64 (by omega) (by omega)]; omega
  have hap := fun σ H => appW_lst (m := P.md f_q28) (d := 33) (sz := 4) (bytes := 32) (l := mvs (sm.take i)) (l' := [x.v]) (x := .vs 4 (some 32) [x.v]) (R_q28 33) (fun H => elems_vs H 4 (some 32) [x.v]) (by rw [mvs_len,List.length_take]; simp [appBound]; omega) (by rw [mvs_len,List.length_take]; simp [appBound]; omega) σ H
  rw [← mvs_snoc,← take_snoc hx] at hap
  obtain ⟨i1,hi1⟩ : ∃ i1,i + 1 = i1 := ⟨_,rfl⟩
  rw [hi1] at w1 hap
  obtain ⟨a,b,c,d⟩ := x
  simp only [Ms.v] at q1 hap
  generalize hl1 : mvs (sm.take i1) = l1 at *
  generalize mvs (sm.take i) = l0 at *
  simp -implicitDefEqProofs [-toCells,-AV.one,-forget,c_q28,lp0_q28,hla,hi,hi',q1,w1,hap]
  exact ⟨z - 1,by omega,i1,by simp only; omega,rfl,by simp [hl1]⟩
 ·have hi' : ¬ (i : Int) < sm.length := by omega
  rw [List.take_of_length_le (by simp only; omega)]
  simp -implicitDefEqProofs [-toCells,-AV.one,-forget,c_q28,lp0_q28,hla,hi,hi']
  exact ⟨rfl,rfl,by simp⟩
theorem lSAs (s : St) (hs : s.ms.length ≤ 1000) (H : Heap) : callW P f_q28 [.agg s.v] H = some (.agg [ai s.ack,lst true 4 none (mvs s.ms)],H) := by
 rw [ends_eq]
 refine call_post 6 36 rfl (rfl : P.T f_q28 = some F_q28) rfl (le_ok rfl) (fun e σ G => e = .ret ∧ G = H ∧ resultsA F_q28.res σ = some (.agg [ai s.ack,lst true 4 (some 33) (mvs s.ms)])) ?_ ?_
 ·rintro e σ G ⟨rfl,rfl,h⟩
  exact ⟨rfl,_,h,by simp,by simp⟩
 rw [F_q28]; simp -implicitDefEqProofs [-toCells,-AV.one,-forget,c_q28,St.v]
 repeat rw [Option.bind_assoc]
 refine Ends.block (P := PostAs H s) (as_loop hs s.ms.length _ _ ⟨0,by omega,rfl,by simp [lp0_q28,mvs]⟩) ?_
 rintro e σ1 G1 ⟨rfl,rfl,c2⟩
 simp -implicitDefEqProofs [-toCells,-AV.one,-forget,c_q28,c2]
end
structure Un where
 kind : Int
 raw : Bs
 um : Um
 am : Pk
 st : St
def Un.v (u : Un) : List AV := [ai u.kind,bv u.raw,ai u.um.fi,ai u.um.sn,lst u.um.z 1 none (bvs u.um.ff),ab u.am.poll,ai u.am.fi,ai u.am.sn,ab u.am.part,ab u.am.last,ai u.am.off,lst u.am.z 1 none (bvs u.am.ff),ai u.st.ack,lst u.st.z 4 none (mvs u.st.ms)]
def Un.n (u : Un) : Un := { u with st := { u.st with z := true } }
def Un.great (u : Un) : Bool := decide (1100 < u.raw.2.length) || greatR u.um.ff || greatR u.am.ff || decide (60 < u.st.ms.length)
def Un.eq (u v : Un) : Bool := decide (u.kind = v.kind) && decide (u.raw.2 = v.raw.2) && u.um.eq v.um && u.am.eq v.am && u.st.eq v.st
end Go.A.V.S

namespace Go.A.V.S
open Go Go.A
set_option linter.unusedSimpArgs false
set_option linter.unusedVariables false
theorem lUAs (u : Un) (hs : u.st.ms.length ≤ 1000) (H : Heap) : callW P f_q8 [.agg u.v] H = some (.agg u.n.v,H) := by
 obtain ⟨k,r,um,am,st⟩ := u
 have h1 := fun H => lAs am H
 have h2 := fun H => lSAs st hs H
 obtain ⟨ufi,usn,uz,uf⟩ := um
 obtain ⟨po,fi,sn,pa,la,off,z0,ff⟩ := am
 obtain ⟨sa,sz,sm⟩ := st
 simp only [Pk.v,Pk.f,pktV,St.v] at h1 h2
 simp only [Un.n,Un.v]
 have hsr : selfE (bv r) = true := selfE_lst _ _ _ _
 rw [call_L 5 rfl (rfl : P.T f_q8 = some F_q8) (le_ok rfl)]; simp -implicitDefEqProofs [-toCells,-AV.one,-forget,F_q8,c_q8,keepB,-goodB,goodB_L,sameV,dstNot,dstNe,SOpG.reads,SOp.slots,SX.slots,SOp.noL,rdV_load,selfE_lst,selfE,selfEs,eqV,hsr,h1,h2]
theorem lUGreat (u : Un) (H : Heap) : callW P f_q3 [.agg u.v] H = some (ab u.great,H) := by
 obtain ⟨k,r,um,am,st⟩ := u
 obtain ⟨ufi,usn,uz,uf⟩ := um
 obtain ⟨po,fi,sn,pa,la,off,z0,ff⟩ := am
 obtain ⟨sa,sz,sm⟩ := st
 have g1 := fun H => lGreat (z0 := uz) (ff := uf) H
 have g2 := fun H => lGreat (z0 := z0) (ff := ff) H
 have hr := bv_len r
 have hm := mvs_len sm
 have hlm : lenW (lst sz 4 none (mvs sm)) = some sm.length := by simp [hm]
 simp only [Un.great,Un.v]
 by_cases c1 : 1100 < r.2.length
 ·have c1' : (1100 : Int) < r.2.length := by omega
  have c1'' : (r.2.length : Int) > 1100 := by omega
  rw [decide_eq_true c1]
  rw [call_L 5 rfl (rfl : P.T f_q3 = some F_q3) (le_ok rfl)]; simp -implicitDefEqProofs [-toCells,-AV.one,-forget,F_q3,c_q3,hr,c1,c1',c1'']
 have c1' : ¬ (1100 : Int) < r.2.length := by omega
 have c1'' : ¬ (r.2.length : Int) > 1100 := by omega
 rw [decide_eq_false c1]
 cases d1 : greatR uf with
 | true =>
  rw [d1] at g1
  rw [call_L 5 rfl (rfl : P.T f_q3 = some F_q3) (le_ok rfl)]; simp -implicitDefEqProofs [-toCells,-AV.one,-forget,F_q3,c_q3,hr,c1,c1',c1'',g1]
 | false =>
  rw [d1] at g1
  cases d2 : greatR ff with
  | true =>
   rw [d2] at g2
   rw [call_L 5 rfl (rfl : P.T f_q3 = some F_q3) (le_ok rfl)]; simp -implicitDefEqProofs [-toCells,-AV.one,-forget,F_q3,c_q3,hr,c1,c1',c1'',g1,g2]
  | false =>
   rw [d2] at g2
   by_cases c2 : 60 < sm.length
   ·have c2' : (60 : Int) < sm.length := by omega
    have c2'' : (sm.length : Int) > 60 := by omega
    rw [decide_eq_true c2]
    rw [call_L 5 rfl (rfl : P.T f_q3 = some F_q3) (le_ok rfl)]; simp -implicitDefEqProofs [-toCells,-AV.one,-forget,F_q3,c_q3,hr,c1,c1',c1'',g1,g2,hm,c2,c2',c2'']
   ·have c2' : ¬ (60 : Int) < sm.length := by omega
    have c2'' : ¬ (sm.length : Int) > 60 := by omega
    rw [decide_eq_false c2]
    rw [call_L 5 rfl (rfl : P.T f_q3 = some F_q3) (le_ok rfl)]; simp -implicitDefEqProofs [-toCells,-AV.one,-forget,F_q3,c_q3,hr,c1,c1',c1'',g1,g2,hm,c2,c2',c2'']
structure Un.ok (u : Un) : Prop where
 r : Bytes u.raw.2
 uf : u.um.ff.length ≤ 100000
 af : u.am.ff.length ≤ 100000
 ms : u.st.ms.length ≤ 1000
 ub : BytesF u.um.ff
 ab : BytesF u.am.ff
set_option maxHeartbeats 1000000 in
theorem rUnSame (u v : Un) (hu : u.ok) (hv : v.ok) (H : Heap) : callW P f_q7 [.agg u.v,.agg v.v] H = some (ab (u.eq v),H) := by
 have e1 := fun H => rUSame u.um v.um hu.uf hv.uf hu.ub hv.ub H
 have e2 := fun H => rSame u.am v.am hu.af hv.af hu.ab hv.ab H
 have e3 := fun H => rSSame u.st v.st (by have := hu.ms; omega) (by have := hv.ms; omega) H
 have hst := binA_strEq .no hu.r hv.r
 have s1 := fun H => bv_str H u.raw
 have s2 := fun H => bv_str H v.raw
 obtain ⟨k,r,um,am,st⟩ := u
 obtain ⟨k2,r2,um2,am2,st2⟩ := v
 simp only [Un.eq]
 simp only at e1 e2 e3 hst s1 s2
 generalize um.eq um2 = b1 at *
 generalize am.eq am2 = b2 at *
 generalize st.eq st2 = b3 at *
 obtain ⟨ufi,usn,uz,uf⟩ := um
 obtain ⟨po,fi,sn,pa,la,off,z0,ff⟩ := am
 obtain ⟨sa,sz,sm⟩ := st
 obtain ⟨ufi2,usn2,uz2,uf2⟩ := um2
 obtain ⟨po2,fi2,sn2,pa2,la2,off2,z02,ff2⟩ := am2
 obtain ⟨sa2,sz2,sm2⟩ := st2
 simp only [Um.v,Um.f,Pk.v,Pk.f,pktV,St.v] at e1 e2 e3
 simp only [Un.v]
 clear hu hv
 by_cases h1 : k = k2
 ·by_cases h2 : r.2 = r2.2
  ·rw [decide_eq_true h2] at hst ⊢
   cases b1 with
   | true =>
    cases b2 with
    | true => rw [call_L 6 rfl (rfl : P.T f_q7 = some F_q7) (le_ok rfl)]; simp -implicitDefEqProofs [-toCells,-AV.one,-forget,F_q7,c_q7,h1,hst,s1,s2,e1,e2,e3]
    | false => rw [call_L 6 rfl (rfl : P.T f_q7 = some F_q7) (le_ok rfl)]; simp -implicitDefEqProofs [-toCells,-AV.one,-forget,F_q7,c_q7,h1,hst,s1,s2,e1,e2]
   | false => rw [call_L 6 rfl (rfl : P.T f_q7 = some F_q7) (le_ok rfl)]; simp -implicitDefEqProofs [-toCells,-AV.one,-forget,F_q7,c_q7,h1,hst,s1,s2,e1]
  ·rw [decide_eq_false h2] at hst ⊢
   rw [call_L 6 rfl (rfl : P.T f_q7 = some F_q7) (le_ok rfl)]; simp -implicitDefEqProofs [-toCells,-AV.one,-forget,F_q7,c_q7,h1,hst,s1,s2]
 ·rw [call_L 6 rfl (rfl : P.T f_q7 = some F_q7) (le_ok rfl)]; simp -implicitDefEqProofs [-toCells,-AV.one,-forget,F_q7,c_q7,h1]
end Go.A.V.S
