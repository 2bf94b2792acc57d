/- The document's cut. -/
import Derived.Test.YtnmobjhmohcjfaaXL
import Derived.Test.YtnmobjhmohcjfaaXG
import Derived.Test.YtnmobjhmohcjfaaXM
import Derived.Test.YtnmobjhmohcjfaaXC
set_option linter.unusedSimpArgs false
set_option linter.unusedVariables false
set_option linter.unnecessarySimpa false
namespace Go.A.V.S
open Go Go.A
section
variable {H : Heap} {m r a b c n0 : Nat}
structure DS (H : Heap) (m r a b c n0 : Nat) (q : QM) (K : Heap) : Prop where
 ok : q.Ok
 ex : ∃ x,DQ K m r a b c x ∧ Rel q x
 last : q.last = n0
 beh : Beh m H K
 len : K.length = H.length
def InvRB (H : Heap) (m r a b c n0 room w : Nat) (R : CR) (zz : Nat) (σ : List AV) (K : Heap) : Prop :=
 ∃ (q : QM) (F : List (List Nat)) (D : List Nat) (fi used : Nat),zz + F.length = 24 ∧ used ≤ F.length * 1000 ∧ D.length ≤ F.length ∧ (fi = 0 ∨ fi = 2) ∧ (F ≠ [] → q.taken = 0) ∧ cutQ room w zz q F D fi used = R ∧ DS H m r a b c n0 q K ∧
  σ = L 106 (((((((Tr.full 7).put (path 0) (.ptr r 0 4)).put (path 1) (ai room)).put (path 2) (ai w)).put (path 6) (.lbox [ai 0,nilS,nilS])).put (path 8) (.lbox [ai fi,lst true 1 (some 83) (bvF F),lst true 1 (some 98) (uls D)])).put (path 9) (ai used))
def PostRB (H : Heap) (m r a b c n0 : Nat) (R : CR) (e : AExit) (σ : List AV) (K : Heap) : Prop :=
 e = .exit 0 ∧ DS H m r a b c n0 R.q K ∧ kill [0,1,2,9,10,11,12,13,33,34,35,36,52,53,54,55,56,57,90,91,92,93] σ = L 106 (((Tr.full 7).put (path 6) (.lbox [ai 0,nilS,nilS])).put (path 8) (.lbox [ai R.fi,lst true 1 (some 83) (bvF R.F),lst true 1 (some 98) (uls R.D)]))
theorem rlsize (n : Nat) {w : Nat} (hw : w = 11 ∨ w = 15) (H : Heap) : callW P f_q62 [ai n,ai w] H = some (ai (lsize n w : Nat),H) := by
 rw [rSize08 n hw]
 congr 3
 split
 ·have : n = 0 := by omega
  subst this; rfl
 ·rw [Int.toNat_natCast]
set_option maxHeartbeats 8000000 in
theorem rb_loop {room w : Nat} (hroom : room ≤ 4000) (hw : w = 11 ∨ w = 15) (hn0 : n0 ≤ 100000) {R : CR} (zz : Nat) (σ : List AV) (K : Heap) (hI : InvRB H m r a b c n0 room w R zz (kill (headK lp0_q32) σ) K) :
  Ends (execW P f_q32 (.loop lp0_q32) σ K) fun s => PostRB H m r a b c n0 R s.e s.σ s.H := by
 refine loop_ends (InvRB H m r a b c n0 room w R) (PostRB H m r a b c n0 R) ?_ zz σ K hI
 clear hI zz σ K
 rintro zz σ K ⟨q,F,D,fi,used,hz,hu,hD,hfi,hFt,hR,hS,rfl⟩
 have hSz := fun H => rlsize F.length hw H
 have hls := lsize50 F.length w hw
 have hFl : lenW (lst true 1 (some 83) (bvF F)) = some F.length := by rw [lenW_lst,bvF_len]
 by_cases h24 : F.length = 24
 ·obtain rfl : zz = 0 := by omega
  have hRq : R = ⟨q,F,D,fi⟩ := by rw [← hR]; rfl
  rw [h24] at hFl
  replace hFl : lenW (lst true 1 (some 83) (bvF F)) = some 24 := hFl
  have hp : ∀ σ',kill [0,1,2,9,10,11,12,13,33,34,35,36,52,53,54,55,56,57,90,91,92,93] σ' = L 106 (((Tr.full 7).put (path 6) (.lbox [ai 0,nilS,nilS])).put (path 8) (.lbox [ai fi,lst true 1 (some 83) (bvF F),lst true 1 (some 98) (uls D)])) → PostRB H m r a b c n0 R (.exit 0) σ' K := fun σ' h => by rw [hRq]; exact ⟨rfl,hS,h⟩
  clear hS hR hRq
  generalize bvF F = F1 at *
  generalize uls D = D1 at *
  simp -implicitDefEqProofs [-toCells,-AV.one,-forget,c_q32,lp0_q32,hFl]
  exact hp _ (by simp)
 obtain ⟨x,hd,hr⟩ := hS.ex
 have hok := hS.ok
 have hln : x.L.length ≤ 100000 := by rw [hr.n1,hS.last]; exact hn0
 have l24 : (F.length : Int) < 24 := by omega
 have l24' : F.length < 24 := by omega
 obtain ⟨lf,hlf⟩ : ∃ x : Int,(room : Int) - used - (lsize F.length w : Nat) = x := ⟨_,rfl⟩
 obtain ⟨ru,hru⟩ : ∃ x : Int,(room : Int) - used = x := ⟨_,rfl⟩
 have w1 : IntKind.i64.wrap ((room : Int) - used) = ru := by rw [← hru]; exact wrap_i64 (by omega) (by omega)
 have w2' : IntKind.i64.wrap (ru - (lsize F.length w : Nat)) = lf := by rw [← hlf,hru]; exact wrap_i64 (by omega) (by omega)
 have hp : R = ⟨q,F,D,fi⟩ → ∀ σ',kill [0,1,2,9,10,11,12,13,33,34,35,36,52,53,54,55,56,57,90,91,92,93] σ' = L 106 (((Tr.full 7).put (path 6) (.lbox [ai 0,nilS,nilS])).put (path 8) (.lbox [ai fi,lst true 1 (some 83) (bvF F),lst true 1 (some 98) (uls D)])) → PostRB H m r a b c n0 R (.exit 0) σ' K := fun hRq σ' h => by rw [hRq]; exact ⟨rfl,hS,h⟩
 cases hl : q.l with
 | nil =>
  have hf := hr.first
  rw [hl] at hf
  have hF0 := d_Front0 hd (d_first_n hd hln (fun j hj => hf j (by rw [← hr.n1]; exact hj)))
  have hRq : R = ⟨q,F,D,fi⟩ := by
   rw [← hR]
   cases zz with
   | zero => rfl
   | succ k => rw [cutQ,hl]
  replace hp := hp hRq
  clear hS hR hRq hd hr
  generalize bvF F = F1 at *
  generalize uls D = D1 at *
  generalize lsize F.length w = ls at *
  generalize F.length = fl at *
  simp -implicitDefEqProofs [-toCells,-AV.one,-forget,c_q32,lp0_q32,hF0,hSz,hFl,l24,l24',w1,w2']
  exact hp _ (by simp)
 | cons t l =>
  have hf := hr.first
  rw [hl] at hf
  simp only at hf
  obtain ⟨i,f1,f2,f3,f4,f5,f6⟩ := hf
  have ht := hok.each t (by rw [hl]; simp)
  have htk := hok.first t l hl
  have hfi2 := d_first_i hd hln f1 f2
  have hF1 := d_Front1 hd hln f5 f6 (by omega) hfi2
  obtain ⟨mm,hm⟩ : ∃ x,t.2.length - q.taken = x := ⟨_,rfl⟩
  have hbl : (t.2.drop q.taken).length = mm := by rw [List.length_drop]; omega
  have hlb : lenW (bv (false,t.2.drop q.taken)) = some mm := by rw [bv_len]; simp only; rw [hbl]
  have i0 : ¬ ((i + 1 : Nat) : Int) = 0 := by omega
  have i0' : ¬ i + 1 = 0 := by omega
  by_cases hl1 : lf < 1
  ·have hRq : R = ⟨q,F,D,fi⟩ := by
    rw [← hR]
    cases zz with
    | zero => rfl
    | succ k => rw [cutQ,hl]; simp only; rw [if_pos (by rw [hlf]; exact hl1)]
   replace hp := hp hRq
   clear hS hR hRq hd hr f1 f2 f5 f6
   generalize t.2.drop q.taken = wd at *
   generalize decide (0 < q.taken) = bg at *
   generalize bvF F = F1 at *
   generalize uls D = D1 at *
   generalize lsize F.length w = ls at *
   generalize F.length = fl at *
   generalize i + 1 = i1 at *
   simp -implicitDefEqProofs [-toCells,-AV.one,-forget,c_q32,lp0_q32,hF1,hSz,hFl,l24,l24',w1,w2',i0,i0',hl1]
   exact hp _ (by simp)
  obtain ⟨k,rfl⟩ : ∃ k,zz = k + 1 := ⟨zz - 1,by omega⟩
  rw [cutQ,hl] at hR
  simp only at hR
  rw [hlf,if_neg hl1,hm] at hR
  obtain ⟨f2',hf2⟩ : ∃ x,(if 0 < q.taken then 2 else fi) = x := ⟨_,rfl⟩
  rw [hf2] at hR
  have hf2' : f2' = 0 ∨ f2' = 2 := by rw [← hf2]; split <;> omega
  have hbg : (0 < q.taken ∧ F.length = 0 ∧ f2' = 2) ∨ (¬ 0 < q.taken ∧ f2' = fi) := by
   by_cases h : 0 < q.taken
   ·refine .inl ⟨h,?_,by rw [← hf2,if_pos h]⟩
    by_cases hF : F = []
    ·rw [hF]; rfl
    ·have := hFt hF; omega
   ·exact .inr ⟨h,by rw [← hf2,if_neg h]⟩
  have n1 : ¬ lf < 1 := hl1
  have hapF := fun B σ H => app1 (m := P.md f_q32) (d := 83) (bytes := 24) (v := bv (false,B)) (R_q32 83) (by omega) (by rw [bvF_len]; omega) (l := bvF F) (some 82) σ H
  simp only [← bvF_snoc] at hapF
  have ti : t.1 = i + 1 := by rw [f4]
  by_cases hall : mm ≤ lf.toNat
  ·rw [if_pos hall] at hR
   obtain ⟨K2,d1,d2,d3,hT⟩ := d_Take_at hd hln f5 f6 f1 hfi2 ht.2.1 (by omega : 1 ≤ mm) (by omega : q.taken + mm ≤ t.2.length)
   have e1 : decide (q.taken + mm = t.2.length) = true := decide_eq_true (by omega)
   rw [e1] at d1 hT
   rw [List.take_of_length_le (by omega)] at hT
   have hS2 : DS H m r a b c n0 ⟨q.room,l,0,q.last⟩ K2 := ⟨hok.behind hl,⟨_,d1,hr.take2 hl f1 f2 _⟩,hS.last,hS.beh.trans d2,by rw [d3]; exact hS.len⟩
   have hapD := fun σ H => app1 (m := P.md f_q32) (d := 98) (bytes := 8) (v := ul (i + 1 : Nat)) (R_q32 98) (by omega) (by rw [uls_len]; omega) (l := uls D) (some 97) σ H
   rw [← uls_snoc] at hapD
   have w3 : IntKind.i64.wrap ((used : Int) + mm) = ((used + mm : Nat) : Int) := by rw [wrap_i64 (by omega) (by omega)]; omega
   obtain ⟨us,hus⟩ : ∃ x,used + mm = x := ⟨_,rfl⟩
   rw [hus] at w3 hR
   rw [ti] at hR
   have hInv : ∀ σ',σ' = L 106 (((((((Tr.full 7).put (path 0) (.ptr r 0 4)).put (path 1) (ai room)).put (path 2) (ai w)).put (path 6) (.lbox [ai 0,nilS,nilS])).put (path 8) (.lbox [ai f2',lst true 1 (some 83) (bvF (F ++ [t.2.drop q.taken])),lst true 1 (some 98) (uls (D ++ [i + 1]))])).put (path 9) (ai us)) → ∃ z,z < k + 1 ∧ InvRB H m r a b c n0 room w R z σ' K2 := fun σ' hσ' =>
    ⟨k,by omega,_,F ++ [t.2.drop q.taken],D ++ [i + 1],f2',us,by simp; omega,by simp; omega,by simp; omega,hf2',fun _ => rfl,hR,hS2,hσ'⟩
   have n2 : ¬ (mm : Int) > lf := by omega
   have n2' : ¬ lf < (mm : Int) := by omega
   replace hapF := hapF (t.2.drop q.taken)
   generalize bvF (F ++ [t.2.drop q.taken]) = F2 at *
   generalize uls (D ++ [i + 1]) = D2 at *
   generalize bvF F = F1 at *
   generalize uls D = D1 at *
   generalize t.2.drop q.taken = wd at *
   generalize lsize F.length w = ls at *
   clear hS hS2 hR hd hr f1 f2 f5 f6 d1 d2 d3 hp ti f4
   generalize i + 1 = i1 at *
   rcases hbg with ⟨hb1,hb2,hb3⟩ | ⟨hb1,hb3⟩
   ·rw [decide_eq_true hb1] at hF1
    subst hb3
    rw [hb2] at hFl hSz l24
    replace hFl : lenW (lst true 1 (some 83) F1) = some 0 := hFl
    replace hSz : ∀ H,callW P f_q62 [ai 0,ai w] H = some (ai (ls : Nat),H) := hSz
    simp -implicitDefEqProofs [-toCells,-AV.one,-forget,c_q32,lp0_q32,hF1,hSz,hFl,w1,w2',i0,i0',n1,hlb,n2,n2',hT,hapF,hapD,w3]
    exact hInv _ (by simp)
   ·rw [decide_eq_false hb1] at hF1
    subst hb3
    generalize F.length = fl at *
    simp -implicitDefEqProofs [-toCells,-AV.one,-forget,c_q32,lp0_q32,hF1,hSz,hFl,l24,l24',w1,w2',i0,i0',n1,hlb,n2,n2',hT,hapF,hapD,w3]
    exact hInv _ (by simp)
  ·rw [if_neg hall] at hR
   obtain ⟨nn,hnn⟩ : ∃ x,lf.toNat = x := ⟨_,rfl⟩
   rw [hnn] at hR hall
   have hlfn : lf = nn := by omega
   obtain ⟨K2,d1,d2,d3,hT⟩ := d_Take_at hd hln f5 f6 f1 hfi2 ht.2.1 (by omega : 1 ≤ nn) (by omega : q.taken + nn ≤ t.2.length)
   have e1 : decide (q.taken + nn = t.2.length) = false := decide_eq_false (by omega)
   rw [e1] at d1 hT
   have hS2 : DS H m r a b c n0 ⟨q.room,q.l,q.taken + nn,q.last⟩ K2 := ⟨hok.part hl (by omega) (by omega),⟨_,d1,hr.take1 hl f1 f2 _⟩,hS.last,hS.beh.trans d2,by rw [d3]; exact hS.len⟩
   have w3 : IntKind.i64.wrap ((used : Int) + nn) = ((used + nn : Nat) : Int) := by rw [wrap_i64 (by omega) (by omega)]; omega
   have w4 : IntKind.i64.wrap ((f2' : Int) + 1) = ((f2' + 1 : Nat) : Int) := by rw [wrap_i64 (by omega) (by omega)]; omega
   have hRq : R = ⟨⟨q.room,q.l,q.taken + nn,q.last⟩,F ++ [(t.2.drop q.taken).take nn],D,f2' + 1⟩ := by rw [← hR,hl]
   have hpo : ∀ σ',kill [0,1,2,9,10,11,12,13,33,34,35,36,52,53,54,55,56,57,90,91,92,93] σ' = L 106 (((Tr.full 7).put (path 6) (.lbox [ai 0,nilS,nilS])).put (path 8) (.lbox [ai (f2' + 1 : Nat),lst true 1 (some 83) (bvF (F ++ [(t.2.drop q.taken).take nn])),lst true 1 (some 98) (uls D)])) → PostRB H m r a b c n0 R (.exit 0) σ' K2 := fun σ' h => by rw [hRq]; exact ⟨rfl,hS2,h⟩
   subst hlfn
   have n2 : (mm : Int) > nn := by omega
   have n2' : (nn : Int) < mm := by omega
   have n2'' : nn < mm := by omega
   have n1' : ¬ nn < 1 := by omega
   replace hapF := hapF ((t.2.drop q.taken).take nn)
   generalize bvF (F ++ [(t.2.drop q.taken).take nn]) = F2 at *
   generalize bvF F = F1 at *
   generalize uls D = D1 at *
   generalize (t.2.drop q.taken).take nn = wo at *
   generalize t.2.drop q.taken = wd at *
   generalize lsize F.length w = ls at *
   generalize used + nn = us at *
   clear hS hS2 hR hd hr f1 f2 f5 f6 d1 d2 d3 hp ti f4 hRq
   generalize i + 1 = i1 at *
   obtain ⟨f3,hf3⟩ : ∃ y,f2' + 1 = y := ⟨_,rfl⟩
   rw [hf3] at w4 hpo
   rcases hbg with ⟨hb1,hb2,hb3⟩ | ⟨hb1,hb3⟩
   ·rw [decide_eq_true hb1] at hF1
    subst hb3
    replace w4 : IntKind.i64.wrap 3 = (f3 : Int) := w4
    rw [hb2] at hFl hSz l24
    replace hFl : lenW (lst true 1 (some 83) F1) = some 0 := hFl
    replace hSz : ∀ H,callW P f_q62 [ai 0,ai w] H = some (ai (ls : Nat),H) := hSz
    simp -implicitDefEqProofs [-toCells,-AV.one,-forget,c_q32,lp0_q32,hF1,hSz,hFl,w1,w2',i0,i0',n1,n1',hlb,n2,n2',n2'',hT,hapF,w3,w4]
    exact hpo _ (by simp)
   ·rw [decide_eq_false hb1] at hF1
    subst hb3
    generalize F.length = fl at *
    simp -implicitDefEqProofs [-toCells,-AV.one,-forget,c_q32,lp0_q32,hF1,hSz,hFl,l24,l24',w1,w2',i0,i0',n1,n1',hlb,n2,n2',n2'',hT,hapF,w3,w4]
    exact hpo _ (by simp)
def PostRb (H : Heap) (m r a b c n0 : Nat) (R : CR) (e : AExit) (σ : List AV) (K : Heap) : Prop := e = .ret ∧ DS H m r a b c n0 R.q K ∧ resultsA F_q32.res σ = some (if R.F = [] then .tup [.agg [ai 0,nilS,nilS],ai 4] else .tup [.agg [ai R.fi,lst true 1 (some 83) (bvF R.F),lst true 1 (some 98) (uls R.D)],ai 0])
set_option maxHeartbeats 2000000 in
theorem rb_Build {K : Heap} {q : QM} (hS : DS H m r a b c n0 q K) (hn0 : n0 ≤ 100000) (room : Nat) (hroom : room ≤ 4000) :
  ∃ K',DS H m r a b c n0 (cutQ room 11 24 q [] [] 0 0).q K' ∧ callW P f_q32 [.ptr r 0 4,ai room,ai 11] K = some (cutPub (cutQ room 11 24 q [] [] 0 0),K') := by
 obtain ⟨R,hR⟩ : ∃ x,cutQ room 11 24 q [] [] 0 0 = x := ⟨_,rfl⟩
 rw [hR]
 suffices hs : Ends (callW P f_q32 [.ptr r 0 4,ai room,ai 11] K) fun y => ∃ K',DS H m r a b c n0 R.q K' ∧ y = (cutPub R,K') by
  obtain ⟨y,h1,K',h2,rfl⟩ := hs
  exact ⟨K',h2,h1⟩
 have c1 : ¬ (room : Int) < 0 := by omega
 have c2 : ¬ (room : Int) > 4000 := by omega
 have c2' : ¬ (4000 : Int) < room := by omega
 have c2'' : ¬ 4000 < room := by omega
 have hKl := hS.len
 refine call_post 7 106 rfl (rfl : P.T f_q32 = some F_q32) rfl (le_ok rfl) (PostRb H m r a b c n0 R) ?_ ?_
 ·rintro e σ G ⟨rfl,h1,h2⟩
  refine ⟨rfl,_,h2,?_,?_⟩
  ·split <;> simp
  ·have hlen := h1.len
   have ht : G.take K.length = G := List.take_of_length_le (by omega)
   have hl : G.length = K.length := by omega
   refine ⟨_,?_,G,h1,rfl⟩
   unfold cutPub
   split <;> simp [hl,ht]
 have hL := fun σ G => rb_loop (H := H) (m := m) (r := r) (a := a) (b := b) (c := c) (n0 := n0) (R := R) (w := 11) hroom (.inl rfl) hn0 24 σ G
 have hI : ∀ σ,σ = L 106 (((((((Tr.full 7).put (path 0) (.ptr r 0 4)).put (path 1) (ai room)).put (path 2) (ai 11)).put (path 6) (.lbox [ai 0,nilS,nilS])).put (path 8) (.lbox [ai 0,nilS,nilS])).put (path 9) (ai 0)) → InvRB H m r a b c n0 room 11 R 24 σ K := fun σ hσ => ⟨q,[],[],0,0,by simp,by simp,by simp,.inl rfl,fun h => (h rfl).elim,hR,hS,hσ⟩
 have hFl : lenW (lst true 1 (some 83) (bvF R.F)) = some R.F.length := by rw [lenW_lst,bvF_len]
 have hfl0 : R.F.length = 0 ↔ R.F = [] := List.length_eq_zero_iff
 have hp : ∀ σ G,DS H m r a b c n0 R.q G → resultsA F_q32.res σ = some (if R.F = [] then .tup [.agg [ai 0,nilS,nilS],ai 4] else .tup [.agg [ai R.fi,lst true 1 (some 83) (bvF R.F),lst true 1 (some 98) (uls R.D)],ai 0]) → PostRb H m r a b c n0 R .ret σ G := fun σ G h1 h2 => ⟨rfl,h1,h2⟩
 have hPd : ∀ e σ G,PostRB H m r a b c n0 R e σ G → e = .exit 0 ∧ DS H m r a b c n0 R.q G ∧ kill [0,1,2,9,10,11,12,13,33,34,35,36,52,53,54,55,56,57,90,91,92,93] σ = L 106 (((Tr.full 7).put (path 6) (.lbox [ai 0,nilS,nilS])).put (path 8) (.lbox [ai R.fi,lst true 1 (some 83) (bvF R.F),lst true 1 (some 98) (uls R.D)])) := fun e σ G h => h
 clear hS hR
 rw [F_q32]; simp -implicitDefEqProofs [-toCells,-AV.one,-forget,c_q32,c1,c2,c2',c2'']
 repeat rw [Option.bind_assoc]
 refine Ends.block (P := PostRB H m r a b c n0 R) (hL _ _ (hI _ (by simp [lp0_q32]))) ?_
 intro e σ1 G1 hq
 obtain ⟨rfl,hS1,k2⟩ := hPd e σ1 G1 hq
 clear hPd hq hL hI
 generalize bvF R.F = F1 at *
 generalize uls R.D = D1 at *
 generalize R.fi = fi at *
 obtain ⟨fl,hfl⟩ : ∃ x,R.F.length = x := ⟨_,rfl⟩
 rw [hfl] at hFl hfl0
 by_cases hF : R.F = []
 ·have h0 : fl = 0 := hfl0.2 hF
  simp only [if_pos hF] at hp
  subst h0
  replace hFl : lenW (lst true 1 (some 83) F1) = some 0 := hFl
  simp -implicitDefEqProofs [-toCells,-AV.one,-forget,c_q32,k2,hFl]
  exact hp _ _ hS1 (by simp [F_q32])
 ·have h0 : ¬ fl = 0 := fun h => hF (hfl0.1 h)
  have h0' : ¬ (fl : Int) = 0 := by omega
  simp only [if_neg hF] at hp
  simp -implicitDefEqProofs [-toCells,-AV.one,-forget,c_q32,k2,hFl,h0,h0']
  exact hp _ _ hS1 (by simp [F_q32])
end
end Go.A.V.S

namespace Go.A.V.S
open Go Go.A
theorem WrU_one {p : Um} {w : Nat} {a b : List Nat} (ha : WrU p w a) (hb : WrU p w b) : a = b := by
 obtain ⟨a1,a2,x1,x2,rfl⟩ := ha
 obtain ⟨b1,b2,y1,y2,rfl⟩ := hb
 rw [x1.uniq y1,x2.uniq y2]
theorem sz2_w {w : Nat} (hw : w = 5 ∨ w = 10) : sz2 w = 2 ^ w := by rcases hw with rfl | rfl <;> rfl
theorem r02_mod (n w : Nat) (hn : n ≤ 100000) (hw : 0 < w) (hw2 : w ≤ 100000) (H : Heap) : callW P f_q64 [ai n,ai w] H = some (ai (n % w : Nat),H) := by
 have r1 : binA .rem .no (ai n) (ai w) = some (ai (n % w : Nat)) := by
  have h2 : ((w : Nat) : Int) ≠ 0 := by omega
  have h3 : (((n : Nat) : Int).tmod ((w : Nat) : Int)) = ((n % w : Nat) : Int) := by
   rw [Int.tmod_eq_emod_of_nonneg (by omega)]; exact (Int.natCast_emod _ _).symm
  have h5 : IntKind.i64.wrap ((n % w : Nat) : Int) = ((n % w : Nat) : Int) := wrap_i64 (by omega) (by have := Nat.mod_le n w; omega)
  rw [binA_rem]
  simp only [h2,if_false,h3]
 have hm := Nat.mod_lt n hw
 obtain ⟨x,hx⟩ : ∃ y,n % w = y := ⟨_,rfl⟩
 rw [hx] at r1 ⊢
 have n0 : ¬ (x : Int) < 0 := by omega
 rw [call_L 4 rfl (rfl : P.T f_q64 = some F_q64) (le_ok rfl)]; simp -implicitDefEqProofs [-toCells,-AV.one,-forget,F_q64,c_q64,-binA_rem,r1,n0]
theorem r02_Go {w sn : Nat} (hw : w = 5 ∨ w = 10) (hs : sn < 2 ^ w) (H : Heap) : callW P f_q33 [ai w,ai sn,ai 1] H = some (.tup [ai ((sn + 1) % 2 ^ w : Nat),ai 0],H) := by
 have hZ := fun H => rSize02 w H
 have hI := fun H => rIs w sn H
 rw [sz2_w hw] at hZ hI
 have hd : decide ((0 : Int) ≤ (sn : Int) ∧ (sn : Int) < (2 ^ w : Nat)) = true := decide_eq_true ⟨by omega,by exact_mod_cast hs⟩
 rw [hd] at hI
 have hp : 2 ^ w ≤ 1024 ∧ 0 < 2 ^ w := by rcases hw with rfl | rfl <;> decide
 have hM := fun H => r02_mod (sn + 1) (2 ^ w) (by omega) hp.2 (by omega) H
 have w1 : IntKind.i64.wrap ((sn : Int) + 1) = ((sn + 1 : Nat) : Int) := by rw [wrap_i64 (by omega) (by omega)]; omega
 obtain ⟨pw,hpw⟩ : ∃ x,2 ^ w = x := ⟨_,rfl⟩
 rw [hpw] at hZ hM hp ⊢
 obtain ⟨s1,hs1⟩ : ∃ x,sn + 1 = x := ⟨_,rfl⟩
 rw [hs1] at w1 hM ⊢
 obtain ⟨md,hmd⟩ : ∃ x,s1 % pw = x := ⟨_,rfl⟩
 rw [hmd] at hM ⊢
 have n0 : ¬ (pw : Int) = 0 := by omega
 have n0' : ¬ pw = 0 := by omega
 rw [call_L 5 rfl (rfl : P.T f_q33 = some F_q33) (le_ok rfl)]; simp -implicitDefEqProofs [-toCells,-AV.one,-forget,F_q33,c_q33,hZ,n0,n0',hI,w1,hM]
section
def InvSm (H : Heap) (us1 us2 : AV) (D : List Nat) (zz : Nat) (σ : List AV) (K : Heap) : Prop :=
 ∃ i : Nat,i + zz = D.length ∧ K = H ∧ σ = L 26 ((((Tr.full 5).put (path 0) (us1)).put (path 1) (us2)).put (path 5) (ai i))
def PostSm (H : Heap) (e : AExit) (σ : List AV) (K : Heap) : Prop := e = .exit 0 ∧ K = H ∧ kill [0,1,5,11,12,13,14] σ = L 26 (Tr.full 5)
theorem uls_at {l : List Nat} {i n : Nat} (h : l[i]? = some n) (z : Bool) (f : Option Nat) (k : IntKind) : iaddrW 1 none (lst z 1 f (uls l)) (.c (.int k i)) = some (.vp [ul n] 0) := iaddrW_lst _ _ _ (by simp [uls,h]) k
theorem sm_loop {H : Heap} {z1 z2 : Bool} {D : List Nat} (hD : D.length ≤ 100000) (zz : Nat) (σ : List AV) (K : Heap) (hI : InvSm H (lst z1 1 none (uls D)) (lst z2 1 none (uls D)) D zz (kill (headK lp0_q13) σ) K) :
  Ends (execW P f_q13 (.loop lp0_q13) σ K) fun s => PostSm H s.e s.σ s.H := by
 refine loop_ends (InvSm H (lst z1 1 none (uls D)) (lst z2 1 none (uls D)) D) (PostSm H) ?_ zz σ K hI
 clear hI zz σ K
 rintro zz σ K ⟨i,hz,rfl,rfl⟩
 have l1 : lenW (lst z1 1 none (uls D)) = some D.length := by rw [lenW_lst,uls_len]
 by_cases hi : i < D.length
 ·obtain ⟨x,hx⟩ : ∃ x,D[i]? = some x := ⟨_,List.getElem?_eq_getElem hi⟩
  have q1 := uls_at hx z1 none .i64
  have q2 := uls_at hx z2 none .i64
  have w1 : IntKind.i64.wrap ((i : Int) + 1) = ((i + 1 : Nat) : Int) := by rw [wrap_i64 (by omega) (by omega)]; omega
  have hf : ∀ σ',σ' = L 26 ((((Tr.full 5).put (path 0) (lst z1 1 none (uls D))).put (path 1) (lst z2 1 none (uls D))).put (path 5) (ai (i + 1 : Nat))) → ∃ m,m < zz ∧ InvSm K (lst z1 1 none (uls D)) (lst z2 1 none (uls D)) D m σ' K := fun σ' hσ' => ⟨zz - 1,by omega,i + 1,by omega,rfl,hσ'⟩
  obtain ⟨i1,hi1⟩ : ∃ y,i + 1 = y := ⟨_,rfl⟩
  rw [hi1] at w1 hf
  have hi' : (i : Int) < D.length := by omega
  generalize D.length = n at *
  generalize uls D = us at *
  clear hz hD
  simp -implicitDefEqProofs [-toCells,-AV.one,-forget,c_q13,keepB,-goodB,goodB_L,sameV,dstNot,dstNe,SOpG.reads,SOp.slots,SX.slots,SOp.noL,rdV_load,rdV_str,selfE_lst,selfE,selfEs,eqV,lp0_q13,l1,hi,hi',q1,q2,w1]
  exact hf _ (by simp)
 ·have hi' : ¬ (i : Int) < D.length := by omega
  have hp : ∀ σ',kill [0,1,5,11,12,13,14] σ' = L 26 (Tr.full 5) → PostSm K (.exit 0) σ' K := fun σ' h => ⟨rfl,rfl,h⟩
  generalize D.length = n at *
  generalize uls D = us at *
  clear hz hD
  simp -implicitDefEqProofs [-toCells,-AV.one,-forget,c_q13,lp0_q13,l1,hi,hi']
  exact hp _ (by simp)
theorem l_same {z1 z2 : Bool} {D : List Nat} (hD : D.length ≤ 100000) (H : Heap) : callW P f_q13 [lst z1 1 none (uls D),lst z2 1 none (uls D)] H = some (ab true,H) := by
 suffices hs : Ends (callW P f_q13 [lst z1 1 none (uls D),lst z2 1 none (uls D)] H) fun y => y = (ab true,H) by
  obtain ⟨y,h1,rfl⟩ := hs
  exact h1
 have hL := fun σ K => sm_loop (H := H) (z1 := z1) (z2 := z2) hD D.length σ K
 have hI : ∀ σ,σ = L 26 ((((Tr.full 5).put (path 0) (lst z1 1 none (uls D))).put (path 1) (lst z2 1 none (uls D))).put (path 5) (ai 0)) → InvSm H (lst z1 1 none (uls D)) (lst z2 1 none (uls D)) D D.length σ H := fun σ hσ => ⟨0,by omega,rfl,hσ⟩
 have l1 : lenW (lst z1 1 none (uls D)) = some D.length := by rw [lenW_lst,uls_len]
 have l2 : lenW (lst z2 1 none (uls D)) = some D.length := by rw [lenW_lst,uls_len]
 refine call_post 5 26 rfl (rfl : P.T f_q13 = some F_q13) rfl (le_ok rfl) (fun e σ K => e = .ret ∧ K = H ∧ resultsA F_q13.res σ = some (ab true)) ?_ ?_
 ·rintro e σ K ⟨rfl,rfl,h2⟩
  exact ⟨rfl,_,h2,by simp,by simp⟩
 generalize D.length = n at *
 generalize uls D = us at *
 rw [F_q13]; simp -implicitDefEqProofs [-toCells,-AV.one,-forget,c_q13,l1,l2]
 repeat rw [Option.bind_assoc]
 refine Ends.block (P := PostSm H) (hL _ _ (hI _ (by simp [lp0_q13]))) ?_
 rintro e σ1 K1 ⟨rfl,rfl,k2⟩
 simp -implicitDefEqProofs [-toCells,-AV.one,-forget,c_q13,k2]
 try simp [F_q13]
end
end Go.A.V.S

namespace Go.A.V.S
def jq (h : Option (List Nat)) (b : List Nat) : List Nat := match h with
 | none => b
 | some a => a ++ b
def gq (cut : Bool) : Option (List Nat) → List (List Nat) → List (List Nat) × Option (List Nat)
 | h,[] => ([],h)
 | h,[f] => if cut = true then ([],some (jq h f)) else ([jq h f],none)
 | h,f :: g :: r => (jq h f :: (gq cut none (g :: r)).1,(gq cut none (g :: r)).2)
def QM.held (q : QM) : Option (List Nat) := if q.taken = 0 then none else match q.l with
 | [] => none
 | t :: _ => some (t.2.take q.taken)
theorem held0 (q : QM) (h : q.taken = 0) : q.held = none := by rw [QM.held,if_pos h]
theorem jq_held {q : QM} {t : Nat × List Nat} {l : List (Nat × List Nat)} (hl : q.l = t :: l) : jq q.held (t.2.drop q.taken) = t.2 := by
 unfold QM.held
 split
 ·rename_i h; rw [jq,h,List.drop_zero]
 ·rw [hl]; simp [jq]
theorem jq_part {q : QM} {t : Nat × List Nat} {l : List (Nat × List Nat)} (hl : q.l = t :: l) (n : Nat) : jq q.held ((t.2.drop q.taken).take n) = t.2.take (q.taken + n) := by
 unfold QM.held
 split
 ·rename_i h; rw [jq,h]; simp
 ·rw [hl]; simp [jq,List.take_add]
theorem cutQ_gq {room w : Nat} : ∀ (k : Nat) (q : QM) (F : List (List Nat)) (D : List Nat) (fi used : Nat),q.Ok → (fi = 0 ∨ fi = 2) → ∃ X T,(cutQ room w k q F D fi used).F = F ++ X ∧ q.l.map (·.2) = T ++ (cutQ room w k q F D fi used).q.l.map (·.2) ∧
   gq (decide ((cutQ room w k q F D fi used).fi % 2 = 1)) q.held X = (T,(cutQ room w k q F D fi used).q.held) ∧ (cutQ room w k q F D fi used).fi ≤ 3 ∧ (X = [] → (cutQ room w k q F D fi used).fi = fi) ∧ (2 ≤ (cutQ room w k q F D fi used).fi ↔ (X ≠ [] ∧ 0 < q.taken) ∨ fi = 2)
 | 0,q,F,D,fi,used,h,hfi => ⟨[],[],by simp [cutQ],by simp [cutQ],by simp [cutQ,gq],by simp only [cutQ]; omega,fun _ => rfl,by simp [cutQ]; omega⟩
 | k + 1,q,F,D,fi,used,h,hfi => by
  rw [cutQ]
  split
  ·exact ⟨[],[],by simp,by simp,by simp [gq],by simp only; omega,fun _ => rfl,by simp; omega⟩
  ·rename_i t l hl
   split
   ·exact ⟨[],[],by simp,by simp,by simp [gq],by simp only; omega,fun _ => rfl,by simp; omega⟩
   ·rename_i hlf
    have hf2 : (if 0 < q.taken then 2 else fi) = 0 ∨ (if 0 < q.taken then 2 else fi) = 2 := by split <;> omega
    split
    ·obtain ⟨X,T,hX,hT,hg,h3,h0,h2⟩ := cutQ_gq (room := room) (w := w) k ⟨q.room,l,0,q.last⟩ (F ++ [t.2.drop q.taken]) (D ++ [t.1]) (if 0 < q.taken then 2 else fi) (used + (t.2.length - q.taken)) (h.behind hl) hf2
     generalize cutQ room w k ⟨q.room,l,0,q.last⟩ (F ++ [t.2.drop q.taken]) (D ++ [t.1]) (if 0 < q.taken then 2 else fi) (used + (t.2.length - q.taken)) = R at *
     refine ⟨t.2.drop q.taken :: X,t.2 :: T,by rw [hX]; simp,by rw [hl,List.map_cons,hT]; rfl,?_,h3,by simp,?_⟩
     ·rw [held0 _ rfl] at hg
      cases X with
      | nil =>
       have h0' := h0 rfl
       have hc : decide (R.fi % 2 = 1) = false := decide_eq_false (by rw [h0']; rcases hf2 with h | h <;> rw [h] <;> decide)
       rw [hc] at hg ⊢
       simp only [gq,Prod.mk.injEq] at hg ⊢
       rw [if_neg (by decide),jq_held hl,← hg.1,← hg.2]
      | cons g r =>
       rw [gq,hg,jq_held hl]
     ·rw [h2]
      simp only [Nat.lt_irrefl,and_false,false_or]
      constructor
      ·intro hh
       split at hh
       ·left; exact ⟨by simp,by assumption⟩
       ·right; exact hh
      ·rintro (⟨_,hh⟩ | hh)
       ·rw [if_pos hh]
       ·split <;> omega
    ·rename_i hn
     refine ⟨[(t.2.drop q.taken).take ((room : Int) - used - lsize F.length w).toNat],[],rfl,by simp,?_,?_,by simp,?_⟩
     ·have hc : decide (((if 0 < q.taken then 2 else fi) + 1) % 2 = 1) = true := decide_eq_true (by rcases hf2 with h | h <;> rw [h])
      simp only [hc]
      rw [gq,if_pos rfl,jq_part hl,QM.held,if_neg (by simp only; omega)]
      simp only [hl]
     ·simp only; rcases hf2 with h | h <;> rw [h] <;> decide
     ·simp only
      split <;> simp_all <;> omega
end Go.A.V.S

namespace Go.A.V.S
theorem cutQ_fits {room w : Nat} : ∀ (k : Nat) (q : QM) (F : List (List Nat)) (D : List Nat) (fi used : Nat),q.Ok → used = F.flatten.length → (F ≠ [] → lsize (F.length - 1) w + used ≤ room) → (∀ f ∈ F,1 ≤ f.length ∧ f.length ≤ 1000) →
   ((cutQ room w k q F D fi used).F ≠ [] → lsize ((cutQ room w k q F D fi used).F.length - 1) w + (cutQ room w k q F D fi used).F.flatten.length ≤ room) ∧ (∀ f ∈ (cutQ room w k q F D fi used).F,1 ≤ f.length ∧ f.length ≤ 1000) ∧
   (F ≠ [] ∨ (1 ≤ k ∧ q.l ≠ [] ∧ (1 : Int) ≤ (room : Int) - used - lsize F.length w) → (cutQ room w k q F D fi used).F ≠ [])
 | 0,q,F,D,fi,used,h,hu,hr,hF => ⟨fun hne => by rw [cutQ] at hne ⊢; simp only at hne ⊢; rw [← hu]; exact hr hne,hF,fun hh => by rw [cutQ]; rcases hh with hh | hh; exact hh; omega⟩
 | k + 1,q,F,D,fi,used,h,hu,hr,hF => by
  rw [cutQ]
  split
  ·rename_i hl
   exact ⟨fun hne => by simp only at hne ⊢; rw [← hu]; exact hr hne,hF,fun hh => by
    rcases hh with hh | ⟨_,hh,_⟩
    ·exact hh
    ·exact (hh hl).elim⟩
  ·rename_i t l hl
   have ht := h.each t (by rw [hl]; simp)
   have hf := h.first t l hl
   split
   ·exact ⟨fun hne => by simp only at hne ⊢; rw [← hu]; exact hr hne,hF,fun hh => by
     rcases hh with hh | ⟨_,_,hh⟩
     ·exact hh
     ·omega⟩
   ·rename_i hlf
    split
    ·rename_i hn
     have hdl : (t.2.drop q.taken).length = t.2.length - q.taken := List.length_drop
     obtain ⟨a,b,c⟩ := cutQ_fits (room := room) (w := w) k ⟨q.room,l,0,q.last⟩ (F ++ [t.2.drop q.taken]) (D ++ [t.1]) (if 0 < q.taken then 2 else fi) (used + (t.2.length - q.taken)) (h.behind hl) (by simp [hu]) (fun _ => by simp; omega) (fun f hf2 => by
      rcases List.mem_append.1 hf2 with hf2 | hf2
      ·exact hF f hf2
      ·simp only [List.mem_singleton] at hf2
       subst hf2
       omega)
     exact ⟨a,b,fun _ => c (.inl (by simp))⟩
    ·rename_i hn
     obtain ⟨x,hx⟩ : ∃ x,((room : Int) - used - lsize F.length w).toNat = x := ⟨_,rfl⟩
     rw [hx] at hn ⊢
     have hdl : ((t.2.drop q.taken).take x).length = x := by rw [List.length_take,List.length_drop]; omega
     refine ⟨fun _ => ?_,fun f hf2 => ?_,fun _ => by simp⟩
     ·simp only [List.length_append,List.flatten_append,List.length_singleton,List.flatten_cons,List.flatten_nil,List.append_nil,Nat.add_sub_cancel,hdl]
      omega
     ·simp only at hf2
      rcases List.mem_append.1 hf2 with hf2 | hf2
      ·exact hF f hf2
      ·simp only [List.mem_singleton] at hf2
       subst hf2
       rw [hdl]
       omega
end Go.A.V.S

namespace Go.A.V.S
open Go Go.A
structure DY (m r a b c n0 ry w next : Nat) (q : QM) (K : Heap) : Prop where
 ok : q.Ok
 ex : ∃ x,DQ K m r a b c x ∧ Rel q x
 last : q.last = n0
 row : K[ry]? = some (.row [.ptr r 0 4,ai w,ai next])
 mr : m ≤ ry
section
variable {m r a b c n0 ry w next : Nat} {q : QM} {K : Heap}
theorem DY.ds (h : DY m r a b c n0 ry w next q K) : DS K m r a b c n0 q K := ⟨h.ok,h.ex,h.last,Beh.refl _ _,rfl⟩
theorem DY.r0 (h : DY m r a b c n0 ry w next q K) : rdRow K ry 0 1 3 = some [.ptr r 0 4] := rd_row h.row rfl rfl
theorem DY.r1 (h : DY m r a b c n0 ry w next q K) : rdRow K ry 1 1 3 = some [ai w] := rd_row h.row rfl rfl
theorem DY.r2 (h : DY m r a b c n0 ry w next q K) : rdRow K ry 2 1 3 = some [ai next] := rd_row h.row rfl rfl
theorem DY.set (h : DY m r a b c n0 ry w next q K) (n : Nat) : (∀ σ,storeA σ K none (.ptr ry 2 3) (ai n) = some (σ,RC K ry [.ptr r 0 4,ai w,ai n])) ∧ DY m r a b c n0 ry w n q (RC K ry [.ptr r 0 4,ai w,ai n]) ∧ ∀ j,j < m → (RC K ry [.ptr r 0 4,ai w,ai n])[j]? = K[j]? := by
 have hrl : ry < K.length := (List.getElem?_eq_some_iff.1 h.row).1
 have hmr := h.mr
 refine ⟨fun σ => ?_,⟨h.ok,?_,h.last,RC_get hrl _,h.mr⟩,fun j hj => by rw [RC,List.getElem?_set_ne (by omega)]⟩
 ·have := RC_st hrl [.ptr r 0 4,ai w,ai next] 2 3 (ai n) σ
  rw [RC_self h.row,if_pos ⟨rfl,by omega,rfl⟩] at this
  exact this
 ·obtain ⟨x,hd,hr⟩ := h.ex
  have hrow := h.row
  have hne : ∀ {j : Nat} {o : AObj},K[j]? = some o → o ≠ .row [.ptr r 0 4,ai w,ai next] → ry ≠ j := fun ho hn e => by
   rw [← e,hrow] at ho
   exact hn (Option.some.inj ho).symm
  refine ⟨x,⟨?_,hd.mr,hd.nt,hd.ng,fun h0 => ?_,fun h0 => ?_,fun h0 => ?_,hd.ne⟩,hr⟩
  ·rw [RC,List.getElem?_set_ne (hne hd.row (by simp))]; exact hd.row
  ·obtain ⟨q1,lo,q2,q3⟩ := hd.la h0
   exact ⟨q1,lo,q2,by rw [RC,List.getElem?_set_ne (hne q3 (by simp))]; exact q3⟩
  ·obtain ⟨q1,lo,q2,q3⟩ := hd.lb h0
   exact ⟨q1,lo,q2,by rw [RC,List.getElem?_set_ne (hne q3 (by simp))]; exact q3⟩
  ·obtain ⟨q1,lo,q2,q3⟩ := hd.lc h0
   exact ⟨q1,lo,q2,by rw [RC,List.getElem?_set_ne (hne q3 (by simp))]; exact q3⟩
theorem DS.bytes {H : Heap} (h : DS H m r a b c n0 q K) (hn0 : n0 ≤ 100000) : callW P f_q16 [.ptr r 0 4] K = some (ai q.bytes,K) := by
 obtain ⟨x,hd,hr⟩ := h.ex
 exact d_Bytes hd h.ok hr (by rw [hr.n1,h.last]; exact hn0)
theorem y_e (h : DY m r a b c n0 ry w next q K) (hn0 : n0 ≤ 100000) (hw : w = 5 ∨ w = 10) (g : Int) (he : askE q w g ≠ 0) : callW P f_q12 [.ptr ry 0 3,ai g] K = some (.tup [.agg [ai 0,ai 0,nilS],nilS,ai (askE q w g)],K) := by
 have r0 := h.r0
 have r1 := h.r1
 have hB := h.ds.bytes hn0
 unfold askE at he ⊢
 by_cases h1 : g < 0 ∨ 4096 < g
 ·rw [if_pos h1]
  by_cases h0 : g < 0
  ·rw [call_L 7 rfl (rfl : P.T f_q12 = some F_q12) (le_ok rfl)]; simp -implicitDefEqProofs [-toCells,-AV.one,-forget,F_q12,c_q12,h0]
  ·have h2 : g > 4096 := by omega
   have h2' : 4096 < g := by omega
   rw [call_L 7 rfl (rfl : P.T f_q12 = some F_q12) (le_ok rfl)]; simp -implicitDefEqProofs [-toCells,-AV.one,-forget,F_q12,c_q12,h0,h2,h2']
 rw [if_neg h1] at he ⊢
 have g0 : ¬ g < 0 := by omega
 have g1 : ¬ g > 4096 := by omega
 have g1' : ¬ 4096 < g := by omega
 obtain ⟨by',hby⟩ : ∃ y,q.bytes = y := ⟨_,rfl⟩
 rw [hby] at hB he ⊢
 by_cases h2 : by' = 0
 ·rw [if_pos h2]
  subst h2
  replace hB : callW P f_q16 [.ptr r 0 4] K = some (ai 0,K) := hB
  rw [call_L 7 rfl (rfl : P.T f_q12 = some F_q12) (le_ok rfl)]; simp -implicitDefEqProofs [-toCells,-AV.one,-forget,F_q12,c_q12,g0,g1,g1',r0,hB]
 ·rw [if_neg h2] at he ⊢
  have h2' : ¬ (by' : Int) = 0 := by omega
  have hg : g ≤ (w / 5 : Nat) := by
   by_cases hx : g ≤ (w / 5 : Nat)
   ·exact hx
   ·rw [if_neg hx] at he; exact (he rfl).elim
  rw [if_pos hg]
  have hquo : ∃ n5 : Int,Int.tdiv (w : Int) 5 = n5 ∧ IntKind.i64.wrap n5 = ((w / 5 : Nat) : Int) := by
   rcases hw with rfl | rfl
   ·exact ⟨1,rfl,rfl⟩
   ·exact ⟨2,rfl,rfl⟩
  obtain ⟨n5,hq5,hw5⟩ := hquo
  generalize ((w / 5 : Nat) : Int) = w5 at *
  rw [call_L 7 rfl (rfl : P.T f_q12 = some F_q12) (le_ok rfl)]; simp -implicitDefEqProofs [-toCells,-AV.one,-forget,F_q12,c_q12,g0,g1,g1',r0,r1,hB,h2,h2',hq5,hw5,hg]
theorem bb_Ff (F : List (List Nat)) : bb (F.map fun b => ((false,b) : Bs)) = F := by
 rw [bb,List.map_map]
 exact List.map_id F
theorem bvs_bvF2 (F : List (List Nat)) : bvs (F.map fun b => (false,b)) = bvF F := by simp [bvs,bvF]
theorem u_size {q : QM} (hq : q.Ok) {w : Nat} (hw : w = 5 ∨ w = 10) {g : Int} (he : askE q w g = 0) {next : Nat} (hn : next < 2 ^ w) (hF : (bR q w g).F ≠ []) : sizeU (umOf (bR q w g) next) w ≠ 0 := by
 have hg : 0 ≤ g ∧ g ≤ 4096 ∧ ((w / 5 : Nat) : Int) < g := by
  unfold askE at he
  split at he
  ·omega
  ·split at he
   ·omega
   ·split at he
    ·omega
    ·omega
 obtain ⟨f1,f2,f3⟩ := cutQ_fits (room := rmOf w g) (w := 11) 24 q [] [] 0 0 hq (by simp) (fun h => (h rfl).elim) (fun f hf => by simp at hf)
 obtain ⟨_,f4⟩ := cutQ_F (room := rmOf w g) (w := 11) (fun _ => True) (fun _ _ _ _ => trivial) 24 q [] [] 0 0 hq (fun _ _ => trivial)
 obtain ⟨X,T,_,_,_,f5,_⟩ := cutQ_gq (room := rmOf w g) (w := 11) 24 q [] [] 0 0 hq (.inl rfl)
 have hbR : cutQ (rmOf w g) 11 24 q [] [] 0 0 = bR q w g := rfl
 rw [hbR] at f1 f2 f3 f4 f5
 replace f1 := f1 hF
 have hw5 : w / 5 ≤ 2 := by rcases hw with rfl | rfl <;> decide
 have hrm : rmOf w g + w / 5 ≤ 4000 := by unfold rmOf; split <;> omega
 have hFl : 1 ≤ (bR q w g).F.length := by
  cases hx : (bR q w g).F with
  | nil => exact (hF hx).elim
  | cons a b => simp
 have hsz : sizeU (umOf (bR q w g) next) w = w / 5 + lsize ((bR q w g).F.length - 1) 11 + (bR q w g).F.flatten.length := by
  unfold sizeU
  simp only [umOf,List.length_map]
  rw [if_neg (by rcases hw with rfl | rfl <;> simp),if_neg (by omega),if_neg (by omega),if_neg (by simp only [Int.toNat_natCast]; omega),if_neg (by omega),if_neg (by simp at f4; omega)]
  rw [bb_Ff,Int.toNat_natCast]
  have hbase : baseU ⟨((bR q w g).fi : Nat),(next : Nat),true,(bR q w g).F.map fun b => ((false,b) : Bs)⟩ w = w / 5 + lsize ((bR q w g).F.length - 1) 11 := by simp [baseU]
  rw [hbase]
  exact sumR_of _ _ (fun f hf => by have := f2 f hf; omega) (fun f hf => by have := f2 f (List.dropLast_subset _ hf); omega) (by omega)
 obtain ⟨a,b,hab⟩ : ∃ a b,(bR q w g).F = a :: b := by
  cases hx : (bR q w g).F with
  | nil => exact (hF hx).elim
  | cons a b => exact ⟨a,b,rfl⟩
 have := f2 a (by rw [hab]; simp)
 have h4 : a.length ≤ (bR q w g).F.flatten.length := by rw [hab]; simp
 omega
end
end Go.A.V.S

namespace Go.A.V.S
open Go Go.A
section
variable {m r a b c n0 ry w next : Nat} {q : QM} {K : Heap}
theorem isLd_lst (d : Nat) (z : Bool) (k : Nat) (f : Option Nat) (l : List (List AV)) : AV.isLd d (lst z k f l) = false := by
 rcases lst_cases z k f l with ⟨_,_,e⟩ | ⟨e,_⟩ <;> rw [e] <;> rfl
theorem ask_0 {g : Int} (he : askE q w g = 0) : (0 ≤ g ∧ g ≤ 4096 ∧ ((w / 5 : Nat) : Int) < g) ∧ q.bytes ≠ 0 := by
 unfold askE at he
 split at he
 ·omega
 ·split at he
  ·omega
  ·split at he
   ·omega
   ·exact ⟨by omega,by assumption⟩
set_option maxHeartbeats 2000000 in
theorem y_0 (h : DY m r a b c n0 ry w next q K) (hn0 : n0 ≤ 100000) (hw : w = 5 ∨ w = 10) (hn : next < 2 ^ w) (g : Int) (he : askE q w g = 0) :
  ∃ K',(∀ j,j < m → K'[j]? = K[j]?) ∧ K'.length = K.length ∧ (((bR q w g).F = [] ∧ DY m r a b c n0 ry w next (bR q w g).q K' ∧ callW P f_q12 [.ptr ry 0 3,ai g] K = some (.tup [.agg [ai 0,ai 0,nilS],nilS,ai 4],K')) ∨
   ((bR q w g).F ≠ [] ∧ DY m r a b c n0 ry w ((next + 1) % 2 ^ w) (bR q w g).q K' ∧ callW P f_q12 [.ptr ry 0 3,ai g] K = some (.tup [.agg [ai (bR q w g).fi,ai next,lst true 1 none (bvF (bR q w g).F)],lst true 1 none (uls (bR q w g).D),ai 0],K'))) := by
 obtain ⟨⟨g0,g4,gw⟩,hb0⟩ := ask_0 he
 have r0 := h.r0
 have r1 := h.r1
 have hB := h.ds.bytes hn0
 have hw5 : w / 5 ≤ 2 := by rcases hw with rfl | rfl <;> decide
 obtain ⟨rm,hrm⟩ : ∃ x,rmOf w g = x := ⟨_,rfl⟩
 have hrm4 : rm ≤ 4000 := by rw [← hrm,rmOf]; split <;> omega
 obtain ⟨K1,hS1,hC⟩ := rb_Build h.ds hn0 rm hrm4
 have hbR : cutQ rm 11 24 q [] [] 0 0 = bR q w g := by rw [bR,hrm]
 rw [hbR] at hS1 hC
 have hrow1 : K1[ry]? = some (.row [.ptr r 0 4,ai w,ai next]) := hS1.beh.r3 _ _ rfl h.row
 have hY1 : DY m r a b c n0 ry w next (bR q w g).q K1 := ⟨hS1.ok,hS1.ex,hS1.last,hrow1,h.mr⟩
 obtain ⟨s2,hY2,hold2⟩ := hY1.set ((next + 1) % 2 ^ w)
 have hquo : ∃ n5 : Int,Int.tdiv (w : Int) 5 = n5 ∧ IntKind.i64.wrap n5 = ((w / 5 : Nat) : Int) := by
  rcases hw with rfl | rfl
  ·exact ⟨1,rfl,rfl⟩
  ·exact ⟨2,rfl,rfl⟩
 obtain ⟨n5,hq5,hw5'⟩ := hquo
 have c1 : ¬ g < 0 := by omega
 have c2 : ¬ g > 4096 := by omega
 have c2' : ¬ 4096 < g := by omega
 have c3 : ¬ (q.bytes : Int) = 0 := by omega
 have c4 : ¬ g ≤ ((w / 5 : Nat) : Int) := by omega
 have hgm : ∃ gm : Int,(gm = if g > 4000 then 4000 else g) ∧ IntKind.i64.wrap (gm - ((w / 5 : Nat) : Int)) = rm := by
  refine ⟨_,rfl,?_⟩
  have : (if g > 4000 then 4000 else g) - ((w / 5 : Nat) : Int) = rm := by
   rw [← hrm,rmOf]
   split <;> split <;> omega
  rw [this]
  exact wrap_i64 (by omega) (by omega)
 obtain ⟨gm,hgm1,hgm2⟩ := hgm
 have hgo := r02_Go hw hn
 have hr2 := hY1.r2
 have hr1 := hY1.r1
 by_cases hF : (bR q w g).F = []
 ·refine ⟨K1,hS1.beh.old,hS1.len,.inl ⟨hF,hY1,?_⟩⟩
  have hcp : cutPub (bR q w g) = .tup [.agg [ai 0,nilS,nilS],ai 4] := by rw [cutPub,if_pos hF]
  rw [hcp] at hC
  have hl1 : K1.length = K.length := hS1.len
  have ht1 : K1.take K.length = K1 := List.take_of_length_le (by omega)
  generalize q.bytes = by' at *
  generalize ((w / 5 : Nat) : Int) = w5 at *
  clear hS1 hY1 hY2 s2 hold2 h
  by_cases h4 : g > 4000
  ·have h4' : 4000 < g := h4
   rw [if_pos h4] at hgm1
   subst hgm1
   rw [call_L 7 rfl (rfl : P.T f_q12 = some F_q12) (le_ok rfl)]; simp -implicitDefEqProofs [-toCells,-AV.one,-forget,F_q12,c_q12,c1,c2,c2',r0,r1,hB,hb0,c3,hq5,hw5',c4,h4,h4',hgm2,hC,hl1,ht1]
  ·have h4' : ¬ 4000 < g := h4
   rw [if_neg h4] at hgm1
   subst hgm1
   rw [call_L 7 rfl (rfl : P.T f_q12 = some F_q12) (le_ok rfl)]; simp -implicitDefEqProofs [-toCells,-AV.one,-forget,F_q12,c_q12,c1,c2,c2',r0,r1,hB,hb0,c3,hq5,hw5',c4,h4,h4',hgm2,hC,hl1,ht1]
 ·refine ⟨_,fun j hj => (hold2 j hj).trans (hS1.beh.old j hj),by rw [RC_len]; exact hS1.len,.inr ⟨hF,hY2,?_⟩⟩
  have hcp : cutPub (bR q w g) = .tup [.agg [ai (bR q w g).fi,lst true 1 none (bvF (bR q w g).F),lst true 1 none (uls (bR q w g).D)],ai 0] := by rw [cutPub,if_neg hF]
  rw [hcp] at hC
  have hl1 : K1.length = K.length := hS1.len
  have hl2 : (RC K1 ry [.ptr r 0 4,ai w,ai ((next + 1) % 2 ^ w : Nat)]).length = K.length := by rw [RC_len,hl1]
  have ht2 : (RC K1 ry [.ptr r 0 4,ai w,ai ((next + 1) % 2 ^ w : Nat)]).take K.length = RC K1 ry [.ptr r 0 4,ai w,ai ((next + 1) % 2 ^ w : Nat)] := List.take_of_length_le (by omega)
  generalize RC K1 ry [.ptr r 0 4,ai w,ai ((next + 1) % 2 ^ w : Nat)] = K2 at *
  obtain ⟨nx,hnx⟩ : ∃ y,(next + 1) % 2 ^ w = y := ⟨_,rfl⟩
  rw [hnx] at s2 hgo
  generalize (bR q w g).fi = fi at *
  generalize uls (bR q w g).D = D1 at *
  generalize bvF (bR q w g).F = F1 at *
  generalize q.bytes = by' at *
  generalize ((w / 5 : Nat) : Int) = w5 at *
  clear hS1 hY1 hY2 hold2 h
  by_cases h4 : g > 4000
  ·have h4' : 4000 < g := h4
   rw [if_pos h4] at hgm1
   subst hgm1
   rw [call_L 7 rfl (rfl : P.T f_q12 = some F_q12) (le_ok rfl)]; simp -implicitDefEqProofs [-toCells,-AV.one,-forget,F_q12,c_q12,keepB,-goodB,goodB_L,sameV,dstNot,dstNe,SOpG.reads,SOp.slots,SX.slots,SOp.noL,rdV_load,rdV_str,selfE_lst,selfE,selfEs,eqV,okN,SOpG.badNew,dstL,AV.isLp,AV.isLd,L_any,anyT_n,anyT_full,isLd_lst,-List.any_eq_true,-List.any_eq_false,c1,c2,c2',r0,r1,hB,hb0,c3,hq5,hw5',c4,h4,h4',hgm2,hC,hr1,hr2,hgo,s2,hl2,ht2]
   exact L_any _ _ _ (by simp [anyT_n,anyT_full,AV.isLd]; exact isLd_lst 11 true 1 none F1)
  ·have h4' : ¬ 4000 < g := h4
   rw [if_neg h4] at hgm1
   subst hgm1
   rw [call_L 7 rfl (rfl : P.T f_q12 = some F_q12) (le_ok rfl)]; simp -implicitDefEqProofs [-toCells,-AV.one,-forget,F_q12,c_q12,keepB,-goodB,goodB_L,sameV,dstNot,dstNe,SOpG.reads,SOp.slots,SX.slots,SOp.noL,rdV_load,rdV_str,selfE_lst,selfE,selfEs,eqV,okN,SOpG.badNew,dstL,AV.isLp,AV.isLd,L_any,anyT_n,anyT_full,isLd_lst,-List.any_eq_true,-List.any_eq_false,c1,c2,c2',r0,r1,hB,hb0,c3,hq5,hw5',c4,h4,h4',hgm2,hC,hr1,hr2,hgo,s2,hl2,ht2]
   exact L_any _ _ _ (by simp [anyT_n,anyT_full,AV.isLd]; exact isLd_lst 11 true 1 none F1)
end
end Go.A.V.S
