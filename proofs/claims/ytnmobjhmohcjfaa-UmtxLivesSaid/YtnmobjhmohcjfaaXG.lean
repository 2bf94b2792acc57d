/- queue: Discard. -/
import Derived.Test.YtnmobjhmohcjfaaXE
import Derived.Test.YtnmobjhmohcjfaaXA
import Derived.Test.YtnmobjhmohcjfaaXD
import Derived.Test.YtnmobjhmohcjfaaV14
set_option linter.unusedSimpArgs false
set_option linter.unusedVariables false
set_option linter.unnecessarySimpa false
namespace Go.A.V.S
open Go Go.A
section
variable {H : Heap} {r : Nat}
theorem okCell_lst (z : Bool) (k : Nat) (f : Option Nat) (l : List (List AV)) : okCell (lst z k f l) = true := by
 rcases lst_cases z k f l with ⟨_,_,e⟩ | ⟨e,_⟩ <;> rw [e] <;> rfl
def InvD (H : Heap) (r : Nat) (q : QM) (z : Bool) (id : Nat) (zz : Nat) (σ : List AV) (G : Heap) : Prop :=
 ∃ i : Nat,i + zz = q.l.length ∧ (∀ j t,j < i → q.l[j]? = some t → t.1 ≠ id) ∧ G = QH H r q z ∧ σ = L 74 ((((Tr.full 7).put (path 0) (.ptr r 0 5)).put (path 1) (ul id)).put (path 5) (ai i))
def QX (H : Heap) (r : Nat) (q : QM) (G : Heap) : Prop := ∃ z' k,G = QH H r q z' ++ List.replicate k .other
def PostD (H : Heap) (r : Nat) (q : QM) (id : Nat) (e : AExit) (σ : List AV) (G : Heap) : Prop :=
 e = .ret ∧ resultsA F_q28.res σ = some (ai ((q.discard id).2 : Nat)) ∧ QX H r (q.discard id).1 G
theorem find_none {l : List (Nat × List Nat)} {id : Nat} (h : ∀ j t,j < l.length → l[j]? = some t → t.1 ≠ id) : (l.findIdx? fun t => t.1 == id) = none := by
 rw [List.findIdx?_eq_none_iff]
 intro t ht
 obtain ⟨j,hj⟩ := List.getElem?_of_mem ht
 have := h j t (List.getElem?_eq_some_iff.1 hj).1 hj
 simpa using this
theorem find_some {l : List (Nat × List Nat)} {id i : Nat} {t : Nat × List Nat} (h : ∀ j t,j < i → l[j]? = some t → t.1 ≠ id) (hi : l[i]? = some t) (ht : t.1 = id) : (l.findIdx? fun t => t.1 == id) = some i := by
 rw [List.findIdx?_eq_some_iff_getElem]
 have hlt := (List.getElem?_eq_some_iff.1 hi).1
 refine ⟨hlt,?_,fun j hj => ?_⟩
 ·have := (List.getElem?_eq_some_iff.1 hi).2
  rw [this]; simpa using ht
 ·have := h j l[j] hj (List.getElem?_eq_getElem (by omega))
  simpa using this
set_option maxHeartbeats 2000000 in
theorem disc_tail (hlt : r < H.length) {q : QM} (hq : q.Ok) (z : Bool) {id : Nat} (zz : Nat) (σ : List AV) (G : Heap) (hI : InvD H r q z id zz (kill (headK tsc0_q28) σ) G) :
  Ends ((execW P f_q28 tsc0_q28 σ G).bind (jumpW P f_q28 sc0_q28 0)) fun s => PostD H r q id s.e s.σ s.H := by
 refine scope_ends (InvD H r q z id) (PostD H r q id) rfl ?_ zz σ G hI
 clear hI zz σ G
 rintro zz σ G ⟨i,hz,hall,rfl,hσ⟩
 rw [← execW_head,hσ]
 have hlw : lenW (lst z 2 none (txs q.l)) = some q.l.length := by rw [lenW_lst,txs_len]
 have hln := hq.len
 have hqd : ∀ x,q.find id = x → q.discard id = match x with
  | none => (q,4)
  | some i => if i = 0 ∧ 0 < q.taken then (q,7) else (⟨q.room,q.l.eraseIdx i,q.taken,q.last⟩,0) := fun x hx => by unfold QM.discard; rw [hx]; cases x <;> rfl
 rw [QH_QC]
 have r1 := QC_1 (room := q.room) (l := lst z 2 none (txs q.l)) (taken := q.taken) (last := q.last) (bytes := q.bytes) hlt
 have r2 := QC_2 (room := q.room) (l := lst z 2 none (txs q.l)) (taken := q.taken) (last := q.last) (bytes := q.bytes) hlt
 by_cases hi : i = q.l.length
 ·have hfd : q.find id = none := find_none (fun j t hj h => hall j t (by omega) h)
  have hR := hqd _ hfd
  simp only at hR
  have hi' : (i : Int) = q.l.length := by omega
  unfold PostD
  rw [hR]
  simp only
  rw [← hi] at hlw
  generalize hG : QC H r q.room (lst z 2 none (txs q.l)) q.taken q.last q.bytes = G at *
  simp -implicitDefEqProofs [-toCells,-AV.one,-forget,c_q28,tsc0_q28,r1,hlw]
  exact ⟨by simp [F_q28],z,0,by rw [QH_QC,hG]; simp⟩
 ·have hi' : ¬ (i : Int) = q.l.length := by omega
  obtain ⟨t,ht⟩ : ∃ t,q.l[i]? = some t := ⟨_,List.getElem?_eq_getElem (by omega)⟩
  have q1 := txs_at ht z none .i64
  by_cases hid : t.1 = id
  ·have hfd : q.find id = some i := find_some hall ht hid
   have hR := hqd _ hfd
   simp only at hR
   have hid' : (t.1 : Int) = id := by omega
   have hx := hq.each t (List.mem_of_getElem? ht)
   have n0 : ¬ i = q.l.length := hi
   by_cases hst : i = 0 ∧ 0 < q.taken
   ·rw [if_pos hst] at hR
    obtain ⟨rfl,h0⟩ := hst
    have h0' : (q.taken : Int) > 0 := by omega
    have h0'' : (0 : Int) < q.taken := by omega
    unfold PostD
    rw [hR]
    simp only
    obtain ⟨n,hn⟩ : ∃ x,q.l.length = x := ⟨_,rfl⟩
    rw [hn] at hi hi' hlw n0
    have n1 : ¬ (0 : Int) = n := by omega
    generalize hG : QC H r q.room (lst z 2 none (txs q.l)) q.taken q.last q.bytes = G at *
    replace q1 : iaddrW 2 none (lst z 2 none (txs q.l)) (ai 0) = some (.vp [ul t.1,bv (false,t.2)] 0) := q1
    simp -implicitDefEqProofs [-toCells,-AV.one,-forget,c_q28,tsc0_q28,r1,r2,hlw,n0,n1,q1,hid,hid',h0,h0',h0'']
    exact ⟨by simp [F_q28],z,0,by rw [QH_QC,hG]; simp⟩
   ·rw [if_neg hst] at hR
    unfold PostD
    rw [hR]
    simp only
    have hte := tot_erase _ _ _ ht
    have hby2 : ((⟨q.room,q.l.eraseIdx i,q.taken,q.last⟩ : QM).bytes : Int) = (q.bytes : Int) - t.2.length := by
     have e1 : q.bytes = tot q.l - q.taken := rfl
     have e2 : (⟨q.room,q.l.eraseIdx i,q.taken,q.last⟩ : QM).bytes = tot (q.l.eraseIdx i) - q.taken := rfl
     have hok := QM.discard_ok hq id
     rw [hR] at hok
     have := hok.taken_le
     simp only at this
     omega
    obtain ⟨n,hn⟩ : ∃ x,q.l.length = x := ⟨_,rfl⟩
    have r4 := QC_4 (room := q.room) (l := lst z 2 none (txs q.l)) (taken := q.taken) (last := q.last) (bytes := q.bytes) hlt
    obtain ⟨bl,hbl⟩ : ∃ x,t.2.length = x := ⟨_,rfl⟩
    have hlb : lenW (bv (false,t.2)) = some bl := by rw [bv_len]; simp only; rw [hbl]
    have htl := hq.tot_le
    have hbyl : q.bytes ≤ 64000 := by have e1 : q.bytes = tot q.l - q.taken := rfl; omega
    have w4 : IntKind.i64.wrap ((q.bytes : Int) - bl) = (q.bytes : Int) - bl := wrap_i64 (by omega) (by omega)
    rw [hbl] at hby2
    have s4 := QC_s4 (room := q.room) (l := lst z 2 none (txs q.l)) (taken := q.taken) (last := q.last) (bytes := q.bytes) hlt ((q.bytes : Int) - bl)
    have a1 := QC_1 (room := q.room) (l := lst z 2 none (txs q.l)) (taken := q.taken) (last := q.last) (bytes := (q.bytes : Int) - bl) hlt
    have w1 : IntKind.i64.wrap ((i : Int) + 1) = ((i + 1 : Nat) : Int) := by rw [wrap_i64 (by omega) (by omega)]; omega
    have c1 := fun d => cutV_lst z 2 none d (txs q.l) (lo := none) (hi := some (ai i)) (i := 0) (j := i) (.inl ⟨rfl,rfl⟩) (.inr ⟨.i64,rfl⟩) (by omega) (by rw [txs_len]; omega)
    have c2 := fun d => cutV_lst z 2 none d (txs q.l) (lo := some (ai (i + 1 : Nat))) (hi := none) (i := i + 1) (j := n) (.inr ⟨.i64,rfl⟩) (.inl ⟨rfl,by rw [txs_len,hn]⟩) (by omega) (by rw [txs_len]; omega)
    have ne : q.l ≠ [] := fun e => by rw [e] at ht; simp at ht
    have e1 : cutL z 2 none (txs q.l) 0 i = lst false 2 none (txs (q.l.take i)) := by
     have : (txs q.l).isEmpty = false := by simp [txs,ne]
     simp only [cutL,this,Bool.and_false,List.drop_zero]
     simp [txs,List.map_take]
    have e2 : cutL z 2 none (txs q.l) (i + 1) n = lst false 2 none (txs (q.l.drop (i + 1))) := by
     have : (txs q.l).isEmpty = false := by simp [txs,ne]
     simp only [cutL,this,Bool.and_false]
     rw [List.take_of_length_le (by rw [txs_len]; omega)]
     simp [txs,List.map_drop]
    rw [e1] at c1
    rw [e2] at c2
    obtain ⟨k,hcc⟩ := Concat2 (za := false) (zb := false) (la := q.l.take i) (lb := q.l.drop (i + 1)) (by rw [List.length_take]; omega) (by rw [List.length_drop]; omega) (QC H r q.room (lst z 2 none (txs q.l)) q.taken q.last ((q.bytes : Int) - bl))
    have e3 : q.l.take i ++ q.l.drop (i + 1) = q.l.eraseIdx i := (List.eraseIdx_eq_take_drop_succ _ _).symm
    rw [e3] at hcc
    have hQX : ∀ σ,storeA σ (QC H r q.room (lst z 2 none (txs q.l)) q.taken q.last ((q.bytes : Int) - bl) ++ List.replicate k .other) none (.ptr r 1 5) (lst true 2 none (txs (q.l.eraseIdx i))) = some (σ,QH H r ⟨q.room,q.l.eraseIdx i,q.taken,q.last⟩ true ++ List.replicate k .other) := fun σ => by
     rw [QC,RC_app hlt]
     have := QC_s1 (H := H ++ List.replicate k .other) (r := r) (room := q.room) (l := lst z 2 none (txs q.l)) (taken := q.taken) (last := q.last) (bytes := (q.bytes : Int) - bl) (by simp; omega) (lst true 2 none (txs (q.l.eraseIdx i))) (okCell_lst _ _ _ _) σ
     rw [QC] at this
     rw [this,QH_QC,hby2,QC,QC,RC_app hlt]
    replace hcc : callW P f_q60 [.vs 1 none [[.vs 2 none (txs (q.l.take i))],[.vs 2 none (txs (q.l.drop (i + 1)))]]] _ = _ := hcc
    obtain ⟨i1,hi1⟩ : ∃ i1,i + 1 = i1 := ⟨_,rfl⟩
    rw [hi1] at w1 c2 hcc
    rw [hn] at hi hi' hlw n0
    have hlenQ : ∀ by',(QC H r q.room (lst z 2 none (txs q.l)) q.taken q.last by').length = H.length := fun _ => QC_len _ _ _ _ _ _ _
    by_cases hi0 : i = 0
    ·have h0 : ¬ 0 < q.taken := fun h => hst ⟨hi0,h⟩
     have h0' : ¬ (q.taken : Int) > 0 := by omega
     have h0'' : ¬ (0 : Int) < q.taken := by omega
     subst hi0
     obtain rfl : i1 = 1 := by omega
     replace q1 : iaddrW 2 none (lst z 2 none (txs q.l)) (ai 0) = some (.vp [ul t.1,bv (false,t.2)] 0) := q1
     replace c1 : ∀ d,cutV 2 d (lst z 2 none (txs q.l)) none (some (ai 0)) none = some (.vs 2 none (txs (q.l.take 0))) := c1
     replace c2 : ∀ d,cutV 2 d (lst z 2 none (txs q.l)) (some (ai 1)) none none = some (.vs 2 none (txs (q.l.drop 1))) := c2
     generalize q.l.take 0 = lA at *
     generalize q.l.drop 1 = lB at *
     generalize q.l.eraseIdx 0 = lE at *
     have w1' : IntKind.i64.wrap 1 = 1 := rfl
     have m0 : ¬ (0 : Int) = n := by omega
     have m0' : ¬ 0 = n := by omega
     simp -implicitDefEqProofs [-toCells,-AV.one,-forget,c_q28,keepB,-goodB,goodB_L,sameV,dstNot,dstNe,SOpG.reads,SOp.slots,SX.slots,SOp.noL,rdV_load,rdV_str,selfE_lst,selfE,selfEs,eqV,tsc0_q28,r1,r2,r4,hlw,m0,m0',q1,hid,hid',h0,h0',h0'',hlb,w4,s4,a1,w1',c1,c2,hcc,hQX]
     exact ⟨by simp [F_q28],true,k,rfl⟩
    ·have hii : ¬ (i : Int) = 0 := by omega
     simp -implicitDefEqProofs [-toCells,-AV.one,-forget,c_q28,keepB,-goodB,goodB_L,sameV,dstNot,dstNe,SOpG.reads,SOp.slots,SX.slots,SOp.noL,rdV_load,rdV_str,selfE_lst,selfE,selfEs,eqV,tsc0_q28,r1,r2,r4,hlw,hi,hi',n0,q1,hid,hid',hi0,hii,hlb,w4,s4,a1,w1,c1,c2,hcc,hQX]
     exact ⟨by simp [F_q28],true,k,rfl⟩
  ·have hid' : ¬ (t.1 : Int) = id := by omega
   have w1 : IntKind.i64.wrap ((i : Int) + 1) = ((i + 1 : Nat) : Int) := by rw [wrap_i64 (by omega) (by omega)]; omega
   obtain ⟨i1,hi1⟩ : ∃ i1,i + 1 = i1 := ⟨_,rfl⟩
   rw [hi1] at w1
   obtain ⟨n,hn⟩ : ∃ x,q.l.length = x := ⟨_,rfl⟩
   rw [hn] at hi hi' hlw
   rw [show InvD H r q z id = InvD H r q z id from rfl]
   generalize hG : QC H r q.room (lst z 2 none (txs q.l)) q.taken q.last q.bytes = G at *
   simp -implicitDefEqProofs [-toCells,-AV.one,-forget,c_q28,tsc0_q28,r1,hlw,hi,hi',q1,hid,hid',w1]
   refine ⟨zz - 1,by omega,i1,by omega,fun j x hj hx => ?_,by rw [QH_QC,hG],by simp⟩
   by_cases hji : j < i
   ·exact hall j x hji hx
   ·obtain rfl : j = i := by omega
    rw [ht] at hx
    obtain rfl := Option.some.inj hx
    exact hid
end
end Go.A.V.S

namespace Go.A.V.S
open Go Go.A
section
variable {H : Heap} {r : Nat}
theorem q_Discard (hlt : r < H.length) {q : QM} (hq : q.Ok) (z : Bool) (id : Nat) : ∃ z' k,callW P f_q28 [.ptr r 0 5,ul id] (QH H r q z) = some (ai ((q.discard id).2 : Nat),QH H r (q.discard id).1 z' ++ List.replicate k .other) := by
 suffices hs : Ends (callW P f_q28 [.ptr r 0 5,ul id] (QH H r q z)) fun y => ∃ z' k,y = (ai ((q.discard id).2 : Nat),QH H r (q.discard id).1 z' ++ List.replicate k .other) by
  obtain ⟨y,h1,z',k,rfl⟩ := hs
  exact ⟨z',k,h1⟩
 have hm := q_made hlt hq.room.1 z
 refine call_post 7 74 rfl (rfl : P.T f_q28 = some F_q28) rfl (le_ok rfl) (PostD H r q id) ?_ ?_
 ·rintro e σ G ⟨rfl,h2,z',k,rfl⟩
  refine ⟨rfl,_,h2,rfl,?_⟩
  have hl : (QH H r (q.discard id).1 z').length = H.length := QH_len _ _ _ _
  have ht : (QH H r (q.discard id).1 z').take H.length = QH H r (q.discard id).1 z' := QH_take _ _ _ _
  refine ⟨_,?_,z',k,rfl⟩
  simp only [K_q28,C_q28,finish_n,frz_c,Option.map_some,QH_len]
  rw [List.take_append_of_le_length (by rw [hl]; exact Nat.le_refl _),ht,List.length_append,hl,List.length_replicate,Nat.add_sub_cancel_left]
  rfl
 have hlt' := hlt
 have hQ : QH H r q z = QH H r q z := rfl
 generalize hG : QH H r q z = G at hm hQ ⊢
 rw [F_q28]; simp -implicitDefEqProofs [-toCells,-AV.one,-forget,c_q28,hm]
 refine disc_tail hlt hq z q.l.length _ _ ?_
 exact ⟨0,by omega,fun j t hj => by omega,by rw [hG],by simp [tsc0_q28]⟩
theorem q_nil_Push (b : Bs) (H : Heap) : callW P f_q23 [.c (.pointer none),bv b] H = some (.tup [ul 0,ai 6],H) := by
 have hm := q_made_nil H
 rw [call_L 7 rfl (rfl : P.T f_q23 = some F_q23) (le_ok rfl)]; simp -implicitDefEqProofs [-toCells,-AV.one,-forget,F_q23,c_q23,hm]
theorem q_nil_Discard (id : Nat) (H : Heap) : callW P f_q28 [.c (.pointer none),ul id] H = some (ai 6,H) := by
 have hm := q_made_nil H
 rw [call_L 7 rfl (rfl : P.T f_q28 = some F_q28) (le_ok rfl)]; simp -implicitDefEqProofs [-toCells,-AV.one,-forget,F_q28,c_q28,hm]
theorem q_nil_Bytes (H : Heap) : callW P f_q29 [.c (.pointer none)] H = some (ai 0,H) := by
 rw [call_L 4 rfl (rfl : P.T f_q29 = some F_q29) (le_ok rfl)]; simp -implicitDefEqProofs [-toCells,-AV.one,-forget,F_q29,c_q29]
theorem cut_isWidth (w : Int) (H : Heap) : callW P f_q72 [ai w] H = some (ab (decide (w = 11 ∨ w = 15)),H) := by
 by_cases h1 : w = 11
 ·rw [call_L 4 rfl (rfl : P.T f_q72 = some F_q72) (le_ok rfl)]; simp -implicitDefEqProofs (disch := first | omega | (simp; done) | fail) [-toCells,-AV.one,-forget,F_q72,c_q72,cmp_ilt,cmp_ilf,cmp_ile,cmp_ilg,cmp_ine,cmp_ieq,cmp_nlt,cmp_nlf,cmp_nle,cmp_nne,cmp_neq,wrap_i64,wrap_u64,wrap_u8,h1]
 ·by_cases h2 : w = 15
  ·rw [call_L 4 rfl (rfl : P.T f_q72 = some F_q72) (le_ok rfl)]; simp -implicitDefEqProofs (disch := first | omega | (simp; done) | fail) [-toCells,-AV.one,-forget,F_q72,c_q72,cmp_ilt,cmp_ilf,cmp_ile,cmp_ilg,cmp_ine,cmp_ieq,cmp_nlt,cmp_nlf,cmp_nle,cmp_nne,cmp_neq,wrap_i64,wrap_u64,wrap_u8,h1,h2]
  ·rw [call_L 4 rfl (rfl : P.T f_q72 = some F_q72) (le_ok rfl)]; simp -implicitDefEqProofs (disch := first | omega | (simp; done) | fail) [-toCells,-AV.one,-forget,F_q72,c_q72,cmp_ilt,cmp_ilf,cmp_ile,cmp_ilg,cmp_ine,cmp_ieq,cmp_nlt,cmp_nlf,cmp_nle,cmp_nne,cmp_neq,wrap_i64,wrap_u64,wrap_u8,h1,h2]
end
end Go.A.V.S

namespace Go.A.V.S
structure CR where
 q : QM
 F : List (List Nat)
 D : List Nat
 fi : Nat
def cutQ (room w : Nat) : Nat → QM → List (List Nat) → List Nat → Nat → Nat → CR
 | 0,q,F,D,fi,_ => ⟨q,F,D,fi⟩
 | k + 1,q,F,D,fi,used => match q.l with
  | [] => ⟨q,F,D,fi⟩
  | t :: l => if (room : Int) - used - lsize F.length w < 1 then ⟨q,F,D,fi⟩ else
   if t.2.length - q.taken ≤ ((room : Int) - used - lsize F.length w).toNat then
    cutQ room w k ⟨q.room,l,0,q.last⟩ (F ++ [t.2.drop q.taken]) (D ++ [t.1]) (if 0 < q.taken then 2 else fi) (used + (t.2.length - q.taken))
   else ⟨⟨q.room,q.l,q.taken + ((room : Int) - used - lsize F.length w).toNat,q.last⟩,F ++ [(t.2.drop q.taken).take ((room : Int) - used - lsize F.length w).toNat],D,(if 0 < q.taken then 2 else fi) + 1⟩
end Go.A.V.S

namespace Go.A.V.S
open Go Go.A
def bvF (F : List (List Nat)) : List (List AV) := F.map fun b => [bv (false,b)]
theorem bvF_len (F : List (List Nat)) : (bvF F).length = F.length := by simp [bvF]
theorem bvF_snoc (F : List (List Nat)) (b : List Nat) : bvF (F ++ [b]) = bvF F ++ [[bv (false,b)]] := by simp [bvF]
section
variable {H : Heap} {r : Nat}
def InvB (H : Heap) (r room w : Nat) (R : CR) (zz : Nat) (σ : List AV) (G : Heap) : Prop :=
 ∃ (q : QM) (F : List (List Nat)) (D : List Nat) (fi used : Nat) (z : Bool),zz + F.length = 24 ∧ q.Ok ∧ used ≤ F.length * 1000 ∧ D.length ≤ F.length ∧ (fi = 0 ∨ fi = 2) ∧ cutQ room w zz q F D fi used = R ∧ G = QH H r q z ∧
  σ = L 111 (((((((Tr.full 7).put (path 0) (.ptr r 0 5)).put (path 1) (ai room)).put (path 2) (ai w)).put (path 6) (.lbox [ai 0,nilS,nilS])).put (path 12) (.lbox [ai fi,lst true 1 (some 88) (bvF F),lst true 1 (some 99) (uls D)])).put (path 13) (ai used))
def cutRes (R : CR) : AV := if R.F = [] then .tup [.agg [ai 0,nilS,nilS],ai 4] else .tup [.agg [ai R.fi,lst true 1 (some 88) (bvF R.F),lst true 1 (some 99) (uls R.D)],ai 0]
def QZ (H : Heap) (r : Nat) (q : QM) (G : Heap) : Prop := ∃ z,G = QH H r q z
def PostB (H : Heap) (r : Nat) (R : CR) (e : AExit) (σ : List AV) (G : Heap) : Prop :=
 QZ H r R.q G ∧ ((e = .goto 1 ∧ kill (headK tsc1_q25) σ = L 111 (((Tr.full 7).put (path 6) (.lbox [ai 0,nilS,nilS])).put (path 12) (.lbox [ai R.fi,lst true 1 (some 88) (bvF R.F),lst true 1 (some 99) (uls R.D)]))) ∨ (e = .ret ∧ resultsA F_q25.res σ = some (cutRes R)))
theorem lsize50 (n w : Nat) (hw : w = 11 ∨ w = 15) : lsize n w ≤ 50 := by
 unfold lsize; split
 ·omega
 ·rcases hw with rfl | rfl <;> omega
set_option maxHeartbeats 4000000 in
theorem cut_tail (hlt : r < H.length) {room w : Nat} (hroom : room ≤ 4000) (hw : w = 11 ∨ w = 15) {R : CR} (zz : Nat) (σ : List AV) (G : Heap) (hI : InvB H r room w R zz (kill (headK tsc0_q25) σ) G) :
  Ends ((execW P f_q25 tsc0_q25 σ G).bind (jumpW P f_q25 sc0_q25 0)) fun s => PostB H r R s.e s.σ s.H := by
 refine scope_ends (InvB H r room w R) (PostB H r R) rfl ?_ zz σ G hI
 clear hI zz σ G
 rintro zz σ G ⟨q,F,D,fi,used,z,hz,hq,hu,hD,hfi,hR,rfl,hσ⟩
 rw [← execW_head,hσ]
 have hS := fun H => lens_Size F.length w hw (by omega) H
 have hls := lsize50 F.length w hw
 have hFl : lenW (lst true 1 (some 88) (bvF F)) = some F.length := by rw [lenW_lst,bvF_len]
 obtain ⟨lf,hlf⟩ : ∃ x : Int,(room : Int) - used - (lsize F.length w : Nat) = x := ⟨_,rfl⟩
 obtain ⟨ru,hru⟩ : ∃ x : Int,(room : Int) - used = x := ⟨_,rfl⟩
 have w1 : IntKind.i64.wrap ((room : Int) - used) = ru := by rw [← hru]; exact wrap_i64 (by omega) (by omega)
 have w2' : IntKind.i64.wrap (ru - (lsize F.length w : Nat)) = lf := by rw [← hlf,hru]; exact wrap_i64 (by omega) (by omega)
 cases hl : q.l with
 | nil =>
  have hF0 := q_Front0 hlt hq z hl
  have hRq : R = ⟨q,F,D,fi⟩ := by
   rw [← hR]
   cases zz with
   | zero => rfl
   | succ k => rw [cutQ,hl]
  subst hRq
  have hqz : QZ H r q (QH H r q z) := ⟨z,rfl⟩
  unfold PostB
  simp only
  generalize QH H r q z = G at *
  simp -implicitDefEqProofs [-toCells,-AV.one,-forget,c_q25,tsc0_q25,hF0,hS,hFl,w1,w2']
  exact ⟨hqz,by simp [tsc1_q25]⟩
 | cons t l =>
  have hF1 := q_Front1 hlt hq z hl
  have ht := hq.each t (by rw [hl]; simp)
  have hf := hq.first t l hl
  obtain ⟨m,hm⟩ : ∃ x,t.2.length - q.taken = x := ⟨_,rfl⟩
  have hbl : (t.2.drop q.taken).length = m := by rw [List.length_drop]; omega
  have hlb : lenW (bv (false,t.2.drop q.taken)) = some m := by rw [bv_len]; simp only; rw [hbl]
  have m0 : ¬ (m : Int) = 0 := by omega
  have m0' : ¬ m = 0 := by omega
  have hqz : QZ H r q (QH H r q z) := ⟨z,rfl⟩
  by_cases hl1 : lf < 1
  ·have hRq : R = ⟨q,F,D,fi⟩ := by
    rw [← hR]
    cases zz with
    | zero => rfl
    | succ k => rw [cutQ,hl]; simp only; rw [if_pos (by rw [hlf]; exact hl1)]
   subst hRq
   unfold PostB
   simp only
   generalize t.2.drop q.taken = wd at *
   generalize QH H r q z = G at *
   generalize decide (0 < q.taken) = bg at *
   simp -implicitDefEqProofs [-toCells,-AV.one,-forget,c_q25,tsc0_q25,hF1,hS,hFl,w1,w2',hlb,m0,m0',hl1]
   exact ⟨hqz,by simp [tsc1_q25]⟩
  by_cases h24 : F.length = 24
  ·obtain rfl : zz = 0 := by omega
   have hRq : R = ⟨q,F,D,fi⟩ := by rw [← hR]; rfl
   subst hRq
   unfold PostB
   simp only
   rw [h24] at hS hFl w2'
   replace hS : ∀ H,callW P f_q50 [ai 24,ai w] H = some (ai (lsize 24 w : Nat),H) := hS
   generalize lsize 24 w = ls24 at *
   generalize t.2.drop q.taken = wd at *
   generalize QH H r q z = G at *
   generalize decide (0 < q.taken) = bg at *
   simp -implicitDefEqProofs [-toCells,-AV.one,-forget,c_q25,tsc0_q25,hF1,hS,hFl,w1,w2',hlb,m0,m0',hl1]
   exact ⟨hqz,by simp [tsc1_q25]⟩
  obtain ⟨k,rfl⟩ : ∃ k,zz = k + 1 := ⟨zz - 1,by omega⟩
  have h24' : ¬ (F.length : Int) = 24 := by omega
  rw [cutQ,hl] at hR
  simp only at hR
  rw [hlf,if_neg hl1,hm] at hR
  obtain ⟨f2,hf2⟩ : ∃ x,(if 0 < q.taken then 2 else fi) = x := ⟨_,rfl⟩
  rw [hf2] at hR
  have hf2' : f2 = 0 ∨ f2 = 2 := by rw [← hf2]; split <;> omega
  have hor : 0 < q.taken → orI .i64 (fi : Int) 2 = (f2 : Int) := fun h => by
   rw [← hf2,if_pos h]
   rcases hfi with rfl | rfl <;> rfl
  have hnb : ¬ 0 < q.taken → f2 = fi := fun h => by rw [← hf2,if_neg h]
  have hor1 : orI .i64 (f2 : Int) 1 = ((f2 + 1 : Nat) : Int) := by rcases hf2' with rfl | rfl <;> rfl
  have hgl : (QH H r q z).length = H.length := QH_len _ _ _ _
  by_cases hall : m ≤ lf.toNat
  ·rw [if_pos hall] at hR
   have hmn : mn lf (m : Int) = m := by simp only [mn]; split <;> omega
   have htk : q.take (m : Int) = (⟨q.room,l,0,q.last⟩,t.2.drop q.taken,true,0) := by
    unfold QM.take
    rw [hl]
    simp only
    rw [hm,if_neg (by omega),if_neg (by omega)]
   obtain ⟨z',hT⟩ := q_Take1 hlt hq z hl (m : Int)
   have hq2 := QM.take_ok hq (m : Int)
   rw [htk] at hT hq2
   simp only [bne_self_eq_false] at hT hq2
   replace hT : callW P f_q38 [.ptr r 0 5,ai m] (QH H r q z) = some (.tup [bv (false,t.2.drop q.taken),ab true,ai 0],QH H r ⟨q.room,l,0,q.last⟩ z') := hT
   have hapF := fun σ H => app1 (m := P.md f_q25) (d := 88) (bytes := 24) (v := bv (false,t.2.drop q.taken)) (R_q25 88) (by omega) (by rw [bvF_len]; omega) (l := bvF F) (some 87) σ H
   rw [← bvF_snoc] at hapF
   have hapD := fun σ H => app1 (m := P.md f_q25) (d := 99) (bytes := 8) (v := ul t.1) (R_q25 99) (by omega) (by rw [uls_len]; omega) (l := uls D) (some 98) σ H
   rw [← uls_snoc] at hapD
   have w3 : IntKind.i64.wrap ((used : Int) + m) = ((used + m : Nat) : Int) := by rw [wrap_i64 (by omega) (by omega)]; omega
   obtain ⟨us,hus⟩ : ∃ x,used + m = x := ⟨_,rfl⟩
   rw [hus] at w3 hR
   have hInv : ∀ σ',σ' = L 111 (((((((Tr.full 7).put (path 0) (.ptr r 0 5)).put (path 1) (ai room)).put (path 2) (ai w)).put (path 6) (.lbox [ai 0,nilS,nilS])).put (path 12) (.lbox [ai f2,lst true 1 (some 88) (bvF (F ++ [t.2.drop q.taken])),lst true 1 (some 99) (uls (D ++ [t.1]))])).put (path 13) (ai us)) → InvB H r room w R k σ' (QH H r ⟨q.room,l,0,q.last⟩ z') := fun σ' hσ' =>
    ⟨_,F ++ [t.2.drop q.taken],D ++ [t.1],f2,us,z',by simp; omega,hq2,by simp; omega,by simp; omega,hf2',hR,rfl,hσ'⟩
   generalize bvF (F ++ [t.2.drop q.taken]) = F2 at *
   generalize uls (D ++ [t.1]) = D2 at *
   generalize bvF F = F1 at *
   generalize uls D = D1 at *
   generalize t.2.drop q.taken = wd at *
   generalize QH H r ⟨q.room,l,0,q.last⟩ z' = G2 at *
   generalize QH H r q z = G at *
   generalize F.length = fl at *
   by_cases hbg : 0 < q.taken
   ·rw [decide_eq_true hbg] at hF1
    have hor' := hor hbg
    simp -implicitDefEqProofs [-toCells,-AV.one,-forget,c_q25,binA_orI,tsc0_q25,hF1,hS,hFl,w1,w2',hlb,m0,m0',hl1,h24,h24',hor',hmn,hT,hapF,hapD,w3]
    exact ⟨k,by omega,hInv _ (by simp)⟩
   ·rw [decide_eq_false hbg] at hF1
    have hnb' := hnb hbg
    subst hnb'
    simp -implicitDefEqProofs [-toCells,-AV.one,-forget,c_q25,binA_orI,tsc0_q25,hF1,hS,hFl,w1,w2',hlb,m0,m0',hl1,h24,h24',hmn,hT,hapF,hapD,w3]
    exact ⟨k,by omega,hInv _ (by simp)⟩
  ·rw [if_neg hall] at hR
   obtain ⟨nn,hnn⟩ : ∃ x,lf.toNat = x := ⟨_,rfl⟩
   rw [hnn] at hR hall
   have hlfn : lf = nn := by omega
   have hmn : mn lf (m : Int) = nn := by rw [hlfn]; exact mn_le (by omega)
   have htk : q.take (nn : Int) = (⟨q.room,q.l,q.taken + nn,q.last⟩,(t.2.drop q.taken).take nn,false,0) := by
    unfold QM.take
    rw [hl]
    simp only
    rw [hm,if_neg (by omega),if_pos (by omega),Int.toNat_natCast]
   obtain ⟨z',hT⟩ := q_Take1 hlt hq z hl (nn : Int)
   rw [htk] at hT
   simp only [bne_self_eq_false] at hT
   replace hT : callW P f_q38 [.ptr r 0 5,ai nn] (QH H r q z) = some (.tup [bv (false,(t.2.drop q.taken).take nn),ab false,ai 0],QH H r ⟨q.room,q.l,q.taken + nn,q.last⟩ z') := hT
   have hapF := fun σ H => app1 (m := P.md f_q25) (d := 88) (bytes := 24) (v := bv (false,(t.2.drop q.taken).take nn)) (R_q25 88) (by omega) (by rw [bvF_len]; omega) (l := bvF F) (some 87) σ H
   rw [← bvF_snoc] at hapF
   have w3 : IntKind.i64.wrap ((used : Int) + nn) = ((used + nn : Nat) : Int) := by rw [wrap_i64 (by omega) (by omega)]; omega
   have hlo : lenW (bv (false,(t.2.drop q.taken).take nn)) = some nn := by rw [bv_len]; simp only; rw [List.length_take]; congr 1; omega
   have hF3 : lenW (lst true 1 (some 88) (bvF (F ++ [(t.2.drop q.taken).take nn]))) = some (F.length + 1) := by rw [lenW_lst,bvF_len]; simp
   have hqz2 : QZ H r ⟨q.room,q.l,q.taken + nn,q.last⟩ (QH H r ⟨q.room,q.l,q.taken + nn,q.last⟩ z') := ⟨z',rfl⟩
   have f0 : ¬ ((F.length + 1 : Nat) : Int) = 0 := by omega
   have f0' : ¬ (F.length : Int) + 1 = 0 := by omega
   have hRes : cutRes R = .tup [.agg [ai (f2 + 1 : Nat),lst true 1 (some 88) (bvF (F ++ [(t.2.drop q.taken).take nn])),lst true 1 (some 99) (uls D)],ai 0] := by
    rw [← hR,cutRes]; simp only; rw [if_neg (by simp)]
   have hRq : R.q = ⟨q.room,q.l,q.taken + nn,q.last⟩ := by rw [← hR,hl]
   unfold PostB
   rw [hRq,hRes]
   obtain ⟨f3,hf3⟩ : ∃ x,f2 + 1 = x := ⟨_,rfl⟩
   rw [hf3] at hor1 ⊢
   generalize bvF (F ++ [(t.2.drop q.taken).take nn]) = F2 at *
   generalize bvF F = F1 at *
   generalize uls D = D1 at *
   generalize (t.2.drop q.taken).take nn = wo at *
   generalize t.2.drop q.taken = wd at *
   generalize QH H r ⟨q.room,q.l,q.taken + nn,q.last⟩ z' = G2 at *
   generalize QH H r q z = G at *
   generalize F.length = fl at *
   by_cases hbg : 0 < q.taken
   ·rw [decide_eq_true hbg] at hF1
    have hor' := hor hbg
    simp -implicitDefEqProofs [-toCells,-AV.one,-forget,c_q25,binA_orI,tsc0_q25,hF1,hS,hFl,w1,w2',hlb,m0,m0',hl1,h24,h24',hor',hmn,hT,hapF,w3,hlo,hF3,f0,f0',hor1]
    exact ⟨hqz2,by simp [F_q25]⟩
   ·rw [decide_eq_false hbg] at hF1
    have hnb' := hnb hbg
    subst hnb'
    simp -implicitDefEqProofs [-toCells,-AV.one,-forget,c_q25,binA_orI,tsc0_q25,hF1,hS,hFl,w1,w2',hlb,m0,m0',hl1,h24,h24',hmn,hT,hapF,w3,hlo,hF3,f0,f0',hor1]
    exact ⟨hqz2,by simp [F_q25]⟩
end
end Go.A.V.S

namespace Go.A.V.S
open Go Go.A
section
variable {H : Heap} {r : Nat}
theorem cut_ask (room : Nat) (hroom : room ≤ 4000) {w : Nat} (hw : w = 11 ∨ w = 15) (H : Heap) : callW P f_q49 [.ptr r 0 5,ai room,ai w] H = some (ai 0,H) := by
 have h1 := fun H => cut_isWidth w H
 have hd : decide ((w : Int) = 11 ∨ (w : Int) = 15) = true := by rcases hw with rfl | rfl <;> simp
 rw [hd] at h1
 rw [call_L 5 rfl (rfl : P.T f_q49 = some F_q49) (le_ok rfl)]; simp -implicitDefEqProofs (disch := first | omega | (simp; done) | fail) [-toCells,-AV.one,-forget,F_q49,c_q49,cmp_ilt,cmp_ilf,cmp_ile,cmp_ilg,cmp_ine,cmp_ieq,cmp_nlt,cmp_nlf,cmp_nle,cmp_nne,cmp_neq,wrap_i64,wrap_u64,wrap_u8,h1]
def cutPub (R : CR) : AV := if R.F = [] then .tup [.agg [ai 0,nilS,nilS],ai 4] else .tup [.agg [ai R.fi,lst true 1 none (bvF R.F),lst true 1 none (uls R.D)],ai 0]
theorem take_z (hlt : r < H.length) {q : QM} (hq : q.Ok) (z : Bool) : ∃ e z',(e = 1 ∨ e = 4) ∧ callW P f_q38 [.ptr r 0 5,ai 0] (QH H r q z) = some (.tup [nilS,ab false,ai e],QH H r q z') := by
 cases hl : q.l with
 | nil => exact ⟨4,z,.inr rfl,q_Take0 hlt hq z hl 0⟩
 | cons t l =>
  obtain ⟨z',h⟩ := q_Take1 hlt hq z hl 0
  have : q.take 0 = (q,[],false,1) := by
   unfold QM.take
   rw [hl]
   simp only
   rw [if_pos (.inl (by omega))]
  rw [this] at h
  exact ⟨1,z',.inl rfl,h⟩
set_option maxHeartbeats 1000000 in
theorem c_Build (hlt : r < H.length) {q : QM} (hq : q.Ok) (z : Bool) (room : Nat) (hroom : room ≤ 4000) {w : Nat} (hw : w = 11 ∨ w = 15) :
  ∃ z',callW P f_q25 [.ptr r 0 5,ai room,ai w] (QH H r q z) = some (cutPub (cutQ room w 24 q [] [] 0 0),QH H r (cutQ room w 24 q [] [] 0 0).q z') := by
 obtain ⟨R,hR⟩ : ∃ x,cutQ room w 24 q [] [] 0 0 = x := ⟨_,rfl⟩
 rw [hR]
 suffices hs : Ends (callW P f_q25 [.ptr r 0 5,ai room,ai w] (QH H r q z)) fun y => ∃ z',y = (cutPub R,QH H r R.q z') by
  obtain ⟨y,h1,z',rfl⟩ := hs
  exact ⟨z',h1⟩
 have hA := cut_ask (r := r) room hroom hw
 obtain ⟨e,z1,he,hT⟩ := take_z hlt hq z
 have he0 : ¬ e = 6 := by omega
 refine call_post 7 111 rfl (rfl : P.T f_q25 = some F_q25) rfl (le_ok rfl) (fun e σ G => e = .ret ∧ QZ H r R.q G ∧ resultsA F_q25.res σ = some (cutRes R)) ?_ ?_
 ·rintro e σ G ⟨rfl,⟨z',rfl⟩,h2⟩
  refine ⟨rfl,_,h2,?_,?_⟩
  ·unfold cutRes; split <;> simp
  ·refine ⟨_,?_,z',rfl⟩
   simp only [K_q25,C_q25,finish_n,QH_len]
   unfold cutRes cutPub
   split <;> simp
 have hgl : (QH H r q z).length = H.length := QH_len _ _ _ _
 have hI : ∀ σ,σ = L 111 (((((((Tr.full 7).put (path 0) (.ptr r 0 5)).put (path 1) (ai room)).put (path 2) (ai w)).put (path 6) (.lbox [ai 0,nilS,nilS])).put (path 12) (.lbox [ai 0,nilS,nilS])).put (path 13) (ai 0)) → InvB H r room w R 24 σ (QH H r q z1) := fun σ hσ => ⟨q,[],[],0,0,z1,rfl,hq,by simp,by simp,.inl rfl,hR,rfl,hσ⟩
 generalize QH H r q z1 = G1 at *
 generalize QH H r q z = G at *
 rw [F_q25]; simp -implicitDefEqProofs [-toCells,-AV.one,-forget,c_q25,hA,hT,he0]
 refine Ends.bind (Q := fun s => PostB H r R s.e s.σ s.H) (cut_tail hlt hroom hw 24 _ _ (hI _ (by simp [tsc0_q25]))) ?_
 rintro ⟨e1,σ1,G2⟩ ⟨hz,⟨he1,k2⟩ | ⟨he1,k2⟩⟩
 ·simp only at he1 hz k2
  subst he1
  have hFl : lenW (lst true 1 (some 88) (bvF R.F)) = some R.F.length := by rw [lenW_lst,bvF_len]
  rw [jumpW_eq,if_pos rfl,sc1_q25]
  rw [execW_seq,execW_skip]
  simp only [Option.bind_some,andThen]
  rw [← execW_head,k2]
  have hfl0 : R.F.length = 0 ↔ R.F = [] := List.length_eq_zero_iff
  unfold cutRes
  generalize bvF R.F = F1 at *
  generalize uls R.D = D1 at *
  generalize R.fi = fi at *
  obtain ⟨fl,hfl⟩ : ∃ x,R.F.length = x := ⟨_,rfl⟩
  rw [hfl] at hFl hfl0
  by_cases hF : R.F = []
  ·have h0 : fl = 0 := hfl0.2 hF
   have h0' : (fl : Int) = 0 := by omega
   rw [if_pos hF]
   subst h0
   replace hFl : lenW (lst true 1 (some 88) F1) = some 0 := hFl
   simp -implicitDefEqProofs [-toCells,-AV.one,-forget,c_q25,tsc1_q25,hFl]
   exact hz
  ·have h0 : ¬ fl = 0 := fun h => hF (hfl0.1 h)
   have h0' : ¬ (fl : Int) = 0 := by omega
   rw [if_neg hF]
   simp -implicitDefEqProofs [-toCells,-AV.one,-forget,c_q25,tsc1_q25,hFl,h0,h0']
   exact hz
 ·simp only at he1 hz k2
  subst he1
  have hk : resultsA F_q25.res σ1 = some (cutRes R) := k2
  simp only [jump_ret]
  refine ⟨_,rfl,rfl,hz,?_⟩
  simpa [F_q25] using hk
end
end Go.A.V.S

namespace Go.A.V.S
theorem QM.Ok.behind {q : QM} (h : q.Ok) {t : Nat × List Nat} {l : List (Nat × List Nat)} (hl : q.l = t :: l) : (⟨q.room,l,0,q.last⟩ : QM).Ok := by
 have hf := h.first t l hl
 have h1 := QM.take_ok h ((t.2.length - q.taken : Nat) : Int)
 unfold QM.take at h1
 rw [hl] at h1
 simp only at h1
 rw [if_neg (by omega),if_neg (by omega)] at h1
 exact h1
theorem QM.Ok.part {q : QM} (h : q.Ok) {t : Nat × List Nat} {l : List (Nat × List Nat)} (hl : q.l = t :: l) {n : Nat} (h1 : 1 ≤ n) (h2 : n < t.2.length - q.taken) : (⟨q.room,q.l,q.taken + n,q.last⟩ : QM).Ok := by
 have h3 := QM.take_ok h (n : Int)
 unfold QM.take at h3
 rw [hl] at h3 ⊢
 simp only at h3
 rw [if_neg (by omega),if_pos (by omega),Int.toNat_natCast] at h3
 exact h3
theorem cutQ_ok {room w : Nat} : ∀ (k : Nat) (q : QM) (F : List (List Nat)) (D : List Nat) (fi used : Nat),q.Ok → (cutQ room w k q F D fi used).q.Ok ∧ (cutQ room w k q F D fi used).q.last = q.last ∧ (cutQ room w k q F D fi used).q.room = q.room
 | 0,q,F,D,fi,used,h => ⟨h,rfl,rfl⟩
 | k + 1,q,F,D,fi,used,h => by
  rw [cutQ]
  split
  ·exact ⟨h,rfl,rfl⟩
  ·rename_i t l hl
   split
   ·exact ⟨h,rfl,rfl⟩
   ·split
    ·obtain ⟨a,b,c⟩ := cutQ_ok (room := room) (w := w) k ⟨q.room,l,0,q.last⟩ (F ++ [t.2.drop q.taken]) (D ++ [t.1]) (if 0 < q.taken then 2 else fi) (used + (t.2.length - q.taken)) (h.behind hl)
     exact ⟨a,b,c⟩
    ·exact ⟨h.part hl (by omega) (by omega),rfl,rfl⟩
theorem cutQ_F {room w : Nat} (p : List Nat → Prop) (hp : ∀ (b : List Nat) (i n : Nat),(b.length ≤ 1000 ∧ Go.A.Bytes b) → p ((b.drop i).take n)) : ∀ (k : Nat) (q : QM) (F : List (List Nat)) (D : List Nat) (fi used : Nat),q.Ok → (∀ f ∈ F,p f) → (∀ f ∈ (cutQ room w k q F D fi used).F,p f) ∧ (cutQ room w k q F D fi used).F.length ≤ F.length + k
 | 0,q,F,D,fi,used,h,hF => ⟨hF,by simp [cutQ]⟩
 | k + 1,q,F,D,fi,used,h,hF => by
  rw [cutQ]
  split
  ·exact ⟨hF,by simp only; omega⟩
  ·rename_i t l hl
   have ht := h.each t (by rw [hl]; simp)
   split
   ·exact ⟨hF,by simp only; omega⟩
   ·split
    ·obtain ⟨a,b⟩ := cutQ_F (room := room) (w := w) p hp k ⟨q.room,l,0,q.last⟩ (F ++ [t.2.drop q.taken]) (D ++ [t.1]) (if 0 < q.taken then 2 else fi) (used + (t.2.length - q.taken)) (h.behind hl) (fun f hf => by
      rcases List.mem_append.1 hf with hf | hf
      ·exact hF f hf
      ·simp only [List.mem_singleton] at hf
       subst hf
       have := hp t.2 q.taken t.2.length ⟨ht.2.1,ht.2.2.1⟩
       rw [List.take_of_length_le (by rw [List.length_drop]; omega)] at this
       exact this)
     refine ⟨a,?_⟩
     rw [List.length_append,List.length_singleton] at b
     omega
    ·refine ⟨fun f hf => ?_,by simp only [List.length_append,List.length_singleton]; omega⟩
     simp only at hf
     rcases List.mem_append.1 hf with hf | hf
     ·exact hF f hf
     ·simp only [List.mem_singleton] at hf
      subst hf
      exact hp t.2 q.taken _ ⟨ht.2.1,ht.2.2.1⟩
end Go.A.V.S

namespace Go.A.V.S
open Go Go.A
theorem sn_Right2 {w : Nat} (hw : w = 5 ∨ w = 10) (H : Heap) : callW P f_q75 [.agg [ai w]] H = some (ab true,H) := by
 rcases hw with rfl | rfl
 ·exact sn_Right5 H
 ·exact sn_Right (.inl rfl) H
theorem sn_Size2 {w : Nat} (hw : w = 5 ∨ w = 10) (H : Heap) : callW P f_q59 [.agg [ai w]] H = some (ai (2 ^ w : Nat),H) := by
 rcases hw with rfl | rfl
 ·exact sn_Size5 H
 ·exact sn_Size (.inl rfl) H
def InvAs (H : Heap) (w : Nat) (n : Int) (zz : Nat) (σ : List AV) (G : Heap) : Prop :=
 ∃ i : Nat,i + zz = 1 ∧ G = H ∧ σ = L 22 ((((Tr.full 5).put (path 1) (.vs 1 none [[ai n]])).put (path 2) (.lbox [ai w])).put (path 5) (ai i))
def PostAs (H : Heap) (e : AExit) (σ : List AV) (G : Heap) : Prop := e = .ret ∧ G = H ∧ resultsA F_q58.res σ = some (ai 0)
theorem sn_ask1 {w : Nat} (hw : w = 5 ∨ w = 10) {n : Int} (hn : 0 ≤ n ∧ n < (2 ^ w : Nat)) (H : Heap) : callW P f_q58 [.agg [ai w],.vs 1 none [[ai n]]] H = some (ai 0,H) := by
 suffices hs : Ends (callW P f_q58 [.agg [ai w],.vs 1 none [[ai n]]] H) fun y => y = (ai 0,H) by
  obtain ⟨y,h1,rfl⟩ := hs
  exact h1
 have hR := fun H => sn_Right2 hw H
 have hI := fun H => sn_Is5 hw n H
 rw [decide_eq_true hn] at hI
 refine call_post 5 22 rfl (rfl : P.T f_q58 = some F_q58) rfl (le_ok rfl) (PostAs H) ?_ ?_
 ·rintro e σ G ⟨rfl,rfl,h2⟩
  exact ⟨rfl,_,h2,rfl,by simp⟩
 rw [F_q58]; simp -implicitDefEqProofs [-toCells,-AV.one,-forget,c_q58,hR]
 refine scope_ends (tail := tsc0_q58) (InvAs H w n) (PostAs H) rfl ?_ 1 _ _ ?_
 rotate_left
 ·exact ⟨0,rfl,rfl,by simp [tsc0_q58]⟩
 rintro zz σ G ⟨i,hz,rfl,hσ⟩
 rw [← execW_head,hσ]
 have q0 : iaddrW 1 none (.vs 1 none [[ai n]]) (ai 0) = some (.vp [ai n] 0) := rfl
 have hi : i = 0 ∨ i = 1 := by omega
 rcases hi with rfl | rfl
 ·have w1 : IntKind.i64.wrap 1 = 1 := rfl
  simp -implicitDefEqProofs [-toCells,-AV.one,-forget,c_q58,keepB,-goodB,goodB_L,sameV,dstNot,dstNe,SOpG.reads,SOp.slots,SX.slots,SOp.noL,rdV_load,rdV_str,selfE_lst,selfE,selfEs,eqV,tsc0_q58,hI,q0,w1]
  exact ⟨0,by omega,1,rfl,rfl,by simp⟩
 ·simp -implicitDefEqProofs [-toCells,-AV.one,-forget,c_q58,tsc0_q58]
  exact ⟨rfl,rfl,by simp [F_q58]⟩
theorem and_mod {k a : Nat} (hk : k ≤ 16) (ha : a < 1000000) : andI .i64 (a : Int) ((2 ^ k - 1 : Nat) : Int) = ((a % 2 ^ k : Nat) : Int) := by
 have hp : 2 ^ k ≤ 2 ^ 16 := Nat.pow_le_pow_right (by omega) hk
 have e16 : (2 : Nat) ^ 16 = 65536 := by decide
 have h1 : (BitVec.ofNat 64 a &&& BitVec.ofNat 64 (2 ^ k - 1)).toNat = a % 2 ^ k := by
  rw [BitVec.toNat_and,BitVec.toNat_ofNat,BitVec.toNat_ofNat,Nat.mod_eq_of_lt (by omega),Nat.mod_eq_of_lt (by omega),Nat.and_two_pow_sub_one_eq_mod]
 have hlt : a % 2 ^ k ≤ a := Nat.mod_le _ _
 unfold andI
 rw [ofNat_bv,ofNat_bv]
 have h2 : (BitVec.ofNat IntKind.i64.bits a &&& BitVec.ofNat IntKind.i64.bits (2 ^ k - 1)).toNat = a % 2 ^ k := h1
 rw [h2]
 exact wrap_i64 (by omega) (by omega)
theorem sn_Go1 {w : Nat} (hw : w = 5 ∨ w = 10) {n : Nat} (hn : n < 2 ^ w) (H : Heap) : callW P f_q27 [.agg [ai w],ai n,ai 1] H = some (.tup [ai ((n + 1) % 2 ^ w : Nat),ai 0],H) := by
 have hA := fun H => sn_ask1 hw (n := n) ⟨by omega,by omega⟩ H
 have hS := fun H => sn_Size2 hw H
 have hp : 2 ^ w ≤ 1024 ∧ 1 ≤ 2 ^ w := by rcases hw with rfl | rfl <;> decide
 have w1 : IntKind.i64.wrap ((n : Int) + 1) = ((n + 1 : Nat) : Int) := by rw [wrap_i64 (by omega) (by omega)]; omega
 have w2 : IntKind.i64.wrap (((n + 1 : Nat) : Int) + 65536) = ((n + 1 + 65536 : Nat) : Int) := by rw [wrap_i64 (by omega) (by omega)]; omega
 have w3 : IntKind.i64.wrap (((2 ^ w : Nat) : Int) - 1) = ((2 ^ w - 1 : Nat) : Int) := by rw [wrap_i64 (by omega) (by omega)]; omega
 have ha := and_mod (k := w) (a := n + 1 + 65536) (by omega) (by omega)
 have hm : (n + 1 + 65536) % 2 ^ w = (n + 1) % 2 ^ w := by
  rcases hw with rfl | rfl <;> omega
 rw [hm] at ha
 obtain ⟨n1,hn1⟩ : ∃ x,n + 1 = x := ⟨_,rfl⟩
 rw [hn1] at w1 w2 ha ⊢
 obtain ⟨n2,hn2⟩ : ∃ x,n1 + 65536 = x := ⟨_,rfl⟩
 rw [hn2] at w2 ha
 generalize n1 % 2 ^ w = res at *
 obtain ⟨sz,hsz⟩ : ∃ x,2 ^ w = x := ⟨_,rfl⟩
 rw [hsz] at hS w3 ha
 obtain ⟨s1,hs1⟩ : ∃ x,sz - 1 = x := ⟨_,rfl⟩
 rw [hs1] at w3 ha
 rw [call_L 5 rfl (rfl : P.T f_q27 = some F_q27) (le_ok rfl)]; simp -implicitDefEqProofs [-toCells,-AV.one,-forget,F_q27,c_q27,binA_andI,hA,hS,w1,w2,w3,ha]
end Go.A.V.S

namespace Go.A.V.S
open Go Go.A
structure Cfg where
 mode : Int
 bits : Int
 window : Int
 reorder : Int
 pollRetx : Int
 prohibit : Int
 pollPDU : Int
 pollByte : Int
 maxRetx : Int
 queue : Int
def Cfg.v (c : Cfg) : List AV := [ai c.mode,ai c.bits,ai c.window,ai c.reorder,ai c.pollRetx,ai c.prohibit,ai c.pollPDU,ai c.pollByte,ai c.maxRetx,ai c.queue]
def inn (x : Int × Int × Int) : Bool := !decide (x.1 < x.2.1 ∨ x.1 > x.2.2)
def tri (x : Int × Int × Int) : List AV := [ai x.1,ai x.2.1,ai x.2.2]
def Cfg.tm (c : Cfg) : Bool := decide ([c.mode,c.bits,c.window,c.reorder,c.pollRetx,c.prohibit,c.pollPDU,c.pollByte,c.maxRetx,c.queue] = [0,0,0,0,0,0,0,0,0,c.queue])
def Cfg.plainUM (c : Cfg) : Bool := decide ([c.mode,c.bits,c.window,c.reorder,c.pollRetx,c.prohibit,c.pollPDU,c.pollByte,c.maxRetx,c.queue] = [1,c.bits,c.window,c.reorder,0,0,0,0,0,c.queue])
def Cfg.um (c : Cfg) : Bool := decide (c.bits = 5 ∨ c.bits = 10) && (c.plainUM && [(c.window,(1,if c.bits = 5 then 16 else 512)),(c.reorder,(1,1000))].all inn)
def Cfg.am (c : Cfg) : Bool := decide (c.bits = 10 ∨ c.bits = 16) && [(c.window,(1,if c.bits = 10 then 512 else 32768)),(c.reorder,(1,1000)),(c.pollRetx,(1,1000)),(c.prohibit,(0,1000)),(c.pollPDU,(1,1000)),(c.pollByte,(1,20000)),(c.maxRetx,(1,32))].all inn
def Cfg.chk (c : Cfg) : Nat :=
 if c.mode = 0 ∨ c.mode = 1 ∨ c.mode = 2 then (if (if c.mode = 0 then c.tm else if c.mode = 1 then c.um else c.am) && [(c.queue,((1 : Int),(20000 : Int)))].all inn then 0 else 1) else 9
theorem within_1 (a b c : Int) (H : Heap) : callW P f_q71 [.agg [ai a,ai b,ai c]] H = some (ab (!inn (a,b,c)),H) := by
 by_cases h1 : a < b
 ·rw [call_L 5 rfl (rfl : P.T f_q71 = some F_q71) (le_ok rfl)]; simp -implicitDefEqProofs (disch := first | omega | (simp; done) | fail) [-toCells,-AV.one,-forget,F_q71,c_q71,cmp_ilt,cmp_ilf,cmp_ile,cmp_ilg,cmp_ine,cmp_ieq,cmp_nlt,cmp_nlf,cmp_nle,cmp_nne,cmp_neq,wrap_i64,wrap_u64,wrap_u8,inn,h1]
 ·by_cases h2 : a > c
  ·have h2' : c < a := h2
   rw [call_L 5 rfl (rfl : P.T f_q71 = some F_q71) (le_ok rfl)]; simp -implicitDefEqProofs (disch := first | omega | (simp; done) | fail) [-toCells,-AV.one,-forget,F_q71,c_q71,cmp_ilt,cmp_ilf,cmp_ile,cmp_ilg,cmp_ine,cmp_ieq,cmp_nlt,cmp_nlf,cmp_nle,cmp_nne,cmp_neq,wrap_i64,wrap_u64,wrap_u8,inn,h1,h2,h2']
  ·have h2' : ¬ c < a := h2
   rw [call_L 5 rfl (rfl : P.T f_q71 = some F_q71) (le_ok rfl)]; simp -implicitDefEqProofs (disch := first | omega | (simp; done) | fail) [-toCells,-AV.one,-forget,F_q71,c_q71,cmp_ilt,cmp_ilf,cmp_ile,cmp_ilg,cmp_ine,cmp_ieq,cmp_nlt,cmp_nlf,cmp_nle,cmp_nne,cmp_neq,wrap_i64,wrap_u64,wrap_u8,inn,h1,h2,h2']
theorem within_l (x : Int × Int × Int) (r : List (Int × Int × Int)) (hr : r.length ≤ 100) (H : Heap) : callW P f_q47 [.vs 3 none ((x :: r).map tri)] H = some (ab ((x :: r).all inn),H) := by
 have h := fun H => cnt_call (f1 := f_q70) (f0 := f_q79) (k := 3) (ld := some 3) (z := true) (l := (x :: r).map tri) (f := f_q71) (cs := []) (p := fun c => match c with
  | [.c (.int _ a),.c (.int _ b),.c (.int _ c)] => !inn (a,b,c)
  | _ => false) (H := H) rfl (fun _ _ => rfl) rfl rfl rfl (fun _ _ => rfl) rfl (.inl rfl) (fun c hc => by obtain ⟨n,_,rfl⟩ := List.mem_map.1 hc; rfl) (by rw [List.length_map,List.length_cons]; omega) rfl rfl (fun c hc => by obtain ⟨n,_,rfl⟩ := List.mem_map.1 hc; exact ⟨rfl,rfl,rfl⟩)
  (fun c hc => by
   obtain ⟨n,_,rfl⟩ := List.mem_map.1 hc
   exact within_1 _ _ _ H)
 have e : (((x :: r).map tri).any fun c => match c with
  | [.c (.int _ a),.c (.int _ b),.c (.int _ c)] => !inn (a,b,c)
  | _ => false) = !((x :: r).all inn) := by
  rw [List.any_map,List.all_eq_not_any_not,Bool.not_not]
  rfl
 replace h : ∀ H,callW P f_q70 [.vs 3 none ((x :: r).map tri),.fn f_q71 []] H = some (ab (!((x :: r).all inn)),H) := fun H => by rw [← e]; exact h H
 generalize (x :: r).all inn = bb at *
 have hf : ((x :: r).map tri).length = r.length + 1 := by simp
 generalize (x :: r).map tri = l at *
 rw [call_L 3 rfl (rfl : P.T f_q47 = some F_q47) (le_ok rfl)]; simp -implicitDefEqProofs [-toCells,-AV.one,-forget,F_q47,c_q47,h]
theorem cfg_eq (a0 a1 a2 a3 a4 a5 a6 a7 a8 a9 b0 b1 b2 b3 b4 b5 b6 b7 b8 b9 : Int) : binA .eql (.agg [.i,.i,.i,.i,.i,.i,.i,.i,.i,.i]) (.agg [ai a0,ai a1,ai a2,ai a3,ai a4,ai a5,ai a6,ai a7,ai a8,ai a9]) (.agg [ai b0,ai b1,ai b2,ai b3,ai b4,ai b5,ai b6,ai b7,ai b8,ai b9]) = some (ab (decide ([a0,a1,a2,a3,a4,a5,a6,a7,a8,a9] = [b0,b1,b2,b3,b4,b5,b6,b7,b8,b9]))) := by
 rw [binA_eqa,if_pos ⟨rfl,rfl⟩]
 exact congrArg (Option.map ab) (eqAll_ints [a0,a1,a2,a3,a4,a5,a6,a7,a8,a9] [b0,b1,b2,b3,b4,b5,b6,b7,b8,b9] rfl)
theorem pdu_isTM (c : Cfg) (H : Heap) : callW P f_q44 [.agg c.v] H = some (ab c.tm,H) := by
 obtain ⟨mo,bi,wi,re,pr,ph,pp,pb,mr,q⟩ := c
 have hE := cfg_eq mo bi wi re pr ph pp pb mr q 0 0 0 0 0 0 0 0 0 q
 replace hE : _ = some (ab (Cfg.tm ⟨mo,bi,wi,re,pr,ph,pp,pb,mr,q⟩)) := hE
 generalize Cfg.tm ⟨mo,bi,wi,re,pr,ph,pp,pb,mr,q⟩ = t at *
 rw [call_L 4 rfl (rfl : P.T f_q44 = some F_q44) (le_ok rfl)]; simp -implicitDefEqProofs [-toCells,-AV.one,-forget,F_q44,c_q44,Cfg.v,hE]
theorem pdu_isUM (c : Cfg) (H : Heap) : callW P f_q45 [.agg c.v] H = some (ab c.um,H) := by
 obtain ⟨mo,bi,wi,re,pr,ph,pp,pb,mr,q⟩ := c
 by_cases h5 : bi = 5
 ·subst h5
  have hE := cfg_eq mo 5 wi re pr ph pp pb mr q 1 5 wi re 0 0 0 0 0 q
  replace hE : _ = some (ab (Cfg.plainUM ⟨mo,5,wi,re,pr,ph,pp,pb,mr,q⟩)) := hE
  have hW := fun H => within_l (wi,(1,16)) [(re,(1,1000))] (by simp) H
  replace hW : ∀ H,callW P f_q47 [.vs 3 none [[ai wi,ai 1,ai 16],[ai re,ai 1,ai 1000]]] H = _ := hW
  rw [Cfg.um]
  simp only [decide_true,Bool.true_and,true_or,if_true]
  generalize Cfg.plainUM ⟨mo,5,wi,re,pr,ph,pp,pb,mr,q⟩ = t at *
  generalize List.all [(wi,((1 : Int),(16 : Int))),(re,(1,1000))] inn = t2 at *
  cases t with
  | true => rw [call_L 6 rfl (rfl : P.T f_q45 = some F_q45) (le_ok rfl)]; simp -implicitDefEqProofs (disch := first | omega | (simp; done) | fail) [-toCells,-AV.one,-forget,F_q45,c_q45,cmp_ilt,cmp_ilf,cmp_ile,cmp_ilg,cmp_ine,cmp_ieq,cmp_nlt,cmp_nlf,cmp_nle,cmp_nne,cmp_neq,wrap_i64,wrap_u64,wrap_u8,keepB,-goodB,goodB_L,sameV,dstNot,dstNe,SOpG.reads,SOp.slots,SX.slots,SOp.noL,rdV_load,rdV_str,selfE_lst,selfE,selfEs,eqV,Cfg.v,hE,hW]
  | false => rw [call_L 6 rfl (rfl : P.T f_q45 = some F_q45) (le_ok rfl)]; simp -implicitDefEqProofs (disch := first | omega | (simp; done) | fail) [-toCells,-AV.one,-forget,F_q45,c_q45,cmp_ilt,cmp_ilf,cmp_ile,cmp_ilg,cmp_ine,cmp_ieq,cmp_nlt,cmp_nlf,cmp_nle,cmp_nne,cmp_neq,wrap_i64,wrap_u64,wrap_u8,keepB,-goodB,goodB_L,sameV,dstNot,dstNe,SOpG.reads,SOp.slots,SX.slots,SOp.noL,rdV_load,rdV_str,selfE_lst,selfE,selfEs,eqV,Cfg.v,hE]
 by_cases h10 : bi = 10
 ·subst h10
  have hE := cfg_eq mo 10 wi re pr ph pp pb mr q 1 10 wi re 0 0 0 0 0 q
  replace hE : _ = some (ab (Cfg.plainUM ⟨mo,10,wi,re,pr,ph,pp,pb,mr,q⟩)) := hE
  have hW := fun H => within_l (wi,(1,512)) [(re,(1,1000))] (by simp) H
  replace hW : ∀ H,callW P f_q47 [.vs 3 none [[ai wi,ai 1,ai 512],[ai re,ai 1,ai 1000]]] H = _ := hW
  rw [Cfg.um]
  simp only [show ¬ (10 : Int) = 5 by decide,decide_true,Bool.true_and,or_true,if_false]
  generalize Cfg.plainUM ⟨mo,10,wi,re,pr,ph,pp,pb,mr,q⟩ = t at *
  generalize List.all [(wi,((1 : Int),(512 : Int))),(re,(1,1000))] inn = t2 at *
  cases t with
  | true => rw [call_L 6 rfl (rfl : P.T f_q45 = some F_q45) (le_ok rfl)]; simp -implicitDefEqProofs (disch := first | omega | (simp; done) | fail) [-toCells,-AV.one,-forget,F_q45,c_q45,cmp_ilt,cmp_ilf,cmp_ile,cmp_ilg,cmp_ine,cmp_ieq,cmp_nlt,cmp_nlf,cmp_nle,cmp_nne,cmp_neq,wrap_i64,wrap_u64,wrap_u8,keepB,-goodB,goodB_L,sameV,dstNot,dstNe,SOpG.reads,SOp.slots,SX.slots,SOp.noL,rdV_load,rdV_str,selfE_lst,selfE,selfEs,eqV,Cfg.v,hE,hW]
  | false => rw [call_L 6 rfl (rfl : P.T f_q45 = some F_q45) (le_ok rfl)]; simp -implicitDefEqProofs (disch := first | omega | (simp; done) | fail) [-toCells,-AV.one,-forget,F_q45,c_q45,cmp_ilt,cmp_ilf,cmp_ile,cmp_ilg,cmp_ine,cmp_ieq,cmp_nlt,cmp_nlf,cmp_nle,cmp_nne,cmp_neq,wrap_i64,wrap_u64,wrap_u8,keepB,-goodB,goodB_L,sameV,dstNot,dstNe,SOpG.reads,SOp.slots,SX.slots,SOp.noL,rdV_load,rdV_str,selfE_lst,selfE,selfEs,eqV,Cfg.v,hE]
 rw [Cfg.um,decide_eq_false (by simp only; omega),Bool.false_and]
 rw [call_L 6 rfl (rfl : P.T f_q45 = some F_q45) (le_ok rfl)]; simp -implicitDefEqProofs [-toCells,-AV.one,-forget,F_q45,c_q45,Cfg.v,h5,h10]
end Go.A.V.S

namespace Go.A.V.S
open Go Go.A
set_option maxHeartbeats 1000000 in
theorem pdu_isAM (c : Cfg) (H : Heap) : callW P f_q46 [.agg c.v] H = some (ab c.am,H) := by
 obtain ⟨mo,bi,wi,re,pr,ph,pp,pb,mr,q⟩ := c
 by_cases h5 : bi = 10
 ·subst h5
  have hW := fun H => within_l (wi,(1,512)) [(re,(1,1000)),(pr,(1,1000)),(ph,(0,1000)),(pp,(1,1000)),(pb,(1,20000)),(mr,(1,32))] (by simp) H
  replace hW : ∀ H,callW P f_q47 [.vs 3 none [[ai wi,ai 1,ai 512],[ai re,ai 1,ai 1000],[ai pr,ai 1,ai 1000],[ai ph,ai 0,ai 1000],[ai pp,ai 1,ai 1000],[ai pb,ai 1,ai 20000],[ai mr,ai 1,ai 32]]] H = _ := hW
  rw [Cfg.am]
  simp only [decide_true,Bool.true_and,true_or,if_true]
  generalize List.all [(wi,((1 : Int),(512 : Int))),(re,(1,1000)),(pr,(1,1000)),(ph,(0,1000)),(pp,(1,1000)),(pb,(1,20000)),(mr,(1,32))] inn = t2 at *
  have w9 : IntKind.i64.wrap 9 = 9 := rfl
  have w2 : IntKind.i64.wrap 512 = 512 := rfl
  rw [call_L 6 rfl (rfl : P.T f_q46 = some F_q46) (le_ok rfl)]; simp -implicitDefEqProofs [-toCells,-AV.one,-forget,F_q46,c_q46,keepB,-goodB,goodB_L,sameV,dstNot,dstNe,SOpG.reads,SOp.slots,SX.slots,SOp.noL,rdV_load,rdV_str,selfE_lst,selfE,selfEs,eqV,Cfg.v,hW,w9,w2]
 by_cases h10 : bi = 16
 ·subst h10
  have hW := fun H => within_l (wi,(1,32768)) [(re,(1,1000)),(pr,(1,1000)),(ph,(0,1000)),(pp,(1,1000)),(pb,(1,20000)),(mr,(1,32))] (by simp) H
  replace hW : ∀ H,callW P f_q47 [.vs 3 none [[ai wi,ai 1,ai 32768],[ai re,ai 1,ai 1000],[ai pr,ai 1,ai 1000],[ai ph,ai 0,ai 1000],[ai pp,ai 1,ai 1000],[ai pb,ai 1,ai 20000],[ai mr,ai 1,ai 32]]] H = _ := hW
  rw [Cfg.am]
  simp only [show ¬ (16 : Int) = 10 by decide,decide_true,Bool.true_and,or_true,if_false]
  generalize List.all [(wi,((1 : Int),(32768 : Int))),(re,(1,1000)),(pr,(1,1000)),(ph,(0,1000)),(pp,(1,1000)),(pb,(1,20000)),(mr,(1,32))] inn = t2 at *
  have w9 : IntKind.i64.wrap 15 = 15 := rfl
  have w2 : IntKind.i64.wrap 32768 = 32768 := rfl
  rw [call_L 6 rfl (rfl : P.T f_q46 = some F_q46) (le_ok rfl)]; simp -implicitDefEqProofs [-toCells,-AV.one,-forget,F_q46,c_q46,keepB,-goodB,goodB_L,sameV,dstNot,dstNe,SOpG.reads,SOp.slots,SX.slots,SOp.noL,rdV_load,rdV_str,selfE_lst,selfE,selfEs,eqV,Cfg.v,hW,w9,w2]
 rw [Cfg.am,decide_eq_false (by simp only; omega),Bool.false_and]
 rw [call_L 6 rfl (rfl : P.T f_q46 = some F_q46) (le_ok rfl)]; simp -implicitDefEqProofs [-toCells,-AV.one,-forget,F_q46,c_q46,Cfg.v,h5,h10]
theorem pdu_Check (c : Cfg) (H : Heap) : callW P f_q18 [.agg c.v] H = some (ai c.chk,H) := by
 have h1 := fun H => pdu_isTM c H
 have h2 := fun H => pdu_isUM c H
 have h3 := fun H => pdu_isAM c H
 have hW := fun H => within_l (c.queue,(1,20000)) [] (by simp) H
 replace hW : ∀ H,callW P f_q47 [.vs 3 none [[ai c.queue,ai 1,ai 20000]]] H = _ := hW
 rw [Cfg.chk]
 generalize List.all [(c.queue,((1 : Int),(20000 : Int)))] inn = b at *
 generalize c.tm = t1 at *
 generalize c.um = t2 at *
 generalize c.am = t3 at *
 obtain ⟨mo,bi,wi,re,pr,ph,pp,pb,mr,q⟩ := c
 simp only [Cfg.v] at h1 h2 h3 hW ⊢
 by_cases m0 : mo = 0
 ·subst m0
  rw [if_pos (show (0 : Int) = 0 ∨ (0 : Int) = 1 ∨ (0 : Int) = 2 by decide),if_pos (show (0 : Int) = 0 from rfl)]
  cases t1 with
  | true =>
   cases b with
   | true => rw [call_L 5 rfl (rfl : P.T f_q18 = some F_q18) (le_ok rfl)]; simp -implicitDefEqProofs [-toCells,-AV.one,-forget,F_q18,c_q18,h1,hW]
   | false => rw [call_L 5 rfl (rfl : P.T f_q18 = some F_q18) (le_ok rfl)]; simp -implicitDefEqProofs [-toCells,-AV.one,-forget,F_q18,c_q18,h1,hW]
  | false => rw [call_L 5 rfl (rfl : P.T f_q18 = some F_q18) (le_ok rfl)]; simp -implicitDefEqProofs [-toCells,-AV.one,-forget,F_q18,c_q18,h1]
 by_cases m1 : mo = 1
 ·subst m1
  rw [if_pos (show (1 : Int) = 0 ∨ (1 : Int) = 1 ∨ (1 : Int) = 2 by decide),if_neg (show ¬ (1 : Int) = 0 by decide),if_pos (show (1 : Int) = 1 from rfl)]
  cases t2 with
  | true =>
   cases b with
   | true => rw [call_L 5 rfl (rfl : P.T f_q18 = some F_q18) (le_ok rfl)]; simp -implicitDefEqProofs [-toCells,-AV.one,-forget,F_q18,c_q18,h2,hW]
   | false => rw [call_L 5 rfl (rfl : P.T f_q18 = some F_q18) (le_ok rfl)]; simp -implicitDefEqProofs [-toCells,-AV.one,-forget,F_q18,c_q18,h2,hW]
  | false => rw [call_L 5 rfl (rfl : P.T f_q18 = some F_q18) (le_ok rfl)]; simp -implicitDefEqProofs [-toCells,-AV.one,-forget,F_q18,c_q18,h2]
 by_cases m2 : mo = 2
 ·subst m2
  rw [if_pos (show (2 : Int) = 0 ∨ (2 : Int) = 1 ∨ (2 : Int) = 2 by decide),if_neg (show ¬ (2 : Int) = 0 by decide),if_neg (show ¬ (2 : Int) = 1 by decide)]
  cases t3 with
  | true =>
   cases b with
   | true => rw [call_L 5 rfl (rfl : P.T f_q18 = some F_q18) (le_ok rfl)]; simp -implicitDefEqProofs [-toCells,-AV.one,-forget,F_q18,c_q18,h3,hW]
   | false => rw [call_L 5 rfl (rfl : P.T f_q18 = some F_q18) (le_ok rfl)]; simp -implicitDefEqProofs [-toCells,-AV.one,-forget,F_q18,c_q18,h3,hW]
  | false => rw [call_L 5 rfl (rfl : P.T f_q18 = some F_q18) (le_ok rfl)]; simp -implicitDefEqProofs [-toCells,-AV.one,-forget,F_q18,c_q18,h3]
 rw [if_neg (show ¬ (mo = 0 ∨ mo = 1 ∨ mo = 2) by omega)]
 rw [call_L 5 rfl (rfl : P.T f_q18 = some F_q18) (le_ok rfl)]; simp -implicitDefEqProofs [-toCells,-AV.one,-forget,F_q18,c_q18,m0,m1,m2]
end Go.A.V.S

namespace Go.A.V.S
open Go Go.A
def sv (rq : Nat) (c : Cfg) (next : Nat) : List AV := [.ptr rq 0 5,ai c.mode,ai c.bits,ai c.window,ai c.reorder,ai c.pollRetx,ai c.prohibit,ai c.pollPDU,ai c.pollByte,ai c.maxRetx,ai c.queue,ai next]
def SH (H : Heap) (rq rs : Nat) (q : QM) (z : Bool) (c : Cfg) (next : Nat) : Heap := RC (QH H rq q z) rs (sv rq c next)
theorem SH_len (H : Heap) (rq rs : Nat) (q : QM) (z : Bool) (c : Cfg) (next : Nat) : (SH H rq rs q z c next).length = H.length := by rw [SH,RC_len,QH_len]
theorem SH_take (H : Heap) (rq rs : Nat) (q : QM) (z : Bool) (c : Cfg) (next : Nat) : (SH H rq rs q z c next).take H.length = SH H rq rs q z c next := List.take_of_length_le (by rw [SH_len]; exact Nat.le_refl _)
attribute [simp] SH_len SH_take
structure At (H : Heap) (rq rs : Nat) : Prop where
 q : rq < H.length
 s : rs < H.length
 ne : rq ≠ rs
section
variable {H : Heap} {rq rs : Nat} {q : QM} {z : Bool} {c : Cfg} {next : Nat}
theorem At.app (h : At H rq rs) (X : Heap) : At (H ++ X) rq rs := ⟨by rw [List.length_append]; have := h.q; omega,by rw [List.length_append]; have := h.s; omega,h.ne⟩
theorem SH_s (h : At H rq rs) : rs < (QH H rq q z).length := by rw [QH_len]; exact h.s
theorem SH_0 (h : At H rq rs) : rdRow (SH H rq rs q z c next) rs 0 1 12 = some [.ptr rq 0 5] := by rw [SH,RC_rd (SH_s h)]; rfl
theorem SH_2 (h : At H rq rs) : rdRow (SH H rq rs q z c next) rs 2 1 12 = some [ai c.bits] := by rw [SH,RC_rd (SH_s h)]; rfl
theorem SH_11 (h : At H rq rs) : rdRow (SH H rq rs q z c next) rs 11 1 12 = some [ai next] := by rw [SH,RC_rd (SH_s h)]; rfl
theorem SH_st (h : At H rq rs) (n : Nat) (σ : List AV) : storeA σ (SH H rq rs q z c next) none (.ptr rs 11 12) (ai n) = some (σ,SH H rq rs q z c n) := by
 rw [SH,RC_st (SH_s h),if_pos ⟨rfl,by omega,rfl⟩]; rfl
theorem SH_QH (h : At H rq rs) : SH H rq rs q z c next = QH (RC H rs (sv rq c next)) rq q z := RC_comm h.ne _ _
theorem SH_lq (h : At H rq rs) : rq < (RC H rs (sv rq c next)).length := by rw [RC_len]; exact h.q
theorem SH_app (h : At H rq rs) (X : Heap) : SH H rq rs q z c next ++ X = SH (H ++ X) rq rs q z c next := by
 rw [SH,RC_app (SH_s h),QH,RC_app h.q]; rfl
theorem u_queue (h : At H rq rs) : callW P f_q22 [.ptr rs 0 12] (SH H rq rs q z c next) = some (.ptr rq 0 5,SH H rq rs q z c next) := by
 have r0 := SH_0 (q := q) (z := z) (c := c) (next := next) h
 have hl := SH_len H rq rs q z c next
 have ht := SH_take H rq rs q z c next
 generalize SH H rq rs q z c next = G at *
 have hfz : frz H.length G (.ptr rq 0 5) = some (.ptr rq 0 5) := by simp only [frz]; rw [if_pos h.q]
 have hno : norm (.ptr rq 0 5) = .ptr rq 0 5 := rfl
 rw [call_L 4 rfl (rfl : P.T f_q22 = some F_q22) (le_ok rfl)]; simp -implicitDefEqProofs [-toCells,-AV.one,-forget,F_q22,c_q22,r0,hl,hfz,hno,ht]
theorem u_Bytes (h : At H rq rs) : callW P f_q6 [.ptr rs 0 12] (SH H rq rs q z c next) = some (ai q.bytes,SH H rq rs q z c next) := by
 have hQ := u_queue (q := q) (z := z) (c := c) (next := next) h
 have hB := q_Bytes (SH_lq (c := c) (next := next) h) q z
 rw [← SH_QH h] at hB
 generalize SH H rq rs q z c next = G at *
 rw [call_L 3 rfl (rfl : P.T f_q6 = some F_q6) (le_ok rfl)]; simp -implicitDefEqProofs [-toCells,-AV.one,-forget,F_q6,c_q6,hQ,hB]
theorem u_Next (h : At H rq rs) : callW P f_q7 [.ptr rs 0 12] (SH H rq rs q z c next) = some (ai next,SH H rq rs q z c next) := by
 have r0 := SH_11 (q := q) (z := z) (c := c) (next := next) h
 generalize SH H rq rs q z c next = G at *
 rw [call_L 4 rfl (rfl : P.T f_q7 = some F_q7) (le_ok rfl)]; simp -implicitDefEqProofs [-toCells,-AV.one,-forget,F_q7,c_q7,r0]
theorem u_Push (h : At H rq rs) (hq : q.Ok) (hlast : q.last ≤ 100000) (b : Bs) (hb : b.2.length ≤ 1000000) :
  ∃ z',callW P f_q3 [.ptr rs 0 12,bv b] (SH H rq rs q z c next) = some (.tup [ul (q.push b.2).2.1,ai (q.push b.2).2.2],SH H rq rs (q.push b.2).1 z' c next) := by
 have hQ := u_queue (q := q) (z := z) (c := c) (next := next) h
 obtain ⟨z',hB⟩ := q_Push (SH_lq (c := c) (next := next) h) hq hlast z b hb
 rw [← SH_QH h,← SH_QH h] at hB
 refine ⟨z',?_⟩
 have hl := SH_len H rq rs q z c next
 have hl2 := SH_len H rq rs (q.push b.2).1 z' c next
 have ht2 := SH_take H rq rs (q.push b.2).1 z' c next
 generalize SH H rq rs (q.push b.2).1 z' c next = G2 at *
 generalize SH H rq rs q z c next = G at *
 rw [call_L 4 rfl (rfl : P.T f_q3 = some F_q3) (le_ok rfl)]; simp -implicitDefEqProofs [-toCells,-AV.one,-forget,F_q3,c_q3,hQ,hB,hl,hl2,ht2]
theorem u_Discard (h : At H rq rs) (hq : q.Ok) (id : Nat) :
  ∃ z' k,callW P f_q5 [.ptr rs 0 12,ul id] (SH H rq rs q z c next) = some (ai ((q.discard id).2 : Nat),SH (H ++ List.replicate k .other) rq rs (q.discard id).1 z' c next) := by
 have hQ := u_queue (q := q) (z := z) (c := c) (next := next) h
 obtain ⟨z',k,hB⟩ := q_Discard (SH_lq (c := c) (next := next) h) hq z id
 rw [← SH_QH h,← SH_QH h,SH_app h] at hB
 refine ⟨z',k,?_⟩
 have hl := SH_len H rq rs q z c next
 have ht2 : (SH (H ++ List.replicate k .other) rq rs (q.discard id).1 z' c next).take H.length ++ List.replicate k .other = SH (H ++ List.replicate k .other) rq rs (q.discard id).1 z' c next := by
  rw [← SH_app h,List.take_append_of_le_length (by rw [SH_len]; exact Nat.le_refl _),SH_take]
 have hl2 : (SH (H ++ List.replicate k .other) rq rs (q.discard id).1 z' c next).length = H.length + k := by rw [SH_len]; simp
 generalize SH (H ++ List.replicate k .other) rq rs (q.discard id).1 z' c next = G2 at *
 generalize SH H rq rs q z c next = G at *
 rw [call_L 4 rfl (rfl : P.T f_q5 = some F_q5) (le_ok rfl)]; simp -implicitDefEqProofs [-toCells,-AV.one,-forget,F_q5,c_q5,hQ,hB,hl,hl2,ht2]
theorem u_Reset (h : At H rq rs) (hq : q.Ok) : callW P f_q8 [.ptr rs 0 12] (SH H rq rs q z c next) = some (lst true 1 (some 0) (uls q.ids),SH H rq rs q.clear true c 0) := by
 have hQ := u_queue (q := q) (z := z) (c := c) (next := next) h
 have hB := q_Clear (SH_lq (c := c) (next := next) h) hq z
 rw [← SH_QH h,← SH_QH h] at hB
 have s1 : ∀ σ,storeA σ (SH H rq rs q.clear true c next) none (.ptr rs 11 12) (ai 0) = some (σ,SH H rq rs q.clear true c 0) := fun σ => SH_st h 0 σ
 have hl := SH_len H rq rs q z c next
 have hl2 := SH_len H rq rs q.clear true c 0
 have ht2 := SH_take H rq rs q.clear true c 0
 generalize SH H rq rs q.clear true c 0 = G3 at *
 generalize SH H rq rs q.clear true c next = G2 at *
 generalize SH H rq rs q z c next = G at *
 rw [call_L 4 rfl (rfl : P.T f_q8 = some F_q8) (le_ok rfl)]; simp -implicitDefEqProofs [-toCells,-AV.one,-forget,F_q8,c_q8,hQ,hB,s1,hl,hl2,ht2]
theorem u_New (c : Cfg) (H : Heap) : callW P f_q1 [.agg c.v] H = if c.chk = 0 ∧ c.mode = 1 then some (.tup [.ptr (H.length + 1) 0 12,ai 0],SH (H ++ [.other,.other]) H.length (H.length + 1) ⟨c.queue.toNat,[],0,0⟩ true c 0) else some (.tup [.c (.pointer none),ai (if c.chk ≠ 0 then (c.chk : Int) else 9)],H) := by
 have hC := fun H => pdu_Check c H
 by_cases h1 : c.chk = 0
 ·by_cases h2 : c.mode = 1
  ·rw [if_pos ⟨h1,h2⟩]
   rw [h1] at hC
   have hqr : 1 ≤ c.queue ∧ c.queue ≤ 20000 := by
    unfold Cfg.chk at h1
    rw [if_pos (by omega)] at h1
    have h3 : [(c.queue,((1 : Int),(20000 : Int)))].all inn = true := by
     cases hx : [(c.queue,((1 : Int),(20000 : Int)))].all inn with
     | true => rfl
     | false => rw [hx,Bool.and_false] at h1; simp at h1
    simp only [List.all_cons,List.all_nil,Bool.and_true,inn,Bool.not_eq_true',decide_eq_false_iff_not] at h3
    omega
   have hN := q_New c.queue H
   rw [if_pos hqr] at hN
   have hsh : SH (H ++ [.other,.other]) H.length (H.length + 1) ⟨c.queue.toNat,[],0,0⟩ true c 0 = H ++ [.row (qv ⟨c.queue.toNat,[],0,0⟩ true),.row (sv H.length c 0)] := by
    simp [SH,QH,RC]
   rw [hsh]
   obtain ⟨mo,bi,wi,re,pr,ph,pp,pb,mr,qu⟩ := c
   simp only [Cfg.v,sv] at *
   subst h2
   generalize qv ⟨qu.toNat,[],0,0⟩ true = Q at *
   rw [call_L 5 rfl (rfl : P.T f_q1 = some F_q1) (le_ok rfl)]; simp -implicitDefEqProofs [-toCells,-AV.one,-forget,F_q1,c_q1,hC,hN]
  ·rw [if_neg (fun h => h2 h.2),if_neg (by omega)]
   rw [h1] at hC
   obtain ⟨mo,bi,wi,re,pr,ph,pp,pb,mr,qu⟩ := c
   simp only [Cfg.v] at *
   rw [call_L 5 rfl (rfl : P.T f_q1 = some F_q1) (le_ok rfl)]; simp -implicitDefEqProofs [-toCells,-AV.one,-forget,F_q1,c_q1,hC,h2]
 ·rw [if_neg (fun h => h1 h.1),if_pos h1]
  obtain ⟨e,he⟩ : ∃ x,c.chk = x := ⟨_,rfl⟩
  rw [he] at hC h1 ⊢
  have h1' : ¬ (e : Int) = 0 := by omega
  obtain ⟨mo,bi,wi,re,pr,ph,pp,pb,mr,qu⟩ := c
  simp only [Cfg.v] at *
  rw [call_L 5 rfl (rfl : P.T f_q1 = some F_q1) (le_ok rfl)]; simp -implicitDefEqProofs [-toCells,-AV.one,-forget,F_q1,c_q1,hC,h1,h1']
end
end Go.A.V.S

namespace Go.A.V.S
open Go Go.A
section
variable {H : Heap} {rq rs : Nat} {q : QM} {z : Bool} {c : Cfg} {next : Nat}
def askE (q : QM) (w : Nat) (g : Int) : Int := if g < 0 ∨ 4096 < g then 1 else if q.bytes = 0 then 4 else if g ≤ (w / 5 : Nat) then 16 else 0
theorem u_ask (h : At H rq rs) {w : Nat} (hw : w = 5 ∨ w = 10) (hb : c.bits = w) (g : Int) : callW P f_q24 [.ptr rs 0 12,ai g] (SH H rq rs q z c next) = some (ai (askE q w g),SH H rq rs q z c next) := by
 have hQ := u_queue (q := q) (z := z) (c := c) (next := next) h
 have hB := u_Bytes (q := q) (z := z) (c := c) (next := next) h
 have r2 := SH_2 (q := q) (z := z) (c := c) (next := next) h
 rw [hb] at r2
 unfold askE
 obtain ⟨by',hby⟩ : ∃ x,q.bytes = x := ⟨_,rfl⟩
 rw [hby] at hB ⊢
 generalize SH H rq rs q z c next = G at *
 by_cases h1 : g < 0 ∨ 4096 < g
 ·rw [if_pos h1]
  by_cases h2 : g < 0
  ·rw [call_L 5 rfl (rfl : P.T f_q24 = some F_q24) (le_ok rfl)]; simp -implicitDefEqProofs (disch := first | omega | (simp; done) | fail) [-toCells,-AV.one,-forget,F_q24,c_q24,cmp_ilt,cmp_ilf,cmp_ile,cmp_ilg,cmp_ine,cmp_ieq,cmp_nlt,cmp_nlf,cmp_nle,cmp_nne,cmp_neq,wrap_i64,wrap_u64,wrap_u8,hQ]
  ·rw [call_L 5 rfl (rfl : P.T f_q24 = some F_q24) (le_ok rfl)]; simp -implicitDefEqProofs (disch := first | omega | (simp; done) | fail) [-toCells,-AV.one,-forget,F_q24,c_q24,cmp_ilt,cmp_ilf,cmp_ile,cmp_ilg,cmp_ine,cmp_ieq,cmp_nlt,cmp_nlf,cmp_nle,cmp_nne,cmp_neq,wrap_i64,wrap_u64,wrap_u8,hQ]
 ·rw [if_neg h1]
  by_cases h2 : by' = 0
  ·rw [if_pos h2]
   subst h2
   replace hB : callW P f_q6 [.ptr rs 0 12] G = some (ai 0,G) := hB
   rw [call_L 5 rfl (rfl : P.T f_q24 = some F_q24) (le_ok rfl)]; simp -implicitDefEqProofs (disch := first | omega | (simp; done) | fail) [-toCells,-AV.one,-forget,F_q24,c_q24,cmp_ilt,cmp_ilf,cmp_ile,cmp_ilg,cmp_ine,cmp_ieq,cmp_nlt,cmp_nlf,cmp_nle,cmp_nne,cmp_neq,wrap_i64,wrap_u64,wrap_u8,hQ,hB]
  ·rw [if_neg h2]
   have d5 : Int.tdiv 5 5 = 1 := rfl
   have d10 : Int.tdiv 10 5 = 2 := rfl
   rcases hw with rfl | rfl
   ·replace r2 : rdRow G rs 2 1 12 = some [ai 5] := r2
    by_cases h3 : g ≤ 1
    ·rw [if_pos (by omega)]
     rw [call_L 5 rfl (rfl : P.T f_q24 = some F_q24) (le_ok rfl)]; simp -implicitDefEqProofs (disch := first | omega | (simp; done) | fail) [-toCells,-AV.one,-forget,F_q24,c_q24,cmp_ilt,cmp_ilf,cmp_ile,cmp_ilg,cmp_ine,cmp_ieq,cmp_nlt,cmp_nlf,cmp_nle,cmp_nne,cmp_neq,wrap_i64,wrap_u64,wrap_u8,hQ,hB,r2,d5]
    ·rw [if_neg (by omega)]
     rw [call_L 5 rfl (rfl : P.T f_q24 = some F_q24) (le_ok rfl)]; simp -implicitDefEqProofs (disch := first | omega | (simp; done) | fail) [-toCells,-AV.one,-forget,F_q24,c_q24,cmp_ilt,cmp_ilf,cmp_ile,cmp_ilg,cmp_ine,cmp_ieq,cmp_nlt,cmp_nlf,cmp_nle,cmp_nne,cmp_neq,wrap_i64,wrap_u64,wrap_u8,hQ,hB,r2,d5]
   ·replace r2 : rdRow G rs 2 1 12 = some [ai 10] := r2
    by_cases h3 : g ≤ 2
    ·rw [if_pos (by omega)]
     rw [call_L 5 rfl (rfl : P.T f_q24 = some F_q24) (le_ok rfl)]; simp -implicitDefEqProofs (disch := first | omega | (simp; done) | fail) [-toCells,-AV.one,-forget,F_q24,c_q24,cmp_ilt,cmp_ilf,cmp_ile,cmp_ilg,cmp_ine,cmp_ieq,cmp_nlt,cmp_nlf,cmp_nle,cmp_nne,cmp_neq,wrap_i64,wrap_u64,wrap_u8,hQ,hB,r2,d10]
    ·rw [if_neg (by omega)]
     rw [call_L 5 rfl (rfl : P.T f_q24 = some F_q24) (le_ok rfl)]; simp -implicitDefEqProofs (disch := first | omega | (simp; done) | fail) [-toCells,-AV.one,-forget,F_q24,c_q24,cmp_ilt,cmp_ilf,cmp_ile,cmp_ilg,cmp_ine,cmp_ieq,cmp_nlt,cmp_nlf,cmp_nle,cmp_nne,cmp_neq,wrap_i64,wrap_u64,wrap_u8,hQ,hB,r2,d10]
end
end Go.A.V.S

namespace Go.A.V.S
open Go Go.A
def umOf (R : CR) (next : Nat) : Um := ⟨(R.fi : Nat),(next : Nat),true,R.F.map fun b => (false,b)⟩
def rmOf (w : Nat) (g : Int) : Nat := (if g < 4000 then g else 4000).toNat - w / 5
def bR (q : QM) (w : Nat) (g : Int) : CR := cutQ (rmOf w g) 11 24 q [] [] 0 0
inductive BuildP (q : QM) (w : Nat) (g : Int) (next : Nat) : AV → QM → Nat → Prop
 | no (he : askE q w g ≠ 0) : BuildP q w g next (.tup [nilS,nilS,ai (askE q w g)]) q next
 | none (he : askE q w g = 0) (hF : (bR q w g).F = []) : BuildP q w g next (.tup [nilS,nilS,ai 4]) (bR q w g).q next
 | bad (he : askE q w g = 0) (hF : (bR q w g).F ≠ []) (hs : sizeU (umOf (bR q w g) next) w = 0) : BuildP q w g next (.tup [nilS,nilS,ai 3]) (bR q w g).q next
 | yes (out : List Nat) (he : askE q w g = 0) (hF : (bR q w g).F ≠ []) (hs : sizeU (umOf (bR q w g) next) w ≠ 0) (hW : WrU (umOf (bR q w g) next) w out) : BuildP q w g next (.tup [.vs 1 none (byteCs out),lst true 1 none (uls (bR q w g).D),ai 0]) (bR q w g).q ((next + 1) % 2 ^ w)
theorem bvs_bvF (F : List (List Nat)) : bvs (F.map fun b => (false,b)) = bvF F := by simp [bvs,bvF]
section
variable {H : Heap} {rq rs : Nat} {q : QM} {z : Bool} {c : Cfg} {next : Nat}
set_option maxHeartbeats 2000000 in
theorem u_Build (h : At H rq rs) (hq : q.Ok) {w : Nat} (hw : w = 5 ∨ w = 10) (hb : c.bits = w) (hn : next < 2 ^ w) (g : Int) :
  ∃ v q' next' z' k,BuildP q w g next v q' next' ∧ callW P f_q4 [.ptr rs 0 12,ai g] (SH H rq rs q z c next) = some (v,SH (H ++ List.replicate k .other) rq rs q' z' c next') := by
 have hA := u_ask (z := z) (c := c) (next := next) (q := q) h hw hb g
 have hQ := u_queue (q := q) (z := z) (c := c) (next := next) h
 have r2 := fun q z n => SH_2 (q := q) (z := z) (c := c) (next := n) h
 rw [hb] at r2
 by_cases he : askE q w g = 0
 ·obtain ⟨rm,hrm⟩ : ∃ x,rmOf w g = x := ⟨_,rfl⟩
  have hg : 0 ≤ g ∧ g ≤ 4096 ∧ ((w / 5 : Nat) : Int) < g := by
   unfold askE at he
   split at he
   ·omega
   ·split at he
    ·omega
    ·split at he
     ·omega
     ·omega
  have hrm4 : rm ≤ 4000 := by rw [← hrm,rmOf]; split <;> omega
  obtain ⟨z1,hB⟩ := c_Build (SH_lq (c := c) (next := next) h) hq z rm hrm4 (w := 11) (.inl rfl)
  rw [← SH_QH h,← SH_QH h] at hB
  have hbR : cutQ rm 11 24 q [] [] 0 0 = bR q w g := by rw [bR,hrm]
  rw [hbR] at hB
  replace hB : callW P f_q25 [.ptr rq 0 5,ai rm,ai 11] _ = _ := hB
  obtain ⟨gm,hgm⟩ : ∃ x,mn g 4000 = x := ⟨_,rfl⟩
  have hgm2 : gm - ((w / 5 : Nat) : Int) = rm := by
   rw [← hgm,← hrm,rmOf]
   simp only [mn]
   split <;> split <;> omega
  have w1 : IntKind.i64.wrap (gm - ((w / 5 : Nat) : Int)) = rm := by rw [hgm2]; exact wrap_i64 (by omega) (by omega)
  have hquo : ∃ n5 : Int,Int.tdiv (w : Int) 5 = n5 ∧ IntKind.i64.wrap n5 = ((w / 5 : Nat) : Int) := by
   rcases hw with rfl | rfl
   ·exact ⟨1,rfl,rfl⟩
   ·exact ⟨2,rfl,rfl⟩
  obtain ⟨n5,hq5,hw5⟩ := hquo
  rw [he] at hA
  by_cases hF : (bR q w g).F = []
  ·refine ⟨_,_,_,z1,0,.none he hF,?_⟩
   have hcp : cutPub (bR q w g) = .tup [.agg [ai 0,nilS,nilS],ai 4] := by rw [cutPub,if_pos hF]
   rw [hcp] at hB
   rw [List.replicate_zero,List.append_nil]
   have hl := SH_len H rq rs q z c next
   have hl1 := SH_len H rq rs (bR q w g).q z1 c next
   have ht1 := SH_take H rq rs (bR q w g).q z1 c next
   have r2a := r2 q z next
   generalize SH H rq rs (bR q w g).q z1 c next = G1 at *
   generalize SH H rq rs q z c next = G at *
   generalize ((w / 5 : Nat) : Int) = w5 at *
   rw [call_L 7 rfl (rfl : P.T f_q4 = some F_q4) (le_ok rfl)]; simp -implicitDefEqProofs [-toCells,-AV.one,-forget,F_q4,c_q4,keepB,-goodB,goodB_L,sameV,dstNot,dstNe,SOpG.reads,SOp.slots,SX.slots,SOp.noL,rdV_load,rdV_str,selfE_lst,selfE,selfEs,eqV,okN,SOpG.badNew,dstL,AV.isLp,AV.isLd,L_any,anyT_n,anyT_full,hA,hQ,r2a,hgm,hq5,hw5,w1,hB,hl,hl1,ht1]
  ·obtain ⟨R,hR⟩ : ∃ x,bR q w g = x := ⟨_,rfl⟩
   have hR0 := hR
   have hcp : cutPub R = .tup [.agg [ai R.fi,lst true 1 none (bvF R.F),lst true 1 none (uls R.D)],ai 0] := by rw [cutPub,if_neg (by rw [← hR]; exact hF)]
   have hFp := cutQ_F (room := rm) (w := 11) (fun f => f.length ≤ 100000) (fun b i n hb => by rw [List.length_take,List.length_drop]; omega) 24 q [] [] 0 0 hq (fun f hf => by simp at hf)
   rw [hbR,hR] at hFp
   have hU := umd_Write (umOf R next) (fun f hf => by
    obtain ⟨b,hb1,rfl⟩ := List.mem_map.1 hf
    exact hFp.1 b hb1) (by simp only [umOf,List.length_map]; have := hFp.2; simp at this; omega) (w : Nat)
   have hv : (umOf R next).v = [ai R.fi,ai next,lst true 1 none (bvF R.F)] := by simp only [Um.v,Um.f,umOf,bvs_bvF]
   rw [hv] at hU
   rw [hR] at hB
   rw [hcp] at hB
   have r11 := SH_11 (q := R.q) (z := z1) (c := c) (next := next) h
   have hl := SH_len H rq rs q z c next
   have hl1 := SH_len H rq rs R.q z1 c next
   have ht1 := SH_take H rq rs R.q z1 c next
   have r2a := r2 q z next
   have r2b := r2 R.q z1 next
   by_cases hsz : sizeU (umOf R next) w = 0
   ·refine ⟨_,_,_,z1,0,.bad he hF (by rw [hR]; exact hsz),?_⟩
    rw [List.replicate_zero,List.append_nil,hR]
    have hW := (hU (SH H rq rs R.q z1 c next)).2.1 (by omega) hsz
    generalize SH H rq rs R.q z1 c next = G1 at *
    generalize SH H rq rs q z c next = G at *
    generalize ((w / 5 : Nat) : Int) = w5 at *
    generalize bvF R.F = F1 at *
    generalize uls R.D = D1 at *
    generalize R.fi = fi at *
    rw [call_L 7 rfl (rfl : P.T f_q4 = some F_q4) (le_ok rfl)]; simp -implicitDefEqProofs [-toCells,-AV.one,-forget,F_q4,c_q4,keepB,-goodB,goodB_L,sameV,dstNot,dstNe,SOpG.reads,SOp.slots,SX.slots,SOp.noL,rdV_load,rdV_str,selfE_lst,selfE,selfEs,eqV,okN,SOpG.badNew,dstL,AV.isLp,AV.isLd,L_any,anyT_n,anyT_full,hA,hQ,r2a,r2b,r11,hgm,hq5,hw5,w1,hB,hl,hl1,ht1,hW]
   ·obtain ⟨out,k,hWr,hW⟩ := (hU (SH H rq rs R.q z1 c next)).2.2 hsz
    rw [SH_app h] at hW
    have h' := h.app (List.replicate k .other)
    refine ⟨_,_,_,z1,k,.yes out he hF (by rw [hR]; exact hsz) (by rw [hR]; simpa using hWr),?_⟩
    rw [hR]
    have s11 := SH_11 (q := R.q) (z := z1) (c := c) (next := next) h'
    have s2 := SH_2 (q := R.q) (z := z1) (c := c) (next := next) h'
    rw [hb] at s2
    have hGo := sn_Go1 hw hn (SH (H ++ List.replicate k .other) rq rs R.q z1 c next)
    have st := fun σ => SH_st (q := R.q) (z := z1) (c := c) (next := next) h' ((next + 1) % 2 ^ w) σ
    have ht2 : (SH (H ++ List.replicate k .other) rq rs R.q z1 c ((next + 1) % 2 ^ w)).take H.length ++ List.replicate k .other = SH (H ++ List.replicate k .other) rq rs R.q z1 c ((next + 1) % 2 ^ w) := by
     rw [← SH_app h,List.take_append_of_le_length (by rw [SH_len]; exact Nat.le_refl _),SH_take]
    have hl2 : (SH (H ++ List.replicate k .other) rq rs R.q z1 c ((next + 1) % 2 ^ w)).length = H.length + k := by rw [SH_len]; simp
    generalize SH (H ++ List.replicate k .other) rq rs R.q z1 c ((next + 1) % 2 ^ w) = G3 at *
    generalize SH (H ++ List.replicate k .other) rq rs R.q z1 c next = G2 at *
    generalize SH H rq rs R.q z1 c next = G1 at *
    generalize SH H rq rs q z c next = G at *
    generalize ((w / 5 : Nat) : Int) = w5 at *
    generalize (next + 1) % 2 ^ w = nx at *
    generalize bvF R.F = F1 at *
    generalize uls R.D = D1 at *
    generalize R.fi = fi at *
    generalize byteCs out = ob at *
    rw [call_L 7 rfl (rfl : P.T f_q4 = some F_q4) (le_ok rfl)]; simp -implicitDefEqProofs [-toCells,-AV.one,-forget,F_q4,c_q4,keepB,-goodB,goodB_L,sameV,dstNot,dstNe,SOpG.reads,SOp.slots,SX.slots,SOp.noL,rdV_load,rdV_str,selfE_lst,selfE,selfEs,eqV,okN,SOpG.badNew,dstL,AV.isLp,AV.isLd,L_any,anyT_n,anyT_full,hA,hQ,r2a,r2b,r11,hgm,hq5,hw5,w1,hB,hl,hl1,ht1,hW,s11,s2,hGo,st,ht2,hl2]
 ·refine ⟨_,_,_,z,0,.no he,?_⟩
  rw [List.replicate_zero,List.append_nil]
  have hl := SH_len H rq rs q z c next
  have ht := SH_take H rq rs q z c next
  generalize SH H rq rs q z c next = G at *
  generalize askE q w g = e at *
  rw [call_L 7 rfl (rfl : P.T f_q4 = some F_q4) (le_ok rfl)]; simp -implicitDefEqProofs [-toCells,-AV.one,-forget,F_q4,c_q4,hA,he,hl,ht]
end
end Go.A.V.S
