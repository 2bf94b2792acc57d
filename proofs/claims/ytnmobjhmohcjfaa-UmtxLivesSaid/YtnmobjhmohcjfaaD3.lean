/- THE ABSTRACT MACHINE: regions that draw their order are sound. -/
import Derived.Test.YtnmobjhmohcjfaaA15
import Derived.Test.YtnmobjhmohcjfaaD2
import Derived.Orders
set_option linter.unusedSimpArgs false
set_option linter.unusedVariables false
set_option linter.unnecessarySimpa false
namespace Go.A
open Go
variable {P : Program}
section
variable {L0 : Nat → Prop} {g : G} {H : Heap} {w : World} {σ : List AV} {a : Act}
theorem stepA_sound {C : Oracle} (hC : SoundO P C) {ann : Ann} {ops : Array Oper} {Q : Exit → Act → World → Prop} {K : Act → World → Prop} {i : Nat} {o : Oper} {so : SOpG} (ho : ops[i]? = some o) (hr : rOper P ann ops o = some so) {σ1 : List AV} {H1 : Heap}
  (h : stepA C so σ H = some (σ1,H1)) (hs : StR L0 g H w σ a.tmps none) (hh : HeapR g H w) (hK : ∀ a' w',Reach L0 g H w a.defers σ1 H1 a' w' → K a' w') : wpOp P ops Q i K a w := by
 obtain ⟨hop,hdst⟩ := rOper_op hr
 unfold wpOp
 rw [ho]
 simp only
 unfold stepA at h
 split at h
 ·simp at h
 ·split at h
  ·rename_i hw
   rw [wanted_rel hs hr hw,if_pos rfl]
   obtain ⟨⟨v,σ2,H2⟩,hv,h⟩ := Option.bind_eq_some_iff.1 h
   simp only at h
   split at h
   ·simp at h
   ·simp only [Option.some.injEq,Prod.mk.injEq] at h
    obtain ⟨rfl,rfl⟩ := h
    rw [hdst] at hv
    refine .inl ((op_all hs hh hC hop hv) _ _ ?_)
    rintro u w1 ⟨g1,hp⟩
    have hs1 := hp.st.put hp.val a.defers
    refine hK _ _ ⟨g1,?_,hp.heap,hp.ext,hp.frame,put_defers' _ _ _⟩
    rw [hdst]; exact hs1
  ·rename_i hw
   rw [wanted_rel hs hr hw,if_neg (by simp)]
   simp only [Option.some.injEq,Prod.mk.injEq] at h
   obtain ⟨rfl,rfl⟩ := h
   have hs1 := (hs.weak o.dst).put (a := .tup []) (v := undef) (ValR.of_vr (by simp only [VR]; exact ⟨#[],rfl,by simp [VRs]⟩) (.inl (by simp [AV.free,AV.freeAll]))) a.defers
   refine hK _ _ ⟨g,?_,hh,Ext.refl _ _ _,fun _ _ => rfl,put_defers' _ _ _⟩
   rw [hdst]; exact hs1
  ·simp at h
theorem allPairs_spec {α : Type} {f : α → α → Bool} : ∀ {l : List α},allPairs f l = true → l.Pairwise fun x y => f x y = true
 | [],_ => List.Pairwise.nil
 | x :: l,h => by
  simp only [allPairs,Bool.and_eq_true,List.all_eq_true] at h
  exact List.Pairwise.cons h.1 (allPairs_spec h.2)
def Closed (ops : Array Oper) (listed : Array Bool) : Prop := ∀ j,listed.getD j false = true → ∀ p ∈ preAt ops j,listed.getD p false = true
theorem ready_spec {ops : Array Oper} {listed : Array Bool} {i : Nat} (h : i ∈ Region.ready .any ops listed) : i < ops.size ∧ listed.getD i true = false ∧ ∀ p ∈ preAt ops i,listed.getD p false = true := by
 simp only [Region.ready,List.mem_filter,List.mem_range,Bool.and_eq_true,Bool.not_eq_true'] at h
 obtain ⟨h1,h2,h3⟩ := h
 refine ⟨h1,h2,fun p hp => ?_⟩
 unfold preAt at hp
 split at hp
 ·rename_i o ho
  rw [ho] at h3
  simp only [Option.map_some,Option.getD_some,Array.all_eq_true_iff_forall_mem,Bool.or_eq_true,Bool.not_eq_true'] at h3
  simp only [List.mem_map,List.mem_filter] at hp
  obtain ⟨e,⟨he1,he2⟩,rfl⟩ := hp
  rcases h3 e (by simpa using he1) with h | h
  ·rw [h] at he2; simp at he2
  ·exact h
 ·simp at hp
theorem ready_of {ops : Array Oper} {listed : Array Bool} {i : Nat} (h1 : i < ops.size) (h2 : listed.getD i true = false) (h3 : ∀ p ∈ preAt ops i,listed.getD p false = true) : i ∈ Region.ready .any ops listed := by
 simp only [Region.ready,List.mem_filter,List.mem_range,Bool.and_eq_true,Bool.not_eq_true']
 refine ⟨h1,h2,?_⟩
 have ho : ops[i]? = some ops[i] := Array.getElem?_eq_getElem h1
 rw [ho]
 simp only [Option.map_some,Option.getD_some,Array.all_eq_true_iff_forall_mem,Bool.or_eq_true,Bool.not_eq_true']
 intro e he
 by_cases hb : Region.binds .any e = true
 ·right
  refine h3 _ ?_
  simp only [preAt,ho,List.mem_map,List.mem_filter]
  exact ⟨e,⟨by simpa using he,hb⟩,rfl⟩
 ·left; simpa using hb
theorem anc_listed {ops : Array Oper} {anc : List Nat} (hanc : ∀ j,j < ops.size → ∀ b,b < ops.size → (anc.getD j 0).testBit b = true → ∃ p ∈ preAt ops j,p < j ∧ (b = p ∨ (anc.getD p 0).testBit b = true)) {listed : Array Bool} (hcl : Closed ops listed) :
  ∀ (j : Nat),j < ops.size → (∀ p ∈ preAt ops j,listed.getD p false = true) → ∀ b,b < ops.size → (anc.getD j 0).testBit b = true → listed.getD b false = true := by
 intro j
 induction j using Nat.strongRecOn with
 | _ j ih =>
  intro hj hp b hb ht
  obtain ⟨p,hp1,hp2,hp3⟩ := hanc j hj b hb ht
  rcases hp3 with rfl | hp3
  ·exact hp _ hp1
  ·exact ih p hp2 (by omega) (hcl p (hp p hp1)) b hb hp3
structure Plan (P : Program) (ann : Ann) (ops : Array Oper) (anc : List Nat) (rem : List DOp) : Prop where
 pre : ∀ i,i < ops.size → ∀ p ∈ preAt ops i,p < ops.size
 ancH : ∀ j,j < ops.size → ∀ b,b < ops.size → (anc.getD j 0).testBit b = true → ∃ p ∈ preAt ops j,p < j ∧ (b = p ∨ (anc.getD p 0).testBit b = true)
 one : ∀ d ∈ rem,¬ (preAt ops d.i).contains d.i = true ∧ dstNot d.o.dst d.o.reads = true ∧ (d.o.op.cls ≠ .eff → d.un = [])
 res : ∀ d ∈ rem,∃ o,ops[d.i]? = some o ∧ rOper P ann ops o = some d.o
 pair : rem.Pairwise fun a x => pairOk ops anc a x = true
theorem getD_set {l : Array Bool} {i j : Nat} (h : i < l.size) {d : Bool} : (l.setIfInBounds i true).getD j d = if i = j then true else l.getD j d := by
 simp only [Array.getD_eq_getD_getElem?,Array.getElem?_setIfInBounds]
 by_cases e : i = j
 ·subst e; simp [h]
 ·simp [e]
theorem getD_dflt {l : Array Bool} {i : Nat} (h : i < l.size) {d d' : Bool} : l.getD i d = l.getD i d' := by
 simp [Array.getD_eq_getD_getElem?,h]
theorem drawn_any {C : Oracle} (hC : SoundO P C) {ann : Ann} {ops : Array Oper} {anc : List Nat} {Q : Exit → Act → World → Prop} : ∀ (m : Nat) (rem : List DOp) (listed : Array Bool) (σ : List AV) (H : Heap) (g : G) (w : World) (a : Act) (σ' : List AV) (H' : Heap),
  rem.length = m → Plan P ann ops anc rem → listed.size = ops.size → (∀ i,i < ops.size → (listed.getD i false = false ↔ ∃ d ∈ rem,d.i = i)) → Closed ops listed →
  runD C [] rem σ H = some (σ',H') → StR L0 g H w σ a.tmps none → HeapR g H w → (∀ a' w',Reach L0 g H w a.defers σ' H' a' w' → Q .normal a' w') →
  wpAny P .any ops Q m listed a w := by
 intro m
 induction m with
 | zero =>
  intro rem listed σ H g w a σ' H' hm hp hsz hcov hcl h hs hh hQ
  have : rem = [] := List.length_eq_zero_iff.1 hm
  subst this
  simp only [runD,Option.some.injEq,Prod.mk.injEq] at h
  obtain ⟨rfl,rfl⟩ := h
  refine ⟨?_,hQ a w (Reach.refl hs hh)⟩
  rw [List.eq_nil_iff_forall_not_mem]
  intro i hi
  obtain ⟨h1,h2,_⟩ := ready_spec hi
  rw [getD_dflt (by omega) (d' := false)] at h2
  obtain ⟨d,hd,_⟩ := (hcov i h1).1 h2
  simp at hd
 | succ m ih =>
  intro rem listed σ H g w a σ' H' hm hp hsz hcov hcl h hs hh hQ
  refine ⟨fun hnil => ?_,fun i hi => ?_⟩
  ·
   exfalso
   match rem,hm with
   | d :: r,_ =>
    obtain ⟨o,ho,_⟩ := hp.res d List.mem_cons_self
    have hlt : d.i < ops.size := (Array.getElem?_eq_some_iff.1 ho).1
    have hun : listed.getD d.i false = false := (hcov d.i hlt).2 ⟨d,List.mem_cons_self,rfl⟩
    have : d.i ∈ Region.ready .any ops listed := by
     refine ready_of hlt (by rw [getD_dflt (by omega) (d' := false)]; exact hun) fun p hpp => ?_
     cases hx : listed.getD p false with
     | true => rfl
     | false =>
      exfalso
      obtain ⟨e,he,he2⟩ := (hcov p (hp.pre _ hlt p hpp)).1 hx
      rcases List.mem_cons.1 he with rfl | he
      ·apply (hp.one e List.mem_cons_self).1
       rw [List.contains_iff_mem,]
       rw [he2]; rw [he2] at hpp; exact hpp
      ·have := (List.pairwise_cons.1 hp.pair).1 e he
       simp only [pairOk,Bool.and_eq_true,Bool.not_eq_true'] at this
       have h3 := this.1.1.2
       rw [he2] at h3
       have h4 : (preAt ops d.i).contains p = true := List.contains_iff_mem.2 hpp
       rw [h4] at h3; simp at h3
    rw [hnil] at this
    simp at this
  ·obtain ⟨hlt,h2,h3⟩ := ready_spec hi
   rw [getD_dflt (by omega) (d' := false)] at h2
   obtain ⟨x,hx,hxi⟩ := (hcov i hlt).1 h2
   obtain ⟨A,B,rfl⟩ := List.append_of_mem hx
   have hpair := hp.pair
   rw [List.pairwise_append] at hpair
   obtain ⟨hpA,hpB,hpAB⟩ := hpair
   have hswap : ∀ b ∈ A,SwapOk b x ∨ SwapNew b x := fun b hb => by
    have hk := hpAB b hb x List.mem_cons_self
    simp only [pairOk,Bool.and_eq_true,Bool.or_eq_true,Bool.not_eq_true',bne_iff_ne,ne_eq] at hk
    obtain ⟨⟨⟨k1,k2⟩,_⟩,k5⟩ := hk
    obtain ⟨ob,hob,_⟩ := hp.res b (List.mem_append_left _ hb)
    have hblt : b.i < ops.size := (Array.getElem?_eq_some_iff.1 hob).1
    rcases k5 with (k5 | ⟨⟨⟨⟨⟨⟨⟨⟨⟨n1,n2⟩,n3⟩,n4⟩,n5⟩,n6⟩,n7⟩,n8⟩,n9⟩,n10⟩) | ⟨⟨⟨⟨⟨k3,k4⟩,k6⟩,k7⟩,k8⟩,k9⟩
    ·exfalso
     have := anc_listed hp.ancH hcl i hlt h3 b.i hblt (by rw [hxi] at k5; exact k5)
     rw [(hcov b.i hblt).2 ⟨b,List.mem_append_left _ hb,rfl⟩] at this
     simp at this
    ·exact .inr ⟨n1,⟨n2,n3⟩,Option.isNone_iff_eq_none.1 n4,n6,n7,n8,n5,List.isEmpty_iff.1 n9,fun _ => ⟨n7,n8⟩⟩
    ·obtain ⟨u1,u2,u3⟩ := hp.one b (List.mem_append_left _ hb)
     exact .inl ⟨k6,k7,k3,k4,k8,fun e1 e2 => by
      rcases k9 with (h | h) | h
      ·exact absurd e1 h
      ·exact absurd e2 h
      ·exact ⟨h.1,List.contains_iff_mem.1 h.2⟩,u2,u3 k6⟩
   have hfront := frontD A [] σ H hswap (fun _ _ _ hb => by simp at hb) (fun _ hb => by simp at hb) (fun b hb hr => by
    have hk := hpAB b hb x List.mem_cons_self
    simp only [pairOk,Bool.and_eq_true,Bool.or_eq_true,bne_iff_ne,ne_eq] at hk
    rcases hk.1.2 with h | h
    ·exact absurd hr h
    ·exact h) (hpA.imp fun {b c} hk => by
    simp only [pairOk,Bool.and_eq_true,Bool.or_eq_true,bne_iff_ne,ne_eq] at hk
    intro hr
    rcases hk.1.2 with h | h
    ·exact absurd hr h
    ·exact h) h
   simp only [runD] at hfront
   obtain ⟨⟨σ1,H1⟩,q1,q2⟩ := Option.bind_eq_some_iff.1 hfront
   simp only at q2
   split at q2
   rotate_left
   ·simp at q2
   rename_i _
   obtain ⟨o,ho,hro⟩ := hp.res x hx
   rw [hxi] at ho
   refine stepA_sound hC ho hro q1 hs hh fun a1 w1 hr => ?_
   obtain ⟨g1,z1,z2,z3,z4,z5⟩ := hr
   have hsub : ∀ d,d ∈ A ++ B → d ∈ A ++ x :: B := fun d hd => by
    rcases List.mem_append.1 hd with h | h
    ·exact List.mem_append_left _ h
    ·exact List.mem_append_right _ (List.mem_cons_of_mem _ h)
   refine ih (A ++ B) _ σ1 H1 g1 w1 a1 σ' H' ?_ ?_ (by simpa using hsz) ?_ ?_ (runD_acc _ _ _ _ _ (fun b hb => by simp at hb) q2) z1 z2 fun a' w' hr => hQ a' w' ?_
   ·simp at hm ⊢; omega
   ·refine ⟨hp.pre,hp.ancH,fun d hd => hp.one d (hsub d hd),fun d hd => hp.res d (hsub d hd),?_⟩
    rw [List.pairwise_append]
    exact ⟨hpA,(List.pairwise_cons.1 hpB).2,fun b hb c hc => hpAB b hb c (List.mem_cons_of_mem _ hc)⟩
   ·intro j hj
    rw [getD_set (by omega)]
    constructor
    ·intro hjl
     split at hjl
     ·simp at hjl
     ·rename_i hne
      obtain ⟨d,hd,hdi⟩ := (hcov j hj).1 hjl
      refine ⟨d,?_,hdi⟩
      rcases List.mem_append.1 hd with h | h
      ·exact List.mem_append_left _ h
      ·rcases List.mem_cons.1 h with rfl | h
       ·exact absurd (hxi.symm.trans hdi) hne
       ·exact List.mem_append_right _ h
    ·rintro ⟨d,hd,rfl⟩
     have hne : i ≠ d.i := by
      intro e
      have key : ∀ b c : DOp,pairOk ops anc b c = true → b.i ≠ c.i := fun b c hk => by
       simp only [pairOk,Bool.and_eq_true,bne_iff_ne,ne_eq] at hk
       exact hk.1.1.1
      rcases List.mem_append.1 hd with h | h
      ·exact key d x (hpAB d h x List.mem_cons_self) (by rw [hxi,e])
      ·exact key x d ((List.pairwise_cons.1 hpB).1 d h) (by rw [hxi,e])
     rw [if_neg hne]
     exact (hcov d.i hj).2 ⟨d,hsub d hd,rfl⟩
   ·intro j hj p hpj
    rw [getD_set (by omega)] at hj ⊢
    split
    ·rfl
    ·split at hj
     ·rename_i e
      rw [← e] at hpj
      exact h3 p hpj
     ·exact hcl j hj p hpj
   ·have := Reach.trans (σ1 := σ1) (a1 := a1) z3 z4 hr
    exact z5 ▸ this
theorem keeps_same {g : G} {H : Heap} {w w' : World} (h : w'.heap = w.heap) : Keeps g H w g H w' where
 addr := fun r k b o ha => ⟨o,⟨ha.at_,ha.isRow,ha.le,ha.fixed,ha.top,fun e => ⟨by rw [h]; exact (ha.far e).1,(ha.far e).2⟩,fun h1 j hj => by
  have e : ∀ b : Nat,w'.heap[b]? = w.heap[b]? := fun b => by rw [h]
  rw [cellAt_blk (e b),cellAt_blk (e _)]; exact ha.same h1 j hj⟩,fun e => ⟨e,by rw [bsz_blk (by rw [h])]; exact Nat.le_refl _⟩⟩
 lone := fun b hb => ⟨⟨by rw [h]; exact hb.1,hb.2⟩,by rw [h]⟩
theorem drawList_o {ops : Array Oper} {sos : List SOpG} {anc : List Nat} : ∀ (l bef : List Nat) (d : DOp),d ∈ drawList ops sos anc bef l → ∀ so,sos[d.i]? = some so → d.o = so
 | [],_,d,h => by simp [drawList] at h
 | i :: l,bef,d,h => by
  simp only [drawList] at h
  rcases List.mem_cons.1 h with rfl | h
  ·intro so hso
   cases hi : sos[i]? with
   | some s => rw [hi] at hso; simp only at hso; rw [hi] at hso; exact Option.some.inj hso
   | none => rw [hi] at hso; simp only at hso; rw [hi] at hso; simp at hso
  ·exact drawList_o l _ d h
theorem mapM_get {α β : Type} {f : α → Option β} : ∀ {l : List α} {r : List β},l.mapM f = some r → ∀ (i : Nat) (x : α),l[i]? = some x → ∃ y,r[i]? = some y ∧ f x = some y
 | [],r,_,i,x,hx => by simp at hx
 | z :: l,r,h,i,x,hx => by
  rw [List.mapM_cons] at h
  simp only [Option.bind_eq_bind,Option.pure_def] at h
  obtain ⟨y,hy,h⟩ := Option.bind_eq_some_iff.1 h
  obtain ⟨ys,hys,h⟩ := Option.bind_eq_some_iff.1 h
  obtain rfl := Option.some.inj h
  cases i with
  | zero => simp at hx; subst hx; exact ⟨y,by simp,hy⟩
  | succ i => simpa using mapM_get hys i x (by simpa using hx)
theorem drawOk_plan {ann : Ann} {ops : Array Oper} {sos : List SOpG} {anc : List Nat} (hs : ops.toList.mapM (rOper P ann ops) = some sos) {bef l : List Nat} (h : drawOk ops anc (drawList ops sos anc bef l) = true) :
  Plan P ann ops anc (drawList ops sos anc bef l) ∧ (drawList ops sos anc bef l).length = ops.size ∧ ∀ i,i < ops.size → ∃ d ∈ drawList ops sos anc bef l,d.i = i := by
 simp only [drawOk,Bool.and_eq_true,List.all_eq_true,List.mem_range,beq_iff_eq,decide_eq_true_eq,Bool.or_eq_true,Bool.not_eq_true',List.any_eq_true] at h
 obtain ⟨⟨⟨⟨⟨h1,h2⟩,h3⟩,h4⟩,h5⟩,h6⟩ := h
 refine ⟨⟨h3,fun j hj b hb ht => ?_,fun d hd => ?_,fun d hd => ?_,allPairs_spec h6⟩,h1,fun i hi => ?_⟩
 ·rcases h4 j hj b hb with h | ⟨p,hp1,hp2,hp3⟩
  ·rw [h] at ht; simp at ht
  ·exact ⟨p,hp1,hp2,hp3⟩
 ·obtain ⟨⟨⟨_,q1⟩,q2⟩,q3⟩ := h5 d hd
  refine ⟨by simp only [q1]; simp,q2,fun hc => ?_⟩
  rcases q3 with h | h
  ·exact absurd h hc
  ·simpa using h
 ·obtain ⟨⟨⟨q0,_⟩,_⟩,_⟩ := h5 d hd
  obtain ⟨y,hy,hy2⟩ := mapM_get hs d.i ops[d.i] (by simp [q0])
  rw [drawList_o l bef d hd y hy]
  exact ⟨ops[d.i],Array.getElem?_eq_getElem q0,hy2⟩
 ·exact h2 i hi
theorem drawn_sound {C : Oracle} (hC : SoundO P C) (hm : P.follows .mixedOrders = true) {ann : Ann} {ops : Array Oper} {sos : List SOpG} {anc : List Nat} (hso : ops.toList.mapM (rOper P ann ops) = some sos) {bef l : List Nat} (h : drawOk ops anc (drawList ops sos anc bef l) = true)
  {id : Nat} {Q : Exit → Act → World → Prop} {σ' : List AV} {H' : Heap} (hr : runD C [] (drawList ops sos anc bef l) σ H = some (σ',H')) (hs : StR L0 g H w σ a.tmps none) (hh : HeapR g H w)
  (hQ : ∀ a' w',Reach L0 g H w a.defers σ' H' a' w' → Q .normal a' w') : (Code.region id ops true).wp P Q a w := by
 obtain ⟨hp,hlen,hcov⟩ := drawOk_plan hso h
 refine wp_region_any hm ?_
 have hk : Keeps g H w g H { w with drawn := w.drawn + 1 } := keeps_same rfl
 have hs1 : StR L0 g H { w with drawn := w.drawn + 1 } σ a.tmps none := by
  refine ⟨hs.len,fun d x hx hd => ?_,hs.sep,hs.own,hs.outer⟩
  obtain ⟨v,hv,hsv⟩ := hs.slot d x hx hd
  refine ⟨v,hv,?_⟩
  by_cases hl : ∃ xs,x = .lbox xs
  ·obtain ⟨xs,rfl⟩ := hl
   obtain ⟨q1,c,e,fr,q2⟩ := hsv
   exact ⟨q1,c,e,fr,q2.keeps hk rfl⟩
  ·obtain ⟨q1,q2⟩ := hsv.out (fun xs e => hl ⟨xs,e⟩)
   refine SV.of_vr ?_ q2
   rcases q2 with q2 | q2
   ·exact vr_keeps hk _ _ q2 q1
   ·cases x <;> first | (simp [AV.isL] at q2; done) | (simp only [VR] at q1 ⊢; exact q1)
 have hh1 : HeapR g H { w with drawn := w.drawn + 1 } := ⟨hh.inj,hh.lt,hh.nloc,hh.bsz0,hh.n0,hh.new,hh.locb,fun r o q1 q2 => by
  obtain ⟨z1,z2,c,e,fr,z3⟩ := hh.row r o q1 q2
  exact ⟨z1,z2,c,e,fr,z3.keeps hk rfl⟩⟩
 have hx1 : Ext g H w g H { w with drawn := w.drawn + 1 } := ⟨rfl,Nat.le_refl _,rfl,rfl,rfl,Nat.le_refl _,fun _ _ => rfl,fun _ h => h,fun _ h => .inl h,fun x v hf hv => vr_keeps hk x v hf hv⟩
 have hrep : ∀ i,(Array.replicate ops.size false).getD i false = false := fun i => by
  simp only [Array.getD_eq_getD_getElem?,Array.getElem?_replicate]
  split <;> rfl
 refine drawn_any hC ops.size _ _ σ H g _ a σ' H' hlen hp (by simp) (fun i hi => ⟨fun _ => hcov i hi,fun _ => hrep i⟩) (fun j hj => by rw [hrep] at hj; simp at hj) hr hs1 hh1 fun a' w' hr => hQ a' w' ?_
 exact Reach.trans (σ1 := σ) (a1 := a) hx1 (fun _ _ => rfl) hr
end
end Go.A
