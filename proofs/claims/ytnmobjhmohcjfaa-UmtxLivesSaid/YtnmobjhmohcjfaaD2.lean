/- THE ABSTRACT MACHINE: two operations change places. -/
import Derived.Test.YtnmobjhmohcjfaaD1
set_option linter.unusedSimpArgs false
set_option linter.unusedVariables false
set_option linter.unnecessarySimpa false
namespace Go.A
open Go
section
variable {C : Oracle} {σ σ' : List AV} {H H' : Heap}
theorem eqV_eq : ∀ {a b : Value},eqV a b = true → a = b := by
 intro a b h
 cases a <;> cases b <;> simp only [eqV,Bool.and_eq_true,decide_eq_true_eq,Bool.false_eq_true] at h <;> try rfl
 case bool.bool => rw [h]
 case int.int => rw [h.1,h.2]
 case float.float => rw [h.1,h.2]
 case complex.complex => rw [h.1.1,h.1.2,h.2]
 case string.string x y =>
  have : x = y := by
   obtain ⟨x⟩ := x; obtain ⟨y⟩ := y
   simp only [ByteArray.mk.injEq]
   exact Array.toList_inj.1 h
  rw [this]
 case pointer.pointer => rw [h]
 case slice.slice => rw [h.1.1,h.1.2,h.2]
 case map.map => rw [h]
mutual
theorem eqAV_eq : ∀ {a b : AV},eqAV a b = true → a = b
 | .undef,b,h => by cases b <;> simp_all [eqAV]
 | .c x,b,h => by cases b <;> simp_all [eqAV]; exact eqV_eq h
 | .ptr r i g,b,h => by cases b <;> simp_all [eqAV]
 | .sl ..,b,h => by cases b <;> simp_all [eqAV]
 | .lptr ..,b,h => by cases b <;> simp_all [eqAV]
 | .lbox ..,b,h => by cases b <;> simp_all [eqAV]
 | .map ..,b,h => by cases b <;> simp_all [eqAV]
 | .agg x,b,h => by cases b <;> simp_all [eqAV]; exact eqAVs_eq h
 | .tup x,b,h => by cases b <;> simp_all [eqAV]; exact eqAVs_eq h
 | .fn f x,b,h => by cases b <;> simp_all [eqAV]; exact eqAVs_eq h.2
 | .iface t x,b,h => by cases b <;> simp_all [eqAV]; exact eqAV_eq h.2
theorem eqAVs_eq : ∀ {a b : List AV},eqAVs a b = true → a = b
 | [],b,h => by cases b <;> simp_all [eqAVs]
 | x :: r,b,h => by
  cases b with
  | nil => simp [eqAVs] at h
  | cons y q =>
   simp only [eqAVs,Bool.and_eq_true] at h
   rw [eqAV_eq h.1,eqAVs_eq h.2]
end
theorem sameB_iff {x : SOpG} : sameB σ H x = true ↔ Same σ H x := by
 unfold sameB Same
 by_cases hr : x.op.cls = .read
 ·simp only [hr,ne_eq,not_true,decide_false,Bool.false_or,true_implies]
  cases hd : x.dst with
  | none => simp
  | some d =>
   simp only [Option.some.injEq,forall_eq']
   cases hw : wanted σ x.guard with
   | none => simp
   | some b =>
    cases b with
    | false => simp
    | true =>
     simp only [true_implies]
     cases h1 : rdv x.op σ H with
     | none => simp
     | some v =>
      cases h2 : σ[d]? with
      | none => simp
      | some u =>
       simp only [Option.some.injEq]
       constructor
       ·intro h
        have := eqAV_eq h
        subst this
        exact ⟨v,rfl,rfl,h⟩
       ·rintro ⟨z,rfl,rfl,h⟩
        exact h
 ·simp [hr]
theorem all_same {acc : List DOp} {un : List Nat} : (acc.all fun x => !un.contains x.i || sameB σ H x.o) = true ↔ ∀ x ∈ acc,x.i ∈ un → Same σ H x.o := by
 simp only [List.all_eq_true,Bool.or_eq_true,Bool.not_eq_true',sameB_iff]
 constructor
 ·intro h x hx hu
  rcases h x hx with h | h
  ·have := List.contains_iff_mem.2 hu
   rw [this] at h; simp at h
  ·exact h
 ·intro h x hx
  by_cases hu : x.i ∈ un
  ·exact .inr (h x hx hu)
  ·left
   cases hc : un.contains x.i with
   | false => rfl
   | true => exact absurd (List.contains_iff_mem.1 hc) hu
theorem Like.op {o : SOpG} (h : Like o.reads σ σ') : Like o.op.slots σ σ' := fun n hn => h n (List.mem_append_left _ hn)
theorem stepA_N {a : SOpG} {σ1 : List AV} {H1 : Heap} (hc : a.op.cls ≠ .eff) (h : stepA C a σ H = some (σ1,H1)) : ∃ va,va.isBox = false ∧ σ1 = setD σ a.dst va ∧ H1 = H ∧ dstBox σ a.dst = false ∧
  (a.op.cls = .read → wanted σ a.guard = some true → rdv a.op σ H = some va) ∧
  ∀ σ' H',Like a.reads σ σ' → dstBox σ' a.dst = false → (a.op.cls = .read → wanted σ a.guard = some true → rdv a.op σ' H' = some va) → stepA C a σ' H' = some (setD σ' a.dst va,H') := by
 unfold stepA at h
 split at h
 ·simp at h
 ·rename_i hb
  have hb' : dstBox σ a.dst = false := by simpa [hc] using hb
  split at h
  ·rename_i hw
   obtain ⟨⟨v,s,G⟩,h1,h2⟩ := Option.bind_eq_some_iff.1 h
   simp only at h2
   split at h2
   ·simp at h2
   ·rename_i hv
    simp only [Option.some.injEq,Prod.mk.injEq] at h2
    obtain ⟨rfl,rfl⟩ := h2
    have hv' : v.isBox = false := by simpa [hc] using hv
    by_cases hp : a.op.cls = .pure
    ·obtain ⟨rfl,rfl,_⟩ := opA_pure (C' := C) (H' := H) hp (fun n _ => rfl : Like a.op.slots σ σ) h1
     refine ⟨v,hv',rfl,rfl,hb',?_,fun σ' H' hl hb2 _ => ?_⟩
     ·intro he; rw [hp] at he; simp at he
     ·obtain ⟨_,_,h3⟩ := opA_pure (C' := C) (H' := H') hp hl.op h1
      simp only [stepA,hb2,hl.wanted,hw,h3,Option.bind_some,hv',Bool.false_eq_true,and_false,false_and,if_false]
    ·have hr : a.op.cls = .read := by cases hx : a.op.cls <;> simp_all
     rw [opA_rd hr] at h1
     obtain ⟨z,h3,h4⟩ := mapEq h1
     simp only [Prod.mk.injEq] at h4
     obtain ⟨rfl,rfl,rfl⟩ := h4
     refine ⟨z,hv',rfl,rfl,hb',fun _ _ => h3,fun σ' H' hl hb2 hk => ?_⟩
     have := hk hr hw
     simp only [stepA,hb2,hl.wanted,hw,opA_rd hr,this,Option.map_some,Option.bind_some,hv',Bool.false_eq_true,and_false,false_and,if_false]
  ·rename_i hw
   simp only [Option.some.injEq,Prod.mk.injEq] at h
   obtain ⟨rfl,rfl⟩ := h
   refine ⟨.tup [],rfl,rfl,rfl,hb',fun _ hw2 => by rw [hw] at hw2; simp at hw2,fun σ' H' hl hb2 _ => ?_⟩
   simp only [stepA,hb2,hl.wanted,hw,Bool.false_eq_true,and_false,if_false]
  ·simp at h
theorem BoxEq.getD {da n : Nat} {σi : List AV} (h : BoxEq da σ σi) : (σi.getD n .undef).isBox = (σ.getD n .undef).isBox := by
 rcases h with rfl | ⟨e,xs,ys,_,h2,rfl⟩
 ·rfl
 ·by_cases he : e = n
  ·subst he
   have hl : e < σ.length := by
    by_cases hl : e < σ.length
    ·exact hl
    ·rw [List.getD_eq_getElem?_getD,List.getElem?_eq_none (by omega)] at h2
     simp at h2
   rw [h2]
   simp [List.getD_eq_getElem?_getD,List.getElem?_set_self hl,AV.isBox]
  ·rw [getD_set_ne he]
theorem stepA_under {i : SOpG} {da : Nat} {va : AV} {σ2 : List AV} {H2 : Heap} (hn : i.op.noL = true) (hv : va.isBox = false) (hl : da ∉ i.reads) (hd : i.dst ≠ some da) (h : stepA C i (σ.set da va) H = some (σ2,H2)) :
  ∃ σi vi,stepA C i σ H = some (setD σi i.dst vi,H2) ∧ σ2 = setD (σi.set da va) i.dst vi ∧ BoxEq da σ σi := by
 have hlk : Like i.reads (σ.set da va) σ := fun n hn => ((like_set hl) n hn).symm
 have hbx : dstBox (σ.set da va) i.dst = dstBox σ i.dst := by
  cases hi : i.dst with
  | none => rfl
  | some d =>
   simp only [dstBox]
   rw [getD_set_ne (fun e => hd (by rw [hi,e]))]
 unfold stepA at h
 rw [hbx] at h
 split at h
 ·simp at h
 ·rename_i hb
  split at h
  ·rename_i hw
   obtain ⟨⟨v,s,G⟩,h1,h2⟩ := Option.bind_eq_some_iff.1 h
   simp only at h2
   split at h2
   ·simp at h2
   ·rename_i hv2
    simp only [Option.some.injEq,Prod.mk.injEq] at h2
    obtain ⟨rfl,rfl⟩ := h2
    obtain ⟨σi,h3,h4,h5⟩ := opA_under hv hn (fun hm => hl (List.mem_append_left _ hm)) h1
    refine ⟨σi,v,?_,by rw [h4],h5⟩
    simp only [stepA]
    rw [if_neg hb,hlk.wanted,hw]
    simp only [h3,Option.bind_some]
    rw [if_neg hv2]
  ·rename_i hw
   simp only [Option.some.injEq,Prod.mk.injEq] at h
   obtain ⟨rfl,rfl⟩ := h
   refine ⟨σ,.tup [],?_,rfl,.inl rfl⟩
   simp only [stepA]
   rw [if_neg hb,hlk.wanted,hw]
  ·simp at h
theorem same_under {x : SOpG} {d : Nat} {va : AV} (hv : va.isBox = false) (hl : d ∉ x.reads) (hd : x.dst ≠ some d) (h : Same (σ.set d va) H x) : Same σ H x := by
 have hlk : Like x.reads (σ.set d va) σ := fun n hn => ((like_set hl) n hn).symm
 intro hr e he hw
 obtain ⟨v,h1,h3,h4⟩ := h hr e he (by rw [← hlk.wanted]; exact hw)
 rw [List.getElem?_set_ne (fun e2 => hd (by rw [he,e2]))] at h3
 exact ⟨v,rdv_under hv (fun hm => hl (List.mem_append_left _ hm)) h1,h3,h4⟩
theorem dstNot_spec {d : Option Nat} {l : List Nat} (h : dstNot d l = true) {n : Nat} (e : d = some n) : n ∉ l := by
 subst e
 simpa [dstNot] using h
theorem dstNe_spec {d e : Option Nat} (h : dstNe d e = true) {n : Nat} (x : d = some n) : e ≠ some n := by
 subst x
 simp [dstNe] at h
 exact fun y => h y.symm
theorem setD_comm {d e : Option Nat} {v u : AV} (h : ∀ n,d = some n → e ≠ some n) : setD (setD σ d v) e u = setD (setD σ e u) d v := by
 cases d with
 | none => rfl
 | some n =>
  cases e with
  | none => rfl
  | some m => exact List.set_comm _ _ (fun x => h n rfl (by rw [x]))
theorem like_setD {d : Option Nat} {v : AV} {l : List Nat} (h : dstNot d l = true) : Like l σ (setD σ d v) := by
 cases d with
 | none => exact fun _ _ => rfl
 | some d => exact like_set (dstNot_spec h rfl)
theorem BoxEq.like {da : Nat} {σi : List AV} {l : List Nat} (h : BoxEq da σ σi) : Like l σ σi := fun n _ => h.eval (.t n)
theorem Like.trans {l : List Nat} {σ'' : List AV} (h : Like l σ σ') (k : Like l σ' σ'') : Like l σ σ'' := fun n hn => (k n hn).trans (h n hn)
theorem fresh (l : List Nat) (k : Nat) : ∃ n,k ≤ n ∧ n ∉ l := by
 have : ∃ n,k ≤ n ∧ ∀ m ∈ l,m < n := by
  induction l with
  | nil => exact ⟨k,Nat.le_refl _,by simp⟩
  | cons x l ih =>
   obtain ⟨n,h1,h2⟩ := ih
   refine ⟨max n (x + 1),by omega,fun m hm => ?_⟩
   rcases List.mem_cons.1 hm with rfl | hm
   ·omega
   ·have := h2 m hm; omega
 obtain ⟨n,h1,h2⟩ := this
 exact ⟨n,h1,fun h => absurd (h2 n h) (Nat.lt_irrefl _)⟩
theorem BoxEq.length {da : Nat} {σi : List AV} (h : BoxEq da σ σi) : σi.length = σ.length := by
 rcases h with rfl | ⟨e,xs,ys,_,h2,rfl⟩
 ·rfl
 ·simp
theorem length_setD {d : Option Nat} {v : AV} : (setD σ d v).length = σ.length := by cases d <;> simp [setD]
theorem dstBox_setD {d e : Option Nat} {v : AV} (h : ∀ n,e = some n → d ≠ some n) : dstBox (setD σ d v) e = dstBox σ e := by
 cases e with
 | none => rfl
 | some n =>
  cases d with
  | none => rfl
  | some m =>
   simp only [dstBox,setD]
   rw [getD_set_ne (fun x => h n rfl (by rw [x]))]
theorem step_swap {a x : SOpG} {σ1 σ2 : List AV} {H1 H2 : Heap} {H : Heap} (hc : a.op.cls ≠ .eff) (hn : x.op.noL = true) (h1 : dstNot x.dst a.reads = true) (h2 : dstNe a.dst x.dst = true) (h3 : dstNot a.dst x.reads = true)
  (h4 : a.op.cls = .read → x.op.cls = .eff → a.dst.isSome = true ∧ Same σ2 H2 a) (h5 : dstNot a.dst a.reads = true)
  (ha : stepA C a σ H = some (σ1,H1)) (hx : stepA C x σ1 H1 = some (σ2,H2)) :
  ∃ σ3,stepA C x σ H = some (σ3,H2) ∧ stepA C a σ3 H2 = some (σ2,H2) ∧ (∀ y : SOpG,(y.op.cls = .read → dstNot a.dst y.reads = true ∧ dstNe y.dst a.dst = true) → Same σ2 H2 y → Same σ3 H2 y) ∧ dstL σ3 a.dst = dstL σ a.dst := by
 obtain ⟨va,hva,rfl,rfl,hbx,hld,hre⟩ := stepA_N hc ha
 have hne : ∀ n,a.dst = some n → x.dst ≠ some n := fun n e => dstNe_spec h2 e
 have hda : ∃ da,da ∉ x.reads ∧ x.dst ≠ some da ∧ (∀ τ : List AV,τ.length = σ.length → setD τ a.dst va = τ.set da va) ∧ ((a.dst = some da) ∨ (a.dst = none ∧ σ.length ≤ da)) := by
  cases hd : a.dst with
  | some da => exact ⟨da,dstNot_spec h3 hd,hne da hd,fun _ _ => rfl,.inl rfl⟩
  | none =>
   obtain ⟨n,hn1,hn2⟩ := fresh (x.dst.toList ++ x.reads) σ.length
   refine ⟨n,fun h => hn2 (List.mem_append_right _ h),fun h => hn2 (List.mem_append_left _ (by simp [h])),fun τ hτ => ?_,.inr ⟨rfl,hn1⟩⟩
   simp only [setD]
   rw [List.set_eq_of_length_le (by omega)]
 obtain ⟨da,hd1,hd2,hd3,hd4⟩ := hda
 rw [hd3 σ rfl] at hx
 obtain ⟨σi,vi,hxi,rfl,hbe⟩ := stepA_under hn hva hd1 hd2 hx
 have hli : σi.length = σ.length := hbe.length
 have hcomm : setD (σi.set da va) x.dst vi = setD (setD σi x.dst vi) a.dst va := by
  rw [← hd3 σi hli]
  exact setD_comm hne
 have hlk : Like a.reads σ (setD σi x.dst vi) := hbe.like.trans (like_setD h1)
 refine ⟨setD σi x.dst vi,hxi,?_,fun y hy hs => ?_,?_⟩
 rotate_left 2
 ·cases hd : a.dst with
  | none => rfl
  | some n =>
   simp only [dstL]
   have e1 : (setD σi x.dst vi).getD n .undef = σi.getD n .undef := by
    cases hq : x.dst with
    | none => rfl
    | some m => simp only [setD]; exact getD_set_ne (fun e => hne n hd (by rw [hq,e]))
   rw [e1]
   rcases hbe with rfl | ⟨e,xs,ys,_,he,rfl⟩
   ·rfl
   ·by_cases hen : e = n
    ·subst hen
     have hl : e < σ.length := by
      by_cases hl : e < σ.length
      ·exact hl
      ·rw [List.getD_eq_getElem?_getD,List.getElem?_eq_none (by omega)] at he
       simp at he
     rw [he]
     simp [List.getD_eq_getElem?_getD,List.getElem?_set_self hl,AV.isLp]
    ·rw [getD_set_ne hen]
 ·rw [hcomm]
  refine hre _ _ hlk ?_ ?_
  ·rw [dstBox_setD (fun n e => hne n e)]
   cases hd : a.dst with
   | none => rfl
   | some n =>
    rw [hd] at hbx
    simp only [dstBox] at hbx ⊢
    rw [hbe.getD]; exact hbx
  ·intro hr hw
   by_cases hxe : x.op.cls = .eff
   ·obtain ⟨hsm,hs⟩ := h4 hr hxe
    rcases hd4 with hd4 | ⟨hd4,_⟩
    ·have hlk2 : Like a.reads σ (setD (σi.set da va) x.dst vi) := by
      rw [hcomm]
      exact hlk.trans (like_setD h5)
     obtain ⟨v,q1,q2,_⟩ := hs hr da hd4 (by rw [hlk2.wanted]; exact hw)
     have hlt : da < σi.length := by
      have := (List.getElem?_eq_some_iff.1 q2).1
      rw [length_setD,List.length_set] at this
      exact this
     have hv : v = va := by
      rw [hcomm,hd4] at q2
      simp only [setD] at q2
      rw [List.getElem?_set_self (by rw [← hd4] at *; show da < (setD σi x.dst vi).length; rw [length_setD]; exact hlt)] at q2
      exact (Option.some.inj q2).symm
     subst hv
     rw [hcomm,hd4] at q1
     exact rdv_under hva (fun hm => dstNot_spec h5 hd4 (List.mem_append_left _ hm)) q1
    ·rw [hd4] at hsm; simp at hsm
   ·
    obtain ⟨vx,hvx,e1,rfl,hbx2,_,_⟩ := stepA_N hxe hxi
    rw [e1]
    have h0 := hld hr hw
    cases hxd : x.dst with
    | none => exact h0
    | some dx =>
     rw [hxd] at hbx2
     exact rdv_over (fun hm => dstNot_spec h1 hxd (List.mem_append_left _ hm)) hbx2 h0
 ·by_cases hyr : y.op.cls = .read
  ·obtain ⟨hy1,hy2⟩ := hy hyr
   rw [hcomm] at hs
   rcases hd4 with hd4 | ⟨hd4,_⟩
   ·rw [hd4] at hs hy1 hy2
    exact same_under hva (dstNot_spec hy1 rfl) (fun e => by
     have := dstNe_spec hy2 e
     exact this rfl) hs
   ·rw [hd4] at hs; exact hs
  ·exact fun h => absurd h hyr
theorem runD_acc : ∀ (L acc acc' : List DOp) (σ : List AV) (H : Heap) {y : List AV × Heap},(∀ x ∈ acc',x ∈ acc) → runD C acc L σ H = some y → runD C acc' L σ H = some y
 | [],_,_,_,_,_,_,h => h
 | d :: L,acc,acc',σ,H,y,hs,h => by
  simp only [runD] at h ⊢
  obtain ⟨⟨σ1,H1⟩,h1,h2⟩ := Option.bind_eq_some_iff.1 h
  refine Option.bind_eq_some_iff.2 ⟨(σ1,H1),h1,?_⟩
  simp only at h2 ⊢
  split at h2
  ·rename_i hc
   rw [if_pos ⟨all_same.2 fun x hx => all_same.1 hc.1 x (hs x hx),hc.2⟩]
   refine runD_acc L (d :: acc) (d :: acc') σ1 H1 (fun x hx => ?_) h2
   rcases List.mem_cons.1 hx with rfl | hx
   ·exact List.mem_cons_self
   ·exact List.mem_cons_of_mem _ (hs x hx)
  ·simp at h2
structure SwapOk (a x : DOp) : Prop where
 cls : a.o.op.cls ≠ .eff
 noL : x.o.op.noL = true
 ra : dstNot x.o.dst a.o.reads = true
 ne : dstNe a.o.dst x.o.dst = true
 rx : dstNot a.o.dst x.o.reads = true
 rd : a.o.op.cls = .read → x.o.op.cls = .eff → a.o.dst.isSome = true ∧ a.i ∈ x.un
 self : dstNot a.o.dst a.o.reads = true
 un : a.un = []
theorem noL_of_N {so : SOp} (h : so.cls ≠ .eff) : so.noL = true := by cases so <;> simp_all [SOp.noL,SOp.cls]
theorem badNew_noL {o : SOpG} (h : o.op.noL = true) (σ : List AV) : o.badNew σ = false := by
 unfold SOpG.badNew
 split
 ·rename_i e _; rw [e] at h; simp [SOp.noL] at h
 ·rfl
theorem okN_pre {x a : DOp} {va : AV} (hn : x.o.op.noL = true) (hne : ∀ n,a.o.dst = some n → x.o.dst ≠ some n) (h : okN x (setD σ a.o.dst va) = true) : okN x σ = true := by
 simp only [okN,badNew_noL hn,Bool.not_false,Bool.and_true,Bool.or_eq_true,Bool.not_eq_true'] at h ⊢
 refine h.imp id fun h => ?_
 cases hx : x.o.dst with
 | none => rfl
 | some n =>
  rw [hx] at h
  simp only [dstL] at h ⊢
  cases ha : a.o.dst with
  | none => rw [ha] at h; exact h
  | some m =>
   rw [ha] at h
   simp only [setD] at h
   rw [getD_set_ne (fun e => hne m ha (by rw [hx,e]))] at h
   exact h
theorem okN_post {a : DOp} {σ3 : List AV} (hn : a.o.op.noL = true) (hd : dstL σ3 a.o.dst = dstL σ a.o.dst) (h : okN a σ = true) : okN a σ3 = true := by
 simp only [okN,badNew_noL hn,Bool.not_false,Bool.and_true,hd] at h ⊢
 exact h
theorem swapD {acc B : List DOp} {a x : DOp} {H : Heap} {y : List AV × Heap} (hs : SwapOk a x) (hacc : ∀ b ∈ acc,b.o.op.cls = .read → dstNot a.o.dst b.o.reads = true ∧ dstNe b.o.dst a.o.dst = true) (h : runD C acc (a :: x :: B) σ H = some y) : runD C acc (x :: a :: B) σ H = some y := by
 simp only [runD] at h
 obtain ⟨⟨σ1,H1⟩,h1,h2⟩ := Option.bind_eq_some_iff.1 h
 simp only at h2
 split at h2
 ·rename_i hc0
  obtain ⟨⟨σ2,H2⟩,h3,h4⟩ := Option.bind_eq_some_iff.1 h2
  simp only at h4
  split at h4
  ·rename_i hc
   obtain ⟨_,_,e,rfl,_,_,_⟩ := stepA_N hs.cls h1
   obtain ⟨σ3,q1,q2,q3,q4⟩ := step_swap hs.cls hs.noL hs.ra hs.ne hs.rx (fun e1 e2 => ⟨(hs.rd e1 e2).1,all_same.1 hc.1 a List.mem_cons_self (hs.rd e1 e2).2⟩) hs.self h1 h3
   simp only [runD]
   refine Option.bind_eq_some_iff.2 ⟨(σ3,H2),q1,?_⟩
   simp only
   rw [if_pos ⟨all_same.2 fun b hb hb2 => q3 b.o (hacc b hb) (all_same.1 hc.1 b (List.mem_cons_of_mem _ hb) hb2),okN_pre hs.noL (fun n e => dstNe_spec hs.ne e) (by rw [← e]; exact hc.2)⟩]
   refine Option.bind_eq_some_iff.2 ⟨(σ2,H2),q2,?_⟩
   simp only
   rw [if_pos ⟨all_same.2 fun b _ hb2 => by rw [hs.un] at hb2; simp at hb2,okN_post (noL_of_N hs.cls) q4 hc0.2⟩]
   refine runD_acc B _ _ σ2 H2 (fun b hb => ?_) h4
   simp only [List.mem_cons] at hb ⊢
   rcases hb with h | h | h
   ·exact .inr (.inl h)
   ·exact .inl h
   ·exact .inr (.inr h)
  ·simp at h4
 ·simp at h2
structure SwapNew (a x : DOp) : Prop where
 new : x.o.op.isNew = true
 nl : x.nl = true ∧ a.nl = true
 guard : x.o.guard = none
 noL : a.o.op.noL = true
 ra : dstNot x.o.dst a.o.reads = true
 ne : dstNe a.o.dst x.o.dst = true
 some_ : x.o.dst.isSome = true
 un : x.un = []
 rd : a.o.op.cls = .read → dstNot x.o.dst a.o.reads = true ∧ dstNe a.o.dst x.o.dst = true
theorem any_isLd {d : Nat} : σ.any (AV.isLd d) = false ↔ ∀ n i,σ.getD n .undef ≠ .lptr d i := by
 rw [List.any_eq_false]
 constructor
 ·intro h n i e
  by_cases hl : n < σ.length
  ·refine h _ (List.getElem_mem hl) ?_
   rw [List.getD_eq_getElem?_getD,List.getElem?_eq_getElem hl] at e
   simp only [Option.getD_some] at e
   rw [e]; simp [AV.isLd]
  ·rw [List.getD_eq_getElem?_getD,List.getElem?_eq_none (by omega)] at e
   simp at e
 ·intro h v hv hc
  obtain ⟨n,hn,rfl⟩ := List.mem_iff_getElem.1 hv
  cases hq : σ[n] <;> rw [hq] at hc <;> simp [AV.isLd] at hc
  rename_i e i
  subst hc
  refine h n i ?_
  rw [List.getD_eq_getElem?_getD,List.getElem?_eq_getElem hn]
  exact hq
theorem map_forget {d : Nat} (h : σ.any (AV.isLd d) = false) : σ.map (forget d) = σ := by
 rw [List.any_eq_false] at h
 rw [List.map_congr_left (g := id),List.map_id]
 intro v hv
 have := h v hv
 cases v <;> simp only [forget,id]
 rename_i e i
 rw [if_neg (fun he => this (by simp [AV.isLd,he]))]
theorem swapN {acc B : List DOp} {a x : DOp} {H : Heap} {y : List AV × Heap} (hs : SwapNew a x) (hacc : ∀ b ∈ acc,b.o.op.cls = .read → dstNot x.o.dst b.o.reads = true ∧ dstNe b.o.dst x.o.dst = true) (h : runD C acc (a :: x :: B) σ H = some y) : runD C acc (x :: a :: B) σ H = some y := by
 obtain ⟨xi,⟨xd,xop,xg⟩,xun,xnl⟩ := x
 obtain ⟨hnew,⟨hnl,hnla⟩,hg,hno,hra,hne,hso,hun,hrd⟩ := hs
 simp only at hnew hnl hg hra hne hso hun hrd hacc
 subst hg hnl hun
 obtain ⟨d,rfl⟩ := Option.isSome_iff_exists.1 hso
 cases xop <;> simp only [SOp.isNew,reduceCtorEq,Bool.false_eq_true] at hnew
 rename_i zs
 simp only [runD] at h
 obtain ⟨⟨σ1,H1⟩,h1,h2⟩ := Option.bind_eq_some_iff.1 h
 simp only at h2
 split at h2
 ·rename_i hc0
  obtain ⟨⟨σ2,H2⟩,h3,h4⟩ := Option.bind_eq_some_iff.1 h2
  simp only at h4
  split at h4
  ·rename_i hc
   obtain ⟨_,hokx⟩ := hc
   obtain ⟨hc0,hoka⟩ := hc0
   simp only [okN,Bool.not_true,Bool.false_or,Bool.and_eq_true,Bool.not_eq_true',SOpG.badNew,Bool.or_eq_false_iff] at hokx
   obtain ⟨hx1,hx2,hx3⟩ := hokx
   have hstep : ∀ (τ : List AV) (G : Heap),τ.any (AV.isLd d) = false → stepA C ⟨some d,.lnew zs,none⟩ τ G = some (τ.set d (.lbox zs),G) := fun τ G hq => by
    simp only [stepA,SOp.cls,ne_eq,not_true_eq_false,false_and,if_false,wanted,opA,map_forget hq,Option.bind_some,and_false,setD]
   rw [hstep σ1 H1 hx3] at h3
   simp only [Option.some.injEq,Prod.mk.injEq] at h3
   obtain ⟨rfl,rfl⟩ := h3
   have hda : d ∉ a.o.reads := dstNot_spec hra rfl
   have hdd : a.o.dst ≠ some d := fun e => dstNe_spec hne e rfl
   have hset : ∀ τ : List AV,(τ.set d (.lbox zs)).set d (τ.getD d .undef) = τ := fun τ => by
    rw [List.set_set]
    apply List.ext_getElem?
    intro j
    rw [List.getElem?_set]
    split
    ·rename_i e; subst e
     split
     ·rename_i hl; rw [List.getD_eq_getElem?_getD,List.getElem?_eq_getElem hl]; rfl
     ·rename_i hl; rw [List.getElem?_eq_none (by omega)]
    ·rfl
   have hgo : ∃ σa va,σ1 = setD σa a.o.dst va ∧ (∀ n,(σa.getD n .undef).isBox = (σ.getD n .undef).isBox ∧ (σa.getD n .undef = σ.getD n .undef ∨ (σ.getD n .undef).isBox = true)) := by
    obtain ⟨n,hn1,hn2⟩ := fresh (a.o.dst.toList ++ a.o.reads) σ.length
    have e0 : σ = σ.set n .undef := (List.set_eq_of_length_le (by omega)).symm
    rw [e0] at h1
    obtain ⟨σi,vi,q1,q2,q3⟩ := stepA_under hno (by rfl) (fun h => hn2 (List.mem_append_right _ h)) (fun h => hn2 (List.mem_append_left _ (by simp [h]))) h1
    have q4 : σi.set n .undef = σi := List.set_eq_of_length_le (by rw [q3.length]; omega)
    rw [q4] at q2
    refine ⟨σi,vi,q2,fun m => ⟨q3.getD,?_⟩⟩
    rcases q3 with rfl | ⟨e,xs,ys,_,he,rfl⟩
    ·exact .inl rfl
    ·by_cases hem : e = m
     ·subst hem; right; rw [he]; rfl
     ·left; exact getD_set_ne hem
   obtain ⟨σa,va,rfl,hgo⟩ := hgo
   have hget : ∀ n,a.o.dst ≠ some n → (setD σa a.o.dst va).getD n .undef = σa.getD n .undef := fun n hn => by
    cases hq : a.o.dst with
    | none => rfl
    | some m => simp only [setD]; exact getD_set_ne (fun e => hn (by rw [hq,e]))
   have hbx0 : (σ.getD d .undef).isBox = false := by
    rw [← (hgo d).1,← hget d hdd]; exact hx2
   have hL0 : σ.any (AV.isLd d) = false := by
    rw [any_isLd] at hx3 ⊢
    intro n i e
    by_cases hn : a.o.dst = some n
    ·simp only [okN,hnla,Bool.not_true,Bool.false_or,Bool.and_eq_true,Bool.not_eq_true',hn,dstL,e] at hoka
     simp [AV.isLp] at hoka
    ·rcases (hgo n).2 with q | q
     ·exact hx3 n i (by rw [hget n hn,q,e])
     ·rw [e] at q; simp [AV.isBox] at q
   have hdl0 : (σ.getD d .undef).isLp = false := by
    have := hx1
    simp only [dstL] at this
    rw [hget d hdd] at this
    rcases (hgo d).2 with q | q
    ·rw [← q]; exact this
    ·rw [hbx0] at q; simp at q
   have h1' := h1
   rw [← hset σ] at h1'
   obtain ⟨σi,vi,q1,q2,q3⟩ := stepA_under hno hbx0 hda hdd h1'
   have hσi : σi.getD d .undef = (σ.set d (.lbox zs)).getD d .undef := by
    rcases q3 with rfl | ⟨e,xs,ys,hed,he,rfl⟩
    ·rfl
    ·exact getD_set_ne hed
   have hfin : setD σi a.o.dst vi = (setD σa a.o.dst va).set d (.lbox zs) := by
    rw [q2]
    have e1 : ((setD (σi.set d (σ.getD d .undef)) a.o.dst vi).set d (.lbox zs)) = setD ((σi.set d (σ.getD d .undef)).set d (.lbox zs)) a.o.dst vi := by
     cases hq : a.o.dst with
     | none => rfl
     | some m => simp only [setD]; exact List.set_comm _ _ (fun e => hdd (by rw [hq,e]))
    rw [e1,List.set_set]
    congr 1
    apply List.ext_getElem?
    intro j
    rw [List.getElem?_set]
    split
    ·rename_i e; subst e
     split
     ·rename_i hl
      rw [List.getD_eq_getElem?_getD,List.getElem?_eq_getElem hl,List.getD_eq_getElem?_getD,List.getElem?_set_self (by rw [q3.length,List.length_set] at hl; exact hl)] at hσi
      rw [List.getElem?_eq_getElem hl]
      exact congrArg some hσi
     ·rename_i hl; exact List.getElem?_eq_none (by omega)
    ·rfl
   rw [runD]
   refine Option.bind_eq_some_iff.2 ⟨(σ.set d (.lbox zs),H),hstep σ H hL0,?_⟩
   simp only
   rw [if_pos ⟨all_same.2 fun b _ hb2 => by simp at hb2,by simp only [okN,Bool.not_true,Bool.false_or,dstL,hdl0,SOpG.badNew,hbx0,hL0,Bool.or_self,Bool.not_false,Bool.and_self]⟩,runD]
   refine Option.bind_eq_some_iff.2 ⟨(setD σi a.o.dst vi,H1),q1,?_⟩
   simp only
   rw [if_pos]
   ·rw [hfin]
    refine runD_acc B _ _ _ H1 (fun b hb => ?_) h4
    simp only [List.mem_cons] at hb ⊢
    rcases hb with h | h | h
    ·exact .inr (.inl h)
    ·exact .inl h
    ·exact .inr (.inr h)
   ·refine ⟨all_same.2 fun b hb hb2 => ?_,?_⟩
    ·rcases List.mem_cons.1 hb with rfl | hb
     ·intro hr; simp [SOp.cls] at hr
     ·have hsm := all_same.1 hc0 b hb hb2
      rw [hfin]
      by_cases hr : b.o.op.cls = .read
      ·obtain ⟨c1,c2⟩ := hacc b hb hr
       have hbx1 : ((setD σa a.o.dst va).getD d .undef).isBox = false := hx2
       rw [← hset (setD σa a.o.dst va)] at hsm
       exact same_under hbx1 (dstNot_spec c1 rfl) (fun e => dstNe_spec c2 e rfl) hsm
      ·exact fun h => absurd h hr
    ·refine okN_post hno ?_ hoka
     cases hq : a.o.dst with
     | none => rfl
     | some m =>
      simp only [dstL]
      rw [getD_set_ne (fun e => hdd (by rw [hq,e]))]
  ·simp at h4
 ·simp at h2
theorem frontD {x : DOp} {B : List DOp} : ∀ (A acc : List DOp) (σ : List AV) (H : Heap) {y : List AV × Heap},(∀ a ∈ A,SwapOk a x ∨ SwapNew a x) → (∀ a ∈ A,∀ b ∈ acc,b.o.op.cls = .read → dstNot a.o.dst b.o.reads = true ∧ dstNe b.o.dst a.o.dst = true) → (∀ b ∈ acc,b.o.op.cls = .read → dstNot x.o.dst b.o.reads = true ∧ dstNe b.o.dst x.o.dst = true) → (∀ b ∈ A,b.o.op.cls = .read → dstNot x.o.dst b.o.reads = true ∧ dstNe b.o.dst x.o.dst = true) →
  A.Pairwise (fun b a => b.o.op.cls = .read → dstNot a.o.dst b.o.reads = true ∧ dstNe b.o.dst a.o.dst = true) → runD C acc (A ++ x :: B) σ H = some y → runD C acc (x :: (A ++ B)) σ H = some y
 | [],_,_,_,_,_,_,_,_,_,h => h
 | a :: A,acc,σ,H,y,h1,h2,h4,h5,h3,h => by
  suffices hsu : runD C acc (a :: x :: (A ++ B)) σ H = some y by
   rcases h1 a List.mem_cons_self with hw | hw
   ·exact swapD hw (h2 a List.mem_cons_self) hsu
   ·exact swapN hw h4 hsu
  rw [List.cons_append] at h
  rw [List.pairwise_cons] at h3
  simp only [runD] at h
  obtain ⟨⟨σ1,H1⟩,q1,q2⟩ := Option.bind_eq_some_iff.1 h
  simp only at q2
  split at q2
  ·rename_i hc
   have := frontD A (a :: acc) σ1 H1 (fun b hb => h1 b (List.mem_cons_of_mem _ hb)) (fun b hb c hc => by
    rcases List.mem_cons.1 hc with rfl | hc
    ·exact h3.1 b hb
    ·exact h2 b (List.mem_cons_of_mem _ hb) c hc) (fun c hc => by
    rcases List.mem_cons.1 hc with rfl | hc
    ·exact h5 c List.mem_cons_self
    ·exact h4 c hc) (fun c hc => h5 c (List.mem_cons_of_mem _ hc)) h3.2 q2
   rw [runD]
   refine Option.bind_eq_some_iff.2 ⟨(σ1,H1),q1,?_⟩
   simp only
   rw [if_pos hc]
   exact this
  ·simp at q2
end
end Go.A
