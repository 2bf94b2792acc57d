/- THE ABSTRACT MACHINE: two operations change places. -/
import Derived.Test.YtnmobjhmohcjfaaGreatD1
set_option linter.unusedSimpArgs false
set_option linter.unusedVariables false
set_option linter.unnecessarySimpa false
namespace Go.A
open Go
section
variable {C:aL} {σ σ':List AV} {H H':ae}
theorem PW:∀ {a b:Value},eqV a b=true→a=b:=by
 intro a b h
 cases a<;>cases b<;>simp only [eqV,Bool.and_eq_true,decide_eq_true_eq,Bool.false_eq_true] at h<;>try rfl
 case bool.bool=>rw [h]
 case int.int=>rw [h.1,h.2]
 case float.float=>rw [h.1,h.2]
 case complex.complex=>rw [h.1.1,h.1.2,h.2]
 case string.string x y =>
  have:x=y:=by
   obtain ⟨x⟩:=x;obtain ⟨y⟩:=y
   simp only [ByteArray.mk.injEq]
   exact Array.toList_inj.1 h
  rw [this]
 case pointer.pointer=>rw [h]
 case slice.slice=>rw [h.1.1,h.1.2,h.2]
 case map.map=>rw [h]
mutual
theorem rG:∀ {a b:AV},gF a b=true→a=b
 | .undef,b,h=>by cases b<;>simp_all [gF]
 | .c x,b,h=>by cases b<;>simp_all [gF];exact PW h
 | .ptr r i g,b,h=>by cases b<;>simp_all [gF]
 | .sl ..,b,h=>by cases b<;>simp_all [gF]
 | .lptr ..,b,h=>by cases b<;>simp_all [gF]
 | .lbox ..,b,h=>by cases b<;>simp_all [gF]
 | .map ..,b,h=>by cases b<;>simp_all [gF]
 | .agg x,b,h=>by cases b<;>simp_all [gF];exact oA h
 | .tup x,b,h=>by cases b<;>simp_all [gF];exact oA h
 | .fn f x,b,h=>by cases b<;>simp_all [gF];exact oA h.2
 | .iface t x,b,h=>by cases b<;>simp_all [gF];exact rG h.2
theorem oA:∀ {a b:List AV},lA a b=true→a=b
 | [],b,h=>by cases b<;>simp_all [lA]
 | x :: r,b,h=>by
  cases b with
  | nil=>simp [lA] at h
  | cons y q =>
   simp only [lA,Bool.and_eq_true] at h
   rw [rG h.1,oA h.2]
end
theorem sameB_iff {x:SOpG}:uT σ H x=true ↔ m9 σ H x:=by
 unfold uT m9
 by_cases hr:x.op.cls=.read
 ·simp only [hr,ne_eq,not_true,decide_false,Bool.false_or,true_implies]
  cases hd:x.dst with
  | none=>simp
  | some d =>
   simp only [zqs,forall_eq']
   cases hw:wanted σ x.guard with
   | none=>simp
   | some b =>
    cases b with
    | false=>simp
    | true =>
     simp only [true_implies]
     cases h1:rdv x.op σ H with
     | none=>simp
     | some v =>
      cases h2:σ[d]? with
      | none=>simp
      | some u =>
       simp only [zqs]
       constructor
       ·intro h
        have:=rG h
        subst this
        exact ⟨v,rfl,rfl,h⟩
       ·rintro ⟨z,rfl,rfl,h⟩
        exact h
 ·simp [hr]
theorem all_same {acc:List DOp} {un:List Nat}:(acc.all fun x=>!un.contains x.i || uT σ H x.o)=true ↔ ∀ x∈acc,x.i∈un→m9 σ H x.o:=by
 simp only [List.all_eq_true,Bool.or_eq_true,Bool.not_eq_true',sameB_iff]
 constructor
 ·intro h x hx hu
  rcases h x hx with h | h
  ·have:=List.contains_iff_mem.2 hu
   rw [this] at h;simp at h
  ·exact h
 ·intro h x hx
  by_cases hu:x.i∈un
  ·exact .inr (h x hx hu)
  ·left
   cases hc:un.contains x.i with
   | false=>rfl
   | true=>exact absurd (List.contains_iff_mem.1 hc) hu
theorem Like.op {o:SOpG} (h:Like o.reads σ σ'):Like o.op.slots σ σ':=fun n hn=>h n (List.mem_append_left _ hn)
theorem xd {a:SOpG} {σ1:List AV} {H1:ae} (hc:a.op.cls≠.eff) (h:cS C a σ H=some (σ1,H1)):∃ va,va.isBox=false∧σ1=cJ σ a.dst va∧H1=H∧dk σ a.dst=false ∧
  (a.op.cls=.read→wanted σ a.guard=some true→rdv a.op σ H=some va) ∧
  ∀ σ' H',Like a.reads σ σ'→dk σ' a.dst=false→(a.op.cls=.read→wanted σ a.guard=some true→rdv a.op σ' H'=some va)→cS C a σ' H'=some (cJ σ' a.dst va,H'):=by
 unfold cS at h
 split at h
 ·simp at h
 ·rename_i hb
  have hb':dk σ a.dst=false:=by simpa [hc] using hb
  split at h
  ·rename_i hw
   obtain ⟨⟨v,s,G⟩,h1,h2⟩:=zq3 h
   simp only at h2
   split at h2
   ·simp at h2
   ·rename_i hv
    simp only [zqs,zqp] at h2
    obtain ⟨rfl,rfl⟩:=h2
    have hv':v.isBox=false:=by simpa [hc] using hv
    by_cases hp:a.op.cls=.pure
    ·obtain ⟨rfl,rfl,_⟩:=rZ (C':=C) (H':=H) hp (fun n _=>rfl:Like a.op.slots σ σ) h1
     refine ⟨v,hv',rfl,rfl,hb',?_,fun σ' H' hl hb2 _=>?_⟩
     ·intro he;rw [hp] at he;simp at he
     ·obtain ⟨_,_,h3⟩:=rZ (C':=C) (H':=H') hp hl.op h1
      simp only [cS,hb2,hl.wanted,hw,h3,Option.bind_some,hv',Bool.false_eq_true,and_false,false_and,if_false]
    ·have hr:a.op.cls=.read:=by cases hx:a.op.cls<;>simp_all
     rw [Hz hr] at h1
     obtain ⟨z,h3,h4⟩:=qA h1
     simp only [zqp] at h4
     obtain ⟨rfl,rfl,rfl⟩:=h4
     refine ⟨z,hv',rfl,rfl,hb',fun _ _=>h3,fun σ' H' hl hb2 hk=>?_⟩
     have:=hk hr hw
     simp only [cS,hb2,hl.wanted,hw,Hz hr,this,Option.map_some,Option.bind_some,hv',Bool.false_eq_true,and_false,false_and,if_false]
  ·rename_i hw
   simp only [zqs,zqp] at h
   obtain ⟨rfl,rfl⟩:=h
   refine ⟨.tup [],rfl,rfl,rfl,hb',fun _ hw2=>by rw [hw] at hw2;simp at hw2,fun σ' H' hl hb2 _=>?_⟩
   simp only [cS,hb2,hl.wanted,hw,Bool.false_eq_true,and_false,if_false]
  ·simp at h
theorem BoxEq.getD {da n:Nat} {σi:List AV} (h:BoxEq da σ σi):(σi.getD n .undef).isBox=(σ.getD n .undef).isBox:=by
 rcases h with rfl | ⟨e,xs,ys,_,h2,rfl⟩
 ·rfl
 ·by_cases he:e=n
  ·subst he
   have hl:e<σ.length:=by
    by_cases hl:e<σ.length
    ·exact hl
    ·rw [List.getD_eq_getElem?_getD,List.getElem?_eq_none (by omega)] at h2
     simp at h2
   rw [h2]
   simp [List.getD_eq_getElem?_getD,List.getElem?_set_self hl,AV.isBox]
  ·rw [fX he]
theorem yC {i:SOpG} {da:Nat} {va:AV} {σ2:List AV} {H2:ae} (hn:i.op.noL=true) (hv:va.isBox=false) (hl:da ∉ i.reads) (hd:i.dst≠some da) (h:cS C i (σ.set da va) H=some (σ2,H2)) :
  ∃ σi vi,cS C i σ H=some (cJ σi i.dst vi,H2)∧σ2=cJ (σi.set da va) i.dst vi∧BoxEq da σ σi:=by
 have hlk:Like i.reads (σ.set da va) σ:=fun n hn=>((jR hl) n hn).symm
 have hbx:dk (σ.set da va) i.dst=dk σ i.dst:=by
  cases hi:i.dst with
  | none=>rfl
  | some d =>
   simp only [dk]
   rw [fX (fun e=>hd (by rw [hi,e]))]
 unfold cS at h
 rw [hbx] at h
 split at h
 ·simp at h
 ·rename_i hb
  split at h
  ·rename_i hw
   obtain ⟨⟨v,s,G⟩,h1,h2⟩:=zq3 h
   simp only at h2
   split at h2
   ·simp at h2
   ·rename_i hv2
    simp only [zqs,zqp] at h2
    obtain ⟨rfl,rfl⟩:=h2
    obtain ⟨σi,h3,h4,h5⟩:=E7 hv hn (fun hm=>hl (List.mem_append_left _ hm)) h1
    refine ⟨σi,v,?_,by rw [h4],h5⟩
    simp only [cS]
    rw [if_neg hb,hlk.wanted,hw]
    simp only [h3,Option.bind_some]
    rw [if_neg hv2]
  ·rename_i hw
   simp only [zqs,zqp] at h
   obtain ⟨rfl,rfl⟩:=h
   refine ⟨σ,.tup [],?_,rfl,.inl rfl⟩
   simp only [cS]
   rw [if_neg hb,hlk.wanted,hw]
  ·simp at h
theorem AZ {x:SOpG} {d:Nat} {va:AV} (hv:va.isBox=false) (hl:d ∉ x.reads) (hd:x.dst≠some d) (h:m9 (σ.set d va) H x):m9 σ H x:=by
 have hlk:Like x.reads (σ.set d va) σ:=fun n hn=>((jR hl) n hn).symm
 intro hr e he hw
 obtain ⟨v,h1,h3,h4⟩:=h hr e he (by rw [← hlk.wanted];exact hw)
 rw [List.getElem?_set_ne (fun e2=>hd (by rw [he,e2]))] at h3
 exact ⟨v,u7 hv (fun hm=>hl (List.mem_append_left _ hm)) h1,h3,h4⟩
theorem ic {d:Option Nat} {l:List Nat} (h:aC d l=true) {n:Nat} (e:d=some n):n ∉ l:=by
 subst e
 simpa [aC] using h
theorem sd {d e:Option Nat} (h:aM d e=true) {n:Nat} (x:d=some n):e≠some n:=by
 subst x
 simp [aM] at h
 exact fun y=>h y.symm
theorem E8 {d e:Option Nat} {v u:AV} (h:∀ n,d=some n→e≠some n):cJ (cJ σ d v) e u=cJ (cJ σ e u) d v:=by
 cases d with
 | none=>rfl
 | some n =>
  cases e with
  | none=>rfl
  | some m=>exact List.set_comm _ _ (fun x=>h n rfl (by rw [x]))
theorem u9 {d:Option Nat} {v:AV} {l:List Nat} (h:aC d l=true):Like l σ (cJ σ d v):=by
 cases d with
 | none=>exact fun _ _=>rfl
 | some d=>exact jR (ic h rfl)
theorem BoxEq.like {da:Nat} {σi:List AV} {l:List Nat} (h:BoxEq da σ σi):Like l σ σi:=fun n _=>h.eval (.t n)
theorem Like.trans {l:List Nat} {σ'':List AV} (h:Like l σ σ') (k:Like l σ' σ''):Like l σ σ'':=fun n hn=>(k n hn).trans (h n hn)
theorem U1 (l:List Nat) (k:Nat):∃ n,k≤n∧n ∉ l:=by
 have:∃ n,k≤n∧∀ m∈l,m<n:=by
  induction l with
  | nil=>exact ⟨k,Nat.le_refl _,by simp⟩
  | cons x l ih =>
   obtain ⟨n,h1,h2⟩:=ih
   refine ⟨max n (x+1),by omega,fun m hm=>?_⟩
   rcases List.mem_cons.1 hm with rfl | hm
   ·omega
   ·have:=h2 m hm;omega
 obtain ⟨n,h1,h2⟩:=this
 exact ⟨n,h1,fun h=>absurd (h2 n h) (Nat.lt_irrefl _)⟩
theorem BoxEq.length {da:Nat} {σi:List AV} (h:BoxEq da σ σi):σi.length=σ.length:=by
 rcases h with rfl | ⟨e,xs,ys,_,h2,rfl⟩
 ·rfl
 ·simp
theorem qB {d:Option Nat} {v:AV}:(cJ σ d v).length=σ.length:=by cases d<;>simp [cJ]
theorem yD {d e:Option Nat} {v:AV} (h:∀ n,e=some n→d≠some n):dk (cJ σ d v) e=dk σ e:=by
 cases e with
 | none=>rfl
 | some n =>
  cases d with
  | none=>rfl
  | some m =>
   simp only [dk,cJ]
   rw [fX (fun x=>h n rfl (by rw [x]))]
theorem E9 {a x:SOpG} {σ1 σ2:List AV} {H1 H2:ae} {H:ae} (hc:a.op.cls≠.eff) (hn:x.op.noL=true) (h1:aC x.dst a.reads=true) (h2:aM a.dst x.dst=true) (h3:aC a.dst x.reads=true)
  (h4:a.op.cls=.read→x.op.cls=.eff→a.dst.isSome=true∧m9 σ2 H2 a) (h5:aC a.dst a.reads=true)
  (ha:cS C a σ H=some (σ1,H1)) (hx:cS C x σ1 H1=some (σ2,H2)) :
  ∃ σ3,cS C x σ H=some (σ3,H2)∧cS C a σ3 H2=some (σ2,H2)∧∀ y:SOpG,(y.op.cls=.read→aC a.dst y.reads=true∧aM y.dst a.dst=true)→m9 σ2 H2 y→m9 σ3 H2 y:=by
 obtain ⟨va,hva,rfl,rfl,hbx,hld,hre⟩:=xd hc ha
 have hne:∀ n,a.dst=some n→x.dst≠some n:=fun n e=>sd h2 e
 have hda:∃ da,da ∉ x.reads∧x.dst≠some da∧(∀ τ:List AV,τ.length=σ.length→cJ τ a.dst va=τ.set da va)∧((a.dst=some da)∨(a.dst=none∧σ.length≤da)):=by
  cases hd:a.dst with
  | some da=>exact ⟨da,ic h3 hd,hne da hd,fun _ _=>rfl,.inl rfl⟩
  | none =>
   obtain ⟨n,hn1,hn2⟩:=U1 (x.dst.toList++x.reads) σ.length
   refine ⟨n,fun h=>hn2 (List.mem_append_right _ h),fun h=>hn2 (List.mem_append_left _ (by simp [h])),fun τ hτ=>?_,.inr ⟨rfl,hn1⟩⟩
   simp only [cJ]
   rw [List.set_eq_of_length_le (by omega)]
 obtain ⟨da,hd1,hd2,hd3,hd4⟩:=hda
 rw [hd3 σ rfl] at hx
 obtain ⟨σi,vi,hxi,rfl,hbe⟩:=yC hn hva hd1 hd2 hx
 have hli:σi.length=σ.length:=hbe.length
 have hcomm:cJ (σi.set da va) x.dst vi=cJ (cJ σi x.dst vi) a.dst va:=by
  rw [← hd3 σi hli]
  exact E8 hne
 have hlk:Like a.reads σ (cJ σi x.dst vi):=hbe.like.trans (u9 h1)
 refine ⟨cJ σi x.dst vi,hxi,?_,fun y hy hs=>?_⟩
 ·rw [hcomm]
  refine hre _ _ hlk ?_ ?_
  ·rw [yD (fun n e=>hne n e)]
   cases hd:a.dst with
   | none=>rfl
   | some n =>
    rw [hd] at hbx
    simp only [dk] at hbx ⊢
    rw [hbe.getD];exact hbx
  ·intro hr hw
   by_cases hxe:x.op.cls=.eff
   ·obtain ⟨hsm,hs⟩:=h4 hr hxe
    rcases hd4 with hd4 | ⟨hd4,_⟩
    ·have hlk2:Like a.reads σ (cJ (σi.set da va) x.dst vi):=by
      rw [hcomm]
      exact hlk.trans (u9 h5)
     obtain ⟨v,q1,q2,_⟩:=hs hr da hd4 (by rw [hlk2.wanted];exact hw)
     have hlt:da<σi.length:=by
      have:=(List.getElem?_eq_some_iff.1 q2).1
      rw [qB,List.length_set] at this
      exact this
     have hv:v=va:=by
      rw [hcomm,hd4] at q2
      simp only [cJ] at q2
      rw [List.getElem?_set_self (by rw [← hd4] at *;show da<(cJ σi x.dst vi).length;rw [qB];exact hlt)] at q2
      exact (zq1 q2).symm
     subst hv
     rw [hcomm,hd4] at q1
     exact u7 hva (fun hm=>ic h5 hd4 (List.mem_append_left _ hm)) q1
    ·rw [hd4] at hsm;simp at hsm
   ·
    obtain ⟨vx,hvx,e1,rfl,hbx2,_,_⟩:=xd hxe hxi
    rw [e1]
    have h0:=hld hr hw
    cases hxd:x.dst with
    | none=>exact h0
    | some dx =>
     rw [hxd] at hbx2
     exact HA (fun hm=>ic h1 hxd (List.mem_append_left _ hm)) hbx2 h0
 ·by_cases hyr:y.op.cls=.read
  ·obtain ⟨hy1,hy2⟩:=hy hyr
   rw [hcomm] at hs
   rcases hd4 with hd4 | ⟨hd4,_⟩
   ·rw [hd4] at hs hy1 hy2
    exact AZ hva (ic hy1 rfl) (fun e=>by
     have:=sd hy2 e
     exact this rfl) hs
   ·rw [hd4] at hs;exact hs
  ·exact fun h=>absurd h hyr
theorem se:∀ (L acc acc':List DOp) (σ:List AV) (H:ae) {y:List AV × ae},(∀ x∈acc',x∈acc)→runD C acc L σ H=some y→runD C acc' L σ H=some y
 | [],_,_,_,_,_,_,h=>h
 | d :: L,acc,acc',σ,H,y,hs,h=>by
  simp only [runD] at h ⊢
  obtain ⟨⟨σ1,H1⟩,h1,h2⟩:=zq3 h
  refine Option.bind_eq_some_iff.2 ⟨(σ1,H1),h1,?_⟩
  simp only at h2 ⊢
  split at h2
  ·rename_i hc
   rw [if_pos (all_same.2 fun x hx=>all_same.1 hc x (hs x hx))]
   refine se L (d :: acc) (d :: acc') σ1 H1 (fun x hx=>?_) h2
   rcases List.mem_cons.1 hx with rfl | hx
   ·exact List.mem_cons_self
   ·exact List.mem_cons_of_mem _ (hs x hx)
  ·simp at h2
structure A0 (a x:DOp):Prop where
 cls:a.o.op.cls≠.eff
 noL:x.o.op.noL=true
 ra:aC x.o.dst a.o.reads=true
 ne:aM a.o.dst x.o.dst=true
 rx:aC a.o.dst x.o.reads=true
 rd:a.o.op.cls=.read→x.o.op.cls=.eff→a.o.dst.isSome=true∧a.i∈x.un
 self:aC a.o.dst a.o.reads=true
 un:a.un=[]
theorem U2 {acc B:List DOp} {a x:DOp} {H:ae} {y:List AV × ae} (hs:A0 a x) (hacc:∀ b∈acc,b.o.op.cls=.read→aC a.o.dst b.o.reads=true∧aM b.o.dst a.o.dst=true) (h:runD C acc (a :: x :: B) σ H=some y):runD C acc (x :: a :: B) σ H=some y:=by
 simp only [runD] at h
 obtain ⟨⟨σ1,H1⟩,h1,h2⟩:=zq3 h
 simp only at h2
 split at h2
 ·obtain ⟨⟨σ2,H2⟩,h3,h4⟩:=zq3 h2
  simp only at h4
  split at h4
  ·rename_i hc
   obtain ⟨_,_,e,rfl,_,_,_⟩:=xd hs.cls h1
   obtain ⟨σ3,q1,q2,q3⟩:=E9 hs.cls hs.noL hs.ra hs.ne hs.rx (fun e1 e2=>⟨(hs.rd e1 e2).1,all_same.1 hc a List.mem_cons_self (hs.rd e1 e2).2⟩) hs.self h1 h3
   simp only [runD]
   refine Option.bind_eq_some_iff.2 ⟨(σ3,H2),q1,?_⟩
   simp only
   rw [if_pos (all_same.2 fun b hb hb2=>q3 b.o (hacc b hb) (all_same.1 hc b (List.mem_cons_of_mem _ hb) hb2))]
   refine Option.bind_eq_some_iff.2 ⟨(σ2,H2),q2,?_⟩
   simp only
   rw [if_pos (all_same.2 fun b _ hb2=>by rw [hs.un] at hb2;simp at hb2)]
   refine se B _ _ σ2 H2 (fun b hb=>?_) h4
   simp only [List.mem_cons] at hb ⊢
   rcases hb with h | h | h
   ·exact .inr (.inl h)
   ·exact .inl h
   ·exact .inr (.inr h)
  ·simp at h4
 ·simp at h2
theorem HB {x:DOp} {B:List DOp}:∀ (A acc:List DOp) (σ:List AV) (H:ae) {y:List AV × ae},(∀ a∈A,A0 a x)→(∀ a∈A,∀ b∈acc,b.o.op.cls=.read→aC a.o.dst b.o.reads=true∧aM b.o.dst a.o.dst=true) →
  A.Pairwise (fun b a=>b.o.op.cls=.read→aC a.o.dst b.o.reads=true∧aM b.o.dst a.o.dst=true)→runD C acc (A++x :: B) σ H=some y→runD C acc (x :: (A++B)) σ H=some y
 | [],_,_,_,_,_,_,_,h=>h
 | a :: A,acc,σ,H,y,h1,h2,h3,h=>by
  refine U2 (h1 a List.mem_cons_self) (h2 a List.mem_cons_self) ?_
  rw [List.cons_append] at h
  rw [List.pairwise_cons] at h3
  simp only [runD] at h
  obtain ⟨⟨σ1,H1⟩,q1,q2⟩:=zq3 h
  simp only at q2
  split at q2
  ·rename_i hc
   have:=HB A (a :: acc) σ1 H1 (fun b hb=>h1 b (List.mem_cons_of_mem _ hb)) (fun b hb c hc=>by
    rcases List.mem_cons.1 hc with rfl | hc
    ·exact h3.1 b hb
    ·exact h2 b (List.mem_cons_of_mem _ hb) c hc) h3.2 q2
   rw [runD]
   refine Option.bind_eq_some_iff.2 ⟨(σ1,H1),q1,?_⟩
   simp only
   rw [if_pos hc]
   exact this
  ·simp at q2
end
end Go.A
