/- THE VALUE MACHINE: calls. -/
import Derived.Test.YtnmobjhmohcjfaaV9
set_option linter.unusedSimpArgs false
set_option linter.unusedVariables false
set_option linter.unnecessarySimpa false
namespace Go.A.V
open Go Go.A
section
variable {g : Gh} {κ : Nat → Option Nat} {σ σA : List AV} {H : Heap}
theorem resA_rel (hs : RVs g κ σ σA) {r : SRes} {v : AV} (h : resA σ r = some v) : ∃ a,resA σA r = some a ∧ RV g κ v a := by
 cases r with
 | tmp t =>
  simp only [resA,Option.some.injEq] at h
  subst h
  exact ⟨_,rfl,evalX_rel hs rfl⟩
 | cell d k =>
  simp only [resA] at h ⊢
  have hr := getD_rel hs d
  split at h
  ·rename_i xs e
   rw [e] at hr
   simp only [RV] at hr
   obtain ⟨ys,e2,hys⟩ := hr
   rw [e2]
   exact fromCells_rel hys h
  ·simp at h
theorem resM_rel (hs : RVs g κ σ σA) : ∀ {rs : List SRes} {vs : List AV},rs.mapM (resA σ) = some vs → ∃ as,rs.mapM (resA σA) = some as ∧ RVs g κ vs as
 | [],vs,h => by simp at h; subst h; exact ⟨[],by simp,by simp only [RVs]⟩
 | r :: rs,vs,h => by
  rw [List.mapM_cons] at h
  simp only [Option.bind_eq_bind,Option.pure_def] at h
  obtain ⟨v,e1,h⟩ := Option.bind_eq_some_iff.1 h
  obtain ⟨ws,e2,h⟩ := Option.bind_eq_some_iff.1 h
  obtain rfl := Option.some.inj h
  obtain ⟨a,q1,q2⟩ := resA_rel hs e1
  obtain ⟨as,q3,q4⟩ := resM_rel hs e2
  refine ⟨a :: as,?_,by simp only [RVs]; exact ⟨a,as,rfl,q2,q4⟩⟩
  rw [List.mapM_cons,q1,q3]
  rfl
theorem resultsA_rel (hs : RVs g κ σ σA) {rs : List SRes} {v : AV} (h : resultsA rs σ = some v) : ∃ a,resultsA rs σA = some a ∧ RV g κ v a := by
 unfold resultsA at h ⊢
 split at h
 ·exact resA_rel hs h
 ·obtain ⟨vs,e1,rfl⟩ := Option.map_eq_some_iff.1 h
  obtain ⟨as,q1,q2⟩ := resM_rel hs e1
  exact ⟨.tup as,by rw [q1]; rfl,by simp only [RV]; exact ⟨as,rfl,q2⟩⟩
def lose (n0 : Nat) (g : Gh) : Gh := ⟨fun r => if r < n0 then g.α r else none,g.n,g.M⟩
theorem lose_far {n0 r : Nat} (h : Far g r) : Far (lose n0 g) r := fun q hq => by
 simp only [lose] at hq
 split at hq
 ·exact h q hq
 ·simp at hq
theorem lk_lose (n0 : Nat) : Lk g (lose n0 g) := ⟨Nat.le_refl _,fun r r' _ h q hq => by
  simp only [lose] at hq
  split at hq
  ·exact h q hq
  ·simp at hq,fun r h _ => lose_far h,fun _ _ _ _ _ _ h => h⟩
theorem own_lose (n0 : Nat) (κ : Nat → Option Nat) : Own g (lose n0 g) κ κ := fun _ _ h => ⟨h,rfl⟩
mutual
theorem frz_rel (hh : HR g H) (n0 : Nat) : ∀ {κ : Nat → Option Nat} (v a v' : AV),RV g κ v a → frz n0 H v = some v' → RV (lose n0 g) κ v' a
 | _,.ptr r i k,a,v',h,e => by
  simp only [frz] at e
  split at e
  ·obtain rfl := Option.some.inj e; exact rv_lk (lk_lose n0) (own_lose n0 _) _ _ h
  ·simp at e
 | κ,.sl r off len cap sz k ex,a,v',h,e => by
  simp only [frz] at e
  split at e
  ·obtain rfl := Option.some.inj e; exact rv_lk (lk_lose n0) (own_lose n0 _) _ _ h
  ·rename_i hr0
   split at e
   ·simp at e
   ·rename_i hsz
    obtain ⟨cs,e1,e2⟩ := Option.bind_eq_some_iff.1 e
    split at e2
    ·rename_i hok
     obtain rfl := Option.some.inj e2
     simp only [RV] at h
     obtain ⟨hn,r',rfl,hα⟩ := h
     simp only [RV,chunk_len]
     have hlen : cs.length = len * sz := by
      unfold rdRow0 at e1
      split at e1
      ·rename_i e0; obtain rfl := Option.some.inj e1; rw [e0]; rfl
      ·exact rdRow_len e1
     refine ⟨r',off,cap,sz,k,ex,rfl,by omega,by simp,chunk_mem sz len cs hlen hok,fun hne => ?_,fun c hc => by simp at hc⟩
     have hl0 : len * sz ≠ 0 := fun e0 => by
      have : len = 0 := by
       rcases Nat.mul_eq_zero.1 e0 with h | h
       ·exact h
       ·omega
      subst this
      exact hne rfl
     have e3 : rdRow H r off (len * sz) k = some cs := by
      unfold rdRow0 at e1
      rw [if_neg hl0] at e1
      exact e1
     obtain ⟨as,q1,q2⟩ := rdRow_rel hh e3 hα
     have hαr : g.α r = some r' := by
      unfold rdRow at e3
      split at e3
      ·rename_i o ho
       split at e3
       ·rename_i hc
        obtain ⟨q,o',w1,_,_⟩ := hh.row r o ho hc.1
        rw [hα q w1] at w1
        exact w1
       ·simp at e3
      ·simp at e3
     refine ⟨fun q hq => ?_,as,q1,rvss_rvs.2 ?_⟩
     ·simp only [lose] at hq
      split at hq
      ·rename_i hq0
       have := hh.inj q r r' hq hαr
       omega
      ·simp at hq
     ·rw [chunk_flat sz len cs hlen]
      exact rvs_lk (lk_lose n0) (Own.no _ _ _) _ _ q2
    ·simp at e2
 | _,.agg xs,a,v',h,e => by
  simp only [frz] at e
  obtain ⟨ys,e1,rfl⟩ := Option.map_eq_some_iff.1 e
  simp only [RV] at h ⊢
  obtain ⟨as,rfl,h⟩ := h
  exact ⟨as,rfl,frzs_rel hh n0 xs as ys h e1⟩
 | _,.tup xs,a,v',h,e => by
  simp only [frz] at e
  obtain ⟨ys,e1,rfl⟩ := Option.map_eq_some_iff.1 e
  simp only [RV] at h ⊢
  obtain ⟨as,rfl,h⟩ := h
  exact ⟨as,rfl,frzs_rel hh n0 xs as ys h e1⟩
 | _,.c v,a,v',h,e => by
  simp only [frz,Option.some.injEq] at e
  subst e
  exact rv_lk (lk_lose n0) (own_lose n0 _) _ _ h
 | _,.vs k f l,a,v',h,e => by
  simp only [frz,Option.some.injEq] at e
  subst e
  exact rv_lk (lk_lose n0) (own_lose n0 _) _ _ h
 | _,.undef,_,_,_,e => by simp [frz] at e
 | _,.vp ..,_,_,_,e => by simp [frz] at e
 | _,.lbox _,_,_,_,e => by simp [frz] at e
 | _,.lptr ..,_,_,_,e => by simp [frz] at e
 | _,.fn ..,_,_,_,e => by simp [frz] at e
 | _,.iface ..,_,_,_,e => by simp [frz] at e
 | _,.map _,_,_,_,e => by simp [frz] at e
 | _,.imm _,_,_,_,e => by simp [frz] at e
theorem frzs_rel (hh : HR g H) (n0 : Nat) : ∀ {κ : Nat → Option Nat} (v a v' : List AV),RVs g κ v a → frzs n0 H v = some v' → RVs (lose n0 g) κ v' a
 | _,[],a,v',h,e => by
  simp only [frzs,Option.some.injEq] at e
  subst e
  simpa only [RVs] using h
 | _,x :: xs,a,v',h,e => by
  simp only [frzs] at e
  obtain ⟨y,e1,e⟩ := Option.bind_eq_some_iff.1 e
  obtain ⟨ys,e2,rfl⟩ := Option.map_eq_some_iff.1 e
  simp only [RVs] at h ⊢
  obtain ⟨b,as,rfl,h1,h2⟩ := h
  exact ⟨b,as,rfl,frz_rel hh n0 x b y h1 e1,frzs_rel hh n0 xs as ys h2 e2⟩
end
theorem hr_lose (hh : HR g H) {n0 : Nat} (h0 : n0 ≤ H.length) : HR (lose n0 g) (H.take n0 ++ List.replicate (H.length - n0) .other) where
 n := by simp [lose,hh.n]; omega
 dom := fun r r' h => by
  simp only [lose] at h
  split at h
  ·exact hh.dom r r' h
  ·simp at h
 inj := fun r q r' h k => by
  simp only [lose] at h k
  split at h <;> split at k <;> first | exact hh.inj r q r' h k | simp at h | simp at k
 row := fun r o h1 h2 => by
  by_cases e : r < n0
  ·rw [List.getElem?_append_left (by simp; omega),List.getElem?_take,if_pos e] at h1
   obtain ⟨r',o',p1,p2,p3⟩ := hh.row r o h1 h2
   refine ⟨r',o',by simp only [lose,if_pos e]; exact p1,p2,?_⟩
   cases p3 with
   | old h => exact .old (rvs_lk (lk_lose n0) (Own.no _ _ _) _ _ h)
   | row h => exact .row (rvs_lk (lk_lose n0) (Own.no _ _ _) _ _ h)
   | grow lo h => exact .grow lo (rvs_lk (lk_lose n0) (Own.no _ _ _) _ _ h)
  ·exfalso
   rw [List.getElem?_append_right (by simp; omega),List.getElem?_replicate] at h1
   split at h1
   ·obtain rfl := Option.some.inj h1; simp [AObj.isRow] at h2
   ·simp at h1
end
mutual
theorem pln_free : ∀ v : AV,(pln v).free = v.free
 | .vs .. => rfl
 | .agg xs => by simp only [pln,AV.free]; exact plns_free xs
 | .tup xs => by simp only [pln,AV.free]; exact plns_free xs
 | .lbox _ => rfl
 | .undef => rfl
 | .c _ => rfl
 | .ptr .. => rfl
 | .sl .. => rfl
 | .vp .. => rfl
 | .lptr .. => rfl
 | .fn .. => rfl
 | .iface .. => rfl
 | .map _ => rfl
 | .imm _ => rfl
theorem plns_free : ∀ l : List AV,AV.freeAll (plns l) = AV.freeAll l
 | [] => rfl
 | x :: r => by simp only [plns,AV.freeAll,pln_free x,plns_free r]
end
theorem norm_free (c : Bool) (v : AV) : (normB c v).free = v.free := by
 unfold normB
 split
 ·unfold normT
  split
  ·rfl
  ·simp only [AV.free,AV.freeAll,plns_free]
  ·exact pln_free _
 ·unfold norm
  split
  ·rfl
  ·exact pln_free _
def colN (κ : Nat → Option Nat) : AV → Nat → Option Nat
 | .vs _ (some c) _ => fun x => if x = 0 then κ c else none
 | .tup (.vs _ (some c) _ :: _) => fun x => if x = 0 then κ c else none
 | _ => no
theorem normT_rel {g : Gh} {κ : Nat → Option Nat} {v a : AV} (h : RV g κ v a) : RV g (colN κ v) (normT v) a := by
 unfold normT
 split
 ·rename_i k c l
  simp only [RV,colN] at h ⊢
  obtain ⟨r,off,cap,sz,gg,ex,e,h1,h2,h3,h4,h5⟩ := h
  refine ⟨r,off,cap,sz,gg,ex,e,h1,h2,h3,h4,fun c' hc' => ?_⟩
  obtain rfl := Option.some.inj hc'
  obtain ⟨q1,q2⟩ := h5 c rfl
  refine ⟨q1,?_⟩
  rcases q2 with q2 | ⟨q2,q3⟩
  ·exact .inl q2
  ·exact .inr ⟨by simpa using q2,q3⟩
 ·rename_i k c l rest
  simp only [RV,RVs,colN] at h ⊢
  obtain ⟨ys,e0,a0,rs,e1,h,h7⟩ := h
  refine ⟨ys,e0,a0,rs,e1,?_,rvs_pln _ _ h7⟩
  obtain ⟨r,off,cap,sz,gg,ex,e,h1,h2,h3,h4,h5⟩ := h
  refine ⟨r,off,cap,sz,gg,ex,e,h1,h2,h3,h4,fun c' hc' => ?_⟩
  obtain rfl := Option.some.inj hc'
  obtain ⟨q1,q2⟩ := h5 c rfl
  refine ⟨q1,?_⟩
  rcases q2 with q2 | ⟨q2,q3⟩
  ·exact .inl q2
  ·exact .inr ⟨by simpa using q2,q3⟩
 ·exact rv_pln v a h
theorem norm_rel {g : Gh} {κ : Nat → Option Nat} {v a : AV} (c : Bool) (h : RV g κ v a) : RV g (colN κ v) (normB c v) a := by
 unfold normB
 split
 ·exact normT_rel h
 ·have h' := normT_rel h
  unfold norm
  split
  ·rename_i k c l
   exact h'
  ·exact rv_pln v a h
theorem colN_some {κ : Nat → Option Nat} {v : AV} {c r : Nat} (h : colN κ v c = some r) : c = 0 ∧ ∃ c',κ c' = some r := by
 unfold colN at h
 split at h
 ·rename_i k c0 l
  split at h
  ·rename_i e; exact ⟨e,_,h⟩
  ·simp at h
 ·rename_i k c0 l r
  split at h
  ·rename_i e; exact ⟨e,_,h⟩
  ·simp at h
 ·simp [no] at h
mutual
theorem frz_free {n0 : Nat} {H : Heap} : ∀ {v v' : AV},frz n0 H v = some v' → v.free = true → v'.free = true
 | .ptr ..,v',e,_ => by
  simp only [frz] at e
  split at e
  ·obtain rfl := Option.some.inj e; rfl
  ·simp at e
 | .sl ..,v',e,_ => by
  simp only [frz] at e
  split at e
  ·obtain rfl := Option.some.inj e; rfl
  ·split at e
   ·simp at e
   ·obtain ⟨cs,_,e2⟩ := Option.bind_eq_some_iff.1 e
    split at e2
    ·obtain rfl := Option.some.inj e2; rfl
    ·simp at e2
 | .agg xs,v',e,h => by
  simp only [frz] at e
  obtain ⟨ys,e1,rfl⟩ := Option.map_eq_some_iff.1 e
  simp only [AV.free] at h ⊢
  exact frzs_free e1 h
 | .tup xs,v',e,h => by
  simp only [frz] at e
  obtain ⟨ys,e1,rfl⟩ := Option.map_eq_some_iff.1 e
  simp only [AV.free] at h ⊢
  exact frzs_free e1 h
 | .c v,v',e,_ => by simp only [frz,Option.some.injEq] at e; subst e; rfl
 | .vs ..,v',e,_ => by simp only [frz,Option.some.injEq] at e; subst e; rfl
 | .undef,_,e,_ => by simp [frz] at e
 | .vp ..,_,e,_ => by simp [frz] at e
 | .lbox _,_,e,_ => by simp [frz] at e
 | .lptr ..,_,e,_ => by simp [frz] at e
 | .fn ..,_,e,_ => by simp [frz] at e
 | .iface ..,_,e,_ => by simp [frz] at e
 | .map _,_,e,_ => by simp [frz] at e
 | .imm _,_,e,_ => by simp [frz] at e
theorem frzs_free {n0 : Nat} {H : Heap} : ∀ {v v' : List AV},frzs n0 H v = some v' → AV.freeAll v = true → AV.freeAll v' = true
 | [],v',e,_ => by simp only [frzs,Option.some.injEq] at e; subst e; rfl
 | x :: xs,v',e,h => by
  simp only [frzs] at e
  obtain ⟨y,e1,e⟩ := Option.bind_eq_some_iff.1 e
  obtain ⟨ys,e2,rfl⟩ := Option.map_eq_some_iff.1 e
  simp only [AV.freeAll,Bool.and_eq_true] at h ⊢
  exact ⟨frz_free e1 h.1,frzs_free e2 h.2⟩
end
theorem enter_rel {g : Gh} {args as : List AV} (h : RVs g no args as) (n : Nat) : RVs g no (slots0 n args) (slots0 n as) := by
 unfold slots0
 rw [rvs_len h]
 refine rvs_append h ?_
 generalize n - args.length = k
 induction k with
 | zero => simp only [List.replicate_zero,RVs]
 | succ k ih =>
  simp only [List.replicate_succ,RVs]
  exact ⟨.undef,_,rfl,by simp only [RV],ih⟩
structure Fits (p : VP) (T : FuncId → Option SFun) (X : Oracle) : Prop where
 ft : ∀ f s,p.T f = some s → T f = some s ∧ (∀ args H,X f args H = none) ∧ okCode s.body = true
 fx : ∀ f args H v H',p.X f args H = some (v,H') → SimC p.W (callW T X) f args H v H'
theorem callN_sim {p : VP} {T : FuncId → Option SFun} {X : Oracle} (hp : Fits p T X) : ∀ n,SimO p.W (callN p n) (callW T X)
 | 0 => fun f args H v H' h => by simp [callN] at h
 | n + 1 => fun f args H v H' h => by
  simp only [callN] at h
  split at h
  ·rename_i y hy
   obtain rfl := Option.some.inj h
   exact hp.fx f args H v H' hy
  ·obtain ⟨s,hs,h⟩ := Option.bind_eq_some_iff.1 h
   obtain ⟨st,hst,h⟩ := Option.bind_eq_some_iff.1 h
   split at h
   ·rename_i he
    obtain ⟨v0,hv,h⟩ := Option.bind_eq_some_iff.1 h
    split at h
    ·rename_i hf
     obtain ⟨t1,t2,t3⟩ := hp.ft f s hs
     intro g as hh ha
     have ih := callN_sim hp n
     have hC : SimO p.W (p.orc f (callN p n)) (callW T X) := fun f' args' H1 v1 H2 h1 => by
      simp only [VP.orc] at h1
      split at h1
      ·exact ih f' args' H1 v1 H2 h1
      ·simp at h1
     have hW : (p.md f).wr = false → ∀ f' args' H1,p.orc f (callN p n) f' args' H1 ≠ none → p.W f' = false := fun hw f' args' H1 h1 => by
      simp only [VP.md] at hw
      simp only [VP.orc,hw,Bool.false_or] at h1
      split at h1
      ·rename_i h2; simpa using h2
      ·exact (h1 rfl).elim
     obtain ⟨sA,g1,κ1,q1,q2,q3,q4⟩ := exec_sim (m := p.md f) (m0 := g.M.length) hC hW n s.body t3 (enter_rel ha s.nslots) hh ⟨fun _ _ _ h => by simp [no] at h,fun _ _ h => by simp [no] at h⟩ (Nat.le_refl _) hst
     obtain ⟨a,p1,p2⟩ := resultsA_rel q2 hv
     have hfa : a.free = true := by rw [rv_free v0 a p2]; exact hf
     have hcall : callW T X f as g.M = some (a,g1.M) := by
      rw [callW_eq,t2 as g.M]
      simp only [t1,Option.bind_some]
      rw [q1,Option.bind_some]
      simp only
      rw [if_pos he,p1,Option.bind_some,if_pos hfa]
     have hcol : ∀ {v1 : AV} (g2 : Gh),g2.M = g1.M → (∀ r,Far g1 r → Far g2 r) → ∀ c r,colN κ1 v1 c = some r → c = 0 ∧ g.M.length ≤ r ∧ r < g2.M.length ∧ Far g2 r := fun g2 hM hF c r hc => by
      obtain ⟨rfl,c',hc'⟩ := colN_some hc
      obtain ⟨w1,w2,w3⟩ := q4.ko.far c' r hc'
      exact ⟨rfl,w2,by rw [hM]; exact w3,hF r w1⟩
     simp only [finish] at h
     split at h
     ·simp only [Option.some.injEq,Prod.mk.injEq] at h
      obtain ⟨rfl,rfl⟩ := h
      exact ⟨a,g1,colN κ1 v0,hcall,by rw [norm_free]; exact hf,q3,norm_rel _ p2,hcol g1 rfl (fun _ h => h),q4.up,q4.far,q4.nw⟩
     ·obtain ⟨v1,w1,w2⟩ := Option.map_eq_some_iff.1 h
      simp only [Prod.mk.injEq] at w2
      obtain ⟨rfl,rfl⟩ := w2
      have hle : H.length ≤ st.H.length := by rw [← hh.n,← q3.n]; exact q4.up.n
      have hfr := frz_rel q3 H.length v0 a v1 p2 w1
      refine ⟨a,lose H.length g1,colN κ1 v1,hcall,by rw [norm_free]; exact frz_free w1 hf,hr_lose q3 hle,norm_rel _ hfr,hcol _ rfl (fun _ h => lose_far h),?_,q4.far,q4.nw⟩
      have hn := hh.n
      exact ⟨q4.up.n,fun r r' e => by
       have := (hh.dom r r' e).1
       simp only [lose]
       rw [if_pos (by omega)]
       exact q4.up.keep r r' e,fun r hr e => by
       simp only [lose]
       rw [if_pos (by omega)]
       exact q4.up.dead r hr e,fun r r' e => by
       simp only [lose] at e
       split at e
       ·exact q4.up.new r r' e
       ·simp at e,q4.up.len,q4.up.rd⟩
    ·simp at h
   ·simp at h
end Go.A.V
