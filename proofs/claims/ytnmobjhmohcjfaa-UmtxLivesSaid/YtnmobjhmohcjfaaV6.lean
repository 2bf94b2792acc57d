/- THE VALUE MACHINE: every operation is such a one of the abstract machine. -/
import Derived.Test.YtnmobjhmohcjfaaV5
set_option linter.unusedSimpArgs false
set_option linter.unusedVariables false
set_option linter.unnecessarySimpa false
namespace Go.A.V
open Go Go.A
section
variable {m0 : Nat} {wr : Bool} {g : Gh} {κ : Nat → Option Nat} {σ σA : List AV} {H : Heap}
theorem sim_far0 (hs : RVs g κ σ σA) (hh : HR g H) (hk : KO m0 g κ) (hm : m0 ≤ g.M.length) (o : AObj) {res : Option (AV × List AV × Heap)} {v a : AV}
  (hr : res = some (a,σA,g.M ++ [o])) (hv : RV (allocF g o) κ v a) : OpSim m0 wr g res v σ H :=
 ⟨a,σA,allocF g o,κ,hr,hv,rvs_up (up_allocF (g := g) o) (own_app hk [o] (g' := allocF g o) rfl) _ _ hs,hr_allocF hh o,step_app hh hk hm (up_allocF (g := g) o) [o] (g' := allocF g o) rfl⟩
theorem sim_row (hs : RVs g κ σ σA) (hh : HR g H) (hk : KO m0 g κ) (hm : m0 ≤ g.M.length) {o o' : AObj} (ho : OR g o o') {res : Option (AV × List AV × Heap)} {v a : AV}
  (hr : res = some (a,σA,g.M ++ [o'])) (hv : ∀ g',g'.n = g.n + 1 → (∀ q,g'.α g.n = some q → q = g.M.length) → RV g' κ v a) : OpSim m0 wr g res v σ (H ++ [o]) := by
 have hu := up_alloc hh o'
 refine ⟨a,σA,alloc g o',κ,hr,hv _ rfl fun q hq => ?_,rvs_up hu (own_app hk [o'] (g' := alloc g o') rfl) _ _ hs,hr_alloc hh ho,step_app hh hk hm hu [o'] (g' := alloc g o') rfl⟩
 simp only [alloc,if_true,Option.some.injEq] at hq
 exact hq.symm
theorem call_sim {W : FuncId → Bool} {C D : Oracle} (hs : RVs g κ σ σA) (hh : HR g H) (hk : KO m0 g κ) (hm : m0 ≤ g.M.length) (hC : SimO W C D) {f : FuncId} (hW : wr = false → ∀ args H,C f args H ≠ none → W f = false) {args as : List AV} {v : AV} {H' : Heap} {d : Option Nat}
  (ha : RVs g no args as) (h : C f args H = some (v,H')) :
  OpSim m0 wr g ((D f as g.M).map fun p => (p.1,σA,p.2)) (recol d v σ H').1 (recol d v σ H').2.1 (recol d v σ H').2.2 := by
 obtain ⟨a,g',κr,e,hvf,q1,q2,q3,q4,q5,q6⟩ := hC f args H v H' h g as hh ha
 have hown : Own g g' κ κ := fun c r e1 => ⟨e1,q5 r (hk.far c r e1).2.2 (hk.far c r e1).1⟩
 have hs1 := rvs_up q4 hown _ _ hs
 have hnw : wr = false → ∀ r r',g.α r = some r' → g'.M[r']? = g.M[r']? := fun hw => q6 (hW hw args H (by rw [h]; simp))
 have hko : KO m0 g' κ := ko_up q4 hk
 by_cases hv : ∃ k c l d',v = .vs k (some c) l ∧ d = some d'
 ·obtain ⟨k,c,l,d',rfl,rfl⟩ := hv
  simp only [recol]
  refine ⟨a,σA,g',col κ [d'] d' (κr c),by rw [e]; rfl,?_,by rw [map_unfl]; exact rvs_unfl _ (col_old (by simp)) _ _ hs1,q1,⟨⟨fun x y r h h' => ?_,fun x r h => ?_⟩,q4,fun r hr hf => q5 r (by omega) hf,hnw⟩⟩
  ·simp only [RV] at q2 ⊢
   obtain ⟨r,off,cap,sz,gg,ex,p0,p1,p2,p3,p4,p5⟩ := q2
   refine ⟨r,off,cap,sz,gg,ex,p0,p1,p2,p3,p4,fun c' hc' => ?_⟩
   obtain rfl := Option.some.inj hc'
   obtain ⟨w1,w2⟩ := p5 c rfl
   refine ⟨w1,?_⟩
   rcases w2 with w2 | ⟨w2,w3⟩
   ·exact .inl w2
   ·exact .inr ⟨by simp only [col,if_true]; exact w2,w3⟩
  ·simp only [col] at h h'
   split at h <;> split at h'
   ·omega
   ·split at h'
    ·simp at h'
    ·have w1 := (q3 c r h).2.1; have w2 := (hk.far y r h').2.2; omega
   ·split at h
    ·simp at h
    ·have w1 := (q3 c r h').2.1; have w2 := (hk.far x r h).2.2; omega
   ·split at h
    ·simp at h
    ·split at h'
     ·simp at h'
     ·exact hk.inj x y r h h'
  ·simp only [col] at h
   split at h
   ·obtain ⟨_,w1,w2,w3⟩ := q3 c r h; exact ⟨w3,by omega,w2⟩
   ·split at h
    ·simp at h
    ·exact hko.far x r h
 ·by_cases hv2 : ∃ k c l rest d',v = .tup (.vs k (some c) l :: rest) ∧ d = some d'
  ·obtain ⟨k,c,l,rest,d',rfl,rfl⟩ := hv2
   simp only [recol,Option.map_some]
   refine ⟨a,σA,g',col κ [d'] d' (κr c),by rw [e]; rfl,?_,by rw [map_unfl]; exact rvs_unfl _ (col_old (by simp)) _ _ hs1,q1,⟨⟨fun x y r h h' => ?_,fun x r h => ?_⟩,q4,fun r hr hf => q5 r (by omega) hf,hnw⟩⟩
   ·simp only [RV,RVs] at q2 ⊢
    obtain ⟨ys,e0,a0,rs,e1,q2,q7⟩ := q2
    refine ⟨ys,e0,a0,rs,e1,?_,rvs_pln _ _ q7⟩
    obtain ⟨r,off,cap,sz,gg,ex,p0,p1,p2,p3,p4,p5⟩ := q2
    refine ⟨r,off,cap,sz,gg,ex,p0,p1,p2,p3,p4,fun c' hc' => ?_⟩
    obtain rfl := Option.some.inj hc'
    obtain ⟨w1,w2⟩ := p5 c rfl
    refine ⟨w1,?_⟩
    rcases w2 with w2 | ⟨w2,w3⟩
    ·exact .inl w2
    ·exact .inr ⟨by simp only [col,if_true]; exact w2,w3⟩
   ·simp only [col] at h h'
    split at h <;> split at h'
    ·omega
    ·split at h'
     ·simp at h'
     ·have w1 := (q3 c r h).2.1; have w2 := (hk.far y r h').2.2; omega
    ·split at h
     ·simp at h
     ·have w1 := (q3 c r h').2.1; have w2 := (hk.far x r h).2.2; omega
    ·split at h
     ·simp at h
     ·split at h'
      ·simp at h'
      ·exact hk.inj x y r h h'
   ·simp only [col] at h
    split at h
    ·obtain ⟨_,w1,w2,w3⟩ := q3 c r h; exact ⟨w3,by omega,w2⟩
    ·split at h
     ·simp at h
     ·exact hko.far x r h
  have hpl : RV g' no (pln v) a := rv_pln v a q2
  have hplain : OpSim m0 wr g ((D f as g.M).map fun p => (p.1,σA,p.2)) (pln v) σ H' := ⟨a,σA,g',κ,by rw [e]; rfl,rv_pln v a q2,hs1,q1,⟨hko,q4,fun r hr hf => q5 r (by omega) hf,hnw⟩⟩
  have hmap : ∀ d',OpSim m0 wr g ((D f as g.M).map fun p => (p.1,σA,p.2)) (pln v) (σ.map (unfl [d'])) H' := fun d' =>
   ⟨a,σA,g',col κ [d'] d' none,by rw [e]; rfl,rv_pln v a q2,by rw [map_unfl]; exact rvs_unfl _ (col_old (by simp)) _ _ hs1,q1,⟨ko_none hko,q4,fun r hr hf => q5 r (by omega) hf,hnw⟩⟩
  unfold recol
  split
  ·rename_i d'
   split
   ·rename_i k ff l
    cases ff with
    | none => exact hmap d'
    | some c => exact (hv ⟨_,_,_,_,rfl,rfl⟩).elim
   ·exact hmap d'
   ·rename_i k ff l rest
    cases ff with
    | none => exact hmap d'
    | some c => exact (hv2 ⟨_,_,_,_,_,rfl,rfl⟩).elim
   ·exact hmap d'
   ·exact hplain
  ·exact hplain
theorem rv_vsx {k : Nat} {f : Option Nat} {l : List (List AV)} {a : AV} (h : RV g κ (.vs k f l) a) : ∃ r off cap sz gg ex,a = .sl r off l.length cap sz gg ex ∧ l.length ≤ cap ∧ (ex || sz == k) = true ∧ (∀ cs ∈ l,cs.length = k ∧ cs.all okCell = true) ∧
   (l ≠ [] → Far g r ∧ ∃ as,rdRow g.M r off (l.length * k) gg = some as ∧ RVss g no l as) ∧ FlagOk g.M κ k r off l.length cap sz gg ex f := by simpa only [RV] using h
theorem getD_flat {k : Nat} : ∀ {l : List (List AV)} {i : Nat},(∀ cs ∈ l,cs.length = k ∧ cs.all okCell = true) → i < l.length → (l.flatten.drop (i * k)).take k = l.getD i []
 | [],i,_,h => by simp at h
 | c :: r,0,h,_ => by
  have := (h c (by simp)).1
  simp [← this]
 | c :: r,i + 1,h,hi => by
  have h1 := (h c (by simp)).1
  have := getD_flat (l := r) (i := i) (fun cs hc => h cs (by simp [hc])) (by simpa using hi)
  simp only [List.flatten_cons,List.getD_cons_succ]
  rw [show (i + 1) * k = c.length + i * k by rw [Nat.add_mul]; omega,List.drop_append,List.drop_eq_nil_of_le (by omega)]
  simpa using this
theorem take_flat {k : Nat} : ∀ {l : List (List AV)} (i : Nat),(∀ cs ∈ l,cs.length = k ∧ cs.all okCell = true) → i ≤ l.length → (l.take i).flatten = l.flatten.take (i * k) ∧ (l.drop i).flatten = l.flatten.drop (i * k)
 | l,0,_,_ => by simp
 | [],i + 1,_,h => by simp at h
 | c :: r,i + 1,h,hi => by
  have h1 := (h c (by simp)).1
  obtain ⟨e1,e2⟩ := take_flat (l := r) i (fun cs hc => h cs (by simp [hc])) (by simpa using hi)
  have e : (i + 1) * k = c.length + i * k := by rw [Nat.add_mul]; omega
  simp only [List.take_succ_cons,List.drop_succ_cons,List.flatten_cons,e1,e2,e]
  constructor
  ·rw [List.take_append,List.take_of_length_le (show c.length ≤ c.length + i * k by omega)]
   simp
  ·rw [List.drop_append,List.drop_eq_nil_of_le (show c.length ≤ c.length + i * k by omega)]
   simp
theorem op_sim {W : FuncId → Bool} {C D : Oracle} {m : Md} (hs : RVs g κ σ σA) (hh : HR g H) (hk : KO m0 g κ) (hm : m0 ≤ g.M.length) (hC : SimO W C D) (hW : m.wr = false → ∀ f args H,C f args H ≠ none → W f = false)
  {d : Option Nat} {so : SOp} (ho : okOp so = true) {v : AV} {σ' : List AV} {H' : Heap} (h : opV m C d so σ H = some (v,σ',H')) : OpSim m0 m.wr g (opA D d so σA g.M) v σ' H' := by
 cases so <;> simp only [okOp,Bool.and_eq_true] at ho <;> simp only [opV] at h
 case bad => simp at h
 case mov x =>
  simp only [Option.some.injEq,Prod.mk.injEq] at h
  obtain ⟨rfl,rfl,rfl⟩ := h
  exact sim_pure hs hh hk rfl (evalX_rel hs ho)
 case pick c a b =>
  have hc := evalX_rel hs ho.1.1
  split at h
  ·rename_i e
   simp only [Option.some.injEq,Prod.mk.injEq] at h
   obtain ⟨rfl,rfl,rfl⟩ := h
   rw [e] at hc
   exact sim_pure hs hh hk (by simp only [opA,rv_c hc]) (evalX_rel hs ho.1.2)
  ·rename_i e
   simp only [Option.some.injEq,Prod.mk.injEq] at h
   obtain ⟨rfl,rfl,rfl⟩ := h
   rw [e] at hc
   exact sim_pure hs hh hk (by simp only [opA,rv_c hc]) (evalX_rel hs ho.2)
  ·simp at h
 case lnew zs =>
  split at h
  ·simp only [Option.some.injEq,Prod.mk.injEq] at h
   obtain ⟨rfl,rfl,rfl⟩ := h
   rename_i d
   exact ⟨_,_,g,κ,rfl,by simp only [RV]; exact ⟨zs,rfl,rvs_const _ _ zs ho⟩,rvs_forget d hs,hh,Step.refl hk⟩
  ·simp at h
 case lbox k x =>
  have hx := toCells_rel (evalX_rel hs ho)
  split at h
  ·rename_i d
   split at h
   ·rename_i hc
    simp only [Option.some.injEq,Prod.mk.injEq] at h
    obtain ⟨rfl,rfl,rfl⟩ := h
    refine ⟨.lbox (toCells (evalX σA x)),σA.map (forget d),g,κ,?_,by simp only [RV]; exact ⟨_,rfl,hx⟩,rvs_forget d hs,hh,Step.refl hk⟩
    simp only [opA]
    rw [if_pos ⟨by rw [rvs_len hx]; exact hc.1,rvs_okCell hx hc.2⟩]
   ·simp at h
  ·simp at h
 case new zs =>
  simp only [Option.some.injEq,Prod.mk.injEq] at h
  obtain ⟨rfl,rfl,rfl⟩ := h
  refine sim_row hs hh hk hm (.row (rvs_const g no zs ho)) rfl fun g' hn hα => ?_
  simp only [RV]
  exact ⟨by rw [hn,hh.n]; omega,g.M.length,rfl,fun q hq => hα q (by rw [hh.n]; exact hq)⟩
 case box k x =>
  have hx := evalX_rel hs ho
  have hx2 := toCells_rel hx
  split at h
  ·rename_i hc
   simp only [Option.some.injEq,Prod.mk.injEq] at h
   obtain ⟨rfl,rfl,rfl⟩ := h
   refine sim_row hs hh hk hm (.row (rvs_pln _ _ hx2)) (a := .ptr g.M.length 0 k) ?_ fun g' hn hα => ?_
   ·simp only [opA]
    rw [if_pos ⟨by rw [rvs_len hx2]; exact hc.1,rvs_okCell hx2 hc.2⟩]
   ·simp only [RV]
    exact ⟨by rw [hn,hh.n]; omega,g.M.length,rfl,fun q hq => hα q (by rw [hh.n]; exact hq)⟩
  ·simp at h
 case build zs ps =>
  obtain ⟨l,e1,e2⟩ := Option.map_eq_some_iff.1 h
  simp only [Prod.mk.injEq] at e2
  obtain ⟨rfl,rfl,rfl⟩ := e2
  obtain ⟨l',q1,q2⟩ := placeAll_rel (rvs_const g κ zs ho.1) (ps' := ps.map fun (o,k,x) => (o,k,evalX σA x)) (by simp) (parts_rel hs (fun v => v) (fun _ _ h => h) ho.2) e1
  exact sim_pure hs hh hk (a := .agg l') (by simp only [opA,q1,Option.map_some]) (by simp only [RV]; exact ⟨l',rfl,q2⟩)
 case bslice len sz zs ps =>
  obtain ⟨cs,e1,h⟩ := Option.bind_eq_some_iff.1 h
  obtain ⟨as,q1,q2⟩ := placeAll_rel (rvs_const g no zs ho.1) (ps' := ps.map fun (o,k,x) => (o,k,evalX σA x)) (by simp) (parts_rel hs pln (fun v a h => rv_pln v a h) ho.2) e1
  split at h
  ·rename_i hok
   have hok' := rvs_okCell q2 hok
   have hres : opA D d (.bslice len sz zs ps) σA g.M = some (.sl g.M.length 0 len len sz (len * sz) true,σA,g.M ++ [.row as]) := by
    simp only [opA,q1,Option.bind_some]
    rw [if_pos hok']
   split at h
   ·simp only [Option.some.injEq,Prod.mk.injEq] at h
    obtain ⟨rfl,rfl,rfl⟩ := h
    refine sim_row hs hh hk hm (.row q2) hres fun g' hn hα => ?_
    simp only [RV]
    exact ⟨by rw [hn,hh.n]; omega,g.M.length,rfl,fun q hq => hα q (by rw [hh.n]; exact hq)⟩
   ·split at h
    ·rename_i hl
     simp only [Option.some.injEq,Prod.mk.injEq] at h
     obtain ⟨rfl,rfl,rfl⟩ := h
     refine sim_far0 hs hh hk hm (.row as) hres ?_
     simp only [RV,chunk_len]
     refine ⟨_,_,_,_,_,_,rfl,Nat.le_refl _,by simp,chunk_mem sz len cs hl hok,fun _ => ⟨fun q hq => by have := (hh.dom q _ hq).2; omega,as,?_,rvss_rvs.2 ?_⟩,fun c _ => ⟨rfl,.inl rfl⟩⟩
     ·have hal : as.length = len * sz := by rw [rvs_len q2]; exact hl
      simp only [allocF,rdRow,List.getElem?_append_right (Nat.le_refl _),Nat.sub_self,List.getElem?_cons_zero,AObj.isRow,AObj.lo,AObj.cells]
      rw [if_pos ⟨trivial,Nat.zero_le _,by omega,by omega⟩,List.drop_zero,List.take_of_length_le (by omega)]
     ·rw [chunk_flat sz len cs hl]
      exact rvs_up (up_allocF _) (Own.no _ _ _) _ _ q2
    ·simp at h
  ·simp at h
 case load k x =>
  have hx := evalX_rel hs ho
  split at h
  ·rename_i cs i e
   obtain ⟨b,e1,e2⟩ := Option.map_eq_some_iff.1 h
   simp only [Prod.mk.injEq] at e2
   obtain ⟨rfl,rfl,rfl⟩ := e2
   rw [e] at hx
   obtain ⟨c,q1,q2⟩ := loadP_rel (σA := σA) hx e1
   exact sim_pure hs hh hk (a := c) (by simp only [opA,q1,Option.map_some]) q2
  ·obtain ⟨b,e1,e2⟩ := Option.map_eq_some_iff.1 h
   simp only [Prod.mk.injEq] at e2
   obtain ⟨rfl,rfl,rfl⟩ := e2
   obtain ⟨c,q1,q2⟩ := loadA_rel hs hh hx e1
   exact sim_pure hs hh hk (a := c) (by simp only [opA,q1,Option.map_some]) q2
 case store k x y =>
  have hx := evalX_rel hs ho.1
  have hy := evalX_rel hs ho.2
  split at h
  ·rename_i r i n e
   split at h
   ·rename_i hw
    obtain ⟨⟨s2,H2⟩,e1,e2⟩ := Option.map_eq_some_iff.1 h
    simp only [Prod.mk.injEq] at e2
    obtain ⟨rfl,rfl,rfl⟩ := e2
    rw [e] at hx
    exact storeP_sim hs hh hk hw hx hy e1
   ·simp at h
  ·rename_i s i e
   obtain ⟨⟨s2,H2⟩,e1,e2⟩ := Option.map_eq_some_iff.1 h
   simp only [Prod.mk.injEq] at e2
   obtain ⟨rfl,rfl,rfl⟩ := e2
   rw [e] at hx
   have hx' : evalX σA x = .lptr s i := by simpa only [RV] using hx
   simp only [opA,hx']
   exact storeL_sim hs hh hk hy e1
  ·simp at h
 case chk x =>
  have hx := evalX_rel hs ho
  split at h
  all_goals first | (simp at h; done) | skip
  all_goals
   rename_i e
   simp only [Option.some.injEq,Prod.mk.injEq] at h
   obtain ⟨rfl,rfl,rfl⟩ := h
   rw [e] at hx
   have hx0 := hx
   simp only [RV] at hx
  ·obtain ⟨_,r',e',_⟩ := hx; exact sim_pure hs hh hk (by simp only [opA,e']; rfl) (by rw [← e']; exact hx0)
  ·exact sim_pure hs hh hk (by simp only [opA,hx]; rfl) (by simp only [RV])
  ·obtain ⟨ys,e',_⟩ := hx; exact sim_pure hs hh hk (by simp only [opA,e']; rfl) (by rw [← e']; exact hx0)
  ·obtain ⟨y,e',_⟩ := hx; exact sim_pure hs hh hk (by simp only [opA,e']; rfl) (by rw [← e']; exact hx0)
  ·obtain ⟨_,_,_,_,e',_⟩ := hx; exact sim_pure hs hh hk (by simp only [opA,e']; rfl) (by rw [← e']; exact hx0)
 case bin op ek x y =>
  have hx := evalX_rel hs ho.1
  have hy := evalX_rel hs ho.2
  have gen : ∀ op,(binA op ek (evalX σ x) (evalX σ y)).map (fun v => (v,σ,H)) = some (v,σ',H') → OpSim m0 m.wr g (opA D d (.bin op ek x y) σA g.M) v σ' H' := by
   intro op h
   obtain ⟨b,e1,e2⟩ := Option.map_eq_some_iff.1 h
   simp only [Prod.mk.injEq] at e2
   obtain ⟨rfl,rfl,rfl⟩ := e2
   exact sim_pure hs hh hk (a := b) (by simp only [opA,binA_rel hx hy e1,Option.map_some]) (rv_const _ _ _ (binA_isC e1))
  have hnil : isVs (evalX σ x) = true ∧ isNilC (evalX σ y) = true ∨ isNilC (evalX σ x) = true ∧ isVs (evalX σ y) = true → eqv .slice (evalX σA x) (evalX σA y) = some false ∧ ∀ op,op = .eql ∨ op = .neq → binA op .slice (evalX σA x) (evalX σA y) = (eqv .slice (evalX σA x) (evalX σA y)).map fun b => .c (.bool (if op = .eql then b else !b)) := by
   have vsl : ∀ {u a : AV},RV g κ u a → isVs u = true → ∃ r off len cap sz gg ex,a = .sl r off len cap sz gg ex := fun {u a} h1 h2 => by
    cases u <;> simp only [isVs,Bool.false_eq_true] at h2
    obtain ⟨_,_,_,_,_,_,e,_⟩ := rv_vsx h1
    exact ⟨_,_,_,_,_,_,_,e⟩
   have nsl : ∀ {u a : AV},RV g κ u a → isNilC u = true → a = .c (.slice none 0 0) := fun {u a} h1 h2 => by
    unfold isNilC at h2
    split at h2
    ·exact rv_c h1
    ·simp at h2
   rintro (⟨h1,h2⟩ | ⟨h1,h2⟩)
   ·obtain ⟨_,_,_,_,_,_,_,e⟩ := vsl hx h1
    rw [e,nsl hy h2]
    exact ⟨rfl,fun op ho => by rcases ho with rfl | rfl <;> simp [binA]⟩
   ·obtain ⟨_,_,_,_,_,_,_,e⟩ := vsl hy h2
    rw [e,nsl hx h1]
    exact ⟨rfl,fun op ho => by rcases ho with rfl | rfl <;> simp [binA]⟩
  split at h
  ·split at h
   ·rename_i hc
    simp only [Option.some.injEq,Prod.mk.injEq] at h
    obtain ⟨rfl,rfl,rfl⟩ := h
    obtain ⟨q1,q2⟩ := hnil hc
    exact sim_pure hs hh hk (a := .c (.bool false)) (by simp only [opA,q2 .eql (.inl rfl),q1]; rfl) (rv_of_c _ _ _)
   ·exact gen .eql h
  ·split at h
   ·rename_i hc
    simp only [Option.some.injEq,Prod.mk.injEq] at h
    obtain ⟨rfl,rfl,rfl⟩ := h
    obtain ⟨q1,q2⟩ := hnil hc
    exact sim_pure hs hh hk (a := .c (.bool true)) (by simp only [opA,q2 .neq (.inr rfl),q1]; rfl) (rv_of_c _ _ _)
   ·exact gen .neq h
  ·exact gen op h
 case un op x =>
  have hx := evalX_rel hs ho
  obtain ⟨b,e1,e2⟩ := Option.map_eq_some_iff.1 h
  simp only [Prod.mk.injEq] at e2
  obtain ⟨rfl,rfl,rfl⟩ := e2
  obtain ⟨q1,q2⟩ := unA_rel hx e1
  exact sim_pure hs hh hk (a := b) (by simp only [opA,q1,Option.map_some]) (rv_const _ _ _ q2)
 case conv k x =>
  have hx := evalX_rel hs ho
  split at h
  ·rename_i k n e
   simp only [Option.some.injEq,Prod.mk.injEq] at h
   obtain ⟨rfl,rfl,rfl⟩ := h
   rw [e] at hx
   exact sim_pure hs hh hk (by simp only [opA,rv_c hx]) (rv_of_c _ _ _)
  ·rename_i e
   simp only [Option.some.injEq,Prod.mk.injEq] at h
   obtain ⟨rfl,rfl,rfl⟩ := h
   rw [e] at hx
   exact sim_pure hs hh hk (by simp only [opA,rv_c hx]) (rv_of_c _ _ _)
  ·rename_i e
   simp only [Option.some.injEq,Prod.mk.injEq] at h
   obtain ⟨rfl,rfl,rfl⟩ := h
   rw [e] at hx
   exact sim_pure hs hh hk (by simp only [opA,rv_c hx]) (rv_of_c _ _ _)
  ·rename_i k f l e
   split at h
   ·rename_i hk1
    subst hk1
    obtain ⟨bs,e1,e2⟩ := Option.map_eq_some_iff.1 h
    simp only [Prod.mk.injEq] at e2
    obtain ⟨rfl,rfl,rfl⟩ := e2
    rw [e] at hx
    obtain ⟨r,off,cap,sz,gg,ex,ea,h1,h2,h3,h4,h5⟩ := rv_vsx hx
    refine sim_pure hs hh hk (a := .c (.string ⟨bs.toArray⟩)) ?_ (rv_of_c _ _ _)
    have hrd : (rdRow0 g.M r off l.length gg).bind bytesOf = some bs := by
     by_cases hl : l = []
     ·subst hl
      simpa [rdRow0] using e1
     ·obtain ⟨_,as,q1,q2⟩ := h4 hl
      rw [Nat.mul_one] at q1
      rw [rdRow0_of (fun _ => q1) (fun e => (hl (List.length_eq_zero_iff.1 e)).elim),Option.bind_some]
      exact bytesOf_rel (rvss_rvs.1 q2) e1
    simp only [opA,ea,hrd,Option.map_some]
   ·simp at h
  ·rename_i r off len cap sz gg ex e
   obtain ⟨bs,e1,e2⟩ := Option.map_eq_some_iff.1 h
   simp only [Prod.mk.injEq] at e2
   obtain ⟨rfl,rfl,rfl⟩ := e2
   rw [e] at hx
   simp only [RV] at hx
   obtain ⟨_,r',ea,hr⟩ := hx
   refine sim_pure hs hh hk (a := .c (.string ⟨bs.toArray⟩)) ?_ (rv_of_c _ _ _)
   obtain ⟨cs,p1,p2⟩ := Option.bind_eq_some_iff.1 e1
   have hrd : (rdRow0 g.M r' off len gg).bind bytesOf = some bs := by
    unfold rdRow0 at p1 ⊢
    split at p1
    ·rename_i e0
     rw [if_pos e0]
     obtain rfl := Option.some.inj p1
     exact p2
    ·rename_i e0
     rw [if_neg e0]
     obtain ⟨as,q1,q2⟩ := rdRow_rel hh p1 hr
     rw [q1,Option.bind_some]
     exact bytesOf_rel q2 p2
   simp only [opA,ea,hrd,Option.map_some]
  ·rename_i s e
   split at h
   ·rename_i hb
    simp only [Option.some.injEq,Prod.mk.injEq] at h
    obtain ⟨rfl,rfl,rfl⟩ := h
    rw [e] at hx
    have hlen : (s.data.toList.map fun b => [AV.c (.int .u8 b.toNat)]).length = s.size := by simp
    refine sim_far0 hs hh hk hm (.grow (s.data.toList.map fun b => .c (.int .u8 b.toNat)) 0) (a := .sl g.M.length 0 s.size s.size 1 s.size false) ?_ ?_
    ·simp only [opA,rv_c hx]
     rw [if_pos hb]
    ·simp only [RV,hlen]
     have hflat : ∀ l : List UInt8,(l.map fun b => [AV.c (.int .u8 b.toNat)]).flatten = l.map fun b => AV.c (.int .u8 b.toNat) := fun l => by
      induction l with
      | nil => rfl
      | cons b r ih => simp only [List.map_cons,List.flatten_cons,ih]; rfl
     refine ⟨_,_,_,_,_,_,rfl,Nat.le_refl _,by simp,fun cs hcs => ?_,fun _ => ⟨fun q hq => by have := (hh.dom q _ hq).2; omega,s.data.toList.map fun b => .c (.int .u8 b.toNat),?_,rvss_rvs.2 ?_⟩,fun c hc => by simp at hc⟩
     ·obtain ⟨b,_,rfl⟩ := List.mem_map.1 hcs
      exact ⟨rfl,rfl⟩
     ·have hal : (s.data.toList.map fun b => AV.c (.int .u8 b.toNat)).length = s.size := by simp
      simp only [allocF,rdRow,List.getElem?_append_right (Nat.le_refl _),Nat.sub_self,List.getElem?_cons_zero,AObj.isRow,AObj.lo,AObj.cells]
      rw [if_pos ⟨trivial,Nat.zero_le _,by omega,by omega⟩,List.drop_zero,List.take_of_length_le (by omega)]
     ·rw [hflat]
      refine rvs_const _ _ _ (List.all_eq_true.2 fun x hx => ?_)
      obtain ⟨b,_,rfl⟩ := List.mem_map.1 hx
      rfl
   ·simp at h
  ·simp at h
 case mknz sz bytes s x =>
  have hx := evalX_rel hs ho.1
  have hrep : ∀ n,RVs g no (List.replicate n .undef) (List.replicate n .undef) := fun n => by
   induction n with
   | zero => simp only [List.replicate_zero,RVs]
   | succ n ih => simp only [List.replicate_succ,RVs]; exact ⟨.undef,_,rfl,by simp only [RV],ih⟩
  split at h
  ·rename_i n e e0
   split at h
   ·rename_i hb
    simp only [Option.some.injEq,Prod.mk.injEq] at h
    obtain ⟨rfl,rfl,rfl⟩ := h
    rw [e] at hx
    obtain rfl := Option.map_eq_none_iff.1 e0
    refine sim_row hs hh hk hm (.grow 0 (hrep _)) (a := .sl g.M.length 0 n.toNat n.toNat 1 (n.toNat * 1) false) ?_ fun g' hn hα => ?_
    ·simp only [opA,rv_c hx,Option.map_none]
     rw [if_pos hb]
    ·simp only [RV]
     exact ⟨by rw [hn,hh.n]; omega,g.M.length,rfl,fun q hq => hα q (by rw [hh.n]; exact hq)⟩
   ·simp at h
  ·rename_i n e e0
   split at h
   ·rename_i hb
    simp only [Option.some.injEq,Prod.mk.injEq] at h
    obtain ⟨rfl,rfl,rfl⟩ := h
    rw [e] at hx
    obtain ⟨s0,rfl,e2⟩ := Option.map_eq_some_iff.1 e0
    have hs0 := evalX_rel hs (show okX s0 = true from ho.2)
    rw [e2] at hs0
    refine sim_row hs hh hk hm (.grow 0 (hrep _)) (a := .sl g.M.length 0 n.toNat n.toNat sz (n.toNat * sz) false) ?_ fun g' hn hα => ?_
    ·simp only [opA,rv_c hx,Option.map_some,rv_c hs0]
     rw [if_pos hb]
    ·simp only [RV]
     exact ⟨by rw [hn,hh.n]; omega,g.M.length,rfl,fun q hq => hα q (by rw [hh.n]; exact hq)⟩
   ·simp at h
  ·simp at h
 case mks sz bytes zs l c =>
  have hl := evalX_rel hs ho.1.2
  have hc := evalX_rel hs ho.2
  split at h
  ·rename_i k1 l1 k2 c1 e1 e2
   split at h
   ·rename_i hb
    simp only [Option.some.injEq,Prod.mk.injEq] at h
    obtain ⟨rfl,rfl,rfl⟩ := h
    rw [e1] at hl
    rw [e2] at hc
    have hrep : ∀ n,(rep zs n).all isC = true := fun n => by
     induction n with
     | zero => rfl
     | succ n ih => simp only [rep,List.all_append,Bool.and_eq_true]; exact ⟨ho.1.1,ih⟩
    refine sim_row hs hh hk hm (.row (rvs_const g no _ (hrep _))) (a := .sl g.M.length 0 l1.toNat c1.toNat sz (c1.toNat * sz) true) ?_ fun g' hn hα => ?_
    ·simp only [opA,rv_c hl,rv_c hc]
     rw [if_pos hb]
    ·simp only [RV]
     exact ⟨by rw [hn,hh.n]; omega,g.M.length,rfl,fun q hq => hα q (by rw [hh.n]; exact hq)⟩
   ·simp at h
  ·simp at h
 case cut ck x lo hi mx =>
  have hx := evalX_rel hs ho.1.1.1
  cases ck with
  | arr n sz =>
   simp only at h
   split at h
   ·rename_i r i gg e
    obtain ⟨⟨l,hh2,mm⟩,e1,e2⟩ := Option.map_eq_some_iff.1 h
    simp only [Prod.mk.injEq] at e2
    obtain ⟨rfl,rfl,rfl⟩ := e2
    rw [e] at hx
    simp only [RV] at hx
    obtain ⟨hn,r',ea,hr⟩ := hx
    obtain ⟨m',q1,q2,_⟩ := cutBounds_rel hs ho.1.1.2 ho.1.2 ho.2 (.inl rfl) e1
    obtain rfl := q2 (.inr rfl)
    refine sim_pure hs hh hk (by simp only [opA,ea,q1,Option.map_some]; rfl) ?_
    simp only [RV]
    exact ⟨hn,r',rfl,hr⟩
   ·simp at h
  | str =>
   simp only at h
   obtain ⟨b,e1,e2⟩ := Option.map_eq_some_iff.1 h
   simp only [Prod.mk.injEq] at e2
   obtain ⟨rfl,rfl,rfl⟩ := e2
   unfold cutA at e1
   split at e1 <;> first | (rename_i e _; simp at e; done) | (simp at e1; done) | skip
   ·rename_i s _ e
    rw [e] at hx
    split at e1
    ·simp at e1
    ·rename_i hmx
     obtain ⟨⟨l,h2,mm⟩,w1,w2⟩ := Option.map_eq_some_iff.1 e1
     subst w2
     have hmn : mx = none := by cases mx <;> simp at hmx ⊢
     subst hmn
     obtain ⟨m',q1,_⟩ := cutBounds_rel hs ho.1.1.2 ho.1.2 (mx := none) rfl (.inl rfl) w1
     refine sim_pure hs hh hk (a := .c (.string (s.extract l h2))) ?_ (rv_of_c _ _ _)
     have q1' : cutBounds s.size s.size (lo.map (evalX σA)) (hi.map (evalX σA)) none = some (l,h2,m') := q1
     simp only [opA,cutA,rv_c hx]
     rw [if_neg (by simp),q1']
     rfl
  | slice sz =>
   simp only at h
   split at h
   ·rename_i k f l e
    rw [e] at hx
    split at h
    ·rename_i hk1
     subst hk1
     obtain ⟨⟨i,j,c⟩,e1,e2⟩ := Option.map_eq_some_iff.1 h
     simp only [Prod.mk.injEq] at e2
     obtain ⟨rfl,rfl,rfl⟩ := e2
     obtain ⟨r,off,cap,sz',gg,ex,ea,h1,h2,h3,h4,h5⟩ := rv_vsx hx
     obtain ⟨m',q1,q2,q3,q4,q5,q6⟩ := cutBounds_rel hs ho.1.1.2 ho.1.2 ho.2 (cap' := cap) (.inr ⟨rfl,h1⟩) e1
     refine sim_pure hs hh hk (a := .sl r (if m' = i then off else off + i * k) (j - i) (m' - i) sz' gg (ex || (mx.map (evalX σA)).isSome)) ?_ ?_
     ·simp only [opA,ea,cutA]
      rw [if_pos h2,q1]
      rfl
     ·have hlen : ((l.take j).drop i).length = j - i := by simp; omega
      simp only [RV,hlen]
      have hsub : ∀ cs ∈ (l.take j).drop i,cs ∈ l := fun cs hcs => List.mem_of_mem_take (List.mem_of_mem_drop hcs)
      refine ⟨_,_,_,_,_,_,rfl,by omega,?_,fun cs hcs => h3 cs (hsub cs hcs),fun hne => ?_,fun c' hc' => ?_⟩
      ·cases ex <;> simp_all
      ·have hij : i < j := by
        have : (l.take j).drop i ≠ [] := hne
        have := List.length_pos_iff.2 this
        omega
       obtain ⟨hf,as,w1,w2⟩ := h4 (fun e => by subst e; simp at hij q6; omega)
       refine ⟨hf,(as.drop (i * k)).take ((j - i) * k),?_,rvss_rvs.2 ?_⟩
       ·rw [if_neg (by omega)]
        refine rdRow_sub w1 ?_
        rw [← Nat.add_mul]
        exact Nat.mul_le_mul_right _ (by omega)
       ·have w3 := rvss_rvs.1 w2
        have t1 := (take_flat j h3 (by omega)).1
        have t2 := (take_flat (l := l.take j) (k := k) i (fun cs hcs => h3 cs (List.mem_of_mem_take hcs)) (by simp; omega)).2
        rw [t2,t1,List.drop_take]
        have : j * k - i * k = (j - i) * k := by rw [Nat.mul_sub_right_distrib]
        rw [this]
        exact rvs_take (rvs_drop w3 _) _
      ·split at hc'
       ·rename_i hcc
        obtain rfl := q2 (.inl hcc.1)
        have : (mx.map (evalX σA)).isSome = true := by rw [Option.isSome_map]; exact hcc.1
        rw [this]
        exact ⟨by omega,.inl (by simp)⟩
       ·simp at hc'
    ·simp at h
   ·rename_i hnv
    obtain ⟨b,e1,e2⟩ := Option.map_eq_some_iff.1 h
    simp only [Prod.mk.injEq] at e2
    obtain ⟨rfl,rfl,rfl⟩ := e2
    unfold cutA at e1
    split at e1 <;> first | (rename_i e _; simp at e; done) | (simp at e1; done) | skip
    ·rename_i sz2 ek e
     rw [e] at hx
     obtain ⟨⟨i,j,c⟩,w1,w2⟩ := Option.map_eq_some_iff.1 e1
     subst w2
     obtain ⟨m',q1,_⟩ := cutBounds_rel hs ho.1.1.2 ho.1.2 ho.2 (.inl rfl) w1
     exact sim_pure hs hh hk (a := .c (.slice none 0 0)) (by simp only [opA,cutA,rv_c hx,q1,Option.map_some]) (rv_of_c _ _ _)
    ·rename_i r off len cap sz' gg ex ek e
     rw [e] at hx
     simp only [RV] at hx
     obtain ⟨hn,r',ea,hr⟩ := hx
     split at e1
     ·rename_i hex
      obtain ⟨⟨i,j,c⟩,w1,w2⟩ := Option.map_eq_some_iff.1 e1
      subst w2
      obtain ⟨m',q1,q2,_⟩ := cutBounds_rel hs ho.1.1.2 ho.1.2 ho.2 (.inl rfl) w1
      obtain rfl := q2 (.inr rfl)
      simp only [CutK.slice.injEq] at ek
      subst ek
      refine sim_pure hs hh hk (a := .sl r' (if m' = i then off else off + i * sz) (j - i) (m' - i) sz' gg (ex || (mx.map (evalX σ)).isSome)) ?_ ?_
      ·simp only [opA,ea,cutA]
       rw [if_pos hex,q1]
       simp only [Option.map_some,Option.isSome_map]
      ·simp only [RV]
       exact ⟨hn,r',rfl,hr⟩
     ·simp at e1
 case faddr off x =>
  have hx := evalX_rel hs ho
  split at h
  all_goals first | (simp at h; done) | skip
  all_goals
   rename_i e
   simp only [Option.some.injEq,Prod.mk.injEq] at h
   obtain ⟨rfl,rfl,rfl⟩ := h
   rw [e] at hx
   simp only [RV] at hx
  ·obtain ⟨hn,r',e',hr⟩ := hx; exact sim_pure hs hh hk (by simp only [opA,e']; rfl) (by simp only [RV]; exact ⟨hn,r',rfl,hr⟩)
  ·exact sim_pure hs hh hk (by simp only [opA,hx]; rfl) (by simp only [RV])
  ·obtain ⟨r,o,gg,as,e',q⟩ := hx
   exact sim_pure hs hh hk (by simp only [opA,e']; rfl) (by simp only [RV]; exact ⟨r,o,gg,as,by rw [Nat.add_assoc],q⟩)
 case fld off k x =>
  have hx := evalX_rel hs ho
  split at h
  ·rename_i xs e
   obtain ⟨b,e1,e2⟩ := Option.map_eq_some_iff.1 h
   simp only [Prod.mk.injEq] at e2
   obtain ⟨rfl,rfl,rfl⟩ := e2
   rw [e] at hx
   simp only [RV] at hx
   obtain ⟨ys,ea,hys⟩ := hx
   obtain ⟨c,q1,q2⟩ := fromCells_rel hys e1
   exact sim_pure hs hh hk (a := c) (by simp only [opA,ea,q1,Option.map_some]) q2
  ·simp at h
 case iaddr sz arr x i =>
  have hx := evalX_rel hs ho.1
  have hi := evalX_rel hs ho.2
  split at h
  ·rename_i k f l _ j e1 e2
   split at h
   ·rename_i hc
    obtain ⟨rfl,h1,h2⟩ := hc
    simp only [Option.some.injEq,Prod.mk.injEq] at h
    obtain ⟨rfl,rfl,rfl⟩ := h
    rw [e1] at hx
    rw [e2] at hi
    obtain ⟨r,off,cap,sz',gg,ex,ea,q1,q2,q3,q4,q5⟩ := rv_vsx hx
    have hne : l ≠ [] := fun e => by subst e; simp at h2; omega
    obtain ⟨hf,as,w1,w2⟩ := q4 hne
    have hjl : j.toNat < l.length := by omega
    refine sim_pure hs hh hk (a := .ptr r (off + j.toNat * k) gg) ?_ ?_
    ·simp only [opA,ea,rv_c hi]
     rw [if_pos ⟨h1,h2⟩]
    ·have hmem : l.getD j.toNat [] ∈ l := by
      rw [List.getD_eq_getElem?_getD,List.getElem?_eq_getElem hjl]
      exact List.getElem_mem hjl
     have hck := q3 _ hmem
     simp only [RV]
     refine ⟨r,off + j.toNat * k,gg,(as.drop (j.toNat * k)).take k,rfl,hf,?_,?_,hck.2⟩
     ·rw [hck.1]
      refine rdRow_sub w1 ?_
      have := Nat.mul_le_mul_right k (show j.toNat + 1 ≤ l.length from hjl)
      rw [Nat.add_mul] at this
      omega
     ·rw [← getD_flat q3 hjl]
      exact rvs_take (rvs_drop (rvss_rvs.1 w2) _) _
   ·simp at h
  ·rename_i r off len cap sz' gg ex _ j e1 e2
   split at h
   ·rename_i hc
    simp only [Option.some.injEq,Prod.mk.injEq] at h
    obtain ⟨rfl,rfl,rfl⟩ := h
    rw [e1] at hx
    rw [e2] at hi
    simp only [RV] at hx
    obtain ⟨hn,r',ea,hr⟩ := hx
    refine sim_pure hs hh hk (a := .ptr r' (off + j.toNat * sz) gg) ?_ (by simp only [RV]; exact ⟨hn,r',rfl,hr⟩)
    simp only [opA,ea,rv_c hi]
    rw [if_pos hc]
   ·simp at h
  ·rename_i r o gg _ j n e1 e2
   split at h
   ·rename_i hc
    simp only [Option.some.injEq,Prod.mk.injEq] at h
    obtain ⟨rfl,rfl,rfl⟩ := h
    rw [e1] at hx
    rw [e2] at hi
    simp only [RV] at hx
    obtain ⟨hn,r',ea,hr⟩ := hx
    refine sim_pure hs hh hk (a := .ptr r' (o + j.toNat * sz) gg) ?_ (by simp only [RV]; exact ⟨hn,r',rfl,hr⟩)
    simp only [opA,ea,rv_c hi]
    rw [if_pos hc]
   ·simp at h
  ·rename_i dd o _ j n e1 e2
   split at h
   ·rename_i hc
    simp only [Option.some.injEq,Prod.mk.injEq] at h
    obtain ⟨rfl,rfl,rfl⟩ := h
    rw [e1] at hx
    rw [e2] at hi
    simp only [RV] at hx
    refine sim_pure hs hh hk (a := .lptr dd (o + j.toNat * sz)) ?_ (by simp only [RV])
    simp only [opA,hx,rv_c hi]
    rw [if_pos hc]
   ·simp at h
  ·rename_i cs o _ j n e1 e2
   split at h
   ·rename_i hc
    simp only [Option.some.injEq,Prod.mk.injEq] at h
    obtain ⟨rfl,rfl,rfl⟩ := h
    rw [e1] at hx
    rw [e2] at hi
    simp only [RV] at hx
    obtain ⟨r,o2,gg,as,ea,q⟩ := hx
    refine sim_pure hs hh hk (a := .ptr r (o2 + o + j.toNat * sz) gg) ?_ (by simp only [RV]; exact ⟨r,o2,gg,as,by rw [Nat.add_assoc],q⟩)
    simp only [opA,ea,rv_c hi]
    rw [if_pos hc]
   ·simp at h
  ·simp at h
 case idx arr x i =>
  have hx := evalX_rel hs ho.1
  have hi := evalX_rel hs ho.2
  split at h
  ·rename_i xs _ j n sz k e1 e2
   split at h
   ·rename_i hc
    obtain ⟨b,p1,p2⟩ := Option.map_eq_some_iff.1 h
    simp only [Prod.mk.injEq] at p2
    obtain ⟨rfl,rfl,rfl⟩ := p2
    rw [e1] at hx
    rw [e2] at hi
    simp only [RV] at hx
    obtain ⟨ys,ea,hys⟩ := hx
    obtain ⟨c,q1,q2⟩ := fromCells_rel hys p1
    refine sim_pure hs hh hk (a := c) ?_ q2
    simp only [opA,ea,rv_c hi]
    rw [if_pos hc,q1]
    rfl
   ·simp at h
  ·rename_i s _ j e1 e2
   split at h
   ·rename_i hc
    obtain ⟨b,p1,p2⟩ := Option.map_eq_some_iff.1 h
    simp only [Prod.mk.injEq] at p2
    obtain ⟨rfl,rfl,rfl⟩ := p2
    rw [e1] at hx
    rw [e2] at hi
    refine sim_pure hs hh hk (a := .c (.int .u8 b.toNat)) ?_ (rv_of_c _ _ _)
    simp only [opA,rv_c hx,rv_c hi]
    rw [if_pos hc,p1]
    rfl
   ·simp at h
  ·simp at h
 case ext x i =>
  have hx := evalX_rel hs ho
  split at h
  ·rename_i xs e
   obtain ⟨b,e1,e2⟩ := Option.map_eq_some_iff.1 h
   simp only [Prod.mk.injEq] at e2
   obtain ⟨rfl,rfl,rfl⟩ := e2
   rw [e] at hx
   simp only [RV] at hx
   obtain ⟨ys,ea,hys⟩ := hx
   obtain ⟨c,q1,q2⟩ := rvs_get hys e1
   exact sim_pure hs hh hk (a := c) (by simp only [opA,ea,q1,Option.map_some]) q2
  ·simp at h
 case call f xs =>
  have hx := evalXs_rel hs ho
  split at h
  ·rename_i hf
   obtain ⟨⟨v1,H1⟩,e1,e2⟩ := Option.map_eq_some_iff.1 h
   simp only at e2
   have hpl := rvs_pln (κ' := no) _ _ hx
   have hfa : AV.freeAll (xs.map (evalX σA)) = true := by rw [rvs_free _ _ hx]; exact hf
   have hc := call_sim (m0 := m0) (wr := m.wr) (d := d) hs hh hk hm hC (fun hw => hW hw f) hpl e1
   simp only [e2] at hc
   simp only [opA]
   rw [if_pos hfa]
   exact hc
  ·simp at h
 case callv x xs =>
  have hv := evalX_rel hs ho.1
  have hx := evalXs_rel hs ho.2
  split at h
  ·rename_i f cs e
   split at h
   ·rename_i hf
    obtain ⟨⟨v1,H1⟩,e1,e2⟩ := Option.map_eq_some_iff.1 h
    simp only at e2
    rw [e] at hv
    simp only [RV] at hv
    obtain ⟨ys,ea,hys⟩ := hv
    have hpl := rvs_pln (κ' := no) _ _ hx
    have hfa : AV.freeAll (xs.map (evalX σA)) = true := by rw [rvs_free _ _ hx]; exact hf
    have hc := call_sim (m0 := m0) (wr := m.wr) (d := d) hs hh hk hm hC (fun hw => hW hw f) (rvs_append hpl hys) e1
    simp only [e2] at hc
    simp only [opA,ea]
    rw [if_pos hfa]
    exact hc
   ·simp at h
  ·simp at h
 case append sz bytes s x =>
  have hx := evalX_rel hs ho.1
  have hy := evalX_rel hs ho.2
  split at h
  ·rename_i d' e
   rw [e] at hx
   split at h
   ·obtain ⟨l',he,hq⟩ := Option.bind_eq_some_iff.1 h
    clear h
    have h := hq
    clear hq
    obtain ⟨e1,e2,e3⟩ := elems_rel hh hy he
    split at h
    ·rename_i hl
     subst hl
     simp only [Option.some.injEq,Prod.mk.injEq] at h
     obtain ⟨rfl,rfl,rfl⟩ := h
     refine sim_pure hs hh hk (a := .c (.slice none 0 0)) ?_ (by rw [e]; exact rv_of_c _ _ _)
     simp only [opA,rv_c hx,appendA,e1,Option.bind_some]
     rfl
    ·rename_i hl
     have hpos : l'.length ≠ 0 := fun e => hl (List.length_eq_zero_iff.1 e)
     split at h
     ·rename_i hb
      simp only [Option.some.injEq,Prod.mk.injEq] at h
      obtain ⟨rfl,rfl,rfl⟩ := h
      obtain ⟨as,q1,q2⟩ := e3 hl
      refine sim_row hs hh hk hm (.grow 0 q2) (a := .sl g.M.length 0 l'.length l'.length sz (l'.length * sz) false) ?_ fun g' hn hα => ?_
      ·simp only [opA,rv_c hx,appendA,e1,Option.bind_some,hpos,if_false,q1]
       rw [if_pos ⟨hb.1,hb.2,rvs_okCell q2 (flat_ok e2)⟩]
       rfl
      ·simp only [RV]
       exact ⟨by rw [hn,hh.n]; omega,g.M.length,rfl,fun q hq => hα q (by rw [hh.n]; exact hq)⟩
     ·simp at h
   ·rw [e] at h
    exact appV_sim hs hh hk hm hx hy h
  ·rename_i d' k f l e
   rw [e] at hx
   exact appV_sim hs hh hk hm hx hy h
  ·rename_i r off len cap sz' gg ex e
   rw [e] at hx
   simp only [RV] at hx
   obtain ⟨hn,r',ea,hr⟩ := hx
   split at h
   ·rename_i hw
    obtain ⟨l',he,hq⟩ := Option.bind_eq_some_iff.1 h
    clear h
    have h := hq
    clear hq
    obtain ⟨e1,e2,e3⟩ := elems_rel hh hy he
    split at h
    ·rename_i hl
     subst hl
     split at h
     ·rename_i hlc
      simp only [Option.some.injEq,Prod.mk.injEq] at h
      obtain ⟨rfl,rfl,rfl⟩ := h
      refine sim_pure hs hh hk (a := .sl r' off len cap sz' gg ex) ?_ (by simp only [RV]; exact ⟨hn,r',rfl,hr⟩)
      simp only [opA,ea,appendA,e1,Option.bind_some,List.length_nil,if_true]
      rw [if_pos hlc]
      rfl
     ·simp at h
    ·rename_i hl
     have hpos : l'.length ≠ 0 := fun e => hl (List.length_eq_zero_iff.1 e)
     split at h
     ·rename_i hc
      obtain ⟨rfl,rfl,⟨h0,rfl⟩,rfl,rfl,h1,h2⟩ := hc
      cases ho2 : H[r]? with
      | none => rw [ho2] at h; simp at h
      | some o =>
       rw [ho2] at h
       simp only at h
       split at h
       ·rename_i hw2
        simp only [Option.some.injEq,Prod.mk.injEq] at h
        obtain ⟨rfl,rfl,rfl⟩ := h
        obtain ⟨as,q1,q2⟩ := e3 hl
        have hrow : o.isRow = true := by cases o <;> simp [AObj.isW] at hw2 <;> rfl
        obtain ⟨r2,o',w1,w2,w3⟩ := hh.row r o ho2 hrow
        obtain rfl := hr r2 w1
        obtain ⟨p1,p2,p3,p4,_,p5⟩ := set_row hh hk ho2 hrow hr (o1 := .grow (o.cells ++ l'.flatten) o.lo) (o1' := .grow (o'.cells ++ as) o.lo) (fun g' hu => .grow _ (rvs_append (rvs_up hu (Own.no _ _ no) _ _ w3.cells) (rvs_up hu (Own.no _ _ no) _ _ q2)))
        refine ⟨.sl r2 0 (cap + l'.length) (cap + l'.length) sz' (cap * sz' + l'.length * sz') false,σA,⟨g.α,g.n,g.M.set r2 (.grow (o'.cells ++ as) o.lo)⟩,κ,?_,?_,rvs_up p2 p3 _ _ hs,p1,⟨p4,p2,fun q _ hf => p5 q hf,fun e => by rw [hw] at e; simp at e⟩⟩
        ·simp only [opA,ea,appendA,e1,Option.bind_some,hpos,if_false,q1]
         rw [if_neg (by omega),if_pos ⟨h1,h2,rvs_okCell q2 (flat_ok e2)⟩,if_pos ⟨trivial,trivial,⟨h0,trivial⟩,trivial,trivial,by rw [w2]; simp [w3.isW,hw2.1,rvs_len w3.cells,hw2.2]⟩,w2,← w3.lo]
         rfl
        ·simp only [RV]
         exact ⟨hn,r2,rfl,hr⟩
       ·simp at h
     ·split at h
      ·rename_i hcap
       obtain ⟨H2,w1,w2⟩ := Option.map_eq_some_iff.1 h
       simp only [Prod.mk.injEq] at w2
       obtain ⟨rfl,rfl,rfl⟩ := w2
       obtain ⟨as,q1,q2⟩ := e3 hl
       obtain ⟨M',t1,t2,t3,t4,t5,t6⟩ := wrRow_rel hh hk hr q2 w1
       refine ⟨.sl r' off (len + l'.length) cap sz' gg ex,σA,⟨g.α,g.n,M'⟩,κ,?_,by simp only [RV]; exact ⟨hn,r',rfl,hr⟩,rvs_up t3 t4 _ _ hs,t2,⟨t5,t3,fun q _ hf => t6 q hf,fun e => by rw [hw] at e; simp at e⟩⟩
       simp only [opA,ea,appendA,e1,Option.bind_some,hpos,if_false,q1]
       rw [if_pos hcap,t1]
       rfl
      ·rename_i hcap
       split at h
       ·rename_i hb
        obtain ⟨rfl,rfl,hb1,hb2⟩ := hb
        simp only [Option.some.injEq,Prod.mk.injEq] at h
        obtain ⟨rfl,rfl,rfl⟩ := h
        obtain ⟨as,q1,q2⟩ := e3 hl
        refine sim_row hs hh hk hm (.grow 0 q2) (a := .sl g.M.length 0 l'.length l'.length sz (l'.length * sz) false) ?_ fun g' hn hα => ?_
        ·simp only [opA,ea,appendA,e1,Option.bind_some,hpos,if_false,q1]
         rw [if_neg hcap,if_pos ⟨by simpa using hb1,by simpa using hb2,rvs_okCell q2 (flat_ok e2)⟩,if_neg (by simp),if_pos trivial]
         simp [rdRow0]
        ·simp only [RV]
         exact ⟨by rw [hn,hh.n]; omega,g.M.length,rfl,fun q hq => hα q (by rw [hh.n]; exact hq)⟩
       ·simp at h
   ·simp at h
  ·simp at h
 case copy sz x y =>
  have hx := evalX_rel hs ho.1
  have hy := evalX_rel hs ho.2
  obtain ⟨l',e1,h⟩ := Option.bind_eq_some_iff.1 h
  obtain ⟨q1,q2,q3⟩ := elems_rel hh hy e1
  split at h
  ·rename_i r off len cap sz' gg ex e
   rw [e] at hx
   simp only [RV] at hx
   obtain ⟨hn,r',ea,hr⟩ := hx
   have hl0 : lenA (.sl r' off len cap sz' gg ex) = some len := rfl
   split at h
   ·rename_i h0
    simp only [Option.some.injEq,Prod.mk.injEq] at h
    obtain ⟨rfl,rfl,rfl⟩ := h
    subst h0
    refine sim_pure hs hh hk (a := .c (.int .i64 0)) ?_ (rv_of_c _ _ _)
    simp only [opA,ea,q1,hl0,Option.bind_some,List.length_nil,if_true,Nat.zero_min]
   ·rename_i h0
    split at h
    ·rename_i hc
     obtain ⟨H2,w1,w2⟩ := Option.map_eq_some_iff.1 h
     simp only [Prod.mk.injEq] at w2
     obtain ⟨rfl,rfl,rfl⟩ := w2
     obtain ⟨as,p1,p2⟩ := q3 h0
     obtain ⟨M',t1,t2,t3,t4,t5,t6⟩ := wrRow_rel hh hk hr p2 w1
     have hl : l'.length ≠ 0 := fun h => h0 (List.length_eq_zero_iff.1 h)
     refine ⟨.c (.int .i64 l'.length),σA,⟨g.α,g.n,M'⟩,κ,?_,rv_of_c _ _ _,rvs_up t3 t4 _ _ hs,t2,⟨t5,t3,fun q _ hf => t6 q hf,fun e => by rw [hc.1] at e; simp at e⟩⟩
     simp only [opA,ea,q1,hl0,Option.bind_some]
     rw [if_neg hl,Nat.min_eq_left hc.2,p1,Option.bind_some]
     rw [if_neg hl,t1]
     rfl
    ·simp at h
  ·simp at h
 case len k x =>
  cases k with
  | arr n =>
   simp only [Option.some.injEq,Prod.mk.injEq] at h
   obtain ⟨rfl,rfl,rfl⟩ := h
   exact sim_pure hs hh hk rfl (rv_of_c _ _ _)
  | sl =>
   have hx := evalX_rel hs ho
   simp only at h
   split at h
   ·rename_i e
    simp only [Option.some.injEq,Prod.mk.injEq] at h
    obtain ⟨rfl,rfl,rfl⟩ := h
    rw [e] at hx
    exact sim_pure hs hh hk (by simp only [opA,rv_c hx]) (rv_of_c _ _ _)
   ·rename_i e
    simp only [Option.some.injEq,Prod.mk.injEq] at h
    obtain ⟨rfl,rfl,rfl⟩ := h
    rw [e] at hx
    simp only [RV] at hx
    obtain ⟨_,r',ea,_⟩ := hx
    exact sim_pure hs hh hk (by simp only [opA,ea]) (rv_of_c _ _ _)
   ·rename_i e
    simp only [Option.some.injEq,Prod.mk.injEq] at h
    obtain ⟨rfl,rfl,rfl⟩ := h
    rw [e] at hx
    obtain ⟨_,_,_,_,_,_,ea,_⟩ := rv_vsx hx
    exact sim_pure hs hh hk (by simp only [opA,ea]) (rv_of_c _ _ _)
   ·simp at h
  | cap =>
   have hx := evalX_rel hs ho
   simp only at h
   split at h
   ·rename_i e
    simp only [Option.some.injEq,Prod.mk.injEq] at h
    obtain ⟨rfl,rfl,rfl⟩ := h
    rw [e] at hx
    exact sim_pure hs hh hk (by simp only [opA,rv_c hx]) (rv_of_c _ _ _)
   ·rename_i e
    simp only [Option.some.injEq,Prod.mk.injEq] at h
    obtain ⟨rfl,rfl,rfl⟩ := h
    rw [e] at hx
    simp only [RV] at hx
    obtain ⟨_,r',ea,_⟩ := hx
    exact sim_pure hs hh hk (by simp only [opA,ea]) (rv_of_c _ _ _)
   ·simp at h
  | str =>
   have hx := evalX_rel hs ho
   simp only at h
   split at h
   ·rename_i e
    simp only [Option.some.injEq,Prod.mk.injEq] at h
    obtain ⟨rfl,rfl,rfl⟩ := h
    rw [e] at hx
    exact sim_pure hs hh hk (by simp only [opA,rv_c hx]) (rv_of_c _ _ _)
   ·simp at h
 case min xs =>
  have hx := evalXs_rel hs ho
  split at h
  ·rename_i k n r e
   obtain ⟨b,e1,e2⟩ := Option.map_eq_some_iff.1 h
   simp only [Prod.mk.injEq] at e2
   obtain ⟨rfl,rfl,rfl⟩ := e2
   rw [e] at hx
   simp only [RVs] at hx
   obtain ⟨a,as,ea,h1,h2⟩ := hx
   obtain ⟨q1,q2⟩ := fold_rel minA minA_isC h2 rfl e1
   exact sim_pure hs hh hk (a := b) (by simp only [opA,ea,rv_c h1,q1,Option.map_some]) (rv_const _ _ _ q2)
  ·simp at h
 case max xs =>
  have hx := evalXs_rel hs ho
  split at h
  ·rename_i k n r e
   obtain ⟨b,e1,e2⟩ := Option.map_eq_some_iff.1 h
   simp only [Prod.mk.injEq] at e2
   obtain ⟨rfl,rfl,rfl⟩ := e2
   rw [e] at hx
   simp only [RVs] at hx
   obtain ⟨a,as,ea,h1,h2⟩ := hx
   obtain ⟨q1,q2⟩ := fold_rel maxA maxA_isC h2 rfl e1
   exact sim_pure hs hh hk (a := b) (by simp only [opA,ea,rv_c h1,q1,Option.map_some]) (rv_const _ _ _ q2)
  ·simp at h
 case mkfn f cs =>
  have hx := evalXs_rel hs ho
  split at h
  ·rename_i hf
   simp only [Option.some.injEq,Prod.mk.injEq] at h
   obtain ⟨rfl,rfl,rfl⟩ := h
   refine sim_pure hs hh hk (a := .fn f (cs.map (evalX σA))) ?_ (by simp only [RV]; exact ⟨_,rfl,rvs_pln _ _ hx⟩)
   simp only [opA]
   rw [if_pos (by rw [rvs_free _ _ hx]; exact hf)]
  ·simp at h
 case mkif t x =>
  have hx := evalX_rel hs ho
  split at h
  ·rename_i hf
   simp only [Option.some.injEq,Prod.mk.injEq] at h
   obtain ⟨rfl,rfl,rfl⟩ := h
   refine sim_pure hs hh hk (a := .iface t (evalX σA x)) ?_ (by simp only [RV]; exact ⟨_,rfl,rv_pln _ _ hx⟩)
   simp only [opA]
   rw [if_pos (by rw [rv_free _ _ hx]; exact hf)]
  ·simp at h
 case imm cs =>
  simp only [Option.some.injEq,Prod.mk.injEq] at h
  obtain ⟨rfl,rfl,rfl⟩ := h
  exact sim_pure hs hh hk (a := .imm cs) rfl (by simp only [RV])
end
end Go.A.V
