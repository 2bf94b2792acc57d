/- THE VALUE MACHINE: stores, appends, calls. -/
import Derived.Test.YtnmobjhmohcjfaaV4
set_option linter.unusedSimpArgs false
set_option linter.unusedVariables false
set_option linter.unnecessarySimpa false
namespace Go.A.V
open Go Go.A
theorem chunk_len (k : Nat) : ∀ (n : Nat) (cs : List AV),(chunk k n cs).length = n
 | 0,_ => rfl
 | n + 1,cs => by simp [chunk,chunk_len k n]
theorem chunk_flat (k : Nat) : ∀ (n : Nat) (cs : List AV),cs.length = n * k → (chunk k n cs).flatten = cs
 | 0,cs,h => by
  have : cs = [] := List.eq_nil_of_length_eq_zero (by simpa using h)
  subst this; rfl
 | n + 1,cs,h => by
  rw [Nat.add_mul,Nat.one_mul] at h
  simp only [chunk,List.flatten_cons,chunk_flat k n (cs.drop k) (by simp; omega),List.take_append_drop]
theorem chunk_mem (k : Nat) : ∀ (n : Nat) (cs : List AV),cs.length = n * k → cs.all okCell = true → ∀ c ∈ chunk k n cs,c.length = k ∧ c.all okCell = true
 | 0,_,_,_ => by simp [chunk]
 | n + 1,cs,h,ho => by
  rw [Nat.add_mul,Nat.one_mul] at h
  intro c hc
  simp only [chunk,List.mem_cons] at hc
  rcases hc with rfl | hc
  ·refine ⟨by simp; omega,List.all_eq_true.2 fun x hx => List.all_eq_true.1 ho x (List.mem_of_mem_take hx)⟩
  ·exact chunk_mem k n (cs.drop k) (by simp; omega) (List.all_eq_true.2 fun x hx => List.all_eq_true.1 ho x (List.mem_of_mem_drop hx)) c hc
def SimC (W : FuncId → Bool) (D : Oracle) (f : FuncId) (args : List AV) (H : Heap) (v : AV) (H' : Heap) : Prop :=
 ∀ g as,HR g H → RVs g no args as → ∃ a g' κ',D f as g.M = some (a,g'.M) ∧ v.free = true ∧ HR g' H' ∧ RV g' κ' v a ∧
  (∀ c r,κ' c = some r → c = 0 ∧ g.M.length ≤ r ∧ r < g'.M.length ∧ Far g' r) ∧ Up g g' ∧ (∀ r,r < g.M.length → Far g r → g'.M[r]? = g.M[r]?) ∧ (W f = false → ∀ r r',g.α r = some r' → g'.M[r']? = g.M[r']?)
def SimO (W : FuncId → Bool) (C D : Oracle) : Prop := ∀ f args H v H',C f args H = some (v,H') → SimC W D f args H v H'
section
variable {m0 : Nat} {wr : Bool} {g : Gh} {κ : Nat → Option Nat} {σ σA : List AV} {H : Heap}
theorem map_unfl (cs : List Nat) (l : List AV) : l.map (unfl cs) = unfls cs l := (unfls_map cs l).symm
theorem storeP_sim (hs : RVs g κ σ σA) (hh : HR g H) (hk : KO m0 g κ) {k : Option Nat} {r i n : Nat} {x a v : AV} {σ' : List AV} {H' : Heap} (hw : wr = true) (ha : RV g κ (.ptr r i n) a) (hx : RV g κ x v)
  (h : storeA σ H k (.ptr r i n) (pln x) = some (σ',H')) : OpSim m0 wr g ((storeA σA g.M k a v).map fun p => (.tup [],p.1,p.2)) (.tup []) σ' H' := by
 simp only [RV] at ha
 obtain ⟨_,r',rfl,hr⟩ := ha
 have hp : RV g no (pln x) v := rv_pln x v hx
 generalize pln x = y at h hp
 have fin : ∀ (xs as : List AV) (H2 : Heap),RVs g no xs as → wrRow H r i n xs = some H2 → σ' = σ → H' = H2 → ∀ z,(z = (wrRow g.M r' i n as).map fun H' => (σA,H')) → OpSim m0 wr g (z.map fun p => (.tup [],p.1,p.2)) (.tup []) σ' H' := by
  rintro xs as H2 h1 h2 rfl rfl z rfl
  obtain ⟨M',q1,q2,q3,q4,q5,q6⟩ := wrRow_rel hh hk hr h1 h2
  refine ⟨.tup [],σA,⟨g.α,g.n,M'⟩,κ,by rw [q1]; rfl,by simp only [RV]; exact ⟨[],rfl,by simp only [RVs]⟩,rvs_up q3 q4 _ _ hs,q2,⟨q5,q3,fun q _ hf => q6 q hf,fun e => by rw [hw] at e; simp at e⟩⟩
 cases k with
 | none =>
  simp only [storeA] at h
  obtain ⟨H2,e1,e2⟩ := Option.map_eq_some_iff.1 h
  simp only [Prod.mk.injEq] at e2
  exact fin [y] [v] H2 (by simp only [RVs]; exact ⟨v,[],rfl,hp,rfl⟩) e1 e2.1.symm e2.2.symm _ rfl
 | some m =>
  simp only [storeA] at h
  split at h
  ·rename_i e; simp at e
  ·rename_i n' vs e
   simp only [Option.some.injEq] at e
   subst e
   simp only [RV] at hp
   obtain ⟨as,rfl,hp⟩ := hp
   split at h
   ·rename_i hl
    obtain ⟨H2,e1,e2⟩ := Option.map_eq_some_iff.1 h
    simp only [Prod.mk.injEq] at e2
    refine fin vs as H2 hp e1 e2.1.symm e2.2.symm _ ?_
    simp only [storeA]
    rw [if_pos (by rw [rvs_len hp]; exact hl)]
   ·simp at h
  ·simp at h
theorem rv_agg {v a : AV} {vs : List AV} (h : RV g κ v a) (e : v = .agg vs) : ∃ as,a = .agg as ∧ RVs g κ vs as := by subst e; simpa only [RV] using h
theorem putCells_rel {k : Option Nat} {xs ys zs : List AV} {i : Nat} {x v : AV} (hs : RVs g κ xs ys) (hx : RV g κ x v) (h : putCells k xs i x = some zs) : ∃ ws,putCells k ys i v = some ws ∧ RVs g κ zs ws := by
 have hl := rvs_len hs
 unfold putCells at h
 split at h
 ·simp at h
 ·rename_i hna
  split at h
  ·rename_i hi
   obtain rfl := Option.some.inj h
   have hva : ∀ as,v ≠ .agg as := fun as e => by
    subst e
    cases x <;> simp only [RV] at hx
    case undef => simp at hx
    case c => simp at hx
    case ptr => obtain ⟨_,_,e,_⟩ := hx; simp at e
    case sl => obtain ⟨_,_,e,_⟩ := hx; simp at e
    case vs => obtain ⟨_,_,_,_,_,_,e,_⟩ := hx; simp at e
    case vp => obtain ⟨_,_,_,_,e,_⟩ := hx; simp at e
    case lbox => obtain ⟨_,e,_⟩ := hx; simp at e
    case lptr => simp at hx
    case agg l => exact hna l rfl
    case tup => obtain ⟨_,e,_⟩ := hx; simp at e
    case fn => obtain ⟨_,e,_⟩ := hx; simp at e
    case iface => obtain ⟨_,e,_⟩ := hx; simp at e
    case imm => simp at hx
   have hv : putCells none ys i v = if i < ys.length then some (ys.set i v) else none := by
    cases v <;> first | rfl | exact absurd rfl (hva _)
   rw [hv,if_pos (by rw [hl]; exact hi)]
   exact ⟨_,rfl,rvs_set hs i hx⟩
  ·simp at h
 ·rename_i n vs
  split at h
  ·rename_i hc
   obtain rfl := Option.some.inj h
   obtain ⟨as,rfl,ha⟩ := rv_agg hx rfl
   have hal := rvs_len ha
   refine ⟨ys.take i ++ as ++ ys.drop (i + n),?_,rvs_append (rvs_append (rvs_take hs i) ha) (rvs_drop hs _)⟩
   simp only [putCells]
   rw [if_pos ⟨by rw [hal]; exact hc.1,by rw [hl]; exact hc.2⟩]
  ·simp at h
 ·simp at h
theorem storeL_sim (hs : RVs g κ σ σA) (hh : HR g H) (hk : KO m0 g κ) {k : Option Nat} {d i : Nat} {x v : AV} {σ' : List AV} {H' : Heap} (hx : RV g κ x v)
  (h : storeA σ H k (.lptr d i) x = some (σ',H')) : OpSim m0 wr g ((storeA σA g.M k (.lptr d i) v).map fun p => (.tup [],p.1,p.2)) (.tup []) σ' H' := by
 have hr := getD_rel hs d
 have hf := rv_free x v hx
 have ho := rv_one hx
 unfold storeA at h
 simp only at h
 split at h
 ·rename_i xs hd
  rw [hd] at hr
  simp only [RV] at hr
  obtain ⟨ys,e,hys⟩ := hr
  split at h
  ·rename_i hfx
   split at h
   ·rename_i hone
    split at h
    ·rename_i h1
     obtain ⟨zs,q1,q2⟩ := Option.map_eq_some_iff.1 h
     simp only [Prod.mk.injEq] at q2
     obtain ⟨rfl,rfl⟩ := q2
     obtain ⟨ws,p1,p2⟩ := putCells_rel hys hx q1
     refine ⟨.tup [],σA.set d (.lbox ws),g,κ,?_,by simp only [RV]; exact ⟨[],rfl,by simp only [RVs]⟩,rvs_set hs d (by simp only [RV]; exact ⟨ws,rfl,p2⟩),hh,Step.refl hk⟩
     simp only [storeA,e]
     rw [if_pos (by rw [hf]; exact hfx),if_pos (by rw [ho]; exact h1),p1]
     rfl
    ·simp at h
   ·rename_i n vs
    split at h
    ·rename_i hok
     obtain ⟨zs,q1,q2⟩ := Option.map_eq_some_iff.1 h
     simp only [Prod.mk.injEq] at q2
     obtain ⟨rfl,rfl⟩ := q2
     obtain ⟨ws,p1,p2⟩ := putCells_rel hys hx q1
     obtain ⟨as,rfl,ha⟩ := rv_agg hx rfl
     refine ⟨.tup [],σA.set d (.lbox ws),g,κ,?_,by simp only [RV]; exact ⟨[],rfl,by simp only [RVs]⟩,rvs_set hs d (by simp only [RV]; exact ⟨ws,rfl,p2⟩),hh,Step.refl hk⟩
     simp only [storeA,e]
     rw [if_pos (by rw [hf]; exact hfx),if_pos (rvs_okCell ha hok),p1]
     rfl
    ·simp at h
   ·simp at h
  ·simp at h
 ·simp at h
theorem flat_len {k : Nat} : ∀ {l : List (List AV)},(∀ cs ∈ l,cs.length = k ∧ cs.all okCell = true) → l.flatten.length = l.length * k
 | [],_ => by simp
 | c :: r,h => by
  have h1 := (h c (by simp)).1
  have h2 := flat_len (l := r) fun cs hc => h cs (by simp [hc])
  simp only [List.flatten_cons,List.length_append,h1,h2,List.length_cons,Nat.add_mul]
  omega
theorem flat_ok {k : Nat} : ∀ {l : List (List AV)},(∀ cs ∈ l,cs.length = k ∧ cs.all okCell = true) → l.flatten.all okCell = true
 | [],_ => rfl
 | c :: r,h => by
  simp only [List.flatten_cons,List.all_append,Bool.and_eq_true]
  exact ⟨(h c (by simp)).2,flat_ok fun cs hc => h cs (by simp [hc])⟩
theorem elems_rel (hh : HR g H) {sz : Nat} {x a : AV} {l' : List (List AV)} (hx : RV g κ x a) (h : elems H sz x = some l') :
  lenA a = some l'.length ∧ (∀ cs ∈ l',cs.length = sz ∧ cs.all okCell = true) ∧ (l' ≠ [] → ∃ as,firstA g.M sz l'.length a = some as ∧ RVs g no l'.flatten as) := by
 unfold elems at h
 split at h
 ·rename_i r off len cap sz' gg ex
  split at h
  ·simp at h
  ·rename_i hsz
   obtain ⟨cs,e1,e2⟩ := Option.bind_eq_some_iff.1 h
   split at e2
   ·rename_i hok
    obtain rfl := Option.some.inj e2
    simp only [RV] at hx
    obtain ⟨_,r',rfl,hr⟩ := hx
    have hlen : cs.length = len * sz := by
     unfold rdRow0 at e1
     split at e1
     ·rename_i e0; obtain rfl := Option.some.inj e1; rw [e0]; rfl
     ·exact rdRow_len e1
    rw [chunk_len]
    refine ⟨rfl,chunk_mem sz len cs hlen hok,fun hne => ?_⟩
    have hl0 : len * sz ≠ 0 := fun e0 => by
     have : len = 0 := by
      rcases Nat.mul_eq_zero.1 e0 with h | h
      ·exact h
      ·omega
     subst this
     exact hne rfl
    unfold rdRow0 at e1
    rw [if_neg hl0] at e1
    obtain ⟨as,q1,q2⟩ := rdRow_rel hh e1 hr
    refine ⟨as,?_,?_⟩
    ·simp only [firstA,Nat.le_refl,if_true]
     exact q1
    ·rw [chunk_flat sz len cs hlen]; exact q2
   ·simp at e2
 ·obtain rfl := Option.some.inj h
  rw [rv_c hx]
  exact ⟨rfl,by simp,fun e => (e rfl).elim⟩
 ·rename_i k f l
  split at h
  ·rename_i hkk
   obtain rfl := Option.some.inj h
   subst hkk
   simp only [RV] at hx
   obtain ⟨r,off,cap,sz',gg,ex,rfl,h1,h2,h3,h4,h5⟩ := hx
   refine ⟨rfl,h3,fun hl => ?_⟩
   obtain ⟨_,as,q1,q2⟩ := h4 hl
   refine ⟨as,?_,rvss_rvs.1 q2⟩
   simp only [firstA,Nat.le_refl,if_true]
   exact q1
  ·simp at h
 ·rename_i s
  split at h
  ·rename_i hsz
   obtain rfl := Option.some.inj h
   subst hsz
   rw [rv_c hx]
   have hlen : (s.data.toList.map fun b => [AV.c (.int .u8 b.toNat)]).length = s.size := by simp
   refine ⟨by rw [hlen]; rfl,?_,fun _ => ?_⟩
   ·intro cs hcs
    obtain ⟨b,_,rfl⟩ := List.mem_map.1 hcs
    exact ⟨rfl,rfl⟩
   ·have hflat : ∀ l : List UInt8,(l.map fun b => [AV.c (.int .u8 b.toNat)]).flatten = l.map fun b => AV.c (.int .u8 b.toNat) := fun l => by
     induction l with
     | nil => rfl
     | cons b r ih => simp only [List.map_cons,List.flatten_cons,ih]; rfl
    refine ⟨s.data.toList.map fun b => .c (.int .u8 b.toNat),?_,?_⟩
    ·simp only [firstA]
     rw [if_pos ⟨trivial,by rw [hlen]; exact Nat.le_refl _⟩,List.take_of_length_le (by rw [hlen]; simp)]
    ·rw [hflat]
     refine rvs_const _ _ _ (List.all_eq_true.2 fun x hx => ?_)
     obtain ⟨b,_,rfl⟩ := List.mem_map.1 hx
     rfl
  ·simp at h
 ·rename_i cs
  split at h
  ·rename_i hc
   obtain rfl := Option.some.inj h
   obtain ⟨rfl,hok⟩ := hc
   simp only [RV] at hx
   subst hx
   have hflat : ∀ l : List Value,(l.map fun b => [AV.c b]).flatten = l.map fun b => AV.c b := fun l => by
    induction l with
    | nil => rfl
    | cons b r ih => simp only [List.map_cons,List.flatten_cons,ih]; rfl
   refine ⟨by simp [lenA],fun ds hds => ?_,fun _ => ⟨cs.map .c,?_,?_⟩⟩
   ·obtain ⟨b,hb,rfl⟩ := List.mem_map.1 hds
    exact ⟨rfl,by simpa using (List.all_eq_true.1 hok) b hb⟩
   ·simp only [firstA,List.length_map]
    rw [if_pos ⟨trivial,Nat.le_refl _⟩,List.take_of_length_le (Nat.le_refl _)]
   ·rw [hflat]
    refine rvs_const _ _ _ (List.all_eq_true.2 fun x hx => ?_)
    obtain ⟨b,_,rfl⟩ := List.mem_map.1 hx
    rfl
  ·simp at h
 ·simp at h
def col (κ : Nat → Option Nat) (cs : List Nat) (d : Nat) (o : Option Nat) : Nat → Option Nat := fun x => if x = d then o else if cs.contains x then none else κ x
theorem col_old {cs : List Nat} {d : Nat} {o : Option Nat} (hd : cs.contains d = true) : ∀ c r,cs.contains c = false → κ c = some r → col κ cs d o c = some r := fun c r h1 h2 => by
 simp only [col]
 rw [if_neg (fun e => by rw [e,hd] at h1; simp at h1),h1]
 exact h2
theorem ko_none {cs : List Nat} {d : Nat} (hk : KO m0 g κ) : KO m0 g (col κ cs d none) where
 inj := fun c c' r h h' => by
  simp only [col] at h h'
  split at h
  ·simp at h
  ·split at h'
   ·simp at h'
   ·split at h
    ·simp at h
    ·split at h'
     ·simp at h'
     ·exact hk.inj c c' r h h'
 far := fun c r h => by
  simp only [col] at h
  split at h
  ·simp at h
  ·split at h
   ·simp at h
   ·exact hk.far c r h
theorem sim_far (hs : RVs g κ σ σA) (hh : HR g H) (hk : KO m0 g κ) (hm : m0 ≤ g.M.length) (o : AObj) (cs : List Nat) (d : Nat) (hd : cs.contains d = true) {res : Option (AV × List AV × Heap)} {v a : AV}
  (hr : res = some (a,σA,g.M ++ [o])) (hv : RV (allocF g o) (col κ cs d (some g.M.length)) v a) : OpSim m0 wr g res v (σ.map (unfl cs)) H := by
 have hu := up_allocF (g := g) o
 have hs1 := rvs_up hu (own_app hk [o] (g' := allocF g o) rfl) _ _ hs
 rw [map_unfl]
 refine ⟨a,σA,allocF g o,_,hr,hv,rvs_unfl cs (col_old hd) _ _ hs1,hr_allocF hh o,?_⟩
 have st := step_app (wr := wr) hh hk hm hu [o] (g' := allocF g o) rfl
 refine ⟨⟨fun c c' r h h' => ?_,fun c r h => ?_⟩,st.up,st.far,st.nw⟩
 ·simp only [col] at h h'
  split at h <;> split at h'
  ·omega
  ·obtain rfl := Option.some.inj h
   split at h'
   ·simp at h'
   ·have := (hk.far c' _ h').2.2; omega
  ·obtain rfl := Option.some.inj h'
   split at h
   ·simp at h
   ·have := (hk.far c _ h).2.2; omega
  ·split at h
   ·simp at h
   ·split at h'
    ·simp at h'
    ·exact hk.inj c c' r h h'
 ·simp only [col] at h
  split at h
  ·obtain rfl := Option.some.inj h
   exact ⟨fun q hq => by have := (hh.dom q _ hq).2; omega,hm,by simp [allocF]⟩
  ·split at h
   ·simp at h
   ·exact st.ko.far c r h
theorem rdRow0_of {M : Heap} {r i n k : Nat} {as : List AV} (h : n ≠ 0 → rdRow M r i n k = some as) (h0 : n = 0 → as = []) : rdRow0 M r i n k = some as := by
 unfold rdRow0
 split
 ·rename_i e; rw [h0 e]
 ·rename_i e; exact h e
theorem appV_sim (hs : RVs g κ σ σA) (hh : HR g H) (hk : KO m0 g κ) (hm : m0 ≤ g.M.length) {d sz bytes : Nat} {s x a b v : AV} {σ' : List AV} {H' : Heap} (ha : RV g κ s a) (hb : RV g κ x b)
  (h : appV d sz bytes s x σ H = some (v,σ',H')) : OpSim m0 wr g ((appendA g.M sz bytes a b).map fun p => (p.1,σA,p.2)) v σ' H' := by
 unfold appV at h
 obtain ⟨l',he,h⟩ := Option.bind_eq_some_iff.1 h
 obtain ⟨e1,e2,e3⟩ := elems_rel hh hb he
 have hnew : l' ≠ [] → ∃ as,firstA g.M sz l'.length b = some as ∧ RVs g no l'.flatten as ∧ as.all okCell = true ∧ as.length = l'.length * sz := fun hl => by
  obtain ⟨as,q1,q2⟩ := e3 hl
  exact ⟨as,q1,q2,rvs_okCell q2 (flat_ok e2),by rw [rvs_len q2,flat_len e2]⟩
 split at h
 ·rw [rv_c ha]
  split at h
  ·rename_i hl
   simp only [Option.some.injEq,Prod.mk.injEq] at h
   obtain ⟨rfl,rfl,rfl⟩ := h
   have hl' : l' = [] := by simpa using hl
   subst hl'
   rw [map_unfl]
   exact ⟨.c (.slice none 0 0),σA,g,col κ [d] d none,by simp [appendA,e1],rv_of_c _ _ _,rvs_unfl _ (col_old (by simp)) _ _ hs,hh,ko_none hk,Up.refl g,fun _ _ _ => rfl,fun _ _ _ _ => rfl⟩
  ·rename_i hl
   have hl' : l' ≠ [] := fun e => hl (by rw [e]; rfl)
   have hpos : l'.length ≠ 0 := fun e => hl' (List.length_eq_zero_iff.1 e)
   split at h
   ·rename_i hc
    simp only [Option.some.injEq,Prod.mk.injEq] at h
    obtain ⟨rfl,rfl,rfl⟩ := h
    obtain ⟨as,q1,q2,q3,q4⟩ := hnew hl'
    refine sim_far hs hh hk hm (.grow as 0) [d] d (by simp) (a := .sl g.M.length 0 l'.length l'.length sz (l'.length * sz) false) ?_ ?_
    ·simp only [appendA,e1,Option.bind_some,hpos,if_false,q1]
     rw [if_pos ⟨hc.1,hc.2,q3⟩]
     rfl
    ·simp only [RV]
     refine ⟨_,_,_,_,_,_,rfl,Nat.le_refl _,by simp,e2,fun _ => ⟨fun q hq => by have := (hh.dom q _ hq).2; omega,as,?_,rvss_rvs.2 (rvs_up (up_allocF _) (Own.no _ _ _) _ _ q2)⟩,fun c hc => ?_⟩
     ·simp only [allocF,rdRow,List.getElem?_append_right (Nat.le_refl _),Nat.sub_self,List.getElem?_cons_zero,AObj.isRow,AObj.lo,AObj.cells]
      rw [if_pos ⟨trivial,Nat.zero_le _,by omega,by omega⟩,List.drop_zero,List.take_of_length_le (by omega)]
     ·obtain rfl := Option.some.inj hc
      exact ⟨rfl,.inr ⟨by simp [col],rfl,hpos,rfl,rfl,.grow as 0,by simp [allocF],rfl,q4⟩⟩
   ·simp at h
 ·rename_i k c l _
  split at h
  ·rename_i hc
   obtain ⟨rfl,hc1,hc2⟩ := hc
   simp only [Option.some.injEq,Prod.mk.injEq] at h
   obtain ⟨rfl,rfl,rfl⟩ := h
   simp only [RV] at ha
   obtain ⟨r,off,cap,sz',gg,ex,rfl,h1,h2,h3,h4,h5⟩ := ha
   obtain ⟨rfl,h6⟩ := h5 c rfl
   have hall : ∀ cs ∈ l ++ l',cs.length = k ∧ cs.all okCell = true := fun cs hcs => by
    rcases List.mem_append.1 hcs with q | q
    ·exact h3 cs q
    ·exact e2 cs q
   have hsC : [c,d].contains d = true := by simp
   by_cases hl' : l' = []
   ·subst hl'
    simp only [List.append_nil]
    rw [map_unfl]
    have hres : (appendA g.M k bytes (.sl r off l.length l.length sz' gg ex) b).map (fun p => (p.1,σA,p.2)) = some (.sl r off l.length l.length sz' gg ex,σA,g.M) := by
     simp [appendA,e1]
    rcases h6 with h6 | ⟨p1,p2⟩
    ·refine ⟨_,σA,g,col κ [c,d] d none,hres,?_,rvs_unfl _ (col_old hsC) _ _ hs,hh,⟨⟨fun x y r h h' => ?_,fun x r h => ?_⟩,Up.refl g,fun _ _ _ => rfl,fun _ _ _ _ => rfl⟩⟩
     ·simp only [RV]
      exact ⟨r,off,l.length,sz',gg,ex,rfl,Nat.le_refl _,h2,h3,h4,fun c' _ => ⟨rfl,.inl h6⟩⟩
     ·simp only [col] at h h'
      split at h
      ·simp at h
      ·split at h'
       ·simp at h'
       ·split at h
        ·simp at h
        ·split at h'
         ·simp at h'
         ·exact hk.inj x y r h h'
     ·simp only [col] at h
      split at h
      ·simp at h
      ·split at h
       ·simp at h
       ·exact hk.far x r h
    ·refine ⟨_,σA,g,col κ [c,d] d (some r),hres,?_,rvs_unfl _ (col_old hsC) _ _ hs,hh,⟨⟨fun x y r' h h' => ?_,fun x r' h => ?_⟩,Up.refl g,fun _ _ _ => rfl,fun _ _ _ _ => rfl⟩⟩
     ·simp only [RV]
      exact ⟨r,off,l.length,sz',gg,ex,rfl,Nat.le_refl _,h2,h3,h4,fun c' hc' => ⟨rfl,.inr ⟨by obtain rfl := Option.some.inj hc'; simp [col],p2⟩⟩⟩
     ·have key : ∀ z,(if z = d then some r else if [c,d].contains z then none else κ z) = some r → z = d := fun z hz => by
       split at hz
       ·assumption
       ·split at hz
        ·simp at hz
        ·rename_i hz2
         have := hk.inj z c r hz p1
         subst this
         simp at hz2
      simp only [col] at h h'
      by_cases er : r' = r
      ·subst er
       rw [key x h,key y h']
      ·split at h
       ·exact (er (Option.some.inj h).symm).elim
       ·split at h'
        ·exact (er (Option.some.inj h').symm).elim
        ·split at h
         ·simp at h
         ·split at h'
          ·simp at h'
          ·exact hk.inj x y r' h h'
     ·simp only [col] at h
      split at h
      ·obtain rfl := Option.some.inj h; exact hk.far c r p1
      ·split at h
       ·simp at h
       ·exact hk.far x r' h
   ·have hpos : l'.length ≠ 0 := fun e => hl' (List.length_eq_zero_iff.1 e)
    obtain ⟨as,q1,q2,q3,q4⟩ := hnew hl'
    by_cases h7 : ex = true
    ·
     subst h7
     have hold : ∃ old,rdRow0 g.M r off (l.length * k) gg = some old ∧ RVs g no l.flatten old := by
      by_cases hl : l = []
      ·subst hl
       exact ⟨[],by simp [rdRow0],by simp only [List.flatten_nil,RVs]⟩
      ·obtain ⟨_,old,w1,w2⟩ := h4 hl
       have w3 := rvss_rvs.1 w2
       refine ⟨old,rdRow0_of (fun _ => w1) (fun e => ?_),w3⟩
       have := rdRow_len w1
       rw [e] at this
       exact List.length_eq_zero_iff.1 this
     obtain ⟨old,w1,w2⟩ := hold
     have w3 : old.length = l.length * k := by rw [rvs_len w2,flat_len h3]
     have w4 := rvs_okCell w2 (flat_ok h3)
     refine sim_far hs hh hk hm (.grow (old ++ as) 0) [c,d] d hsC (a := .sl g.M.length 0 (l.length + l'.length) (l.length + l'.length) k ((l.length + l'.length) * k) false) ?_ ?_
     ·simp only [appendA,e1,Option.bind_some,hpos,if_false,q1]
      rw [if_neg (by omega),if_pos ⟨hc1,hc2,q3⟩,if_neg (by simp),if_pos trivial,w1]
      simp only [Option.bind_some]
      rw [if_pos w4]
      rfl
     ·simp only [RV,List.length_append]
      have hlen : (old ++ as).length = (l.length + l'.length) * k := by simp [w3,q4,Nat.add_mul]
      refine ⟨g.M.length,0,l.length + l'.length,k,(l.length + l'.length) * k,false,rfl,Nat.le_refl _,by simp,hall,fun _ => ⟨fun q hq => by have := (hh.dom q _ hq).2; omega,old ++ as,?_,rvss_rvs.2 ?_⟩,fun c' hc' => ?_⟩
      ·simp only [allocF,rdRow,List.getElem?_append_right (Nat.le_refl _),Nat.sub_self,List.getElem?_cons_zero,AObj.isRow,AObj.lo,AObj.cells]
       rw [if_pos ⟨trivial,Nat.zero_le _,by omega,by omega⟩,List.drop_zero,List.take_of_length_le (by omega)]
      ·rw [List.flatten_append]
       exact rvs_append (rvs_up (up_allocF _) (Own.no _ _ _) _ _ w2) (rvs_up (up_allocF _) (Own.no _ _ _) _ _ q2)
      ·obtain rfl := Option.some.inj hc'
       exact ⟨rfl,.inr ⟨by simp [col],rfl,by omega,rfl,rfl,.grow (old ++ as) 0,by simp [allocF],rfl,hlen⟩⟩
    ·
     obtain ⟨p1,rfl,p3,rfl,rfl,o,p6,p7,p8⟩ := h6.resolve_left h7
     have hex : ex = false := by simpa using h7
     subst hex
     obtain ⟨f1,f2,f3⟩ := hk.far c r p1
     have hln : l ≠ [] := fun e => p3 (by rw [e]; rfl)
     obtain ⟨_,old,w1,w2⟩ := h4 hln
     have w3 := rvss_rvs.1 w2
     have hcells : old = o.cells := by
      unfold rdRow at w1
      rw [p6] at w1
      simp only at w1
      split at w1
      ·obtain rfl := Option.some.inj w1
       rw [List.drop_zero,List.take_of_length_le (by omega)]
      ·simp at w1
     subst hcells
     have hlo : o.lo ≤ l.length * sz' := by
      unfold rdRow at w1
      rw [p6] at w1
      simp only at w1
      split at w1
      ·rename_i hcc; exact hcc.2.1
      ·simp at w1
     have hres : (appendA g.M sz' bytes (.sl r 0 l.length l.length sz' (l.length * sz') false) b) = some (.sl r 0 (l.length + l'.length) (l.length + l'.length) sz' (l.length * sz' + l'.length * sz') false,g.M.set r (.grow (o.cells ++ as) o.lo)) := by
      simp only [appendA,e1,Option.bind_some,hpos,if_false,q1]
      rw [if_neg (by omega),if_pos ⟨hc1,hc2,q3⟩,if_pos ⟨trivial,trivial,⟨p3,trivial⟩,trivial,trivial,by rw [p6]; simp [p7,p8]⟩,p6]
     ·let g' : Gh := ⟨g.α,g.n,g.M.set r (.grow (o.cells ++ as) o.lo)⟩
      have hget : g'.M[r]? = some (.grow (o.cells ++ as) o.lo) := by show (g.M.set r _)[r]? = _; simp [f3]
      have hne : ∀ q,q ≠ r → g'.M[q]? = g.M[q]? := fun q hq => List.getElem?_set_ne (fun e => hq e.symm)
      have hu : Up g g' := ⟨Nat.le_refl _,fun _ _ h => h,fun _ _ h => h,fun _ _ h => .inl h,by show _ ≤ (g.M.set r _).length; simp,fun q hq i n k2 as2 h => by
       by_cases e : q = r
       ·subst e
        unfold rdRow at h ⊢
        rw [p6] at h
        rw [hget]
        simp only at h ⊢
        split at h
        ·rename_i hcc
         obtain rfl := Option.some.inj h
         rw [if_pos ⟨rfl,hcc.2.1,hcc.2.2.1,by show k2 ≤ (o.cells ++ as).length; rw [List.length_append]; have := hcc.2.2.2; omega⟩]
         congr 1
         show ((o.cells ++ as).drop i).take n = _
         have := hcc.2.2
         rw [List.drop_append_of_le_length (by omega),List.take_append_of_le_length (by simp; omega)]
        ·simp at h
       ·unfold rdRow at h ⊢
        rw [hne q e]; exact h⟩
      have hown : Own g g' (col κ [c,d] d none) (col κ [c,d] d (some r)) := fun x r' h => by
       simp only [col] at h ⊢
       split at h
       ·simp at h
       ·rename_i hxd
        split at h
        ·simp at h
        ·rename_i hx2
         rw [if_neg hxd,if_neg hx2]
         refine ⟨h,hne r' fun e => ?_⟩
         subst e
         have := hk.inj x c r' h p1
         subst this
         simp at hx2
      have hs1 := rvs_unfl [c,d] (κ' := col κ [c,d] d none) (col_old hsC) _ _ hs
      refine ⟨_,σA,g',col κ [c,d] d (some r),by rw [hres]; rfl,?_,by rw [map_unfl]; exact rvs_up hu hown _ _ hs1,⟨hh.n,fun a b h => by have := hh.dom a b h; exact ⟨this.1,by show b < (g.M.set r _).length; simpa using this.2⟩,hh.inj,fun a ob h1 h2 => hr_up_row hu hh (fun a b h => hne b fun e => f1 a (e ▸ h)) h1 h2⟩,⟨⟨fun x y r' h h' => ?_,fun x r' h => ?_⟩,hu,fun q hq _ => hne q (by omega),fun _ a b h => hne b fun e => f1 a (e ▸ h)⟩⟩
      ·simp only [RV,List.length_append]
       have hlen : (o.cells ++ as).length = (l.length + l'.length) * sz' := by simp [p8,q4,Nat.add_mul]
       have hmul : (l.length + l'.length) * sz' = l.length * sz' + l'.length * sz' := Nat.add_mul _ _ _
       refine ⟨r,0,l.length + l'.length,sz',l.length * sz' + l'.length * sz',false,rfl,Nat.le_refl _,by simp,hall,fun _ => ⟨f1,o.cells ++ as,?_,rvss_rvs.2 ?_⟩,fun c' hc' => ?_⟩
       ·unfold rdRow
        rw [hget]
        simp only []
        rw [if_pos ⟨rfl,by show o.lo ≤ _; omega,by omega,by show _ ≤ (o.cells ++ as).length; omega⟩]
        show some (((o.cells ++ as).drop 0).take _) = _
        rw [List.drop_zero,List.take_of_length_le (by omega)]
       ·rw [List.flatten_append]
        exact rvs_append (rvs_up hu (Own.no _ _ _) _ _ w3) (rvs_up hu (Own.no _ _ _) _ _ q2)
       ·obtain rfl := Option.some.inj hc'
        exact ⟨rfl,.inr ⟨by simp [col],rfl,by omega,rfl,hmul.symm,_,hget,rfl,by show (o.cells ++ as).length = _; omega⟩⟩
      ·have key : ∀ z,(if z = d then some r else if [c,d].contains z then none else κ z) = some r → z = d := fun z hz => by
        split at hz
        ·assumption
        ·split at hz
         ·simp at hz
         ·rename_i hz2
          have := hk.inj z c r hz p1
          subst this
          simp at hz2
       simp only [col] at h h'
       by_cases er : r' = r
       ·subst er
        rw [key x h,key y h']
       ·split at h
        ·exact (er (Option.some.inj h).symm).elim
        ·split at h'
         ·exact (er (Option.some.inj h').symm).elim
         ·split at h
          ·simp at h
          ·split at h'
           ·simp at h'
           ·exact hk.inj x y r' h h'
      ·have hlen : g'.M.length = g.M.length := by show (g.M.set r _).length = _; simp
       simp only [col] at h
       split at h
       ·obtain rfl := Option.some.inj h; exact ⟨f1,f2,by omega⟩
       ·split at h
        ·simp at h
        ·have := hk.far x r' h; exact ⟨this.1,this.2.1,by omega⟩
  ·simp at h
 ·simp at h
end
end Go.A.V
