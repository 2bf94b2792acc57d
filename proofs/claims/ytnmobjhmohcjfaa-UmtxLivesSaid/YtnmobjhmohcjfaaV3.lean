/- THE VALUE MACHINE: its heaps and steps. -/
import Derived.Test.YtnmobjhmohcjfaaV2
set_option linter.unusedSimpArgs false
set_option linter.unusedVariables false
set_option linter.unnecessarySimpa false
namespace Go.A.V
open Go Go.A
inductive OR (g : Gh) : AObj → AObj → Prop where
  | old {cs as : List AV} (h : RVs g no cs as) : OR g (.old cs) (.old as)
  | row {cs as : List AV} (h : RVs g no cs as) : OR g (.row cs) (.row as)
  | grow {cs as : List AV} (lo : Nat) (h : RVs g no cs as) : OR g (.grow cs lo) (.grow as lo)
theorem OR.cells {g : Gh} {o o' : AObj} (h : OR g o o') : RVs g no o.cells o'.cells := by cases h <;> assumption
theorem OR.lo {g : Gh} {o o' : AObj} (h : OR g o o') : o'.lo = o.lo := by cases h <;> rfl
theorem OR.isRow {g : Gh} {o o' : AObj} (h : OR g o o') : o'.isRow = o.isRow := by cases h <;> rfl
theorem OR.isW {g : Gh} {o o' : AObj} (h : OR g o o') : o'.isW = o.isW := by cases h <;> rfl
theorem OR.up {g g' : Gh} (hu : Up g g') {o o' : AObj} (h : OR g o o') : OR g' o o' := by
  cases h with
  | old h => exact .old (rvs_up hu (Own.no _ _ _) _ _ h)
  | row h => exact .row (rvs_up hu (Own.no _ _ _) _ _ h)
  | grow lo h => exact .grow lo (rvs_up hu (Own.no _ _ _) _ _ h)
structure HR (g : Gh) (H : Heap) : Prop where
  n : g.n = H.length
  dom : ∀ r r',g.α r = some r' → r < g.n ∧ r' < g.M.length
  inj : ∀ r q r',g.α r = some r' → g.α q = some r' → r = q
  row : ∀ r o,H[r]? = some o → o.isRow = true → ∃ r' o',g.α r = some r' ∧ g.M[r']? = some o' ∧ OR g o o'
structure KO (m0 : Nat) (g : Gh) (κ : Nat → Option Nat) : Prop where
  inj : ∀ c c' r,κ c = some r → κ c' = some r → c = c'
  far : ∀ c r,κ c = some r → Far g r ∧ m0 ≤ r ∧ r < g.M.length
structure Step (m0 : Nat) (wr : Bool) (g g' : Gh) (κ' : Nat → Option Nat) : Prop where
  ko : KO m0 g' κ'
  up : Up g g'
  far : ∀ r,r < m0 → Far g r → g'.M[r]? = g.M[r]?
  nw : wr = false → ∀ r r',g.α r = some r' → g'.M[r']? = g.M[r']?
def OpSim (m0 : Nat) (wr : Bool) (g : Gh) (res : Option (AV × List AV × Heap)) (v : AV) (σ' : List AV) (H' : Heap) : Prop :=
  ∃ a σA' g' κ',res = some (a,σA',g'.M) ∧ RV g' κ' v a ∧ RVs g' κ' σ' σA' ∧ HR g' H' ∧ Step m0 wr g g' κ'
theorem weak {g : Gh} {κ : Nat → Option Nat} {v a : AV} (h : RV g no v a) : RV g κ v a := rv_up (Up.refl g) (Own.no _ _ _) v a h
theorem weaks {g : Gh} {κ : Nat → Option Nat} {v a : List AV} (h : RVs g no v a) : RVs g κ v a := rvs_up (Up.refl g) (Own.no _ _ _) v a h
section
variable {m0 : Nat} {wr : Bool} {g : Gh} {κ : Nat → Option Nat} {σ σA : List AV} {H : Heap}
theorem Step.refl (hk : KO m0 g κ) : Step m0 wr g g κ := ⟨hk,Up.refl g,fun _ _ _ => rfl,fun _ _ _ _ => rfl⟩
theorem Step.trans {g1 g2 : Gh} {κ1 κ2 : Nat → Option Nat} (hm : m0 ≤ g.M.length) (h : Step m0 wr g g1 κ1) (k : Step m0 wr g1 g2 κ2) : Step m0 wr g g2 κ2 :=
  ⟨k.ko,h.up.trans k.up,fun r hr hf => (k.far r hr (h.up.far hf (by omega))).trans (h.far r hr hf),fun hw r r' e => (k.nw hw r r' (h.up.keep r r' e)).trans (h.nw hw r r' e)⟩
theorem sim_pure (hs : RVs g κ σ σA) (hh : HR g H) (hk : KO m0 g κ) {res : Option (AV × List AV × Heap)} {v a : AV} (hr : res = some (a,σA,g.M)) (hv : RV g κ v a) : OpSim m0 wr g res v σ H :=
  ⟨a,σA,g,κ,hr,hv,hs,hh,Step.refl hk⟩
def alloc (g : Gh) (o : AObj) : Gh := ⟨fun r => if r = g.n then some g.M.length else g.α r,g.n + 1,g.M ++ [o]⟩
def allocF (g : Gh) (o : AObj) : Gh := ⟨g.α,g.n,g.M ++ [o]⟩
theorem rdRow_app {M N : Heap} {r i n k : Nat} {cs : List AV} (h : rdRow M r i n k = some cs) : rdRow (M ++ N) r i n k = some cs := by
  have hl := rdRow_lt h
  simp only [rdRow] at h ⊢
  rw [List.getElem?_append_left hl]
  exact h
theorem up_alloc (hh : HR g H) (o : AObj) : Up g (alloc g o) where
  n := Nat.le_succ _
  keep := fun r r' h => by
    have := (hh.dom r r' h).1
    show (if r = g.n then _ else _) = _
    rw [if_neg (by omega)]; exact h
  dead := fun r hr h => by
    show (if r = g.n then _ else _) = _
    rw [if_neg (by omega)]; exact h
  new := fun r r' h => by
    simp only [alloc] at h
    split at h
    · obtain rfl := Option.some.inj h; exact .inr (Nat.le_refl _)
    · exact .inl h
  len := by simp [alloc]
  rd := fun r _ i n k as h => rdRow_app h
theorem up_allocF (o : AObj) : Up g (allocF g o) where
  n := Nat.le_refl _
  keep := fun r r' h => h
  dead := fun r hr h => h
  new := fun r r' h => .inl h
  len := by simp [allocF]
  rd := fun r _ i n k as h => rdRow_app h
theorem hr_up_row {g' : Gh} (hu : Up g g') (hh : HR g H) (hM : ∀ r r',g.α r = some r' → g'.M[r']? = g.M[r']?) {r : Nat} {o : AObj} (h1 : H[r]? = some o) (h2 : o.isRow = true) : ∃ r' o',g'.α r = some r' ∧ g'.M[r']? = some o' ∧ OR g' o o' := by
  obtain ⟨r',o',e1,e2,e3⟩ := hh.row r o h1 h2
  exact ⟨r',o',hu.keep r r' e1,(hM r r' e1).trans e2,e3.up hu⟩
theorem hr_alloc (hh : HR g H) {o o' : AObj} (ho : OR g o o') : HR (alloc g o') (H ++ [o]) where
  n := by simp [alloc,hh.n]
  dom := fun r r' h => by
    simp only [alloc] at h ⊢
    split at h
    · obtain rfl := Option.some.inj h; exact ⟨by omega,by simp⟩
    · have := hh.dom r r' h; exact ⟨by omega,by simp; omega⟩
  inj := fun r q r' h k => by
    simp only [alloc] at h k
    split at h <;> split at k
    · omega
    · obtain rfl := Option.some.inj h; have := (hh.dom q _ k).2; omega
    · obtain rfl := Option.some.inj k; have := (hh.dom r _ h).2; omega
    · exact hh.inj r q r' h k
  row := fun r ob h1 h2 => by
    have hu := up_alloc hh o'
    by_cases e : r < H.length
    · rw [List.getElem?_append_left e] at h1
      refine hr_up_row hu hh (fun r r' he => ?_) h1 h2
      exact List.getElem?_append_left (hh.dom r r' he).2
    · have hr : r = H.length := by
        have := (List.getElem?_eq_some_iff.1 h1).1
        simp at this; omega
      subst hr
      rw [List.getElem?_append_right (Nat.le_refl _)] at h1
      simp only [Nat.sub_self,List.getElem?_cons_zero,Option.some.injEq] at h1
      subst h1
      refine ⟨g.M.length,o',?_,by simp [alloc],ho.up hu⟩
      show (if H.length = g.n then _ else _) = _
      rw [if_pos hh.n.symm]
theorem hr_allocF (hh : HR g H) (o' : AObj) : HR (allocF g o') H where
  n := hh.n
  dom := fun r r' h => by have := hh.dom r r' h; exact ⟨this.1,by simp [allocF]; omega⟩
  inj := hh.inj
  row := fun r ob h1 h2 => hr_up_row (up_allocF o') hh (fun r r' he => List.getElem?_append_left (hh.dom r r' he).2) h1 h2
theorem ko_up {g' : Gh} (hu : Up g g') (hk : KO m0 g κ) : KO m0 g' κ :=
  ⟨hk.inj,fun c r h => by obtain ⟨h1,h2,h3⟩ := hk.far c r h; exact ⟨hu.far h1 h3,h2,Nat.lt_of_lt_of_le h3 hu.len⟩⟩
theorem own_app {g' : Gh} (hk : KO m0 g κ) (N : Heap) (h : g'.M = g.M ++ N) : Own g g' κ κ := fun c r e => ⟨e,by rw [h]; exact List.getElem?_append_left (hk.far c r e).2.2⟩
theorem step_app {g' : Gh} (hh : HR g H) (hk : KO m0 g κ) (hm : m0 ≤ g.M.length) (hu : Up g g') (N : Heap) (h : g'.M = g.M ++ N) : Step m0 wr g g' κ :=
  ⟨ko_up hu hk,hu,fun r hr _ => by rw [h]; exact List.getElem?_append_left (by omega),fun _ r r' e => by rw [h]; exact List.getElem?_append_left (hh.dom r r' e).2⟩
theorem rdRow_rel (hh : HR g H) {r r' i n k : Nat} {cs : List AV} (h : rdRow H r i n k = some cs) (hr : ∀ q,g.α r = some q → q = r') : ∃ as,rdRow g.M r' i n k = some as ∧ RVs g no cs as := by
  unfold rdRow at h
  split at h
  · rename_i o ho
    split at h
    · rename_i hc
      obtain rfl := Option.some.inj h
      obtain ⟨h1,h2,h3,h4⟩ := hc
      obtain ⟨q,o',e1,e2,e3⟩ := hh.row r o ho h1
      obtain rfl := hr q e1
      refine ⟨(o'.cells.drop i).take n,?_,rvs_take (rvs_drop e3.cells i) n⟩
      simp only [rdRow,e2]
      rw [if_pos ⟨by rw [e3.isRow]; exact h1,by rw [e3.lo]; exact h2,h3,by rw [rvs_len e3.cells]; exact h4⟩]
    · simp at h
  · simp at h
theorem rdRow_sub {M : Heap} {r o n k i m : Nat} {as : List AV} (h : rdRow M r o n k = some as) (hi : i + m ≤ n) : rdRow M r (o + i) m k = some ((as.drop i).take m) := by
  unfold rdRow at h ⊢
  split at h
  · rename_i ob hob
    split at h
    · rename_i hc
      obtain rfl := Option.some.inj h
      obtain ⟨h1,h2,h3,h4⟩ := hc
      rw [if_pos ⟨h1,h2,by omega,h4⟩]
      congr 1
      rw [List.drop_take,List.drop_drop,List.take_take]
      congr 1
      omega
    · simp at h
  · simp at h
theorem rdRow_len {M : Heap} {r o n k : Nat} {as : List AV} (h : rdRow M r o n k = some as) : as.length = n := by
  unfold rdRow at h
  split at h
  · split at h
    · rename_i hc
      obtain rfl := Option.some.inj h
      obtain ⟨h1,h2,h3,h4⟩ := hc
      simp; omega
    · simp at h
  · simp at h
theorem fromCells_rel {k : Option Nat} {cs as : List AV} {i : Nat} {v : AV} (hs : RVs g κ cs as) (h : fromCells k cs i = some v) : ∃ a,fromCells k as i = some a ∧ RV g κ v a := by
  cases k with
  | none =>
    obtain ⟨a,h1,h2⟩ := rvs_get hs h
    exact ⟨a,h1,h2⟩
  | some n =>
    simp only [fromCells] at h ⊢
    split at h
    · rename_i hn
      obtain rfl := Option.some.inj h
      rw [if_pos (by rw [rvs_len hs]; exact hn)]
      refine ⟨_,rfl,?_⟩
      simp only [RV]
      exact ⟨_,rfl,rvs_take (rvs_drop hs i) n⟩
    · simp at h
theorem toCells_rel {v a : AV} (h : RV g κ v a) : RVs g κ (toCells v) (toCells a) := by
  have one : ∀ x y : AV,RV g κ x y → RVs g κ [x] [y] := fun x y h => by simp only [RVs]; exact ⟨y,[],rfl,h,rfl⟩
  cases v <;> have h0 := h <;> simp only [RV] at h
  case undef => subst h; exact one _ _ h0
  case c => subst h; exact one _ _ h0
  case ptr => obtain ⟨_,_,rfl,_⟩ := h; exact one _ _ h0
  case sl => obtain ⟨_,_,rfl,_⟩ := h; exact one _ _ h0
  case vs => obtain ⟨_,_,_,_,_,_,rfl,_⟩ := h; exact one _ _ h0
  case vp => obtain ⟨_,_,_,_,rfl,_⟩ := h; exact one _ _ h0
  case lbox => obtain ⟨_,rfl,_⟩ := h; exact one _ _ h0
  case lptr => subst h; exact one _ _ h0
  case agg => obtain ⟨_,rfl,h⟩ := h; exact h
  case tup => obtain ⟨_,rfl,_⟩ := h; exact one _ _ h0
  case fn => obtain ⟨_,rfl,_⟩ := h; exact one _ _ h0
  case iface => obtain ⟨_,rfl,_⟩ := h; exact one _ _ h0
  case imm => subst h; exact one _ _ h0
theorem getD_rel (hs : RVs g κ σ σA) (d : Nat) : RV g κ (σ.getD d .undef) (σA.getD d .undef) := by
  rw [List.getD_eq_getElem?_getD,List.getD_eq_getElem?_getD]
  cases e : σ[d]? with
  | none =>
    have : σA[d]? = none := by
      rw [List.getElem?_eq_none_iff] at e ⊢
      rw [rvs_len hs]; exact e
    rw [this]
    simp only [Option.getD_none,RV]
  | some x =>
    obtain ⟨y,h1,h2⟩ := rvs_get hs e
    rw [h1]; exact h2
mutual
theorem rv_const (g : Gh) (κ : Nat → Option Nat) : ∀ v : AV,isC v = true → RV g κ v v
  | .c v,_ => rv_of_c g κ v
  | .undef,h => by simp [isC] at h
  | .ptr ..,h => by simp [isC] at h
  | .sl ..,h => by simp [isC] at h
  | .vs ..,h => by simp [isC] at h
  | .vp ..,h => by simp [isC] at h
  | .lbox _,h => by simp [isC] at h
  | .lptr ..,h => by simp [isC] at h
  | .agg _,h => by simp [isC] at h
  | .tup _,h => by simp [isC] at h
  | .fn ..,h => by simp [isC] at h
  | .iface ..,h => by simp [isC] at h
  | .map _,h => by simp [isC] at h
  | .imm _,h => by simp [isC] at h
end
theorem rvs_const (g : Gh) (κ : Nat → Option Nat) : ∀ l : List AV,l.all isC = true → RVs g κ l l
  | [],_ => by simp only [RVs]
  | x :: r,h => by
    simp only [List.all_cons,Bool.and_eq_true] at h
    simp only [RVs]
    exact ⟨x,r,rfl,rv_const g κ x h.1,rvs_const g κ r h.2⟩
theorem okK_rel {v : AV} (h : okK v = true) : RV g κ v v := by
  cases v <;> simp only [okK,Bool.false_eq_true] at h
  case c => exact rv_of_c _ _ _
  case agg xs => simp only [RV]; exact ⟨xs,rfl,rvs_const _ _ xs h⟩
  case fn f xs =>
    cases xs with
    | nil => simp only [RV]; exact ⟨[],rfl,by simp only [RVs]⟩
    | cons _ _ => simp [okK] at h
theorem evalX_rel (hs : RVs g κ σ σA) {x : SX} (hx : okX x = true) : RV g κ (evalX σ x) (evalX σA x) := by
  cases x with
  | k v => exact okK_rel hx
  | t n =>
    have h := getD_rel hs n
    simp only [evalX]
    generalize σ.getD n .undef = v at h ⊢
    generalize σA.getD n .undef = a at h ⊢
    cases v <;> have h0 := h <;> simp only [RV] at h
    case undef => subst h; exact h0
    case c => subst h; exact h0
    case ptr => obtain ⟨_,_,rfl,_⟩ := h; exact h0
    case sl => obtain ⟨_,_,rfl,_⟩ := h; exact h0
    case vs => obtain ⟨_,_,_,_,_,_,rfl,_⟩ := h; exact h0
    case vp => obtain ⟨_,_,_,_,rfl,_⟩ := h; exact h0
    case lbox => obtain ⟨_,rfl,_⟩ := h; simp only [RV]
    case lptr => subst h; exact h0
    case agg => obtain ⟨_,rfl,_⟩ := h; exact h0
    case tup => obtain ⟨_,rfl,_⟩ := h; exact h0
    case fn => obtain ⟨_,rfl,_⟩ := h; exact h0
    case iface => obtain ⟨_,rfl,_⟩ := h; exact h0
    case imm => subst h; exact h0
theorem evalXs_rel (hs : RVs g κ σ σA) : ∀ {xs : List SX},xs.all okX = true → RVs g κ (xs.map (evalX σ)) (xs.map (evalX σA))
  | [],_ => by simp only [List.map_nil,RVs]
  | x :: r,h => by
    simp only [List.all_cons,Bool.and_eq_true] at h
    simp only [List.map_cons,RVs]
    exact ⟨_,_,rfl,evalX_rel hs h.1,evalXs_rel hs h.2⟩
theorem rv_forget (d : Nat) {v a : AV} (h : RV g κ v a) : RV g κ (forget d v) (forget d a) := by
  cases v <;> have h0 := h <;> simp only [RV] at h
  case undef => subst h; exact h0
  case c => subst h; exact h0
  case ptr => obtain ⟨_,_,rfl,_⟩ := h; exact h0
  case sl => obtain ⟨_,_,rfl,_⟩ := h; exact h0
  case vs => obtain ⟨_,_,_,_,_,_,rfl,_⟩ := h; exact h0
  case vp => obtain ⟨_,_,_,_,rfl,_⟩ := h; exact h0
  case lbox => obtain ⟨_,rfl,_⟩ := h; exact h0
  case lptr d' i =>
    subst h
    simp only [forget]
    split
    · simp only [RV]
    · exact h0
  case agg => obtain ⟨_,rfl,_⟩ := h; exact h0
  case tup => obtain ⟨_,rfl,_⟩ := h; exact h0
  case fn => obtain ⟨_,rfl,_⟩ := h; exact h0
  case imm => subst h; exact h0
  case iface => obtain ⟨_,rfl,_⟩ := h; exact h0
theorem rvs_forget (d : Nat) : ∀ {σ σA : List AV},RVs g κ σ σA → RVs g κ (σ.map (forget d)) (σA.map (forget d))
  | [],_,h => by simp only [RVs] at h; subst h; simp only [List.map_nil,RVs]
  | x :: xs,_,h => by
    simp only [RVs] at h
    obtain ⟨a,r,rfl,h1,h2⟩ := h
    simp only [List.map_cons,RVs]
    exact ⟨_,_,rfl,rv_forget d h1,rvs_forget d h2⟩
theorem unfls_map (cs : List Nat) : ∀ l : List AV,unfls cs l = l.map (unfl cs)
  | [] => by simp only [unfls,List.map_nil]
  | x :: r => by simp only [unfls,List.map_cons,unfls_map cs r]
theorem placeAll_rel : ∀ {ps : List (Nat × Nat × AV)} {ps' : List (Nat × Nat × AV)} {cs as l : List AV},RVs g κ cs as → ps'.length = ps.length →
    (∀ (i o k : Nat) (x : AV),ps[i]? = some (o,k,x) → ∃ y,ps'[i]? = some (o,k,y) ∧ RV g κ x y) → placeAll cs ps = some l → ∃ l',placeAll as ps' = some l' ∧ RVs g κ l l'
  | [],[],cs,as,l,hs,_,_,h => by
    simp only [placeAll,Option.some.injEq] at h
    subst h
    exact ⟨as,rfl,hs⟩
  | (o,k,x) :: ps,p' :: ps',cs,as,l,hs,hl,hp,h => by
    obtain ⟨y,e,hy⟩ := hp 0 o k x rfl
    simp only [List.getElem?_cons_zero,Option.some.injEq] at e
    subst e
    simp only [placeAll] at h ⊢
    split at h
    · rename_i hc
      have ht := toCells_rel hy
      have e1 := rvs_len ht
      have e2 := rvs_len hs
      rw [if_pos ⟨by rw [e1]; exact hc.1,by rw [e2]; exact hc.2.1,rvs_okCell ht hc.2.2⟩]
      exact placeAll_rel (rvs_append (rvs_append (rvs_take hs o) ht) (rvs_drop hs (o + k))) (by simpa using hl) (fun i o' k' x' hx => hp (i + 1) o' k' x' (by simpa using hx)) h
    · simp at h
  | [],_ :: _,_,_,_,_,hl,_,_ => by simp at hl
  | _ :: _,[],_,_,_,_,hl,_,_ => by simp at hl
theorem parts_rel (hs : RVs g κ σ σA) (f : AV → AV) {κ' : Nat → Option Nat} (hf : ∀ v a,RV g κ v a → RV g κ' (f v) a) {ps : List (Nat × Nat × SX)} (ho : (ps.all fun p => okX p.2.2) = true) :
    ∀ (i o k : Nat) (x : AV),(ps.map fun (o,k,x) => (o,k,f (evalX σ x)))[i]? = some (o,k,x) → ∃ y,(ps.map fun (o,k,x) => (o,k,evalX σA x))[i]? = some (o,k,y) ∧ RV g κ' x y := by
  intro i o k x h
  rw [List.getElem?_map,Option.map_eq_some_iff] at h
  obtain ⟨⟨o',k',x'⟩,h1,h2⟩ := h
  simp only [Prod.mk.injEq] at h2
  obtain ⟨rfl,rfl,rfl⟩ := h2
  refine ⟨evalX σA x',by rw [List.getElem?_map,h1]; rfl,hf _ _ (evalX_rel hs ?_)⟩
  exact (List.all_eq_true.1 ho) _ (List.mem_of_getElem? h1)
end
end Go.A.V
