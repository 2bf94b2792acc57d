/- THE VALUE MACHINE: single operations, first part. -/
import Derived.Test.YtnmobjhmohcjfaaV3
set_option linter.unusedSimpArgs false
set_option linter.unusedVariables false
set_option linter.unnecessarySimpa false
namespace Go.A.V
open Go Go.A
section
variable {m0 : Nat} {wr : Bool} {g : Gh} {κ : Nat → Option Nat} {σ σA : List AV} {H : Heap}
theorem eqScalar_rel {k : BK} {x y a b : AV} {r : Bool} (hx : RV g κ x a) (hy : RV g κ y b) (h : eqScalar k x y = some r) : eqScalar k a b = some r := by
 unfold eqScalar at h
 split at h <;> first | (rw [rv_c hx,rv_c hy]; exact h) | simp at h
theorem eqAll_rel : ∀ {ks : List BK} {xs ys as bs : List AV} {r : Bool},RVs g κ xs as → RVs g κ ys bs → eqAll ks xs ys = some r → eqAll ks as bs = some r
 | [],[],[],as,bs,r,hx,hy,h => by
  simp only [RVs] at hx hy
  subst hx; subst hy; exact h
 | k :: ks,x :: xs,y :: ys,as,bs,r,hx,hy,h => by
  simp only [RVs] at hx hy
  obtain ⟨a,as',rfl,h1,h2⟩ := hx
  obtain ⟨b,bs',rfl,h3,h4⟩ := hy
  simp only [eqAll] at h ⊢
  cases e : eqScalar k x y with
  | none => rw [e] at h; simp at h
  | some t =>
   rw [eqScalar_rel h1 h3 e]
   rw [e] at h
   cases t with
   | true => exact eqAll_rel h2 h4 h
   | false => exact h
 | [],_ :: _,_,_,_,_,_,_,h => by simp [eqAll] at h
 | [],[],_ :: _,_,_,_,_,_,h => by simp [eqAll] at h
 | _ :: _,[],_,_,_,_,_,_,h => by simp [eqAll] at h
 | _ :: _,_ :: _,[],_,_,_,_,_,h => by simp [eqAll] at h
theorem eqv_rel {ek : EqK} {x y a b : AV} {r : Bool} (hx : RV g κ x a) (hy : RV g κ y b) (h : eqv ek x y = some r) : eqv ek a b = some r := by
 unfold eqv at h
 split at h
 ·rw [rv_c hx,rv_c hy]; exact h
 ·rw [rv_c hx,rv_c hy]; exact h
 ·simp only [RV] at hx; obtain ⟨_,_,rfl,_⟩ := hx; rw [rv_c hy]; exact h
 ·simp only [RV] at hy; obtain ⟨_,_,rfl,_⟩ := hy; rw [rv_c hx]; exact h
 ·rw [rv_c hx,rv_c hy]; exact h
 ·simp only [RV] at hx; obtain ⟨_,_,rfl,_⟩ := hx; rw [rv_c hy]; exact h
 ·simp only [RV] at hy; obtain ⟨_,_,rfl,_⟩ := hy; rw [rv_c hx]; exact h
 ·rename_i ks xs ys
  simp only [RV] at hx hy
  obtain ⟨as,rfl,h1⟩ := hx
  obtain ⟨bs,rfl,h2⟩ := hy
  simp only [eqv]
  split at h
  ·rename_i hc
   rw [if_pos (by rw [rvs_len h1,rvs_len h2]; exact hc)]
   exact eqAll_rel h1 h2 h
  ·simp at h
 ·simp at h
theorem binA_rel {op : BinOp} {ek : EqK} {x y a b v : AV} (hx : RV g κ x a) (hy : RV g κ y b) (h : binA op ek x y = some v) : binA op ek a b = some v := by
 have gen : (∀ u,x = .c u → a = .c u) := fun u e => by subst e; exact rv_c hx
 have gen' : (∀ u,y = .c u → b = .c u) := fun u e => by subst e; exact rv_c hy
 by_cases hc : (∃ u,x = .c u) ∧ ∃ u,y = .c u
 ·obtain ⟨⟨u,rfl⟩,u',rfl⟩ := hc
  rw [gen u rfl,gen' u' rfl]; exact h
 ·have hn : ∀ (u u' : Value),x = .c u → y = .c u' → False := fun u u' e e' => hc ⟨⟨u,e⟩,u',e'⟩
  have hna : ∀ (u u' : Value),a = .c u → b = .c u' → False := by
   intro u u' e e'
   subst e; subst e'
   cases x <;> simp only [RV] at hx
   case c =>
    cases y <;> simp only [RV] at hy
    case c => exact hn _ _ rfl rfl
    case undef => simp at hy
    case ptr => obtain ⟨_,_,e,_⟩ := hy; simp at e
    case sl => obtain ⟨_,_,e,_⟩ := hy; simp at e
    case vs => obtain ⟨_,_,_,_,_,_,e,_⟩ := hy; simp at e
    case vp => obtain ⟨_,_,_,_,e,_⟩ := hy; simp at e
    case lbox => obtain ⟨_,e,_⟩ := hy; simp at e
    case lptr => simp at hy
    case agg => obtain ⟨_,e,_⟩ := hy; simp at e
    case tup => obtain ⟨_,e,_⟩ := hy; simp at e
    case fn => obtain ⟨_,e,_⟩ := hy; simp at e
    case iface => obtain ⟨_,e,_⟩ := hy; simp at e
    case imm => simp at hy
   case undef => simp at hx
   case ptr => obtain ⟨_,_,e,_⟩ := hx; simp at e
   case sl => obtain ⟨_,_,e,_⟩ := hx; simp at e
   case vs => obtain ⟨_,_,_,_,_,_,e,_⟩ := hx; simp at e
   case vp => obtain ⟨_,_,_,_,e,_⟩ := hx; simp at e
   case lbox => obtain ⟨_,e,_⟩ := hx; simp at e
   case lptr => simp at hx
   case agg => obtain ⟨_,e,_⟩ := hx; simp at e
   case tup => obtain ⟨_,e,_⟩ := hx; simp at e
   case fn => obtain ⟨_,e,_⟩ := hx; simp at e
   case iface => obtain ⟨_,e,_⟩ := hx; simp at e
   case imm => simp at hx
  unfold binA at h ⊢
  split at h
  ·exact (hn _ _ rfl rfl).elim
  ·exact (hn _ _ rfl rfl).elim
  ·exact (hn _ _ rfl rfl).elim
  ·exact (hn _ _ rfl rfl).elim
  ·obtain ⟨t,e1,e2⟩ := Option.map_eq_some_iff.1 h
   have e3 := eqv_rel hx hy e1
   split <;> first | exact (hna _ _ rfl rfl).elim | (rw [e3]; simpa using e2) | skip
   all_goals simp_all
  ·obtain ⟨t,e1,e2⟩ := Option.map_eq_some_iff.1 h
   have e3 := eqv_rel hx hy e1
   split <;> first | exact (hna _ _ rfl rfl).elim | (rw [e3]; simpa using e2) | skip
   all_goals simp_all
  ·simp at h
theorem binA_isC {op : BinOp} {ek : EqK} {x y v : AV} (h : binA op ek x y = some v) : isC v = true := by
 unfold binA at h
 split at h
 ·split at h <;> first | (simp at h; done) | (obtain rfl := Option.some.inj h; rfl)
 ·split at h <;> first | (simp at h; done) | (obtain rfl := Option.some.inj h; rfl)
 ·split at h
  ·unfold intBin at h
   split at h <;> first | (obtain rfl := Option.some.inj h; rfl) | (split at h <;> first | (simp at h; done) | (obtain rfl := Option.some.inj h; rfl)) | (simp at h; done)
  ·simp at h
 ·unfold strBin at h
  split at h <;> first | (obtain rfl := Option.some.inj h; rfl) | (split at h <;> first | (simp at h; done) | (obtain rfl := Option.some.inj h; rfl)) | (simp at h; done)
 ·obtain ⟨t,_,rfl⟩ := Option.map_eq_some_iff.1 h; rfl
 ·obtain ⟨t,_,rfl⟩ := Option.map_eq_some_iff.1 h; rfl
 ·simp at h
theorem unA_rel {op : UnOp} {x a v : AV} (hx : RV g κ x a) (h : unA op x = some v) : unA op a = some v ∧ isC v = true := by
 unfold unA at h
 split at h
 ·rw [rv_c hx]; refine ⟨h,?_⟩; obtain rfl := Option.some.inj h; rfl
 ·rw [rv_c hx]
  refine ⟨h,?_⟩
  unfold intBin at h
  simp only at h
  obtain rfl := Option.some.inj h; rfl
 ·rw [rv_c hx]; refine ⟨h,?_⟩; obtain rfl := Option.some.inj h; rfl
 ·simp at h
theorem bytesOf_rel : ∀ {cs as : List AV} {l : List UInt8},RVs g κ cs as → bytesOf cs = some l → bytesOf as = some l
 | [],_,l,hs,h => by simp only [RVs] at hs; subst hs; exact h
 | x :: cs,_,l,hs,h => by
  simp only [RVs] at hs
  obtain ⟨a,as,rfl,h1,h2⟩ := hs
  unfold bytesOf at h
  split at h
  ·rename_i e; simp at e
  ·rename_i n r e
   simp only [List.cons.injEq] at e
   obtain ⟨rfl,rfl⟩ := e
   rw [rv_c h1]
   obtain ⟨l',q1,rfl⟩ := Option.map_eq_some_iff.1 h
   simp only [bytesOf,bytesOf_rel h2 q1,Option.map_some]
  ·simp at h
theorem cutBound_rel {x a : AV} {y n : Nat} (hx : RV g κ x a) (h : cutBound x y = some n) : cutBound a y = some n := by
 unfold cutBound at h
 split at h
 ·rw [rv_c hx]; exact h
 ·simp at h
theorem xo_rel (hs : RVs g κ σ σA) {x : Option SX} (ho : okXo x = true) : ∀ v,x.map (evalX σ) = some v → ∃ a,x.map (evalX σA) = some a ∧ RV g κ v a := by
 intro v h
 cases x with
 | none => simp at h
 | some s =>
  simp only [Option.map_some,Option.some.injEq] at h
  subst h
  exact ⟨_,rfl,evalX_rel hs ho⟩
theorem cutBounds_rel (hs : RVs g κ σ σA) {lo hi mx : Option SX} (h1 : okXo lo = true) (h2 : okXo hi = true) (h3 : okXo mx = true) {len cap cap' l h m : Nat}
  (hc : cap = cap' ∨ (cap = len ∧ len ≤ cap' )) (hb : cutBounds len cap (lo.map (evalX σ)) (hi.map (evalX σ)) (mx.map (evalX σ)) = some (l,h,m)) :
  ∃ m',cutBounds len cap' (lo.map (evalX σA)) (hi.map (evalX σA)) (mx.map (evalX σA)) = some (l,h,m') ∧ (mx.isSome = true ∨ cap = cap' → m' = m) ∧ l ≤ h ∧ h ≤ m ∧ m ≤ m' ∧ m ≤ cap := by
 have bnd : ∀ {x : AV} {y n : Nat},cutBound x y = some n → n ≤ y := by
  intro x y n h
  unfold cutBound at h
  split at h
  ·split at h
   ·obtain rfl := Option.some.inj h; omega
   ·simp at h
  ·simp at h
 have bup : ∀ {x : AV} {y y' n : Nat},cutBound x y = some n → y ≤ y' → cutBound x y' = some n := by
  intro x y y' n h hy
  unfold cutBound at h ⊢
  split at h
  ·split at h
   ·rw [if_pos (by omega)]; exact h
   ·simp at h
  ·simp at h
 unfold cutBounds at hb ⊢
 split at hb
 ·rename_i hlc
  have hcc : cap ≤ cap' := by rcases hc with h | ⟨h,h'⟩ <;> omega
  rw [if_pos (by omega)]
  obtain ⟨m1,e1,hb⟩ := Option.bind_eq_some_iff.1 hb
  obtain ⟨h1',e2,hb⟩ := Option.bind_eq_some_iff.1 hb
  obtain ⟨l1,e3,hb⟩ := Option.map_eq_some_iff.1 hb
  simp only [Prod.mk.injEq] at hb
  obtain ⟨rfl,rfl,rfl⟩ := hb
  have hcap : ∃ m',capOf cap' (mx.map (evalX σA)) = some m' ∧ (mx.isSome = true ∨ cap = cap' → m' = m1) ∧ m1 ≤ m' ∧ m1 ≤ cap := by
   cases hm : mx.map (evalX σ) with
   | none =>
    have : mx = none := by cases mx <;> simp at hm ⊢
    subst this
    rw [hm] at e1
    simp only [capOf,Option.some.injEq] at e1
    subst e1
    exact ⟨cap',rfl,fun h => by rcases h with h | h <;> simp_all,hcc,Nat.le_refl _⟩
   | some v =>
    obtain ⟨a,q1,q2⟩ := xo_rel hs h3 v hm
    rw [hm] at e1
    simp only [capOf] at e1
    rw [q1]
    exact ⟨m1,bup (cutBound_rel q2 e1) hcc,fun _ => rfl,Nat.le_refl _,bnd e1⟩
  obtain ⟨m',q1,q2,q3,q4⟩ := hcap
  have hhigh : highOf len m' (hi.map (evalX σA)) (mx.map (evalX σA)) = some h1' ∧ h1' ≤ m1 := by
   cases hm : hi.map (evalX σ) with
   | none =>
    have : hi = none := by cases hi <;> simp at hm ⊢
    subst this
    rw [hm] at e2
    cases hx : mx.map (evalX σ) with
    | none =>
     have : mx = none := by cases mx <;> simp at hx ⊢
     subst this
     rw [hx] at e2 e1
     simp only [highOf,Option.some.injEq] at e2
     simp only [capOf,Option.some.injEq] at e1
     subst e2
     exact ⟨rfl,by omega⟩
    | some v => rw [hx] at e2; simp [highOf] at e2
   | some v =>
    obtain ⟨a,p1,p2⟩ := xo_rel hs h2 v hm
    rw [hm] at e2
    simp only [highOf] at e2
    rw [p1]
    exact ⟨bup (cutBound_rel p2 e2) q3,bnd e2⟩
  have hlow : lowOf h1' (lo.map (evalX σA)) = some l1 ∧ l1 ≤ h1' := by
   cases hm : lo.map (evalX σ) with
   | none =>
    have : lo = none := by cases lo <;> simp at hm ⊢
    subst this
    rw [hm] at e3
    simp only [lowOf,Option.some.injEq] at e3
    subst e3
    exact ⟨rfl,by omega⟩
   | some v =>
    obtain ⟨a,p1,p2⟩ := xo_rel hs h1 v hm
    rw [hm] at e3
    simp only [lowOf] at e3
    rw [p1]
    exact ⟨cutBound_rel p2 e3,bnd e3⟩
  refine ⟨m',?_,q2,hlow.2,hhigh.2,q3,q4⟩
  rw [q1,Option.bind_some,hhigh.1,Option.bind_some,hlow.1,Option.map_some]
 ·simp at hb
theorem fold_rel (f : AV → AV → Option AV) (hf : ∀ x y v,f x y = some v → isC x = true ∧ isC y = true ∧ isC v = true) : ∀ {xs as : List AV} {z v : AV},RVs g κ xs as → isC z = true → xs.foldlM f z = some v → as.foldlM f z = some v ∧ isC v = true
 | [],_,z,v,hs,hz,h => by
  simp only [RVs] at hs; subst hs
  simp only [List.foldlM_nil,Option.pure_def,Option.some.injEq] at h
  subst h
  exact ⟨rfl,hz⟩
 | x :: xs,_,z,v,hs,hz,h => by
  simp only [RVs] at hs
  obtain ⟨a,as,rfl,h1,h2⟩ := hs
  simp only [List.foldlM_cons,Option.bind_eq_bind] at h ⊢
  obtain ⟨w,e1,e2⟩ := Option.bind_eq_some_iff.1 h
  obtain ⟨_,q2,q3⟩ := hf z x w e1
  have : a = x := by
   cases x <;> simp [isC] at q2
   exact rv_c h1
  subst this
  rw [e1]
  exact fold_rel f hf h2 q3 e2
theorem minA_isC (x y v : AV) (h : minA x y = some v) : isC x = true ∧ isC y = true ∧ isC v = true := by
 unfold minA at h
 split at h
 ·obtain rfl := Option.some.inj h; exact ⟨rfl,rfl,rfl⟩
 ·simp at h
theorem maxA_isC (x y v : AV) (h : maxA x y = some v) : isC x = true ∧ isC y = true ∧ isC v = true := by
 unfold maxA at h
 split at h
 ·obtain rfl := Option.some.inj h; exact ⟨rfl,rfl,rfl⟩
 ·simp at h
theorem loadA_rel (hs : RVs g κ σ σA) (hh : HR g H) {k : Option Nat} {x a v : AV} (hx : RV g κ x a) (h : loadA σ H k x = some v) : ∃ b,loadA σA g.M k a = some b ∧ RV g κ v b := by
 unfold loadA at h
 split at h
 ·rename_i d i
  simp only [RV] at hx
  subst hx
  split at h
  ·rename_i xs hd
   have hr := getD_rel hs d
   rw [hd] at hr
   simp only [RV] at hr
   obtain ⟨ys,e,hys⟩ := hr
   obtain ⟨b,q1,q2⟩ := fromCells_rel hys h
   exact ⟨b,by simp only [loadA,e]; exact q1,q2⟩
  ·simp at h
 ·rename_i r i n
  simp only [RV] at hx
  obtain ⟨_,r',rfl,hr⟩ := hx
  cases k with
  | none =>
   simp only at h
   obtain ⟨l,e1,e2⟩ := Option.bind_eq_some_iff.1 h
   obtain ⟨as,q1,q2⟩ := rdRow_rel hh e1 hr
   obtain ⟨b,p1,p2⟩ := rvs_get q2 e2
   exact ⟨b,by simp only [loadA,q1,Option.bind_some]; exact p1,weak p2⟩
  | some m =>
   simp only at h
   obtain ⟨l,e1,rfl⟩ := Option.map_eq_some_iff.1 h
   obtain ⟨as,q1,q2⟩ := rdRow_rel hh e1 hr
   refine ⟨.agg as,by simp only [loadA,q1,Option.map_some],?_⟩
   simp only [RV]
   exact ⟨as,rfl,weaks q2⟩
 ·simp at h
theorem loadP_rel {k : Option Nat} {cs : List AV} {i : Nat} {a v : AV} (hx : RV g κ (.vp cs i) a) (h : fromCells k cs i = some v) : ∃ b,loadA σA g.M k a = some b ∧ RV g κ v b := by
 simp only [RV] at hx
 obtain ⟨r,o,gg,as,rfl,hf,hr,hs,hk⟩ := hx
 cases k with
 | none =>
  simp only [fromCells] at h
  have hi := (List.getElem?_eq_some_iff.1 h).1
  have q := rdRow_sub hr (i := i) (m := 1) (by omega)
  obtain ⟨b,p1,p2⟩ := rvs_get hs h
  refine ⟨b,?_,weak p2⟩
  simp only [loadA,q,Option.bind_some]
  rw [List.getElem?_take,if_pos (by omega),List.getElem?_drop]
  exact p1
 | some m =>
  simp only [fromCells] at h
  split at h
  ·rename_i hm
   obtain rfl := Option.some.inj h
   have q := rdRow_sub hr (i := i) (m := m) hm
   refine ⟨.agg ((as.drop i).take m),by simp only [loadA,q,Option.map_some],?_⟩
   simp only [RV]
   exact ⟨_,rfl,weaks (rvs_take (rvs_drop hs i) m)⟩
  ·simp at h
theorem set_row (hh : HR g H) (hk : KO m0 g κ) {r r' : Nat} {o o1 o1' : AObj} (ho : H[r]? = some o) (hw : o.isRow = true) (hr : ∀ q,g.α r = some q → q = r') (h1 : ∀ g',Up g g' → OR g' o1 o1') :
  HR ⟨g.α,g.n,g.M.set r' o1'⟩ (H.set r o1) ∧ Up g ⟨g.α,g.n,g.M.set r' o1'⟩ ∧ Own g ⟨g.α,g.n,g.M.set r' o1'⟩ κ κ ∧ KO m0 ⟨g.α,g.n,g.M.set r' o1'⟩ κ ∧ g.α r = some r' ∧ ∀ q,Far g q → (g.M.set r' o1')[q]? = g.M[q]? := by
 obtain ⟨q',o',e1,e2,e3⟩ := hh.row r o ho hw
 obtain rfl := hr q' e1
 have hne : ∀ q,Far g q → q' ≠ q := fun q hq e => hq r (by rw [← e]; exact e1)
 have hu : Up g ⟨g.α,g.n,g.M.set q' o1'⟩ := ⟨Nat.le_refl _,fun _ _ h => h,fun _ _ h => h,fun _ _ h => .inl h,by simp,fun q hq i n k as h => by
  simp only [rdRow] at h ⊢
  rw [List.getElem?_set_ne (hne q hq)]
  exact h⟩
 refine ⟨⟨by simp [hh.n],fun a b h => by simpa using hh.dom a b h,hh.inj,fun a ob h1' h2 => ?_⟩,hu,fun c a h => ⟨h,List.getElem?_set_ne (hne a (hk.far c a h).1)⟩,⟨hk.inj,fun c a h => by
  obtain ⟨p1,p2,p3⟩ := hk.far c a h
  exact ⟨p1,p2,by simpa using p3⟩⟩,e1,fun q hq => List.getElem?_set_ne (hne q hq)⟩
 by_cases e : a = r
 ·subst e
  have hl := (List.getElem?_eq_some_iff.1 ho).1
  rw [List.getElem?_set_self hl] at h1'
  obtain rfl := Option.some.inj h1'
  exact ⟨q',o1',e1,by simp [(hh.dom a q' e1).2],h1 _ hu⟩
 ·rw [List.getElem?_set_ne (fun h => e h.symm)] at h1'
  obtain ⟨b,ob',p1,p2,p3⟩ := hh.row a ob h1' h2
  exact ⟨b,ob',p1,by show (g.M.set q' o1')[b]? = _; rw [List.getElem?_set_ne (fun h => e (hh.inj a r b p1 (by rw [← h]; exact e1)))]; exact p2,p3.up hu⟩
theorem wrRow_rel (hh : HR g H) (hk : KO m0 g κ) {r r' i k : Nat} {xs as : List AV} {H' : Heap} (hr : ∀ q,g.α r = some q → q = r') (hx : RVs g no xs as) (h : wrRow H r i k xs = some H') :
  ∃ M',wrRow g.M r' i k as = some M' ∧ HR ⟨g.α,g.n,M'⟩ H' ∧ Up g ⟨g.α,g.n,M'⟩ ∧ Own g ⟨g.α,g.n,M'⟩ κ κ ∧ KO m0 ⟨g.α,g.n,M'⟩ κ ∧ ∀ q,Far g q → M'[q]? = g.M[q]? := by
 unfold wrRow at h
 have hxl := rvs_len hx
 split at h
 ·rename_i cs ho
  split at h
  ·rename_i hc
   obtain rfl := Option.some.inj h
   obtain ⟨q',o',e1,e2,e3⟩ := hh.row r _ ho rfl
   obtain rfl := hr q' e1
   cases e3 with
   | row hcs =>
    rename_i as'
    have hl := rvs_len hcs
    obtain ⟨p1,p2,p3,p4,_,p5⟩ := set_row hh hk ho rfl hr (o1 := .row (cs.take i ++ xs ++ cs.drop (i + xs.length))) (o1' := .row (as'.take i ++ as ++ as'.drop (i + as.length))) (fun g' hu => by
     rw [hxl]
     have h1 := rvs_up hu (Own.no _ _ no) _ _ hcs
     exact .row (rvs_append (rvs_append (rvs_take h1 i) (rvs_up hu (Own.no _ _ no) _ _ hx)) (rvs_drop h1 _)))
    refine ⟨_,?_,p1,p2,p3,p4,p5⟩
    simp only [wrRow,e2]
    rw [if_pos ⟨by rw [hl]; exact hc.1,by rw [hxl]; exact hc.2.1,rvs_okCell hx hc.2.2⟩]
  ·simp at h
 ·rename_i cs lo ho
  split at h
  ·rename_i hc
   obtain rfl := Option.some.inj h
   obtain ⟨q',o',e1,e2,e3⟩ := hh.row r _ ho rfl
   obtain rfl := hr q' e1
   cases e3 with
   | grow lo hcs =>
    rename_i as'
    have hl := rvs_len hcs
    obtain ⟨p1,p2,p3,p4,_,p5⟩ := set_row hh hk ho rfl hr (o1 := .grow (cs.take i ++ xs ++ cs.drop (i + xs.length)) cs.length) (o1' := .grow (as'.take i ++ as ++ as'.drop (i + as.length)) as'.length) (fun g' hu => by
     rw [hxl,hl]
     have h1 := rvs_up hu (Own.no _ _ no) _ _ hcs
     exact .grow _ (rvs_append (rvs_append (rvs_take h1 i) (rvs_up hu (Own.no _ _ no) _ _ hx)) (rvs_drop h1 _)))
    refine ⟨_,?_,p1,p2,p3,p4,p5⟩
    simp only [wrRow,e2]
    rw [if_pos ⟨by rw [hl]; exact hc.1,by rw [hxl]; exact hc.2.1,rvs_okCell hx hc.2.2⟩]
  ·simp at h
 ·simp at h
end
end Go.A.V
