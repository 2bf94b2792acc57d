/- THE VALUE MACHINE: what its values and heaps say of the abstract machine's. -/
import Derived.Test.YtnmobjhmohcjfaaV1
set_option linter.unusedSimpArgs false
set_option linter.unusedVariables false
set_option linter.unnecessarySimpa false
namespace Go.A.V
open Go Go.A
structure Gh where
 α : Nat → Option Nat
 n : Nat
 M : Heap
def Far (g : Gh) (r : Nat) : Prop := ∀ q,g.α q ≠ some r
def FlagOk (M : Heap) (κ : Nat → Option Nat) (k r off len cap sz gg : Nat) (ex : Bool) (f : Option Nat) : Prop :=
 ∀ c,f = some c → cap = len ∧ (ex = true ∨ (κ c = some r ∧ off = 0 ∧ len ≠ 0 ∧ sz = k ∧ gg = len * k ∧ ∃ o,M[r]? = some o ∧ o.isW = true ∧ o.cells.length = gg))
def no : Nat → Option Nat := fun _ => none
mutual
def RV (g : Gh) : (Nat → Option Nat) → AV → AV → Prop
 | _,.undef,a => a = .undef
 | _,.c v,a => a = .c v
 | _,.ptr r i k,a => r < g.n ∧ ∃ r',a = .ptr r' i k ∧ ∀ q,g.α r = some q → q = r'
 | _,.sl r off len cap sz k ex,a => r < g.n ∧ ∃ r',a = .sl r' off len cap sz k ex ∧ ∀ q,g.α r = some q → q = r'
 | κ,.vs k f l,a => ∃ r off cap sz gg ex,a = .sl r off l.length cap sz gg ex ∧ l.length ≤ cap ∧ (ex || sz == k) = true ∧ (∀ cs ∈ l,cs.length = k ∧ cs.all okCell = true) ∧
   (l ≠ [] → Far g r ∧ ∃ as,rdRow g.M r off (l.length * k) gg = some as ∧ RVss g no l as) ∧ FlagOk g.M κ k r off l.length cap sz gg ex f
 | _,.vp cs i,a => ∃ r o gg as,a = .ptr r (o + i) gg ∧ Far g r ∧ rdRow g.M r o cs.length gg = some as ∧ RVs g no cs as ∧ cs.all okCell = true
 | κ,.lbox xs,a => ∃ ys,a = .lbox ys ∧ RVs g κ xs ys
 | _,.lptr d i,a => a = .lptr d i
 | κ,.agg xs,a => ∃ ys,a = .agg ys ∧ RVs g κ xs ys
 | κ,.tup xs,a => ∃ ys,a = .tup ys ∧ RVs g κ xs ys
 | _,.fn f xs,a => ∃ ys,a = .fn f ys ∧ RVs g no xs ys
 | _,.iface t x,a => ∃ y,a = .iface t y ∧ RV g no x y
 | _,.map _,_ => False
 | _,.imm cs,a => a = .imm cs
def RVs (g : Gh) : (Nat → Option Nat) → List AV → List AV → Prop
 | _,[],as => as = []
 | κ,x :: xs,as => ∃ a r,as = a :: r ∧ RV g κ x a ∧ RVs g κ xs r
def RVss (g : Gh) : (Nat → Option Nat) → List (List AV) → List AV → Prop
 | _,[],as => as = []
 | κ,cs :: l,as => ∃ a r,as = a ++ r ∧ RVs g κ cs a ∧ RVss g κ l r
end
structure Up (g g' : Gh) : Prop where
 n : g.n ≤ g'.n
 keep : ∀ r r',g.α r = some r' → g'.α r = some r'
 dead : ∀ r,r < g.n → g.α r = none → g'.α r = none
 new : ∀ r r',g'.α r = some r' → g.α r = some r' ∨ g.M.length ≤ r'
 len : g.M.length ≤ g'.M.length
 rd : ∀ r,Far g r → ∀ i n k as,rdRow g.M r i n k = some as → rdRow g'.M r i n k = some as
theorem rdRow_lt {H : Heap} {r i n k : Nat} {as : List AV} (h : rdRow H r i n k = some as) : r < H.length := by
 unfold rdRow at h
 split at h
 ·rename_i o ho; exact (List.getElem?_eq_some_iff.1 ho).1
 ·simp at h
theorem Up.refl (g : Gh) : Up g g := ⟨Nat.le_refl _,fun _ _ h => h,fun _ _ h => h,fun _ _ h => .inl h,Nat.le_refl _,fun _ _ _ _ _ _ h => h⟩
theorem Up.far {g g' : Gh} (h : Up g g') {r : Nat} (hf : Far g r) (hl : r < g.M.length) : Far g' r := fun q hq => by
 rcases h.new q r hq with h1 | h1
 ·exact hf q h1
 ·omega
theorem Up.trans {a b c : Gh} (h : Up a b) (k : Up b c) : Up a c :=
 ⟨Nat.le_trans h.n k.n,fun r r' e => k.keep r r' (h.keep r r' e),fun r hr e => k.dead r (Nat.lt_of_lt_of_le hr h.n) (h.dead r hr e),fun r r' e => by
  rcases k.new r r' e with h1 | h1
  ·exact h.new r r' h1
  ·exact .inr (Nat.le_trans h.len h1),Nat.le_trans h.len k.len,fun r hf i n q as e => k.rd r (h.far hf (rdRow_lt e)) i n q as (h.rd r hf i n q as e)⟩
theorem Up.addr {g g' : Gh} (h : Up g g') {r r' : Nat} (hr : r < g.n) (k : ∀ q,g.α r = some q → q = r') : ∀ q,g'.α r = some q → q = r' := fun q hq => by
 cases he : g.α r with
 | none => rw [h.dead r hr he] at hq; simp at hq
 | some q' => rw [h.keep r q' he] at hq; obtain rfl := Option.some.inj hq; exact k _ he
def Own (g g' : Gh) (κ κ' : Nat → Option Nat) : Prop := ∀ c r,κ c = some r → κ' c = some r ∧ g'.M[r]? = g.M[r]?
theorem Own.no (g g' : Gh) (κ' : Nat → Option Nat) : Own g g' V.no κ' := fun _ _ h => by simp [V.no] at h
theorem FlagOk.up {g g' : Gh} {κ κ' : Nat → Option Nat} (ho : Own g g' κ κ') {k r off len cap sz gg : Nat} {ex : Bool} {f : Option Nat} (h : FlagOk g.M κ k r off len cap sz gg ex f) : FlagOk g'.M κ' k r off len cap sz gg ex f := fun c hc => by
 obtain ⟨h1,h2⟩ := h c hc
 refine ⟨h1,?_⟩
 rcases h2 with h2 | ⟨q1,q2,q3,q4,q5,o,q6,q7⟩
 ·exact .inl h2
 ·obtain ⟨e1,e2⟩ := ho c r q1
  exact .inr ⟨e1,q2,q3,q4,q5,o,by rw [e2]; exact q6,q7⟩
structure Lk (g g' : Gh) : Prop where
 n : g.n ≤ g'.n
 addr : ∀ r r',r < g.n → (∀ q,g.α r = some q → q = r') → ∀ q,g'.α r = some q → q = r'
 far : ∀ r,Far g r → r < g.M.length → Far g' r
 rd : ∀ r,Far g r → ∀ i n k as,rdRow g.M r i n k = some as → rdRow g'.M r i n k = some as
theorem Up.lk {g g' : Gh} (h : Up g g') : Lk g g' := ⟨h.n,fun r r' hr k => h.addr hr k,fun r hf hl => h.far hf hl,h.rd⟩
mutual
theorem rv_lk {g g' : Gh} (h : Lk g g') : ∀ {κ κ' : Nat → Option Nat},Own g g' κ κ' → ∀ (v a : AV),RV g κ v a → RV g' κ' v a
 | _,_,_,.undef,_,hv => by simpa only [RV] using hv
 | _,_,_,.c _,_,hv => by simpa only [RV] using hv
 | _,_,_,.ptr r i k,a,hv => by
  simp only [RV] at hv ⊢
  obtain ⟨h1,r',e,h2⟩ := hv
  exact ⟨Nat.lt_of_lt_of_le h1 h.n,r',e,h.addr _ _ h1 h2⟩
 | _,_,_,.sl r _ _ _ _ _ _,a,hv => by
  simp only [RV] at hv ⊢
  obtain ⟨h1,r',e,h2⟩ := hv
  exact ⟨Nat.lt_of_lt_of_le h1 h.n,r',e,h.addr _ _ h1 h2⟩
 | _,_,ho,.vs k f l,a,hv => by
  simp only [RV] at hv ⊢
  obtain ⟨r,off,cap,sz,gg,ex,e,h1,h2,h3,h4,h5⟩ := hv
  exact ⟨r,off,cap,sz,gg,ex,e,h1,h2,h3,fun hl => by
   obtain ⟨hf,as,hr,hs⟩ := h4 hl
   exact ⟨h.far _ hf (rdRow_lt hr),as,h.rd _ hf _ _ _ _ hr,rvss_lk h (Own.no _ _ _) l as hs⟩,h5.up ho⟩
 | _,_,_,.vp cs i,a,hv => by
  simp only [RV] at hv ⊢
  obtain ⟨r,o,gg,as,e,hf,hr,hs,hk⟩ := hv
  exact ⟨r,o,gg,as,e,h.far _ hf (rdRow_lt hr),h.rd _ hf _ _ _ _ hr,rvs_lk h (Own.no _ _ _) cs as hs,hk⟩
 | _,_,ho,.lbox xs,a,hv => by
  simp only [RV] at hv ⊢
  obtain ⟨ys,e,hs⟩ := hv
  exact ⟨ys,e,rvs_lk h ho xs ys hs⟩
 | _,_,_,.lptr _ _,_,hv => by simpa only [RV] using hv
 | _,_,ho,.agg xs,a,hv => by
  simp only [RV] at hv ⊢
  obtain ⟨ys,e,hs⟩ := hv
  exact ⟨ys,e,rvs_lk h ho xs ys hs⟩
 | _,_,ho,.tup xs,a,hv => by
  simp only [RV] at hv ⊢
  obtain ⟨ys,e,hs⟩ := hv
  exact ⟨ys,e,rvs_lk h ho xs ys hs⟩
 | _,_,_,.fn f xs,a,hv => by
  simp only [RV] at hv ⊢
  obtain ⟨ys,e,hs⟩ := hv
  exact ⟨ys,e,rvs_lk h (Own.no _ _ _) xs ys hs⟩
 | _,_,_,.iface t x,a,hv => by
  simp only [RV] at hv ⊢
  obtain ⟨y,e,hs⟩ := hv
  exact ⟨y,e,rv_lk h (Own.no _ _ _) x y hs⟩
 | _,_,_,.map _,_,hv => by simp only [RV] at hv
 | _,_,_,.imm _,_,hv => by simpa only [RV] using hv
theorem rvs_lk {g g' : Gh} (h : Lk g g') : ∀ {κ κ' : Nat → Option Nat},Own g g' κ κ' → ∀ (v a : List AV),RVs g κ v a → RVs g' κ' v a
 | _,_,_,[],_,hv => by simpa only [RVs] using hv
 | _,_,ho,x :: xs,as,hv => by
  simp only [RVs] at hv ⊢
  obtain ⟨a,r,e,h1,h2⟩ := hv
  exact ⟨a,r,e,rv_lk h ho x a h1,rvs_lk h ho xs r h2⟩
theorem rvss_lk {g g' : Gh} (h : Lk g g') : ∀ {κ κ' : Nat → Option Nat},Own g g' κ κ' → ∀ (v : List (List AV)) (a : List AV),RVss g κ v a → RVss g' κ' v a
 | _,_,_,[],_,hv => by simpa only [RVss] using hv
 | _,_,ho,x :: xs,as,hv => by
  simp only [RVss] at hv ⊢
  obtain ⟨a,r,e,h1,h2⟩ := hv
  exact ⟨a,r,e,rvs_lk h ho x a h1,rvss_lk h ho xs r h2⟩
end
theorem rv_up {g g' : Gh} (h : Up g g') {κ κ' : Nat → Option Nat} (ho : Own g g' κ κ') (v a : AV) (hv : RV g κ v a) : RV g' κ' v a := rv_lk h.lk ho v a hv
theorem rvs_up {g g' : Gh} (h : Up g g') {κ κ' : Nat → Option Nat} (ho : Own g g' κ κ') (v a : List AV) (hv : RVs g κ v a) : RVs g' κ' v a := rvs_lk h.lk ho v a hv
mutual
theorem rv_unfl {g : Gh} (cs : List Nat) : ∀ {κ κ' : Nat → Option Nat},(∀ c r,cs.contains c = false → κ c = some r → κ' c = some r) → ∀ (v a : AV),RV g κ v a → RV g κ' (unfl cs v) a
 | _,_,_,.undef,_,hv => by simpa only [unfl,RV] using hv
 | _,_,_,.c _,_,hv => by simpa only [unfl,RV] using hv
 | _,_,_,.ptr _ _ _,_,hv => by simpa only [unfl,RV] using hv
 | _,_,_,.sl ..,_,hv => by simpa only [unfl,RV] using hv
 | _,_,ho,.vs k f l,a,hv => by
  simp only [unfl,RV] at hv ⊢
  obtain ⟨r,off,cap,sz,gg,ex,e,h1,h2,h3,h4,h5⟩ := hv
  refine ⟨r,off,cap,sz,gg,ex,e,h1,h2,h3,h4,fun c hc => ?_⟩
  cases f with
  | none => simp at hc
  | some c' =>
   simp only at hc
   split at hc
   ·simp at hc
   ·rename_i hn
    obtain rfl := Option.some.inj hc
    obtain ⟨q0,q⟩ := h5 c' rfl
    refine ⟨q0,?_⟩
    rcases q with q | ⟨q1,q2⟩
    ·exact .inl q
    ·exact .inr ⟨ho c' r (by simpa using hn) q1,q2⟩
 | _,_,_,.vp _ _,_,hv => by simpa only [unfl,RV] using hv
 | _,_,ho,.lbox xs,a,hv => by
  simp only [unfl,RV] at hv ⊢
  obtain ⟨ys,e,hs⟩ := hv
  exact ⟨ys,e,rvs_unfl cs ho xs ys hs⟩
 | _,_,_,.lptr _ _,_,hv => by simpa only [unfl,RV] using hv
 | _,_,ho,.agg xs,a,hv => by
  simp only [unfl,RV] at hv ⊢
  obtain ⟨ys,e,hs⟩ := hv
  exact ⟨ys,e,rvs_unfl cs ho xs ys hs⟩
 | _,_,ho,.tup xs,a,hv => by
  simp only [unfl,RV] at hv ⊢
  obtain ⟨ys,e,hs⟩ := hv
  exact ⟨ys,e,rvs_unfl cs ho xs ys hs⟩
 | _,_,_,.fn _ _,_,hv => by simpa only [unfl,RV] using hv
 | _,_,_,.iface _ _,_,hv => by simpa only [unfl,RV] using hv
 | _,_,_,.map _,_,hv => by simp only [RV] at hv
 | _,_,_,.imm _,_,hv => by simpa only [unfl,RV] using hv
theorem rvs_unfl {g : Gh} (cs : List Nat) : ∀ {κ κ' : Nat → Option Nat},(∀ c r,cs.contains c = false → κ c = some r → κ' c = some r) → ∀ (v a : List AV),RVs g κ v a → RVs g κ' (unfls cs v) a
 | _,_,_,[],_,hv => by simpa only [unfls,RVs] using hv
 | _,_,ho,x :: xs,as,hv => by
  simp only [unfls,RVs] at hv ⊢
  obtain ⟨a,r,e,h1,h2⟩ := hv
  exact ⟨a,r,e,rv_unfl cs ho x a h1,rvs_unfl cs ho xs r h2⟩
end
mutual
theorem rv_pln {g : Gh} : ∀ {κ κ' : Nat → Option Nat} (v a : AV),RV g κ v a → RV g κ' (pln v) a
 | _,_,.undef,_,hv => by simpa only [pln,RV] using hv
 | _,_,.c _,_,hv => by simpa only [pln,RV] using hv
 | _,_,.ptr _ _ _,_,hv => by simpa only [pln,RV] using hv
 | _,_,.sl ..,_,hv => by simpa only [pln,RV] using hv
 | _,_,.vs k f l,a,hv => by
  simp only [pln,RV] at hv ⊢
  obtain ⟨r,off,cap,sz,gg,ex,e,h1,h2,h3,h4,h5⟩ := hv
  exact ⟨r,off,cap,sz,gg,ex,e,h1,h2,h3,h4,fun c hc => by simp at hc⟩
 | _,_,.vp _ _,_,hv => by simpa only [pln,RV] using hv
 | _,_,.lbox xs,a,hv => by
  simp only [pln,RV] at hv ⊢
  obtain ⟨ys,e,hs⟩ := hv
  exact ⟨ys,e,rvs_pln xs ys hs⟩
 | _,_,.lptr _ _,_,hv => by simpa only [pln,RV] using hv
 | _,_,.agg xs,a,hv => by
  simp only [pln,RV] at hv ⊢
  obtain ⟨ys,e,hs⟩ := hv
  exact ⟨ys,e,rvs_pln xs ys hs⟩
 | _,_,.tup xs,a,hv => by
  simp only [pln,RV] at hv ⊢
  obtain ⟨ys,e,hs⟩ := hv
  exact ⟨ys,e,rvs_pln xs ys hs⟩
 | _,_,.fn _ _,_,hv => by simpa only [pln,RV] using hv
 | _,_,.iface _ _,_,hv => by simpa only [pln,RV] using hv
 | _,_,.map _,_,hv => by simp only [RV] at hv
 | _,_,.imm _,_,hv => by simpa only [pln,RV] using hv
theorem rvs_pln {g : Gh} : ∀ {κ κ' : Nat → Option Nat} (v a : List AV),RVs g κ v a → RVs g κ' (plns v) a
 | _,_,[],_,hv => by simpa only [plns,RVs] using hv
 | _,_,x :: xs,as,hv => by
  simp only [plns,RVs] at hv ⊢
  obtain ⟨a,r,e,h1,h2⟩ := hv
  exact ⟨a,r,e,rv_pln x a h1,rvs_pln xs r h2⟩
end
theorem rv_c {g : Gh} {κ : Nat → Option Nat} {v : Value} {a : AV} (h : RV g κ (.c v) a) : a = .c v := by simpa only [RV] using h
theorem rv_of_c (g : Gh) (κ : Nat → Option Nat) (v : Value) : RV g κ (.c v) (.c v) := by simp only [RV]
theorem rv_box {g : Gh} {κ : Nat → Option Nat} {v a : AV} (h : RV g κ v a) : a.isBox = v.isBox := by
 cases v <;> simp only [RV] at h
 case undef => subst h; rfl
 case c => subst h; rfl
 case ptr => obtain ⟨_,_,rfl,_⟩ := h; rfl
 case sl => obtain ⟨_,_,rfl,_⟩ := h; rfl
 case vs => obtain ⟨_,_,_,_,_,_,rfl,_⟩ := h; rfl
 case vp => obtain ⟨_,_,_,_,rfl,_⟩ := h; rfl
 case lbox => obtain ⟨_,rfl,_⟩ := h; rfl
 case lptr => subst h; rfl
 case agg => obtain ⟨_,rfl,_⟩ := h; rfl
 case tup => obtain ⟨_,rfl,_⟩ := h; rfl
 case fn => obtain ⟨_,rfl,_⟩ := h; rfl
 case iface => obtain ⟨_,rfl,_⟩ := h; rfl
 case imm => subst h; rfl
theorem rv_one {g : Gh} {κ : Nat → Option Nat} {v a : AV} (h : RV g κ v a) : a.one = v.one := by
 cases v <;> simp only [RV] at h
 case undef => subst h; rfl
 case c => subst h; rfl
 case ptr => obtain ⟨_,_,rfl,_⟩ := h; rfl
 case sl => obtain ⟨_,_,rfl,_⟩ := h; rfl
 case vs => obtain ⟨_,_,_,_,_,_,rfl,_⟩ := h; rfl
 case vp => obtain ⟨_,_,_,_,rfl,_⟩ := h; rfl
 case lbox => obtain ⟨_,rfl,_⟩ := h; rfl
 case lptr => subst h; rfl
 case agg => obtain ⟨_,rfl,_⟩ := h; rfl
 case tup => obtain ⟨_,rfl,_⟩ := h; rfl
 case fn => obtain ⟨_,rfl,_⟩ := h; rfl
 case iface => obtain ⟨_,rfl,_⟩ := h; rfl
 case imm => subst h; rfl
mutual
theorem rv_free {g : Gh} : ∀ {κ : Nat → Option Nat} (v a : AV),RV g κ v a → a.free = v.free
 | _,.undef,_,h => by simp only [RV] at h; subst h; rfl
 | _,.c _,_,h => by simp only [RV] at h; subst h; rfl
 | _,.ptr _ _ _,_,h => by simp only [RV] at h; obtain ⟨_,_,rfl,_⟩ := h; rfl
 | _,.sl ..,_,h => by simp only [RV] at h; obtain ⟨_,_,rfl,_⟩ := h; rfl
 | _,.vs ..,_,h => by simp only [RV] at h; obtain ⟨_,_,_,_,_,_,rfl,_⟩ := h; rfl
 | _,.vp ..,_,h => by simp only [RV] at h; obtain ⟨_,_,_,_,rfl,_⟩ := h; rfl
 | _,.lbox _,_,h => by simp only [RV] at h; obtain ⟨_,rfl,_⟩ := h; rfl
 | _,.lptr _ _,_,h => by simp only [RV] at h; subst h; rfl
 | _,.agg xs,_,h => by simp only [RV] at h; obtain ⟨ys,rfl,h⟩ := h; simp only [AV.free]; exact rvs_free xs ys h
 | _,.tup xs,_,h => by simp only [RV] at h; obtain ⟨ys,rfl,h⟩ := h; simp only [AV.free]; exact rvs_free xs ys h
 | _,.fn _ xs,_,h => by simp only [RV] at h; obtain ⟨ys,rfl,h⟩ := h; simp only [AV.free]; exact rvs_free xs ys h
 | _,.iface _ x,_,h => by simp only [RV] at h; obtain ⟨y,rfl,h⟩ := h; simp only [AV.free]; exact rv_free x y h
 | _,.map _,_,h => by simp only [RV] at h
 | _,.imm _,_,h => by simp only [RV] at h; subst h; rfl
theorem rvs_free {g : Gh} : ∀ {κ : Nat → Option Nat} (v a : List AV),RVs g κ v a → AV.freeAll a = AV.freeAll v
 | _,[],_,h => by simp only [RVs] at h; subst h; rfl
 | _,x :: xs,_,h => by
  simp only [RVs] at h
  obtain ⟨a,r,rfl,h1,h2⟩ := h
  simp only [AV.freeAll,rv_free x a h1,rvs_free xs r h2]
end
theorem rvs_len {g : Gh} {κ : Nat → Option Nat} : ∀ {v a : List AV},RVs g κ v a → a.length = v.length
 | [],_,h => by simp only [RVs] at h; subst h; rfl
 | x :: xs,_,h => by
  simp only [RVs] at h
  obtain ⟨a,r,rfl,_,h2⟩ := h
  simp [rvs_len h2]
theorem rvs_get {g : Gh} {κ : Nat → Option Nat} : ∀ {v a : List AV},RVs g κ v a → ∀ {i : Nat} {x : AV},v[i]? = some x → ∃ y,a[i]? = some y ∧ RV g κ x y
 | [],_,_,i,x,hi => by simp at hi
 | x :: xs,_,h,i,z,hi => by
  simp only [RVs] at h
  obtain ⟨a,r,rfl,h1,h2⟩ := h
  cases i with
  | zero => simp only [List.getElem?_cons_zero,Option.some.injEq] at hi; subst hi; exact ⟨a,rfl,h1⟩
  | succ j => exact rvs_get h2 (i := j) (by simpa using hi)
theorem rvs_of {g : Gh} {κ : Nat → Option Nat} : ∀ {v a : List AV},a.length = v.length → (∀ (i : Nat) (x y : AV),v[i]? = some x → a[i]? = some y → RV g κ x y) → RVs g κ v a
 | [],[],_,_ => by simp only [RVs]
 | x :: xs,y :: ys,h,k => by
  simp only [RVs]
  exact ⟨y,ys,rfl,k 0 x y rfl rfl,rvs_of (by simpa using h) fun i x' y' h1 h2 => k (i + 1) x' y' (by simpa using h1) (by simpa using h2)⟩
 | [],_ :: _,h,_ => by simp at h
 | _ :: _,[],h,_ => by simp at h
theorem rvs_append {g : Gh} {κ : Nat → Option Nat} : ∀ {v w a b : List AV},RVs g κ v a → RVs g κ w b → RVs g κ (v ++ w) (a ++ b)
 | [],_,_,_,h,k => by simp only [RVs] at h; subst h; exact k
 | x :: xs,_,_,_,h,k => by
  simp only [RVs] at h
  obtain ⟨y,r,rfl,h1,h2⟩ := h
  simp only [List.cons_append,RVs]
  exact ⟨y,_,rfl,h1,rvs_append h2 k⟩
theorem rvs_take {g : Gh} {κ : Nat → Option Nat} {v a : List AV} (h : RVs g κ v a) (n : Nat) : RVs g κ (v.take n) (a.take n) :=
 rvs_of (by simp [rvs_len h]) fun i x y h1 h2 => by
  rw [List.getElem?_take] at h1 h2
  split at h1
  ·rename_i hi
   rw [if_pos hi] at h2
   obtain ⟨z,q1,q2⟩ := rvs_get h h1
   rw [q1] at h2
   obtain rfl := Option.some.inj h2
   exact q2
  ·simp at h1
theorem rvs_drop {g : Gh} {κ : Nat → Option Nat} {v a : List AV} (h : RVs g κ v a) (n : Nat) : RVs g κ (v.drop n) (a.drop n) :=
 rvs_of (by simp [rvs_len h]) fun i x y h1 h2 => by
  rw [List.getElem?_drop] at h1 h2
  obtain ⟨z,q1,q2⟩ := rvs_get h h1
  rw [q1] at h2
  obtain rfl := Option.some.inj h2
  exact q2
theorem rvs_set {g : Gh} {κ : Nat → Option Nat} {v a : List AV} (h : RVs g κ v a) (n : Nat) {x y : AV} (hx : RV g κ x y) : RVs g κ (v.set n x) (a.set n y) :=
 rvs_of (by simp [rvs_len h]) fun i x' y' h1 h2 => by
  rw [List.getElem?_set] at h1 h2
  have hl := rvs_len h
  split at h1
  ·rename_i e
   rw [if_pos e] at h2
   split at h1
   ·rename_i e1
    rw [if_pos (by omega)] at h2
    obtain rfl := Option.some.inj h1
    obtain rfl := Option.some.inj h2
    exact hx
   ·simp at h1
  ·rename_i e
   rw [if_neg e] at h2
   obtain ⟨z,q1,q2⟩ := rvs_get h h1
   rw [q1] at h2
   obtain rfl := Option.some.inj h2
   exact q2
theorem rvs_okCell {g : Gh} {κ : Nat → Option Nat} : ∀ {v a : List AV},RVs g κ v a → v.all okCell = true → a.all okCell = true
 | [],_,h,_ => by simp only [RVs] at h; subst h; rfl
 | x :: xs,_,h,k => by
  simp only [RVs] at h
  obtain ⟨a,r,rfl,h1,h2⟩ := h
  simp only [List.all_cons,Bool.and_eq_true] at k ⊢
  have e1 := rv_one h1
  have e2 := rv_free x a h1
  exact ⟨by simp only [e1,e2]; exact k.1,rvs_okCell h2 k.2⟩
theorem rvss_rvs {g : Gh} {κ : Nat → Option Nat} : ∀ {l : List (List AV)} {a : List AV},RVss g κ l a ↔ RVs g κ l.flatten a
 | [],a => by simp only [RVss,List.flatten_nil,RVs]
 | cs :: l,a => by
  simp only [RVss,List.flatten_cons]
  constructor
  ·rintro ⟨x,y,rfl,h1,h2⟩
   exact rvs_append h1 (rvss_rvs.1 h2)
  ·intro h
   refine ⟨a.take cs.length,a.drop cs.length,(List.take_append_drop _ _).symm,?_,rvss_rvs.2 ?_⟩
   ·have := rvs_take h cs.length
    rwa [List.take_left] at this
   ·have := rvs_drop h cs.length
    rwa [List.drop_left] at this
end Go.A.V
