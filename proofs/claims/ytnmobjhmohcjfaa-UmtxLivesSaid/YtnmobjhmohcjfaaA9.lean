/- THE ABSTRACT MACHINE: how states go on behind memory's steps. -/
import Derived.Test.YtnmobjhmohcjfaaA8
set_option linter.unusedSimpArgs false
set_option linter.unusedVariables false
set_option linter.unnecessarySimpa false
namespace Go.A
open Go
variable {P : Program}
section
variable {L0 : Nat → Prop} {g : G} {H : Heap} {w : World} {σ : List AV} {a : Act} {o : Oper}
theorem BoxR.step {g' : G} {H' : Heap} {w' : World} (hk : Keeps g H w g' H' w') {b b' : Nat} {xs : List AV} (h : BoxR g H w b xs) (hb : w'.heap[b']? = w.heap[b]?) : BoxR g' H' w' b' xs := by
 obtain ⟨c,e,fr,hc⟩ := h
 exact ⟨c,e,fr,hc.keeps hk hb⟩
theorem vr_lptr {d i : Nat} {v : Value} : VR g H w (.lptr d i) v ↔ v = .pointer (some ⟨g.γ d,i,none⟩) := by simp only [VR]
theorem SV.step {g' : G} {H' : Heap} {w' : World} (hk : Keeps g H w g' H' w') (hγ : g'.γ = g.γ) {d : Nat} {x : AV} {v : Value} (h : SV g H w d x v) (hb : ∀ xs,x = .lbox xs → w'.heap[g.γ d]? = w.heap[g.γ d]?) : SV g' H' w' d x v := by
 by_cases hx : ∃ xs,x = .lbox xs
 ·obtain ⟨xs,rfl⟩ := hx
  obtain ⟨h1,h2⟩ := h
  exact ⟨by rw [hγ]; exact h1,by rw [hγ]; exact h2.step hk (hb xs rfl)⟩
 ·obtain ⟨h1,h2⟩ := h.out (fun xs e => hx ⟨xs,e⟩)
  refine SV.of_vr ?_ h2
  rcases h2 with h2 | h2
  ·exact vr_keeps hk _ _ h2 h1
  ·cases x <;> first | (simp [AV.isL] at h2; done) | (rw [vr_lptr] at h1 ⊢; rw [hγ]; exact h1)
theorem StR.step {g' : G} {H' : Heap} {w' : World} {tmps : Array Value} {x : Option Nat} (h : StR L0 g H w σ tmps x) (hk : Keeps g H w g' H' w') (hγ : g'.γ = g.γ) (hl : ∀ b,g.loc b → g'.loc b) (hb : ∀ b,g.loc b → w'.heap[b]? = w.heap[b]?) : StR L0 g' H' w' σ tmps x where
 len := h.len
 slot := fun d a' hx hd => by
  obtain ⟨v,hv,hs⟩ := h.slot d a' hx hd
  exact ⟨v,hv,hs.step hk hγ fun xs e => hb _ (h.own d xs hx (e ▸ hd)).1⟩
 sep := fun d d' xs ys h1 h2 h3 h4 h5 => by rw [hγ]; exact h.sep d d' xs ys h1 h2 h3 h4 h5
 own := fun d xs hx hd => by rw [hγ]; exact ⟨hl _ (h.own d xs hx hd).1,(h.own d xs hx hd).2⟩
 outer := fun b hb' => hl b (h.outer b hb')
theorem keeps_drawn (n : Nat) : Keeps g H w g H { w with drawn := n } where
 addr := fun r k b o ha => ⟨o,⟨ha.at_,ha.isRow,ha.le,ha.fixed,ha.top,ha.far,ha.same⟩,fun e => ⟨e,Nat.le_refl _⟩⟩
 lone := fun b h => ⟨h,rfl⟩
theorem heap_drawn (hr : HeapR g H w) (n : Nat) : HeapR g H { w with drawn := n } where
 inj := hr.inj
 lt := hr.lt
 nloc := hr.nloc
 bsz0 := hr.bsz0
 n0 := hr.n0
 new := hr.new
 locb := hr.locb
 row := fun r ob h h1 => by
  obtain ⟨hl0,hw0,c,e,fr,hc⟩ := hr.row r ob h h1
  exact ⟨hl0,hw0,c,e,fr,hc.keeps (keeps_drawn n) rfl⟩
theorem ext_drawn (n : Nat) : Ext g H w g H { w with drawn := n } :=
 ⟨rfl,Nat.le_refl _,rfl,rfl,rfl,Nat.le_refl _,fun _ _ => rfl,fun _ h => h,fun _ h => .inl h,fun a v hf hv => vr_keeps (keeps_drawn n) a v hf hv⟩
theorem OpPost.drawn {tmps : Array Value} {d : Option Nat} {v : AV} {σ' : List AV} {H' : Heap} {u : Value} {w' : World} {g' : G} {n : Nat} (h : OpPost L0 g H { w with drawn := n } tmps d v σ' H' u w' g') : OpPost L0 g H w tmps d v σ' H' u w' g' :=
 ⟨h.st,h.val,h.heap,(ext_drawn n).trans h.ext,h.frame⟩
theorem vr_new (hr : HeapR g H w) (ao : AObj) (ha : ao.isRow = true) (hfr : ∀ cs,ao ≠ .old cs) (c : Array Value) (e : TypeId) (fr : Nat × Nat) : AddrOk { g with α := fun r => if r = H.length then w.heap.size else g.α r } (H ++ [ao]) (al w (.cells c e fr)) H.length ao.cells.length w.heap.size ao where
 at_ := by simp
 isRow := ha
 le := Nat.le_refl _
 fixed := fun _ _ => by simp
 top := fun _ => by simp
 far := fun e => by simp at e
 same := fun _ j _ => by simp
theorem post_row {tmps : Array Value} (hs : StR L0 g H w σ tmps none) (hr : HeapR g H w) (ao : AObj) (c : Array Value) (e : TypeId) (fr : Nat × Nat) (hlo : ao.lo ≤ ao.cells.length) (hle : ao.cells.length ≤ c.size)
  (hth : Thaw fr c.size) (hv : ∀ (j : Nat) (a : AV),ao.cells[j]? = some a → a.free = true ∧ ∃ v : Value,c[j]? = some v ∧ VR g H w a v)
  {v : AV} {u : Value} (hf : v.free = true) (hvu : VR { g with α := fun r => if r = H.length then w.heap.size else g.α r } (H ++ [ao]) (al w (.cells c e fr)) v u) (d : Option Nat) :
  OpPost L0 g H w tmps d v σ (H ++ [ao]) u (al w (.cells c e fr)) { g with α := fun r => if r = H.length then w.heap.size else g.α r } := by
 have hk := keeps_row hr (.cells c e fr) ao
 refine ⟨(hs.step hk rfl (fun _ h => h) (fun b hb => al_old w _ b (hr.locb b hb).2)).weak d,ValR.of_vr hvu (.inl hf),heap_row hr ao c e fr hlo hle hth hv,⟨rfl,?_,rfl,rfl,rfl,?_,fun b hb => al_old w _ b ?_,fun _ h => h,fun _ h => .inl h,fun a v hf hv => vr_keeps hk a v hf hv⟩,fun b hb => al_old w _ b (hr.locb b (hs.outer b hb)).2⟩
 ·rw [al_size]; omega
 ·simp
 ·exact Nat.lt_of_lt_of_le hb (n0_le_size hr)
theorem post_put {tmps : Array Value} (hs : StR L0 g H w σ tmps none) (hr : HeapR g H w) (r0 : Nat) (o1 : AObj) (hrl0 : r0 < H.length) (hn : g.n0 ≤ r0) (c : Array Value) (e : TypeId) (fr : Nat × Nat)
  (hk : Keeps g H w g (H.set r0 o1) (put w (g.α r0) (.cells c e fr)))
  (hlo : o1.lo ≤ o1.cells.length) (hle : o1.cells.length ≤ c.size)
  (hth : Thaw fr c.size) (hv : ∀ (j : Nat) (a : AV),o1.cells[j]? = some a → a.free = true ∧ ∃ v : Value,c[j]? = some v ∧ VR g H w a v)
  {v : AV} {u : Value} (hf : v.free = true) (hvu : VR g (H.set r0 o1) (put w (g.α r0) (.cells c e fr)) v u) (d : Option Nat) :
  OpPost L0 g H w tmps d v σ (H.set r0 o1) u (put w (g.α r0) (.cells c e fr)) g := by
 have hloc : ∀ b,g.loc b → (put w (g.α r0) (.cells c e fr)).heap[b]? = w.heap[b]? := fun b hb => put_ne w _ b _ (fun x => hr.nloc r0 hrl0 (x ▸ hb))
 refine ⟨(hs.step hk rfl (fun _ h => h) hloc).weak d,ValR.of_vr hvu (.inl hf),heap_set hr r0 o1 hrl0 hn c e fr hk hlo hle hth hv,⟨rfl,?_,rfl,rfl,rfl,?_,fun b hb => put_ne w _ b _ ?_,fun _ h => h,fun _ h => .inl h,fun a v hf hv => vr_keeps hk a v hf hv⟩,fun b hb => hloc b (hs.outer b hb)⟩
 ·rw [put_size]; exact Nat.le_refl _
 ·simp
 ·have := hr.new r0 hn hrl0; omega
theorem post_move {tmps : Array Value} (hs : StR L0 g H w σ tmps none) (hr : HeapR g H w) (r0 : Nat) (o1 : AObj) (hrl0 : r0 < H.length) (hn : g.n0 ≤ r0) (c : Array Value) (e : TypeId) (fr : Nat × Nat)
  (hk : Keeps g H w { g with α := fun r => if r = r0 then w.heap.size else g.α r } (H.set r0 o1) (al w (.cells c e fr)))
  (hlo : o1.lo ≤ o1.cells.length) (hle : o1.cells.length ≤ c.size)
  (hth : Thaw fr c.size) (hv : ∀ (j : Nat) (a : AV),o1.cells[j]? = some a → a.free = true ∧ ∃ v : Value,c[j]? = some v ∧ VR g H w a v)
  {v : AV} {u : Value} (hf : v.free = true) (hvu : VR { g with α := fun r => if r = r0 then w.heap.size else g.α r } (H.set r0 o1) (al w (.cells c e fr)) v u) (d : Option Nat) :
  OpPost L0 g H w tmps d v σ (H.set r0 o1) u (al w (.cells c e fr)) { g with α := fun r => if r = r0 then w.heap.size else g.α r } := by
 refine ⟨(hs.step hk rfl (fun _ h => h) (fun b hb => al_old w _ b (hr.locb b hb).2)).weak d,ValR.of_vr hvu (.inl hf),heap_move hr r0 o1 hrl0 hn c e fr hk hlo hle hth hv,⟨rfl,?_,rfl,rfl,rfl,?_,fun b hb => al_old w _ b ?_,fun _ h => h,fun _ h => .inl h,fun a v hf hv => vr_keeps hk a v hf hv⟩,fun b hb => al_old w _ b (hr.locb b (hs.outer b hb)).2⟩
 ·rw [al_size]; omega
 ·simp
 ·exact Nat.lt_of_lt_of_le hb (n0_le_size hr)
theorem vr_forget {d0 : Nat} {γ : Nat → Nat} {l : Nat → Prop} (hγ : ∀ d,d ≠ d0 → γ d = g.γ d) {x : AV} {v : Value} (h : VR g H w x v) (hf : x.free = true ∨ x.isL = true) {H' : Heap} {w' : World} (hk : Keeps g H w { g with γ := γ,loc := l } H' w') :
  VR { g with γ := γ,loc := l } H' w' (forget d0 x) v ∧ ((forget d0 x).free = true ∨ (forget d0 x).isL = true) := by
 rcases hf with hf | hf
 ·have e : forget d0 x = x := by cases x <;> first | rfl | (simp [AV.free] at hf)
  rw [e]
  exact ⟨vr_keeps hk _ _ hf h,.inl hf⟩
 ·cases x <;> first | (simp [AV.isL] at hf; done) | skip
  rename_i d i
  rw [vr_lptr] at h
  by_cases e : d = d0
  ·simp [forget,e,VR,AV.free]
  ·simp only [forget,if_neg e]
   rw [vr_lptr]
   exact ⟨by rw [h]; simp [hγ d e],.inr rfl⟩
theorem post_lnew {tmps : Array Value} (hs : StR L0 g H w σ tmps none) (hr : HeapR g H w) (d0 : Nat) (xs : List AV) (c : Array Value) (e : TypeId) (hle : xs.length ≤ c.size)
  (hv : ∀ (j : Nat) (a : AV),xs[j]? = some a → a.free = true ∧ ∃ v : Value,c[j]? = some v ∧ VR g H w a v) :
  OpPost L0 g H w tmps (some d0) (.lbox xs) (σ.map (forget d0)) H (.pointer (some ⟨w.heap.size,0,none⟩)) (al w (.cells c e (0,0))) { g with γ := fun d => if d = d0 then w.heap.size else g.γ d,loc := fun b => g.loc b ∨ b = w.heap.size } := by
 have hk := keeps_al hr (.cells c e (0,0)) (fun d => if d = d0 then w.heap.size else g.γ d) (fun b => g.loc b ∨ b = w.heap.size) (fun b h => h)
 have hold : ∀ b,g.loc b → (al w (.cells c e (0,0))).heap[b]? = w.heap[b]? := fun b hb => al_old w _ b (hr.locb b hb).2
 have hmap : ∀ (d : Nat) (ys : List AV),(σ.map (forget d0))[d]? = some (.lbox ys) → σ[d]? = some (.lbox ys) := fun d ys hd => by
  rw [List.getElem?_map] at hd
  cases hσ : σ[d]? with
  | none => rw [hσ] at hd; simp at hd
  | some x =>
   rw [hσ] at hd
   simp only [Option.map_some,Option.some.injEq] at hd
   cases x <;> simp [forget] at hd
   ·exact congrArg (fun z => some (AV.lbox z)) hd
   ·split at hd <;> simp at hd
 refine ⟨⟨by simpa using hs.len,fun d a' hx hd => ?_,fun d d' ys zs h1 h2 h3 h4 h5 => ?_,fun d ys hx hd => ?_,fun b hb => .inl (hs.outer b hb)⟩,?_,heap_al hr _ _ _ (fun b h => h),⟨rfl,?_,rfl,rfl,rfl,Nat.le_refl _,fun b hb => al_old w _ b (Nat.lt_of_lt_of_le hb (n0_le_size hr)),fun b hb => .inl hb,fun b hb => ?_,fun a v hf hv => vr_keeps hk a v hf hv⟩,fun b hb => hold b (hs.outer b hb)⟩
 ·have hne : d ≠ d0 := fun e => hx (by rw [e])
  rw [List.getElem?_map] at hd
  cases hσ : σ[d]? with
  | none => rw [hσ] at hd; simp at hd
  | some x =>
   rw [hσ] at hd
   simp only [Option.map_some,Option.some.injEq] at hd
   obtain ⟨v,hv1,hsv⟩ := hs.slot d x (by simp) hσ
   refine ⟨v,hv1,?_⟩
   subst hd
   by_cases hx' : ∃ ys,x = .lbox ys
   ·obtain ⟨ys,rfl⟩ := hx'
    obtain ⟨h1,h2⟩ := hsv
    simp only [forget]
    refine ⟨?_,?_⟩
    ·simp only [if_neg hne]; exact h1
    ·simp only [if_neg hne]; exact h2.step hk (hold _ (hs.own d ys (by simp) hσ).1)
   ·obtain ⟨h1,h2⟩ := hsv.out (fun ys e => hx' ⟨ys,e⟩)
    have := vr_forget (d0 := d0) (fun d hd => by simp [hd]) h1 h2 hk
    exact SV.of_vr this.1 this.2
 ·have n1 : d ≠ d0 := fun e => h1 (by rw [e])
  have n2 : d' ≠ d0 := fun e => h2 (by rw [e])
  simp only [if_neg n1,if_neg n2]
  exact hs.sep d d' ys zs (by simp) (by simp) h3 (hmap d ys h4) (hmap d' zs h5)
 ·have n1 : d ≠ d0 := fun e => hx (by rw [e])
  simp only [if_neg n1]
  have := hs.own d ys (by simp) (hmap d ys hd)
  exact ⟨.inl this.1,this.2⟩
 ·refine ⟨d0,rfl,by simp,⟨c,e,(0,0),⟨by simp only [if_true]; exact al_new w _,hle,fun _ => .inl rfl,fun j x hx => ?_⟩⟩,.inr (by simp),?_,fun d' ys hne hd => ?_⟩
  ·obtain ⟨h1,v,h2,h3⟩ := hv j x hx
   exact ⟨h1,v,h2,vr_keeps hk _ _ h1 h3⟩
  ·simp only [if_true]
   intro hb
   have := (hr.locb _ (hs.outer _ hb)).2
   omega
  ·simp only [if_true,if_neg hne]
   have := (hr.locb _ (hs.own d' ys (by simp) (hmap d' ys hd)).1).2
   omega
 ·rw [al_size]; omega
 ·rcases hb with hb | hb
  ·exact .inl hb
  ·right; omega
theorem post_lput {tmps : Array Value} (hs : StR L0 g H w σ tmps none) (hr : HeapR g H w) (d0 : Nat) (xs ys : List AV) (hd0 : σ[d0]? = some (.lbox xs)) (c : Array Value) (e : TypeId) (fr : Nat × Nat) (hle : ys.length ≤ c.size) (hth : Thaw fr c.size)
  (hv : ∀ (j : Nat) (a : AV),ys[j]? = some a → a.free = true ∧ ∃ v : Value,c[j]? = some v ∧ VR g H w a v) (hdst : ∀ d,o.dst = some d → d ≠ d0) (u : Value) (hu : u = .tuple #[]) :
  OpPost L0 g H w tmps o.dst (.tup []) (σ.set d0 (.lbox ys)) H u (put w (g.γ d0) (.cells c e fr)) g := by
 have hl0 := (hs.own d0 xs (by simp) hd0).1
 have hk := keeps_loc hr (g.γ d0) hl0 (.cells c e fr)
 have hlt : d0 < σ.length := (List.getElem?_eq_some_iff.1 hd0).1
 have hmap : ∀ (d : Nat) (zs : List AV),(σ.set d0 (.lbox ys))[d]? = some (.lbox zs) → ∃ zs',σ[d]? = some (.lbox zs') := fun d zs hd => by
  by_cases e1 : d0 = d
  ·subst e1; exact ⟨xs,hd0⟩
  ·rw [List.getElem?_set_ne e1] at hd; exact ⟨zs,hd⟩
 refine ⟨⟨by simpa using hs.len,fun d a' hx hd => ?_,fun d d' zs zs' h1 h2 h3 h4 h5 => ?_,fun d zs hx hd => ?_,hs.outer⟩,?_,heap_loc hr _ hl0 _,⟨rfl,?_,rfl,rfl,rfl,Nat.le_refl _,fun b hb => put_ne w _ b _ ?_,fun _ h => h,fun _ h => .inl h,fun a v hf hv => vr_keeps hk a v hf hv⟩,fun b hb => put_ne w _ b _ ?_⟩
 ·by_cases e1 : d0 = d
  ·subst e1
   rw [List.getElem?_set_self hlt] at hd
   obtain rfl := Option.some.inj hd
   obtain ⟨v,hv1,hsv⟩ := hs.slot d0 _ (by simp) hd0
   refine ⟨v,hv1,hsv.1,c,e,fr,⟨put_at w _ _ (hr.locb _ hl0).2,hle,fun _ => hth,fun j x hx => ?_⟩⟩
   obtain ⟨h1,v,h2,h3⟩ := hv j x hx
   exact ⟨h1,v,h2,vr_keeps hk _ _ h1 h3⟩
  ·rw [List.getElem?_set_ne e1] at hd
   obtain ⟨v,hv1,hsv⟩ := hs.slot d a' (by simp) hd
   exact ⟨v,hv1,hsv.step hk rfl fun zs e2 => put_ne w _ _ _ (fun x => hs.sep d0 d xs zs (by simp) (by simp) e1 hd0 (e2 ▸ hd) x)⟩
 ·obtain ⟨_,k1⟩ := hmap d zs h4
  obtain ⟨_,k2⟩ := hmap d' zs' h5
  exact hs.sep d d' _ _ (by simp) (by simp) h3 k1 k2
 ·obtain ⟨_,k1⟩ := hmap d zs hd
  exact hs.own d _ (by simp) k1
 ·subst hu
  exact ValR.of_vr (by simp only [VR]; exact ⟨#[],rfl,by simp [VRs]⟩) (.inl (by simp [AV.free,AV.freeAll]))
 ·rw [put_size]; exact Nat.le_refl _
 ·have := (hr.locb _ hl0).1; omega
 ·intro x
  exact (hs.own d0 xs (by simp) hd0).2 (x ▸ hb)
end
end Go.A
