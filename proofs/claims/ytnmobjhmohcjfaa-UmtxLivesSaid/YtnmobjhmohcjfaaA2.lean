/- THE ABSTRACT MACHINE: what its states say of a world, and how that is kept. -/
import Derived.Test.YtnmobjhmohcjfaaA1
set_option linter.unusedSimpArgs false
set_option linter.unusedVariables false
set_option linter.unnecessarySimpa false
namespace Go.A
structure G where
 α : Nat → Nat
 γ : Nat → Nat
 loc : Nat → Prop
 n0 : Nat
 B : Nat
def cellAt (w : World) (b i : Nat) : Option Value := w.cell? ⟨b,i,none⟩
def bsz (w : World) (b : Nat) : Nat := match w.heap[b]? with
 | some (.cells c _ _) => c.size
 | _ => 0
structure AddrOk (g : G) (H : Heap) (w : World) (r k b : Nat) (o : AObj) : Prop where
 at_ : H[r]? = some o
 isRow : o.isRow = true
 le : k ≤ o.cells.length
 fixed : (∀ cs,o = .row cs → b = g.α r)
 top : k = o.cells.length → b = g.α r
 far : b ≠ g.α r → b < w.heap.size ∧ ¬ g.loc b ∧ ∀ r',r' < H.length → g.α r' ≠ b
 same : o.lo ≤ k → ∀ j,j < k → cellAt w b j = cellAt w (g.α r) j
def Lone (g : G) (H : Heap) (w : World) (b : Nat) : Prop := b < w.heap.size ∧ ¬ g.loc b ∧ ∀ r',r' < H.length → g.α r' ≠ b
mutual
def VR (g : G) (H : Heap) (w : World) : AV → Value → Prop
 | .undef,_ => True
 | .c x,v => v = x
 | .ptr r i k,v => ∃ b o,v = .pointer (some ⟨b,i,none⟩) ∧ AddrOk g H w r k b o
 | .sl r off len cap sz k ex,v => (∃ x : Addr,v = .slice (some x) 0 0 ∧ len = 0 ∧ cap = 0 ∧ ex = true) ∨ ∃ b cap' o off',v = .slice (some ⟨b,off',none⟩) len cap' ∧ (off' = off ∨ (cap = 0 ∧ len = 0)) ∧ AddrOk g H w r k b o ∧ cap ≤ cap' ∧ (ex = true → cap' = cap) ∧
   (ex = false → k = o.cells.length → off' + cap' * sz ≤ bsz w (g.α r))
 | .lbox _,_ => False
 | .lptr d i,v => v = .pointer (some ⟨g.γ d,i,none⟩)
 | .agg xs,v => ∃ vs,v = .agg vs ∧ VRs g H w xs vs.toList
 | .tup xs,v => ∃ vs,v = .tuple vs ∧ VRs g H w xs vs.toList
 | .fn f cs,v => ∃ vs,v = .func (.func f) #[] vs ∧ VRs g H w cs vs.toList
 | .iface t x,v => ∃ u,v = .iface t u ∧ VR g H w x u
 | .map _,_ => False
 | .vs _ _ _,_ => False
 | .vp _ _,_ => False
 | .imm cs,v => ∃ b e fr,v = .slice (some ⟨b,0,none⟩) cs.length cs.length ∧ Lone g H w b ∧ w.heap[b]? = some (.cells cs.toArray e fr)
def VRs (g : G) (H : Heap) (w : World) : List AV → List Value → Prop
 | [],vs => vs = []
 | x :: xs,vs => ∃ v r,vs = v :: r ∧ VR g H w x v ∧ VRs g H w xs r
end
def Thaw (fr : Nat × Nat) (n : Nat) : Prop := fr.1 = fr.2 ∨ n ≤ fr.1
theorem Thaw.cells {fr : Nat × Nat} {n : Nat} (h : Thaw fr n) : ∀ j,j < n → ¬ (fr.1 ≤ j ∧ j < fr.2) := fun j hj hc => by
 rcases h with h | h <;> omega
structure CellsR (g : G) (H : Heap) (w : World) (b : Nat) (xs : List AV) (writable : Prop) (c : Array Value) (e : TypeId) (fr : Nat × Nat) : Prop where
 blk : w.heap[b]? = some (.cells c e fr)
 le : xs.length ≤ c.size
 thaw : writable → Thaw fr c.size
 val : ∀ (j : Nat) (a : AV),xs[j]? = some a → a.free = true ∧ ∃ v : Value,c[j]? = some v ∧ VR g H w a v
structure HeapR (g : G) (H : Heap) (w : World) : Prop where
 inj : ∀ r r',r < H.length → r' < H.length → g.α r = g.α r' → r = r'
 lt : ∀ r,r < H.length → g.α r < w.heap.size
 nloc : ∀ r,r < H.length → ¬ g.loc (g.α r)
 bsz0 : g.B ≤ w.heap.size
 n0 : g.n0 ≤ H.length
 new : ∀ r,g.n0 ≤ r → r < H.length → g.B ≤ g.α r
 locb : ∀ b,g.loc b → g.B ≤ b ∧ b < w.heap.size
 row : ∀ (r : Nat) (o : AObj),H[r]? = some o → o.isRow = true → o.lo ≤ o.cells.length ∧ (o.isW = true → g.n0 ≤ r) ∧ ∃ c e fr,CellsR g H w (g.α r) o.cells (o.isW = true) c e fr
structure Ext (g : G) (H : Heap) (w : World) (g' : G) (H' : Heap) (w' : World) : Prop where
 n0 : (g'.n0,g'.B) = (g.n0,g.B)
 size : w.heap.size ≤ w'.heap.size
 os : w'.os = w.os
 tape : w'.tape = w.tape
 output : w'.output = w.output
 len : H.length ≤ H'.length
 old : ∀ b,b < g.B → w'.heap[b]? = w.heap[b]?
 loc : ∀ b,g.loc b → g'.loc b
 loc' : ∀ b,g'.loc b → g.loc b ∨ w.heap.size ≤ b
 vr : ∀ a v,a.free = true → VR g H w a v → VR g' H' w' a v
theorem Ext.refl (g : G) (H : Heap) (w : World) : Ext g H w g H w :=
 ⟨rfl,Nat.le_refl _,rfl,rfl,rfl,Nat.le_refl _,fun _ _ => rfl,fun _ h => h,fun _ h => .inl h,fun _ _ _ h => h⟩
theorem Ext.trans {g g1 g2 : G} {H H1 H2 : Heap} {w w1 w2 : World} (h : Ext g H w g1 H1 w1) (k : Ext g1 H1 w1 g2 H2 w2) : Ext g H w g2 H2 w2 where
 n0 := k.n0.trans h.n0
 size := Nat.le_trans h.size k.size
 os := k.os.trans h.os
 tape := k.tape.trans h.tape
 output := k.output.trans h.output
 len := Nat.le_trans h.len k.len
 old := fun b hb => (k.old b (by rw [show g1.B = g.B from congrArg Prod.snd h.n0]; exact hb)).trans (h.old b hb)
 loc := fun b hb => k.loc b (h.loc b hb)
 loc' := fun b hb => by
  rcases k.loc' b hb with h1 | h1
  ·exact h.loc' b h1
  ·exact .inr (Nat.le_trans h.size h1)
 vr := fun a v hf hv => k.vr a v hf (h.vr a v hf hv)
structure Keeps (g : G) (H : Heap) (w : World) (g' : G) (H' : Heap) (w' : World) : Prop where
 addr : ∀ r k b o,AddrOk g H w r k b o → ∃ o',AddrOk g' H' w' r k b o' ∧ (k = o'.cells.length → k = o.cells.length ∧ bsz w (g.α r) ≤ bsz w' (g'.α r))
 lone : ∀ b,Lone g H w b → Lone g' H' w' b ∧ w'.heap[b]? = w.heap[b]?
mutual
theorem vr_keeps {g g' : G} {H H' : Heap} {w w' : World} (h : Keeps g H w g' H' w') : ∀ (a : AV) (v : Value),a.free = true → VR g H w a v → VR g' H' w' a v
 | .undef,_,_,_ => by simp only [VR]
 | .c _,_,_,hv => by simpa only [VR] using hv
 | .ptr r i k,v,_,hv => by
  simp only [VR] at hv ⊢
  obtain ⟨b,o,e,ha⟩ := hv
  obtain ⟨o',ha',_⟩ := h.addr _ _ _ _ ha
  exact ⟨b,o',e,ha'⟩
 | .sl r off len cap sz k ex,v,_,hv => by
  simp only [VR] at hv ⊢
  rcases hv with hv | ⟨b,cap',o,off',e,hoff,ha,hc,hx,hy⟩
  ·exact .inl hv
  obtain ⟨o',ha',hk⟩ := h.addr _ _ _ _ ha
  exact .inr ⟨b,cap',o',off',e,hoff,ha',hc,hx,fun e1 e2 => Nat.le_trans (hy e1 (hk e2).1) (hk e2).2⟩
 | .lbox _,_,hf,_ => by simp [AV.free] at hf
 | .lptr _ _,_,hf,_ => by simp [AV.free] at hf
 | .agg xs,v,hf,hv => by
  simp only [VR] at hv ⊢
  obtain ⟨vs,e,hs⟩ := hv
  exact ⟨vs,e,vrs_keeps h xs _ (by simpa [AV.free] using hf) hs⟩
 | .tup xs,v,hf,hv => by
  simp only [VR] at hv ⊢
  obtain ⟨vs,e,hs⟩ := hv
  exact ⟨vs,e,vrs_keeps h xs _ (by simpa [AV.free] using hf) hs⟩
 | .fn f xs,v,hf,hv => by
  simp only [VR] at hv ⊢
  obtain ⟨vs,e,hs⟩ := hv
  exact ⟨vs,e,vrs_keeps h xs _ (by simpa [AV.free] using hf) hs⟩
 | .iface t x,v,hf,hv => by
  simp only [VR] at hv ⊢
  obtain ⟨u,e,hs⟩ := hv
  exact ⟨u,e,vr_keeps h x _ (by simpa [AV.free] using hf) hs⟩
 | .map _,_,_,hv => by simp only [VR] at hv
 | .vs _ _ _,_,_,hv => by simp only [VR] at hv
 | .vp _ _,_,_,hv => by simp only [VR] at hv
 | .imm _,v,_,hv => by
  simp only [VR] at hv ⊢
  obtain ⟨b,e,fr,h1,h2,h3⟩ := hv
  exact ⟨b,e,fr,h1,(h.lone b h2).1,by rw [(h.lone b h2).2]; exact h3⟩
theorem vrs_keeps {g g' : G} {H H' : Heap} {w w' : World} (h : Keeps g H w g' H' w') : ∀ (xs : List AV) (vs : List Value),AV.freeAll xs = true → VRs g H w xs vs → VRs g' H' w' xs vs
 | [],_,_,hv => by simpa only [VRs] using hv
 | x :: xs,vs,hf,hv => by
  simp only [VRs] at hv ⊢
  simp only [AV.freeAll,Bool.and_eq_true] at hf
  obtain ⟨v,r,e,h1,h2⟩ := hv
  exact ⟨v,r,e,vr_keeps h x v hf.1 h1,vrs_keeps h xs r hf.2 h2⟩
end
def al (w : World) (o : Obj) : World := { w with heap := w.heap.push o }
def put (w : World) (b : Nat) (o : Obj) : World := { w with heap := w.heap.setIfInBounds b o }
theorem al_old (w : World) (o : Obj) (b : Nat) (h : b < w.heap.size) : (al w o).heap[b]? = w.heap[b]? := by
 show (w.heap.push o)[b]? = _
 rw [Array.getElem?_push,if_neg (by omega)]
theorem al_new (w : World) (o : Obj) : (al w o).heap[w.heap.size]? = some o := by
 show (w.heap.push o)[w.heap.size]? = _
 rw [Array.getElem?_push,if_pos rfl]
theorem al_size (w : World) (o : Obj) : (al w o).heap.size = w.heap.size + 1 := by simp [al]
theorem cellAt_blk {w w' : World} {b : Nat} (h : w'.heap[b]? = w.heap[b]?) (j : Nat) : cellAt w' b j = cellAt w b j := by simp [cellAt,World.cell?,h]
theorem bsz_blk {w w' : World} {b : Nat} (h : w'.heap[b]? = w.heap[b]?) : bsz w' b = bsz w b := by simp [bsz,h]
theorem cellAt_cells {w : World} {b : Nat} {c : Array Value} {e : TypeId} {fr : Nat × Nat} (h : w.heap[b]? = some (.cells c e fr)) (j : Nat) : cellAt w b j = c[j]? := by simp [cellAt,World.cell?,h]
theorem bsz_cells {w : World} {b : Nat} {c : Array Value} {e : TypeId} {fr : Nat × Nat} (h : w.heap[b]? = some (.cells c e fr)) : bsz w b = c.size := by simp [bsz,h]
theorem put_size (w : World) (b : Nat) (o : Obj) : (put w b o).heap.size = w.heap.size := by simp [put]
theorem put_at (w : World) (b : Nat) (o : Obj) (h : b < w.heap.size) : (put w b o).heap[b]? = some o := by simp [put,h]
theorem put_ne (w : World) (b b' : Nat) (o : Obj) (h : b ≠ b') : (put w b o).heap[b']? = w.heap[b']? := by
 simp only [put]
 rw [Array.getElem?_setIfInBounds_ne h]
theorem keeps_al {g : G} {H : Heap} {w : World} (hr : HeapR g H w) (o : Obj) (γ : Nat → Nat) (l : Nat → Prop) (hl : ∀ b,l b → g.loc b ∨ b = w.heap.size) : Keeps g H w { g with γ := γ,loc := l } H (al w o) where
 addr := fun r k b ob ha => by
  have hrl : r < H.length := by
   have := ha.at_
   exact (List.getElem?_eq_some_iff.1 this).1
  have hb : b < w.heap.size := by
   by_cases e : b = g.α r
   ·rw [e]; exact hr.lt r hrl
   ·exact (ha.far e).1
  refine ⟨ob,⟨ha.at_,ha.isRow,ha.le,ha.fixed,ha.top,fun e => ⟨?_,?_,(ha.far e).2.2⟩,fun h1 j hj => ?_⟩,fun e => ⟨e,?_⟩⟩
  ·rw [al_size]; omega
  ·intro h
   rcases hl b h with h | h
   ·exact (ha.far e).2.1 h
   ·omega
  ·rw [cellAt_blk (al_old w o b hb),cellAt_blk (al_old w o _ (hr.lt r hrl))]
   exact ha.same h1 j hj
  ·rw [bsz_blk (al_old w o _ (hr.lt r hrl))]; exact Nat.le_refl _
 lone := fun b hb => ⟨⟨by rw [al_size]; have := hb.1; omega,fun h => by
  rcases hl b h with h | h
  ·exact hb.2.1 h
  ·have := hb.1; omega,hb.2.2⟩,al_old w o b hb.1⟩
theorem keeps_row {g : G} {H : Heap} {w : World} (hr : HeapR g H w) (o : Obj) (ao : AObj) : Keeps g H w { g with α := fun r => if r = H.length then w.heap.size else g.α r } (H ++ [ao]) (al w o) where
 addr := fun r k b ob ha => by
  have hrl : r < H.length := (List.getElem?_eq_some_iff.1 ha.at_).1
  have hb : b < w.heap.size := by
   by_cases e : b = g.α r
   ·rw [e]; exact hr.lt r hrl
   ·exact (ha.far e).1
  have hne : r ≠ H.length := by omega
  refine ⟨ob,⟨?_,ha.isRow,ha.le,?_,?_,fun e => ⟨?_,?_,?_⟩,fun h1 j hj => ?_⟩,fun e => ⟨e,?_⟩⟩
  ·rw [List.getElem?_append_left hrl]; exact ha.at_
  ·simp only [hne,if_false]; exact ha.fixed
  ·simp only [hne,if_false]; exact ha.top
  ·rw [al_size]; omega
  ·simp only [hne,if_false] at e; exact (ha.far e).2.1
  ·intro r' hr'
   simp only [hne,if_false] at e
   simp only [List.length_append,List.length_cons,List.length_nil] at hr'
   by_cases e' : r' = H.length
   ·simp only [e',if_true]; omega
   ·simp only [e',if_false]; exact (ha.far e).2.2 r' (by omega)
  ·simp only [hne,if_false]
   rw [cellAt_blk (al_old w o b hb),cellAt_blk (al_old w o _ (hr.lt r hrl))]
   exact ha.same h1 j hj
  ·simp only [hne,if_false]
   rw [bsz_blk (al_old w o _ (hr.lt r hrl))]; exact Nat.le_refl _
 lone := fun b hb => ⟨⟨by rw [al_size]; have := hb.1; omega,hb.2.1,fun r' hr' => by
  have hb1 := hb.1
  simp only [List.length_append,List.length_cons,List.length_nil] at hr'
  by_cases e' : r' = H.length
  ·simp only [e',if_true]; omega
  ·simp only [e',if_false]; exact hb.2.2 r' (by omega)⟩,al_old w o b hb.1⟩
theorem keeps_loc {g : G} {H : Heap} {w : World} (hr : HeapR g H w) (b0 : Nat) (h0 : g.loc b0) (o : Obj) : Keeps g H w g H (put w b0 o) where
 addr := fun r k b ob ha => by
  have hrl : r < H.length := (List.getElem?_eq_some_iff.1 ha.at_).1
  have h1 : b0 ≠ g.α r := fun e => hr.nloc r hrl (e ▸ h0)
  have h2 : b0 ≠ b := by
   intro e
   by_cases e' : b = g.α r
   ·exact h1 (e.trans e')
   ·exact (ha.far e').2.1 (e ▸ h0)
  refine ⟨ob,⟨ha.at_,ha.isRow,ha.le,ha.fixed,ha.top,fun e => ⟨?_,(ha.far e).2⟩,fun h3 j hj => ?_⟩,fun e => ⟨e,?_⟩⟩
  ·rw [put_size]; exact (ha.far e).1
  ·rw [cellAt_blk (put_ne w b0 b o h2),cellAt_blk (put_ne w b0 _ o h1)]; exact ha.same h3 j hj
  ·rw [bsz_blk (put_ne w b0 _ o h1)]; exact Nat.le_refl _
 lone := fun b hb => ⟨⟨by rw [put_size]; exact hb.1,hb.2⟩,put_ne w b0 b o (fun e => hb.2.1 (e ▸ h0))⟩
theorem keeps_put {g : G} {H : Heap} {w : World} (hr : HeapR g H w) (r0 : Nat) (o0 o1 : AObj) (h0 : H[r0]? = some o0) (hrow : o1.isRow = true) (hlen : o1.cells.length = o0.cells.length)
  (hlo : (∀ cs,o1 = .row cs → ∃ cs',o0 = .row cs')) (hlo' : (∃ cs,o1 = .row cs) ∨ o1.lo = o1.cells.length) (c : Array Value) (e : TypeId) (fr : Nat × Nat) (hc : c.size = bsz w (g.α r0)) :
  Keeps g H w g (H.set r0 o1) (put w (g.α r0) (.cells c e fr)) where
 addr := fun r k b ob ha => by
  have hrl : r < H.length := (List.getElem?_eq_some_iff.1 ha.at_).1
  have hrl0 : r0 < H.length := (List.getElem?_eq_some_iff.1 h0).1
  by_cases er : r = r0
  ·subst er
   obtain rfl : ob = o0 := by have := ha.at_; rw [h0] at this; exact (Option.some.inj this).symm
   have hk : k ≤ o1.cells.length := by rw [hlen]; exact ha.le
   have hfix : (∀ cs,o1 = .row cs → b = g.α r) := fun cs h => by
    obtain ⟨cs',h'⟩ := hlo cs h
    exact ha.fixed cs' h'
   have htop : k = o1.cells.length → b = g.α r := fun h => ha.top (by rw [h,hlen])
   refine ⟨o1,⟨by rw [List.getElem?_set_self hrl],hrow,hk,hfix,htop,fun e => ⟨?_,(ha.far e).2.1,fun r' hr' => (ha.far e).2.2 r' (by simpa using hr')⟩,fun h1 j hj => ?_⟩,fun e => ⟨by rw [e,hlen],?_⟩⟩
   ·rw [put_size]; exact (ha.far e).1
   ·have hb : b = g.α r := by
     rcases hlo' with ⟨cs,h⟩ | h
     ·exact hfix cs h
     ·exact htop (by omega)
    rw [hb]
   ·rw [bsz_cells (put_at w _ _ (hr.lt r hrl)),hc]; exact Nat.le_refl _
  ·have h1 : g.α r0 ≠ g.α r := fun e => er (hr.inj r r0 hrl hrl0 e.symm)
   have h2 : g.α r0 ≠ b := by
    intro e
    by_cases e' : b = g.α r
    ·exact h1 (e.trans e')
    ·exact (ha.far e').2.2 r0 hrl0 e
   refine ⟨ob,⟨by rw [List.getElem?_set_ne (by omega)]; exact ha.at_,ha.isRow,ha.le,ha.fixed,ha.top,fun e => ⟨?_,(ha.far e).2.1,fun r' hr' => (ha.far e).2.2 r' (by simpa using hr')⟩,fun h3 j hj => ?_⟩,fun e => ⟨e,?_⟩⟩
   ·rw [put_size]; exact (ha.far e).1
   ·rw [cellAt_blk (put_ne w _ b _ h2),cellAt_blk (put_ne w _ _ _ h1)]; exact ha.same h3 j hj
   ·rw [bsz_blk (put_ne w _ _ _ h1)]; exact Nat.le_refl _
 lone := fun b hb => ⟨⟨by rw [put_size]; exact hb.1,hb.2.1,fun r' hr' => hb.2.2 r' (by simpa using hr')⟩,put_ne w _ b _ (hb.2.2 r0 (List.getElem?_eq_some_iff.1 h0).1)⟩
theorem keeps_grow {g : G} {H : Heap} {w : World} (hr : HeapR g H w) (r0 : Nat) (o0 o1 : AObj) (h0 : H[r0]? = some o0) (hrow : o1.isRow = true) (hlen : o0.cells.length < o1.cells.length) (hlo : o1.lo = o0.lo)
  (hng : ∀ cs,o1 ≠ .row cs) (c : Array Value) (e : TypeId) (fr : Nat × Nat) (hsame : ∀ j,j < o0.cells.length → c[j]? = cellAt w (g.α r0) j) :
  Keeps g H w g (H.set r0 o1) (put w (g.α r0) (.cells c e fr)) where
 addr := fun r k b ob ha => by
  have hrl : r < H.length := (List.getElem?_eq_some_iff.1 ha.at_).1
  have hrl0 : r0 < H.length := (List.getElem?_eq_some_iff.1 h0).1
  by_cases er : r = r0
  ·subst er
   obtain rfl : ob = o0 := by have := ha.at_; rw [h0] at this; exact (Option.some.inj this).symm
   have hle := ha.le
   refine ⟨o1,⟨by rw [List.getElem?_set_self hrl],hrow,by omega,fun cs h => (hng cs h).elim,fun h => by omega,fun e => ⟨?_,(ha.far e).2.1,fun r' hr' => (ha.far e).2.2 r' (by simpa using hr')⟩,fun h1 j hj => ?_⟩,fun e => by omega⟩
   ·rw [put_size]; exact (ha.far e).1
   ·have hs := ha.same (by omega) j hj
    have hn : cellAt (put w (g.α r) (.cells c e fr)) (g.α r) j = cellAt w (g.α r) j := by
     rw [cellAt_cells (put_at w _ _ (hr.lt r hrl))]; exact hsame j (by omega)
    by_cases e' : b = g.α r
    ·rw [e']
    ·rw [cellAt_blk (put_ne w _ b _ (fun x => e' x.symm)),hn]; exact hs
  ·have h1 : g.α r0 ≠ g.α r := fun e => er (hr.inj r r0 hrl hrl0 e.symm)
   have h2 : g.α r0 ≠ b := by
    intro e
    by_cases e' : b = g.α r
    ·exact h1 (e.trans e')
    ·exact (ha.far e').2.2 r0 hrl0 e
   refine ⟨ob,⟨by rw [List.getElem?_set_ne (by omega)]; exact ha.at_,ha.isRow,ha.le,ha.fixed,ha.top,fun e => ⟨?_,(ha.far e).2.1,fun r' hr' => (ha.far e).2.2 r' (by simpa using hr')⟩,fun h3 j hj => ?_⟩,fun e => ⟨e,?_⟩⟩
   ·rw [put_size]; exact (ha.far e).1
   ·rw [cellAt_blk (put_ne w _ b _ h2),cellAt_blk (put_ne w _ _ _ h1)]; exact ha.same h3 j hj
   ·rw [bsz_blk (put_ne w _ _ _ h1)]; exact Nat.le_refl _
 lone := fun b hb => ⟨⟨by rw [put_size]; exact hb.1,hb.2.1,fun r' hr' => hb.2.2 r' (by simpa using hr')⟩,put_ne w _ b _ (hb.2.2 r0 (List.getElem?_eq_some_iff.1 h0).1)⟩
theorem keeps_move {g : G} {H : Heap} {w : World} (hr : HeapR g H w) (r0 : Nat) (o0 o1 : AObj) (h0 : H[r0]? = some o0) (hrow : o1.isRow = true) (hlen : o0.cells.length < o1.cells.length) (hlo : o1.lo = o0.lo)
  (hng : ∀ cs,o1 ≠ .row cs) (c : Array Value) (e : TypeId) (fr : Nat × Nat) (hsame : ∀ j,j < o0.cells.length → c[j]? = cellAt w (g.α r0) j) :
  Keeps g H w { g with α := fun r => if r = r0 then w.heap.size else g.α r } (H.set r0 o1) (al w (.cells c e fr)) where
 addr := fun r k b ob ha => by
  have hrl : r < H.length := (List.getElem?_eq_some_iff.1 ha.at_).1
  have hrl0 : r0 < H.length := (List.getElem?_eq_some_iff.1 h0).1
  have hb : b < w.heap.size := by
   by_cases e : b = g.α r
   ·rw [e]; exact hr.lt r hrl
   ·exact (ha.far e).1
  by_cases er : r = r0
  ·subst er
   obtain rfl : ob = o0 := by have := ha.at_; rw [h0] at this; exact (Option.some.inj this).symm
   have hle := ha.le
   refine ⟨o1,⟨by rw [List.getElem?_set_self hrl],hrow,by omega,fun cs h => (hng cs h).elim,fun h => by omega,fun e => ⟨by rw [al_size]; omega,?_,fun r' hr' => ?_⟩,fun h1 j hj => ?_⟩,fun e => by omega⟩
   ·by_cases e' : b = g.α r
    ·rw [e']; exact hr.nloc r hrl
    ·exact (ha.far e').2.1
   ·simp only [List.length_set] at hr'
    by_cases e2 : r' = r
    ·simp only [e2,if_true]; omega
    ·simp only [e2,if_false]
     by_cases e' : b = g.α r
     ·rw [e']; exact fun h => e2 (hr.inj r' r hr' hrl h)
     ·exact (ha.far e').2.2 r' hr'
   ·simp only [if_true]
    rw [cellAt_blk (al_old w _ b hb),cellAt_cells (al_new w _),hsame j (by omega)]
    exact ha.same (by omega) j hj
  ·refine ⟨ob,⟨by rw [List.getElem?_set_ne (by omega)]; exact ha.at_,ha.isRow,ha.le,?_,?_,fun e => ⟨by rw [al_size]; omega,?_,?_⟩,fun h3 j hj => ?_⟩,fun e => ⟨e,?_⟩⟩
   ·simp only [er,if_false]; exact ha.fixed
   ·simp only [er,if_false]; exact ha.top
   ·simp only [er,if_false] at e; exact (ha.far e).2.1
   ·intro r' hr'
    simp only [er,if_false] at e
    simp only [List.length_set] at hr'
    by_cases e2 : r' = r0
    ·simp only [e2,if_true]; omega
    ·simp only [e2,if_false]; exact (ha.far e).2.2 r' hr'
   ·simp only [er,if_false]
    rw [cellAt_blk (al_old w _ b hb),cellAt_blk (al_old w _ _ (hr.lt r hrl))]; exact ha.same h3 j hj
   ·simp only [er,if_false]
    rw [bsz_blk (al_old w _ _ (hr.lt r hrl))]; exact Nat.le_refl _
 lone := fun b hb => ⟨⟨by rw [al_size]; have := hb.1; omega,hb.2.1,fun r' hr' => by
  have hb1 := hb.1
  simp only [List.length_set] at hr'
  by_cases e' : r' = r0
  ·simp only [e',if_true]; omega
  ·simp only [e',if_false]; exact hb.2.2 r' hr'⟩,al_old w _ b hb.1⟩
theorem CellsR.keeps {g g' : G} {H H' : Heap} {w w' : World} (hk : Keeps g H w g' H' w') {b b' : Nat} {xs : List AV} {p : Prop} {c : Array Value} {e : TypeId} {fr : Nat × Nat} (h : CellsR g H w b xs p c e fr) (hb : w'.heap[b']? = w.heap[b]?) :
  CellsR g' H' w' b' xs p c e fr :=
 ⟨by rw [hb]; exact h.blk,h.le,h.thaw,fun j a ha => ⟨(h.val j a ha).1,by obtain ⟨v,h1,h2⟩ := (h.val j a ha).2; exact ⟨v,h1,vr_keeps hk _ _ (h.val j a ha).1 h2⟩⟩⟩
theorem heap_al {g : G} {H : Heap} {w : World} (hr : HeapR g H w) (o : Obj) (γ : Nat → Nat) (l : Nat → Prop) (hl : ∀ b,l b → g.loc b ∨ b = w.heap.size) : HeapR { g with γ := γ,loc := l } H (al w o) where
 inj := hr.inj
 lt := fun r h => by rw [al_size]; have := hr.lt r h; show g.α r < _; omega
 nloc := fun r h h1 => by
  rcases hl _ h1 with h1 | h1
  ·exact hr.nloc r h h1
  ·have := hr.lt r h; have h2 : g.α r = w.heap.size := h1; omega
 bsz0 := by rw [al_size]; exact Nat.le_succ_of_le hr.bsz0
 n0 := hr.n0
 new := hr.new
 locb := fun b h => by
  rw [al_size]
  rcases hl b h with h | h
  ·have := hr.locb b h; exact ⟨this.1,by omega⟩
  ·subst h
   exact ⟨hr.bsz0,by omega⟩
 row := fun r ob h h1 => by
  obtain ⟨hl0,hw0,c,e,fr,hc⟩ := hr.row r ob h h1
  exact ⟨hl0,hw0,c,e,fr,hc.keeps (keeps_al hr o γ l hl) (al_old w o _ (hr.lt r (List.getElem?_eq_some_iff.1 h).1))⟩
theorem n0_le_size {g : G} {H : Heap} {w : World} (hr : HeapR g H w) : g.B ≤ w.heap.size := hr.bsz0
theorem heap_row {g : G} {H : Heap} {w : World} (hr : HeapR g H w) (ao : AObj) (c : Array Value) (e : TypeId) (fr : Nat × Nat) (hlo : ao.lo ≤ ao.cells.length) (hle : ao.cells.length ≤ c.size)
  (hth : Thaw fr c.size) (hv : ∀ (j : Nat) (a : AV),ao.cells[j]? = some a → a.free = true ∧ ∃ v : Value,c[j]? = some v ∧ VR g H w a v) :
  HeapR { g with α := fun r => if r = H.length then w.heap.size else g.α r } (H ++ [ao]) (al w (.cells c e fr)) where
 inj := fun r r' h h' he => by
  simp only [List.length_append,List.length_cons,List.length_nil] at h h'
  by_cases e1 : r = H.length <;> by_cases e2 : r' = H.length <;> simp only [e1,e2,if_true,if_false] at he
  ·omega
  ·have := hr.lt r' (by omega); omega
  ·have := hr.lt r (by omega); omega
  ·exact hr.inj r r' (by omega) (by omega) he
 lt := fun r h => by
  simp only [List.length_append,List.length_cons,List.length_nil] at h
  rw [al_size]
  by_cases e1 : r = H.length
  ·simp only [e1,if_true]; omega
  ·simp only [e1,if_false]; have := hr.lt r (by omega); omega
 nloc := fun r h h1 => by
  simp only [List.length_append,List.length_cons,List.length_nil] at h
  by_cases e1 : r = H.length
  ·simp only [e1,if_true] at h1; have := (hr.locb _ h1).2; omega
  ·simp only [e1,if_false] at h1; exact hr.nloc r (by omega) h1
 bsz0 := by rw [al_size]; exact Nat.le_succ_of_le hr.bsz0
 n0 := by have := hr.n0; simp only [List.length_append,List.length_cons,List.length_nil]; show g.n0 ≤ _; omega
 new := fun r h h' => by
  simp only [List.length_append,List.length_cons,List.length_nil] at h'
  by_cases e1 : r = H.length
  ·simp only [e1,if_true]; exact n0_le_size hr
  ·simp only [e1,if_false]; exact hr.new r h (by omega)
 locb := fun b h => by rw [al_size]; have := hr.locb b h; exact ⟨this.1,by omega⟩
 row := fun r ob h h1 => by
  have hk := keeps_row hr (.cells c e fr) ao
  by_cases e1 : r = H.length
  ·subst e1
   rw [List.getElem?_append_right (Nat.le_refl _)] at h
   simp only [Nat.sub_self,List.getElem?_cons_zero,Option.some.injEq] at h
   subst h
   refine ⟨hlo,fun _ => hr.n0,c,e,fr,⟨by simp only [if_true]; exact al_new w _,hle,fun _ => hth,fun j a ha => ⟨(hv j a ha).1,?_⟩⟩⟩
   obtain ⟨v,h2,h3⟩ := (hv j a ha).2
   exact ⟨v,h2,vr_keeps hk _ _ (hv j a ha).1 h3⟩
  ·have hrl : r < H.length := by
    have := (List.getElem?_eq_some_iff.1 h).1
    simp only [List.length_append,List.length_cons,List.length_nil] at this
    omega
   rw [List.getElem?_append_left hrl] at h
   obtain ⟨hl0,hw0,c',e',fr',hc⟩ := hr.row r ob h h1
   exact ⟨hl0,hw0,c',e',fr',hc.keeps hk (by simp only [e1,if_false]; exact al_old w _ _ (hr.lt r hrl))⟩
theorem heap_loc {g : G} {H : Heap} {w : World} (hr : HeapR g H w) (b0 : Nat) (h0 : g.loc b0) (o : Obj) : HeapR g H (put w b0 o) where
 inj := hr.inj
 lt := fun r h => by rw [put_size]; exact hr.lt r h
 nloc := hr.nloc
 bsz0 := by rw [put_size]; exact hr.bsz0
 n0 := hr.n0
 new := hr.new
 locb := fun b h => by rw [put_size]; exact hr.locb b h
 row := fun r ob h h1 => by
  obtain ⟨hl0,hw0,c,e,fr,hc⟩ := hr.row r ob h h1
  have hrl := (List.getElem?_eq_some_iff.1 h).1
  exact ⟨hl0,hw0,c,e,fr,hc.keeps (keeps_loc hr b0 h0 o) (put_ne w b0 _ o (fun e => hr.nloc r hrl (e ▸ h0)))⟩
theorem heap_set {g : G} {H : Heap} {w : World} (hr : HeapR g H w) (r0 : Nat) (o1 : AObj) (hrl0 : r0 < H.length) (hn : g.n0 ≤ r0) (c : Array Value) (e : TypeId) (fr : Nat × Nat)
  (hk : Keeps g H w g (H.set r0 o1) (put w (g.α r0) (.cells c e fr)))
  (hlo : o1.lo ≤ o1.cells.length) (hle : o1.cells.length ≤ c.size)
  (hth : Thaw fr c.size) (hv : ∀ (j : Nat) (a : AV),o1.cells[j]? = some a → a.free = true ∧ ∃ v : Value,c[j]? = some v ∧ VR g H w a v) :
  HeapR g (H.set r0 o1) (put w (g.α r0) (.cells c e fr)) where
 inj := fun r r' h h' he => by simp only [List.length_set] at h h'; exact hr.inj r r' h h' he
 lt := fun r h => by simp only [List.length_set] at h; rw [put_size]; exact hr.lt r h
 nloc := fun r h => by simp only [List.length_set] at h; exact hr.nloc r h
 bsz0 := by rw [put_size]; exact hr.bsz0
 n0 := by simp only [List.length_set]; exact hr.n0
 new := fun r h h' => by simp only [List.length_set] at h'; exact hr.new r h h'
 locb := fun b h => by rw [put_size]; exact hr.locb b h
 row := fun r ob h h1 => by
  by_cases e1 : r = r0
  ·subst e1
   rw [List.getElem?_set_self hrl0] at h
   obtain rfl := Option.some.inj h
   refine ⟨hlo,fun _ => hn,c,e,fr,⟨put_at w _ _ (hr.lt r hrl0),hle,fun _ => hth,fun j a ha => ⟨(hv j a ha).1,?_⟩⟩⟩
   obtain ⟨v,h2,h3⟩ := (hv j a ha).2
   exact ⟨v,h2,vr_keeps hk _ _ (hv j a ha).1 h3⟩
  ·rw [List.getElem?_set_ne (by omega)] at h
   obtain ⟨hl0,hw0,c',e',fr',hc⟩ := hr.row r ob h h1
   have hrl := (List.getElem?_eq_some_iff.1 h).1
   exact ⟨hl0,hw0,c',e',fr',hc.keeps hk (put_ne w _ _ _ (fun x => e1 (hr.inj r r0 hrl hrl0 x.symm)))⟩
theorem heap_move {g : G} {H : Heap} {w : World} (hr : HeapR g H w) (r0 : Nat) (o1 : AObj) (hrl0 : r0 < H.length) (hn : g.n0 ≤ r0) (c : Array Value) (e : TypeId) (fr : Nat × Nat)
  (hk : Keeps g H w { g with α := fun r => if r = r0 then w.heap.size else g.α r } (H.set r0 o1) (al w (.cells c e fr)))
  (hlo : o1.lo ≤ o1.cells.length) (hle : o1.cells.length ≤ c.size)
  (hth : Thaw fr c.size) (hv : ∀ (j : Nat) (a : AV),o1.cells[j]? = some a → a.free = true ∧ ∃ v : Value,c[j]? = some v ∧ VR g H w a v) :
  HeapR { g with α := fun r => if r = r0 then w.heap.size else g.α r } (H.set r0 o1) (al w (.cells c e fr)) where
 inj := fun r r' h h' he => by
  simp only [List.length_set] at h h'
  by_cases e1 : r = r0 <;> by_cases e2 : r' = r0 <;> simp only [e1,e2,if_true,if_false] at he
  ·omega
  ·have := hr.lt r' h'; omega
  ·have := hr.lt r h; omega
  ·exact hr.inj r r' h h' he
 lt := fun r h => by
  simp only [List.length_set] at h
  rw [al_size]
  by_cases e1 : r = r0
  ·simp only [e1,if_true]; omega
  ·simp only [e1,if_false]; have := hr.lt r h; omega
 nloc := fun r h h1 => by
  simp only [List.length_set] at h
  by_cases e1 : r = r0
  ·simp only [e1,if_true] at h1; have := (hr.locb _ h1).2; omega
  ·simp only [e1,if_false] at h1; exact hr.nloc r h h1
 bsz0 := by rw [al_size]; exact Nat.le_succ_of_le hr.bsz0
 n0 := by simp only [List.length_set]; exact hr.n0
 new := fun r h h' => by
  simp only [List.length_set] at h'
  by_cases e1 : r = r0
  ·simp only [e1,if_true]; exact n0_le_size hr
  ·simp only [e1,if_false]; exact hr.new r h h'
 locb := fun b h => by rw [al_size]; have := hr.locb b h; exact ⟨this.1,by omega⟩
 row := fun r ob h h1 => by
  by_cases e1 : r = r0
  ·subst e1
   rw [List.getElem?_set_self hrl0] at h
   obtain rfl := Option.some.inj h
   refine ⟨hlo,fun _ => hn,c,e,fr,⟨by simp only [if_true]; exact al_new w _,hle,fun _ => hth,fun j a ha => ⟨(hv j a ha).1,?_⟩⟩⟩
   obtain ⟨v,h2,h3⟩ := (hv j a ha).2
   exact ⟨v,h2,vr_keeps hk _ _ (hv j a ha).1 h3⟩
  ·rw [List.getElem?_set_ne (by omega)] at h
   obtain ⟨hl0,hw0,c',e',fr',hc⟩ := hr.row r ob h h1
   have hrl := (List.getElem?_eq_some_iff.1 h).1
   exact ⟨hl0,hw0,c',e',fr',hc.keeps hk (by simp only [e1,if_false]; exact al_old w _ _ (hr.lt r hrl))⟩
end Go.A
