/- THE ABSTRACT MACHINE: copy; bytes and strings. -/
import Derived.Test.YtnmobjhmohcjfaaA12
set_option linter.unusedSimpArgs false
set_option linter.unusedVariables false
set_option linter.unnecessarySimpa false
namespace Go.A
open Go
variable {P : Program}
section
variable {L0 : Nat → Prop} {g : G} {H : Heap} {w : World} {σ : List AV} {a : Act} {o : Oper}
theorem op_copy (hs : StR L0 g H w σ a.tmps none) (hh : HeapR g H w) {c : Call} (ho : o.op = .call c) (hc : c.callee = .builtin .copy) {x y : Operand} {sx sy : SX} {t u e : TypeId} {sz : Nat} (ha : c.args.toList = [x,y]) (htt : c.argTypes.toList = [t,u]) (ht : P.underlying t = some (.slice e)) (hsz : szOf P e = some sz) (hx : rX x = some sx) (hy : rX y = some sy)
  {nd ns : Nat} {cs : List AV} (hnd : lenA (evalX σ sx) = some nd) (hns : lenA (evalX σ sy) = some ns) (hcs : (if ns = 0 then some [] else firstA H sz (Min.min ns nd) (evalX σ sy)) = some cs) {v : AV} {H' : Heap}
  (h : (match evalX σ sx with
    | .c (.slice none 0 0) => some (.c (.int .i64 0),H)
    | .sl r off _ _ _ k _ => if Min.min ns nd = 0 then some (.c (.int .i64 0),H) else (wrRow H r off k cs).map fun H' => (.c (.int .i64 (Min.min ns nd : Nat)),H')
    | _ => none : Option (AV × Heap)) = some (v,H')) :
  OpRuns P o a w (fun u w' => ∃ g',OpPost L0 g H w a.tmps o.dst v σ H' u w' g') := by
 obtain ⟨h1,_⟩ := evalX_rel hs hx
 obtain ⟨h2,_⟩ := evalX_rel hs hy
 have e1 : c.args = #[x,y] := by apply Array.toList_inj.1; simpa using ha
 have e2 : c.argTypes = #[t,u] := by apply Array.toList_inj.1; simpa using htt
 have hfst : ∃ vs : List Value,(∀ w',w'.heap = w.heap → (Builtin.firstCells sz (Min.min ns nd) (a.eval y)).run P w' = .ok vs.toArray w') ∧ vs.length = Min.min ns nd * sz ∧ VRs g H w cs vs := by
  by_cases h0 : ns = 0
  ·subst h0
   rw [if_pos rfl] at hcs
   obtain rfl := Option.some.inj hcs
   refine ⟨[],fun w' _ => ?_,by simp,by simp [VRs]⟩
   rw [Nat.zero_min]
   exact firstA_zero hns h2 w'
  ·rw [if_neg h0] at hcs
   obtain ⟨vs,f1,f2,f3,_⟩ := firstA_rel (P := P) hh hcs h2
   exact ⟨vs,f1,f2,f3⟩
 obtain ⟨vs,f1,f2,f3⟩ := hfst
 have hl := lenA_run (P := P) hns h2 w
 have hmin : ∀ a b : Nat,Nat.min a b = Min.min a b := fun a b => rfl
 split at h
 ·rename_i hX
  simp only [Option.some.injEq,Prod.mk.injEq] at h
  obtain ⟨rfl,rfl⟩ := h
  rw [hX] at h1 hnd
  have h1 := vr_c h1
  simp only [lenA,Option.some.injEq] at hnd
  subst hnd
  refine pure_op hs hh (u := .int .i64 0) ?_ (by simp [VR]) (.inl rfl)
  have hf := f1 w rfl
  simp only [Nat.min_zero] at hf
  simp [execOp,ho,Go.resolve,hc,invoke,builtin,e1,e2,h1,Builtin.copy_,run_underlying' ht,hl,run_sizeOf' hsz,Result.andThen,hf,goInt]
 ·rename_i r off len cap sz' k ex hX
  rw [hX] at h1 hnd
  simp only [lenA,Option.some.injEq] at hnd
  subst hnd
  have hvr := h1
  simp only [VR] at h1
  rcases h1 with ⟨xx,e3,rfl,rfl,rfl⟩ | ⟨b,cap',ob,off',e3,hoff,had,_⟩
  ·have hf := f1 w rfl
   split at h
   ·rename_i h0
    simp only [Option.some.injEq,Prod.mk.injEq] at h
    obtain ⟨rfl,rfl⟩ := h
    refine pure_op hs hh (u := .int .i64 0) ?_ (by simp [VR]) (.inl rfl)
    rw [h0] at hf f2
    have hvn : vs = [] := List.eq_nil_of_length_eq_zero (by omega)
    subst hvn
    simp [execOp,ho,Go.resolve,hc,invoke,builtin,e1,e2,e3,Builtin.copy_,run_underlying' ht,hl,run_sizeOf' hsz,Result.andThen,hmin,hf,goInt,storeCells]
   ·rename_i h0
    simp at h0
  have hf := f1 w rfl
  split at h
  ·rename_i h0
   simp only [Option.some.injEq,Prod.mk.injEq] at h
   obtain ⟨rfl,rfl⟩ := h
   refine pure_op hs hh (u := .int .i64 0) ?_ (by simp [VR]) (.inl rfl)
   rw [h0] at hf f2
   have hvn : vs = [] := List.eq_nil_of_length_eq_zero (by omega)
   subst hvn
   simp [execOp,ho,Go.resolve,hc,invoke,builtin,e1,e2,e3,Builtin.copy_,run_underlying' ht,hl,run_sizeOf' hsz,Result.andThen,hmin,h0,hf,goInt,storeCells]
  ·rename_i h0
   obtain ⟨H2,hw,he⟩ := Option.map_eq_some_iff.1 h
   simp only [Prod.mk.injEq] at he
   obtain ⟨rfl,rfl⟩ := he
   have hoff' : off' = off := by
    rcases hoff with h | h
    ·exact h
    ·have := h.2; subst this; simp at h0
   subst hoff'
   obtain ⟨hone,w',hst,hpost,hkeep⟩ := wrRow_rel (P := P) hs hh hw had f3
   refine opRuns_value (u := .int .i64 (Min.min ns len : Nat)) (w' := w') ?_ ⟨g,hpost _ _ _ rfl (by simp only [VR])⟩
   simp [execOp,ho,Go.resolve,hc,invoke,builtin,e1,e2,e3,Builtin.copy_,run_underlying' ht,hl,run_sizeOf' hsz,Result.andThen,hmin,hf,goInt,hst]
 ·simp at h
theorem bytes_run {f : Value → ByteArray → Sem (ForInStep ByteArray)} : ∀ (l : List AV) (vs : List Value) (bs : List UInt8) (s0 : ByteArray),VRs g H w l vs → bytesOf l = some bs → (∀ n s,f (.int .u8 n) s = pure (ForInStep.yield (s.push (UInt8.ofNat n.toNat)))) →
  (forIn (m := Sem) vs s0 f).run P w = .ok (bs.foldl ByteArray.push s0) w
 | [],vs,bs,s0,h,hb,_ => by
  simp only [VRs] at h
  subst h
  simp only [bytesOf,Option.some.injEq] at hb
  subst hb
  simp
 | x :: l,vs,bs,s0,h,hb,hf => by
  simp only [VRs] at h
  obtain ⟨v,r,rfl,h1,h2⟩ := h
  unfold bytesOf at hb
  split at hb
  ·simp at *
  ·rename_i n r' e
   simp only [List.cons.injEq] at e
   obtain ⟨rfl,rfl⟩ := e
   obtain ⟨bs',hbs,rfl⟩ := Option.map_eq_some_iff.1 hb
   have := vr_c h1
   subst this
   simp only [List.forIn_cons,hf,Sem.run_bind,Sem.run_pure,Result.andThen,List.foldl_cons]
   exact bytes_run l r bs' _ h2 hbs hf
  ·simp at hb
theorem foldl_push (bs : List UInt8) : ∀ s0 : ByteArray,bs.foldl ByteArray.push s0 = ⟨s0.data ++ bs.toArray⟩ := by
 induction bs with
 | nil => intro s0; simp
 | cons b r ih =>
  intro s0
  rw [List.foldl_cons,ih]
  congr 1
  apply Array.toList_inj.1
  simp [ByteArray.push]
theorem op_toStr (hs : StR L0 g H w σ a.tmps none) (hh : HeapR g H w) {s d e : TypeId} {x : Operand} {sx : SX} (ho : o.op = .convert s d x) (hx : rX x = some sx) (hsu : P.underlying s = some (.slice e)) (hdu : P.underlying d = some .string) (he : isU8 P e = true) {bs : List UInt8}
  (h : (evalX σ sx = .c (.slice none 0 0) ∧ bs = []) ∨ (∃ r off len cap sz k ex l,evalX σ sx = .sl r off len cap sz k ex ∧ rdRow0 H r off len k = some l ∧ bytesOf l = some bs)) :
  OpRuns P o a w (fun u w' => ∃ g',OpPost L0 g H w a.tmps o.dst (.c (.string ⟨bs.toArray⟩)) σ H u w' g') := by
 obtain ⟨h1,_⟩ := evalX_rel hs hx
 have heu : P.underlying e = some (.int .u8) := by
  unfold isU8 at he
  split at he
  ·assumption
  ·simp at he
 refine pure_op hs hh (u := .string ⟨bs.toArray⟩) ?_ (by simp [VR]) (.inl rfl)
 rcases h with ⟨hX,rfl⟩ | ⟨r,off,len,cap,sz,k,ex,l,hX,hl,hb⟩
 ·rw [hX] at h1
  have h1 := vr_c h1
  simp only [execOp,ho,Sem.run_bind,convert,run_underlying' hsu,run_underlying' hdu,Result.andThen,h1,run_underlying' heu,Conv.bytesToString,Sem.run_pure]
  rfl
 ·rw [hX] at h1
  simp only [VR] at h1
  rcases h1 with ⟨xx,e3,rfl,rfl,rfl⟩ | ⟨b,cap',ob,off',e3,hoff,had,_⟩
  ·rw [rdRow0,if_pos rfl] at hl
   obtain rfl := Option.some.inj hl
   obtain rfl : bs = [] := by simpa [bytesOf] using hb.symm
   simp only [execOp,ho,Sem.run_bind,convert,run_underlying' hsu,run_underlying' hdu,Result.andThen,e3,run_underlying' heu,Conv.bytesToString,Sem.run_pure,loadCells,loadCellsFrom]
   rfl
  obtain ⟨vs,q1,q2,q3⟩ : ∃ vs : List Value,vs.length = len ∧ (∀ (j : Nat) (v : Value),vs[j]? = some v → cellAt w b (off + j) = some v) ∧ VRs g H w l vs := by
   by_cases h0 : len = 0
   ·rw [rdRow0,if_pos h0] at hl
    obtain rfl := Option.some.inj hl
    exact ⟨[],by simp [h0],by simp,by simp [VRs]⟩
   ·rw [rdRow0,if_neg h0] at hl
    obtain ⟨vs,q1,q2,q3,_⟩ := rdRow_rel hh hl had
    exact ⟨vs,q1,q2,q3⟩
  have hcells := run_loadCells_at (P := P) (w := w) (b := b) (o := off') vs (fun j v hv => by
   rcases hoff with e | ⟨_,e⟩
   ·rw [e]; exact q2 j v hv
   ·rw [e] at q1
    have : vs = [] := List.eq_nil_of_length_eq_zero (by omega)
    subst this; simp at hv)
  rw [q1] at hcells
  simp only [execOp,ho,Sem.run_bind,convert,run_underlying' hsu,run_underlying' hdu,Result.andThen,e3,run_underlying' heu,Conv.bytesToString,hcells,Sem.run_pure]
  simp only [List.forIn_toArray]
  rw [bytes_run (P := P) l vs bs ByteArray.empty q3 hb (fun n s => rfl)]
  simp [foldl_push,ByteArray.empty,ByteArray.emptyWithCapacity]
  rfl
theorem op_toBytes (hs : StR L0 g H w σ a.tmps none) (hh : HeapR g H w) {s d e : TypeId} {x : Operand} {sx : SX} (ho : o.op = .convert s d x) (hx : rX x = some sx) (hsu : P.underlying s = some .string) (hdu : P.underlying d = some (.slice e)) (he : isU8 P e = true) (hsz : szOf P e = some 1) {b : ByteArray} (hX : evalX σ sx = .c (.string b)) (hb : b.size ≤ appBound) :
  OpRuns P o a w (fun u w' => ∃ g',OpPost L0 g H w a.tmps o.dst (.sl H.length 0 b.size b.size 1 b.size false) σ (H ++ [.grow (b.data.toList.map fun x => .c (.int .u8 x.toNat)) 0]) u w' g') := by
 obtain ⟨h1,_⟩ := evalX_rel hs hx
 rw [hX] at h1
 have h1 := vr_c h1
 have heu : P.underlying e = some (.int .u8) := by
  unfold isU8 at he
  split at he
  ·assumption
  ·simp at he
 generalize hcap : (Question.appendCap b.size 0 e).cut (w.tape w.drawn (.appendCap b.size 0 e)) = ncap
 have hge : b.size ≤ ncap := by rw [← hcap]; simp [Question.cut]
 have hch : (choose (.appendCap b.size 0 e)).run P w = .ok ncap { w with drawn := w.drawn + 1 } := by
  rw [← hcap]
  simp [choose,Sem.run,Question.forced]
 have hk := keeps_drawn (g := g) (H := H) (w := w) (w.drawn + 1)
 have hh' := heap_drawn hh (w.drawn + 1)
 have hs' := hs.step hk rfl (fun _ h => h) (fun _ _ => rfl)
 generalize hC : ((b.data.map fun x => Value.int .u8 x.toNat) ++ Array.replicate (ncap - b.size) (.int .u8 0) : Array Value) = C
 have hds : b.data.size = b.size := rfl
 have hCs : C.size = ncap := by rw [← hC]; simp only [Array.size_append,Array.size_map,Array.size_replicate,hds]; omega
 have hal : (al { w with drawn := w.drawn + 1 } (.cells C e (0,0))).freeze ⟨w.heap.size,C.size,none⟩ 1 = al { w with drawn := w.drawn + 1 } (.cells C e (C.size,C.size + 1)) := by
  unfold World.freeze al
  rw [if_neg (by omega)]
  congr 1
  apply Array.ext_getElem?
  intro j
  simp only [Array.getElem?_modify,Array.getElem?_push]
  by_cases e1 : w.heap.size = j
  ·subst e1; simp
  ·have e2 : ¬ j = w.heap.size := fun h => e1 h.symm
   simp [e1,e2]
 have hrun : (execOp a.eval o).run P w = .ok (.value (.slice (some ⟨w.heap.size,0,none⟩) b.size ncap)) (al { w with drawn := w.drawn + 1 } (.cells C e (C.size,C.size + 1))) := by
  simp only [execOp,ho,Sem.run_bind,convert,run_underlying' hsu,run_underlying' hdu,Result.andThen,h1,run_underlying' heu,Conv.stringToBytes,hch,hC,run_newRow',markStringish,shape,Sem.run,World.shape?,al_new,freeze,hal,Sem.run_pure]
 refine opRuns_value hrun ⟨_,OpPost.drawn (n := w.drawn + 1) (post_row hs' hh' (.grow (b.data.toList.map fun x => .c (.int .u8 x.toNat)) 0) C e _ (Nat.zero_le _) ?_ ?_ ?_ rfl ?_ _)⟩
 ·simp only [AObj.cells,List.length_map,Array.length_toList,hds]; omega
 ·exact .inr (Nat.le_refl _)
 ·intro j x hx
  simp only [AObj.cells,List.getElem?_map] at hx
  cases hb' : b.data.toList[j]? with
  | none => rw [hb'] at hx; simp at hx
  | some y =>
   rw [hb'] at hx
   simp only [Option.map_some,Option.some.injEq] at hx
   subst hx
   rw [Array.getElem?_toList] at hb'
   have hj : j < b.data.size := (Array.getElem?_eq_some_iff.1 hb').1
   refine ⟨rfl,.int .u8 y.toNat,?_,by simp only [VR]⟩
   rw [← hC,Array.getElem?_append_left (by simpa using hj),Array.getElem?_map,hb']
   rfl
 ·exact slNew hh' _ rfl (by simp) _ e _ (by simp only [AObj.cells,List.length_map,Array.length_toList,hds]) hge (fun h => by simp at h) (fun _ => by rw [hCs]; omega)
theorem op_mark (hs : StR L0 g H w σ a.tmps none) (hh : HeapR g H w) {s e : TypeId} {x : Operand} {sx : SX} (ho : o.op = .convert s s x) (hx : rX x = some sx) (hsu : P.underlying s = some (.slice e)) (he : isU8 P e = true) {r off len cap sz k : Nat} {ex : Bool} {cs : List AV} (hX : evalX σ sx = .sl r off len cap sz k ex) (hr : H[r]? = some (.row cs)) (hl : len ≠ 0) :
  OpRuns P o a w (fun u w' => ∃ g',OpPost L0 g H w a.tmps o.dst (.sl r off len cap sz k ex) σ H u w' g') := by
 obtain ⟨h1,_⟩ := evalX_rel hs hx
 rw [hX] at h1
 have heu : P.underlying e = some (.int .u8) := by
  unfold isU8 at he
  split at he
  ·assumption
  ·simp at he
 have hrl : r < H.length := (List.getElem?_eq_some_iff.1 hr).1
 obtain ⟨hlo,hn0,c,e',fr,hc⟩ := hh.row r _ hr rfl
 have hbs : c.size = bsz w (g.α r) := (bsz_cells hc.blk).symm
 obtain ⟨fr',hfr⟩ : ∃ q : Nat × Nat,(if fr.1 == fr.2 then (c.size,c.size + 1) else (min fr.1 c.size,max fr.2 (c.size + 1))) = q := ⟨_,rfl⟩
 have hth : Thaw fr' c.size := by
  rw [← hfr]
  split
  ·exact .inr (Nat.le_refl _)
  ·rename_i e2
   rcases hc.thaw rfl with ht | ht
   ·exact (e2 (by simp [ht])).elim
   ·exact .inr (by simp only; omega)
 have hset : H.set r (.row cs) = H := by
  apply List.ext_getElem?
  intro j
  rw [List.getElem?_set]
  split
  ·rename_i e1
   subst e1
   first | rw [if_pos hrl,hr] | rw [hr] | (split <;> first | exact hr.symm | omega)
  ·rfl
 have hk := keeps_put hh r (.row cs) (.row cs) hr rfl rfl (fun _ _ => ⟨cs,rfl⟩) (.inl ⟨cs,rfl⟩) c e' fr' hbs
 have h1' := h1
 simp only [VR] at h1
 rcases h1 with ⟨_,_,h2,_⟩ | ⟨b,cap',o',off',h2,hoff,ha,hcap,hex,hsz⟩
 ·exact (hl h2).elim
 ·obtain rfl : o' = .row cs := Option.some.inj (ha.at_.symm.trans hr)
  have hb : b = g.α r := ha.fixed cs rfl
  subst hb
  have hfz : w.freeze ⟨g.α r,c.size,none⟩ 1 = put w (g.α r) (.cells c e' fr') := by
   unfold World.freeze put
   rw [if_neg (by omega)]
   congr 1
   apply Array.ext_getElem?
   intro j
   rw [Array.getElem?_modify,Array.getElem?_setIfInBounds]
   by_cases e1 : g.α r = j
   ·subst e1
    have hlt := (Array.getElem?_eq_some_iff.1 hc.blk).1
    rw [if_pos rfl,if_pos rfl,if_pos hlt,hc.blk]
    simp only [Option.map_some]
    obtain ⟨lo,hi⟩ := fr
    simp only at hfr
    rw [← hfr]
   ·rw [if_neg e1,if_neg e1]
  have hrun : (execOp a.eval o).run P w = .ok (.value (.slice (some ⟨g.α r,off',none⟩) len cap')) (put w (g.α r) (.cells c e' fr')) := by
   simp only [execOp,ho,Sem.run_bind,convert,run_underlying' hsu,Result.andThen,h2,run_underlying' heu,beq_self_eq_true,markStringish,shape,Sem.run,World.shape?,hc.blk,freeze,hfz,Sem.run_pure]
  have hp := post_put (d := o.dst) (σ := σ) hs hh r (.row cs) hrl (hn0 rfl) c e' fr' hk hlo hc.le hth hc.val (v := .sl r off len cap sz k ex) (u := .slice (some ⟨g.α r,off',none⟩) len cap') rfl (by
   have := vr_keeps hk (.sl r off len cap sz k ex) _ rfl h1'
   rw [h2] at this
   exact this)
  rw [hset] at hp
  exact opRuns_value hrun ⟨g,hp⟩
end
end Go.A
