/- THE ABSTRACT MACHINE: calls, and all operations together. -/
import Derived.Test.YtnmobjhmohcjfaaA13
import Derived.Lib.MakeNoZero
import Derived.Laws.Externs
set_option linter.unusedSimpArgs false
set_option linter.unusedVariables false
set_option linter.unnecessarySimpa false
namespace Go.A
open Go
variable {P : Program}
def SoundCall (P : Program) (f : FuncId) (args : List AV) (H : Heap) (v : AV) (H' : Heap) : Prop :=
 AV.freeAll args = true → ∀ (g : G) (w : World) (vs : List Value),HeapR g H w → VRs g H w args vs →
  Calls P f vs.toArray w fun e w' => ∃ g' u,e = .returned u ∧ v.free = true ∧ VR g' H' w' v u ∧ HeapR g' H' w' ∧ Ext g H w g' H' w' ∧ g'.γ = g.γ ∧ ∀ b,g.loc b → w'.heap[b]? = w.heap[b]?
def SoundO (P : Program) (C : Oracle) : Prop := ∀ f args H v H',C f args H = some (v,H') → isFn P f = true ∧ SoundCall P f args H v H'
section
variable {L0 : Nat → Prop} {g : G} {H : Heap} {w : World} {σ : List AV} {a : Act} {o : Oper}
theorem StR.called {g' : G} {H' : Heap} {w' : World} {tmps : Array Value} (hs : StR L0 g H w σ tmps none) (hx : Ext g H w g' H' w') (hγ : g'.γ = g.γ) (hb : ∀ b,g.loc b → w'.heap[b]? = w.heap[b]?) : StR L0 g' H' w' σ tmps none where
 len := hs.len
 slot := fun d a' hx' hd => by
  obtain ⟨v,hv,hsv⟩ := hs.slot d a' hx' hd
  refine ⟨v,hv,?_⟩
  by_cases hl : ∃ xs,a' = .lbox xs
  ·obtain ⟨xs,rfl⟩ := hl
   obtain ⟨h1,c,e,fr,hc⟩ := hsv
   refine ⟨by rw [hγ]; exact h1,c,e,fr,?_⟩
   rw [hγ]
   exact ⟨by rw [hb _ (hs.own d xs hx' hd).1]; exact hc.blk,hc.le,hc.thaw,fun j x hx2 => by
    obtain ⟨h2,v2,h3,h4⟩ := hc.val j x hx2
    exact ⟨h2,v2,h3,hx.vr x v2 h2 h4⟩⟩
  ·obtain ⟨h1,h2⟩ := hsv.out (fun xs e => hl ⟨xs,e⟩)
   refine SV.of_vr ?_ h2
   rcases h2 with h2 | h2
   ·exact hx.vr _ _ h2 h1
   ·cases a' <;> first | (simp [AV.isL] at h2; done) | (rw [vr_lptr] at h1 ⊢; rw [hγ]; exact h1)
 sep := fun d d' xs ys h1 h2 h3 h4 h5 => by rw [hγ]; exact hs.sep d d' xs ys h1 h2 h3 h4 h5
 own := fun d xs hx' hd => by rw [hγ]; exact ⟨hx.loc _ (hs.own d xs hx' hd).1,(hs.own d xs hx' hd).2⟩
 outer := fun b hb' => hx.loc b (hs.outer b hb')
theorem opRuns_enter {f : FuncId} {args : Array Value} {R : Value → World → Prop} (h : (execOp a.eval o).run P w = .ok (.enter f args) w) (hc : Calls P f args w fun e w' => ∃ u,e = .returned u ∧ R u w') : OpRuns P o a w R := fun K Q hK => by
 unfold Oper.wp
 rw [h]
 show Calls P f args w _
 refine hc.mono ?_
 rintro e w' ⟨u,rfl,hR⟩
 exact hK u w' hR
theorem isFn_run {f : FuncId} (h : isFn P f = true) (args : Array Value) (w : World) : (callFunc f args).run P w = .ok (.enter f args) w := by
 unfold isFn at h
 split at h
 ·rename_i fn hf
  simp only [Bool.and_eq_true,bne_iff_ne,ne_eq] at h
  obtain ⟨c,hc⟩ := Option.isSome_iff_exists.1 h.1
  simp [callFunc,program,Sem.run,hf,hc,h.2,Result.andThen]
 ·simp at h
theorem call_post (hs : StR L0 g H w σ a.tmps none) (hh : HeapR g H w) {C : Oracle} (hC : SoundO P C) {f : FuncId} {args : List AV} {vs : List Value} (hf : AV.freeAll args = true) (hv : VRs g H w args vs) {v : AV} {H' : Heap} (h : C f args H = some (v,H')) :
  Calls P f vs.toArray w fun e w' => ∃ u,e = .returned u ∧ ∃ g',OpPost L0 g H w a.tmps o.dst v σ H' u w' g' := by
 refine ((hC f args H v H' h).2 hf g w vs hh hv).mono ?_
 rintro e w' ⟨g',u,rfl,h1,h2,h3,h4,h5,h6⟩
 exact ⟨u,rfl,g',(hs.called h4 h5 h6).weak _,ValR.of_vr h2 (.inl h1),h3,h4,fun b hb => h6 b (hs.outer b hb)⟩
theorem op_call (hs : StR L0 g H w σ a.tmps none) (hh : HeapR g H w) {C : Oracle} (hC : SoundO P C) {c : Call} {f : FuncId} (ho : o.op = .call c) (hc : c.callee = .value (.func f)) (hfn : isFn P f = true) {sxs : List SX} (hx : rXs c.args.toList = some sxs) (hf : AV.freeAll (sxs.map (evalX σ)) = true) {v : AV} {H' : Heap} (h : C f (sxs.map (evalX σ)) H = some (v,H')) :
  OpRuns P o a w (fun u w' => ∃ g',OpPost L0 g H w a.tmps o.dst v σ H' u w' g') := by
 have h1 := evalXs_rel hs hx
 have := call_post (P := P) (o := o) hs hh hC hf h1 h
 refine opRuns_enter (f := f) (args := (c.args.toList.map a.eval).toArray) ?_ this
 have e1 : c.args.map a.eval = (c.args.toList.map a.eval).toArray := by apply Array.toList_inj.1; simp
 simp [execOp,ho,Go.resolve,hc,Act.eval,Deferred.ofValue,invoke,Result.andThen,isFn_run hfn,e1]
theorem op_callv (hs : StR L0 g H w σ a.tmps none) (hh : HeapR g H w) {C : Oracle} (hC : SoundO P C) {c : Call} {x : Operand} {sx : SX} (ho : o.op = .call c) (hc : c.callee = .value x) (hx0 : rX x = some sx) {f : FuncId} {cs : List AV} (hX : evalX σ sx = .fn f cs) {sxs : List SX} (hx : rXs c.args.toList = some sxs) (hf : AV.freeAll (sxs.map (evalX σ)) = true) {v : AV} {H' : Heap} (h : C f (sxs.map (evalX σ) ++ cs) H = some (v,H')) :
  OpRuns P o a w (fun u w' => ∃ g',OpPost L0 g H w a.tmps o.dst v σ H' u w' g') := by
 have h1 := evalXs_rel hs hx
 obtain ⟨h2,h2f⟩ := evalX_rel hs hx0
 rw [hX] at h2 h2f
 simp only [VR] at h2
 obtain ⟨vs,e2,hvs⟩ := h2
 have hcf : AV.freeAll cs = true := by
  rcases h2f with h | h
  ·simpa [AV.free] using h
  ·simp [AV.isL] at h
 have hfn := (hC _ _ _ _ _ h).1
 have := call_post (P := P) (o := o) hs hh hC (by rw [freeAll_append,hf,hcf]; rfl) (vrs_append h1 hvs) h
 refine opRuns_enter (f := f) (args := (c.args.toList.map a.eval ++ vs.toList).toArray) ?_ this
 have e1 : c.args.map a.eval ++ vs = (c.args.toList.map a.eval ++ vs.toList).toArray := by apply Array.toList_inj.1; simp
 simp [execOp,ho,Go.resolve,hc,e2,Deferred.ofValue,invoke,Result.andThen,isFn_run hfn,e1]
theorem mnz_run {f : FuncId} (h : isMnz P f = true) (n : Nat) (hn : n ≤ appBound) (w : World) : ∃ (cs : Array Value) (e : TypeId) (k : Nat),(callFunc f #[.int .i64 n]).run P w = .ok (.value (.slice (some ⟨w.heap.size,0,none⟩) n cs.size)) (al { w with drawn := k } (.cells cs e (0,0))) ∧ n ≤ cs.size := by
 unfold isMnz at h
 split at h
 ·rename_i fn hf
  simp only [Bool.and_eq_true,beq_iff_eq] at h
  obtain ⟨⟨⟨h1,h2⟩,h3⟩,h4⟩ := h
  split at h4
  ·rename_i t ht
   split at h4
   ·rename_i e hu
    have hrt : fn.resultTypes = #[t] := by apply Array.toList_inj.1; simpa using ht
    have hfind : Extern.find fn = some (Extern.BytealgMakeNoZero.makeNoZero fn.params fn.resultTypes) := by
     unfold Extern.find
     rw [h2]
     rfl
    obtain ⟨cs,hrun,hle,_⟩ := Lib.run_makeNoZero (P := P) w fn.params t e hu n (by simp only [appBound] at hn; omega)
    refine ⟨cs,e,w.drawn + 1 + 1,?_,hle⟩
    rw [run_callFunc_extern hf (by rw [h2]; rfl) h1 (by simpa using h3) hfind,hrt,hrun]
    rfl
   ·simp at h4
  ·simp at h4
 ·simp at h
theorem op_mknz (hs : StR L0 g H w σ a.tmps none) (hh : HeapR g H w) {c : Call} {f : FuncId} (ho : o.op = .call c) (hc : c.callee = .value (.func f)) (hm : isMnz P f = true) {x : Operand} (hargs : c.args.toList = [x]) {sx : SX} (hx : rX x = some sx) {n : Int} (e : evalX σ sx = .c (.int .i64 n)) (h0 : 0 ≤ n) (h1 : n ≤ appBound) :
  OpRuns P o a w (fun u w' => ∃ g',OpPost L0 g H w a.tmps o.dst (.sl H.length 0 n.toNat n.toNat 1 (n.toNat * 1) false) σ (H ++ [.grow (List.replicate (n.toNat * 1) .undef) 0]) u w' g') := by
 obtain ⟨hv,_⟩ := evalX_rel hs hx
 rw [e] at hv
 simp only [VR] at hv
 obtain ⟨m,rfl⟩ : ∃ m : Nat,n = m := ⟨n.toNat,by omega⟩
 obtain ⟨cs,ty,k,hrun,hle⟩ := mnz_run hm m (by omega) w
 have hargs' : c.args = #[x] := by apply Array.toList_inj.1; simpa using hargs
 refine opRuns_value (u := .slice (some ⟨w.heap.size,0,none⟩) m cs.size) (w' := al { w with drawn := k } (.cells cs ty (0,0))) ?_ ⟨{ g with α := fun r => if r = H.length then w.heap.size else g.α r },?_⟩
 ·have e1 : c.args.map a.eval = #[.int .i64 m] := by rw [hargs']; simp [hv]
  simp [execOp,ho,Go.resolve,hc,Act.eval,Deferred.ofValue,invoke,Result.andThen,e1,hrun]
 ·have hsplit : cs = ((cs.toList.take m).toArray ++ (cs.toList.drop m).toArray) := by
   apply Array.toList_inj.1
   rw [Array.toList_append]
   exact (List.take_append_drop m cs.toList).symm
  have := post_app (k := k) hs hh ty (cs := List.replicate m .undef) (us := cs.toList.take m) (rest := (cs.toList.drop m).toArray) (m := m) (ncap := cs.size) (sz := 1) (vrs_of (g := g) (H := H) (w := w) (by simp; omega) fun i a v ha hv => by
   have hu : a = .undef := List.eq_of_mem_replicate (List.mem_of_getElem? ha)
   subst hu
   simp [VR]) (by rw [freeAll_iff]; intro a ha; rw [List.eq_of_mem_replicate ha]; rfl) (by simp; omega) hle (by simp) o.dst
  rw [← hsplit] at this
  simp only [Int.toNat_natCast,Nat.mul_one] at this ⊢
  exact this
theorem op_appz (hs : StR L0 g H w σ a.tmps none) (hh : HeapR g H w) {c : Call} (ho : o.op = .call c) (hc : c.callee = .builtin .append) {x y : Operand} {sx sy : SX} {t u e : TypeId} {sz bytes : Nat} (ha : c.args.toList = [x,y]) (htt : c.argTypes.toList = [t,u])
  (ht : P.underlying t = some (.slice e)) {d : TypeDesc} (hu : P.underlying u = some d) (hd : isIntD d = true) (hsz : szOf P e = some sz) (hby : bytesOfT P e = some bytes) (h0 : sz ≠ 0) (hz : ∃ z : Value,∀ w,(zeroValue e).run P w = .ok z w) (hzs : ∀ (z : Value) w,(zeroValue e).run P w = .ok z w → z.cells.size = sz)
  (hx : rX x = some sx) (hy : rX y = some sy) (hX : evalX σ sx = .c (.slice none 0 0)) {n : Int} (hY : evalX σ sy = .c (.int .i64 n)) (hn : 0 < n) (hb : n ≤ appBound) (hb2 : n.toNat * bytes ≤ appBound) :
  OpRuns P o a w (fun u w' => ∃ g',OpPost L0 g H w a.tmps o.dst (.sl H.length 0 n.toNat n.toNat sz (n.toNat * sz) false) σ (H ++ [.grow (List.replicate (n.toNat * sz) .undef) 0]) u w' g') := by
 obtain ⟨h1,_⟩ := evalX_rel hs hx
 obtain ⟨h2,_⟩ := evalX_rel hs hy
 rw [hX] at h1
 rw [hY] at h2
 have h1 := vr_c h1
 have h2 := vr_c h2
 have e1 : c.args = #[x,y] := by apply Array.toList_inj.1; simpa using ha
 have e2 : c.argTypes = #[t,u] := by apply Array.toList_inj.1; simpa using htt
 obtain ⟨m,rfl⟩ : ∃ m : Nat,n = m := ⟨n.toNat,by omega⟩
 rw [Int.toNat_natCast] at hb2 ⊢
 obtain ⟨ki,rfl⟩ : ∃ k,d = .int k := by cases d <;> simp [isIntD] at hd; exact ⟨_,rfl⟩
 obtain ⟨ncap,us,rest,g1,g2,g3,g4⟩ := append_znew (P := P) (w := w) (ty := o.type) ht hu hsz hby h0 hz hzs (n := m) (by omega) hb2 (by omega)
 have := post_app (k := w.drawn + 1) hs hh e (cs := List.replicate (m * sz) .undef) (us := us) (rest := rest) (m := m) (ncap := ncap) (sz := sz) (vrs_of (g := g) (H := H) (w := w) (by simp [g2]) fun i a v ha hv => by
   have hu : a = .undef := List.eq_of_mem_replicate (List.mem_of_getElem? ha)
   subst hu
   simp [VR]) (by rw [freeAll_iff]; intro a ha; rw [List.eq_of_mem_replicate ha]; rfl) g2 g1 g3 o.dst
 refine opRuns_value ?_ ⟨_,this⟩
 simp [execOp,ho,Go.resolve,hc,invoke,builtin,e1,e2,h1,h2,g4,Result.andThen]
theorem op_all (hs : StR L0 g H w σ a.tmps none) (hh : HeapR g H w) {C : Oracle} (hC : SoundO P C) {ann : Ann} {so : SOp} (hr : rOp P ann o = some so) {v : AV} {σ' : List AV} {H' : Heap} (h : opA C o.dst so σ H = some (v,σ',H')) :
  OpRuns P o a w (fun u w' => ∃ g',OpPost L0 g H w a.tmps o.dst v σ' H' u w' g') := by
 unfold rOp at hr
 split at hr
 ·
  rename_i x ho
  obtain ⟨sx,hx,rfl⟩ := Option.map_eq_some_iff.1 hr
  simp only [opA,Option.some.injEq,Prod.mk.injEq] at h
  obtain ⟨rfl,rfl,rfl⟩ := h
  exact op_mov hs hh (.inl ho) hx
 ·rename_i x ho
  obtain ⟨sx,hx,rfl⟩ := Option.map_eq_some_iff.1 hr
  simp only [opA,Option.some.injEq,Prod.mk.injEq] at h
  obtain ⟨rfl,rfl,rfl⟩ := h
  exact op_mov hs hh (.inr ho) hx
 ·
  rename_i c x y ho
  simp only [Option.bind_eq_some_iff,Option.map_eq_some_iff] at hr
  obtain ⟨sc,hc,sx,hx,sy,hy,rfl⟩ := hr
  simp only [opA] at h
  split at h
  ·rename_i hb
   simp only [Option.some.injEq,Prod.mk.injEq] at h
   obtain ⟨rfl,rfl,rfl⟩ := h
   exact op_pick hs hh ho hc hx hy hb
  ·rename_i hb
   simp only [Option.some.injEq,Prod.mk.injEq] at h
   obtain ⟨rfl,rfl,rfl⟩ := h
   exact op_pick hs hh ho hc hx hy hb
  ·simp at h
 ·
  rename_i t ho
  obtain ⟨zs,hz,rfl⟩ := Option.map_eq_some_iff.1 hr
  split at h
  ·simp only [opA] at h
   split at h
   ·rename_i d hd
    simp only [Option.some.injEq,Prod.mk.injEq] at h
    obtain ⟨rfl,rfl,rfl⟩ := h
    exact op_lnew hs hh ho hd hz
   ·simp at h
  ·simp only [opA,Option.some.injEq,Prod.mk.injEq] at h
   obtain ⟨rfl,rfl,rfl⟩ := h
   exact op_new hs hh ho hz
 ·
  rename_i t x ho
  simp only [Option.bind_eq_some_iff,Option.map_eq_some_iff] at hr
  obtain ⟨k,hk,sx,hx,rfl⟩ := hr
  split at h
  ·simp only [opA] at h
   split at h
   ·rename_i d hd
    split at h
    ·rename_i hc
     simp only [Option.some.injEq,Prod.mk.injEq] at h
     obtain ⟨rfl,rfl,rfl⟩ := h
     exact op_lbox hs hh ho hd hx hc.2
    ·simp at h
   ·simp at h
  ·simp only [opA] at h
   split at h
   ·rename_i hc
    simp only [Option.some.injEq,Prod.mk.injEq] at h
    obtain ⟨rfl,rfl,rfl⟩ := h
    rw [← hc.1]
    exact op_box hs hh ho hx hc.2
   ·simp at h
 ·
  rename_i t ps ho
  split at hr
  ·rename_i fs hsu
   split at hr
   ·simp at hr
   ·rename_i hall
    simp only [Bool.not_eq_false] at hall
    simp only [Option.bind_eq_some_iff,Option.map_eq_some_iff] at hr
    obtain ⟨zs,hz,sps,hp,rfl⟩ := hr
    simp only [opA,Option.map_map] at h
    obtain ⟨vs,hv,he⟩ := Option.map_eq_some_iff.1 h
    simp only [Function.comp_apply,Prod.mk.injEq] at he
    obtain ⟨rfl,rfl,rfl⟩ := he
    exact op_buildS hs hh ho hsu hall hz hp hv
  ·rename_i n e hsu
   simp only [Option.bind_eq_some_iff,Option.map_eq_some_iff] at hr
   obtain ⟨zs,hz,k,hk,sps,hp,rfl⟩ := hr
   simp only [opA,Option.map_map] at h
   obtain ⟨vs,hv,he⟩ := Option.map_eq_some_iff.1 h
   simp only [Function.comp_apply,Prod.mk.injEq] at he
   obtain ⟨rfl,rfl,rfl⟩ := he
   exact op_buildA hs hh ho hsu hk hz hp hv
  ·simp at hr
 ·
  rename_i t len ps ho
  split at hr
  ·rename_i e hsu
   split at hr
   ·simp only [Option.bind_eq_some_iff] at hr
    obtain ⟨k,hk,zs,hz,hr⟩ := hr
    split at hr
    ·simp at hr
    ·rename_i hb
     simp only [not_or,Nat.not_lt,Decidable.not_not] at hb
     simp only [Option.bind_eq_some_iff] at hr
     obtain ⟨sps,hp,ds,hds,hr⟩ := hr
     obtain ⟨cs,hcs,rfl⟩ := Option.map_eq_some_iff.1 hr
     simp only [opA,Option.some.injEq,Prod.mk.injEq] at h
     obtain ⟨rfl,rfl,rfl⟩ := h
     exact op_imm hs hh ho hsu hz hk hb.1 hb.2 hp hds hcs
   simp only [Option.bind_eq_some_iff] at hr
   obtain ⟨k,hk,zs,hz,hr⟩ := hr
   split at hr
   ·simp at hr
   ·rename_i hb
    simp only [not_or,Nat.not_lt] at hb
    obtain ⟨sps,hp,rfl⟩ := Option.map_eq_some_iff.1 hr
    simp only [opA,Option.bind_eq_some_iff] at h
    obtain ⟨cs,hcs,h⟩ := h
    split at h
    ·simp only [Option.some.injEq,Prod.mk.injEq] at h
     obtain ⟨rfl,rfl,rfl⟩ := h
     exact op_bslice hs hh ho hsu hz hk hb.1 hb.2 hp hcs
    ·simp at h
  ·simp at hr
 ·
  rename_i t x ho
  simp only [Option.bind_eq_some_iff,Option.map_eq_some_iff] at hr
  obtain ⟨k,hk,sx,hx,rfl⟩ := hr
  simp only [opA] at h
  obtain ⟨v',hv,he⟩ := Option.map_eq_some_iff.1 h
  simp only [Prod.mk.injEq] at he
  obtain ⟨rfl,rfl,rfl⟩ := he
  exact op_load hs hh ho hk hx hv
 ·
  rename_i t x y ho
  split at hr
  ·simp at hr
  ·rename_i hd
   simp only [Option.bind_eq_some_iff,Option.map_eq_some_iff] at hr
   obtain ⟨k,hk,sx,hx,sy,hy,rfl⟩ := hr
   simp only [opA] at h
   obtain ⟨⟨σ2,H2⟩,hv,he⟩ := Option.map_eq_some_iff.1 h
   simp only [Prod.mk.injEq] at he
   obtain ⟨rfl,rfl,rfl⟩ := he
   exact op_store hs hh ho hk hx hy (by simpa using hd) hv
 ·
  rename_i x ho
  obtain ⟨sx,hx,rfl⟩ := Option.map_eq_some_iff.1 hr
  simp only [opA] at h
  split at h
  ·rename_i r i k e
   simp only [Option.some.injEq,Prod.mk.injEq] at h
   obtain ⟨rfl,rfl,rfl⟩ := h
   exact op_chk hs hh ho hx (.inl ⟨_,_,_,e,rfl⟩)
  ·rename_i d i e
   simp only [Option.some.injEq,Prod.mk.injEq] at h
   obtain ⟨rfl,rfl,rfl⟩ := h
   exact op_chk hs hh ho hx (.inr (.inl ⟨_,_,e,rfl⟩))
  ·rename_i d i e
   simp only [Option.some.injEq,Prod.mk.injEq] at h
   obtain ⟨rfl,rfl,rfl⟩ := h
   exact op_chk hs hh ho hx (.inr (.inr (.inl ⟨_,_,e,rfl⟩)))
  ·rename_i d i e
   simp only [Option.some.injEq,Prod.mk.injEq] at h
   obtain ⟨rfl,rfl,rfl⟩ := h
   exact op_chk hs hh ho hx (.inr (.inr (.inr ⟨_,_,e,rfl⟩)))
  ·simp at h
 ·
  rename_i op t x y t' ho
  simp only [Option.bind_eq_some_iff,Option.map_eq_some_iff] at hr
  obtain ⟨sx,hx,sy,hy,rfl⟩ := hr
  simp only [opA] at h
  obtain ⟨v',hv,he⟩ := Option.map_eq_some_iff.1 h
  simp only [Prod.mk.injEq] at he
  obtain ⟨rfl,rfl,rfl⟩ := he
  exact op_bin hs hh ho hx hy hv
 ·rename_i op t x ho
  obtain ⟨sx,hx,rfl⟩ := Option.map_eq_some_iff.1 hr
  simp only [opA] at h
  obtain ⟨v',hv,he⟩ := Option.map_eq_some_iff.1 h
  simp only [Prod.mk.injEq] at he
  obtain ⟨rfl,rfl,rfl⟩ := he
  exact op_un hs hh ho hx hv
 ·
  rename_i s d x ho
  split at hr
  ·rename_i ds k h1 h2
   obtain ⟨sx,hx,rfl⟩ := Option.map_eq_some_iff.1 hr
   simp only [opA] at h
   split at h <;> try (simp at *; done)
   rename_i e1 e2
   simp only [ConvK.int.injEq] at e1
   subst e1
   simp only [Option.some.injEq,Prod.mk.injEq] at h
   obtain ⟨rfl,rfl,rfl⟩ := h
   exact op_convInt hs hh ho hx h1 h2 e2
  ·rename_i h1 h2
   obtain ⟨sx,hx,rfl⟩ := Option.map_eq_some_iff.1 hr
   simp only [opA] at h
   split at h <;> try (simp at *; done)
   rename_i e2
   simp only [Option.some.injEq,Prod.mk.injEq] at h
   obtain ⟨rfl,rfl,rfl⟩ := h
   exact op_convSame hs hh ho hx h1 h2 e2
  ·rename_i e h1 h2
   split at hr
   ·rename_i hu8
    obtain ⟨sx,hx,rfl⟩ := Option.map_eq_some_iff.1 hr
    simp only [opA] at h
    split at h <;> try (simp at *; done)
    ·rename_i e2
     simp only [Option.some.injEq,Prod.mk.injEq] at h
     obtain ⟨rfl,rfl,rfl⟩ := h
     exact op_toStr (bs := []) hs hh ho hx h1 h2 hu8 (.inl ⟨e2,rfl⟩)
    ·rename_i e2
     obtain ⟨l,hl,he⟩ := Option.map_eq_some_iff.1 h
     simp only [Prod.mk.injEq] at he
     obtain ⟨rfl,rfl,rfl⟩ := he
     obtain ⟨l2,hl2,hl3⟩ := Option.bind_eq_some_iff.1 hl
     exact op_toStr hs hh ho hx h1 h2 hu8 (.inr ⟨_,_,_,_,_,_,_,_,e2,hl2,hl3⟩)
   ·simp at hr
  ·rename_i e h1 h2
   split at hr
   ·rename_i hu8
    obtain ⟨sx,hx,rfl⟩ := Option.map_eq_some_iff.1 hr
    simp only [opA] at h
    split at h <;> try (simp at *; done)
    rename_i e2
    split at h
    ·rename_i hb
     simp only [Option.some.injEq,Prod.mk.injEq] at h
     obtain ⟨rfl,rfl,rfl⟩ := h
     exact op_toBytes hs hh ho hx h1 h2 hu8.1 hu8.2 e2 hb
    ·simp at h
   ·simp at hr
  ·rename_i e h1 h2
   split at hr
   ·rename_i hu8
    obtain ⟨rfl,hu8⟩ := hu8
    obtain ⟨sx,hx,rfl⟩ := Option.map_eq_some_iff.1 hr
    simp only [opA] at h
    split at h <;> try (simp at *; done)
    rename_i e2
    obtain ⟨o1,h3,h⟩ := Option.bind_eq_some_iff.1 h
    split at h
    ·split at h
     ·rename_i hl
      simp only [Option.some.injEq,Prod.mk.injEq] at h
      obtain ⟨rfl,rfl,rfl⟩ := h
      exact op_mark hs hh ho hx h2 hu8 e2 h3 hl
     ·simp at h
    ·simp at h
   ·simp at hr
  ·simp at hr
 ·
  rename_i t l c ho
  split at hr
  ·rename_i e hsu
   simp only [Option.bind_eq_some_iff] at hr
   obtain ⟨k,hk,b,hb,zs,hz,hr⟩ := hr
   split at hr
   ·simp at hr
   ·rename_i h0
    simp only [Option.bind_eq_some_iff,Option.map_eq_some_iff] at hr
    obtain ⟨sl,hl,sc,hc,rfl⟩ := hr
    simp only [opA] at h
    split at h
    ·rename_i e1 e2
     split at h
     ·rename_i hcond
      simp only [Option.some.injEq,Prod.mk.injEq] at h
      obtain ⟨rfl,rfl,rfl⟩ := h
      exact op_mks hs hh ho hsu hz hk hb h0 hl hc e1 e2 hcond
     ·simp at h
    ·simp at h
  ·simp at hr
 ·
  rename_i t x lo hi mx ho
  simp only [Option.bind_eq_some_iff] at hr
  obtain ⟨sx,hx,sl,hl,sh,hhi,sm,hm,hr⟩ := hr
  split at hr
  ·rename_i hsu
   obtain rfl := Option.some.inj hr
   simp only [opA] at h
   obtain ⟨v',hv,he⟩ := Option.map_eq_some_iff.1 h
   simp only [Prod.mk.injEq] at he
   obtain ⟨rfl,rfl,rfl⟩ := he
   exact op_cut hs hh ho hx hl hhi hm (.inl ⟨rfl,hsu⟩) hv
  ·rename_i e hsu
   obtain ⟨k,hk,hr⟩ := Option.bind_eq_some_iff.1 hr
   split at hr
   ·simp at hr
   ·obtain rfl := Option.some.inj hr
    simp only [opA] at h
    obtain ⟨v',hv,he⟩ := Option.map_eq_some_iff.1 h
    simp only [Prod.mk.injEq] at he
    obtain ⟨rfl,rfl,rfl⟩ := he
    exact op_cut hs hh ho hx hl hhi hm (.inr ⟨e,k,rfl,hsu,hk⟩) hv
  ·rename_i n e hsu
   obtain ⟨k,hk,hr⟩ := Option.bind_eq_some_iff.1 hr
   split at hr
   ·simp at hr
   ·obtain rfl := Option.some.inj hr
    simp only [opA] at h
    split at h
    ·rename_i e1
     obtain ⟨⟨l,h',m⟩,hv,he⟩ := Option.map_eq_some_iff.1 h
     simp only [Prod.mk.injEq] at he
     obtain ⟨rfl,rfl,rfl⟩ := he
     exact op_cutArr hs hh ho hx hl hhi hm hsu hk e1 hv
    ·simp at h
  ·simp at hr
 ·
  rename_i s x f ho
  split at hr
  ·rename_i fs hsu
   simp only [Option.bind_eq_some_iff] at hr
   obtain ⟨fd,hfd,k,hk,hr⟩ := hr
   split at hr
   ·simp at hr
   ·rename_i hk0
    obtain ⟨sx,hx,rfl⟩ := Option.map_eq_some_iff.1 hr
    simp only [opA] at h
    split at h
    ·rename_i e
     simp only [Option.some.injEq,Prod.mk.injEq] at h
     obtain ⟨rfl,rfl,rfl⟩ := h
     exact op_faddr hs hh ho hx hsu hfd hk hk0 (.inl ⟨_,_,_,e,rfl⟩)
    ·rename_i e
     simp only [Option.some.injEq,Prod.mk.injEq] at h
     obtain ⟨rfl,rfl,rfl⟩ := h
     exact op_faddr hs hh ho hx hsu hfd hk hk0 (.inr ⟨_,_,e,rfl⟩)
    ·simp at h
  ·simp at hr
 ·
  rename_i t x f ho
  split at hr
  ·rename_i fs hsu
   simp only [Option.bind_eq_some_iff,Option.map_eq_some_iff] at hr
   obtain ⟨fd,hfd,k,hk,sx,hx,rfl⟩ := hr
   simp only [opA] at h
   split at h
   ·rename_i e
    obtain ⟨v',hv,he⟩ := Option.map_eq_some_iff.1 h
    simp only [Prod.mk.injEq] at he
    obtain ⟨rfl,rfl,rfl⟩ := he
    exact op_fld hs hh ho hx hsu hfd hk e hv
   ·simp at h
  ·simp at hr
 ·
  rename_i t x i ho
  simp only [Option.bind_eq_some_iff] at hr
  obtain ⟨sx,hx,si,hi,hr⟩ := hr
  split at hr
  ·rename_i n e hsu
   obtain ⟨k,hk,hr⟩ := Option.bind_eq_some_iff.1 hr
   split at hr
   ·simp at hr
   ·obtain rfl := Option.some.inj hr
    simp only [opA] at h
    split at h
    ·rename_i e1 e2 e3; simp at e3
    ·rename_i e1 e2 e3
     simp only [Option.some.injEq] at e3
     subst e3
     split at h
     ·rename_i hj
      simp only [Option.some.injEq,Prod.mk.injEq] at h
      obtain ⟨rfl,rfl,rfl⟩ := h
      exact op_iaddr hs hh ho hx hi (.inl ⟨n,rfl,hsu⟩) hk e2 hj.1 (.inr (.inl ⟨_,_,_,_,e1,rfl,hj.2,rfl⟩))
     ·simp at h
    ·rename_i e1 e2 e3
     simp only [Option.some.injEq] at e3
     subst e3
     split at h
     ·rename_i hj
      simp only [Option.some.injEq,Prod.mk.injEq] at h
      obtain ⟨rfl,rfl,rfl⟩ := h
      exact op_iaddr hs hh ho hx hi (.inl ⟨n,rfl,hsu⟩) hk e2 hj.1 (.inr (.inr ⟨_,_,_,e1,rfl,hj.2,rfl⟩))
     ·simp at h
    ·simp at h
  ·rename_i e hsu
   obtain ⟨k,hk,hr⟩ := Option.bind_eq_some_iff.1 hr
   split at hr
   ·simp at hr
   ·obtain rfl := Option.some.inj hr
    simp only [opA] at h
    split at h
    ·rename_i e1 e2 _
     split at h
     ·rename_i hj
      simp only [Option.some.injEq,Prod.mk.injEq] at h
      obtain ⟨rfl,rfl,rfl⟩ := h
      exact op_iaddr hs hh ho hx hi (.inr ⟨rfl,hsu⟩) hk e2 hj.1 (.inl ⟨_,_,_,_,_,_,_,e1,rfl,hj.2,rfl⟩)
     ·simp at h
    ·rename_i e1 e2 e3; simp at e3
    ·rename_i e1 e2 e3; simp at e3
    ·simp at h
  ·simp at hr
 ·
  rename_i t x i ho
  simp only [Option.bind_eq_some_iff] at hr
  obtain ⟨sx,hx,si,hi,hr⟩ := hr
  split at hr
  ·rename_i n e hsu
   simp only [Option.bind_eq_some_iff,Option.map_eq_some_iff] at hr
   obtain ⟨k,hk,kk,hkk,rfl⟩ := hr
   simp only [opA] at h
   split at h
   ·rename_i e1 e2 e3
    simp only [Option.some.injEq,Prod.mk.injEq] at e3
    obtain ⟨rfl,rfl,rfl⟩ := e3
    split at h
    ·rename_i hj
     obtain ⟨v',hv,he⟩ := Option.map_eq_some_iff.1 h
     simp only [Prod.mk.injEq] at he
     obtain ⟨rfl,rfl,rfl⟩ := he
     exact op_idxArr hs hh ho hx hi hsu hk hkk e2 hj.1 hj.2 e1 hv
    ·simp at h
   ·rename_i e1 e2 e3; simp at e3
   ·simp at h
  ·rename_i hsu
   obtain rfl := Option.some.inj hr
   simp only [opA] at h
   split at h
   ·rename_i e1 e2 e3; simp at e3
   ·rename_i e1 e2 e3
    split at h
    ·rename_i hj
     rw [Option.map_map] at h
     obtain ⟨c,hv,he⟩ := Option.map_eq_some_iff.1 h
     simp only [Function.comp_apply,Prod.mk.injEq] at he
     obtain ⟨rfl,rfl,rfl⟩ := he
     exact op_idxStr hs hh ho hx hi hsu e2 hj e1 hv
    ·simp at h
   ·simp at h
  ·simp at hr
 ·
  rename_i x i ho
  obtain ⟨sx,hx,rfl⟩ := Option.map_eq_some_iff.1 hr
  simp only [opA] at h
  split at h
  ·rename_i e
   obtain ⟨v',hv,he⟩ := Option.map_eq_some_iff.1 h
   simp only [Prod.mk.injEq] at he
   obtain ⟨rfl,rfl,rfl⟩ := he
   exact op_ext hs hh ho hx e hv
  ·simp at h
 ·
  rename_i c ho
  split at hr
  ·rename_i f hc
   split at hr
   ·rename_i hfn
    obtain ⟨sxs,hx,rfl⟩ := Option.map_eq_some_iff.1 hr
    simp only [opA] at h
    split at h
    ·rename_i hf
     obtain ⟨⟨v',H2⟩,hv,he⟩ := Option.map_eq_some_iff.1 h
     simp only [Prod.mk.injEq] at he
     obtain ⟨rfl,rfl,rfl⟩ := he
     exact op_call hs hh hC ho hc hfn hx hf hv
    ·simp at h
   ·split at hr
    ·rename_i hm
     split at hr
     ·rename_i x hargs
      obtain ⟨sx,hx,rfl⟩ := Option.map_eq_some_iff.1 hr
      simp only [opA] at h
      simp only [Option.map_none] at h
      split at h
      ·rename_i n e _
       split at h
       ·rename_i hb
        simp only [Option.some.injEq,Prod.mk.injEq] at h
        obtain ⟨rfl,rfl,rfl⟩ := h
        exact op_mknz hs hh ho hc hm hargs hx e hb.1 hb.2
       ·simp at h
      ·rename_i q; simp at q
      ·simp at h
     ·simp at hr
    ·simp at hr
  ·rename_i x _ hc
   simp only [Option.bind_eq_some_iff,Option.map_eq_some_iff] at hr
   obtain ⟨sx,hx0,sxs,hx,rfl⟩ := hr
   simp only [opA] at h
   split at h
   ·rename_i f cs e
    split at h
    ·rename_i hf
     obtain ⟨⟨v',H2⟩,hv,he⟩ := Option.map_eq_some_iff.1 h
     simp only [Prod.mk.injEq] at he
     obtain ⟨rfl,rfl,rfl⟩ := he
     exact op_callv hs hh hC ho hc hx0 e hx hf hv
    ·simp at h
   ·simp at h
  ·
   rename_i hc
   split at hr
   ·rename_i x y t u ha ht
    split at hr
    ·rename_i e d hsu hdu
     simp only [Option.bind_eq_some_iff] at hr
     obtain ⟨k,hk,b,hb,hr⟩ := hr
     split at hr
     ·split at hr
      ·rename_i hcond
       simp only [Option.bind_eq_some_iff,Option.map_eq_some_iff] at hr
       obtain ⟨sx,hx,sy,hy,rfl⟩ := hr
       simp only [opA,Option.map_some] at h
       split at h
       ·rename_i q; simp at q
       ·rename_i n e0 e1
        split at h
        ·rename_i hb3
         simp only [Option.some.injEq,Prod.mk.injEq] at h
         obtain ⟨rfl,rfl,rfl⟩ := h
         obtain ⟨zs,hz⟩ := Option.isSome_iff_exists.1 hcond.2.2.2
         obtain ⟨z,hzr,hz1,_⟩ := zerosOf_run hz
         exact op_appz hs hh ho hc ha ht hsu hdu hcond.2.2.1 hk hb hcond.1 ⟨z,hzr⟩ (fun z' w' hzw => by
          rw [hzr w'] at hzw
          simp only [Result.ok.injEq] at hzw
          rw [← hzw.1]
          rw [hk] at hz1
          exact (Option.some.inj hz1).symm) hx hy (Option.some.inj e1) e0 hb3.1 hb3.2.1 hb3.2.2
        ·simp at h
       ·simp at h
      ·simp at hr
     ·rename_i hcond
      simp only [not_or] at hcond
      simp only [Option.bind_eq_some_iff,Option.map_eq_some_iff] at hr
      obtain ⟨sx,hx,sy,hy,rfl⟩ := hr
      simp only [opA] at h
      obtain ⟨⟨v',H2⟩,hv,he⟩ := Option.map_eq_some_iff.1 h
      simp only [Prod.mk.injEq] at he
      obtain ⟨rfl,rfl,rfl⟩ := he
      refine op_append hs hh ho hc ha ht ⟨hsu,⟨d,hdu,fun k' e => hcond.2.2.1 (by rw [e]; rfl)⟩,hk,hb,hcond.1,?_,?_⟩ hx hy hv
      ·have h4 := hcond.2.2.2
       cases hz : zerosOf P e with
       | none => rw [hz] at h4; simp at h4
       | some zs => obtain ⟨z,hzr,_⟩ := zerosOf_run hz; exact ⟨z,hzr⟩
      ·intro z w hzw
       have h4 := hcond.2.2.2
       cases hz : zerosOf P e with
       | none => rw [hz] at h4; simp at h4
       | some zs =>
        obtain ⟨z',hzr,hz1,_⟩ := zerosOf_run hz
        rw [hzr w] at hzw
        simp only [Result.ok.injEq] at hzw
        rw [← hzw.1]
        rw [hk] at hz1
        exact (Option.some.inj hz1).symm
    ·simp at hr
   ·simp at hr
  ·
   rename_i hc
   split at hr
   ·rename_i x y t u ha ht
    split at hr
    ·rename_i e hsu
     obtain ⟨k,hk,hr⟩ := Option.bind_eq_some_iff.1 hr
     split at hr
     ·simp at hr
     ·simp only [Option.bind_eq_some_iff,Option.map_eq_some_iff] at hr
      obtain ⟨sx,hx,sy,hy,rfl⟩ := hr
      simp only [opA,Option.bind_eq_some_iff] at h
      obtain ⟨nd,hnd,ns,hns,cs,hcs,h⟩ := h
      split at h
      ·rename_i e1
       simp only [Option.some.injEq,Prod.mk.injEq] at h
       obtain ⟨rfl,rfl,rfl⟩ := h
       exact op_copy hs hh ho hc ha ht hsu hk hx hy hnd hns hcs (by simp only [e1])
      ·rename_i e1
       split at h
       ·rename_i h0
        simp only [Option.some.injEq,Prod.mk.injEq] at h
        obtain ⟨rfl,rfl,rfl⟩ := h
        exact op_copy hs hh ho hc ha ht hsu hk hx hy hnd hns hcs (by rw [e1]; simp only [if_pos h0])
       ·rename_i h0
        obtain ⟨H2,hv,he⟩ := Option.map_eq_some_iff.1 h
        simp only [Prod.mk.injEq] at he
        obtain ⟨rfl,rfl,rfl⟩ := he
        exact op_copy hs hh ho hc ha ht hsu hk hx hy hnd hns hcs (by rw [e1]; simp only [if_neg h0,hv,Option.map_some])
      ·simp at h
    ·simp at hr
   ·simp at hr
  ·
   rename_i hc
   split at hr
   ·rename_i x t ha ht
    split at hr
    ·rename_i e hsu
     obtain ⟨sx,hx,rfl⟩ := Option.map_eq_some_iff.1 hr
     simp only [opA] at h
     split at h
     ·rename_i e0
      simp only [Option.some.injEq,Prod.mk.injEq] at h
      obtain ⟨rfl,rfl,rfl⟩ := h
      exact op_lenS (n := 0) hs hh ho hc ha ht hx hsu (by rw [e0]; rfl) (by rw [e0]; simp)
     ·rename_i e0
      simp only [Option.some.injEq,Prod.mk.injEq] at h
      obtain ⟨rfl,rfl,rfl⟩ := h
      exact op_lenS hs hh ho hc ha ht hx hsu (by rw [e0]; rfl) (by rw [e0]; simp)
     ·simp at h
    ·rename_i hsu
     obtain ⟨sx,hx,rfl⟩ := Option.map_eq_some_iff.1 hr
     simp only [opA] at h
     split at h
     ·rename_i e0
      simp only [Option.some.injEq,Prod.mk.injEq] at h
      obtain ⟨rfl,rfl,rfl⟩ := h
      exact op_lenStr hs hh ho hc ha ht hx hsu e0
     ·simp at h
    ·rename_i n e hsu
     obtain ⟨sx,hx,rfl⟩ := Option.map_eq_some_iff.1 hr
     simp only [opA,Option.some.injEq,Prod.mk.injEq] at h
     obtain ⟨rfl,rfl,rfl⟩ := h
     exact op_lenArr hs hh ho hc ha ht hsu
    ·simp at hr
   ·simp at hr
  ·
   rename_i hc
   split at hr
   ·rename_i x t ha ht
    split at hr
    ·rename_i e hsu
     obtain ⟨sx,hx,rfl⟩ := Option.map_eq_some_iff.1 hr
     simp only [opA] at h
     split at h
     ·rename_i e0
      simp only [Option.some.injEq,Prod.mk.injEq] at h
      obtain ⟨rfl,rfl,rfl⟩ := h
      exact op_capS (n := 0) hs hh ho hc ha ht hx hsu (.inl ⟨e0,rfl⟩)
     ·rename_i e0
      simp only [Option.some.injEq,Prod.mk.injEq] at h
      obtain ⟨rfl,rfl,rfl⟩ := h
      exact op_capS hs hh ho hc ha ht hx hsu (.inr ⟨_,_,_,_,_,e0⟩)
     ·simp at h
    ·simp at hr
   ·simp at hr
  ·
   rename_i hc
   obtain ⟨sxs,hx,rfl⟩ := Option.map_eq_some_iff.1 hr
   simp only [opA] at h
   split at h
   ·rename_i k n r hm
    obtain ⟨v',hv,he⟩ := Option.map_eq_some_iff.1 h
    simp only [Prod.mk.injEq] at he
    obtain ⟨rfl,rfl,rfl⟩ := he
    exact op_min hs hh ho hc hx hm rfl hv
   ·simp at h
  ·
   rename_i hc
   obtain ⟨sxs,hx,rfl⟩ := Option.map_eq_some_iff.1 hr
   simp only [opA] at h
   split at h
   ·rename_i k n r hm
    obtain ⟨v',hv,he⟩ := Option.map_eq_some_iff.1 h
    simp only [Prod.mk.injEq] at he
    obtain ⟨rfl,rfl,rfl⟩ := he
    exact op_max hs hh ho hc hx hm rfl hv
   ·simp at h
  ·simp at hr
 ·
  rename_i f first caps ho
  split at hr
  ·rename_i hc
   obtain ⟨sxs,hx,rfl⟩ := Option.map_eq_some_iff.1 hr
   simp only [opA] at h
   split at h
   ·rename_i hf
    simp only [Option.some.injEq,Prod.mk.injEq] at h
    obtain ⟨rfl,rfl,rfl⟩ := h
    exact op_mkfn hs hh ho hc.1 hx hf
   ·simp at h
  ·simp at hr
 ·
  rename_i t x ho
  split at hr
  ·simp at hr
  ·rename_i d hn hd
   obtain ⟨sx,hx,rfl⟩ := Option.map_eq_some_iff.1 hr
   simp only [opA] at h
   split at h
   ·rename_i hf
    simp only [Option.some.injEq,Prod.mk.injEq] at h
    obtain ⟨rfl,rfl,rfl⟩ := h
    exact op_mkif hs hh ho hx hd (fun ms e => hn ms (by rw [← e])) hf
   ·simp at h
  ·simp at hr
 ·
  obtain rfl := Option.some.inj hr
  simp [opA] at h
 ·simp at hr
end
end Go.A
