/- THE ABSTRACT MACHINE: memory made, read and written. -/
import Derived.Test.YtnmobjhmohcjfaaA9
set_option linter.unusedSimpArgs false
set_option linter.unusedVariables false
set_option linter.unnecessarySimpa false
namespace Go.A
open Go
variable {P : Program}
section
variable {L0 : Nat → Prop} {g : G} {H : Heap} {w : World} {σ : List AV} {a : Act} {o : Oper}
theorem rdRow_rel (hr : HeapR g H w) {r i n k b : Nat} {ob : AObj} {xs : List AV} (h : rdRow H r i n k = some xs) (ha : AddrOk g H w r k b ob) :
  ∃ vs : List Value,vs.length = n ∧ (∀ (j : Nat) (v : Value),vs[j]? = some v → cellAt w b (i + j) = some v) ∧ VRs g H w xs vs ∧ AV.freeAll xs = true := by
 unfold rdRow at h
 rw [ha.at_] at h
 simp only at h
 split at h
 ·rename_i hc
  obtain ⟨h1,h2,h3,h4⟩ := hc
  obtain rfl := Option.some.inj h
  obtain ⟨_,_,c,e,fr,hcs⟩ := hr.row r ob ha.at_ h1
  have hle := hcs.le
  have hcell : ∀ j,j < k → cellAt w b j = c[j]? := fun j hj => by rw [ha.same h2 j hj,cellAt_cells hcs.blk]
  refine ⟨(c.toList.drop i).take n,by simp; omega,fun j v hv => ?_,vrs_of (by simp; omega) fun j x v hx hv => ?_,freeAll_iff.2 fun x hx => ?_⟩
  ·by_cases hj : j < n
   ·rw [List.getElem?_take_of_lt hj,List.getElem?_drop,Array.getElem?_toList] at hv
    rw [hcell (i + j) (by omega)]; exact hv
   ·rw [List.getElem?_take_eq_none (by omega)] at hv; simp at hv
  ·by_cases hj : j < n
   ·rw [List.getElem?_take_of_lt hj,List.getElem?_drop] at hx hv
    rw [Array.getElem?_toList] at hv
    obtain ⟨_,v',hv',hvr⟩ := hcs.val (i + j) x hx
    rw [hv] at hv'
    obtain rfl := Option.some.inj hv'
    exact hvr
   ·rw [List.getElem?_take_eq_none (by omega)] at hx; simp at hx
  ·have hx' := List.mem_of_mem_drop (List.mem_of_mem_take hx)
   obtain ⟨j,hj⟩ := List.mem_iff_getElem?.1 hx'
   exact (hcs.val j x hj).1
 ·simp at h
theorem fromCells_run {t : TypeId} {k : Option Nat} (hk : kOf P t = some k) {b i : Nat} {xs : List AV} {c : Array Value} {e : TypeId} {fr : Nat × Nat} {p : Prop} (hc : CellsR g H w b xs p c e fr) {v : AV} (h : fromCells k xs i = some v) :
  ∃ u,(loadVar t ⟨b,i,none⟩).run P w = .ok u w ∧ VR g H w v u ∧ v.free = true := by
 cases k with
 | none =>
  simp only [fromCells] at h
  obtain ⟨hf,u,hu,hv⟩ := hc.val i v h
  exact ⟨u,by simp [loadVar,(kOf_none hk).2,Result.andThen,run_load_at (P := P) (show cellAt w b i = some u by rw [cellAt_cells hc.blk]; exact hu)],hv,hf⟩
 | some n =>
  simp only [fromCells] at h
  split at h
  ·rename_i hl
   obtain rfl := Option.some.inj h
   obtain ⟨hz,hg⟩ := kOf_some hk
   have hle := hc.le
   have hlen : ((c.toList.drop i).take n).length = n := by simp; omega
   have hcells := run_loadCells_at (P := P) (w := w) (b := b) (o := i) ((c.toList.drop i).take n) (fun j v hv => by
    by_cases hj : j < n
    ·rw [List.getElem?_take_of_lt hj,List.getElem?_drop,Array.getElem?_toList] at hv
     rw [cellAt_cells hc.blk]; exact hv
    ·rw [List.getElem?_take_eq_none (by omega)] at hv; simp at hv)
   rw [hlen] at hcells
   refine ⟨.agg ((c.toList.drop i).take n).toArray,by simp only [loadVar,hg,Sem.run_bind,Result.andThen,if_true,run_sizeOf' hz,hcells,Sem.run_pure],?_,?_⟩
   ·simp only [VR]
    refine ⟨_,rfl,vrs_of (by simp; omega) fun j x v hx hv => ?_⟩
    simp only at hv
    by_cases hj : j < n
    ·rw [List.getElem?_take_of_lt hj,List.getElem?_drop] at hx hv
     rw [Array.getElem?_toList] at hv
     obtain ⟨_,v',hv',hvr⟩ := hc.val (i + j) x hx
     rw [hv] at hv'
     obtain rfl := Option.some.inj hv'
     exact hvr
    ·rw [List.getElem?_take_eq_none (by omega)] at hx; simp at hx
   ·simp only [AV.free]
    refine freeAll_iff.2 fun x hx => ?_
    obtain ⟨j,hj⟩ := List.mem_iff_getElem?.1 (List.mem_of_mem_drop (List.mem_of_mem_take hx))
    exact (hc.val j x hj).1
  ·simp at h
theorem loadA_rel (hs : StR L0 g H w σ a.tmps none) (hr : HeapR g H w) {t : TypeId} {k : Option Nat} (hk : kOf P t = some k) {X v : AV} {u : Value} (hu : VR g H w X u) (h : loadA σ H k X = some v) :
  ∃ r,(Instr.loadAt t u).run P w = .ok r w ∧ VR g H w v r ∧ v.free = true := by
 unfold loadA at h
 split at h
 ·rename_i d i
  rw [vr_lptr] at hu
  subst hu
  split at h
  ·rename_i xs hd
   rw [List.getD_eq_getElem?_getD] at hd
   cases hσ : σ[d]? with
   | none => rw [hσ] at hd; simp at hd
   | some x =>
    rw [hσ] at hd
    simp only [Option.getD_some] at hd
    subst hd
    obtain ⟨_,_,hsv⟩ := hs.slot d _ (by simp) hσ
    obtain ⟨_,c,e,fr,hc⟩ := hsv
    obtain ⟨r,h1,h2⟩ := fromCells_run (P := P) hk hc h
    exact ⟨r,by simp [Instr.loadAt,Instr.sureAddr,h1],h2⟩
  ·simp at h
 ·rename_i r i gn
  simp only [VR] at hu
  obtain ⟨b,ob,rfl,ha⟩ := hu
  cases k with
  | none =>
   simp only [Option.bind_eq_some_iff] at h
   obtain ⟨l,hl,h⟩ := h
   obtain ⟨vs,h1,h2,h3,h4⟩ := rdRow_rel hr hl ha
   obtain ⟨v',hv',hvr⟩ := vrs_get h3 h
   have := h2 0 v' hv'
   rw [Nat.add_zero] at this
   exact ⟨v',by simp [Instr.loadAt,Instr.sureAddr,loadVar,(kOf_none hk).2,Result.andThen,run_load_at (P := P) this],hvr,free_get h4 h⟩
  | some n =>
   obtain ⟨l,hl,rfl⟩ := Option.map_eq_some_iff.1 h
   obtain ⟨vs,h1,h2,h3,h4⟩ := rdRow_rel hr hl ha
   obtain ⟨hz,hg⟩ := kOf_some hk
   have hcells := run_loadCells_at (P := P) (w := w) (b := b) (o := i) vs h2
   rw [h1] at hcells
   exact ⟨.agg vs.toArray,by simp [Instr.loadAt,Instr.sureAddr,loadVar,hg,Result.andThen,run_sizeOf' hz,hcells],by simp only [VR]; exact ⟨_,rfl,by simpa using h3⟩,by simpa [AV.free] using h4⟩
 ·simp at h
theorem op_load (hs : StR L0 g H w σ a.tmps none) (hh : HeapR g H w) {t : TypeId} {x : Operand} {sx : SX} {k : Option Nat} (ho : o.op = .load t x) (hk : kOf P t = some k) (hx : rX x = some sx) {v : AV} (h : loadA σ H k (evalX σ sx) = some v) :
  OpRuns P o a w (fun u w' => ∃ g',OpPost L0 g H w a.tmps o.dst v σ H u w' g') := by
 obtain ⟨h1,_⟩ := evalX_rel hs hx
 obtain ⟨r,hr,hv,hf⟩ := loadA_rel (P := P) hs hh hk h1 h
 exact pure_op hs hh (u := r) (by simp [execOp,ho,hr,Result.andThen]) hv (.inl hf)
theorem cells_over {b : Nat} {cs : List AV} {p : Prop} {c : Array Value} {e : TypeId} {fr : Nat × Nat} (hc : CellsR g H w b cs p c e fr) {i : Nat} {xs : List AV} {vs : List Value} (hv : VRs g H w xs vs) (hf : AV.freeAll xs = true) (hi : i + xs.length ≤ cs.length) :
  ∀ (j : Nat) (a : AV),(cs.take i ++ xs ++ cs.drop (i + xs.length))[j]? = some a → a.free = true ∧ ∃ v : Value,(over c i vs)[j]? = some v ∧ VR g H w a v := fun j x hx => by
 have hlen := vrs_length hv
 have hle := hc.le
 rw [over_get vs c i j (by omega)]
 rw [List.append_assoc] at hx
 by_cases h1 : j < i
 ·rw [List.getElem?_append_left (by simp; omega),List.getElem?_take_of_lt h1] at hx
  rw [if_neg (by omega)]
  exact hc.val j x hx
 ·rw [List.getElem?_append_right (by simp; omega)] at hx
  simp only [List.length_take,Nat.min_eq_left (show i ≤ cs.length by omega)] at hx
  by_cases h2 : j < i + xs.length
  ·rw [List.getElem?_append_left (by omega)] at hx
   rw [if_pos (by omega)]
   obtain ⟨v,hv1,hv2⟩ := vrs_get hv hx
   exact ⟨free_get hf hx,v,hv1,hv2⟩
  ·rw [List.getElem?_append_right (by omega),List.getElem?_drop] at hx
   rw [if_neg (by omega)]
   rw [show i + xs.length + (j - i - xs.length) = j by omega] at hx
   exact hc.val j x hx
theorem wrRow_rel (hs : StR L0 g H w σ a.tmps none) (hr : HeapR g H w) {r i k b : Nat} {ob : AObj} {xs : List AV} {vs : List Value} {H' : Heap} (h : wrRow H r i k xs = some H') (ha : AddrOk g H w r k b ob) (hv : VRs g H w xs vs) :
  (∀ v ∈ vs,oneV v = true) ∧ ∃ w',(storeCells ⟨b,i,none⟩ vs).run P w = .ok () w' ∧ (∀ (v : AV) (u : Value) (d : Option Nat),v.free = true → VR g H' w' v u → OpPost L0 g H w a.tmps d v σ H' u w' g) ∧ (∀ v u,v.free = true → VR g H w v u → VR g H' w' v u) := by
 have hall : xs.all okCell = true → (∀ v ∈ vs,oneV v = true) ∧ AV.freeAll xs = true := fun hok => by
  refine ⟨fun v hv' => ?_,freeAll_iff.2 fun x hx => ?_⟩
  ·obtain ⟨j,hj⟩ := List.mem_iff_getElem?.1 hv'
   have hlen := vrs_length hv
   have hlt : j < xs.length := by
    have := (List.getElem?_eq_some_iff.1 hj).1
    omega
   obtain ⟨v',hv1,hv2⟩ := vrs_get hv (show xs[j]? = some xs[j] by simp [hlt])
   rw [hj] at hv1
   obtain rfl := Option.some.inj hv1
   have := List.all_eq_true.1 hok xs[j] (List.getElem_mem hlt)
   simp [okCell] at this
   exact one_val this.1 hv2
  ·have := List.all_eq_true.1 hok x hx
   simp [okCell] at this
   exact this.2
 have hrl : r < H.length := (List.getElem?_eq_some_iff.1 ha.at_).1
 have hlen := vrs_length hv
 have main : ∀ (cs : List AV) (o1 : AObj),ob.cells = cs → ob.isW = true → k = cs.length → i + xs.length ≤ k → xs.all okCell = true → o1.cells = cs.take i ++ xs ++ cs.drop (i + xs.length) → o1.isRow = true → (∀ cs',o1 = .row cs' → ∃ cs'',ob = .row cs'') → ((∃ cs',o1 = .row cs') ∨ o1.lo = o1.cells.length) → o1.lo ≤ o1.cells.length → H' = H.set r o1 →
   (∀ v ∈ vs,oneV v = true) ∧ ∃ w',(storeCells ⟨b,i,none⟩ vs).run P w = .ok () w' ∧ (∀ (v : AV) (u : Value) (d : Option Nat),v.free = true → VR g H' w' v u → OpPost L0 g H w a.tmps d v σ H' u w' g) ∧ (∀ v u,v.free = true → VR g H w v u → VR g H' w' v u) := by
  intro cs o1 hcs hW hk hi hok hcells hrow hlo1 hlo2 hlo3 hH'
  obtain ⟨hone,hfree⟩ := hall hok
  obtain ⟨hl0,hw0,c,e,fr,hc⟩ := hr.row r ob ha.at_ ha.isRow
  rw [hcs] at hc
  have hle := hc.le
  have hb : b = g.α r := ha.top (by rw [hk,hcs])
  subst hb
  have hclen : o1.cells.length = ob.cells.length := by rw [hcells,hcs]; simp; omega
  have hk' : Keeps g H w g (H.set r o1) (put w (g.α r) (.cells (over c i vs) e fr)) :=
   keeps_put hr r ob o1 ha.at_ hrow hclen hlo1 hlo2 _ e fr (by rw [over_size,bsz_cells hc.blk])
  refine ⟨hone,_,run_storeCells_at' (P := P) vs hc.blk (by omega) (hc.thaw hW).cells hone,fun v u d hf hvu => ?_,fun v u hf hvu => ?_⟩
  ·subst hH'
   exact post_put hs hr r o1 hrl (hw0 hW) (over c i vs) e fr hk' hlo3 (by rw [over_size,hclen,hcs]; omega) (by rw [over_size]; exact hc.thaw hW) (by rw [hcells]; exact cells_over hc hv hfree (by omega)) hf hvu d
  ·subst hH'
   exact vr_keeps hk' v u hf hvu
 unfold wrRow at h
 rw [ha.at_] at h
 split at h
 ·rename_i cs e1
  obtain rfl := Option.some.inj e1
  split at h
  ·rename_i hc
   exact main cs _ rfl rfl hc.1 hc.2.1 hc.2.2 rfl rfl (fun _ _ => ⟨_,rfl⟩) (.inl ⟨_,rfl⟩) (Nat.zero_le _) (Option.some.inj h).symm
  ·simp at h
 ·rename_i cs lo e1
  obtain rfl := Option.some.inj e1
  split at h
  ·rename_i hc
   have hl : (cs.take i ++ xs ++ cs.drop (i + xs.length)).length = cs.length := by simp; omega
   exact main cs (.grow _ cs.length) rfl rfl hc.1 hc.2.1 hc.2.2 rfl rfl (fun _ h => by simp at h) (.inr hl.symm) (by show cs.length ≤ _; rw [AObj.cells,hl]; exact Nat.le_refl _) (Option.some.inj h).symm
  ·simp at h
 ·simp at h
theorem run_storeVar' {t : TypeId} {k : Option Nat} (hk : kOf P t = some k) {b i : Nat} {v : Value} {n : Nat} (hn : n = k.getD 1) (hv : v.cells.size = n) {w' : World} (h : (storeCells ⟨b,i,none⟩ v.cells.toList).run P w = .ok () w') : (storeVar t ⟨b,i,none⟩ v).run P w = .ok () w' := by
 have hz : szOf P t = some n := by
  cases k with
  | none => subst hn; exact (kOf_none hk).1
  | some m => subst hn; exact (kOf_some hk).1
 unfold storeVar
 simp only [Sem.run_bind,run_sizeOf' hz,Result.andThen,hv]
 simp [h]
theorem op_store (hs : StR L0 g H w σ a.tmps none) (hh : HeapR g H w) {t : TypeId} {x y : Operand} {sx sy : SX} {k : Option Nat} (ho : o.op = .store t x y) (hk : kOf P t = some k) (hx : rX x = some sx) (hy : rX y = some sy) (hd : o.dst = none) {σ' : List AV} {H' : Heap} (h : storeA σ H k (evalX σ sx) (evalX σ sy) = some (σ',H')) :
  OpRuns P o a w (fun u w' => ∃ g',OpPost L0 g H w a.tmps o.dst (.tup []) σ' H' u w' g') := by
 obtain ⟨h1,_⟩ := evalX_rel hs hx
 obtain ⟨h2,hyf⟩ := evalX_rel hs hy
 have hund : VR g H w (.tup []) (.tuple #[]) := by simp only [VR]; exact ⟨#[],rfl,by simp [VRs]⟩
 unfold storeA at h
 split at h
 ·rename_i d i hX
  rw [hX,vr_lptr] at h1
  split at h
  ·rename_i xs hdx
   rw [List.getD_eq_getElem?_getD] at hdx
   cases hσ : σ[d]? with
   | none => rw [hσ] at hdx; simp at hdx
   | some z =>
    rw [hσ] at hdx
    simp only [Option.getD_some] at hdx
    subst hdx
    obtain ⟨_,_,hsv⟩ := hs.slot d _ (by simp) hσ
    obtain ⟨_,c,e,fr,hc⟩ := hsv
    have hle := hc.le
    split at h
    ·rename_i hfree
     have go : ∀ (vs : List AV) (ys : List AV),VRs g H w vs (a.eval y).cells.toList → AV.freeAll vs = true → (∀ v ∈ (a.eval y).cells.toList,oneV v = true) → i + vs.length ≤ xs.length → ys = xs.take i ++ vs ++ xs.drop (i + vs.length) → vs.length = k.getD 1 → σ' = σ.set d (.lbox ys) → H' = H →
       OpRuns P o a w (fun u w' => ∃ g',OpPost L0 g H w a.tmps o.dst (.tup []) σ' H' u w' g') := by
      intro vs ys hvs hvf hone hi hys hkl hσ' hH'
      have hlen := vrs_length hvs
      have hst := run_storeCells_at' (P := P) (b := g.γ d) (o := i) (a.eval y).cells.toList hc.blk (by omega) (hc.thaw trivial).cells hone
      have hsv := run_storeVar' (P := P) (t := t) hk (n := vs.length) hkl (by simpa using hlen.symm) hst
      refine opRuns_skip (w' := put w (g.γ d) (.cells (over c i (a.eval y).cells.toList) e fr)) (by simp [execOp,ho,h1,Instr.storeAt,Instr.sureAddr,hsv,Result.andThen]) ⟨g,?_⟩
      subst hσ'; subst hH'; subst hys
      exact post_lput hs hh d xs _ hσ _ e fr (by rw [over_size]; simp; omega) (by rw [over_size]; exact hc.thaw trivial) (cells_over hc hvs hvf hi) (by rw [hd]; simp) undef rfl
     split at h
     ·rename_i v0
      split at h
      ·rename_i hone
       obtain ⟨ys,hys,he⟩ := Option.map_eq_some_iff.1 h
       simp only [Prod.mk.injEq] at he
       obtain ⟨rfl,rfl⟩ := he
       have hov := one_val hone h2
       have hcl := cells_of_one hov
       unfold putCells at hys
       split at hys
       ·simp at hys
       ·rename_i hnagg
        split at hys
        ·rename_i hlt
         obtain rfl := Option.some.inj hys
         refine go [evalX σ sy] _ (by rw [hcl]; simp only [VRs]; exact ⟨_,[],rfl,h2,rfl⟩) (by simp [AV.freeAll,hfree]) (by rw [hcl]; intro v hv; simp at hv; subst hv; exact hov) (by simp; omega) ?_ rfl rfl rfl
         rw [List.set_eq_take_append_cons_drop,if_pos hlt]
         simp
        ·simp at hys
       ·rename_i hk' _ ; simp at hk'
       ·simp at hys
      ·simp at h
     ·rename_i n vs hyv
      rw [hyv] at h2 hfree
      split at h
      ·rename_i hok
       obtain ⟨ys,hys,he⟩ := Option.map_eq_some_iff.1 h
       simp only [Prod.mk.injEq] at he
       obtain ⟨rfl,rfl⟩ := he
       obtain ⟨hc1,hc2,hc3⟩ := toCells_rel (X := .agg vs) hok h2
       simp only [putCells] at hys
       split at hys
       ·rename_i hlt
        obtain rfl := Option.some.inj hys
        exact go vs _ hc1 hc3 hc2 (by omega) (by rw [hlt.1]) (by simpa using hlt.1) rfl rfl
       ·simp at hys
      ·simp at h
     ·simp at h
    ·simp at h
  ·simp at h
 ·rename_i r i gn hX
  rw [hX] at h1
  simp only [VR] at h1
  obtain ⟨b,ob,e1,ha⟩ := h1
  split at h
  ·rename_i v0
   obtain ⟨H2,hw,he⟩ := Option.map_eq_some_iff.1 h
   simp only [Prod.mk.injEq] at he
   obtain ⟨rfl,rfl⟩ := he
   obtain ⟨hone,w',hst,hpost,_⟩ := wrRow_rel (P := P) hs hh hw ha (vs := [a.eval y]) (by simp only [VRs]; exact ⟨_,[],rfl,h2,rfl⟩)
   have hcl := cells_of_one (hone (a.eval y) (by simp))
   have hsv := run_storeVar' (P := P) (t := t) hk (n := 1) rfl (v := a.eval y) (by rw [hcl]; rfl) (by rw [hcl]; exact hst)
   exact opRuns_skip (w' := w') (by simp [execOp,ho,e1,Instr.storeAt,Instr.sureAddr,hsv,Result.andThen]) ⟨g,hpost _ _ _ (by simp [AV.free,AV.freeAll]) (by simp only [VR]; exact ⟨#[],rfl,by simp [VRs]⟩)⟩
  ·rename_i n vs hyv
   rw [hyv] at h2
   split at h
   ·rename_i hvn
    obtain ⟨H2,hw,he⟩ := Option.map_eq_some_iff.1 h
    simp only [Prod.mk.injEq] at he
    obtain ⟨rfl,rfl⟩ := he
    simp only [VR] at h2
    obtain ⟨us,hus,hvs⟩ := h2
    obtain ⟨hone,w',hst,hpost,_⟩ := wrRow_rel (P := P) hs hh hw ha hvs
    have hsv := run_storeVar' (P := P) (t := t) hk (n := n) rfl (v := a.eval y) (by rw [hus]; have := vrs_length hvs; simp at this; simp [Value.cells]; omega) (by rw [hus]; exact hst)
    exact opRuns_skip (w' := w') (by simp [execOp,ho,e1,Instr.storeAt,Instr.sureAddr,hsv,Result.andThen]) ⟨g,hpost _ _ _ (by simp [AV.free,AV.freeAll]) (by simp only [VR]; exact ⟨#[],rfl,by simp [VRs]⟩)⟩
   ·simp at h
  ·simp at h
 ·simp at h
end
end Go.A
