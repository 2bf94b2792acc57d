/- THE ABSTRACT MACHINE: memory made; append. -/
import Derived.Test.YtnmobjhmohcjfaaA10
set_option linter.unusedSimpArgs false
set_option linter.unusedVariables false
set_option linter.unnecessarySimpa false
namespace Go.A
open Go
variable {P : Program}
section
variable {L0 : Nat → Prop} {g : G} {H : Heap} {w : World} {σ : List AV} {a : Act} {o : Oper}
theorem run_newRow' (e : TypeId) (cs : Array Value) (w : World) : (newRow e cs).run P w = .ok ⟨w.heap.size,0,none⟩ (al w (.cells cs e (0,0))) := by
  simp [newRow,newObj,Sem.run,al,Result.andThen]
theorem noFr (c : Array Value) : Thaw ((0 : Nat),(0 : Nat)) c.size := .inl rfl
theorem vrs_at {xs : List AV} {c : Array Value} (h : VRs g H w xs c.toList) (hf : AV.freeAll xs = true) : ∀ (j : Nat) (a : AV),xs[j]? = some a → a.free = true ∧ ∃ v : Value,c[j]? = some v ∧ VR g H w a v := fun j x hx => by
  obtain ⟨v,h1,h2⟩ := vrs_get h hx
  exact ⟨free_get hf hx,v,by simpa using h1,h2⟩
theorem vr_ptrNew (hr : HeapR g H w) (zs : List AV) (c : Array Value) (e : TypeId) (fr : Nat × Nat) : VR { g with α := fun r => if r = H.length then w.heap.size else g.α r } (H ++ [.row zs]) (al w (.cells c e fr)) (.ptr H.length 0 zs.length) (.pointer (some ⟨w.heap.size,0,none⟩)) := by
  simp only [VR]
  exact ⟨_,_,rfl,vr_new hr (.row zs) rfl (by simp) c e fr⟩
theorem op_new (hs : StR L0 g H w σ a.tmps none) (hh : HeapR g H w) {t : TypeId} {zs : List AV} (ho : o.op = .alloc t) (hz : zerosOf P t = some zs) :
    OpRuns P o a w (fun u w' => ∃ g',OpPost L0 g H w a.tmps o.dst (.ptr H.length 0 zs.length) σ (H ++ [.row zs]) u w' g') := by
  obtain ⟨z,hzr,hz1,hz2,hz3,hz4,_,_⟩ := zerosOf_run hz
  refine opRuns_value (u := .pointer (some ⟨w.heap.size,0,none⟩)) (w' := al w (.cells z.cells t (0,0))) (by simp [execOp,ho,Instr.alloc,hzr,newVar,run_newRow',Result.andThen]) ⟨_,post_row hs hh (.row zs) z.cells t (0,0) (Nat.zero_le _) (by show zs.length ≤ _; omega) (noFr _) (vrs_at (hz3 g H w) hz4) rfl (vr_ptrNew hh zs _ t _) _⟩
theorem op_lnew (hs : StR L0 g H w σ a.tmps none) (hh : HeapR g H w) {t : TypeId} {zs : List AV} {d : Nat} (ho : o.op = .alloc t) (hd : o.dst = some d) (hz : zerosOf P t = some zs) :
    OpRuns P o a w (fun u w' => ∃ g',OpPost L0 g H w a.tmps o.dst (.lbox zs) (σ.map (forget d)) H u w' g') := by
  obtain ⟨z,hzr,hz1,hz2,hz3,hz4,_,_⟩ := zerosOf_run hz
  refine opRuns_value (u := .pointer (some ⟨w.heap.size,0,none⟩)) (w' := al w (.cells z.cells t (0,0))) (by simp [execOp,ho,Instr.alloc,hzr,newVar,run_newRow',Result.andThen]) ⟨{ g with γ := fun d' => if d' = d then w.heap.size else g.γ d',loc := fun b => g.loc b ∨ b = w.heap.size },?_⟩
  rw [hd]
  exact post_lnew hs hh d zs z.cells t (by omega) (vrs_at (hz3 g H w) hz4)
theorem op_box (hs : StR L0 g H w σ a.tmps none) (hh : HeapR g H w) {t : TypeId} {x : Operand} {sx : SX} (ho : o.op = .box t x) (hx : rX x = some sx) (hc : (toCells (evalX σ sx)).all okCell = true) :
    OpRuns P o a w (fun u w' => ∃ g',OpPost L0 g H w a.tmps o.dst (.ptr H.length 0 (toCells (evalX σ sx)).length) σ (H ++ [.row (toCells (evalX σ sx))]) u w' g') := by
  obtain ⟨h1,_⟩ := evalX_rel hs hx
  obtain ⟨h2,h3,h4⟩ := toCells_rel hc h1
  have hlen := vrs_length h2
  refine opRuns_value (u := .pointer (some ⟨w.heap.size,0,none⟩)) (w' := al w (.cells (a.eval x).cells t (0,0))) (by simp [execOp,ho,Instr.box,newVar,run_newRow',Result.andThen]) ⟨_,post_row hs hh (.row (toCells (evalX σ sx))) _ t (0,0) (Nat.zero_le _) (by show (toCells (evalX σ sx)).length ≤ _; simp at hlen; omega) (noFr _) (vrs_at h2 h4) rfl (vr_ptrNew hh _ _ t _) _⟩
theorem op_lbox (hs : StR L0 g H w σ a.tmps none) (hh : HeapR g H w) {t : TypeId} {x : Operand} {sx : SX} {d : Nat} (ho : o.op = .box t x) (hd : o.dst = some d) (hx : rX x = some sx) (hc : (toCells (evalX σ sx)).all okCell = true) :
    OpRuns P o a w (fun u w' => ∃ g',OpPost L0 g H w a.tmps o.dst (.lbox (toCells (evalX σ sx))) (σ.map (forget d)) H u w' g') := by
  obtain ⟨h1,_⟩ := evalX_rel hs hx
  obtain ⟨h2,h3,h4⟩ := toCells_rel hc h1
  have hlen := vrs_length h2
  refine opRuns_value (u := .pointer (some ⟨w.heap.size,0,none⟩)) (w' := al w (.cells (a.eval x).cells t (0,0))) (by simp [execOp,ho,Instr.box,newVar,run_newRow',Result.andThen]) ⟨{ g with γ := fun d' => if d' = d then w.heap.size else g.γ d',loc := fun b => g.loc b ∨ b = w.heap.size },?_⟩
  rw [hd]
  exact post_lnew hs hh d _ _ t (by simp at hlen; omega) (vrs_at h2 h4)
theorem rep_length (zs : List AV) : ∀ n,(rep zs n).length = n * zs.length
  | 0 => by simp [rep]
  | n + 1 => by simp [rep,rep_length zs n,Nat.add_mul,Nat.add_comm]
theorem rep_get (zs : List AV) (n j : Nat) (h : j < n * zs.length) : (rep zs n)[j]? = zs[j % zs.length]? := by
  induction n generalizing j with
  | zero => simp at h
  | succ n ih =>
    simp only [rep]
    by_cases h1 : j < zs.length
    · rw [List.getElem?_append_left h1,Nat.mod_eq_of_lt h1]
    · rw [List.getElem?_append_right (by omega),ih _ (by rw [Nat.add_mul] at h; omega)]
      congr 1
      rw [Nat.mod_eq_sub_mod (a := j) (by omega)]
theorem rep_rel {zs : List AV} {z : Array Value} (h : VRs g H w zs z.toList) (hz : 0 < zs.length) (n : Nat) : VRs g H w (rep zs n) ((Array.range (n * z.size)).map (fun i => z[i % z.size]!)).toList := by
  have hlen := vrs_length h
  simp only [Array.length_toList] at hlen
  refine vrs_of (by simp [rep_length,hlen]) fun i x v hx hv => ?_
  have hi : i < n * zs.length := by
    have := (List.getElem?_eq_some_iff.1 hx).1
    rwa [rep_length] at this
  rw [rep_get zs n i hi] at hx
  obtain ⟨v',h1,h2⟩ := vrs_get h hx
  have hm : i % z.size < z.size := Nat.mod_lt _ (by omega)
  rw [hlen] at h1 hi
  simp [hi] at hv
  rw [← hv]
  simp [hm] at h1
  simp [hm]
  rw [h1]
  exact h2
theorem rep_free {zs : List AV} (h : AV.freeAll zs = true) : ∀ n,AV.freeAll (rep zs n) = true
  | 0 => rfl
  | n + 1 => by rw [rep,freeAll_append,h,rep_free h n]; rfl
theorem slNew (hr : HeapR g H w) (ao : AObj) (ha : ao.isRow = true) (hfr : ∀ cs,ao ≠ .old cs) (c : Array Value) (e : TypeId) (fr : Nat × Nat) {len cap cap' sz k : Nat} {ex : Bool} (hk : k = ao.cells.length) (hcap : cap ≤ cap') (hex : ex = true → cap' = cap) (hb : ex = false → cap' * sz ≤ c.size) :
    VR { g with α := fun r => if r = H.length then w.heap.size else g.α r } (H ++ [ao]) (al w (.cells c e fr)) (.sl H.length 0 len cap sz k ex) (.slice (some ⟨w.heap.size,0,none⟩) len cap') := by
  simp only [VR]
  subst hk
  refine .inr ⟨_,cap',_,0,rfl,.inl rfl,vr_new hr ao ha hfr c e fr,hcap,hex,fun h _ => ?_⟩
  rw [if_pos trivial,bsz_cells (al_new w _)]
  have := hb h
  omega
theorem op_mks (hs : StR L0 g H w σ a.tmps none) (hh : HeapR g H w) {t e : TypeId} {x y : Operand} {sx sy : SX} {sz bytes : Nat} {zs : List AV} (ho : o.op = .makeSlice t x y) (ht : P.underlying t = some (.slice e)) (hz : zerosOf P e = some zs) (hsz : szOf P e = some sz) (hby : bytesOfT P e = some bytes) (h0 : sz ≠ 0) (hx : rX x = some sx) (hy : rX y = some sy) {k k' : IntKind} {l c : Int} (hl : evalX σ sx = .c (.int k l)) (hc : evalX σ sy = .c (.int k' c)) (hb : 0 ≤ l ∧ l ≤ c ∧ c ≤ (appBound : Nat) ∧ c * bytes ≤ (appBound : Nat)) :
    OpRuns P o a w (fun u w' => ∃ g',OpPost L0 g H w a.tmps o.dst (.sl H.length 0 l.toNat c.toNat sz (c.toNat * sz) true) σ (H ++ [.row (rep zs c.toNat)]) u w' g') := by
  obtain ⟨h1,_⟩ := evalX_rel hs hx
  obtain ⟨h2,_⟩ := evalX_rel hs hy
  rw [hl] at h1; rw [hc] at h2
  have h1 := vr_c h1; have h2 := vr_c h2
  obtain ⟨z,hzr,hz1,hz2,hz3,hz4,_,_⟩ := zerosOf_run hz
  rw [hsz] at hz1
  obtain rfl := Option.some.inj hz1
  unfold bytesOfT at hby
  obtain ⟨inf,hinf,hby⟩ := Option.map_eq_some_iff.1 hby
  obtain ⟨b1,b2,b3,b4⟩ := hb
  unfold appBound at b3 b4
  have wl : IntKind.i64.wrap l = l := by simp [IntKind.wrap,IntKind.bits,IntKind.signed]; omega
  have wc : IntKind.i64.wrap c = c := by simp [IntKind.wrap,IntKind.bits,IntKind.signed]; omega
  have hrun : (Instr.makeSlice t (.int k l) (.int k' c)).run P w = .ok (.slice (some ⟨w.heap.size,0,none⟩) l.toNat c.toNat) (al w (.cells ((Array.range (c.toNat * z.cells.size)).map (fun i => z.cells[i % z.cells.size]!)) e (0,0))) := by
    unfold Instr.makeSlice
    simp only [Sem.run_bind,run_underlying' ht,Result.andThen,asInt,asIntOf,Sem.run_pure,run_typeInfo' hinf,wl,wc,hby]
    have hcb : (bytes : Int) * c = c * bytes := Int.mul_comm _ _
    rw [if_neg (by simp; omega)]
    have hroom : ∀ w,(askRoom (c.toNat * bytes)).run P w = .ok () w := fun w => by
      unfold askRoom
      split <;> simp [mark,Sem.run]
    simp only [Sem.run_bind,hroom,Result.andThen,run_sizeOf' hsz]
    by_cases hc0 : c.toNat * z.cells.size = 0
    · rw [if_pos hc0]
      have e0 : ∀ f : Nat → Value,(Array.range 0).map f = #[] := fun f => Array.eq_empty_of_size_eq_zero (by simp)
      simp only [hc0,e0,Sem.run_pure,Sem.run_bind,Result.andThen,run_newRow']
    · rw [if_neg hc0]
      simp only [Sem.run_bind,hzr,Result.andThen,Sem.run_pure,run_newRow']
  have hpos : 0 < zs.length := by omega
  have hrel := rep_rel (hz3 g H w) hpos c.toNat
  have hlen := rep_length zs c.toNat
  refine opRuns_value (by simp only [execOp,ho,h1,h2,Sem.run_bind,hrun,Result.andThen,Sem.run_pure]) ⟨_,post_row hs hh (.row (rep zs c.toNat)) _ e (0,0) (Nat.zero_le _) (by have := vrs_length hrel; simp at this; simp [AObj.cells,this]) (noFr _) (vrs_at hrel (rep_free hz4 _)) rfl (slNew hh _ rfl (by simp) _ e _ (by simp [AObj.cells,hlen,hz2]) (Nat.le_refl _) (fun _ => rfl) (fun h => by simp at h)) _⟩
theorem constCs_map : ∀ {l : List AV} {cs : List Value},constCs l = some cs → l = cs.map .c
  | [],cs,h => by simp only [constCs,Option.some.injEq] at h; subst h; rfl
  | .c v :: r,cs,h => by
    simp only [constCs] at h
    obtain ⟨q,h1,rfl⟩ := Option.map_eq_some_iff.1 h
    rw [constCs_map h1]; rfl
  | .undef :: r,cs,h => by simp [constCs] at h
  | .ptr .. :: r,cs,h => by simp [constCs] at h
  | .sl .. :: r,cs,h => by simp [constCs] at h
  | .lbox _ :: r,cs,h => by simp [constCs] at h
  | .lptr .. :: r,cs,h => by simp [constCs] at h
  | .agg _ :: r,cs,h => by simp [constCs] at h
  | .tup _ :: r,cs,h => by simp [constCs] at h
  | .fn .. :: r,cs,h => by simp [constCs] at h
  | .iface .. :: r,cs,h => by simp [constCs] at h
  | .map _ :: r,cs,h => by simp [constCs] at h
  | .vs .. :: r,cs,h => by simp [constCs] at h
  | .vp .. :: r,cs,h => by simp [constCs] at h
  | .imm _ :: r,cs,h => by simp [constCs] at h
theorem vrs_consts : ∀ {cs : List Value} {us : List Value},VRs g H w (cs.map .c) us → us = cs
  | [],us,h => by simpa only [List.map_nil,VRs] using h
  | c :: r,us,h => by
    simp only [List.map_cons,VRs,VR] at h
    obtain ⟨v,q,rfl,rfl,h⟩ := h
    rw [vrs_consts h]
theorem place_const : ∀ {sps : List (Nat × Nat × SX)} {zs cs : List AV},placeAll zs (sps.map fun (o,k,x) => (o,k,constX x)) = some cs → placeAll zs (sps.map fun (o,k,x) => (o,k,evalX σ x)) = some cs
  | [],_,_,h => h
  | (o,k,.t n) :: r,zs,cs,h => by
    have h' : (if (toCells AV.undef).length = k ∧ o + k ≤ zs.length ∧ (toCells AV.undef).all okCell = true then placeAll (zs.take o ++ toCells AV.undef ++ zs.drop (o + k)) (r.map fun (o,k,x) => (o,k,constX x)) else none) = some cs := h
    rw [if_neg (by simp [toCells,AV.one])] at h'
    simp at h'
  | (o,k,.k v) :: r,zs,cs,h => by
    have h' : (if (toCells v).length = k ∧ o + k ≤ zs.length ∧ (toCells v).all okCell = true then placeAll (zs.take o ++ toCells v ++ zs.drop (o + k)) (r.map fun (o,k,x) => (o,k,constX x)) else none) = some cs := h
    show (if (toCells v).length = k ∧ o + k ≤ zs.length ∧ (toCells v).all okCell = true then placeAll (zs.take o ++ toCells v ++ zs.drop (o + k)) (r.map fun (o,k,x) => (o,k,evalX σ x)) else none) = some cs
    by_cases hc : (toCells v).length = k ∧ o + k ≤ zs.length ∧ (toCells v).all okCell = true
    · rw [if_pos hc] at h' ⊢
      exact place_const h'
    · rw [if_neg hc] at h'
      simp at h'
theorem op_imm (hs : StR L0 g H w σ a.tmps none) (hh : HeapR g H w) {t e : TypeId} {len sz : Nat} {ps : Array (Nat × Operand)} {zs : List AV} {cs : List Value} (ho : o.op = .buildSlice t len ps) (ht : P.underlying t = some (.slice e)) (hz : zerosOf P e = some zs) (hsz : szOf P e = some sz) (h0 : sz = 1) (hb : len * sz ≤ 16777216) {sps : List (Nat × Nat × SX)}
    (hp : rParts (fun i => some (i * sz,sz)) ps.toList = some sps) {ds : List AV} (hv : placeAll (rep zs len) (sps.map fun (o,k,x) => (o,k,constX x)) = some ds) (hcs : constCs ds = some cs) :
    OpRuns P o a w (fun u w' => ∃ g',OpPost L0 g H w a.tmps o.dst (.imm cs) σ H u w' g') := by
  obtain rfl := constCs_map hcs
  replace hv := place_const (σ := σ) hv
  obtain ⟨z,hzr,hz1,hz2,hz3,hz4,_,_⟩ := zerosOf_run hz
  rw [hsz] at hz1
  obtain rfl := Option.some.inj hz1
  have hpos : 0 < zs.length := by omega
  have hrel := rep_rel (hz3 g H w) hpos len
  obtain ⟨us,f1,f2,f3,f4⟩ := fill_rel ps.toList sps (rep zs len) _ _ hp hs hrel (rep_free hz4 _) hv
  have hus := vrs_consts f2
  have hcs : cs.length = len := by
    have := vrs_length f2
    simp at this f4
    rw [h0] at f4
    omega
  have hrun : (Instr.buildSlice t len (ps.map fun (i,x) => (i,a.eval x))).run P w = .ok (.slice (some ⟨w.heap.size,0,none⟩) len len) (al w (.cells us e (0,0))) := by
    unfold Instr.buildSlice
    simp only [Sem.run_bind,run_underlying' ht,Result.andThen,run_sizeOf' hsz]
    rw [if_neg (by omega)]
    have hfill : Instr.fill (fun i => some (i * z.cells.size,z.cells.size)) ((Array.range (len * z.cells.size)).map (fun i => z.cells[i % z.cells.size]!)) (ps.map fun (i,x) => (i,a.eval x)).toList = some us := by
      rw [Array.toList_map]; exact f1
    by_cases hc0 : len * z.cells.size = 0
    · rw [if_pos hc0]
      rw [hc0] at hfill
      have e0 : ∀ f : Nat → Value,(Array.range 0).map f = #[] := fun f => Array.eq_empty_of_size_eq_zero (by simp)
      rw [e0] at hfill
      simp only [hc0,e0,Sem.run_pure,Sem.run_bind,Result.andThen]
      simp only [hfill]
      simp [run_newRow',Result.andThen]
    · rw [if_neg hc0]
      simp at hfill
      simp [hzr,hfill,run_newRow',Result.andThen]
  have hk := keeps_al hh (.cells us e (0,0)) g.γ g.loc (fun b h => .inl h)
  have hold : ∀ b,g.loc b → (al w (.cells us e (0,0))).heap[b]? = w.heap[b]? := fun b hb => al_old w _ b (hh.locb b hb).2
  suffices hpost : OpPost L0 g H w a.tmps o.dst (.imm cs) σ H (.slice (some ⟨w.heap.size,0,none⟩) len len) (al w (.cells us e (0,0))) g from
    opRuns_value (by simp only [execOp,ho,Sem.run_bind,hrun,Result.andThen,Sem.run_pure]) ⟨g,hpost⟩
  refine ⟨(hs.step hk rfl (fun _ h => h) hold).weak _,ValR.of_vr ?_ (.inl rfl),heap_al hh _ _ _ (fun b h => .inl h),⟨rfl,?_,rfl,rfl,rfl,Nat.le_refl _,fun b hb => al_old w _ b (Nat.lt_of_lt_of_le hb (n0_le_size hh)),fun b hb => hb,fun b hb => .inl hb,fun a v hf hv => vr_keeps hk a v hf hv⟩,fun b hb => hold b (hs.outer b hb)⟩
  · simp only [VR]
    refine ⟨w.heap.size,e,(0,0),by rw [hcs],⟨by rw [al_size]; omega,fun h => by have := (hh.locb _ h).2; omega,fun r' hr' => by have := hh.lt r' hr'; omega⟩,?_⟩
    rw [al_new,← hus]
  · rw [al_size]; omega
theorem op_bslice (hs : StR L0 g H w σ a.tmps none) (hh : HeapR g H w) {t e : TypeId} {len sz : Nat} {ps : Array (Nat × Operand)} {zs cs : List AV} (ho : o.op = .buildSlice t len ps) (ht : P.underlying t = some (.slice e)) (hz : zerosOf P e = some zs) (hsz : szOf P e = some sz) (h0 : sz ≠ 0) (hb : len * sz ≤ 16777216) {sps : List (Nat × Nat × SX)}
    (hp : rParts (fun i => some (i * sz,sz)) ps.toList = some sps) (hv : placeAll (rep zs len) (sps.map fun (o,k,x) => (o,k,evalX σ x)) = some cs) :
    OpRuns P o a w (fun u w' => ∃ g',OpPost L0 g H w a.tmps o.dst (.sl H.length 0 len len sz (len * sz) true) σ (H ++ [.row cs]) u w' g') := by
  obtain ⟨z,hzr,hz1,hz2,hz3,hz4,_,_⟩ := zerosOf_run hz
  rw [hsz] at hz1
  obtain rfl := Option.some.inj hz1
  have hpos : 0 < zs.length := by omega
  have hrel := rep_rel (hz3 g H w) hpos len
  obtain ⟨us,f1,f2,f3,f4⟩ := fill_rel ps.toList sps (rep zs len) _ cs hp hs hrel (rep_free hz4 _) hv
  have hcs : cs.length = len * z.cells.size := by
    have := vrs_length f2
    simp at this f4
    omega
  have hrun : (Instr.buildSlice t len (ps.map fun (i,x) => (i,a.eval x))).run P w = .ok (.slice (some ⟨w.heap.size,0,none⟩) len len) (al w (.cells us e (0,0))) := by
    unfold Instr.buildSlice
    simp only [Sem.run_bind,run_underlying' ht,Result.andThen,run_sizeOf' hsz]
    rw [if_neg (by omega)]
    have hfill : Instr.fill (fun i => some (i * z.cells.size,z.cells.size)) ((Array.range (len * z.cells.size)).map (fun i => z.cells[i % z.cells.size]!)) (ps.map fun (i,x) => (i,a.eval x)).toList = some us := by
      rw [Array.toList_map]; exact f1
    by_cases hc0 : len * z.cells.size = 0
    · rw [if_pos hc0]
      rw [hc0] at hfill
      have e0 : ∀ f : Nat → Value,(Array.range 0).map f = #[] := fun f => Array.eq_empty_of_size_eq_zero (by simp)
      rw [e0] at hfill
      simp only [hc0,e0,Sem.run_pure,Sem.run_bind,Result.andThen]
      simp only [hfill]
      simp [run_newRow',Result.andThen]
    · rw [if_neg hc0]
      simp at hfill
      simp [hzr,hfill,run_newRow',Result.andThen]
  refine opRuns_value (by simp only [execOp,ho,Sem.run_bind,hrun,Result.andThen,Sem.run_pure]) ⟨_,post_row hs hh (.row cs) _ e (0,0) (Nat.zero_le _) (by have := vrs_length f2; simp at this; simp [AObj.cells,this]) (noFr _) (vrs_at f2 f3) rfl (slNew hh _ rfl (by simp) _ e _ (by simp [AObj.cells,hcs]) (Nat.le_refl _) (fun _ => rfl) (fun h => by simp at h)) _⟩
end
end Go.A
