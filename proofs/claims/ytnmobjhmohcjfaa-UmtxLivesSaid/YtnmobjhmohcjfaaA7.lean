/- THE ABSTRACT MACHINE: cuts, lengths, aggregates. -/
import Derived.Test.YtnmobjhmohcjfaaA6
set_option linter.unusedSimpArgs false
set_option linter.unusedVariables false
set_option linter.unnecessarySimpa false
namespace Go.A
open Go
variable {P : Program}
section
variable {L0 : Nat → Prop} {g : G} {H : Heap} {w : World} {σ : List AV} {a : Act} {o : Oper}
theorem op_min (hs : StR L0 g H w σ a.tmps none) (hh : HeapR g H w) {c : Call} (ho : o.op = .call c) (hc : c.callee = .builtin .min) {sxs : List SX} (hx : rXs c.args.toList = some sxs) {x v : AV} {r : List AV} (hm : sxs.map (evalX σ) = x :: r) (hf : x.free = true) (hv : r.foldlM minA x = some v) :
    OpRuns P o a w (fun u w' => ∃ g',OpPost L0 g H w a.tmps o.dst v σ H u w' g') := by
  have h1 := evalXs_rel hs hx
  rw [hm] at h1
  simp only [VRs] at h1
  obtain ⟨u,us,e,hu,hus⟩ := h1
  obtain ⟨res,h2,h3,h4⟩ := foldM_min (P := P) hus hu hf hv
  refine pure_op hs hh (u := res) ?_ h3 (.inl h4)
  simp [execOp,ho,Go.resolve,hc,invoke,builtin,Builtin.min_,e,h2,Result.andThen]
theorem op_max (hs : StR L0 g H w σ a.tmps none) (hh : HeapR g H w) {c : Call} (ho : o.op = .call c) (hc : c.callee = .builtin .max) {sxs : List SX} (hx : rXs c.args.toList = some sxs) {x v : AV} {r : List AV} (hm : sxs.map (evalX σ) = x :: r) (hf : x.free = true) (hv : r.foldlM maxA x = some v) :
    OpRuns P o a w (fun u w' => ∃ g',OpPost L0 g H w a.tmps o.dst v σ H u w' g') := by
  have h1 := evalXs_rel hs hx
  rw [hm] at h1
  simp only [VRs] at h1
  obtain ⟨u,us,e,hu,hus⟩ := h1
  obtain ⟨res,h2,h3,h4⟩ := foldM_max (P := P) hus hu hf hv
  refine pure_op hs hh (u := res) ?_ h3 (.inl h4)
  simp [execOp,ho,Go.resolve,hc,invoke,builtin,Builtin.max_,e,h2,Result.andThen]
theorem lenA_rel {X : AV} {u : Value} {n : Nat} (h : lenA X = some n) (hu : VR g H w X u) : (u = .slice none 0 0 ∧ n = 0) ∨ (∃ (x : Addr) (cap : Nat),u = .slice (some x) n cap) ∨ (∃ s : ByteArray,u = .string s ∧ n = s.size) := by
  unfold lenA at h
  split at h
  · have := vr_c hu; subst this; exact .inl ⟨rfl,by simpa using h.symm⟩
  · obtain rfl := Option.some.inj h
    simp only [VR] at hu
    rcases hu with ⟨x,rfl,rfl,_⟩ | ⟨b,cap',_,off',rfl,_⟩
    · exact .inr (.inl ⟨x,0,rfl⟩)
    exact .inr (.inl ⟨⟨b,off',none⟩,cap',rfl⟩)
  · obtain rfl := Option.some.inj h
    have := vr_c hu; subst this; exact .inr (.inr ⟨_,rfl,rfl⟩)
  · obtain rfl := Option.some.inj h
    simp only [VR] at hu
    obtain ⟨b,e,fr,rfl,_⟩ := hu
    exact .inr (.inl ⟨⟨b,0,none⟩,_,rfl⟩)
  · simp at h
theorem op_lenS (hs : StR L0 g H w σ a.tmps none) (hh : HeapR g H w) {c : Call} (ho : o.op = .call c) (hc : c.callee = .builtin .len) {x : Operand} {sx : SX} {t e : TypeId} (ha : c.args.toList = [x]) (ht : c.argTypes.toList = [t]) (hx : rX x = some sx) (hsu : P.underlying t = some (.slice e)) {n : Nat} (hv : lenA (evalX σ sx) = some n) (hk : ∀ s,evalX σ sx ≠ .c (.string s)) :
    OpRuns P o a w (fun u w' => ∃ g',OpPost L0 g H w a.tmps o.dst (.c (.int .i64 n)) σ H u w' g') := by
  obtain ⟨h1,_⟩ := evalX_rel hs hx
  have e1 : c.args = #[x] := by apply Array.toList_inj.1; simpa using ha
  have e2 : c.argTypes = #[t] := by apply Array.toList_inj.1; simpa using ht
  refine pure_op hs hh (u := .int .i64 n) ?_ (by simp [VR]) (.inl rfl)
  rcases lenA_rel hv h1 with ⟨h2,rfl⟩ | ⟨xx,cap,h2⟩ | ⟨s,h2,rfl⟩
  · simp [execOp,ho,Go.resolve,hc,invoke,builtin,Builtin.len_,e1,e2,h2,run_underlying' hsu,goInt,Result.andThen]
  · simp [execOp,ho,Go.resolve,hc,invoke,builtin,Builtin.len_,e1,e2,h2,run_underlying' hsu,goInt,Result.andThen]
  · exfalso
    unfold lenA at hv
    split at hv
    · rename_i e0; rw [e0] at h1; have := vr_c h1; rw [h2] at this; simp at this
    · rename_i e0; rw [e0] at h1; simp only [VR] at h1; rcases h1 with ⟨_,h3,_⟩ | ⟨_,_,_,_,h3,_⟩ <;> (rw [h2] at h3; simp at h3)
    · rename_i s' e0; exact hk s' e0
    · rename_i e0; rw [e0] at h1; simp only [VR] at h1; obtain ⟨_,_,_,h3,_⟩ := h1; rw [h2] at h3; simp at h3
    · simp at hv
theorem op_capS (hs : StR L0 g H w σ a.tmps none) (hh : HeapR g H w) {c : Call} (ho : o.op = .call c) (hc : c.callee = .builtin .cap) {x : Operand} {sx : SX} {t e : TypeId} (ha : c.args.toList = [x]) (ht : c.argTypes.toList = [t]) (hx : rX x = some sx) (hsu : P.underlying t = some (.slice e)) {n : Nat} (hv : (evalX σ sx = .c (.slice none 0 0) ∧ n = 0) ∨ ∃ r off len sz k,evalX σ sx = .sl r off len n sz k true) :
    OpRuns P o a w (fun u w' => ∃ g',OpPost L0 g H w a.tmps o.dst (.c (.int .i64 n)) σ H u w' g') := by
  obtain ⟨h1,_⟩ := evalX_rel hs hx
  have e1 : c.args = #[x] := by apply Array.toList_inj.1; simpa using ha
  have e2 : c.argTypes = #[t] := by apply Array.toList_inj.1; simpa using ht
  refine pure_op hs hh (u := .int .i64 n) ?_ (by simp [VR]) (.inl rfl)
  rcases hv with ⟨h2,rfl⟩ | ⟨r,off,len,sz,k,h2⟩
  · rw [h2] at h1
    have h1 := vr_c h1
    simp [execOp,ho,Go.resolve,hc,invoke,builtin,Builtin.cap_,e1,e2,h1,run_underlying' hsu,goInt,Result.andThen]
  · rw [h2] at h1
    simp only [VR] at h1
    rcases h1 with ⟨xx,h3,_,rfl,_⟩ | ⟨b,cap',o',off',h3,_,_,_,h4,_⟩
    · simp [execOp,ho,Go.resolve,hc,invoke,builtin,Builtin.cap_,e1,e2,h3,run_underlying' hsu,goInt,Result.andThen]
    · obtain rfl := h4 trivial
      simp [execOp,ho,Go.resolve,hc,invoke,builtin,Builtin.cap_,e1,e2,h3,run_underlying' hsu,goInt,Result.andThen]
theorem op_lenStr (hs : StR L0 g H w σ a.tmps none) (hh : HeapR g H w) {c : Call} (ho : o.op = .call c) (hc : c.callee = .builtin .len) {x : Operand} {sx : SX} {t : TypeId} (ha : c.args.toList = [x]) (ht : c.argTypes.toList = [t]) (hx : rX x = some sx) (hsu : P.underlying t = some .string) {s : ByteArray} (hv : evalX σ sx = .c (.string s)) :
    OpRuns P o a w (fun u w' => ∃ g',OpPost L0 g H w a.tmps o.dst (.c (.int .i64 s.size)) σ H u w' g') := by
  obtain ⟨h1,_⟩ := evalX_rel hs hx
  rw [hv] at h1
  have h1 := vr_c h1
  have e1 : c.args = #[x] := by apply Array.toList_inj.1; simpa using ha
  have e2 : c.argTypes = #[t] := by apply Array.toList_inj.1; simpa using ht
  refine pure_op hs hh (u := .int .i64 s.size) ?_ (by simp [VR]) (.inl rfl)
  simp [execOp,ho,Go.resolve,hc,invoke,builtin,Builtin.len_,e1,e2,h1,run_underlying' hsu,goInt,Result.andThen]
theorem op_lenArr (hs : StR L0 g H w σ a.tmps none) (hh : HeapR g H w) {c : Call} (ho : o.op = .call c) (hc : c.callee = .builtin .len) {x : Operand} {t e : TypeId} {n : Nat} (ha : c.args.toList = [x]) (ht : c.argTypes.toList = [t]) (hsu : P.underlying t = some (.array n e)) :
    OpRuns P o a w (fun u w' => ∃ g',OpPost L0 g H w a.tmps o.dst (.c (.int .i64 n)) σ H u w' g') := by
  have e1 : c.args = #[x] := by apply Array.toList_inj.1; simpa using ha
  have e2 : c.argTypes = #[t] := by apply Array.toList_inj.1; simpa using ht
  refine pure_op hs hh (u := .int .i64 n) ?_ (by simp [VR]) (.inl rfl)
  simp [execOp,ho,Go.resolve,hc,invoke,builtin,Builtin.len_,e1,e2,run_underlying' hsu,goInt,Result.andThen]
theorem cutBound_run {X : AV} {y n : Nat} (h : cutBound X y = some n) {u : Value} (hu : VR g H w X u) {y' : Nat} (hy : y ≤ y') (code : BoundsCode) : (Instr.sliceBound u y' code).run P w = .ok n w := by
  unfold cutBound at h
  split at h
  · have := vr_c hu; subst this
    split at h
    · rename_i hi
      obtain rfl := Option.some.inj h
      simp only [Instr.sliceBound,asIntOf,Sem.run_bind,Sem.run_pure,Result.andThen]
      rw [if_pos ⟨hi.1,by omega⟩]
      simp
    · simp at h
  · simp at h
theorem cutBound_le {X : AV} {y n : Nat} (h : cutBound X y = some n) : n ≤ y := by
  unfold cutBound at h
  split at h
  · split at h
    · rename_i hi
      obtain rfl := Option.some.inj h
      omega
    · simp at h
  · simp at h
inductive OptR (g : G) (H : Heap) (w : World) : Option AV → Option Value → Prop
  | none : OptR g H w none none
  | some {x : AV} {u : Value} : VR g H w x u → OptR g H w (some x) (some u)
theorem rXo_rel (hs : StR L0 g H w σ a.tmps none) {x : Option Operand} {sx : Option SX} (h : rXo x = some sx) : OptR g H w (sx.map (evalX σ)) (x.map a.eval) := by
  cases x with
  | none => simp [rXo] at h; subst h; exact .none
  | some x =>
    simp only [rXo,Option.map_eq_some_iff] at h
    obtain ⟨s,hs1,rfl⟩ := h
    exact .some (evalX_rel hs hs1).1
theorem cutBounds_run {len cap cap' l h m : Nat} {lo hi mx : Option AV} {ul uh um : Option Value} (hb : cutBounds len cap lo hi mx = some (l,h,m)) (hl : OptR g H w lo ul) (hh : OptR g H w hi uh) (hm : OptR g H w mx um) (hc : cap ≤ cap') (isS : Bool) :
    ∃ m',(Instr.sliceBounds isS len cap' ul uh um).run P w = .ok (l,h,m') w ∧ (mx.isSome = true → m' = m) ∧ (mx = none → m' = cap' ∧ m = cap) ∧ l ≤ h ∧ h ≤ m := by
  unfold cutBounds at hb
  split at hb
  case isFalse => simp at hb
  rename_i hlc
  simp only [Option.bind_eq_some_iff,Option.map_eq_some_iff] at hb
  obtain ⟨m0,hm0,h0,hh0,l0,hl0,e⟩ := hb
  simp only [Prod.mk.injEq] at e
  obtain ⟨rfl,rfl,rfl⟩ := e
  unfold capOf at hm0
  unfold highOf at hh0
  unfold lowOf at hl0
  cases hm with
  | none =>
    simp only [Option.some.injEq] at hm0
    subst hm0
    cases hh with
    | none =>
      simp only [Option.some.injEq] at hh0
      subst hh0
      cases hl with
      | none =>
        simp only [Option.some.injEq] at hl0
        subst hl0
        exact ⟨cap',by simp [Instr.sliceBounds,Result.andThen],by simp,by simp,by omega,hlc⟩
      | some hl =>
        have := cutBound_le hl0
        exact ⟨cap',by simp [Instr.sliceBounds,cutBound_run (P := P) hl0 hl (Nat.le_refl _),Result.andThen],by simp,by simp,this,hlc⟩
    | some hh =>
      have h1 := cutBound_le hh0
      cases hl with
      | none =>
        simp only [Option.some.injEq] at hl0
        subst hl0
        exact ⟨cap',by simp [Instr.sliceBounds,cutBound_run (P := P) hh0 hh hc,Result.andThen],by simp,by simp,by omega,h1⟩
      | some hl =>
        have := cutBound_le hl0
        exact ⟨cap',by simp [Instr.sliceBounds,cutBound_run (P := P) hh0 hh hc,cutBound_run (P := P) hl0 hl (Nat.le_refl _),Result.andThen],by simp,by simp,this,h1⟩
  | some hm =>
    have hmle := cutBound_le hm0
    cases hh with
    | none => simp at hh0
    | some hh =>
      have h1 := cutBound_le hh0
      cases hl with
      | none =>
        simp only [Option.some.injEq] at hl0
        subst hl0
        exact ⟨m0,by simp [Instr.sliceBounds,cutBound_run (P := P) hm0 hm hc,cutBound_run (P := P) hh0 hh (Nat.le_refl _),Result.andThen],by simp,by simp,by omega,h1⟩
      | some hl =>
        have := cutBound_le hl0
        exact ⟨m0,by simp [Instr.sliceBounds,cutBound_run (P := P) hm0 hm hc,cutBound_run (P := P) hh0 hh (Nat.le_refl _),cutBound_run (P := P) hl0 hl (Nat.le_refl _),Result.andThen],by simp,by simp,this,h1⟩
theorem cutA_run {k : CutK} {t : TypeId} {X v : AV} {lo hi mx : Option AV} {u : Value} {ul uh um : Option Value} (h : cutA k X lo hi mx = some v)
    (ht : (k = .str ∧ P.underlying t = some .string) ∨ (∃ e sz,k = .slice sz ∧ P.underlying t = some (.slice e) ∧ szOf P e = some sz))
    (hu : VR g H w X u) (hl : OptR g H w lo ul) (hh : OptR g H w hi uh) (hm : OptR g H w mx um) :
    ∃ r,(Instr.sliceAt t u ul uh um).run P w = .ok r w ∧ VR g H w v r ∧ v.free = true := by
  unfold cutA at h
  split at h
  · replace ht : P.underlying t = some .string := by
      rcases ht with ⟨_,ht⟩ | ⟨e,sz,hk,_⟩
      · exact ht
      · simp at hk
    have := vr_c hu; subst this
    split at h
    · simp at h
    · rename_i s hmx
      obtain ⟨⟨l,h',m⟩,hb,rfl⟩ := Option.map_eq_some_iff.1 h
      obtain ⟨m',h1,_,_,_,_⟩ := cutBounds_run (P := P) hb hl hh .none (Nat.le_refl _) false
      have hmx' : um = none := by
        cases hm with
        | none => rfl
        | some _ => simp at hmx
      subst hmx'
      exact ⟨_,by simp [Instr.sliceAt,Instr.slice,run_underlying' ht,h1,Result.andThen]; rfl,by simp [VR],rfl⟩
  · obtain ⟨hk,_⟩ | ⟨e,sz,hk,ht,hz⟩ := ht
    · simp at hk
    have := vr_c hu; subst this
    obtain ⟨⟨l,h',m⟩,hb,rfl⟩ := Option.map_eq_some_iff.1 h
    obtain ⟨m',h1,h2,h3,h4,h5⟩ := cutBounds_run (P := P) hb hl hh hm (Nat.le_refl _) true
    have hmc : m ≤ 0 := by
      have hb' := hb
      unfold cutBounds at hb'
      split at hb'
      · simp only [Option.bind_eq_some_iff,Option.map_eq_some_iff] at hb'
        obtain ⟨m0,hm0,h0,hh0,l0,hl0,e⟩ := hb'
        simp only [Prod.mk.injEq] at e
        obtain ⟨_,_,rfl⟩ := e
        unfold capOf at hm0
        split at hm0
        · exact cutBound_le hm0
        · simp at hm0; omega
      · simp at hb'
    obtain rfl : m = 0 := by omega
    obtain rfl : h' = 0 := by omega
    obtain rfl : l = 0 := by omega
    obtain rfl : m' = 0 := by
      cases mx with
      | none => exact (h3 rfl).1
      | some x => exact h2 rfl
    exact ⟨_,by simp [Instr.sliceAt,Instr.slice,run_underlying' ht,h1,run_sizeOf' hz,Result.andThen]; rfl,by simp [VR],rfl⟩
  · rename_i sz r off len cap sz' k ex
    obtain ⟨hk,_⟩ | ⟨e,sz2,hk,ht,hz⟩ := ht
    · simp at hk
    simp only [CutK.slice.injEq] at hk
    subst hk
    split at h
    · rename_i hex
      obtain ⟨⟨l,h',m⟩,hb,rfl⟩ := Option.map_eq_some_iff.1 h
      simp only [VR] at hu
      rcases hu with ⟨xx,rfl,rfl,rfl,rfl⟩ | ⟨b,cap',ob,off',rfl,hoff,ha,hcap,hx,hy⟩
      · obtain ⟨m',h1,h2,h3,h4,h5⟩ := cutBounds_run (P := P) hb hl hh hm (Nat.le_refl _) true
        have hmc : m ≤ 0 := by
          have hb' := hb
          unfold cutBounds at hb'
          split at hb'
          · simp only [Option.bind_eq_some_iff,Option.map_eq_some_iff] at hb'
            obtain ⟨m0,hm0,h0,hh0,l0,hl0,e⟩ := hb'
            simp only [Prod.mk.injEq] at e
            obtain ⟨_,_,rfl⟩ := e
            unfold capOf at hm0
            split at hm0
            · exact cutBound_le hm0
            · simp at hm0; omega
          · simp at hb'
        obtain rfl : m = 0 := by omega
        obtain rfl : h' = 0 := by omega
        obtain rfl : l = 0 := by omega
        obtain rfl : m' = 0 := by
          cases mx with
          | none => exact (h3 rfl).1
          | some x => exact h2 rfl
        refine ⟨.slice (some xx) 0 0,?_,?_,rfl⟩
        · simp [Instr.sliceAt,Instr.slice,run_underlying' ht,h1,run_sizeOf' hz,Result.andThen]
        · simp only [VR]
          exact .inl ⟨xx,rfl,by simp⟩
      obtain ⟨m',h1,h2,h3,h4,h5⟩ := cutBounds_run (P := P) hb hl hh hm hcap true
      have hmm : m ≤ m' := by
        cases mx with
        | none => have := h3 rfl; omega
        | some x => have := h2 rfl; omega
      have hmc : m ≤ cap := by
        cases mx with
        | none => have := h3 rfl; omega
        | some x =>
          have hb' := hb
          unfold cutBounds at hb'
          split at hb'
          · simp only [Option.bind_eq_some_iff,Option.map_eq_some_iff] at hb'
            obtain ⟨m0,hm0,h0,hh0,l0,hl0,e⟩ := hb'
            simp only [Prod.mk.injEq] at e
            obtain ⟨_,_,rfl⟩ := e
            exact cutBound_le hm0
          · simp at hb'
      refine ⟨.slice (some ⟨b,(if m' = l then off' else off' + l * sz),none⟩) (h' - l) (m' - l),?_,?_,rfl⟩
      · by_cases e1 : m' = l <;> simp [Instr.sliceAt,Instr.slice,run_underlying' ht,h1,run_sizeOf' hz,Result.andThen,e1,add_at]
      · simp only [VR]
        refine .inr ⟨b,m' - l,ob,_,rfl,?_,ha,by omega,fun hq => ?_,fun hq hk' => ?_⟩
        · by_cases e1 : m' = l
          · have e2 : m = l := by omega
            simp only [e1,e2,if_true]
            rcases hoff with h | h
            · exact .inl h
            · right; omega
          · by_cases e2 : m = l
            · right; omega
            · simp only [e1,e2,if_false]
              rcases hoff with h | h
              · left; rw [h]
              · right; omega
        · simp only [Bool.or_eq_true] at hq
          rcases hq with h | h
          · have := hx h
            cases mx with
            | none => have := h3 rfl; omega
            | some x => have := h2 rfl; omega
          · have := h2 h; omega
        · simp only [Bool.or_eq_false_iff] at hq
          simp only [hq.1,Bool.false_or,beq_iff_eq] at hex
          subst hex
          have hmx : mx = none := by
            cases mx with
            | none => rfl
            | some x => simp at hq
          have h6 := h3 hmx
          have h7 := hy hq.1 hk'
          by_cases e1 : m' = l
          · simp only [e1,if_true,Nat.sub_self,Nat.zero_mul]
            omega
          · simp only [e1,if_false]
            obtain ⟨d,hd⟩ : ∃ d,m' = l + d := ⟨m' - l,by omega⟩
            rw [hd,Nat.add_sub_cancel_left]
            have : cap' * sz' = l * sz' + d * sz' := by rw [← Nat.add_mul,← hd,h6.1]
            omega
    · simp at h
  · simp at h
theorem op_cut (hs : StR L0 g H w σ a.tmps none) (hh : HeapR g H w) {t : TypeId} {x : Operand} {sx : SX} {lo hi mx : Option Operand} {sl sh sm : Option SX} (ho : o.op = .slice t x lo hi mx) (hx : rX x = some sx) (hl : rXo lo = some sl) (hhi : rXo hi = some sh) (hm : rXo mx = some sm) {k : CutK} {v : AV}
    (ht : (k = .str ∧ P.underlying t = some .string) ∨ (∃ e sz,k = .slice sz ∧ P.underlying t = some (.slice e) ∧ szOf P e = some sz))
    (h : cutA k (evalX σ sx) (sl.map (evalX σ)) (sh.map (evalX σ)) (sm.map (evalX σ)) = some v) :
    OpRuns P o a w (fun u w' => ∃ g',OpPost L0 g H w a.tmps o.dst v σ H u w' g') := by
  obtain ⟨h1,_⟩ := evalX_rel hs hx
  obtain ⟨r,hr,hv,hf⟩ := cutA_run (P := P) h ht h1 (rXo_rel hs hl) (rXo_rel hs hhi) (rXo_rel hs hm)
  exact pure_op hs hh (u := r) (by simp [execOp,ho,hr,Result.andThen]) hv (.inl hf)
theorem op_cutArr (hs : StR L0 g H w σ a.tmps none) (hh : HeapR g H w) {t e : TypeId} {n sz : Nat} {x : Operand} {sx : SX} {lo hi mx : Option Operand} {sl sh sm : Option SX} (ho : o.op = .slice t x lo hi mx) (hx : rX x = some sx) (hl : rXo lo = some sl) (hhi : rXo hi = some sh) (hm : rXo mx = some sm)
    (ht : P.underlying t = some (.array n e)) (hz : szOf P e = some sz) {r i k l h m : Nat} (hX : evalX σ sx = .ptr r i k)
    (hb : cutBounds n n (sl.map (evalX σ)) (sh.map (evalX σ)) (sm.map (evalX σ)) = some (l,h,m)) :
    OpRuns P o a w (fun u w' => ∃ g',OpPost L0 g H w a.tmps o.dst (.sl r (if m = l then i else i + l * sz) (h - l) (m - l) sz k true) σ H u w' g') := by
  obtain ⟨h1,_⟩ := evalX_rel hs hx
  rw [hX] at h1
  simp only [VR] at h1
  obtain ⟨b,ob,e1,ha⟩ := h1
  obtain ⟨m',h2,h3,h4,_⟩ := cutBounds_run (P := P) hb (rXo_rel hs hl) (rXo_rel hs hhi) (rXo_rel hs hm) (Nat.le_refl _) false
  obtain rfl : m' = m := by
    cases hsm : sm.map (evalX σ) with
    | none => have := h4 hsm; omega
    | some x => exact h3 (by rw [hsm]; rfl)
  refine pure_op hs hh (u := .slice (some ⟨b,(if m' = l then i else i + l * sz),none⟩) (h - l) (m' - l)) ?_ ?_ (.inl rfl)
  · by_cases e2 : m' = l <;> simp [execOp,ho,e1,Instr.sliceAt,run_underlying' ht,Instr.sureAddr,h2,run_sizeOf' hz,Result.andThen,e2,add_at]
  · simp only [VR]
    exact .inr ⟨b,_,ob,_,rfl,.inl rfl,ha,Nat.le_refl _,fun _ => rfl,fun h => by simp at h⟩
theorem one_val {X : AV} {u : Value} (h1 : X.one = true) (h : VR g H w X u) : oneV u = true := by
  cases X <;> first | (simp [AV.one] at h1; done) | skip
  case c x =>
    have := vr_c h; subst this
    cases u <;> first | rfl | (simp [AV.one] at h1)
  case ptr => simp only [VR] at h; obtain ⟨_,_,rfl,_⟩ := h; rfl
  case sl => simp only [VR] at h; rcases h with ⟨_,rfl,_⟩ | ⟨_,_,_,_,rfl,_⟩ <;> rfl
  case lptr => simp only [VR] at h; subst h; rfl
  case fn => simp only [VR] at h; obtain ⟨_,rfl,_⟩ := h; rfl
  case iface => simp only [VR] at h; obtain ⟨_,rfl,_⟩ := h; rfl
  case map => simp only [VR] at h
  case vs => simp only [VR] at h
  case vp => simp only [VR] at h
  case imm => simp only [VR] at h; obtain ⟨_,_,_,rfl,_⟩ := h; rfl
theorem cells_of_one {u : Value} (h : oneV u = true) : u.cells = #[u] := by
  cases u <;> first | rfl | (simp [oneV] at h)
theorem toCells_rel {X : AV} {u : Value} (hc : (toCells X).all okCell = true) (h : VR g H w X u) : VRs g H w (toCells X) u.cells.toList ∧ (∀ v ∈ u.cells.toList,oneV v = true) ∧ AV.freeAll (toCells X) = true := by
  have hfree : AV.freeAll (toCells X) = true := freeAll_iff.2 fun x hx => by
    have := List.all_eq_true.1 hc x hx
    simp [okCell] at this
    exact this.2
  by_cases hX : ∃ xs,X = .agg xs
  · obtain ⟨xs,rfl⟩ := hX
    simp only [VR] at h
    obtain ⟨vs,rfl,hvs⟩ := h
    simp only [toCells] at hc hfree ⊢
    refine ⟨hvs,fun v hv => ?_,hfree⟩
    obtain ⟨i,hi⟩ := List.mem_iff_getElem?.1 hv
    have hi' : vs.toList[i]? = some v := hi
    have hlen := vrs_length hvs
    have hlt : i < xs.length := by
      have := (List.getElem?_eq_some_iff.1 hi').1
      omega
    have hx : xs[i]? = some xs[i] := by simp [hlt]
    obtain ⟨v',hv',h2⟩ := vrs_get hvs hx
    rw [hi'] at hv'
    obtain rfl := Option.some.inj hv'
    have := List.all_eq_true.1 hc xs[i] (List.getElem_mem hlt)
    simp [okCell] at this
    exact one_val this.1 h2
  · have e : toCells X = [X] := by cases X <;> first | rfl | exact (hX ⟨_,rfl⟩).elim
    rw [e] at hc hfree ⊢
    simp [okCell] at hc
    have h1 := one_val hc.1 h
    rw [cells_of_one h1]
    refine ⟨by simp only [VRs]; exact ⟨u,[],rfl,h,rfl⟩,fun v hv => ?_,hfree⟩
    simp at hv; subst hv; exact h1
theorem over_toList : ∀ (vs : List Value) (c : Array Value) (i : Nat),i + vs.length ≤ c.size → (over c i vs).toList = c.toList.take i ++ vs ++ c.toList.drop (i + vs.length) := by
  intro vs c i h
  apply List.ext_getElem?
  intro j
  rw [Array.getElem?_toList,over_get vs c i j h]
  have hcs : c.toList.length = c.size := by simp
  by_cases h1 : j < i
  · rw [if_neg (by omega),List.append_assoc,List.getElem?_append_left (by simp; omega),List.getElem?_take_of_lt h1,Array.getElem?_toList]
  · by_cases h2 : j < i + vs.length
    · rw [if_pos ⟨by omega,h2⟩,List.append_assoc,List.getElem?_append_right (by simp; omega),List.getElem?_append_left (by simp; omega)]
      congr 1
      simp; omega
    · rw [if_neg (by omega),List.append_assoc,List.getElem?_append_right (by simp; omega),List.getElem?_append_right (by simp; omega),List.getElem?_drop,Array.getElem?_toList]
      congr 1
      simp; omega
theorem foldl_over : ∀ (l : List Value) (s : Nat) (c : Array Value) (off : Nat),(l.zipIdx s).foldl (fun cs (x : Value × Nat) => cs.setIfInBounds (off + x.2) x.1) c = over c (off + s) l
  | [],_,_,_ => rfl
  | v :: r,s,c,off => by
    simp only [List.zipIdx_cons,List.foldl_cons,over]
    rw [foldl_over r (s + 1)]
    rfl
theorem fill_rel {place : Nat → Option (Nat × Nat)} : ∀ (ps : List (Nat × Operand)) (sps : List (Nat × Nat × SX)) (cs : List AV) (zs : Array Value) (vs : List AV),rParts place ps = some sps → StR L0 g H w σ a.tmps none →
    VRs g H w cs zs.toList → AV.freeAll cs = true → placeAll cs (sps.map fun (o,k,x) => (o,k,evalX σ x)) = some vs →
    ∃ us,Instr.fill place zs (ps.map fun (i,x) => (i,a.eval x)) = some us ∧ VRs g H w vs us.toList ∧ AV.freeAll vs = true ∧ us.size = zs.size
  | [],sps,cs,zs,vs,h1,_,h3,h4,h5 => by
    simp [rParts] at h1
    subst h1
    simp [placeAll] at h5
    subst h5
    exact ⟨zs,by simp [Instr.fill],h3,h4,rfl⟩
  | (i,x) :: ps,sps,cs,zs,vs,h1,h2,h3,h4,h5 => by
    simp only [rParts,Option.bind_eq_some_iff,Option.map_eq_some_iff] at h1
    obtain ⟨⟨off,k⟩,hp,s,hs,l,hl,rfl⟩ := h1
    simp only [List.map_cons,placeAll] at h5
    split at h5
    · rename_i hc
      obtain ⟨hv,_⟩ := evalX_rel h2 hs
      obtain ⟨hc1,hc2,hc3⟩ := toCells_rel hc.2.2 hv
      have hlen := vrs_length hc1
      have hlz := vrs_length h3
      have hsz : (a.eval x).cells.size = k := by
        have : (a.eval x).cells.toList.length = (a.eval x).cells.size := by simp
        omega
      have hzs : zs.toList.length = zs.size := by simp
      have hrel : VRs g H w (cs.take off ++ toCells (evalX σ s) ++ cs.drop (off + k)) (over zs off (a.eval x).cells.toList).toList := by
        rw [over_toList _ _ _ (by simp; omega)]
        refine vrs_append (vrs_append (vrs_take h3 off) hc1) ?_
        have := vrs_drop h3 (off + k)
        simpa [hsz] using this
      have hfree : AV.freeAll (cs.take off ++ toCells (evalX σ s) ++ cs.drop (off + k)) = true := by
        rw [freeAll_append,freeAll_append,freeAll_take h4,hc3,freeAll_drop h4]; rfl
      obtain ⟨us,h6,h7,h8,h9⟩ := fill_rel ps l _ _ vs hl h2 hrel hfree h5
      refine ⟨us,?_,h7,h8,by rw [h9,over_size]⟩
      simp only [List.map_cons,Instr.fill,hp]
      have e1 : ¬ (((a.eval x).cells.size ≠ k || decide (off + (a.eval x).cells.size > zs.size)) = true) := by
        simp [hsz]; omega
      rw [if_neg e1]
      have e2 : (a.eval x).cells.zipIdx.foldl (fun cs (x : Value × Nat) => cs.setIfInBounds (off + x.2) x.1) zs = over zs off (a.eval x).cells.toList := by
        rw [← Array.foldl_toList,Array.toList_zipIdx,foldl_over]
        rfl
      have e3 : (a.eval x).cells.zipIdx.foldl (fun cs (x,j) => cs.setIfInBounds (off + j) x) zs = over zs off (a.eval x).cells.toList := e2
      rw [e3]
      exact h6
    · simp at h5
end
end Go.A
