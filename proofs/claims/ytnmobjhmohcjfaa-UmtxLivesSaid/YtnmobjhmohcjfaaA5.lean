/- THE ABSTRACT MACHINE: operations without memory. -/
import Derived.Test.YtnmobjhmohcjfaaA4
set_option linter.unusedSimpArgs false
set_option linter.unusedVariables false
set_option linter.unnecessarySimpa false
namespace Go.A
open Go
variable {P : Program}
section
variable {L0 : Nat → Prop} {g : G} {H : Heap} {w : World} {σ : List AV} {a : Act} {o : Oper}
theorem op_chk (hs : StR L0 g H w σ a.tmps none) (hh : HeapR g H w) {x : Operand} {sx : SX} (ho : o.op = .nilCheck x) (hx : rX x = some sx) {v : AV}
    (hv : (∃ r i k,evalX σ sx = .ptr r i k ∧ v = .ptr r i k) ∨ (∃ d i,evalX σ sx = .lptr d i ∧ v = .lptr d i) ∨ (∃ f cs,evalX σ sx = .fn f cs ∧ v = .fn f cs) ∨ (∃ t y,evalX σ sx = .iface t y ∧ v = .iface t y)) :
    OpRuns P o a w (fun u w' => ∃ g',OpPost L0 g H w a.tmps o.dst v σ H u w' g') := by
  obtain ⟨h1,h2⟩ := evalX_rel hs hx
  have hev : evalX σ sx = v := by
    rcases hv with ⟨r,i,k,e,rfl⟩ | ⟨d,i,e,rfl⟩ | ⟨f,cs,e,rfl⟩ | ⟨t,y,e,rfl⟩ <;> exact e
  rw [hev] at h1 h2
  refine pure_op hs hh (u := a.eval x) ?_ h1 h2
  rcases hv with ⟨r,i,k,e,rfl⟩ | ⟨d,i,e,rfl⟩ | ⟨f,cs,e,rfl⟩ | ⟨t,y,e,rfl⟩
  · simp only [VR] at h1
    obtain ⟨b,ob,e1,_⟩ := h1
    simp [execOp,ho,e1]
  · simp only [VR] at h1
    simp [execOp,ho,h1]
  · simp only [VR] at h1
    obtain ⟨vs,e1,_⟩ := h1
    simp [execOp,ho,e1]
  · simp only [VR] at h1
    obtain ⟨u,e1,_⟩ := h1
    simp [execOp,ho,e1]
theorem unA_run {op : UnOp} {X v : AV} {u : Value} (h : unA op X = some v) (hu : VR g H w X u) : ∃ r,(Op.unary op u).run P w = .ok r w ∧ VR g H w v r ∧ v.free = true := by
  unfold unA at h
  split at h
  · obtain rfl := Option.some.inj h
    have := vr_c hu
    subst this
    exact ⟨_,by simp [Op.unary,Op.intArith]; rfl,by simp [VR],rfl⟩
  · have := vr_c hu
    subst this
    simp only [intBin,Option.some.injEq] at h
    subst h
    exact ⟨_,by simp [Op.unary,Op.intBits]; rfl,by simp [VR],rfl⟩
  · obtain rfl := Option.some.inj h
    have := vr_c hu
    subst this
    exact ⟨_,by simp [Op.unary]; rfl,by simp [VR],rfl⟩
  · simp at h
theorem op_un (hs : StR L0 g H w σ a.tmps none) (hh : HeapR g H w) {op : UnOp} {t : TypeId} {x : Operand} {sx : SX} (ho : o.op = .unOp op t x) (hx : rX x = some sx) {v : AV} (h : unA op (evalX σ sx) = some v) :
    OpRuns P o a w (fun u w' => ∃ g',OpPost L0 g H w a.tmps o.dst v σ H u w' g') := by
  obtain ⟨h1,h2⟩ := evalX_rel hs hx
  obtain ⟨r,hr,hv,hf⟩ := unA_run (P := P) h h1
  exact pure_op hs hh (u := r) (by simp [execOp,ho,hr,Result.andThen]) hv (.inl hf)
theorem intBin_run {op : BinOp} {k : IntKind} {x y : Int} {v : AV} (h : intBin op k x y = some v) (t : TypeId) (hsh : op ≠ .shl ∧ op ≠ .shr) : ∃ r,(binOp op t (.int k x) (.int k y)).run P w = .ok r w ∧ VR g H w v r ∧ v.free = true := by
  cases op <;> simp only [intBin,Option.some.injEq] at h <;> first
    | (subst h; exact ⟨_,by simp [binOp,Op.intArith,Op.intBits,Op.intCmp]; rfl,by simp [VR],rfl⟩)
    | (split at h
       · simp at h
       · rename_i h0
         obtain rfl := Option.some.inj h
         exact ⟨_,by simp [binOp,Op.intDiv,h0]; rfl,by simp [VR],rfl⟩)
    | (exact (hsh.1 rfl).elim)
    | (exact (hsh.2 rfl).elim)
    | (simp at h)
theorem strBin_run {op : BinOp} {x y : ByteArray} {v : AV} (h : strBin op x y = some v) (t : TypeId) : ∃ r,(binOp op t (.string x) (.string y)).run P w = .ok r w ∧ VR g H w v r ∧ v.free = true := by
  cases op <;> simp only [strBin,Option.some.injEq] at h <;> first
    | (split at h
       · rename_i h0
         obtain rfl := Option.some.inj h
         have h1 : ¬ (((x.size + y.size : Nat) : Int) > IntKind.i64.max) := by
           simp [IntKind.max,IntKind.bits,IntKind.signed]; omega
         exact ⟨_,by simp only [binOp,Op.stringOp]; rw [if_neg h1]; rfl,by simp [VR],rfl⟩
       · simp at h)
    | (subst h; exact ⟨_,by simp [binOp,Op.stringOp]; rfl,by simp [VR],rfl⟩)
    | (simp at h)
theorem part_one {t : TypeId} (h : kOf P t = some none) {cs : Array Value} {i : Nat} {v : Value} (hv : cs[i]? = some v) : (part t cs i).run P w = .ok v w := by
  simp [part,(kOf_none h).2,Result.andThen,hv]
theorem bk_kOf {t : TypeId} {k : BK} (hb : bkOf P t = some k) (hz : szOf P t = some 1) : kOf P t = some none := by
  unfold bkOf at hb
  unfold szOf at hz
  obtain ⟨i,hi,h1⟩ := Option.map_eq_some_iff.1 hz
  unfold kOf
  split at hb <;> first
    | (rename_i hu; rw [hi,hu]; simp [h1]; done)
    | (rename_i k hu; rw [hi,hu]; simp [h1]; done)
    | simp at hb
theorem eqScalar_run {k : BK} {X Y : AV} {b : Bool} (h : eqScalar k X Y = some b) {t : TypeId} (ht : bkOf P t = some k) {u v : Value} (hu : VR g H w X u) (hv : VR g H w Y v) (d : Nat) :
    (Op.equalIn (d + 1) t u v).run P w = .ok b w := by
  unfold bkOf at ht
  unfold eqScalar at h
  split at h
  · have := vr_c hu; have := vr_c hv
    subst_vars
    split at h
    · rename_i hk
      subst hk
      obtain rfl := Option.some.inj h
      split at ht <;> first
        | (rename_i k hun; simp [Op.equalIn,run_underlying' hun,Result.andThen]; done)
        | simp at ht
    · simp at h
  · have := vr_c hu; have := vr_c hv
    subst_vars
    obtain rfl := Option.some.inj h
    split at ht <;> first
      | (rename_i hun; simp [Op.equalIn,run_underlying' hun,Result.andThen]; done)
      | simp at ht
  · have := vr_c hu; have := vr_c hv
    subst_vars
    obtain rfl := Option.some.inj h
    split at ht <;> first
      | (rename_i hun; simp [Op.equalIn,run_underlying' hun,Result.andThen]; done)
      | simp at ht
  · simp at h
theorem eqFields_run {body : Field → Option Bool × Unit → Sem (ForInStep (Option Bool × Unit))} {xs ys : List AV} :
    ∀ (fs : List Field) (i : Nat) (ks : List BK) (b : Bool),fieldKs P fs i = some ks → eqAll ks (xs.drop i) (ys.drop i) = some b →
    (∀ (f : Field) (k : BK) (x y : AV) (c : Bool),f.name ≠ "_" → szOf P f.type = some 1 → bkOf P f.type = some k → xs[f.offset]? = some x → ys[f.offset]? = some y → eqScalar k x y = some c →
      (body f (none,())).run P w = .ok (if c = true then .yield (none,()) else .done (some false,())) w) →
    Sem.run P (forIn fs (none,()) body) w = .ok (if b = true then (none,()) else (some false,())) w
  | [],i,ks,b,hk,he,_ => by
    simp only [fieldKs,Option.some.injEq] at hk
    subst hk
    cases h1 : xs.drop i <;> cases h2 : ys.drop i <;> rw [h1,h2] at he <;> simp [eqAll] at he
    subst he
    simp
  | f :: fs,i,ks,b,hk,he,hb => by
    simp only [fieldKs] at hk
    split at hk
    · rename_i hf
      obtain ⟨hn,ho,hz⟩ := hf
      obtain ⟨k,hk1,hk2⟩ := Option.bind_eq_some_iff.1 hk
      obtain ⟨ks',hk3,rfl⟩ := Option.map_eq_some_iff.1 hk2
      cases h1 : xs.drop i with
      | nil => rw [h1] at he; simp [eqAll] at he
      | cons x xr =>
        cases h2 : ys.drop i with
        | nil => rw [h1,h2] at he; simp [eqAll] at he
        | cons y yr =>
          rw [h1,h2] at he
          simp only [eqAll] at he
          have hx : xs[f.offset]? = some x := by
            have := congrArg (·[0]?) h1
            simpa [List.getElem?_drop,ho] using this
          have hy : ys[f.offset]? = some y := by
            have := congrArg (·[0]?) h2
            simpa [List.getElem?_drop,ho] using this
          have hxr : xs.drop (i + 1) = xr := by rw [← List.drop_drop,h1]; rfl
          have hyr : ys.drop (i + 1) = yr := by rw [← List.drop_drop,h2]; rfl
          cases hc : eqScalar k x y with
          | none => rw [hc] at he; simp at he
          | some c =>
            rw [hc] at he
            have hbody := hb f k x y c hn hz hk1 hx hy hc
            simp only [List.forIn_cons,Sem.run_bind,hbody,Result.andThen]
            cases c with
            | false =>
              simp only [Option.some.injEq] at he
              subst he
              simp
            | true =>
              simp only [if_true]
              exact eqFields_run fs (i + 1) ks' b hk3 (by rw [hxr,hyr]; exact he) hb
    · simp at hk
theorem eqv_run {t : TypeId} {X Y : AV} {b : Bool} (h : eqv (eqKOf P t) X Y = some b) {u v : Value} (hu : VR g H w X u) (hv : VR g H w Y v) (x y : Operand) (op : BinOp) :
    (Op.equal t u v).run P w = .ok b w ∧ (eqGuard op t x y u v).run P w = .ok () w := by
  have hd : Op.maxDepth = 9998 + 2 := rfl
  unfold Op.equal
  rw [hd]
  generalize hek : eqKOf P t = ek at h
  unfold eqKOf at hek
  unfold eqv at h
  split at h
  ·
    have := vr_c hu; have := vr_c hv; subst_vars
    obtain rfl := Option.some.inj h
    split at hek <;> try (first | (simp at hek; done) | (split at hek <;> first | (simp at hek; done) | (split at hek <;> simp at hek)))
    rename_i hun
    refine ⟨?_,by cases op <;> simp [eqGuard]⟩
    unfold Op.equalIn
    simp [run_underlying' hun,Result.andThen]
  · have := vr_c hu; have := vr_c hv; subst_vars
    obtain rfl := Option.some.inj h
    split at hek <;> try (first | (simp at hek; done) | (split at hek <;> first | (simp at hek; done) | (split at hek <;> simp at hek; done)))
    rename_i e hun
    refine ⟨?_,by cases op <;> simp [eqGuard]⟩
    unfold Op.equalIn
    simp [run_underlying' hun,Result.andThen]
  · have := vr_c hv; subst_vars
    simp only [VR] at hu
    obtain ⟨_,_,rfl,_⟩ := hu
    obtain rfl := Option.some.inj h
    split at hek <;> try (first | (simp at hek; done) | (split at hek <;> first | (simp at hek; done) | (split at hek <;> simp at hek; done)))
    rename_i e hun
    refine ⟨?_,by cases op <;> simp [eqGuard]⟩
    unfold Op.equalIn
    simp [run_underlying' hun,Result.andThen]
  · have := vr_c hu; subst_vars
    simp only [VR] at hv
    obtain ⟨_,_,rfl,_⟩ := hv
    obtain rfl := Option.some.inj h
    split at hek <;> try (first | (simp at hek; done) | (split at hek <;> first | (simp at hek; done) | (split at hek <;> simp at hek; done)))
    rename_i e hun
    refine ⟨?_,by cases op <;> simp [eqGuard]⟩
    unfold Op.equalIn
    simp [run_underlying' hun,Result.andThen]
  · have := vr_c hu; have := vr_c hv; subst_vars
    obtain rfl := Option.some.inj h
    split at hek <;> try (first | (simp at hek; done) | (split at hek <;> first | (simp at hek; done) | (split at hek <;> simp at hek; done)))
    rename_i e hun
    refine ⟨?_,by cases op <;> simp [eqGuard]⟩
    unfold Op.equalIn
    simp [run_underlying' hun,Result.andThen]
  · have := vr_c hv; subst_vars
    simp only [VR] at hu
    obtain ⟨aa,ll,cc,rfl⟩ : ∃ (aa : Addr) (ll cc : Nat),u = .slice (some aa) ll cc := by rcases hu with ⟨x,h,_⟩ | ⟨b,c,_,o,h,_⟩ <;> exact ⟨_,_,_,h⟩
    obtain rfl := Option.some.inj h
    split at hek <;> try (first | (simp at hek; done) | (split at hek <;> first | (simp at hek; done) | (split at hek <;> simp at hek; done)))
    rename_i e hun
    refine ⟨?_,by cases op <;> simp [eqGuard]⟩
    unfold Op.equalIn
    simp [run_underlying' hun,Result.andThen]
  · have := vr_c hu; subst_vars
    simp only [VR] at hv
    obtain ⟨aa,ll,cc,rfl⟩ : ∃ (aa : Addr) (ll cc : Nat),v = .slice (some aa) ll cc := by rcases hv with ⟨x,h,_⟩ | ⟨b,c,_,o,h,_⟩ <;> exact ⟨_,_,_,h⟩
    obtain rfl := Option.some.inj h
    split at hek <;> try (first | (simp at hek; done) | (split at hek <;> first | (simp at hek; done) | (split at hek <;> simp at hek; done)))
    rename_i e hun
    refine ⟨?_,by cases op <;> simp [eqGuard]⟩
    unfold Op.equalIn
    simp [run_underlying' hun,Result.andThen]
  ·
    rename_i ks xs ys
    simp only [VR] at hu hv
    obtain ⟨cs,rfl,hxs⟩ := hu
    obtain ⟨ds,rfl,hys⟩ := hv
    split at h
    · rename_i hl
      split at hek <;> try (first | (simp at hek; done) | (split at hek <;> first | (simp at hek; done) | (split at hek <;> simp at hek; done)))
      rename_i fs hun
      split at hek
      · rename_i hst
        split at hek
        · rename_i ks' hks
          simp only [EqK.agg.injEq] at hek
          subst hek
          refine ⟨?_,?_⟩
          · unfold Op.equalIn
            simp only [Sem.run_bind,run_underlying' hun,Result.andThen]
            simp only [program,Sem.run,hst.1,Bool.false_eq_true,if_false,Sem.run_bind,Result.andThen]
            have := eqFields_run (P := P) (w := w) (xs := xs) (ys := ys) (body := fun f _ => do
                if f.name ≠ "_" then
                  if !(← Op.equalIn (9998 + 1) f.type (← part f.type cs f.offset) (← part f.type ds f.offset)) then pure (ForInStep.done (some false,()))
                  else do pure PUnit.unit; pure (ForInStep.yield (none,()))
                else do pure PUnit.unit; pure (ForInStep.yield (none,()))) fs.toList 0 ks' b hks (by simpa using h) (by
              intro f k x y c hn hz hk hx hy hc
              obtain ⟨vx,hvx,hx'⟩ := vrs_get hxs hx
              obtain ⟨vy,hvy,hy'⟩ := vrs_get hys hy
              have h1 := part_one (P := P) (w := w) (bk_kOf hk hz) (cs := cs) (i := f.offset) (by simpa using hvx)
              have h2 := part_one (P := P) (w := w) (bk_kOf hk hz) (cs := ds) (i := f.offset) (by simpa using hvy)
              have h3 := eqScalar_run (P := P) hc hk hx' hy' 9998
              simp only [hn,ne_eq,not_false_eq_true,if_true,Sem.run_bind,h1,h2,h3,Result.andThen]
              cases c <;> simp)
            simp only [← Array.forIn_toList]
            rw [show (9999 : Nat) = 9998 + 1 from rfl,this]
            cases b <;> simp
          · cases op <;> simp [eqGuard,program,Sem.run,hst.2]
        · simp at hek
      · simp at hek
    · simp at h
  · simp at h
end
end Go.A
