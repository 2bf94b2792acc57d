/- THE ABSTRACT MACHINE: operations without memory, further. -/
import Derived.Test.YtnmobjhmohcjfaaA5
set_option linter.unusedSimpArgs false
set_option linter.unusedVariables false
set_option linter.unnecessarySimpa false
namespace Go.A
open Go
variable {P : Program}
section
variable {L0 : Nat → Prop} {g : G} {H : Heap} {w : World} {σ : List AV} {a : Act} {o : Oper}
theorem binA_run {op : BinOp} {t : TypeId} {X Y v : AV} (h : binA op (eqKOf P t) X Y = some v) {u u' : Value} (hu : VR g H w X u) (hv : VR g H w Y u') (x y : Operand) :
  ∃ r,(eqGuard op t x y u u').run P w = .ok () w ∧ (binOp op t u u').run P w = .ok r w ∧ VR g H w v r ∧ v.free = true := by
 unfold binA at h
 split at h
 ·have := vr_c hu; have := vr_c hv; subst_vars
  split at h
  ·simp at h
  ·rename_i hb
   obtain rfl := Option.some.inj h
   exact ⟨_,by simp [eqGuard],by simp [binOp,Op.shift,hb]; rfl,by simp [VR],rfl⟩
 ·have := vr_c hu; have := vr_c hv; subst_vars
  split at h
  ·simp at h
  ·rename_i hb
   obtain rfl := Option.some.inj h
   exact ⟨_,by simp [eqGuard],by simp [binOp,Op.shift,hb]; rfl,by simp [VR],rfl⟩
 ·rename_i k n k' m hn1 hn2
  have := vr_c hu; have := vr_c hv; subst_vars
  split at h
  ·rename_i hk
   subst hk
   have hsh : op ≠ .shl ∧ op ≠ .shr := by
    constructor <;> (intro e; subst e; simp [intBin] at h)
   obtain ⟨r,h1,h2,h3⟩ := intBin_run (P := P) (g := g) (H := H) (w := w) h t hsh
   exact ⟨r,by cases op <;> simp [eqGuard],h1,h2,h3⟩
  ·simp at h
 ·have := vr_c hu; have := vr_c hv; subst_vars
  obtain ⟨r,h1,h2,h3⟩ := strBin_run (P := P) (g := g) (H := H) (w := w) h t
  exact ⟨r,by cases op <;> simp [eqGuard],h1,h2,h3⟩
 ·rename_i hn1 hn2
  obtain ⟨b,hb,rfl⟩ := Option.map_eq_some_iff.1 h
  obtain ⟨h1,h2⟩ := eqv_run (P := P) hb hu hv x y .eql
  refine ⟨.bool b,h2,?_,by simp [VR],rfl⟩
  unfold eqv at hb
  split at hb <;> first
   | (have := vr_c hu; have := vr_c hv; subst_vars; simp [binOp,h1,Result.andThen]; done)
   | (have := vr_c hv; subst_vars; simp only [VR] at hu; obtain ⟨_,_,rfl,_⟩ := hu; simp [binOp,h1,Result.andThen]; done)
   | (have := vr_c hu; subst_vars; simp only [VR] at hv; obtain ⟨_,_,rfl,_⟩ := hv; simp [binOp,h1,Result.andThen]; done)
   | (have := vr_c hv; subst_vars; simp only [VR] at hu; rcases hu with ⟨_,rfl,_⟩ | ⟨_,_,_,_,rfl,_⟩ <;> (simp [binOp,h1,Result.andThen]; done))
   | (have := vr_c hu; subst_vars; simp only [VR] at hv; rcases hv with ⟨_,rfl,_⟩ | ⟨_,_,_,_,rfl,_⟩ <;> (simp [binOp,h1,Result.andThen]; done))
   | (simp only [VR] at hu hv; obtain ⟨_,rfl,_⟩ := hu; obtain ⟨_,rfl,_⟩ := hv; simp [binOp,h1,Result.andThen]; done)
   | simp at hb
 ·rename_i hn1 hn2
  obtain ⟨b,hb,rfl⟩ := Option.map_eq_some_iff.1 h
  obtain ⟨h1,h2⟩ := eqv_run (P := P) hb hu hv x y .neq
  refine ⟨.bool !b,h2,?_,by simp [VR],rfl⟩
  unfold eqv at hb
  split at hb <;> first
   | (have := vr_c hu; have := vr_c hv; subst_vars; simp [binOp,h1,Result.andThen]; done)
   | (have := vr_c hv; subst_vars; simp only [VR] at hu; obtain ⟨_,_,rfl,_⟩ := hu; simp [binOp,h1,Result.andThen]; done)
   | (have := vr_c hu; subst_vars; simp only [VR] at hv; obtain ⟨_,_,rfl,_⟩ := hv; simp [binOp,h1,Result.andThen]; done)
   | (have := vr_c hv; subst_vars; simp only [VR] at hu; rcases hu with ⟨_,rfl,_⟩ | ⟨_,_,_,_,rfl,_⟩ <;> (simp [binOp,h1,Result.andThen]; done))
   | (have := vr_c hu; subst_vars; simp only [VR] at hv; rcases hv with ⟨_,rfl,_⟩ | ⟨_,_,_,_,rfl,_⟩ <;> (simp [binOp,h1,Result.andThen]; done))
   | (simp only [VR] at hu hv; obtain ⟨_,rfl,_⟩ := hu; obtain ⟨_,rfl,_⟩ := hv; simp [binOp,h1,Result.andThen]; done)
   | simp at hb
 ·simp at h
theorem op_bin (hs : StR L0 g H w σ a.tmps none) (hh : HeapR g H w) {op : BinOp} {t t' : TypeId} {x y : Operand} {sx sy : SX} (ho : o.op = .binOp op t x y t') (hx : rX x = some sx) (hy : rX y = some sy) {v : AV} (h : binA op (eqKOf P t) (evalX σ sx) (evalX σ sy) = some v) :
  OpRuns P o a w (fun u w' => ∃ g',OpPost L0 g H w a.tmps o.dst v σ H u w' g') := by
 obtain ⟨h1,_⟩ := evalX_rel hs hx
 obtain ⟨h2,_⟩ := evalX_rel hs hy
 obtain ⟨r,hr1,hr2,hv,hf⟩ := binA_run (P := P) h h1 h2 x y
 exact pure_op hs hh (u := r) (by simp [execOp,ho,hr1,hr2,Result.andThen]) hv (.inl hf)
theorem op_convInt (hs : StR L0 g H w σ a.tmps none) (hh : HeapR g H w) {s d : TypeId} {x : Operand} {sx : SX} (ho : o.op = .convert s d x) (hx : rX x = some sx) {ds : TypeDesc} {k k' : IntKind} {n : Int} (hsu : P.underlying s = some ds) (hdu : P.underlying d = some (.int k)) (h : evalX σ sx = .c (.int k' n)) :
  OpRuns P o a w (fun u w' => ∃ g',OpPost L0 g H w a.tmps o.dst (.c (.int k (k.wrap n))) σ H u w' g') := by
 obtain ⟨h1,_⟩ := evalX_rel hs hx
 rw [h] at h1
 have h1 := vr_c h1
 exact pure_op hs hh (u := .int k (k.wrap n)) (by simp [execOp,ho,h1,convert,run_underlying' hsu,run_underlying' hdu,Conv.intToInt,Result.andThen]) (by simp [VR]) (.inl rfl)
theorem op_convSame (hs : StR L0 g H w σ a.tmps none) (hh : HeapR g H w) {s d : TypeId} {x : Operand} {sx : SX} (ho : o.op = .convert s d x) (hx : rX x = some sx) {b : ByteArray} (hsu : P.underlying s = some .string) (hdu : P.underlying d = some .string) (h : evalX σ sx = .c (.string b)) :
  OpRuns P o a w (fun u w' => ∃ g',OpPost L0 g H w a.tmps o.dst (.c (.string b)) σ H u w' g') := by
 obtain ⟨h1,_⟩ := evalX_rel hs hx
 rw [h] at h1
 have h1 := vr_c h1
 exact pure_op hs hh (u := .string b) (by simp [execOp,ho,h1,convert,run_underlying' hsu,run_underlying' hdu,Result.andThen]) (by simp [VR]) (.inl rfl)
theorem op_ext (hs : StR L0 g H w σ a.tmps none) (hh : HeapR g H w) {i : Nat} {x : Operand} {sx : SX} (ho : o.op = .extract x i) (hx : rX x = some sx) {xs : List AV} {v : AV} (h : evalX σ sx = .tup xs) (hv : xs[i]? = some v) :
  OpRuns P o a w (fun u w' => ∃ g',OpPost L0 g H w a.tmps o.dst v σ H u w' g') := by
 obtain ⟨h1,h2⟩ := evalX_rel hs hx
 rw [h] at h1 h2
 simp only [VR] at h1
 obtain ⟨vs,e,hvs⟩ := h1
 obtain ⟨u,hu,hvu⟩ := vrs_get hvs hv
 have hf : AV.freeAll xs = true := by
  rcases h2 with h2 | h2
  ·simpa [AV.free] using h2
  ·simp [AV.isL] at h2
 exact pure_op hs hh (u := u) (by simp [execOp,ho,e,Instr.extract]; simp at hu; simp [hu]) hvu (.inl (free_get hf hv))
theorem op_faddr (hs : StR L0 g H w σ a.tmps none) (hh : HeapR g H w) {s : TypeId} {f : Nat} {x : Operand} {sx : SX} (ho : o.op = .fieldAddr s x f) (hx : rX x = some sx) {fs : Array Field} {fd : Field} {k : Nat} (hsu : P.underlying s = some (.struct fs)) (hfd : fs[f]? = some fd) (hk : szOf P fd.type = some k) (hk0 : k ≠ 0) {v : AV}
  (h : (∃ r i k,evalX σ sx = .ptr r i k ∧ v = .ptr r (i + fd.offset) k) ∨ (∃ d i,evalX σ sx = .lptr d i ∧ v = .lptr d (i + fd.offset))) :
  OpRuns P o a w (fun u w' => ∃ g',OpPost L0 g H w a.tmps o.dst v σ H u w' g') := by
 obtain ⟨h1,h2⟩ := evalX_rel hs hx
 rcases h with ⟨r,i,k',e,rfl⟩ | ⟨d,i,e,rfl⟩
 ·rw [e] at h1
  simp only [VR] at h1
  obtain ⟨b,ob,e1,ha⟩ := h1
  exact pure_op hs hh (u := .pointer (some ⟨b,i + fd.offset,none⟩)) (by simp [execOp,ho,e1,Instr.fieldAt,run_underlying' hsu,hfd,Instr.sureAddr,fieldPlace,run_sizeOf' hk,hk0,Result.andThen,add_at]) (by simp only [VR]; exact ⟨b,ob,rfl,ha⟩) (.inl rfl)
 ·rw [e] at h1
  simp only [VR] at h1
  exact pure_op hs hh (u := .pointer (some ⟨g.γ d,i + fd.offset,none⟩)) (by simp [execOp,ho,h1,Instr.fieldAt,run_underlying' hsu,hfd,Instr.sureAddr,fieldPlace,run_sizeOf' hk,hk0,Result.andThen,add_at]) (by simp only [VR]) (.inr rfl)
theorem part_run {t : TypeId} {k : Option Nat} (hk : kOf P t = some k) {xs : List AV} {cs : Array Value} (hr : VRs g H w xs cs.toList) (hf : AV.freeAll xs = true) {i : Nat} {v : AV} (h : fromCells k xs i = some v) :
  ∃ u,(part t cs i).run P w = .ok u w ∧ VR g H w v u ∧ v.free = true := by
 cases k with
 | none =>
  simp only [fromCells] at h
  obtain ⟨u,hu,hv⟩ := vrs_get hr h
  exact ⟨u,part_one hk (by simpa using hu),hv,free_get hf h⟩
 | some n =>
  simp only [fromCells] at h
  split at h
  ·rename_i hl
   obtain rfl := Option.some.inj h
   obtain ⟨hz,hg⟩ := kOf_some hk
   refine ⟨.agg (cs.extract i (i + n)),by simp [part,hg,run_sizeOf' hz,Result.andThen],?_,?_⟩
   ·simp only [VR]
    refine ⟨_,rfl,?_⟩
    have := vrs_take (vrs_drop hr i) n
    rw [Array.toList_extract]
    simpa [List.extract_eq_take_drop] using this
   ·simp only [AV.free]
    exact freeAll_take (freeAll_drop hf i) n
  ·simp at h
theorem op_fld (hs : StR L0 g H w σ a.tmps none) (hh : HeapR g H w) {t : TypeId} {f : Nat} {x : Operand} {sx : SX} (ho : o.op = .field t x f) (hx : rX x = some sx) {fs : Array Field} {fd : Field} {k : Option Nat} (hsu : P.underlying t = some (.struct fs)) (hfd : fs[f]? = some fd) (hk : kOf P fd.type = some k) {xs : List AV} {v : AV} (h : evalX σ sx = .agg xs) (hv : fromCells k xs fd.offset = some v) :
  OpRuns P o a w (fun u w' => ∃ g',OpPost L0 g H w a.tmps o.dst v σ H u w' g') := by
 obtain ⟨h1,h2⟩ := evalX_rel hs hx
 rw [h] at h1 h2
 simp only [VR] at h1
 obtain ⟨cs,e,hcs⟩ := h1
 have hf : AV.freeAll xs = true := by
  rcases h2 with h2 | h2
  ·simpa [AV.free] using h2
  ·simp [AV.isL] at h2
 obtain ⟨u,hu,hvu,hfv⟩ := part_run (P := P) hk hcs hf hv
 exact pure_op hs hh (u := u) (by simp [execOp,ho,e,Instr.field,run_underlying' hsu,hfd,asAgg,hu,Result.andThen]) hvu (.inl hfv)
theorem op_iaddr (hs : StR L0 g H w σ a.tmps none) (hh : HeapR g H w) {t : TypeId} {x i : Operand} {sx si : SX} (ho : o.op = .indexAddr t x i) (hx : rX x = some sx) (hi : rX i = some si) {e : TypeId} {sz : Nat} {arr : Option Nat}
  (ht : (∃ n,arr = some n ∧ P.underlying t = some (.array n e)) ∨ (arr = none ∧ P.underlying t = some (.slice e))) (hz : szOf P e = some sz) {k : IntKind} {j : Int} (hj : evalX σ si = .c (.int k j)) (hj0 : 0 ≤ j) {v : AV}
  (h : (∃ r off len cap sz' gn ex,evalX σ sx = .sl r off len cap sz' gn ex ∧ arr = none ∧ j < len ∧ v = .ptr r (off + j.toNat * sz) gn) ∨
   (∃ r of_ gn n,evalX σ sx = .ptr r of_ gn ∧ arr = some n ∧ j < (n : Nat) ∧ v = .ptr r (of_ + j.toNat * sz) gn) ∨ (∃ d of_ n,evalX σ sx = .lptr d of_ ∧ arr = some n ∧ j < (n : Nat) ∧ v = .lptr d (of_ + j.toNat * sz))) :
  OpRuns P o a w (fun u w' => ∃ g',OpPost L0 g H w a.tmps o.dst v σ H u w' g') := by
 obtain ⟨h1,_⟩ := evalX_rel hs hx
 obtain ⟨h2,_⟩ := evalX_rel hs hi
 rw [hj] at h2
 have h2 := vr_c h2
 rcases h with ⟨r,off,len,cap,sz',gn,ex,ex1,rfl,hlt,rfl⟩ | ⟨r,of_,gn,n,ex1,rfl,hlt,rfl⟩ | ⟨d,of_,n,ex1,rfl,hlt,rfl⟩
 ·rcases ht with ⟨n,hn,_⟩ | ⟨_,hsu⟩
  ·simp at hn
  rw [ex1] at h1
  simp only [VR] at h1
  rcases h1 with ⟨_,_,h0,_⟩ | ⟨b,cap',ob,off',e1,hoff,ha,_⟩
  ·omega
  obtain rfl : off' = off := by
   rcases hoff with h | h
   ·exact h
   ·omega
  exact pure_op hs hh (u := .pointer (some ⟨b,off' + j.toNat * sz,none⟩)) (by simp [execOp,ho,e1,h2,Instr.indexAt,asIntOf,run_underlying' hsu,run_sizeOf' hz,hj0,hlt,Result.andThen,add_at]) (by simp only [VR]; exact ⟨b,ob,rfl,ha⟩) (.inl rfl)
 ·obtain hsu : P.underlying t = some (.array n e) := by
   rcases ht with ⟨n',hn,hsu⟩ | ⟨hn,_⟩
   ·obtain rfl := Option.some.inj hn; exact hsu
   ·simp at hn
  rw [ex1] at h1
  simp only [VR] at h1
  obtain ⟨b,ob,e1,ha⟩ := h1
  exact pure_op hs hh (u := .pointer (some ⟨b,of_ + j.toNat * sz,none⟩)) (by simp [execOp,ho,e1,h2,Instr.indexAt,asIntOf,Instr.sureAddr,run_underlying' hsu,run_sizeOf' hz,hj0,hlt,Result.andThen,add_at]) (by simp only [VR]; exact ⟨b,ob,rfl,ha⟩) (.inl rfl)
 ·obtain hsu : P.underlying t = some (.array n e) := by
   rcases ht with ⟨n',hn,hsu⟩ | ⟨hn,_⟩
   ·obtain rfl := Option.some.inj hn; exact hsu
   ·simp at hn
  rw [ex1] at h1
  simp only [VR] at h1
  exact pure_op hs hh (u := .pointer (some ⟨g.γ d,of_ + j.toNat * sz,none⟩)) (by simp [execOp,ho,h1,h2,Instr.indexAt,asIntOf,Instr.sureAddr,run_underlying' hsu,run_sizeOf' hz,hj0,hlt,Result.andThen,add_at]) (by simp only [VR]) (.inr rfl)
theorem op_idxArr (hs : StR L0 g H w σ a.tmps none) (hh : HeapR g H w) {t : TypeId} {x i : Operand} {sx si : SX} (ho : o.op = .index t x i) (hx : rX x = some sx) (hi : rX i = some si) {e : TypeId} {n sz : Nat} {kk : Option Nat}
  (hsu : P.underlying t = some (.array n e)) (hz : szOf P e = some sz) (hk : kOf P e = some kk) {k : IntKind} {j : Int} (hj : evalX σ si = .c (.int k j)) (hj0 : 0 ≤ j) (hjn : j < n) {xs : List AV} {v : AV} (h : evalX σ sx = .agg xs) (hv : fromCells kk xs (j.toNat * sz) = some v) :
  OpRuns P o a w (fun u w' => ∃ g',OpPost L0 g H w a.tmps o.dst v σ H u w' g') := by
 obtain ⟨h1,h3⟩ := evalX_rel hs hx
 obtain ⟨h2,_⟩ := evalX_rel hs hi
 rw [hj] at h2
 have h2 := vr_c h2
 rw [h] at h1 h3
 simp only [VR] at h1
 obtain ⟨cs,e1,hcs⟩ := h1
 have hf : AV.freeAll xs = true := by
  rcases h3 with h3 | h3
  ·simpa [AV.free] using h3
  ·simp [AV.isL] at h3
 obtain ⟨u,hu,hvu,hfv⟩ := part_run (P := P) hk hcs hf hv
 exact pure_op hs hh (u := u) (by simp [execOp,ho,e1,h2,Instr.index,asIntOf,run_underlying' hsu,run_sizeOf' hz,hj0,hjn,hu,Result.andThen]) hvu (.inl hfv)
theorem op_idxStr (hs : StR L0 g H w σ a.tmps none) (hh : HeapR g H w) {t : TypeId} {x i : Operand} {sx si : SX} (ho : o.op = .index t x i) (hx : rX x = some sx) (hi : rX i = some si)
  (hsu : P.underlying t = some .string) {k : IntKind} {j : Int} (hj : evalX σ si = .c (.int k j)) (hj0 : 0 ≤ j) {s : ByteArray} {c : UInt8} (h : evalX σ sx = .c (.string s)) (hv : s.data.toList[j.toNat]? = some c) :
  OpRuns P o a w (fun u w' => ∃ g',OpPost L0 g H w a.tmps o.dst (.c (.int .u8 c.toNat)) σ H u w' g') := by
 obtain ⟨h1,_⟩ := evalX_rel hs hx
 obtain ⟨h2,_⟩ := evalX_rel hs hi
 rw [hj] at h2
 have h2 := vr_c h2
 rw [h] at h1
 have h1 := vr_c h1
 have hc : s[j.toNat]? = some c := by
  have := hv
  rw [Array.getElem?_toList] at this
  obtain ⟨hlt,he⟩ := Array.getElem?_eq_some_iff.1 this
  have hlt' : j.toNat < s.size := hlt
  rw [getElem?_pos s j.toNat hlt']
  exact congrArg some he
 exact pure_op hs hh (u := .int .u8 c.toNat) (by simp [execOp,ho,h1,h2,Instr.index,asIntOf,run_underlying' hsu,hj0,hc,Result.andThen]) (by simp [VR]) (.inl rfl)
theorem op_mkfn (hs : StR L0 g H w σ a.tmps none) (hh : HeapR g H w) {f : FuncId} {first caps : Array Operand} {sxs : List SX} (ho : o.op = .makeFunc (.func f) first caps) (h0 : first.size = 0) (hx : rXs caps.toList = some sxs) (hf : AV.freeAll (sxs.map (evalX σ)) = true) :
  OpRuns P o a w (fun u w' => ∃ g',OpPost L0 g H w a.tmps o.dst (.fn f (sxs.map (evalX σ))) σ H u w' g') := by
 have key : ∀ (l : List Operand) (sxs : List SX),rXs l = some sxs → VRs g H w (sxs.map (evalX σ)) (l.map a.eval) := by
  intro l
  induction l with
  | nil => intro sxs h; simp [rXs] at h; subst h; simp [VRs]
  | cons x r ih =>
   intro sxs h
   simp only [rXs,List.mapM_cons,Option.bind_eq_bind,Option.bind_eq_some_iff] at h
   obtain ⟨s,hs1,l',hl',he⟩ := h
   simp at he
   subst he
   simp only [List.map_cons,VRs]
   exact ⟨_,_,rfl,(evalX_rel hs hs1).1,ih l' hl'⟩
 have hfirst : first = #[] := by apply Array.eq_empty_of_size_eq_zero h0
 refine pure_op hs hh (u := .func (.func f) #[] (caps.map a.eval)) (by simp [execOp,ho,Instr.makeFunc,hfirst]) ?_ (.inl (by simpa [AV.free] using hf))
 simp only [VR]
 exact ⟨_,rfl,by rw [Array.toList_map]; exact key _ _ hx⟩
theorem op_mkif (hs : StR L0 g H w σ a.tmps none) (hh : HeapR g H w) {t : TypeId} {x : Operand} {sx : SX} (ho : o.op = .makeInterface t x) (hx : rX x = some sx) {d : TypeDesc} (hd : P.underlying t = some d) (hn : ∀ ms,d ≠ .interface ms) (hf : (evalX σ sx).free = true) :
  OpRuns P o a w (fun u w' => ∃ g',OpPost L0 g H w a.tmps o.dst (.iface t (evalX σ sx)) σ H u w' g') := by
 obtain ⟨h1,_⟩ := evalX_rel hs hx
 refine pure_op hs hh (u := .iface t (a.eval x)) ?_ (by simp only [VR]; exact ⟨_,rfl,h1⟩) (.inl (by simpa [AV.free] using hf))
 cases d <;> first | (exact (hn _ rfl).elim) | (simp [execOp,ho,Instr.makeInterface,run_underlying' hd,Result.andThen])
theorem evalXs_rel (hs : StR L0 g H w σ a.tmps none) : ∀ {l : List Operand} {sxs : List SX},rXs l = some sxs → VRs g H w (sxs.map (evalX σ)) (l.map a.eval)
 | [],sxs,h => by simp [rXs] at h; subst h; simp [VRs]
 | x :: r,sxs,h => by
  simp only [rXs,List.mapM_cons,Option.bind_eq_bind,Option.bind_eq_some_iff] at h
  obtain ⟨s,hs1,l',hl',he⟩ := h
  simp at he
  subst he
  simp only [List.map_cons,VRs]
  exact ⟨_,_,rfl,(evalX_rel hs hs1).1,evalXs_rel hs hl'⟩
theorem foldM_min {xs : List AV} : ∀ {vs : List Value} {x v : AV} {u : Value},VRs g H w xs vs → VR g H w x u → x.free = true → xs.foldlM minA x = some v → ∃ r,(vs.foldlM Builtin.min2 u).run P w = .ok r w ∧ VR g H w v r ∧ v.free = true := by
 induction xs with
 | nil =>
  intro vs x v u h1 h2 hf h3
  simp only [VRs] at h1
  subst h1
  simp at h3
  subst h3
  exact ⟨u,by simp,h2,hf⟩
 | cons y ys ih =>
  intro vs x v u h1 h2 hf h3
  simp only [VRs] at h1
  obtain ⟨uy,us,rfl,hy,hys⟩ := h1
  simp only [List.foldlM_cons,Option.bind_eq_bind,Option.bind_eq_some_iff] at h3
  obtain ⟨m,hm,h3⟩ := h3
  unfold minA at hm
  split at hm
  ·rename_i k n k' m
   have := vr_c h2; have := vr_c hy; subst_vars
   obtain rfl := Option.some.inj hm
   obtain ⟨r,hr,h4⟩ := ih hys (u := .int k (if m < n then m else n)) (by simp only [VR]) rfl h3
   exact ⟨r,by simp only [List.foldlM_cons,Sem.run_bind,Builtin.min2,Sem.run_pure,Result.andThen]; exact hr,h4⟩
  ·simp at hm
theorem foldM_max {xs : List AV} : ∀ {vs : List Value} {x v : AV} {u : Value},VRs g H w xs vs → VR g H w x u → x.free = true → xs.foldlM maxA x = some v → ∃ r,(vs.foldlM Builtin.max2 u).run P w = .ok r w ∧ VR g H w v r ∧ v.free = true := by
 induction xs with
 | nil =>
  intro vs x v u h1 h2 hf h3
  simp only [VRs] at h1
  subst h1
  simp at h3
  subst h3
  exact ⟨u,by simp,h2,hf⟩
 | cons y ys ih =>
  intro vs x v u h1 h2 hf h3
  simp only [VRs] at h1
  obtain ⟨uy,us,rfl,hy,hys⟩ := h1
  simp only [List.foldlM_cons,Option.bind_eq_bind,Option.bind_eq_some_iff] at h3
  obtain ⟨m,hm,h3⟩ := h3
  unfold maxA at hm
  split at hm
  ·rename_i k n k' m
   have := vr_c h2; have := vr_c hy; subst_vars
   obtain rfl := Option.some.inj hm
   obtain ⟨r,hr,h4⟩ := ih hys (u := .int k (if m > n then m else n)) (by simp only [VR]) rfl h3
   exact ⟨r,by simp only [List.foldlM_cons,Sem.run_bind,Builtin.max2,Sem.run_pure,Result.andThen]; exact hr,h4⟩
  ·simp at hm
end
end Go.A
