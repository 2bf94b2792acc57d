/- THE ABSTRACT MACHINE: append and copy. -/
import Derived.Test.YtnmobjhmohcjfaaA11
set_option linter.unusedSimpArgs false
set_option linter.unusedVariables false
set_option linter.unnecessarySimpa false
namespace Go.A
open Go
variable {P : Program}
section
variable {L0 : Nat → Prop} {g : G} {H : Heap} {w : World} {σ : List AV} {a : Act} {o : Oper}
theorem firstA_rel (hr : HeapR g H w) {sz n : Nat} {X : AV} {u : Value} {new : List AV} (h : firstA H sz n X = some new) (hu : VR g H w X u) :
  ∃ vs : List Value,(∀ w',w'.heap = w.heap → (Builtin.firstCells sz n u).run P w' = .ok vs.toArray w') ∧ vs.length = n * sz ∧ VRs g H w new vs ∧ AV.freeAll new = true := by
 unfold firstA at h
 split at h
 ·have := vr_c hu; subst this
  split at h
  ·rename_i hn
   obtain rfl := Option.some.inj h
   exact ⟨[],fun w' _ => by simp [Builtin.firstCells],by simp [hn],by simp [VRs],rfl⟩
  ·simp at h
 ·rename_i r off len cap sz' k ex
  simp only [VR] at hu
  split at h
  case isFalse => simp at h
  rename_i hnl
  rcases hu with ⟨xx,rfl,rfl,rfl,rfl⟩ | ⟨b,cap',ob,off',rfl,hoff,ha,_⟩
  ·obtain rfl : n = 0 := by omega
   rw [Nat.zero_mul] at h
   have hnil : new = [] := by
    unfold rdRow at h
    split at h
    ·split at h
     ·obtain rfl := Option.some.inj h; simp
     ·simp at h
    ·simp at h
   subst hnil
   exact ⟨[],fun w' _ => by simp [Builtin.firstCells,loadCells,loadCellsFrom],by simp,by simp [VRs],rfl⟩
  obtain ⟨vs,h1,h2,h3,h4⟩ := rdRow_rel hr h ha
  refine ⟨vs,fun w' hw' => ?_,h1,h3,h4⟩
  have hoff' : off' = off ∨ vs = [] := by
   rcases hoff with e | ⟨_,e⟩
   ·exact .inl e
   ·right
    have : n = 0 := by omega
    subst this
    exact List.eq_nil_of_length_eq_zero (by omega)
  have hcell : ∀ (j : Nat) (v : Value),vs[j]? = some v → cellAt w' b (off' + j) = some v := fun j v hv => by
   rcases hoff' with e | e
   ·rw [e]
    have := h2 j v hv
    simpa [cellAt,World.cell?,hw'] using this
   ·subst e; simp at hv
  have := run_loadCells_at (P := P) (w := w') (b := b) (o := off') vs hcell
  rw [h1] at this
  simp only [Builtin.firstCells]
  exact this
 ·have := vr_c hu; subst this
  split at h
  ·rename_i s hc
   obtain rfl := Option.some.inj h
   have hl : s.data.toList.length = s.size := by rw [Array.length_toList]; rfl
   refine ⟨(s.data.toList.take n).map fun b => .int .u8 b.toNat,fun w' _ => ?_,by simp only [List.length_map,List.length_take,hl,hc.1]; omega,vrs_of (by rw [List.length_map,List.length_map]) fun i x v hx hv => ?_,freeAll_iff.2 fun x hx => ?_⟩
   ·simp only [Builtin.firstCells,Sem.run_pure]
    congr 1
    apply Array.toList_inj.1
    simp only [ByteArray.data_extract,Array.toList_map,Array.toList_extract,List.extract_eq_take_drop,Nat.sub_zero,List.drop_zero]
   ·rw [List.getElem?_map] at hx hv
    cases hb : (s.data.toList.take n)[i]? with
    | none => rw [hb] at hx; simp at hx
    | some b => rw [hb] at hx hv; simp only [Option.map_some,Option.some.injEq] at hx hv; subst hx; subst hv; exact rfl
   ·obtain ⟨b,_,rfl⟩ := List.mem_map.1 hx; rfl
  ·simp at h
 ·rename_i cs
  split at h
  ·rename_i hc
   obtain rfl := Option.some.inj h
   simp only [VR] at hu
   obtain ⟨b,e,fr,rfl,hlo,hb⟩ := hu
   refine ⟨cs.take n,fun w' hw' => ?_,by rw [List.length_take,hc.1]; omega,vrs_of (by rw [List.length_map]) fun i x v hx hv => ?_,freeAll_iff.2 fun x hx => ?_⟩
   ·have := run_loadCells_at (P := P) (w := w') (b := b) (o := 0) (cs.take n) (fun j v hv => by
     have hj : j < n := by
      have := (List.getElem?_eq_some_iff.1 hv).1
      simp at this; omega
     rw [List.getElem?_take,if_pos hj] at hv
     have h1 : cellAt w b (0 + j) = some v := by rw [cellAt_cells hb]; simpa using hv
     simpa [cellAt,World.cell?,hw'] using h1)
    rw [List.length_take,Nat.min_eq_left hc.2] at this
    simp only [Builtin.firstCells]
    rw [hc.1,Nat.mul_one]
    exact this
   ·rw [List.getElem?_map] at hx
    rw [hv] at hx
    simp only [Option.map_some,Option.some.injEq] at hx
    subst hx
    exact rfl
   ·obtain ⟨b,_,rfl⟩ := List.mem_map.1 hx; rfl
  ·simp at h
 ·simp at h
theorem all_one {xs : List AV} {vs : List Value} (hok : xs.all okCell = true) (hv : VRs g H w xs vs) : ∀ v ∈ vs,oneV v = true := fun v hv' => by
 obtain ⟨j,hj⟩ := List.mem_iff_getElem?.1 hv'
 have hlen := vrs_length hv
 have hlt : j < xs.length := by
  have := (List.getElem?_eq_some_iff.1 hj).1
  omega
 obtain ⟨v',hv1,hv2⟩ := vrs_get hv (show xs[j]? = some xs[j] by simp [hlt])
 rw [hj] at hv1
 obtain rfl := Option.some.inj hv1
 have := List.all_eq_true.1 hok xs[j] (List.getElem_mem hlt)
 simp [okCell] at this
 exact one_val this.1 hv2
theorem nextcap_le (need old : Nat) (h : old < need) : Builtin.nextslicecap need old ≤ 2 * need := by
 have hg : ∀ (r c : Nat),256 ≤ c → c ≤ 2 * need → Builtin.growBy need r c ≤ 2 * need := by
  intro r
  induction r with
  | zero => intro c _ h; exact h
  | succ r ih =>
   intro c hc h
   unfold Builtin.growBy
   split
   ·exact h
   ·exact ih _ (by omega) (by omega)
 unfold Builtin.nextslicecap
 split
 ·omega
 ·split
  ·omega
  ·exact hg 4 old (by omega) (by omega)
structure AppT (P : Program) (t u e : TypeId) (sz bytes : Nat) : Prop where
 ht : P.underlying t = some (.slice e)
 hu : ∃ d,P.underlying u = some d ∧ ∀ k,d ≠ .int k
 hsz : szOf P e = some sz
 hby : bytesOfT P e = some bytes
 h0 : sz ≠ 0
 hz : ∃ z : Value,∀ w,(zeroValue e).run P w = .ok z w
 hzs : ∀ (z : Value) w,(zeroValue e).run P w = .ok z w → z.cells.size = sz
theorem zeroCells_size (z : Array Value) (n : Nat) : (Builtin.zeroCells z n).size = n * z.size := by simp [Builtin.zeroCells]
theorem append_room0 {t u e ty : TypeId} {sz bytes : Nat} (ha : AppT P t u e sz bytes) {a : Addr} {len cap n : Nat} {x : Value} {vs : List Value} {w' : World} (hn : (Builtin.lenOf x).run P w = .ok n w) (hnew : (Builtin.firstCells sz n x).run P w = .ok vs.toArray w) (hroom : len + n ≤ cap) (hst : (storeCells (a.add (len * sz)) vs).run P w = .ok () w') :
  (Builtin.append_ #[t,u] ty #[.slice (some a) len cap,x]).run P w = .ok (.slice (some a) (len + n) cap) w' := by
 obtain ⟨d,hd,hd'⟩ := ha.hu
 have hz : (match d with | .int _ => true | _ => false) = false := by cases d <;> first | rfl | exact (hd' _ rfl).elim
 unfold Builtin.append_
 simp only [List.getElem?_toArray,List.getElem?_cons_zero,List.getElem?_cons_succ,Sem.run_bind,run_underlying' ha.ht,Result.andThen,run_sizeOf' ha.hsz,run_underlying' hd,Sem.run_pure,hz,Bool.false_eq_true,if_false,hn]
 rw [if_pos hroom]
 simp [hnew,hst,Result.andThen]
theorem append_room {t u e ty : TypeId} {sz bytes : Nat} (ha : AppT P t u e sz bytes) {b off len cap n : Nat} {x : Value} {vs : List Value} {w' : World} (hn : (Builtin.lenOf x).run P w = .ok n w) (hnew : (Builtin.firstCells sz n x).run P w = .ok vs.toArray w) (hroom : len + n ≤ cap) (hst : (storeCells ⟨b,off + len * sz,none⟩ vs).run P w = .ok () w') :
  (Builtin.append_ #[t,u] ty #[.slice (some ⟨b,off,none⟩) len cap,x]).run P w = .ok (.slice (some ⟨b,off,none⟩) (len + n) cap) w' := by
 obtain ⟨d,hd,hd'⟩ := ha.hu
 have hz : (match d with | .int _ => true | _ => false) = false := by cases d <;> first | rfl | exact (hd' _ rfl).elim
 unfold Builtin.append_
 simp only [List.getElem?_toArray,List.getElem?_cons_zero,List.getElem?_cons_succ,Sem.run_bind,run_underlying' ha.ht,Result.andThen,run_sizeOf' ha.hsz,run_underlying' hd,Sem.run_pure,hz,Bool.false_eq_true,if_false,hn]
 rw [if_pos hroom]
 simp [hnew,hst,add_at,Result.andThen]
theorem append_new {t u e ty : TypeId} {sz bytes : Nat} (ha : AppT P t u e sz bytes) {base : Option Addr} {len cap n : Nat} {x : Value} {old vs : List Value} (hn : (Builtin.lenOf x).run P w = .ok n w) (hold : ∀ w',w'.heap = w.heap → (Builtin.firstCells sz len (.slice base len cap)).run P w' = .ok old.toArray w') (hnew : ∀ w',w'.heap = w.heap → (Builtin.firstCells sz n x).run P w' = .ok vs.toArray w')
  (hroom : cap < len + n) (hb : (len + n) * bytes ≤ appBound) (hb' : len + n ≤ appBound) :
  ∃ (ncap : Nat) (rest : Array Value),len + n ≤ ncap ∧ rest.size = (ncap - (len + n)) * sz ∧
  (Builtin.append_ #[t,u] ty #[.slice base len cap,x]).run P w = .ok (.slice (some ⟨w.heap.size,0,none⟩) (len + n) ncap) (al { w with drawn := w.drawn + 1 } (.cells (old.toArray ++ vs.toArray ++ rest) e (0,0))) := by
 obtain ⟨d,hd,hd'⟩ := ha.hu
 have hz : (match d with | .int _ => true | _ => false) = false := by cases d <;> first | rfl | exact (hd' _ rfl).elim
 obtain ⟨z,hzr⟩ := ha.hz
 have hzs := ha.hzs z w (hzr w)
 have hby := ha.hby
 unfold bytesOfT at hby
 obtain ⟨inf,hinf,hby⟩ := Option.map_eq_some_iff.1 hby
 have hnc := nextcap_le (len + n) cap hroom
 have hle : Builtin.nextslicecap (len + n) cap * bytes ≤ 2 * appBound := by
  calc Builtin.nextslicecap (len + n) cap * bytes ≤ 2 * (len + n) * bytes := Nat.mul_le_mul_right _ hnc
   _ = 2 * ((len + n) * bytes) := by rw [Nat.mul_assoc]
   _ ≤ 2 * appBound := Nat.mul_le_mul_left _ hb
 unfold appBound at hle hb'
 generalize hcap : (Question.appendCap (len + n) cap e).cut (w.tape w.drawn (.appendCap (len + n) cap e)) = ncap
 have hge : len + n ≤ ncap := by rw [← hcap]; simp [Question.cut]
 refine ⟨ncap,Builtin.zeroCells z.cells (ncap - (len + n)),hge,by rw [zeroCells_size,hzs],?_⟩
 unfold Builtin.append_
 simp only [List.getElem?_toArray,List.getElem?_cons_zero,List.getElem?_cons_succ,Sem.run_bind,run_underlying' ha.ht,Result.andThen,run_sizeOf' ha.hsz,run_underlying' hd,Sem.run_pure,hz,Bool.false_eq_true,if_false,hn]
 rw [if_neg (by omega)]
 have hroomr : ∀ (k : Nat) w,(askRoom k).run P w = .ok () w := fun k w => by
  unfold askRoom
  split <;> simp [mark,Sem.run]
 have hch : ∀ w : World,(choose (.appendCap (len + n) cap e)).run P w = .ok ((Question.appendCap (len + n) cap e).cut (w.tape w.drawn (.appendCap (len + n) cap e))) { w with drawn := w.drawn + 1 } := fun w => by
  simp [choose,Sem.run,Question.forced]
 have h1 : ¬ (((len + n : Nat) : Int) > IntKind.i64.max ∧ (False ∨ bytes = 0)) := by
  simp [IntKind.max,IntKind.bits,IntKind.signed]; omega
 have h2 : ¬ (Builtin.nextslicecap (len + n) cap * bytes > 2 ^ 48) := by omega
 simp only [Sem.run_bind,run_typeInfo' hinf,Result.andThen,hby]
 rw [if_neg h1]
 simp only [Sem.run_bind,run_typeInfo' hinf,Result.andThen,hby]
 rw [if_neg h2]
 simp only [Sem.run_bind,hch,hcap,Result.andThen,run_typeInfo' hinf,hby,hroomr,hold { w with drawn := w.drawn + 1 } rfl,Bool.not_false,if_true,hnew { w with drawn := w.drawn + 1 } rfl,hzr,run_newRow',Sem.run_pure]
theorem append_znew {t u e ty : TypeId} {sz bytes : Nat} (ht : P.underlying t = some (.slice e)) {ki : IntKind} (hu : P.underlying u = some (.int ki)) (hsz : szOf P e = some sz) (hby : bytesOfT P e = some bytes) (h0 : sz ≠ 0) (hz : ∃ z : Value,∀ w,(zeroValue e).run P w = .ok z w)
  (hzs : ∀ (z : Value) w,(zeroValue e).run P w = .ok z w → z.cells.size = sz) {n : Nat} (hn0 : 0 < n) (hb : n * bytes ≤ appBound) (hb' : n ≤ appBound) :
  ∃ (ncap : Nat) (us : List Value) (rest : Array Value),n ≤ ncap ∧ us.length = n * sz ∧ rest.size = (ncap - n) * sz ∧
  (Builtin.append_ #[t,u] ty #[.slice none 0 0,.int .i64 n]).run P w = .ok (.slice (some ⟨w.heap.size,0,none⟩) n ncap) (al { w with drawn := w.drawn + 1 } (.cells (us.toArray ++ rest) e (0,0))) := by
 obtain ⟨z,hzr⟩ := hz
 have hzs := hzs z w (hzr w)
 unfold bytesOfT at hby
 obtain ⟨inf,hinf,hby⟩ := Option.map_eq_some_iff.1 hby
 have hnc := nextcap_le (0 + n) 0 (by omega)
 have hle : Builtin.nextslicecap (0 + n) 0 * bytes ≤ 2 * appBound := by
  calc Builtin.nextslicecap (0 + n) 0 * bytes ≤ 2 * (0 + n) * bytes := Nat.mul_le_mul_right _ hnc
   _ = 2 * (n * bytes) := by rw [Nat.zero_add,Nat.mul_assoc]
   _ ≤ 2 * appBound := Nat.mul_le_mul_left _ hb
 unfold appBound at hle hb' hb
 generalize hcap : (Question.appendCap (0 + n) 0 e).cut (w.tape w.drawn (.appendCap (0 + n) 0 e)) = ncap
 have hge : 0 + n ≤ ncap := by rw [← hcap]; simp [Question.cut]
 refine ⟨ncap,(Builtin.zeroCells z.cells n).toList,Builtin.zeroCells z.cells (ncap - (0 + n)),by omega,by rw [Array.length_toList,zeroCells_size,hzs],by rw [zeroCells_size,hzs,Nat.zero_add],?_⟩
 unfold Builtin.append_
 have hw : IntKind.i64.wrap (n : Int) = n := by
  have := Int.emod_eq_of_lt (a := (n : Int) + 9223372036854775808) (b := 18446744073709551616) (by omega) (by omega)
  simp [IntKind.wrap,IntKind.bits,IntKind.signed]
  omega
 have hl1 : ¬ ((n : Int) < 0) := by omega
 have hl2 : ¬ ((n : Int) * bytes > 2 ^ 48) := by
  have : ((n * bytes : Nat) : Int) = (n : Int) * bytes := by simp
  omega
 have hns : ¬ (n * sz = 0) := by
  intro h
  rcases Nat.mul_eq_zero.1 h with h | h <;> omega
 have hroomr : ∀ (k : Nat) w,(askRoom k).run P w = .ok () w := fun k w => by
  unfold askRoom
  split <;> simp [mark,Sem.run]
 have hch : ∀ w : World,(choose (.appendCap (0 + n) 0 e)).run P w = .ok ((Question.appendCap (0 + n) 0 e).cut (w.tape w.drawn (.appendCap (0 + n) 0 e))) { w with drawn := w.drawn + 1 } := fun w => by
  simp [choose,Sem.run,Question.forced]
 have h2 : ¬ (Builtin.nextslicecap (0 + n) 0 * bytes > 2 ^ 48) := by omega
 have hmx : ¬ (((0 + n : Nat) : Int) > IntKind.i64.max) := by simp [IntKind.max,IntKind.bits,IntKind.signed]; omega
 have hai : ∀ w : World,(asInt (.int .i64 (n : Int))).run P w = .ok (n : Int) w := fun w => by simp [asInt,asIntOf]
 simp only [List.getElem?_toArray,List.getElem?_cons_zero,List.getElem?_cons_succ,Sem.run_bind,run_underlying' ht,Result.andThen,run_sizeOf' hsz,run_underlying' hu,Sem.run_pure,if_true,hai,hw]
 rw [if_neg hl1]
 simp only [Sem.run_bind,run_typeInfo' hinf,Result.andThen,hby]
 rw [if_neg hl2]
 simp only [Sem.run_bind,Sem.run_pure,Result.andThen,Int.toNat_natCast]
 rw [if_neg (by omega)]
 simp only [Sem.run_bind,run_typeInfo' hinf,Result.andThen,hby]
 rw [if_neg (fun h => hmx h.1)]
 simp only [Sem.run_bind,run_typeInfo' hinf,Result.andThen,hby]
 rw [if_neg h2]
 simp only [Sem.run_bind,hch,hcap,Result.andThen,run_typeInfo' hinf,hby,hroomr,Builtin.firstCells,Bool.not_true,Bool.false_eq_true,if_false,hns,hzr,run_newRow',Sem.run_pure]
 simp
theorem lenA_run {X : AV} {u : Value} {n : Nat} (h : lenA X = some n) (hu : VR g H w X u) (w' : World) : (Builtin.lenOf u).run P w' = .ok n w' := by
 rcases lenA_rel h hu with ⟨rfl,rfl⟩ | ⟨xx,cap,rfl⟩ | ⟨s,rfl,rfl⟩ <;> simp [Builtin.lenOf]
theorem firstA_zero {sz : Nat} {X : AV} {u : Value} (h : lenA X = some 0) (hu : VR g H w X u) (w' : World) : (Builtin.firstCells sz 0 u).run P w' = .ok #[] w' := by
 rcases lenA_rel h hu with ⟨rfl,_⟩ | ⟨xx,cap,rfl⟩ | ⟨s,rfl,hs⟩
 ·simp [Builtin.firstCells]
 ·simp [Builtin.firstCells,loadCells,loadCellsFrom]
 ·simp only [Builtin.firstCells,Sem.run_pure]
  congr 1
  apply Array.eq_empty_of_size_eq_zero
  simp [ByteArray.data_extract]
theorem vrs_keeps' {g' : G} {H' : Heap} {w' : World} (hk : Keeps g H w g' H' w') {xs : List AV} {vs : List Value} (hf : AV.freeAll xs = true) (h : VRs g H w xs vs) : VRs g' H' w' xs vs := vrs_keeps hk xs vs hf h
theorem post_app {tmps : Array Value} (hs : StR L0 g H w σ tmps none) (hh : HeapR g H w) {cs : List AV} {us : List Value} {rest : Array Value} {m ncap sz k : Nat} (e : TypeId) (hv : VRs g H w cs us) (hf : AV.freeAll cs = true) (hl : us.length = m * sz) (hm : m ≤ ncap) (hr : rest.size = (ncap - m) * sz) (d : Option Nat) :
  OpPost L0 g H w tmps d (.sl H.length 0 m m sz (m * sz) false) σ (H ++ [.grow cs 0]) (.slice (some ⟨w.heap.size,0,none⟩) m ncap) (al { w with drawn := k } (.cells (us.toArray ++ rest) e (0,0))) { g with α := fun r => if r = H.length then w.heap.size else g.α r } := by
 have hk := keeps_drawn (g := g) (H := H) (w := w) k
 have hh' := heap_drawn hh k
 have hs' := hs.step hk rfl (fun _ h => h) (fun _ _ => rfl)
 have hv' := vrs_keeps' hk hf hv
 have hlen := vrs_length hv
 have hsz : (us.toArray ++ rest).size = m * sz + (ncap - m) * sz := by simp [hl,hr]
 have hnc : m * sz + (ncap - m) * sz = ncap * sz := by rw [← Nat.add_mul]; congr 1; omega
 refine OpPost.drawn (n := k) (post_row hs' hh' (.grow cs 0) (us.toArray ++ rest) e (0,0) (Nat.zero_le _) ?_ (noFr _) ?_ rfl ?_ d)
 ·rw [hsz]; simp only [AObj.cells]; omega
 ·intro j x hx
  obtain ⟨v,h1,h2⟩ := vrs_get hv' hx
  have hj : j < us.length := (List.getElem?_eq_some_iff.1 h1).1
  refine ⟨free_get hf hx,v,?_,h2⟩
  rw [Array.getElem?_append_left (by simpa using hj)]
  simpa using h1
 ·exact slNew hh' (.grow cs 0) rfl (by simp) _ e _ (by simp only [AObj.cells]; omega) hm (fun h => by simp at h) (fun _ => by rw [hsz,hnc]; exact Nat.le_refl _)
theorem op_append (hs : StR L0 g H w σ a.tmps none) (hh : HeapR g H w) {c : Call} (ho : o.op = .call c) (hc : c.callee = .builtin .append) {x y : Operand} {sx sy : SX} {t u e : TypeId} {sz bytes : Nat} (ha : c.args.toList = [x,y]) (htt : c.argTypes.toList = [t,u]) (hA : AppT P t u e sz bytes) (hx : rX x = some sx) (hy : rX y = some sy) {v : AV} {H' : Heap} (h : appendA H sz bytes (evalX σ sx) (evalX σ sy) = some (v,H')) :
  OpRuns P o a w (fun u w' => ∃ g',OpPost L0 g H w a.tmps o.dst v σ H' u w' g') := by
 obtain ⟨h1,h1f⟩ := evalX_rel hs hx
 obtain ⟨h2,_⟩ := evalX_rel hs hy
 have e1 : c.args = #[x,y] := by apply Array.toList_inj.1; simpa using ha
 have e2 : c.argTypes = #[t,u] := by apply Array.toList_inj.1; simpa using htt
 have hex : ∀ r w',(Builtin.append_ #[t,u] o.type #[a.eval x,a.eval y]).run P w = .ok r w' → (execOp a.eval o).run P w = .ok (.value r) w' := fun r w' hr => by
  simp [execOp,ho,Go.resolve,hc,invoke,builtin,e1,e2,hr,Result.andThen]
 unfold appendA at h
 obtain ⟨n,hn,h⟩ := Option.bind_eq_some_iff.1 h
 have hnr : ∀ w',(Builtin.lenOf (a.eval y)).run P w' = .ok n w' := lenA_run (P := P) hn h2
 split at h
 ·
  rename_i hn0
  subst hn0
  have hz := firstA_zero (P := P) (sz := sz) hn h2
  split at h
  ·rename_i hX
   simp only [Option.some.injEq,Prod.mk.injEq] at h
   obtain ⟨rfl,rfl⟩ := h
   rw [hX] at h1 ⊢
   have h1 := vr_c h1
   obtain ⟨d,hd,hd'⟩ := hA.hu
   have hz' : (match d with | .int _ => true | _ => false) = false := by cases d <;> first | rfl | exact (hd' _ rfl).elim
   refine pure_op hs hh (u := .slice none 0 0) (hex _ _ ?_) (by simp [VR]) (.inl rfl)
   rw [h1]
   unfold Builtin.append_
   simp only [List.getElem?_toArray,List.getElem?_cons_zero,List.getElem?_cons_succ,Sem.run_bind,run_underlying' hA.ht,Result.andThen,run_sizeOf' hA.hsz,run_underlying' hd,Sem.run_pure,hz',Bool.false_eq_true,if_false,hnr]
   rw [if_pos (by omega)]
   simp [hz,Result.andThen]
  ·rename_i r off len cap sz' k ex hX
   split at h
   ·rename_i hlc
    simp only [Option.some.injEq,Prod.mk.injEq] at h
    obtain ⟨rfl,rfl⟩ := h
    rw [hX] at h1 ⊢
    have h1' := h1
    simp only [VR] at h1
    rcases h1 with ⟨xx,e3,rfl,rfl,rfl⟩ | ⟨b,cap',ob,off',e3,hoff,had,hcap,hx',hy'⟩
    ·have hst : (storeCells (xx.add (0 * sz)) ([] : List Value)).run P w = .ok () w := by simp [storeCells]
     have := append_room0 (P := P) (ty := o.type) hA (a := xx) (len := 0) (cap := 0) (hnr w) (vs := []) (hz w) (by omega) hst
     exact pure_op hs hh (u := a.eval x) (hex _ _ (by rw [e3]; simpa using this)) h1' (.inl rfl)
    have hst : (storeCells ⟨b,off' + len * sz,none⟩ ([] : List Value)).run P w = .ok () w := by simp [storeCells]
    have := append_room (P := P) (ty := o.type) hA (b := b) (off := off') (len := len) (cap := cap') (hnr w) (vs := []) (hz w) (by omega) hst
    exact pure_op hs hh (u := a.eval x) (hex _ _ (by rw [e3]; simpa using this)) h1' (.inl rfl)
   ·simp at h
  ·simp at h
 ·rename_i hn0
  obtain ⟨new,hnew,h⟩ := Option.bind_eq_some_iff.1 h
  obtain ⟨vs,f1,f2,f3,f4⟩ := firstA_rel (P := P) hh hnew h2
  have hnl : new.length = n * sz := by rw [vrs_length f3,f2]
  split at h
  ·
   rename_i hX
   rw [hX] at h1
   have h1 := vr_c h1
   split at h
   ·rename_i hb
    simp only [Option.some.injEq,Prod.mk.injEq] at h
    obtain ⟨rfl,rfl⟩ := h
    obtain ⟨ncap,rest,g1,g2,g3⟩ := append_new (P := P) (ty := o.type) hA (base := none) (len := 0) (cap := 0) (old := []) (hnr w) (fun w' _ => by simp [Builtin.firstCells]) f1 (by omega) (by simpa using hb.1) (by simpa using hb.2.1)
    have hv1 : VRs g H w new ([] ++ vs) := by simpa using f3
    have := post_app (k := w.drawn + 1) hs hh (m := n) (ncap := ncap) (sz := sz) (rest := rest) e hv1 f4 (by simpa using f2) (by omega) (by simpa using g2) o.dst
    refine opRuns_value (hex _ _ (by rw [h1]; exact g3)) ⟨{ g with α := fun r => if r = H.length then w.heap.size else g.α r },?_⟩
    simpa using this
   ·simp at h
  ·rename_i r off len cap sz' k ex hX
   rw [hX] at h1
   have hvr := h1
   simp only [VR] at h1
   rcases h1 with ⟨xx,e3,rfl,rfl,rfl⟩ | ⟨b,cap',ob,off',e3,hoff,had,hcap,hx',hy'⟩
   ·split at h
    ·omega
    ·split at h
     ·rename_i hb
      obtain ⟨hb1,hb2,hok⟩ := hb
      split at h
      ·rename_i hg
       exact (hg.2.2.1.1 rfl).elim
      ·split at h
       ·obtain ⟨old,hold,h⟩ := Option.bind_eq_some_iff.1 h
        split at h
        ·simp only [Option.some.injEq,Prod.mk.injEq] at h
         obtain ⟨rfl,rfl⟩ := h
         simp only [rdRow0,Nat.zero_mul,if_true] at hold
         obtain rfl := Option.some.inj hold
         obtain ⟨ncap,rest,g1,g2,g3⟩ := append_new (P := P) (ty := o.type) hA (base := some xx) (len := 0) (cap := 0) (old := []) (hnr w) (fun w' _ => by simp [Builtin.firstCells,loadCells,loadCellsFrom]) f1 (by omega) hb1 hb2
         have hv1 : VRs g H w ([] ++ new) ([] ++ vs) := by simpa using f3
         have := post_app (k := w.drawn + 1) hs hh (m := 0 + n) (ncap := ncap) (sz := sz) (rest := rest) e hv1 f4 (by simpa using f2) g1 (by simpa using g2) o.dst
         refine opRuns_value (hex _ _ (by rw [e3]; exact g3)) ⟨{ g with α := fun r => if r = H.length then w.heap.size else g.α r },?_⟩
         simpa using this
        ·simp at h
       ·simp at h
     ·simp at h
   have hrl : r < H.length := (List.getElem?_eq_some_iff.1 had.at_).1
   split at h
   ·
    rename_i hroom
    obtain ⟨H2,hw,he⟩ := Option.map_eq_some_iff.1 h
    simp only [Prod.mk.injEq] at he
    obtain ⟨rfl,rfl⟩ := he
    have hoff' : off' = off := by
     rcases hoff with h | h
     ·exact h
     ·omega
    subst hoff'
    obtain ⟨hone,w',hst,hpost,hkeep⟩ := wrRow_rel (P := P) hs hh hw had f3
    have hrun := append_room (P := P) (ty := o.type) hA (b := b) (off := off') (len := len) (cap := cap') (hnr w) (f1 w rfl) (by omega) hst
    refine opRuns_value (hex _ _ (by rw [e3]; exact hrun)) ⟨g,hpost _ _ _ rfl ?_⟩
    have h5 := hkeep _ _ rfl hvr
    rw [e3] at h5
    simp only [VR] at h5 ⊢
    refine .inr ?_
    obtain ⟨_,_,h5z,_⟩ | ⟨b2,cap2,o2,off2,e5,hoff5,had5,hcap5,hx5,hy5⟩ := h5
    ·omega
    simp only [Value.slice.injEq,Option.some.injEq,Addr.mk.injEq] at e5
    obtain ⟨⟨rfl,rfl,_⟩,_,rfl⟩ := e5
    exact ⟨b,cap',o2,off',rfl,.inl rfl,had5,hcap5,hx5,hy5⟩
   ·rename_i hroom
    split at h
    ·rename_i hb
     obtain ⟨hb1,hb2,hok⟩ := hb
     split at h
     ·
      rename_i hg
      obtain ⟨rfl,hcap0,hc00,rfl,rfl,hcond⟩ := hg
      have hc0 : cap = 0 → ex = true := fun e => absurd e hc00.1
      have hcap0 := hcap0.symm
      subst hcap0
      rw [had.at_] at hcond h
      simp only [Option.map_some,Option.some.injEq,Bool.and_eq_true,beq_iff_eq] at hcond
      simp only [Option.some.injEq,Prod.mk.injEq] at h
      obtain ⟨rfl,rfl⟩ := h
      obtain ⟨hW,hcl⟩ := hcond
      obtain ⟨hl0,hw0,c,ec,fr,hcs⟩ := hh.row r ob had.at_ had.isRow
      have hn0r := hw0 hW
      have hbα : b = g.α r := had.top hcl.symm
      subst hbα
      have hcle := hcs.le
      have ho1 : (AObj.grow (ob.cells ++ new) ob.lo).isRow = true := rfl
      have hlt : ob.cells.length < (AObj.grow (ob.cells ++ new) ob.lo).cells.length := by
       simp only [AObj.cells,List.length_append]
       have : 0 < n * sz' := Nat.mul_pos (by omega) (by have := hA.h0; omega)
       omega
      have hlen1 : (ob.cells ++ new).length = len * sz' + n * sz' := by simp [hcl,hnl]
      by_cases hin : len + n ≤ cap'
      ·
       have hexf : ex = false := by
        cases ex with
        | false => rfl
        | true => have := hx' rfl; omega
       have hlne : len ≠ 0 := fun e => by have := hc0 e; rw [hexf] at this; simp at this
       have hoff' : off' = 0 := by
        rcases hoff with h | h
        ·exact h
        ·omega
       subst hoff'
       have hbs := hy' hexf hcl.symm
       rw [bsz_cells hcs.blk] at hbs
       have hsp : len * sz' + n * sz' ≤ cap' * sz' := by rw [← Nat.add_mul]; exact Nat.mul_le_mul_right _ hin
       have hone := all_one hok f3
       have hst := run_storeCells_at' (P := P) (b := g.α r) (o := 0 + len * sz') vs hcs.blk (by rw [f2]; omega) (hcs.thaw hW).cells hone
       have hrun := append_room (P := P) (ty := o.type) hA (b := g.α r) (off := 0) (len := len) (cap := cap') (hnr w) (f1 w rfl) hin hst
       have hkeep : Keeps g H w g (H.set r (.grow (ob.cells ++ new) ob.lo)) (put w (g.α r) (.cells (over c (0 + len * sz') vs) ec fr)) :=
        keeps_grow hh r ob _ had.at_ ho1 hlt rfl (by simp) _ ec fr (fun j hj => by
         rw [over_get vs c _ j (by rw [f2]; omega),if_neg (by omega),cellAt_cells hcs.blk])
       have hcells : ∀ (j : Nat) (a : AV),(ob.cells ++ new)[j]? = some a → a.free = true ∧ ∃ v : Value,(over c (0 + len * sz') vs)[j]? = some v ∧ VR g H w a v := fun j x hx => by
        rw [over_get vs c _ j (by rw [f2]; omega)]
        by_cases hj : j < ob.cells.length
        ·rw [List.getElem?_append_left hj] at hx
         rw [if_neg (by omega)]
         exact hcs.val j x hx
        ·rw [List.getElem?_append_right (by omega)] at hx
         obtain ⟨v,q1,q2⟩ := vrs_get f3 hx
         have hjl : j - ob.cells.length < vs.length := (List.getElem?_eq_some_iff.1 q1).1
         rw [if_pos (by omega)]
         exact ⟨free_get f4 hx,v,by rw [show j - (0 + len * sz') = j - ob.cells.length by omega]; exact q1,q2⟩
       refine opRuns_value (hex _ _ (by rw [e3]; exact hrun)) ⟨g,post_put hs hh r _ hrl hn0r _ ec fr hkeep (by show ob.lo ≤ (ob.cells ++ new).length; omega) (by rw [over_size]; show (ob.cells ++ new).length ≤ _; omega) (by rw [over_size]; exact hcs.thaw hW) hcells rfl ?_ _⟩
       simp only [VR]
       refine .inr ⟨g.α r,cap',_,0,rfl,.inl rfl,⟨by rw [List.getElem?_set_self hrl],rfl,?_,fun _ _ => rfl,fun _ => rfl,fun e => (e rfl).elim,fun _ j _ => rfl⟩,hin,fun h => by simp at h,fun _ _ => ?_⟩
       ·show _ ≤ (ob.cells ++ new).length; omega
       ·rw [bsz_cells (put_at w _ _ (hh.lt r hrl)),over_size]; omega
      ·
       have holdr : ∀ w' : World,w'.heap = w.heap → (Builtin.firstCells sz' len (.slice (some ⟨g.α r,off',none⟩) len cap')).run P w' = .ok (c.toList.take (len * sz')).toArray w' := fun w' hw' => by
        simp only [Builtin.firstCells]
        have := run_loadCells_at (P := P) (w := w') (b := g.α r) (o := off') (c.toList.take (len * sz')) (fun j v hv => by
         by_cases hj : j < len * sz'
         ·have hlne : len ≠ 0 := fun e => by rw [e] at hj; simp at hj
          have hoff' : off' = 0 := by
           rcases hoff with h | h
           ·exact h
           ·omega
          rw [List.getElem?_take_of_lt hj,Array.getElem?_toList] at hv
          rw [hoff',Nat.zero_add]
          have hq : w'.heap[g.α r]? = some (.cells c ec fr) := by rw [hw']; exact hcs.blk
          rw [cellAt_cells hq]; exact hv
         ·rw [List.getElem?_take_eq_none (by omega)] at hv; simp at hv)
        rw [show (c.toList.take (len * sz')).length = len * sz' by simp; omega] at this
        exact this
       obtain ⟨ncap,rest,g1,g2,g3⟩ := append_new (P := P) (ty := o.type) hA (base := some ⟨g.α r,off',none⟩) (len := len) (cap := cap') (hnr w) holdr f1 (by omega) hb1 hb2
       have hk0 := keeps_drawn (g := g) (H := H) (w := w) (w.drawn + 1)
       have hh' := heap_drawn hh (w.drawn + 1)
       have hs' := hs.step hk0 rfl (fun _ h => h) (fun _ _ => rfl)
       have hol : (c.toList.take (len * sz')).length = len * sz' := by simp; omega
       have hget : ∀ j,((c.toList.take (len * sz')).toArray ++ vs.toArray ++ rest)[j]? = if j < len * sz' then c[j]? else if j < len * sz' + n * sz' then vs[j - len * sz']? else rest[j - (len * sz' + n * sz')]? := fun j => by
        by_cases q1 : j < len * sz'
        ·rw [if_pos q1,Array.getElem?_append_left (by simp; omega),Array.getElem?_append_left (by simp; omega)]
         simp only [List.getElem?_toArray]
         rw [List.getElem?_take_of_lt q1,Array.getElem?_toList]
        ·rw [if_neg q1]
         by_cases q2 : j < len * sz' + n * sz'
         ·rw [if_pos q2,Array.getElem?_append_left (by simp; omega),Array.getElem?_append_right (by simp; omega)]
          simp only [List.getElem?_toArray,List.size_toArray]
          rw [hol]
         ·rw [if_neg q2,Array.getElem?_append_right (by simp; omega)]
          congr 1
          simp; omega
       have hsize : ((c.toList.take (len * sz')).toArray ++ vs.toArray ++ rest).size = ncap * sz' := by
        simp only [Array.size_append,List.size_toArray,hol,f2,g2]
        rw [← Nat.add_mul,← Nat.add_mul]
        congr 1; omega
       have hnn : len * sz' + n * sz' ≤ ncap * sz' := by rw [← Nat.add_mul]; exact Nat.mul_le_mul_right _ g1
       have hkm := keeps_move hh' r ob (.grow (ob.cells ++ new) ob.lo) had.at_ ho1 hlt rfl (by simp) ((c.toList.take (len * sz')).toArray ++ vs.toArray ++ rest) e (0,0) (fun j hj => by
        rw [hget j,if_pos (by omega),cellAt_cells (show ({ w with drawn := w.drawn + 1 } : World).heap[g.α r]? = some (.cells c ec fr) from hcs.blk)])
       have hcells : ∀ (j : Nat) (a : AV),(ob.cells ++ new)[j]? = some a → a.free = true ∧ ∃ v : Value,((c.toList.take (len * sz')).toArray ++ vs.toArray ++ rest)[j]? = some v ∧ VR g H { w with drawn := w.drawn + 1 } a v := fun j x hx => by
        rw [hget j]
        by_cases hj : j < ob.cells.length
        ·rw [List.getElem?_append_left hj] at hx
         rw [if_pos (by omega)]
         obtain ⟨q1,v,q2,q3⟩ := hcs.val j x hx
         exact ⟨q1,v,q2,vr_keeps hk0 _ _ q1 q3⟩
        ·rw [List.getElem?_append_right (by omega)] at hx
         obtain ⟨v,q1,q2⟩ := vrs_get f3 hx
         have hjl : j - ob.cells.length < vs.length := (List.getElem?_eq_some_iff.1 q1).1
         have q3 := free_get f4 hx
         rw [if_neg (by omega),if_pos (by omega)]
         exact ⟨q3,v,by rw [show j - len * sz' = j - ob.cells.length by omega]; exact q1,vr_keeps hk0 _ _ q3 q2⟩
       refine opRuns_value (hex _ _ (by rw [e3]; exact g3)) ⟨_,OpPost.drawn (n := w.drawn + 1) (post_move hs' hh' r _ hrl hn0r _ e (0,0) hkm (by show ob.lo ≤ (ob.cells ++ new).length; omega) (by rw [hsize]; show (ob.cells ++ new).length ≤ _; omega) (noFr _) hcells rfl ?_ _)⟩
       simp only [VR]
       refine .inr ⟨w.heap.size,ncap,_,0,rfl,.inl rfl,⟨by rw [List.getElem?_set_self hrl],rfl,?_,fun _ _ => by simp,fun _ => by simp,fun e => by simp at e,fun _ j _ => by simp⟩,g1,fun h => by simp at h,fun _ _ => ?_⟩
       ·show _ ≤ (ob.cells ++ new).length; omega
       ·have hbz := bsz_cells (al_new ({ w with drawn := w.drawn + 1 } : World) (.cells ((c.toList.take (len * sz')).toArray ++ vs.toArray ++ rest) e (0,0)))
        simp only [if_true]
        rw [Nat.zero_add,← hsize]
        exact Nat.le_of_eq hbz.symm
     ·split at h
      ·
       rename_i hexx
       obtain ⟨old,hold,h⟩ := Option.bind_eq_some_iff.1 h
       split at h
       ·rename_i hok2
        simp only [Option.some.injEq,Prod.mk.injEq] at h
        obtain ⟨rfl,rfl⟩ := h
        have hcc := hx' hexx
        have hvo : ∃ vo : List Value,vo.length = len * sz ∧ (∀ (j : Nat) (v : Value),vo[j]? = some v → cellAt w b (off + j) = some v) ∧ VRs g H w old vo ∧ AV.freeAll old = true := by
         simp only [rdRow0] at hold
         split at hold
         ·rename_i hz
          obtain rfl := Option.some.inj hold
          exact ⟨[],by rw [hz]; rfl,by simp,by simp [VRs],by simp [AV.freeAll]⟩
         ·exact rdRow_rel hh hold had
        obtain ⟨vo,q1,q2,q3,q4⟩ := hvo
        have holdr : ∀ w' : World,w'.heap = w.heap → (Builtin.firstCells sz len (.slice (some ⟨b,off',none⟩) len cap')).run P w' = .ok vo.toArray w' := fun w' hw' => by
         simp only [Builtin.firstCells]
         have := run_loadCells_at (P := P) (w := w') (b := b) (o := off') vo (fun j v hv => by
          rcases hoff with e | ⟨_,e⟩
          ·rw [e]
           have := q2 j v hv
           simpa [cellAt,World.cell?,hw'] using this
          ·rw [e] at q1
           have : vo = [] := List.eq_nil_of_length_eq_zero (by omega)
           subst this; simp at hv)
         rw [q1] at this
         exact this
        obtain ⟨ncap,rest,g1,g2,g3⟩ := append_new (P := P) (ty := o.type) hA (base := some ⟨b,off',none⟩) (len := len) (cap := cap') (hnr w) holdr f1 (by omega) hb1 hb2
        have hv1 : VRs g H w (old ++ new) (vo ++ vs) := vrs_append q3 f3
        have hf1 : AV.freeAll (old ++ new) = true := by rw [freeAll_append,q4,f4]; rfl
        have := post_app (k := w.drawn + 1) hs hh (m := len + n) (ncap := ncap) (sz := sz) (rest := rest) e hv1 hf1 (by rw [List.length_append,q1,f2,Nat.add_mul]) g1 g2 o.dst
        refine opRuns_value (hex _ _ (by rw [e3]; exact g3)) ⟨{ g with α := fun r => if r = H.length then w.heap.size else g.α r },?_⟩
        simpa using this
       ·simp at h
      ·simp at h
    ·simp at h
  ·simp at h
end
end Go.A
