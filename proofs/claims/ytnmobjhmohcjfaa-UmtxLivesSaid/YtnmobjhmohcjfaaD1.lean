/- THE ABSTRACT MACHINE: in regions that draw their order, what only reads may come first. -/
import Derived.Test.YtnmobjhmohcjfaaA4
set_option linter.unusedSimpArgs false
set_option linter.unusedVariables false
set_option linter.unnecessarySimpa false
namespace Go.A
open Go
section
variable {C : Oracle} {σ σ' : List AV} {H H' : Heap}
def Like (l : List Nat) (σ σ' : List AV) : Prop := ∀ n ∈ l,evalX σ' (.t n) = evalX σ (.t n)
theorem Like.x {x : SX} (h : Like x.slots σ σ') : evalX σ' x = evalX σ x := by
  cases x with
  | k v => rfl
  | t n => exact h n (by simp [SX.slots])
theorem Like.left {l m : List Nat} (h : Like (l ++ m) σ σ') : Like l σ σ' := fun n hn => h n (List.mem_append_left _ hn)
theorem Like.right {l m : List Nat} (h : Like (l ++ m) σ σ') : Like m σ σ' := fun n hn => h n (List.mem_append_right _ hn)
theorem Like.xo {x : Option SX} (h : Like (xoSlots x) σ σ') : x.map (evalX σ') = x.map (evalX σ) := by
  cases x with
  | none => rfl
  | some x => exact congrArg some (Like.x h)
theorem Like.xs {l : List SX} (h : Like (l.flatMap SX.slots) σ σ') : l.map (evalX σ') = l.map (evalX σ) := by
  induction l with
  | nil => rfl
  | cons x l ih =>
    rw [List.flatMap_cons] at h
    simp only [List.map_cons,ih h.right,h.left.x]
theorem Like.ps {l : List (Nat × Nat × SX)} (h : Like (l.flatMap fun p => p.2.2.slots) σ σ') : (l.map fun (o,k,x) => (o,k,evalX σ' x)) = l.map fun (o,k,x) => (o,k,evalX σ x) := by
  induction l with
  | nil => rfl
  | cons x l ih =>
    rw [List.flatMap_cons] at h
    simp only [List.map_cons,ih h.right,h.left.x]
theorem Like.wanted {o : SOpG} (h : Like o.reads σ σ') : wanted σ' o.guard = wanted σ o.guard := by
  cases hg : o.guard with
  | none => rfl
  | some p =>
    obtain ⟨t,b⟩ := p
    have h1 := h t (by simp [SOpG.reads,hg])
    simp only [A.wanted]
    simp only [evalX] at h1
    cases h2 : σ'.getD t .undef <;> cases h3 : σ.getD t .undef <;> simp only [h2,h3,reduceCtorEq,AV.c.injEq,AV.tup.injEq] at h1 ⊢ <;> first | rfl | (subst h1; rfl) | skip
def pv (so : SOp) (ev : SX → AV) : Option AV :=
  match so with
  | .mov x => some (ev x)
  | .pick c a b => match ev c with
    | .c (.bool true) => some (ev a)
    | .c (.bool false) => some (ev b)
    | _ => none
  | .build zs ps => (placeAll zs (ps.map fun (o,k,x) => (o,k,ev x))).map .agg
  | .chk x => match ev x with
    | .ptr r i g => some (.ptr r i g)
    | .lptr d i => some (.lptr d i)
    | .fn f cs => some (.fn f cs)
    | .iface t v => some (.iface t v)
    | _ => none
  | .bin op ek x y => binA op ek (ev x) (ev y)
  | .un op x => unA op (ev x)
  | .conv k x => match k,ev x with
    | .int k,.c (.int _ n) => some (.c (.int k (k.wrap n)))
    | .same,.c (.string s) => some (.c (.string s))
    | _,_ => none
  | .cut (.arr n sz) x lo hi mx => match ev x with
    | .ptr r i g => (cutBounds n n (lo.map ev) (hi.map ev) (mx.map ev)).map fun (l,h,m) => .sl r (if m = l then i else i + l * sz) (h - l) (m - l) sz g true
    | _ => none
  | .cut k x lo hi mx => cutA k (ev x) (lo.map ev) (hi.map ev) (mx.map ev)
  | .faddr off x => match ev x with
    | .ptr r i g => some (.ptr r (i + off) g)
    | .lptr d i => some (.lptr d (i + off))
    | _ => none
  | .fld off k x => match ev x with
    | .agg xs => fromCells k xs off
    | _ => none
  | .iaddr sz arr x i => match ev x,ev i,arr with
    | .sl r off len _ _ g _,.c (.int _ j),none => if 0 ≤ j ∧ j < len then some (.ptr r (off + j.toNat * sz) g) else none
    | .ptr r o g,.c (.int _ j),some n => if 0 ≤ j ∧ j < n then some (.ptr r (o + j.toNat * sz) g) else none
    | .lptr d o,.c (.int _ j),some n => if 0 ≤ j ∧ j < n then some (.lptr d (o + j.toNat * sz)) else none
    | _,_,_ => none
  | .idx arr x i => match ev x,ev i,arr with
    | .agg xs,.c (.int _ j),some (n,sz,k) => if 0 ≤ j ∧ j < n then (fromCells k xs (j.toNat * sz)) else none
    | .c (.string s),.c (.int _ j),none => if 0 ≤ j then ((s.data.toList[j.toNat]?).map fun b => .c (.int .u8 b.toNat)) else none
    | _,_,_ => none
  | .ext x i => match ev x with
    | .tup xs => xs[i]?
    | _ => none
  | .len (.arr n) _ => some (.c (.int .i64 n))
  | .len .sl x => match ev x with
    | .c (.slice none 0 0) => some (.c (.int .i64 0))
    | .sl _ _ len _ _ _ _ => some (.c (.int .i64 len))
    | _ => none
  | .len .str x => match ev x with
    | .c (.string s) => some (.c (.int .i64 s.size))
    | _ => none
  | .len .cap x => match ev x with
    | .c (.slice none 0 0) => some (.c (.int .i64 0))
    | .sl _ _ _ cap _ _ true => some (.c (.int .i64 cap))
    | _ => none
  | .min xs => match xs.map ev with
    | .c (.int k n) :: r => (r.foldlM minA (.c (.int k n)))
    | _ => none
  | .max xs => match xs.map ev with
    | .c (.int k n) :: r => (r.foldlM maxA (.c (.int k n)))
    | _ => none
  | .mkfn f cs => if AV.freeAll (cs.map ev) = true then some (.fn f (cs.map ev)) else none
  | .mkif t x => if AV.free (ev x) = true then some (.iface t (ev x)) else none
  | .imm cs => some (.imm cs)
  | _ => none
theorem opA_pv {d : Option Nat} {so : SOp} (hc : so.cls = .pure) : opA C d so σ H = (pv so (evalX σ)).map fun v => (v,σ,H) := by
  cases so
  case conv k x =>
    cases k
    case int k => simp only [opA,pv]; cases evalX σ x <;> try rfl
                  rename_i v; cases v <;> rfl
    case same => simp only [opA,pv]; cases evalX σ x <;> try rfl
                 rename_i v; cases v <;> rfl
    all_goals (simp [SOp.cls] at hc; done)
  case cut k x lo hi mx =>
    cases k
    case arr n sz =>
      simp only [opA,pv]
      cases evalX σ x <;> try rfl
      simp only [Option.map_map]
      rfl
    all_goals rfl
  case len k x =>
    cases k
    case arr n => rfl
    all_goals
      simp only [opA,pv]
      split <;> simp_all
  case iaddr sz arr x i => simp only [opA,pv]; (split <;> simp_all) <;> split <;> simp_all
  case idx arr x i => simp only [opA,pv]; (split <;> simp_all) <;> split <;> simp_all
  case min xs => simp only [opA,pv]; (split <;> simp_all) <;> split <;> simp_all
  case max xs => simp only [opA,pv]; (split <;> simp_all) <;> split <;> simp_all
  case fld off k x => simp only [opA,pv]; split <;> simp_all
  case ext x i => simp only [opA,pv]; split <;> simp_all
  case pick c a b => simp only [opA,pv]; split <;> simp_all
  case chk x => simp only [opA,pv]; split <;> simp_all
  case faddr off x => simp only [opA,pv]; split <;> simp_all
  case mkfn f xs => simp only [opA,pv]; split <;> simp_all
  case mkif t x => simp only [opA,pv]; split <;> simp_all
  case bin op ek x y => rfl
  case un op x => rfl
  case mov x => rfl
  case imm cs => rfl
  case build zs ps => rfl
  all_goals (simp [SOp.cls] at hc; done)
theorem pv_like {so : SOp} (hc : so.cls = .pure) (hl : Like so.slots σ σ') : pv so (evalX σ') = pv so (evalX σ) := by
  cases so <;> simp only [SOp.slots] at hl
  case conv k x => simp only [pv,hl.x]
  case cut k x lo hi mx =>
    have e1 := hl.left.left.left.x
    have e2 := hl.left.left.right.xo
    have e3 := hl.left.right.xo
    have e4 := hl.right.xo
    cases k <;> simp only [pv,e1,e2,e3,e4]
  case len k x => cases k <;> simp only [pv,hl.x]
  case iaddr sz arr x i => simp only [pv,hl.left.x,hl.right.x]
  case idx arr x i => simp only [pv,hl.left.x,hl.right.x]
  case min xs => simp only [pv,hl.xs]
  case max xs => simp only [pv,hl.xs]
  case fld off k x => simp only [pv,hl.x]
  case ext x i => simp only [pv,hl.x]
  case pick c a b => simp only [pv,hl.right.x,hl.left.left.x,hl.left.right.x]
  case chk x => simp only [pv,hl.x]
  case faddr off x => simp only [pv,hl.x]
  case mkfn f xs => simp only [pv,hl.xs]
  case mkif t x => simp only [pv,hl.x]
  case bin op ek x y => simp only [pv,hl.left.x,hl.right.x]
  case un op x => simp only [pv,hl.x]
  case mov x => simp only [pv,hl.x]
  case build zs ps => simp only [pv,hl.ps]
  case imm cs => rfl
  all_goals (simp [SOp.cls] at hc; done)
theorem opA_pure {C' : Oracle} {d : Option Nat} {so : SOp} {v : AV} {σ1 : List AV} {H1 : Heap} (hc : so.cls = .pure) (hl : Like so.slots σ σ') (h : opA C d so σ H = some (v,σ1,H1)) : σ1 = σ ∧ H1 = H ∧ opA C' d so σ' H' = some (v,σ',H') := by
  rw [opA_pv hc] at h ⊢
  rw [pv_like hc hl]
  obtain ⟨z,h1,h2⟩ := Option.map_eq_some_iff.1 h
  simp only [Prod.mk.injEq] at h2
  obtain ⟨rfl,rfl,rfl⟩ := h2
  exact ⟨rfl,rfl,by rw [h1]; rfl⟩
theorem getD_set_ne {d n : Nat} {v : AV} (h : d ≠ n) : (σ.set d v).getD n .undef = σ.getD n .undef := by
  simp [List.getD_eq_getElem?_getD,List.getElem?_set_ne h]
theorem evalX_set_ne {d n : Nat} {v : AV} (h : d ≠ n) : evalX (σ.set d v) (.t n) = evalX σ (.t n) := by
  simp only [evalX,getD_set_ne h]
theorem like_set {d : Nat} {v : AV} {l : List Nat} (h : d ∉ l) : Like l σ (σ.set d v) := fun n hn => evalX_set_ne (fun e => h (e ▸ hn))
theorem getD_set_box {d n : Nat} {v : AV} {xs : List AV} (hv : v.isBox = false) (h : (σ.set d v).getD n .undef = .lbox xs) : d ≠ n ∧ σ.getD n .undef = .lbox xs := by
  by_cases e : d = n
  · subst e
    exfalso
    rw [List.getD_eq_getElem?_getD] at h
    by_cases hl : d < σ.length
    · rw [List.getElem?_set_self hl] at h
      simp at h
      subst h
      simp [AV.isBox] at hv
    · rw [List.getElem?_eq_none (by simp; omega)] at h
      simp at h
  · exact ⟨e,by rw [← getD_set_ne e]; exact h⟩
theorem loadA_under {d : Nat} {va : AV} (hv : va.isBox = false) {k : Option Nat} {X r : AV} (h : loadA (σ.set d va) H k X = some r) : loadA σ H k X = some r := by
  cases X <;> simp only [loadA] at h ⊢ <;> try exact h
  case lptr e i =>
    split at h
    · rename_i xs hx
      obtain ⟨_,h2⟩ := getD_set_box hv hx
      rw [h2]; exact h
    · simp at h
theorem loadA_over {d : Nat} {va : AV} {k : Option Nat} {X r : AV} (h : loadA σ H k X = some r) (hn : ∀ i,X ≠ .lptr d i) : loadA (σ.set d va) H k X = some r := by
  cases X <;> simp only [loadA] at h ⊢ <;> try exact h
  case lptr e i =>
    have : d ≠ e := fun x => hn i (by rw [x])
    rw [getD_set_ne this]; exact h
theorem opA_rd {d : Option Nat} {so : SOp} (hc : so.cls = .read) : opA C d so σ H = (rdv so σ H).map fun v => (v,σ,H) := by
  cases so <;> simp only [SOp.cls,reduceCtorEq] at hc
  case load k x => rfl
  case conv k x =>
    cases k <;> simp only [SOp.cls,reduceCtorEq] at hc
    simp only [opA,rdv]
    split <;> simp_all
    rw [← Option.map_bind]
    cases rdRow0 H _ _ _ _ <;> simp [Function.comp_def]
theorem rdv_under {d : Nat} {va : AV} (hv : va.isBox = false) {so : SOp} {r : AV} (hl : d ∉ so.slots) (h : rdv so (σ.set d va) H = some r) : rdv so σ H = some r := by
  have hlk : Like so.slots (σ.set d va) σ := fun n hn => ((like_set hl) n hn).symm
  cases so <;> simp only [rdv,reduceCtorEq] at h ⊢
  case load k x =>
    rw [← hlk.x] at h
    exact loadA_under hv h
  case conv k x =>
    cases k <;> simp only [rdv,reduceCtorEq] at h ⊢
    rw [← hlk.x] at h
    exact h
theorem rdv_over {d : Nat} {va : AV} {so : SOp} {r : AV} (hl : d ∉ so.slots) (hb : (σ.getD d .undef).isBox = false) (h : rdv so σ H = some r) : rdv so (σ.set d va) H = some r := by
  have hlk : Like so.slots (σ.set d va) σ := fun n hn => ((like_set hl) n hn).symm
  cases so <;> simp only [rdv,reduceCtorEq] at h ⊢
  case load k x =>
    rw [← hlk.x]
    refine loadA_over h fun i hi => ?_
    rw [hi] at h
    simp only [loadA] at h
    split at h
    · rename_i xs hx
      rw [hx] at hb
      simp [AV.isBox] at hb
    · simp at h
  case conv k x =>
    cases k <;> simp only [rdv,reduceCtorEq] at h ⊢
    rw [← hlk.x]
    exact h
def BoxEq (da : Nat) (σ σi : List AV) : Prop := σi = σ ∨ ∃ e xs ys,e ≠ da ∧ σ.getD e .undef = .lbox xs ∧ σi = σ.set e (.lbox ys)
theorem BoxEq.eval {da : Nat} {σi : List AV} (h : BoxEq da σ σi) (x : SX) : evalX σi x = evalX σ x := by
  rcases h with rfl | ⟨e,xs,ys,_,h2,rfl⟩
  · rfl
  · cases x with
    | k v => rfl
    | t n =>
      by_cases he : e = n
      · subst he
        have hl : e < σ.length := by
          by_cases hl : e < σ.length
          · exact hl
          · rw [List.getD_eq_getElem?_getD,List.getElem?_eq_none (by omega)] at h2
            simp at h2
        simp only [evalX,h2]
        simp [List.getD_eq_getElem?_getD,List.getElem?_set_self hl]
      · exact evalX_set_ne he
theorem storeA_under {da : Nat} {va : AV} (hv : va.isBox = false) {k : Option Nat} {X Y : AV} {σ2 : List AV} {H2 : Heap} (h : storeA (σ.set da va) H k X Y = some (σ2,H2)) :
    ∃ σi,storeA σ H k X Y = some (σi,H2) ∧ σ2 = σi.set da va ∧ BoxEq da σ σi := by
  cases X <;> simp only [storeA] at h ⊢ <;> try (simp at h; done)
  case ptr r i g =>
    split at h
    · obtain ⟨z,h1,h2⟩ := Option.map_eq_some_iff.1 h
      simp only [Prod.mk.injEq] at h2
      obtain ⟨rfl,rfl⟩ := h2
      exact ⟨σ,by simp [h1],rfl,.inl rfl⟩
    · split at h
      · rename_i hl
        obtain ⟨z,h1,h2⟩ := Option.map_eq_some_iff.1 h
        simp only [Prod.mk.injEq] at h2
        obtain ⟨rfl,rfl⟩ := h2
        exact ⟨σ,by simp [h1,hl],rfl,.inl rfl⟩
      · simp at h
    · simp at h
  case lptr e i =>
    split at h
    · rename_i xs hx
      obtain ⟨hne,h2⟩ := getD_set_box hv hx
      rw [h2]
      simp only
      split at h
      · rename_i hf
        rw [if_pos hf]
        split at h
        · split at h
          · rename_i h1
            rw [if_pos h1]
            obtain ⟨z,h3,h4⟩ := Option.map_eq_some_iff.1 h
            simp only [Prod.mk.injEq] at h4
            obtain ⟨rfl,rfl⟩ := h4
            exact ⟨_,by rw [h3]; rfl,List.set_comm _ _ (Ne.symm hne).symm,.inr ⟨e,xs,z,Ne.symm hne,h2,rfl⟩⟩
          · simp at h
        · split at h
          · rename_i h1
            rw [if_pos h1]
            obtain ⟨z,h3,h4⟩ := Option.map_eq_some_iff.1 h
            simp only [Prod.mk.injEq] at h4
            obtain ⟨rfl,rfl⟩ := h4
            exact ⟨_,by rw [h3]; rfl,List.set_comm _ _ (Ne.symm hne).symm,.inr ⟨e,xs,z,Ne.symm hne,h2,rfl⟩⟩
          · simp at h
        · simp at h
      · simp at h
    · simp at h
theorem mapEq {α : Type} {x : Option α} {f : α → AV × List AV × Heap} {y : AV × List AV × Heap} (h : x.map f = some y) : ∃ z,x = some z ∧ f z = y := Option.map_eq_some_iff.1 h
theorem opA_under {da : Nat} {va : AV} (hv : va.isBox = false) {d : Option Nat} {so : SOp} (hn : so.noL = true) (hl : da ∉ so.slots) {v : AV} {σ2 : List AV} {H2 : Heap} (h : opA C d so (σ.set da va) H = some (v,σ2,H2)) :
    ∃ σi,opA C d so σ H = some (v,σi,H2) ∧ σ2 = σi.set da va ∧ BoxEq da σ σi := by
  have hlk : Like so.slots (σ.set da va) σ := fun n hn => ((like_set hl) n hn).symm
  by_cases hp : so.cls = .pure
  · obtain ⟨rfl,rfl,h1⟩ := opA_pure (C' := C) (H' := H) hp hlk h
    exact ⟨σ,h1,rfl,.inl rfl⟩
  · cases so <;> simp only [SOp.cls,not_true,reduceCtorEq,not_false_iff] at hp <;> simp only [SOp.noL,reduceCtorEq] at hn <;> simp only [SOp.slots] at hlk
    case bad => simp [opA] at h
    case new zs =>
      simp only [opA,Option.some.injEq,Prod.mk.injEq] at h ⊢
      obtain ⟨rfl,rfl,rfl⟩ := h
      exact ⟨σ,⟨rfl,rfl,rfl⟩,rfl,.inl rfl⟩
    case box k x =>
      simp only [opA,← hlk.x] at h ⊢
      split at h
      · rename_i hc
        simp only [Option.some.injEq,Prod.mk.injEq] at h
        obtain ⟨rfl,rfl,rfl⟩ := h
        exact ⟨σ,by simp [hc],rfl,.inl rfl⟩
      · simp at h
    case bslice len sz zs ps =>
      simp only [opA,← hlk.ps] at h ⊢
      obtain ⟨cs,h1,h2⟩ := Option.bind_eq_some_iff.1 h
      split at h2
      · rename_i hc
        simp only [Option.some.injEq,Prod.mk.injEq] at h2
        obtain ⟨rfl,rfl,rfl⟩ := h2
        exact ⟨σ,Option.bind_eq_some_iff.2 ⟨cs,h1,by rw [if_pos hc]⟩,rfl,.inl rfl⟩
      · simp at h2
    case load k x =>
      simp only [opA,← hlk.x] at h ⊢
      obtain ⟨z,h1,h2⟩ := mapEq h
      simp only [Prod.mk.injEq] at h2
      obtain ⟨rfl,rfl,rfl⟩ := h2
      exact ⟨σ,by rw [loadA_under hv h1]; rfl,rfl,.inl rfl⟩
    case store k x y =>
      simp only [opA,← hlk.left.x,← hlk.right.x] at h ⊢
      obtain ⟨⟨z1,z2⟩,h1,h2⟩ := mapEq h
      simp only [Prod.mk.injEq] at h2
      obtain ⟨rfl,rfl,rfl⟩ := h2
      obtain ⟨σi,h3,h4,h5⟩ := storeA_under hv h1
      exact ⟨σi,by rw [h3]; rfl,h4,h5⟩
    case conv k x =>
      cases k <;> simp only [SOp.cls,not_true] at hp <;> simp only [opA,← hlk.x] at h ⊢
      case toStr =>
        generalize evalX σ x = X at h ⊢
        split at h <;> first | (simp at h; done) | (rename_i hk; simp at hk; done) | (rename_i hk _; simp at hk; done) | skip
        · simp only [Option.some.injEq,Prod.mk.injEq] at h
          obtain ⟨rfl,rfl,rfl⟩ := h
          exact ⟨σ,rfl,rfl,.inl rfl⟩
        · obtain ⟨z,h1,h2⟩ := mapEq h
          simp only [Prod.mk.injEq] at h2
          obtain ⟨rfl,rfl,rfl⟩ := h2
          exact ⟨σ,by rw [h1]; rfl,rfl,.inl rfl⟩
      case toBytes =>
        generalize evalX σ x = X at h ⊢
        split at h <;> first | (simp at h; done) | (rename_i hk; simp at hk; done) | (rename_i hk _; simp at hk; done) | skip
        · split at h
          · rename_i hc
            simp only [Option.some.injEq,Prod.mk.injEq] at h
            obtain ⟨rfl,rfl,rfl⟩ := h
            exact ⟨σ,by simp [hc],rfl,.inl rfl⟩
          · simp at h
      case mark =>
        generalize evalX σ x = X at h ⊢
        split at h <;> first | (simp at h; done) | (rename_i hk; simp at hk; done) | (rename_i hk _; simp at hk; done) | skip
        obtain ⟨o1,h3,h⟩ := Option.bind_eq_some_iff.1 h
        split at h
        · split at h
          · rename_i hc
            simp only [Option.some.injEq,Prod.mk.injEq] at h
            obtain ⟨rfl,rfl,rfl⟩ := h
            exact ⟨σ,by simp [h3,hc],rfl,.inl rfl⟩
          · simp at h
        · simp at h
    case mks sz bytes zs l c =>
      simp only [opA,← hlk.left.x,← hlk.right.x] at h ⊢
      split at h
      · rename_i he1 he2
        split at h
        · rename_i hc
          simp only [Option.some.injEq,Prod.mk.injEq] at h
          obtain ⟨rfl,rfl,rfl⟩ := h
          exact ⟨σ,by simp [he1,he2,hc],rfl,.inl rfl⟩
        · simp at h
      · simp at h
    case mknz sz bytes s x =>
      simp only [opA,← hlk.left.x,← hlk.right.xo] at h ⊢
      split at h
      · rename_i he1 he2
        split at h
        · rename_i hc
          simp only [Option.some.injEq,Prod.mk.injEq] at h
          obtain ⟨rfl,rfl,rfl⟩ := h
          exact ⟨σ,if_pos hc,rfl,.inl rfl⟩
        · simp at h
      · rename_i he1 he2
        split at h
        · rename_i hc
          simp only [Option.some.injEq,Prod.mk.injEq] at h
          obtain ⟨rfl,rfl,rfl⟩ := h
          exact ⟨σ,if_pos hc,rfl,.inl rfl⟩
        · simp at h
      · simp at h
    case call f xs =>
      simp only [opA,← hlk.xs] at h ⊢
      split at h
      · rename_i hc
        obtain ⟨z,h1,h2⟩ := mapEq h
        simp only [Prod.mk.injEq] at h2
        obtain ⟨rfl,rfl,rfl⟩ := h2
        exact ⟨σ,by simp [hc,h1],rfl,.inl rfl⟩
      · simp at h
    case callv x xs =>
      simp only [opA,← hlk.left.x,← hlk.right.xs] at h ⊢
      split at h
      · rename_i he
        split at h
        · rename_i hc
          obtain ⟨z,h1,h2⟩ := mapEq h
          simp only [Prod.mk.injEq] at h2
          obtain ⟨rfl,rfl,rfl⟩ := h2
          exact ⟨σ,by simp [he,hc,h1],rfl,.inl rfl⟩
        · simp at h
      · simp at h
    case append sz bytes s x =>
      simp only [opA,← hlk.left.x,← hlk.right.x] at h ⊢
      obtain ⟨z,h1,h2⟩ := mapEq h
      simp only [Prod.mk.injEq] at h2
      obtain ⟨rfl,rfl,rfl⟩ := h2
      exact ⟨σ,by rw [h1]; rfl,rfl,.inl rfl⟩
    case copy sz dd ss =>
      simp only [opA,← hlk.left.x,← hlk.right.x] at h ⊢
      obtain ⟨nd,e1,h⟩ := Option.bind_eq_some_iff.1 h
      obtain ⟨ns,e2,h⟩ := Option.bind_eq_some_iff.1 h
      obtain ⟨cs,e3,h⟩ := Option.bind_eq_some_iff.1 h
      simp only [e1,e2,e3,Option.bind_some]
      split at h
      · rename_i he
        simp only [Option.some.injEq,Prod.mk.injEq] at h
        obtain ⟨rfl,rfl,rfl⟩ := h
        exact ⟨σ,by simp,rfl,.inl rfl⟩
      · rename_i he
        split at h
        · rename_i hz
          simp only [Option.some.injEq,Prod.mk.injEq] at h
          obtain ⟨rfl,rfl,rfl⟩ := h
          exact ⟨σ,by simp [hz],rfl,.inl rfl⟩
        · rename_i hz
          obtain ⟨z,h1,h2⟩ := mapEq h
          simp only [Prod.mk.injEq] at h2
          obtain ⟨rfl,rfl,rfl⟩ := h2
          exact ⟨σ,by simp [hz,h1],rfl,.inl rfl⟩
      · simp at h
end
end Go.A
