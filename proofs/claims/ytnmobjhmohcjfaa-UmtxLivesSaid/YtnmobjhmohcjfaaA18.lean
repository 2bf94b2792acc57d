/- THE ABSTRACT MACHINE: runs without a count of steps. -/
import Derived.Test.YtnmobjhmohcjfaaA17
set_option linter.unusedSimpArgs false
set_option linter.unusedVariables false
set_option linter.unnecessarySimpa false
namespace Go.A
open Go
def Le {α : Type} (x y : Option α) : Prop := ∀ a,x = some a → y = some a
def Mono {α : Type} (f : Nat → Option α) : Prop := ∀ n m,n ≤ m → Le (f n) (f m)
open Classical in
noncomputable def lim {α : Type} (f : Nat → Option α) : Option α := if h : ∃ x n,f n = some x then some h.choose else none
section
variable {α β : Type}
theorem lim_iff {f : Nat → Option α} (hm : Mono f) {x : α} : lim f = some x ↔ ∃ n,f n = some x := by
 unfold lim
 constructor
 ·intro h
  split at h
  ·rename_i hx
   obtain rfl := Option.some.inj h
   exact hx.choose_spec
  ·simp at h
 ·rintro ⟨n,hn⟩
  have hx : ∃ x n,f n = some x := ⟨x,n,hn⟩
  rw [dif_pos hx]
  obtain ⟨m,hm'⟩ := hx.choose_spec
  have h1 := hm n (max n m) (Nat.le_max_left _ _) _ hn
  have h2 := hm m (max n m) (Nat.le_max_right _ _) _ hm'
  rw [h1] at h2
  exact h2.symm
theorem lim_eq {f : Nat → Option α} (hm : Mono f) {r : Option α} (h : ∀ x,r = some x ↔ ∃ n,f n = some x) : lim f = r := by
 cases hr : r with
 | some x => exact (lim_iff hm).2 ((h x).1 hr)
 | none =>
  cases hl : lim f with
  | none => rfl
  | some y =>
   have := (h y).2 ((lim_iff hm).1 hl)
   rw [hr] at this
   simp at this
theorem mono_const (x : Option α) : Mono fun _ => x := fun _ _ _ _ h => h
theorem lim_const (x : Option α) : lim (fun _ => x) = x := lim_eq (mono_const x) fun _ => ⟨fun h => ⟨0,h⟩,fun ⟨_,h⟩ => h⟩
theorem mono_bind {f : Nat → Option α} {g : Nat → α → Option β} (hf : Mono f) (hg : ∀ x,Mono fun n => g n x) : Mono fun n => (f n).bind (g n) := by
 intro n m hnm b h
 obtain ⟨x,h1,h2⟩ := Option.bind_eq_some_iff.1 h
 exact Option.bind_eq_some_iff.2 ⟨x,hf n m hnm x h1,hg x n m hnm b h2⟩
theorem lim_bind {f : Nat → Option α} {g : Nat → α → Option β} (hf : Mono f) (hg : ∀ x,Mono fun n => g n x) : lim (fun n => (f n).bind (g n)) = (lim f).bind fun x => lim fun n => g n x := by
 refine lim_eq (mono_bind hf hg) fun b => ⟨fun h => ?_,fun ⟨n,h⟩ => ?_⟩
 ·obtain ⟨x,h1,h2⟩ := Option.bind_eq_some_iff.1 h
  obtain ⟨n,hn⟩ := (lim_iff hf).1 h1
  obtain ⟨m,hm⟩ := (lim_iff (hg x)).1 h2
  exact ⟨max n m,Option.bind_eq_some_iff.2 ⟨x,hf n _ (Nat.le_max_left _ _) x hn,hg x m _ (Nat.le_max_right _ _) b hm⟩⟩
 ·obtain ⟨x,h1,h2⟩ := Option.bind_eq_some_iff.1 h
  exact Option.bind_eq_some_iff.2 ⟨x,(lim_iff hf).2 ⟨n,h1⟩,(lim_iff (hg x)).2 ⟨n,h2⟩⟩
theorem mono_map {f : Nat → Option α} {g : α → β} (hf : Mono f) : Mono fun n => (f n).map g := by
 intro n m hnm b h
 obtain ⟨x,h1,h2⟩ := Option.map_eq_some_iff.1 h
 exact Option.map_eq_some_iff.2 ⟨x,hf n m hnm x h1,h2⟩
theorem lim_map {f : Nat → Option α} {g : α → β} (hf : Mono f) : lim (fun n => (f n).map g) = (lim f).map g := by
 refine lim_eq (mono_map hf) fun b => ⟨fun h => ?_,fun ⟨n,h⟩ => ?_⟩
 ·obtain ⟨x,h1,h2⟩ := Option.map_eq_some_iff.1 h
  obtain ⟨n,hn⟩ := (lim_iff hf).1 h1
  exact ⟨n,Option.map_eq_some_iff.2 ⟨x,hn,h2⟩⟩
 ·obtain ⟨x,h1,h2⟩ := Option.map_eq_some_iff.1 h
  exact Option.map_eq_some_iff.2 ⟨x,(lim_iff hf).2 ⟨n,h1⟩,h2⟩
theorem lim_succ {f : Nat → Option α} (hf : Mono f) : lim (fun n => f (n + 1)) = lim f :=
 lim_eq (fun n m h => hf _ _ (by omega)) fun x => ⟨fun h => by
  obtain ⟨n,hn⟩ := (lim_iff hf).1 h
  exact ⟨n,hf n (n + 1) (by omega) x hn⟩,fun ⟨n,h⟩ => (lim_iff hf).2 ⟨n + 1,h⟩⟩
theorem mono_if {p : Prop} [Decidable p] {f g : Nat → Option α} (hf : Mono f) (hg : Mono g) : Mono fun n => if p then f n else g n := by
 intro n m h a ha
 by_cases hp : p
 ·simp only [hp,if_true] at ha ⊢; exact hf n m h a ha
 ·simp only [hp,if_false] at ha ⊢; exact hg n m h a ha
theorem lim_if {p : Prop} [Decidable p] {f g : Nat → Option α} : lim (fun n => if p then f n else g n) = if p then lim f else lim g := by
 by_cases hp : p
 ·simp only [hp,if_true]
 ·simp only [hp,if_false]
end
def OLe (C D : Oracle) : Prop := ∀ f a H,Le (C f a H) (D f a H)
section
variable {C D : Oracle}
theorem opA_mono (h : OLe C D) (d : Option Nat) (so : SOp) (σ : List AV) (H : Heap) : Le (opA C d so σ H) (opA D d so σ H) := by
 intro y hy
 cases so
 case call f xs =>
  simp only [opA] at hy ⊢
  split at hy
  ·rename_i hf
   rw [if_pos hf]
   obtain ⟨z,h1,h2⟩ := Option.map_eq_some_iff.1 hy
   exact Option.map_eq_some_iff.2 ⟨z,h _ _ _ z h1,h2⟩
  ·simp at hy
 case callv x xs =>
  simp only [opA] at hy ⊢
  split at hy
  ·split at hy
   ·rename_i hf
    rw [if_pos hf]
    obtain ⟨z,h1,h2⟩ := Option.map_eq_some_iff.1 hy
    exact Option.map_eq_some_iff.2 ⟨z,h _ _ _ z h1,h2⟩
   ·simp at hy
  ·simp at hy
 case cut k x lo hi mx => cases k <;> exact hy
 case len k x => cases k <;> exact hy
 all_goals exact hy
theorem runOps_mono (h : OLe C D) : ∀ (l : List SOpG) (σ : List AV) (H : Heap),Le (runOps C l σ H) (runOps D l σ H)
 | [],_,_ => fun _ hy => hy
 | o :: r,σ,H => fun y hy => by
  simp only [runOps] at hy ⊢
  split at hy
  ·obtain ⟨⟨v,s,G⟩,h1,h2⟩ := Option.bind_eq_some_iff.1 hy
   exact Option.bind_eq_some_iff.2 ⟨⟨v,s,G⟩,opA_mono h _ _ _ _ _ h1,runOps_mono h r _ _ y h2⟩
  ·exact runOps_mono h r _ _ y hy
  ·simp at hy
theorem stepA_mono (h : OLe C D) (o : SOpG) (σ : List AV) (H : Heap) : Le (stepA C o σ H) (stepA D o σ H) := fun y hy => by
 unfold stepA at hy ⊢
 split at hy
 ·simp at hy
 ·rename_i hb
  rw [if_neg hb]
  split at hy
  ·obtain ⟨⟨v,s,G⟩,h1,h2⟩ := Option.bind_eq_some_iff.1 hy
   exact Option.bind_eq_some_iff.2 ⟨⟨v,s,G⟩,opA_mono h _ _ _ _ _ h1,h2⟩
  ·exact hy
  ·simp at hy
theorem runD_mono (h : OLe C D) : ∀ (l acc : List DOp) (σ : List AV) (H : Heap),Le (runD C acc l σ H) (runD D acc l σ H)
 | [],_,_,_ => fun _ hy => hy
 | d :: r,acc,σ,H => fun y hy => by
  simp only [runD] at hy ⊢
  obtain ⟨⟨s,G⟩,h1,h2⟩ := Option.bind_eq_some_iff.1 hy
  refine Option.bind_eq_some_iff.2 ⟨⟨s,G⟩,stepA_mono h _ _ _ _ h1,?_⟩
  simp only at h2 ⊢
  split at h2
  ·rename_i hc
   rw [if_pos hc]; exact runD_mono h r _ _ _ y h2
  ·simp at h2
theorem iter_mono {f g : List AV → Heap → Option St} (h : ∀ σ H,Le (f σ H) (g σ H)) : ∀ {n m : Nat},n ≤ m → ∀ (σ : List AV) (H : Heap),Le (iter f n σ H) (iter g m σ H)
 | 0,_,_,_,_ => fun y hy => by simp [iter] at hy
 | n + 1,0,h1,_,_ => by omega
 | n + 1,m + 1,h1,σ,H => fun y hy => by
  simp only [iter] at hy ⊢
  obtain ⟨s,h2,h3⟩ := Option.bind_eq_some_iff.1 hy
  refine Option.bind_eq_some_iff.2 ⟨s,h _ _ _ h2,?_⟩
  cases he : s.e <;> rw [he] at h3 <;> first | exact iter_mono h (by omega) _ _ y h3 | exact h3
theorem jumps_mono {f g : List AV → Heap → Option St} (h : ∀ σ H,Le (f σ H) (g σ H)) (l : Nat) : ∀ {n m : Nat},n ≤ m → ∀ s,Le (jumps f l n s) (jumps g l m s)
 | 0,_,_,_ => fun y hy => by simp [jumps] at hy
 | n + 1,0,h1,_ => by omega
 | n + 1,m + 1,h1,s => fun y hy => by
  simp only [jumps] at hy ⊢
  split at hy
  ·rename_i he
   rw [if_pos he]
   obtain ⟨s',h2,h3⟩ := Option.bind_eq_some_iff.1 hy
   exact Option.bind_eq_some_iff.2 ⟨s',h _ _ _ h2,jumps_mono h l (by omega) _ y h3⟩
  ·rename_i he
   rw [if_neg he]; exact hy
theorem exec_mono (h : OLe C D) {n m : Nat} (hnm : n ≤ m) : ∀ (s : SCode) (σ : List AV) (H : Heap),Le (exec C n s σ H) (exec D m s σ H)
 | .skip,_,_ => fun _ hy => hy
 | .label _,_,_ => fun _ hy => hy
 | .exit _,_,_ => fun _ hy => hy
 | .goto _,_,_ => fun _ hy => hy
 | .ret,_,_ => fun _ hy => hy
 | .region ks ops,σ,H => fun y hy => by
  simp only [exec] at hy ⊢
  obtain ⟨z,h1,h2⟩ := Option.map_eq_some_iff.1 hy
  exact Option.map_eq_some_iff.2 ⟨z,runOps_mono h _ _ _ _ h1,h2⟩
 | .drawn ks ops,σ,H => fun y hy => by
  simp only [exec] at hy ⊢
  obtain ⟨z,h1,h2⟩ := Option.map_eq_some_iff.1 hy
  exact Option.map_eq_some_iff.2 ⟨z,runD_mono h _ _ _ _ _ h1,h2⟩
 | .seq a b,σ,H => fun y hy => by
  simp only [exec] at hy ⊢
  obtain ⟨s,h1,h2⟩ := Option.bind_eq_some_iff.1 hy
  refine Option.bind_eq_some_iff.2 ⟨s,exec_mono h hnm a _ _ _ h1,?_⟩
  cases he : s.e <;> rw [he] at h2 <;> first | exact exec_mono h hnm b _ _ _ h2 | exact h2
 | .cond x a b,σ,H => fun y hy => by
  simp only [exec] at hy ⊢
  split at hy
  ·split at hy
   ·rename_i ht
    rw [if_pos ht]; exact exec_mono h hnm a _ _ _ hy
   ·rename_i ht
    rw [if_neg ht]; exact exec_mono h hnm b _ _ _ hy
  ·simp at hy
 | .block id b,σ,H => fun y hy => by
  simp only [exec] at hy ⊢
  obtain ⟨z,h1,h2⟩ := Option.map_eq_some_iff.1 hy
  exact Option.map_eq_some_iff.2 ⟨z,exec_mono h hnm b _ _ _ h1,h2⟩
 | .loop b,σ,H => fun y hy => by
  simp only [exec] at hy ⊢
  exact iter_mono (fun σ H => exec_mono h hnm b σ H) hnm σ H y hy
 | .scope b l r,σ,H => fun y hy => by
  simp only [exec] at hy ⊢
  obtain ⟨s,h1,h2⟩ := Option.bind_eq_some_iff.1 hy
  exact Option.bind_eq_some_iff.2 ⟨s,exec_mono h hnm b _ _ _ h1,jumps_mono (fun σ H => exec_mono h hnm r σ H) l hnm _ _ h2⟩
end
section
variable (T : FuncId → Option SFun) (X : Oracle)
theorem callN_step : ∀ n,OLe (callN T X n) (callN T X (n + 1))
 | 0 => fun f a H y hy => by simp [callN] at hy
 | n + 1 => fun f a H y hy => by
  rw [callN] at hy ⊢
  split at hy
  ·exact hy
  ·obtain ⟨s,hs,h⟩ := Option.bind_eq_some_iff.1 hy
   obtain ⟨st,hst,h⟩ := Option.bind_eq_some_iff.1 h
   exact Option.bind_eq_some_iff.2 ⟨s,hs,Option.bind_eq_some_iff.2 ⟨st,exec_mono (callN_step n) (Nat.le_succ n) _ _ _ _ hst,h⟩⟩
theorem callN_le {n m : Nat} (h : n ≤ m) : OLe (callN T X n) (callN T X m) := by
 induction h with
 | refl => exact fun _ _ _ _ h => h
 | step _ ih => exact fun f a H y hy => callN_step T X _ f a H y (ih f a H y hy)
noncomputable def callW : Oracle := fun f a H => lim fun n => callN T X n f a H
noncomputable def execW (s : SCode) (σ : List AV) (H : Heap) : Option St := lim fun n => exec (callN T X n) n s σ H
noncomputable def jumpW (r : SCode) (l : Nat) (s : St) : Option St := lim fun n => jumps (exec (callN T X n) n r) l n s
theorem mono_call (f : FuncId) (a : List AV) (H : Heap) : Mono fun n => callN T X n f a H := fun n m h => callN_le T X h f a H
theorem mono_exec (s : SCode) (σ : List AV) (H : Heap) : Mono fun n => exec (callN T X n) n s σ H := fun n m h => exec_mono (callN_le T X h) h s σ H
theorem mono_ops (l : List SOpG) (σ : List AV) (H : Heap) : Mono fun n => runOps (callN T X n) l σ H := fun n m h => runOps_mono (callN_le T X h) l σ H
theorem mono_op (d : Option Nat) (so : SOp) (σ : List AV) (H : Heap) : Mono fun n => opA (callN T X n) d so σ H := fun n m h => opA_mono (callN_le T X h) d so σ H
theorem mono_jumps (r : SCode) (l : Nat) (s : St) : Mono fun n => jumps (exec (callN T X n) n r) l n s := fun n m h => jumps_mono (fun σ H => exec_mono (callN_le T X h) h r σ H) l h s
theorem callW_iff {f : FuncId} {a : List AV} {H : Heap} {y : AV × Heap} : callW T X f a H = some y ↔ ∃ n,callN T X n f a H = some y := lim_iff (mono_call T X f a H)
theorem lim_op (d : Option Nat) (so : SOp) (σ : List AV) (H : Heap) : lim (fun n => opA (callN T X n) d so σ H) = opA (callW T X) d so σ H := by
 cases so
 case call f xs =>
  simp only [opA]
  rw [lim_if,lim_map (mono_call T X _ _ _),lim_const]
  rfl
 case callv x xs =>
  simp only [opA]
  split
  ·rw [lim_if,lim_map (mono_call T X _ _ _),lim_const]
   rfl
  ·exact lim_const _
 case cut k x lo hi mx => cases k <;> exact lim_const _
 case len k x => cases k <;> exact lim_const _
 all_goals exact lim_const _
theorem lim_ops : ∀ (l : List SOpG) (σ : List AV) (H : Heap),lim (fun n => runOps (callN T X n) l σ H) = runOps (callW T X) l σ H
 | [],σ,H => lim_const _
 | o :: r,σ,H => by
  simp only [runOps]
  split
  ·rw [lim_bind (f := fun n => opA (callN T X n) o.dst o.op σ H) (g := fun n (x : AV × List AV × Heap) => runOps (callN T X n) r (setD x.2.1 o.dst x.1) x.2.2) (mono_op T X _ _ _ _) (fun x => mono_ops T X _ _ _),lim_op]
   congr 1
   funext x
   exact lim_ops r _ _
  ·exact lim_ops r _ _
  ·exact lim_const _
theorem mono_step (o : SOpG) (σ : List AV) (H : Heap) : Mono fun n => stepA (callN T X n) o σ H := fun n m h => stepA_mono (callN_le T X h) o σ H
theorem mono_runD (acc l : List DOp) (σ : List AV) (H : Heap) : Mono fun n => runD (callN T X n) acc l σ H := fun n m h => runD_mono (callN_le T X h) l acc σ H
theorem lim_step (o : SOpG) (σ : List AV) (H : Heap) : lim (fun n => stepA (callN T X n) o σ H) = stepA (callW T X) o σ H := by
 unfold stepA
 split
 ·exact lim_const _
 ·split
  ·rw [lim_bind (f := fun n => opA (callN T X n) o.dst o.op σ H) (g := fun _ (x : AV × List AV × Heap) => if x.1.isBox = true ∧ o.op.cls ≠ .eff then none else some (setD x.2.1 o.dst x.1,x.2.2)) (mono_op T X _ _ _ _) (fun x => mono_const _),lim_op]
   congr 1
   funext x
   exact lim_const _
  ·exact lim_const _
  ·exact lim_const _
theorem lim_runD : ∀ (l acc : List DOp) (σ : List AV) (H : Heap),lim (fun n => runD (callN T X n) acc l σ H) = runD (callW T X) acc l σ H
 | [],_,σ,H => lim_const _
 | d :: r,acc,σ,H => by
  simp only [runD]
  have hg : ∀ x : List AV × Heap,Mono fun n => (if (acc.all fun z => !d.un.contains z.i || sameB x.1 x.2 z.o) = true ∧ okN d σ = true then runD (callN T X n) (d :: acc) r x.1 x.2 else none : Option (List AV × Heap)) := fun x => mono_if (mono_runD T X _ _ _ _) (mono_const _)
  rw [lim_bind (f := fun n => stepA (callN T X n) d.o σ H) (mono_step T X _ _ _) hg,lim_step]
  congr 1
  funext x
  rw [lim_if,lim_runD r,lim_const]
theorem callW_eq (f : FuncId) (a : List AV) (H : Heap) : callW T X f a H = match X f a H with
  | some y => some y
  | none => (T f).bind fun s => (execW T X s.body (slots0 s.nslots a) H).bind fun st =>
    if st.e.ends = true then (resultsA s.res st.σ).bind fun v => if v.free = true then some (v,st.H) else none else none := by
 unfold callW
 rw [← lim_succ (mono_call T X f a H)]
 simp only [callN]
 cases hx : X f a H with
 | some y => exact lim_const _
 | none =>
  cases hs : T f with
  | none => exact lim_const _
  | some s =>
   simp only [Option.bind_some]
   rw [lim_bind (f := fun n => exec (callN T X n) n s.body (slots0 s.nslots a) H) (g := fun _ (st : St) => if st.e.ends = true then (resultsA s.res st.σ).bind fun v => if v.free = true then some (v,st.H) else none else none) (mono_exec T X _ _ _) (fun x => mono_const _)]
   simp only [lim_const]
   rfl
section
variable (σ : List AV) (H : Heap)
theorem execW_skip : execW T X .skip σ H = some ⟨.normal,σ,H⟩ := lim_const _
theorem execW_label (l : Nat) : execW T X (.label l) σ H = some ⟨.normal,σ,H⟩ := lim_const _
theorem execW_exit (l : Nat) : execW T X (.exit l) σ H = some ⟨.exit l,σ,H⟩ := lim_const _
theorem execW_goto (l : Nat) : execW T X (.goto l) σ H = some ⟨.goto l,σ,H⟩ := lim_const _
theorem execW_ret : execW T X .ret σ H = some ⟨.ret,σ,H⟩ := lim_const _
theorem execW_region (ks : List Nat) (ops : List SOpG) : execW T X (.region ks ops) σ H = (runOps (callW T X) ops (kill ks σ) H).map fun x => ⟨.normal,x.1,x.2⟩ := by
 unfold execW
 simp only [exec]
 rw [lim_map (f := fun n => runOps (callN T X n) ops (kill ks σ) H) (g := fun x => (⟨.normal,x.1,x.2⟩ : St)) (mono_ops T X _ _ _),lim_ops]
theorem execW_drawn (ks : List Nat) (ops : List DOp) : execW T X (.drawn ks ops) σ H = (runD (callW T X) [] ops (kill ks σ) H).map fun x => ⟨.normal,x.1,x.2⟩ := by
 unfold execW
 simp only [exec]
 rw [lim_map (f := fun n => runD (callN T X n) [] ops (kill ks σ) H) (g := fun x => (⟨.normal,x.1,x.2⟩ : St)) (mono_runD T X _ _ _ _),lim_runD]
def andThen (k : List AV → Heap → Option St) (s : St) : Option St := match s.e with
 | .normal => k s.σ s.H
 | _ => some s
theorem execW_seq (a b : SCode) : execW T X (.seq a b) σ H = (execW T X a σ H).bind (andThen (execW T X b)) := by
 unfold execW
 simp only [exec]
 have hg : ∀ x : St,Mono fun n => (match x.e with
   | .normal => exec (callN T X n) n b x.σ x.H
   | _ => some x : Option St) := fun x => by
  cases x.e <;> first | exact mono_exec T X _ _ _ | exact mono_const _
 refine (lim_bind (f := fun n => exec (callN T X n) n a σ H) (mono_exec T X _ _ _) hg).trans ?_
 congr 1
 funext x
 obtain ⟨e,s,G⟩ := x
 cases e <;> first | rfl | exact lim_const _
theorem execW_cond (x : SX) (a b : SCode) : execW T X (.cond x a b) σ H = match evalX σ x with
  | .c (.bool t) => if t = true then execW T X a σ H else execW T X b σ H
  | _ => none := by
 by_cases h : ∃ t,evalX σ x = .c (.bool t)
 ·obtain ⟨t,ht⟩ := h
  unfold execW
  simp only [exec,ht]
  exact lim_if (p := t = true)
 ·have e : (match evalX σ x with
   | .c (.bool t) => if t = true then execW T X a σ H else execW T X b σ H
   | _ => none) = none := by
   split
   ·rename_i t ht; exact (h ⟨t,ht⟩).elim
   ·rfl
  rw [e]
  unfold execW
  refine (congrArg lim (funext fun n => ?_)).trans (lim_const none)
  simp only [exec]
  split
  ·rename_i t ht; exact (h ⟨t,ht⟩).elim
  ·rfl
def unblock (id : Nat) (s : St) : St := if s.e = .exit id then ⟨.normal,s.σ,s.H⟩ else s
theorem execW_block (id : Nat) (b : SCode) : execW T X (.block id b) σ H = (execW T X b σ H).map (unblock id) := by
 unfold execW
 simp only [exec]
 exact lim_map (mono_exec T X _ _ _)
theorem execW_loop (b : SCode) : execW T X (.loop b) σ H = (execW T X b σ H).bind (andThen (execW T X (.loop b))) := by
 have e1 : ∀ σ H,execW T X (.loop b) σ H = lim fun n => iter (exec (callN T X n) n b) n σ H := fun σ H => rfl
 have hmi : ∀ σ H,Mono fun n => iter (exec (callN T X n) n b) n σ H := fun σ H n m h => iter_mono (fun σ H => exec_mono (callN_le T X h) h b σ H) h σ H
 have e2 : ∀ σ H,execW T X (.loop b) σ H = lim fun n => iter (exec (callN T X n) n b) (n + 1) σ H := fun σ H => by
  rw [e1]
  refine lim_eq (hmi σ H) fun x => ⟨fun h => ?_,fun ⟨n,h⟩ => ?_⟩
  ·rw [lim_iff (fun n m h => iter_mono (fun σ H => exec_mono (callN_le T X h) h b σ H) (by omega) σ H)] at h
   obtain ⟨n,h⟩ := h
   exact ⟨n + 1,iter_mono (fun σ H => exec_mono (callN_le T X (Nat.le_succ n)) (Nat.le_succ n) b σ H) (Nat.le_refl _) σ H x h⟩
  ·rw [lim_iff (fun n m h => iter_mono (fun σ H => exec_mono (callN_le T X h) h b σ H) (by omega) σ H)]
   exact ⟨n,iter_mono (fun σ H _ h => h) (Nat.le_succ n) σ H x h⟩
 rw [e2]
 simp only [iter]
 have hg : ∀ x : St,Mono fun n => (match x.e with
   | .normal => iter (exec (callN T X n) n b) n x.σ x.H
   | _ => some x : Option St) := fun x => by
  cases x.e <;> first | exact hmi _ _ | exact mono_const _
 refine (lim_bind (f := fun n => exec (callN T X n) n b σ H) (mono_exec T X _ _ _) hg).trans ?_
 unfold execW
 congr 1
 funext x
 obtain ⟨e,s,G⟩ := x
 cases e <;> first | rfl | exact lim_const _
theorem jumpW_eq (r : SCode) (l : Nat) (s : St) : jumpW T X r l s = if s.e = .goto l then (execW T X r s.σ s.H).bind (jumpW T X r l) else some s := by
 have hmi : ∀ s,Mono fun n => jumps (exec (callN T X n) n r) l n s := fun s => mono_jumps T X r l s
 have e2 : jumpW T X r l s = lim fun n => jumps (exec (callN T X n) n r) l (n + 1) s := by
  unfold jumpW
  refine lim_eq (hmi s) fun x => ⟨fun h => ?_,fun ⟨n,h⟩ => ?_⟩
  ·rw [lim_iff (fun n m h => jumps_mono (fun σ H => exec_mono (callN_le T X h) h r σ H) l (by omega) s)] at h
   obtain ⟨n,h⟩ := h
   exact ⟨n + 1,jumps_mono (fun σ H => exec_mono (callN_le T X (Nat.le_succ n)) (Nat.le_succ n) r σ H) l (Nat.le_refl _) s x h⟩
  ·rw [lim_iff (fun n m h => jumps_mono (fun σ H => exec_mono (callN_le T X h) h r σ H) l (by omega) s)]
   exact ⟨n,jumps_mono (fun σ H _ h => h) l (Nat.le_succ n) s x h⟩
 rw [e2]
 simp only [jumps]
 rw [lim_if,lim_const]
 split
 ·refine (lim_bind (f := fun n => exec (callN T X n) n r s.σ s.H) (mono_exec T X _ _ _) (fun x => hmi x)).trans ?_
  rfl
 ·rfl
theorem execW_scope (b : SCode) (l : Nat) (r : SCode) : execW T X (.scope b l r) σ H = (execW T X b σ H).bind (jumpW T X r l) := by
 unfold execW
 simp only [exec]
 exact lim_bind (f := fun n => exec (callN T X n) n b σ H) (mono_exec T X _ _ _) (fun x => mono_jumps T X r l x)
end
end
theorem callW_sound {P : Program} {T : FuncId → Option SFun} {X : Oracle} (hT : ∀ f s,T f = some s → ∃ ann,resolveF P ann f = some s) (hX : SoundO P X) (hmix : P.follows .mixedOrders = true) : SoundO P (callW T X) := fun f args H v H' h => by
 obtain ⟨n,hn⟩ := (callW_iff T X).1 h
 exact callN_sound hT hX hmix n f args H v H' hn
end Go.A
