/- The document's queue: all texts are kept. -/
import Derived.Test.YtnmobjhmohcjfaaXE
import Derived.Test.YtnmobjhmohcjfaaXA
import Derived.Test.YtnmobjhmohcjfaaV14
set_option linter.unusedSimpArgs false
set_option linter.unusedVariables false
set_option linter.unnecessarySimpa false
namespace Go.A.V.S
structure RQ where
 room : Nat
 L : List (List Nat)
 T : List Nat
 G : List Bool
def live : Nat → List (List Nat) → List Bool → List (Nat × List Nat)
 | k,b :: L,g :: G => if g = true then live (k + 1) L G else (k + 1,b) :: live (k + 1) L G
 | _,_,_ => []
def tks : List Nat → List Bool → List Nat
 | t :: T,g :: G => if g = true then tks T G else t :: tks T G
 | _,_ => []
theorem live_snoc : ∀ (k : Nat) (L : List (List Nat)) (G : List Bool) (b : List Nat),L.length = G.length → live k (L ++ [b]) (G ++ [false]) = live k L G ++ [(k + L.length + 1,b)]
 | k,[],[],b,_ => by simp [live]
 | k,[],g :: G,b,h => by simp at h
 | k,c :: L,[],b,h => by simp at h
 | k,c :: L,g :: G,b,h => by
  have ih := live_snoc (k + 1) L G b (by simpa using h)
  simp only [List.cons_append,live]
  rw [ih,List.length_cons,show k + (L.length + 1) + 1 = k + 1 + L.length + 1 by omega]
  cases g <;> simp
theorem tks_snoc : ∀ (T : List Nat) (G : List Bool) (t : Nat),T.length = G.length → tks (T ++ [t]) (G ++ [false]) = tks T G ++ [t]
 | [],[],t,_ => by simp [tks]
 | [],g :: G,t,h => by simp at h
 | c :: T,[],t,h => by simp at h
 | c :: T,g :: G,t,h => by
  have ih := tks_snoc T G t (by simpa using h)
  simp only [List.cons_append,tks]
  rw [ih]
  cases g <;> simp
theorem live_at : ∀ (k : Nat) (L : List (List Nat)) (T : List Nat) (G : List Bool) (i : Nat) (b : List Nat) (t : Nat),L.length = G.length → T.length = G.length → G[i]? = some false → L[i]? = some b → T[i]? = some t →
  ∃ j,(live k L G)[j]? = some (k + i + 1,b) ∧ (tks T G)[j]? = some t ∧ live k L (G.set i true) = (live k L G).eraseIdx j ∧ tks T (G.set i true) = (tks T G).eraseIdx j ∧ (live k L G).findIdx? (fun x => x.1 == k + i + 1) = some j ∧
   (∀ x,tks (T.set i x) G = (tks T G).set j x) ∧ (j = 0 ↔ ∀ m,m < i → G[m]? = some true)
 | k,c :: L,t0 :: T,g :: G,0,b,t,h,h2,hg,hl,ht => by
  simp at hg hl ht
  subst hg hl ht
  refine ⟨0,by simp [live],by simp [tks],by simp [live],by simp [tks],by simp [live,List.findIdx?_cons],fun x => by simp [tks],by simp⟩
 | k,c :: L,t0 :: T,g :: G,i + 1,b,t,h,h2,hg,hl,ht => by
  obtain ⟨j,a1,a2,a3,a4,a5,a6,a7⟩ := live_at (k + 1) L T G i b t (by simpa using h) (by simpa using h2) (by simpa using hg) (by simpa using hl) (by simpa using ht)
  have e : k + (i + 1) + 1 = k + 1 + i + 1 := by omega
  simp only [List.set_cons_succ,live,tks]
  rw [e]
  cases g with
  | true =>
   refine ⟨j,by simpa using a1,by simpa using a2,by simpa using a3,by simpa using a4,by simpa using a5,fun x => by simpa using a6 x,a7.trans ⟨fun h m hm => ?_,fun h m hm => ?_⟩⟩
   ·cases m with
    | zero => rfl
    | succ m => simpa using h m (by omega)
   ·simpa using h (m + 1) (by omega)
  | false =>
   refine ⟨j + 1,by simpa using a1,by simpa using a2,by simp [a3],by simp [a4],?_,fun x => by simp [a6 x],⟨fun h => by simp at h,fun h => ?_⟩⟩
   ·simp only [Bool.false_eq_true,if_false,List.findIdx?_cons]
    rw [a5,if_neg (by simp; omega)]
    rfl
   ·have := h 0 (by omega)
    simp at this
 | k,[],T,G,i,b,t,h,h2,hg,hl,ht => by simp at hl
 | k,c :: L,[],G,i,b,t,h,h2,hg,hl,ht => by simp at ht
 | k,c :: L,t0 :: T,[],i,b,t,h,h2,hg,hl,ht => by simp at h
theorem live_no : ∀ (k : Nat) (L : List (List Nat)) (G : List Bool) (id : Nat),L.length = G.length → (∀ i,id = k + i + 1 → G[i]? ≠ some false) → (live k L G).findIdx? (fun x => x.1 == id) = none
 | k,[],_,id,_,_ => by simp [live]
 | k,c :: L,[],id,h,_ => by simp at h
 | k,c :: L,g :: G,id,h,hi => by
  have ih := live_no (k + 1) L G id (by simpa using h) (fun i e => by
   have := hi (i + 1) (by omega)
   simpa using this)
  simp only [live]
  cases g with
  | true => simpa using ih
  | false =>
   have h0 := hi 0
   have : id ≠ k + 1 := fun e => by simp at h0; exact h0 (by omega)
   simp only [Bool.false_eq_true,if_false,List.findIdx?_cons,ih]
   rw [if_neg (by simp; omega)]
   rfl
theorem live_nil : ∀ (k : Nat) (L : List (List Nat)) (G : List Bool),L.length = G.length → (live k L G = [] ↔ ∀ g ∈ G,g = true)
 | k,[],[],_ => by simp [live]
 | k,[],g :: G,h => by simp at h
 | k,c :: L,[],h => by simp at h
 | k,c :: L,g :: G,h => by
  have ih := live_nil (k + 1) L G (by simpa using h)
  simp only [live]
  cases g <;> simp [ih]
structure Rel (q : QM) (r : RQ) : Prop where
 room : r.room = q.room
 n1 : r.L.length = q.last
 n2 : r.T.length = q.last
 n3 : r.G.length = q.last
 l : live 0 r.L r.G = q.l
 t : tks r.T r.G = (match q.l with | [] => [] | _ :: s => q.taken :: List.replicate s.length 0)
def RQ.push (r : RQ) (b : List Nat) : RQ := ⟨r.room,r.L ++ [b],r.T ++ [0],r.G ++ [false]⟩
theorem Rel.push {q : QM} {r : RQ} (hq : q.Ok) (h : Rel q r) (b : List Nat) : Rel ⟨q.room,q.l ++ [(q.last + 1,b)],q.taken,q.last + 1⟩ (r.push b) where
 room := h.room
 n1 := by simp [RQ.push,h.n1]
 n2 := by simp [RQ.push,h.n2]
 n3 := by simp [RQ.push,h.n3]
 l := by
  simp only [RQ.push]
  rw [live_snoc _ _ _ _ (by rw [h.n1,h.n3]),h.l,h.n1,Nat.zero_add]
 t := by
  simp only [RQ.push]
  rw [tks_snoc _ _ _ (by rw [h.n2,h.n3]),h.t]
  cases hl : q.l with
  | nil => simp [hq.top hl]
  | cons x s => simp [List.replicate_succ']
theorem Rel.first {q : QM} {r : RQ} (h : Rel q r) : match q.l with
  | [] => ∀ i,i < q.last → r.G[i]? = some true
  | t :: s => ∃ i,r.G[i]? = some false ∧ (∀ m,m < i → r.G[m]? = some true) ∧ i < q.last ∧ t = (i + 1,t.2) ∧ r.L[i]? = some t.2 ∧ r.T[i]? = some q.taken := by
 have hlg : r.L.length = r.G.length := by rw [h.n1,h.n3]
 have htg : r.T.length = r.G.length := by rw [h.n2,h.n3]
 split
 ·rename_i hl
  intro i hi
  have := (live_nil 0 r.L r.G hlg).1 (by rw [h.l,hl])
  rw [List.getElem?_eq_getElem (by rw [h.n3]; exact hi)]
  rw [this _ (List.getElem_mem _)]
 ·rename_i t s hl
  have hex : ∃ i : Nat,r.G[i]? = some false ∧ ∀ m : Nat,m < i → r.G[m]? = some true := by
   have : ∀ G : List Bool,(∀ g ∈ G,g = true) ∨ ∃ i : Nat,G[i]? = some false ∧ ∀ m : Nat,m < i → G[m]? = some true := by
    intro G
    induction G with
    | nil => exact .inl (by simp)
    | cons g G ih =>
     cases g with
     | false => exact .inr ⟨0,by simp,by simp⟩
     | true =>
      rcases ih with ih | ⟨i,h1,h2⟩
      ·exact .inl (by simpa using ih)
      ·refine .inr ⟨i + 1,by simpa using h1,fun m hm => ?_⟩
       cases m with
       | zero => rfl
       | succ m => simpa using h2 m (by omega)
   rcases this r.G with h1 | h1
   ·have := (live_nil 0 r.L r.G hlg).2 h1
    rw [h.l,hl] at this; simp at this
   ·exact h1
  obtain ⟨i,h1,h2⟩ := hex
  have hi : i < r.G.length := (List.getElem?_eq_some_iff.1 h1).1
  obtain ⟨b,hb⟩ : ∃ b,r.L[i]? = some b := ⟨_,List.getElem?_eq_getElem (by omega)⟩
  obtain ⟨tk,htk⟩ : ∃ b,r.T[i]? = some b := ⟨_,List.getElem?_eq_getElem (by omega)⟩
  obtain ⟨j,a1,a2,_,_,_,_,a7⟩ := live_at 0 r.L r.T r.G i b tk hlg htg h1 hb htk
  obtain rfl := a7.2 h2
  rw [h.l,hl] at a1
  rw [h.t,hl] at a2
  simp at a1 a2
  subst a1 a2
  exact ⟨i,h1,h2,by rw [← h.n3]; exact hi,rfl,hb,htk⟩
theorem Rel.take1 {q : QM} {r : RQ} (h : Rel q r) {t : Nat × List Nat} {s : List (Nat × List Nat)} (hl : q.l = t :: s) {i : Nat} (h1 : r.G[i]? = some false) (h2 : ∀ m : Nat,m < i → r.G[m]? = some true) (x : Nat) :
  Rel ⟨q.room,q.l,x,q.last⟩ ⟨r.room,r.L,r.T.set i x,r.G.set i false⟩ := by
 have hlg : r.L.length = r.G.length := by rw [h.n1,h.n3]
 have htg : r.T.length = r.G.length := by rw [h.n2,h.n3]
 have hi : i < r.G.length := (List.getElem?_eq_some_iff.1 h1).1
 obtain ⟨b,hb⟩ : ∃ b,r.L[i]? = some b := ⟨_,List.getElem?_eq_getElem (by omega)⟩
 obtain ⟨tk,htk⟩ : ∃ b,r.T[i]? = some b := ⟨_,List.getElem?_eq_getElem (by omega)⟩
 obtain ⟨j,a1,a2,_,_,_,a6,a7⟩ := live_at 0 r.L r.T r.G i b tk hlg htg h1 hb htk
 obtain rfl := a7.2 h2
 have hset : r.G.set i false = r.G := by
  apply List.ext_getElem?
  intro m
  rw [List.getElem?_set]
  split
  ·rename_i e; subst e; first | (rw [h1]; done) | simp [hi,h1]
  ·rfl
 refine ⟨h.room,h.n1,by simp [h.n2],by simp [h.n3],by simp only; rw [hset]; exact h.l,?_⟩
 simp only
 rw [hset,a6 x,h.t,hl]
 simp
theorem Rel.take2 {q : QM} {r : RQ} (h : Rel q r) {t : Nat × List Nat} {s : List (Nat × List Nat)} (hl : q.l = t :: s) {i : Nat} (h1 : r.G[i]? = some false) (h2 : ∀ m : Nat,m < i → r.G[m]? = some true) (x : Nat) :
  Rel ⟨q.room,s,0,q.last⟩ ⟨r.room,r.L,r.T.set i x,r.G.set i true⟩ := by
 have hlg : r.L.length = r.G.length := by rw [h.n1,h.n3]
 have htg : r.T.length = r.G.length := by rw [h.n2,h.n3]
 have hi : i < r.G.length := (List.getElem?_eq_some_iff.1 h1).1
 obtain ⟨b,hb⟩ : ∃ b,r.L[i]? = some b := ⟨_,List.getElem?_eq_getElem (by omega)⟩
 obtain ⟨tk,htk⟩ : ∃ b,r.T[i]? = some b := ⟨_,List.getElem?_eq_getElem (by omega)⟩
 obtain ⟨j,a1,a2,a3,a4,_,a6,a7⟩ := live_at 0 r.L r.T r.G i b tk hlg htg h1 hb htk
 obtain rfl := a7.2 h2
 obtain ⟨j,c1,c2,c3,c4,_,c6,c7⟩ := live_at 0 r.L (r.T.set i x) r.G i b x hlg (by simpa using htg) h1 hb (by rw [List.getElem?_set_self (by omega)])
 obtain rfl := c7.2 h2
 refine ⟨h.room,h.n1,by simp [h.n2],by simp [h.n3],by simp only; rw [a3,h.l,hl]; rfl,?_⟩
 simp only
 rw [c4,a6 x,h.t,hl]
 cases s <;> simp [List.replicate_succ]
theorem Rel.find {q : QM} {r : RQ} (h : Rel q r) (i : Nat) : if r.G[i]? = some false then ∃ j t,q.find (i + 1) = some j ∧ r.T[i]? = some t ∧ t = (if j = 0 then q.taken else 0) ∧ Rel ⟨q.room,q.l.eraseIdx j,if j = 0 then 0 else q.taken,q.last⟩ ⟨r.room,r.L,r.T,r.G.set i true⟩ else q.find (i + 1) = none := by
 have hlg : r.L.length = r.G.length := by rw [h.n1,h.n3]
 have htg : r.T.length = r.G.length := by rw [h.n2,h.n3]
 split
 ·rename_i h1
  have hi : i < r.G.length := (List.getElem?_eq_some_iff.1 h1).1
  obtain ⟨b,hb⟩ : ∃ b,r.L[i]? = some b := ⟨_,List.getElem?_eq_getElem (by omega)⟩
  obtain ⟨tk,htk⟩ : ∃ b,r.T[i]? = some b := ⟨_,List.getElem?_eq_getElem (by omega)⟩
  obtain ⟨j,a1,a2,a3,a4,a5,a6,a7⟩ := live_at 0 r.L r.T r.G i b tk hlg htg h1 hb htk
  rw [h.l,Nat.zero_add] at a5
  rw [h.l] at a1
  have hj : j < q.l.length := (List.getElem?_eq_some_iff.1 a1).1
  refine ⟨j,tk,a5,htk,?_,h.room,h.n1,h.n2,by simp [h.n3],by simp only; rw [a3,h.l],?_⟩
  ·rw [h.t] at a2
   cases hl : q.l with
   | nil => rw [hl] at hj; simp at hj
   | cons x s =>
    rw [hl] at a2
    cases j with
    | zero => simp at a2; simp [a2]
    | succ j =>
     simp only [List.getElem?_cons_succ] at a2
     have := List.mem_of_getElem? a2
     rw [List.mem_replicate] at this
     simp [this.2]
  ·simp only
   rw [a4,h.t]
   cases hl : q.l with
   | nil => rw [hl] at hj; simp at hj
   | cons x s =>
    rw [hl,List.length_cons] at hj
    cases j with
    | zero =>
     cases s <;> simp [List.replicate_succ]
    | succ j =>
     simp only [List.eraseIdx_cons_succ]
     rw [if_neg (by omega),List.eraseIdx_replicate,if_pos (by omega),List.length_eraseIdx,if_pos (by omega)]
 ·rename_i h1
  rw [QM.find,← h.l]
  exact live_no 0 r.L r.G (i + 1) hlg (fun m e => by
   obtain rfl : m = i := by omega
   exact h1)
theorem Rel.clear {q : QM} {r : RQ} (h : Rel q r) : Rel q.clear ⟨r.room,r.L,r.T,List.replicate q.last true⟩ := by
 have hl : ∀ (k n : Nat) (L : List (List Nat)),live k L (List.replicate n true) = [] := by
  intro k n
  induction n generalizing k with
  | zero => intro L; cases L <;> simp [live]
  | succ n ih => intro L; cases L <;> simp [live,List.replicate_succ,ih]
 have ht : ∀ (n : Nat) (T : List Nat),tks T (List.replicate n true) = [] := by
  intro n
  induction n with
  | zero => intro T; cases T <;> simp [tks]
  | succ n ih => intro T; cases T <;> simp [tks,List.replicate_succ,ih]
 exact ⟨h.room,h.n1,h.n2,by simp [QM.clear],by simp only [QM.clear]; exact hl _ _ _,by simp only [QM.clear]; exact ht _ _⟩
end Go.A.V.S

namespace Go.A.V.S
open Go Go.A
def dsl (a n : Nat) : AV := if n = 0 then nilS else .sl a 0 n n 1 n false
theorem dsl_pos {a n : Nat} (h : 0 < n) : dsl a n = .sl a 0 n n 1 n false := if_neg (by omega)
section
variable (a n : Nat)
theorem dsl_cases : (n = 0 ∧ dsl a n = nilS) ∨ (0 < n ∧ dsl a n = .sl a 0 n n 1 n false) := by
 unfold dsl
 split
 ·exact .inl ⟨by assumption,rfl⟩
 ·exact .inr ⟨by omega,rfl⟩
theorem dsl_box : (dsl a n).isBox = false := by rcases dsl_cases a n with ⟨_,e⟩ | ⟨_,e⟩ <;> rw [e] <;> rfl
theorem dsl_ev (i : Nat) : ev1 i (dsl a n) = dsl a n := by rcases dsl_cases a n with ⟨_,e⟩ | ⟨_,e⟩ <;> rw [e] <;> rfl
theorem dsl_pln : pln (dsl a n) = dsl a n := by rcases dsl_cases a n with ⟨_,e⟩ | ⟨_,e⟩ <;> rw [e] <;> rfl
theorem dsl_unfl (cs : List Nat) : unfl cs (dsl a n) = dsl a n := by rcases dsl_cases a n with ⟨_,e⟩ | ⟨_,e⟩ <;> rw [e] <;> rfl
theorem dsl_len : lenW (dsl a n) = some n := by rcases dsl_cases a n with ⟨h,e⟩ | ⟨_,e⟩ <;> rw [e] <;> first | rfl | (subst h; rfl)
theorem dsl_self : selfE (dsl a n) = true := by rcases dsl_cases a n with ⟨_,e⟩ | ⟨_,e⟩ <;> rw [e] <;> rfl
end
attribute [simp] dsl_box dsl_ev dsl_pln dsl_unfl dsl_len dsl_self
theorem dsl_at {a n i : Nat} (h : i < n) (k : IntKind) : iaddrW 1 none (dsl a n) (.c (.int k i)) = some (.ptr a i n) := by
 rw [dsl_pos (by omega),iaddrW_sl,if_pos ⟨by omega,by omega⟩]
 simp
def lcs (l : List (List Nat)) : List AV := l.map fun b => bv (false,b)
def tcs (l : List Nat) : List AV := l.map fun (n : Nat) => ai n
def gcs (l : List Bool) : List AV := l.map fun b => ab b
structure DQ (H : Heap) (m r a b c : Nat) (x : RQ) : Prop where
 row : H[r]? = some (.row [ai x.room,dsl a x.L.length,dsl b x.L.length,dsl c x.L.length])
 mr : m ≤ r
 nt : x.T.length = x.L.length
 ng : x.G.length = x.L.length
 la : 0 < x.L.length → m ≤ a ∧ ∃ lo,lo ≤ x.L.length ∧ H[a]? = some (.grow (lcs x.L) lo)
 lb : 0 < x.L.length → m ≤ b ∧ ∃ lo,lo ≤ x.L.length ∧ H[b]? = some (.grow (tcs x.T) lo)
 lc : 0 < x.L.length → m ≤ c ∧ ∃ lo,lo ≤ x.L.length ∧ H[c]? = some (.grow (gcs x.G) lo)
 ne : 0 < x.L.length → a ≠ b ∧ a ≠ c ∧ b ≠ c
section
variable {H H' : Heap} {m r a b c : Nat} {x : RQ}
theorem DQ.mono (h : DQ H m r a b c x) (hf : ∀ (j : Nat) (o : AObj),m ≤ j → H[j]? = some o → H'[j]? = some o) : DQ H' m r a b c x where
 row := hf _ _ h.mr h.row
 mr := h.mr
 nt := h.nt
 ng := h.ng
 la := fun h0 => by obtain ⟨h1,lo,h2,h3⟩ := h.la h0; exact ⟨h1,lo,h2,hf _ _ h1 h3⟩
 lb := fun h0 => by obtain ⟨h1,lo,h2,h3⟩ := h.lb h0; exact ⟨h1,lo,h2,hf _ _ h1 h3⟩
 lc := fun h0 => by obtain ⟨h1,lo,h2,h3⟩ := h.lc h0; exact ⟨h1,lo,h2,hf _ _ h1 h3⟩
 ne := h.ne
theorem rd_row {cs : List AV} (h : H[r]? = some (.row cs)) {i n : Nat} {v : AV} (hn : n = cs.length) (hv : cs[i]? = some v) : rdRow H r i 1 n = some [v] := by
 have hi := (List.getElem?_eq_some_iff.1 hv).1
 subst hn
 simp only [rdRow,h,AObj.isRow,AObj.lo,AObj.cells]
 rw [if_pos ⟨trivial,by omega,by omega,Nat.le_refl _⟩,List.drop_eq_getElem_cons hi]
 rw [List.getElem?_eq_getElem hi] at hv
 rw [Option.some.inj hv]
 rfl
theorem rd_grow {cs : List AV} {lo : Nat} (h : H[r]? = some (.grow cs lo)) {i n : Nat} {v : AV} (hlo : lo ≤ n) (hn : n = cs.length) (hv : cs[i]? = some v) : rdRow H r i 1 n = some [v] := by
 have hi := (List.getElem?_eq_some_iff.1 hv).1
 subst hn
 simp only [rdRow,h,AObj.isRow,AObj.lo,AObj.cells]
 rw [if_pos ⟨trivial,hlo,by omega,Nat.le_refl _⟩,List.drop_eq_getElem_cons hi]
 rw [List.getElem?_eq_getElem hi] at hv
 rw [Option.some.inj hv]
 rfl
theorem DQ.r0 (h : DQ H m r a b c x) : rdRow H r 0 1 4 = some [ai x.room] := rd_row h.row rfl rfl
theorem DQ.r1 (h : DQ H m r a b c x) : rdRow H r 1 1 4 = some [dsl a x.L.length] := rd_row h.row rfl rfl
theorem DQ.r2 (h : DQ H m r a b c x) : rdRow H r 2 1 4 = some [dsl b x.L.length] := rd_row h.row rfl rfl
theorem DQ.r3 (h : DQ H m r a b c x) : rdRow H r 3 1 4 = some [dsl c x.L.length] := rd_row h.row rfl rfl
theorem DQ.rl (h : DQ H m r a b c x) {i : Nat} {t : List Nat} (ht : x.L[i]? = some t) : rdRow H a i 1 x.L.length = some [bv (false,t)] := by
 have hi := (List.getElem?_eq_some_iff.1 ht).1
 obtain ⟨_,lo,h1,h2⟩ := h.la (by omega)
 exact rd_grow h2 h1 (by simp [lcs]) (by simp [lcs,ht])
theorem DQ.rt (h : DQ H m r a b c x) {i t : Nat} (ht : x.T[i]? = some t) : rdRow H b i 1 x.L.length = some [ai t] := by
 have hi := (List.getElem?_eq_some_iff.1 ht).1
 have := h.nt
 obtain ⟨_,lo,h1,h2⟩ := h.lb (by omega)
 exact rd_grow h2 h1 (by simp [tcs,this]) (by simp [tcs,ht])
theorem DQ.rg (h : DQ H m r a b c x) {i : Nat} {t : Bool} (ht : x.G[i]? = some t) : rdRow H c i 1 x.L.length = some [ab t] := by
 have hi := (List.getElem?_eq_some_iff.1 ht).1
 have := h.ng
 obtain ⟨_,lo,h1,h2⟩ := h.lc (by omega)
 exact rd_grow h2 h1 (by simp [gcs,this]) (by simp [gcs,ht])
theorem st_grow {cs : List AV} {lo : Nat} (h : H[r]? = some (.grow cs lo)) {i n : Nat} {v : AV} (hn : n = cs.length) (hi : i < n) (hv : okCell v = true) (σ : List AV) : storeA σ H none (.ptr r i n) v = some (σ,H.set r (.grow (cs.set i v) n)) := by
 subst hn
 simp only [storeA,wrRow,h]
 rw [if_pos ⟨trivial,by simp only [List.length_cons,List.length_nil]; omega,by simpa using hv⟩]
 have e : cs.take i ++ [v] ++ cs.drop (i + [v].length) = cs.set i v := by
  rw [List.set_eq_take_append_cons_drop,if_pos hi]
  simp
 rw [e]
 rfl
end
structure Beh (m : Nat) (H H' : Heap) : Prop where
 old : ∀ j,j < m → H'[j]? = H[j]?
 len : H.length ≤ H'.length
 r3 : ∀ (j : Nat) (cs : List AV),cs.length = 3 → H[j]? = some (.row cs) → H'[j]? = some (.row cs)
theorem Beh.refl (m : Nat) (H : Heap) : Beh m H H := ⟨fun _ _ => rfl,Nat.le_refl _,fun _ _ _ h => h⟩
theorem Beh.trans {m : Nat} {H H1 H2 : Heap} (h : Beh m H H1) (k : Beh m H1 H2) : Beh m H H2 := ⟨fun j hj => (k.old j hj).trans (h.old j hj),Nat.le_trans h.len k.len,fun j cs h3 hj => k.r3 j cs h3 (h.r3 j cs h3 hj)⟩
theorem Beh.set {m r : Nat} {H : Heap} {o' : AObj} (o : AObj) (h : m ≤ r) (ho : H[r]? = some o') (hn : ∀ cs,o' = .row cs → cs.length ≠ 3) : Beh m H (H.set r o) := ⟨fun j hj => by rw [List.getElem?_set_ne (by omega)],by simp,fun j cs h3 hj => by
 rw [List.getElem?_set_ne (fun e => by
  rw [← e,ho] at hj
  exact hn cs (Option.some.inj hj) h3)]
 exact hj⟩
theorem Beh.app {m : Nat} (H X : Heap) (h : m ≤ H.length) : Beh m H (H ++ X) := ⟨fun j hj => by rw [List.getElem?_append_left (by omega)],by simp,fun j cs _ hj => by
 rw [List.getElem?_append_left (List.getElem?_eq_some_iff.1 hj).1]
 exact hj⟩
section
variable {H : Heap} {m r a b c : Nat} {x : RQ}
theorem DQ.setT (h : DQ H m r a b c x) {i t v : Nat} (ht : x.T[i]? = some t) :
  (∀ σ,storeA σ H none (.ptr b i x.L.length) (ai v) = some (σ,H.set b (.grow (tcs (x.T.set i v)) x.L.length))) ∧ DQ (H.set b (.grow (tcs (x.T.set i v)) x.L.length)) m r a b c ⟨x.room,x.L,x.T.set i v,x.G⟩ ∧ Beh m H (H.set b (.grow (tcs (x.T.set i v)) x.L.length)) := by
 have hi := (List.getElem?_eq_some_iff.1 ht).1
 have hnt := h.nt
 have hp : 0 < x.L.length := by omega
 obtain ⟨hm,lo,h1,h2⟩ := h.lb hp
 have hbl : b < H.length := (List.getElem?_eq_some_iff.1 h2).1
 obtain ⟨n1,n2,n3⟩ := h.ne hp
 have hrb : r ≠ b := fun e => by have := h.row; rw [e,h2] at this; simp at this
 have e : (tcs x.T).set i (ai v) = tcs (x.T.set i v) := by simp [tcs,List.map_set]
 refine ⟨fun σ => by rw [st_grow h2 (by simp [tcs,hnt]) (by omega) rfl,e],⟨by rw [List.getElem?_set_ne (by omega)]; exact h.row,h.mr,by simp [hnt],h.ng,fun h0 => ?_,fun h0 => ?_,fun h0 => ?_,h.ne⟩,Beh.set _ hm h2 (fun cs e => by simp at e)⟩
 ·obtain ⟨q1,lo,q2,q3⟩ := h.la h0
  exact ⟨q1,lo,q2,by rw [List.getElem?_set_ne (by omega)]; exact q3⟩
 ·exact ⟨hm,_,Nat.le_refl _,by rw [List.getElem?_set_self hbl]⟩
 ·obtain ⟨q1,lo,q2,q3⟩ := h.lc h0
  exact ⟨q1,lo,q2,by rw [List.getElem?_set_ne (by omega)]; exact q3⟩
theorem DQ.setG (h : DQ H m r a b c x) {i : Nat} {t v : Bool} (ht : x.G[i]? = some t) :
  (∀ σ,storeA σ H none (.ptr c i x.L.length) (ab v) = some (σ,H.set c (.grow (gcs (x.G.set i v)) x.L.length))) ∧ DQ (H.set c (.grow (gcs (x.G.set i v)) x.L.length)) m r a b c ⟨x.room,x.L,x.T,x.G.set i v⟩ ∧ Beh m H (H.set c (.grow (gcs (x.G.set i v)) x.L.length)) := by
 have hi := (List.getElem?_eq_some_iff.1 ht).1
 have hng := h.ng
 have hp : 0 < x.L.length := by omega
 obtain ⟨hm,lo,h1,h2⟩ := h.lc hp
 have hbl : c < H.length := (List.getElem?_eq_some_iff.1 h2).1
 obtain ⟨n1,n2,n3⟩ := h.ne hp
 have hrb : r ≠ c := fun e => by have := h.row; rw [e,h2] at this; simp at this
 have e : (gcs x.G).set i (ab v) = gcs (x.G.set i v) := by simp [gcs,List.map_set]
 refine ⟨fun σ => by rw [st_grow h2 (by simp [gcs,hng]) (by omega) rfl,e],⟨by rw [List.getElem?_set_ne (by omega)]; exact h.row,h.mr,h.nt,by simp [hng],fun h0 => ?_,fun h0 => ?_,fun h0 => ?_,h.ne⟩,Beh.set _ hm h2 (fun cs e => by simp at e)⟩
 ·obtain ⟨q1,lo,q2,q3⟩ := h.la h0
  exact ⟨q1,lo,q2,by rw [List.getElem?_set_ne (by omega)]; exact q3⟩
 ·obtain ⟨q1,lo,q2,q3⟩ := h.lb h0
  exact ⟨q1,lo,q2,by rw [List.getElem?_set_ne (by omega)]; exact q3⟩
 ·exact ⟨hm,_,Nat.le_refl _,by rw [List.getElem?_set_self hbl]⟩
end
end Go.A.V.S

namespace Go.A.V.S
open Go Go.A
section
variable {H : Heap} {m r a b c : Nat} {x : RQ}
def InvDF (H : Heap) (r : Nat) (x : RQ) (zz : Nat) (σ : List AV) (K : Heap) : Prop :=
 ∃ i : Nat,i + zz = x.L.length ∧ (∀ j,j < i → x.G[j]? = some true) ∧ K = H ∧ σ = L 22 (((Tr.full 5).put (path 0) (.ptr r 0 4)).put (path 3) (ai i))
def PostDF (H : Heap) (r : Nat) (x : RQ) (e : AExit) (σ : List AV) (K : Heap) : Prop :=
 (∃ i : Nat,x.G[i]? = some false ∧ (∀ j,j < i → x.G[j]? = some true) ∧ e = .ret ∧ K = H ∧ resultsA F_q69.res σ = some (ai i)) ∨
 (e = .exit 0 ∧ K = H ∧ (∀ j,j < x.L.length → x.G[j]? = some true) ∧ kill [0,3,4,5,6,7,8,9,10] σ = L 22 (Tr.full 5))
theorem df_loop (h : DQ H m r a b c x) (hn : x.L.length ≤ 100000) (zz : Nat) (σ : List AV) (K : Heap) (hI : InvDF H r x zz (kill (headK lp0_q69) σ) K) :
  Ends (execW P f_q69 (.loop lp0_q69) σ K) fun s => PostDF H r x s.e s.σ s.H := by
 refine loop_ends (fun zz σ K => InvDF H r x zz σ K) (PostDF H r x) ?_ zz σ K hI
 clear hI zz σ K
 rintro zz σ K ⟨i,hz,ho,rfl,rfl⟩
 have r1 := h.r1
 have r3 := h.r3
 by_cases hi : i < x.L.length
 ·obtain ⟨g,hg⟩ : ∃ g,x.G[i]? = some g := ⟨_,List.getElem?_eq_getElem (by rw [h.ng]; exact hi)⟩
  have q1 := dsl_at (a := c) hi .i64
  have q2 := h.rg hg
  cases g with
  | false =>
   have hp : ∀ σ',resultsA F_q69.res σ' = some (ai i) → PostDF K r x .ret σ' K := fun σ' h => .inl ⟨i,hg,ho,rfl,rfl,h⟩
   obtain ⟨n,hnn⟩ : ∃ n,x.L.length = n := ⟨_,rfl⟩
   rw [hnn] at r1 r3 hi q1 q2
   clear hz hn ho
   simp -implicitDefEqProofs (disch := first | omega | (simp; done) | fail) [-toCells,-AV.one,-forget,c_q69,cmp_ilt,cmp_ilf,cmp_ile,cmp_ilg,cmp_ine,cmp_ieq,cmp_nlt,cmp_nlf,cmp_nle,cmp_nne,cmp_neq,wrap_i64,wrap_u64,wrap_u8,lp0_q69,r1,r3,q1,q2]
   exact hp _ (by simp [F_q69])
  | true =>
   have hf : ∀ σ',σ' = L 22 (((Tr.full 5).put (path 0) (.ptr r 0 4)).put (path 3) (ai (i + 1 : Nat))) → ∃ m,m < zz ∧ InvDF K r x m σ' K := fun σ' hσ' => ⟨zz - 1,by omega,i + 1,by omega,fun j hj => by
    by_cases e : j = i
    ·rw [e]; exact hg
    ·exact ho j (by omega),rfl,hσ'⟩
   obtain ⟨n,hnn⟩ : ∃ n,x.L.length = n := ⟨_,rfl⟩
   rw [hnn] at r1 r3 hi q1 q2 hn
   clear hz ho
   simp -implicitDefEqProofs (disch := first | omega | (simp; done) | fail) [-toCells,-AV.one,-forget,c_q69,cmp_ilt,cmp_ilf,cmp_ile,cmp_ilg,cmp_ine,cmp_ieq,cmp_nlt,cmp_nlf,cmp_nle,cmp_nne,cmp_neq,wrap_i64,wrap_u64,wrap_u8,lp0_q69,r1,r3,q1,q2]
   exact hf _ (by simp)
 ·have hp : ∀ σ',kill [0,3,4,5,6,7,8,9,10] σ' = L 22 (Tr.full 5) → PostDF K r x (.exit 0) σ' K := fun σ' h => .inr ⟨rfl,rfl,fun j hj => ho j (by omega),h⟩
  obtain ⟨n,hnn⟩ : ∃ n,x.L.length = n := ⟨_,rfl⟩
  rw [hnn] at r1 r3 hi
  clear hz hn ho
  simp -implicitDefEqProofs (disch := first | omega | (simp; done) | fail) [-toCells,-AV.one,-forget,c_q69,cmp_ilt,cmp_ilf,cmp_ile,cmp_ilg,cmp_ine,cmp_ieq,cmp_nlt,cmp_nlf,cmp_nle,cmp_nne,cmp_neq,wrap_i64,wrap_u64,wrap_u8,lp0_q69,r1,r3]
  exact hp _ (by simp)
def ResDF (H : Heap) (x : RQ) (y : AV × Heap) : Prop := (∃ i : Nat,x.G[i]? = some false ∧ (∀ j,j < i → x.G[j]? = some true) ∧ y = (ai i,H)) ∨ ((∀ j,j < x.L.length → x.G[j]? = some true) ∧ y = (ai (-1),H))
def PostDf (H : Heap) (x : RQ) (e : AExit) (σ : List AV) (K : Heap) : Prop := e = .ret ∧ K = H ∧ ((∃ i : Nat,x.G[i]? = some false ∧ (∀ j,j < i → x.G[j]? = some true) ∧ resultsA F_q69.res σ = some (ai i)) ∨ ((∀ j,j < x.L.length → x.G[j]? = some true) ∧ resultsA F_q69.res σ = some (ai (-1))))
theorem d_first (h : DQ H m r a b c x) (hn : x.L.length ≤ 100000) : (∃ i : Nat,x.G[i]? = some false ∧ (∀ j,j < i → x.G[j]? = some true) ∧ callW P f_q69 [.ptr r 0 4] H = some (ai i,H)) ∨ ((∀ j,j < x.L.length → x.G[j]? = some true) ∧ callW P f_q69 [.ptr r 0 4] H = some (ai (-1),H)) := by
 suffices hs : Ends (callW P f_q69 [.ptr r 0 4] H) (ResDF H x) by
  obtain ⟨y,h1,h2⟩ := hs
  rw [h1]
  rcases h2 with ⟨i,q1,q2,rfl⟩ | ⟨q,rfl⟩
  ·exact .inl ⟨i,q1,q2,rfl⟩
  ·exact .inr ⟨q,rfl⟩
 refine call_post 5 22 rfl (rfl : P.T f_q69 = some F_q69) rfl (le_ok rfl) (PostDf H x) ?_ ?_
 ·have fin : ∀ i : Int,finish (P.K f_q69) (P.C f_q69) H.length (ai i) H = some (ai i,H) := fun i => by simp
  rintro e σ K ⟨rfl,rfl,⟨i,q1,q2,h2⟩ | ⟨q,h2⟩⟩
  ·exact ⟨rfl,_,h2,by simp,_,fin _,.inl ⟨i,q1,q2,rfl⟩⟩
  ·exact ⟨rfl,_,h2,by simp,_,fin _,.inr ⟨q,rfl⟩⟩
 have hL := fun σ K => df_loop h hn x.L.length σ K
 have hI : ∀ σ,σ = L 22 (((Tr.full 5).put (path 0) (.ptr r 0 4)).put (path 3) (ai 0)) → InvDF H r x x.L.length σ H := fun σ hσ => ⟨0,by omega,fun j hj => by omega,rfl,hσ⟩
 have hp1 : ∀ (σ : List AV) (i : Nat),x.G[i]? = some false → (∀ j,j < i → x.G[j]? = some true) → resultsA F_q69.res σ = some (ai i) → PostDf H x .ret σ H := fun σ i q1 q2 q3 => ⟨rfl,rfl,.inl ⟨i,q1,q2,q3⟩⟩
 have hp2 : ∀ (σ : List AV),(∀ j,j < x.L.length → x.G[j]? = some true) → resultsA F_q69.res σ = some (ai (-1)) → PostDf H x .ret σ H := fun σ q1 q3 => ⟨rfl,rfl,.inr ⟨q1,q3⟩⟩
 rw [F_q69]; simp -implicitDefEqProofs [-toCells,-AV.one,-forget,c_q69]
 repeat rw [Option.bind_assoc]
 refine Ends.block (P := PostDF H r x) (hL _ _ (hI _ (by simp [lp0_q69]))) ?_
 rintro e σ1 K1 (⟨i,q1,q2,rfl,rfl,h2⟩ | ⟨rfl,rfl,q,k2⟩)
 ·simp -implicitDefEqProofs [-toCells,-AV.one,-forget,c_q69]
  exact hp1 _ i q1 q2 h2
 ·simp -implicitDefEqProofs [-toCells,-AV.one,-forget,c_q69,k2]
  exact hp2 _ q (by simp [F_q69])
theorem d_Front0 (h : DQ H m r a b c x) (hf : callW P f_q69 [.ptr r 0 4] H = some (ai (-1),H)) : callW P f_q41 [.ptr r 0 4] H = some (.tup [ul 0,nilS,ab false],H) := by
 rw [call_L 6 rfl (rfl : P.T f_q41 = some F_q41) (le_ok rfl)]; simp -implicitDefEqProofs [-toCells,-AV.one,-forget,F_q41,c_q41,hf]
theorem d_Front1 (h : DQ H m r a b c x) (hn : x.L.length ≤ 100000) {i t : Nat} {l : List Nat} (hl : x.L[i]? = some l) (ht : x.T[i]? = some t) (htl : t ≤ l.length) (hf : callW P f_q69 [.ptr r 0 4] H = some (ai i,H)) : callW P f_q41 [.ptr r 0 4] H = some (.tup [ul (i + 1 : Nat),bv (false,l.drop t),ab (decide (0 < t))],H) := by
 have r1 := h.r1
 have r2 := h.r2
 have hi := (List.getElem?_eq_some_iff.1 hl).1
 have q1 := dsl_at (a := a) hi .i64
 have q2 := dsl_at (a := b) hi .i64
 have l1 := h.rl hl
 have l2 := h.rt ht
 have c1 := fun d => bv_from (b := (false,l)) (i := t) (by simp only; omega) .i64 d
 have hb1 : bcut (false,l) t l.length = (false,l.drop t) := by simp [bcut]
 simp only [hb1] at c1
 have n1 : ¬ (i : Int) < 0 := by omega
 have w0 : IntKind.u64.wrap (i : Int) = (i : Int) := wrap_u64 (by omega) (by omega)
 have w1 : IntKind.u64.wrap ((i : Int) + 1) = ((i + 1 : Nat) : Int) := by rw [wrap_u64 (by omega) (by omega)]; omega
 have hdc : decide ((t : Int) > 0) = decide (0 < t) := decide_eq_decide.2 (by omega)
 have hdc' : decide ((0 : Int) < t) = decide (0 < t) := decide_eq_decide.2 (by omega)
 obtain ⟨bt,hbt⟩ : ∃ x,decide (0 < t) = x := ⟨_,rfl⟩
 rw [hbt] at hdc hdc' ⊢
 generalize l.drop t = bd at *
 obtain ⟨n,hnn⟩ : ∃ n,x.L.length = n := ⟨_,rfl⟩
 rw [hnn] at r1 r2 q1 q2 l1 l2
 obtain ⟨i1,hi1⟩ : ∃ y,i + 1 = y := ⟨_,rfl⟩
 rw [hi1] at w1 ⊢
 clear hn hi htl
 rw [call_L 6 rfl (rfl : P.T f_q41 = some F_q41) (le_ok rfl)]; simp -implicitDefEqProofs [-toCells,-AV.one,-forget,F_q41,c_q41,keepB,-goodB,goodB_L,sameV,dstNot,dstNe,SOpG.reads,SOp.slots,SX.slots,SOp.noL,rdV_load,rdV_str,selfE_lst,selfE,selfEs,eqV,hf,r1,r2,q1,q2,l1,l2,c1,n1,w0,w1,hdc,hdc',hbt]
end
end Go.A.V.S

namespace Go.A.V.S
open Go Go.A
theorem Rel.at {q : QM} {x : RQ} (h : Rel q x) (hq : q.Ok) {i t : Nat} {b : List Nat} (hg : x.G[i]? = some false) (hl : x.L[i]? = some b) (ht : x.T[i]? = some t) : b.length ≤ 1000 ∧ t < b.length ∧ Bytes b := by
 obtain ⟨j,a1,a2,_⟩ := live_at 0 x.L x.T x.G i b t (by rw [h.n1,h.n3]) (by rw [h.n2,h.n3]) hg hl ht
 rw [h.l] at a1
 have he := hq.each _ (List.mem_of_getElem? a1)
 simp only at he
 refine ⟨he.2.1,?_,he.2.2.1⟩
 rw [h.t] at a2
 cases hql : q.l with
 | nil => rw [hql] at a1; simp at a1
 | cons y s =>
  rw [hql] at a1 a2
  cases j with
  | zero =>
   simp at a1 a2
   have := hq.first y s hql
   rw [a1] at this
   simp only at this
   omega
  | succ j =>
   simp only [List.getElem?_cons_succ] at a2
   have := List.mem_of_getElem? a2
   rw [List.mem_replicate] at this
   omega
theorem live_drop {L : List (List Nat)} {G : List Bool} {i : Nat} {b : List Nat} {g : Bool} (hl : L[i]? = some b) (hg : G[i]? = some g) : live i (L.drop i) (G.drop i) = if g = true then live (i + 1) (L.drop (i + 1)) (G.drop (i + 1)) else (i + 1,b) :: live (i + 1) (L.drop (i + 1)) (G.drop (i + 1)) := by
 have h1 := (List.getElem?_eq_some_iff.1 hl).1
 have h2 := (List.getElem?_eq_some_iff.1 hg).1
 rw [List.drop_eq_getElem_cons h1,List.drop_eq_getElem_cons h2,live]
 rw [List.getElem?_eq_getElem h1] at hl
 rw [List.getElem?_eq_getElem h2] at hg
 rw [Option.some.inj hl,Option.some.inj hg]
def bsum : List (List Nat) → List Nat → List Bool → Nat
 | b :: L,t :: T,g :: G => (if g = true then 0 else b.length - t) + bsum L T G
 | _,_,_ => 0
theorem bsum_drop {L : List (List Nat)} {T : List Nat} {G : List Bool} {i t : Nat} {b : List Nat} {g : Bool} (hl : L[i]? = some b) (ht : T[i]? = some t) (hg : G[i]? = some g) : bsum (L.drop i) (T.drop i) (G.drop i) = (if g = true then 0 else b.length - t) + bsum (L.drop (i + 1)) (T.drop (i + 1)) (G.drop (i + 1)) := by
 have h1 := (List.getElem?_eq_some_iff.1 hl).1
 have h2 := (List.getElem?_eq_some_iff.1 hg).1
 have h3 := (List.getElem?_eq_some_iff.1 ht).1
 rw [List.drop_eq_getElem_cons h1,List.drop_eq_getElem_cons h2,List.drop_eq_getElem_cons h3,bsum]
 rw [List.getElem?_eq_getElem h1] at hl
 rw [List.getElem?_eq_getElem h2] at hg
 rw [List.getElem?_eq_getElem h3] at ht
 rw [Option.some.inj hl,Option.some.inj hg,Option.some.inj ht]
theorem bsum_tot : ∀ (k : Nat) (L : List (List Nat)) (T : List Nat) (G : List Bool),L.length = G.length → T.length = G.length → (∀ (i t : Nat) (b : List Nat),G[i]? = some false → L[i]? = some b → T[i]? = some t → t ≤ b.length) → bsum L T G + (tks T G).sum = tot (live k L G)
 | k,[],[],[],_,_,_ => rfl
 | k,b :: L,t :: T,g :: G,h,h2,h3 => by
  have ih := bsum_tot (k + 1) L T G (by simpa using h) (by simpa using h2) (fun i t b a1 a2 a3 => h3 (i + 1) t b (by simpa using a1) (by simpa using a2) (by simpa using a3))
  simp only [bsum,tks,live]
  cases g with
  | true => simpa using ih
  | false =>
   have := h3 0 t b rfl rfl rfl
   simp only [Bool.false_eq_true,if_false,List.sum_cons,tot_cons]
   omega
 | k,[],t :: T,g :: G,h,h2,_ => by simp at h
 | k,c :: L,[],g :: G,h,h2,_ => by simp at h2
 | k,[],[],g :: G,h,h2,_ => by simp at h
 | k,c :: L,_,[],h,h2,_ => by simp at h
 | k,[],t :: T,[],h,h2,_ => by simp at h2
theorem Rel.bytes {q : QM} {x : RQ} (h : Rel q x) (hq : q.Ok) : bsum x.L x.T x.G = q.bytes := by
 have h1 := bsum_tot 0 x.L x.T x.G (by rw [h.n1,h.n3]) (by rw [h.n2,h.n3]) (fun i t b a1 a2 a3 => by have := (h.at hq a1 a2 a3).2.1; omega)
 rw [h.l,h.t] at h1
 rw [QM.bytes]
 cases hql : q.l with
 | nil => rw [hql] at h1; simp [tot] at h1 ⊢; omega
 | cons y s =>
  rw [hql] at h1
  simp at h1
  omega
section
variable {H : Heap} {m r a b c : Nat} {x : RQ}
def InvDI (H : Heap) (r : Nat) (x : RQ) (zz : Nat) (σ : List AV) (K : Heap) : Prop :=
 ∃ (i : Nat) (A : List (Nat × List Nat)),i + zz = x.L.length ∧ live 0 x.L x.G = A ++ live i (x.L.drop i) (x.G.drop i) ∧ A.length ≤ i ∧ K = H ∧ σ = L 29 ((((Tr.full 5).put (path 0) (.ptr r 0 4)).put (path 3) (lst true 1 (some 27) (uls (A.map (·.1))))).put (path 4) (ai i))
def PostDI (H : Heap) (x : RQ) (e : AExit) (σ : List AV) (K : Heap) : Prop :=
 e = .exit 0 ∧ K = H ∧ kill [0,4,5,6,7,8,9,10,11] σ = L 29 ((Tr.full 5).put (path 3) (lst true 1 (some 27) (uls ((live 0 x.L x.G).map (·.1)))))
theorem di_loop (h : DQ H m r a b c x) (hn : x.L.length ≤ 100000) (zz : Nat) (σ : List AV) (K : Heap) (hI : InvDI H r x zz (kill (headK lp0_q31) σ) K) :
  Ends (execW P f_q31 (.loop lp0_q31) σ K) fun s => PostDI H x s.e s.σ s.H := by
 refine loop_ends (fun zz σ K => InvDI H r x zz σ K) (PostDI H x) ?_ zz σ K hI
 clear hI zz σ K
 rintro zz σ K ⟨i,A,hz,hA,hAl,rfl,rfl⟩
 have r1 := h.r1
 have r3 := h.r3
 by_cases hi : i < x.L.length
 ·obtain ⟨l,hl⟩ : ∃ g,x.L[i]? = some g := ⟨_,List.getElem?_eq_getElem hi⟩
  obtain ⟨g,hg⟩ : ∃ g,x.G[i]? = some g := ⟨_,List.getElem?_eq_getElem (by rw [h.ng]; exact hi)⟩
  have hd := live_drop hl hg
  have q1 := dsl_at (a := c) hi .i64
  have q2 := h.rg hg
  have w0 : IntKind.u64.wrap (i : Int) = (i : Int) := wrap_u64 (by omega) (by omega)
  have w1 : IntKind.u64.wrap ((i : Int) + 1) = ((i + 1 : Nat) : Int) := by rw [wrap_u64 (by omega) (by omega)]; omega
  have w2 : IntKind.i64.wrap ((i : Int) + 1) = ((i + 1 : Nat) : Int) := by rw [wrap_i64 (by omega) (by omega)]; omega
  have hap := fun σ H => app1 (m := P.md f_q31) (d := 27) (bytes := 8) (v := ul (i + 1 : Nat)) (R_q31 27) (by omega) (by rw [uls_len,List.length_map]; omega) (l := uls (A.map (·.1))) (some 26) σ H
  rw [← uls_snoc] at hap
  have hf : ∀ A',live 0 x.L x.G = A' ++ live (i + 1) (x.L.drop (i + 1)) (x.G.drop (i + 1)) → A'.length ≤ i + 1 → ∀ σ',σ' = L 29 ((((Tr.full 5).put (path 0) (.ptr r 0 4)).put (path 3) (lst true 1 (some 27) (uls (A'.map (·.1))))).put (path 4) (ai (i + 1 : Nat))) → ∃ m,m < zz ∧ InvDI K r x m σ' K := fun A' h1 h2 σ' hσ' => ⟨zz - 1,by omega,i + 1,A',by omega,h1,h2,rfl,hσ'⟩
  cases g with
  | true =>
   have hff := hf A (by rw [hA,hd]; rfl) (by omega)
   obtain ⟨n,hnn⟩ : ∃ n,x.L.length = n := ⟨_,rfl⟩
   rw [hnn] at r1 r3 hi q1 q2 hn
   obtain ⟨i1,hi1⟩ : ∃ y,i + 1 = y := ⟨_,rfl⟩
   rw [hi1] at w2 hff
   generalize uls (A.map (·.1)) = us at *
   clear hz hA hAl hf hap
   simp -implicitDefEqProofs (disch := first | omega | (simp; done) | fail) [-toCells,-AV.one,-forget,c_q31,cmp_ilt,cmp_ilf,cmp_ile,cmp_ilg,cmp_ine,cmp_ieq,cmp_nlt,cmp_nlf,cmp_nle,cmp_nne,cmp_neq,wrap_i64,wrap_u64,wrap_u8,lp0_q31,r1,r3,q1,q2,w2]
   exact hff _ (by simp)
  | false =>
   have hff := hf (A ++ [(i + 1,l)]) (by rw [hA,hd]; simp) (by simp; omega)
   have e : (A ++ [(i + 1,l)]).map (·.1) = A.map (·.1) ++ [i + 1] := by simp
   rw [e] at hff
   generalize uls (A.map (·.1) ++ [i + 1]) = us2 at *
   generalize uls (A.map (·.1)) = us at *
   obtain ⟨n,hnn⟩ : ∃ n,x.L.length = n := ⟨_,rfl⟩
   rw [hnn] at r1 r3 hi q1 q2 hn
   obtain ⟨i1,hi1⟩ : ∃ y,i + 1 = y := ⟨_,rfl⟩
   rw [hi1] at w2 hff w1 hap
   clear hz hA hAl hf
   simp -implicitDefEqProofs (disch := first | omega | (simp; done) | fail) [-toCells,-AV.one,-forget,c_q31,cmp_ilt,cmp_ilf,cmp_ile,cmp_ilg,cmp_ine,cmp_ieq,cmp_nlt,cmp_nlf,cmp_nle,cmp_nne,cmp_neq,wrap_i64,wrap_u64,wrap_u8,lp0_q31,r1,r3,q1,q2,w0,w1,w2,hap]
   exact hff _ (by simp)
 ·have hi0 : x.L.drop i = [] := List.drop_of_length_le (by omega)
  have hp : ∀ σ',kill [0,4,5,6,7,8,9,10,11] σ' = L 29 ((Tr.full 5).put (path 3) (lst true 1 (some 27) (uls (A.map (·.1))))) → PostDI K x (.exit 0) σ' K := fun σ' h => ⟨rfl,rfl,by rw [h,hA,hi0]; simp [live]⟩
  generalize uls (A.map (·.1)) = us at *
  obtain ⟨n,hnn⟩ : ∃ n,x.L.length = n := ⟨_,rfl⟩
  rw [hnn] at r1 r3 hi
  clear hz hn hA hAl hi0
  simp -implicitDefEqProofs (disch := first | omega | (simp; done) | fail) [-toCells,-AV.one,-forget,c_q31,cmp_ilt,cmp_ilf,cmp_ile,cmp_ilg,cmp_ine,cmp_ieq,cmp_nlt,cmp_nlf,cmp_nle,cmp_nne,cmp_neq,wrap_i64,wrap_u64,wrap_u8,lp0_q31,r1,r3]
  exact hp _ (by simp)
theorem d_IDs (h : DQ H m r a b c x) (hn : x.L.length ≤ 100000) : callW P f_q31 [.ptr r 0 4] H = some (lst true 1 (some 0) (uls ((live 0 x.L x.G).map (·.1))),H) := by
 suffices hs : Ends (callW P f_q31 [.ptr r 0 4] H) fun y => y = (lst true 1 (some 0) (uls ((live 0 x.L x.G).map (·.1))),H) by
  obtain ⟨y,h1,rfl⟩ := hs
  exact h1
 have hL := fun σ K => di_loop h hn x.L.length σ K
 have hI : ∀ σ,σ = L 29 ((((Tr.full 5).put (path 0) (.ptr r 0 4)).put (path 3) (nilS)).put (path 4) (ai 0)) → InvDI H r x x.L.length σ H := fun σ hσ => ⟨0,[],by omega,rfl,by simp,rfl,hσ⟩
 generalize hus : uls ((live 0 x.L x.G).map (·.1)) = us at *
 have hPd : ∀ e σ K,PostDI H x e σ K → e = .exit 0 ∧ K = H ∧ kill [0,4,5,6,7,8,9,10,11] σ = L 29 ((Tr.full 5).put (path 3) (lst true 1 (some 27) us)) := fun e σ K hp => by rw [← hus]; exact hp
 refine call_post 5 29 rfl (rfl : P.T f_q31 = some F_q31) rfl (le_ok rfl) (fun e σ K => e = .ret ∧ K = H ∧ resultsA F_q31.res σ = some (lst true 1 (some 27) us)) ?_ ?_
 ·rintro e σ K ⟨rfl,rfl,h2⟩
  refine ⟨rfl,_,h2,by simp,?_⟩
  simp
 rw [F_q31]; simp -implicitDefEqProofs [-toCells,-AV.one,-forget,c_q31]
 repeat rw [Option.bind_assoc]
 refine Ends.block (P := PostDI H x) (hL _ _ (hI _ (by simp [lp0_q31]))) ?_
 intro e σ1 K1 hp
 obtain ⟨rfl,rfl,k2⟩ := hPd e σ1 K1 hp
 simp -implicitDefEqProofs [-toCells,-AV.one,-forget,c_q31,k2]
 try simp [F_q31]
def InvDB (H : Heap) (r : Nat) (x : RQ) (zz : Nat) (σ : List AV) (K : Heap) : Prop :=
 ∃ (i s : Nat),i + zz = x.L.length ∧ s + bsum (x.L.drop i) (x.T.drop i) (x.G.drop i) = bsum x.L x.T x.G ∧ K = H ∧ σ = L 41 ((((Tr.full 6).put (path 0) (.ptr r 0 4)).put (path 3) (ai s)).put (path 4) (ai i))
def PostDB (H : Heap) (x : RQ) (e : AExit) (σ : List AV) (K : Heap) : Prop :=
 e = .exit 0 ∧ K = H ∧ kill [0,4,5,6,7,8,9,10,11] σ = L 41 ((Tr.full 6).put (path 3) (ai (bsum x.L x.T x.G)))
set_option maxHeartbeats 1000000 in
theorem db_loop (h : DQ H m r a b c x) {q : QM} (hq : q.Ok) (hR : Rel q x) (hn : x.L.length ≤ 100000) (zz : Nat) (σ : List AV) (K : Heap) (hI : InvDB H r x zz (kill (headK lp0_q16) σ) K) :
  Ends (execW P f_q16 (.loop lp0_q16) σ K) fun s => PostDB H x s.e s.σ s.H := by
 refine loop_ends (fun zz σ K => InvDB H r x zz σ K) (PostDB H x) ?_ zz σ K hI
 clear hI zz σ K
 rintro zz σ K ⟨i,s,hz,hs,rfl,rfl⟩
 have r1 := h.r1
 have r2 := h.r2
 have r3 := h.r3
 have hb : bsum x.L x.T x.G ≤ 64000 := by rw [hR.bytes hq,QM.bytes]; have := hq.tot_le; omega
 by_cases hi : i < x.L.length
 ·obtain ⟨l,hl⟩ : ∃ g,x.L[i]? = some g := ⟨_,List.getElem?_eq_getElem hi⟩
  obtain ⟨t,ht⟩ : ∃ g,x.T[i]? = some g := ⟨_,List.getElem?_eq_getElem (by rw [h.nt]; exact hi)⟩
  obtain ⟨g,hg⟩ : ∃ g,x.G[i]? = some g := ⟨_,List.getElem?_eq_getElem (by rw [h.ng]; exact hi)⟩
  have hd := bsum_drop hl ht hg
  have q1 := dsl_at (a := c) hi .i64
  have q2 := h.rg hg
  have q3 := dsl_at (a := a) hi .i64
  have q4 := h.rl hl
  have q5 := dsl_at (a := b) hi .i64
  have q6 := h.rt ht
  have hlb := bv_len (false,l)
  simp only at hlb
  have w2 : IntKind.i64.wrap ((i : Int) + 1) = ((i + 1 : Nat) : Int) := by rw [wrap_i64 (by omega) (by omega)]; omega
  have hf : ∀ s' : Nat,s' + bsum (x.L.drop (i + 1)) (x.T.drop (i + 1)) (x.G.drop (i + 1)) = bsum x.L x.T x.G → ∀ σ',σ' = L 41 ((((Tr.full 6).put (path 0) (.ptr r 0 4)).put (path 3) (ai s')).put (path 4) (ai (i + 1 : Nat))) → ∃ m,m < zz ∧ InvDB K r x m σ' K := fun s' h1 σ' hσ' => ⟨zz - 1,by omega,i + 1,s',by omega,h1,rfl,hσ'⟩
  cases g with
  | true =>
   have hff := hf s (by rw [hd] at hs; simpa using hs)
   obtain ⟨n,hnn⟩ : ∃ n,x.L.length = n := ⟨_,rfl⟩
   rw [hnn] at r1 r2 r3 hi q1 q2 q3 q4 q5 q6 hn
   obtain ⟨i1,hi1⟩ : ∃ y,i + 1 = y := ⟨_,rfl⟩
   rw [hi1] at w2 hff
   clear hz hs hf hb hd
   simp -implicitDefEqProofs (disch := first | omega | (simp; done) | fail) [-toCells,-AV.one,-forget,c_q16,cmp_ilt,cmp_ilf,cmp_ile,cmp_ilg,cmp_ine,cmp_ieq,cmp_nlt,cmp_nlf,cmp_nle,cmp_nne,cmp_neq,wrap_i64,wrap_u64,wrap_u8,lp0_q16,r1,r3,q1,q2,w2]
   exact hff _ (by simp)
  | false =>
   obtain ⟨hl1,htl,_⟩ := hR.at hq hg hl ht
   have hff := hf (s + l.length - t) (by rw [hd] at hs; simp at hs; omega)
   have hsl : s ≤ 64000 := by omega
   have w3 : IntKind.i64.wrap ((s : Int) + l.length) = ((s + l.length : Nat) : Int) := by rw [wrap_i64 (by omega) (by omega)]; omega
   have w4 : IntKind.i64.wrap (((s + l.length : Nat) : Int) - t) = ((s + l.length - t : Nat) : Int) := by rw [wrap_i64 (by omega) (by omega)]; omega
   obtain ⟨sd,hsd⟩ : ∃ y,s + l.length - t = y := ⟨_,rfl⟩
   rw [hsd] at hff w4
   obtain ⟨sl,hsl2⟩ : ∃ y,s + l.length = y := ⟨_,rfl⟩
   rw [hsl2] at w3 w4
   obtain ⟨ll,hll⟩ : ∃ y,l.length = y := ⟨_,rfl⟩
   rw [hll] at w3 hlb
   obtain ⟨n,hnn⟩ : ∃ n,x.L.length = n := ⟨_,rfl⟩
   rw [hnn] at r1 r2 r3 hi q1 q2 q3 q4 q5 q6 hn
   obtain ⟨i1,hi1⟩ : ∃ y,i + 1 = y := ⟨_,rfl⟩
   rw [hi1] at w2 hff
   have hi' : (i : Int) < n := by omega
   clear hz hs hf hb hd
   simp -implicitDefEqProofs [-toCells,-AV.one,-forget,c_q16,keepB,-goodB,goodB_L,sameV,dstNot,dstNe,SOpG.reads,SOp.slots,SX.slots,SOp.noL,rdV_load,rdV_str,selfE_lst,selfE,selfEs,eqV,lp0_q16,r1,r2,r3,hi,hi',q1,q2,q3,q4,q5,q6,hlb,w2,w3,w4]
   exact hff _ (by simp)
 ·have hi0 : x.L.drop i = [] := List.drop_of_length_le (by omega)
  have hs0 : s = bsum x.L x.T x.G := by rw [← hs,hi0]; simp [bsum]
  have hp : ∀ σ',kill [0,4,5,6,7,8,9,10,11] σ' = L 41 ((Tr.full 6).put (path 3) (ai s)) → PostDB K x (.exit 0) σ' K := fun σ' h => ⟨rfl,rfl,by rw [h,hs0]⟩
  obtain ⟨n,hnn⟩ : ∃ n,x.L.length = n := ⟨_,rfl⟩
  rw [hnn] at r1 r3 hi
  clear hz hn hs hs0 hi0 hb
  simp -implicitDefEqProofs (disch := first | omega | (simp; done) | fail) [-toCells,-AV.one,-forget,c_q16,cmp_ilt,cmp_ilf,cmp_ile,cmp_ilg,cmp_ine,cmp_ieq,cmp_nlt,cmp_nlf,cmp_nle,cmp_nne,cmp_neq,wrap_i64,wrap_u64,wrap_u8,lp0_q16,r1,r3]
  exact hp _ (by simp)
theorem d_Bytes (h : DQ H m r a b c x) {q : QM} (hq : q.Ok) (hR : Rel q x) (hn : x.L.length ≤ 100000) : callW P f_q16 [.ptr r 0 4] H = some (ai q.bytes,H) := by
 suffices hs : Ends (callW P f_q16 [.ptr r 0 4] H) fun y => y = (ai q.bytes,H) by
  obtain ⟨y,h1,rfl⟩ := hs
  exact h1
 have hL := fun σ K => db_loop h hq hR hn x.L.length σ K
 have hI : ∀ σ,σ = L 41 ((((Tr.full 6).put (path 0) (.ptr r 0 4)).put (path 3) (ai 0)).put (path 4) (ai 0)) → InvDB H r x x.L.length σ H := fun σ hσ => ⟨0,0,by omega,by simp,rfl,hσ⟩
 have hPd : ∀ e σ K,PostDB H x e σ K → e = .exit 0 ∧ K = H ∧ kill [0,4,5,6,7,8,9,10,11] σ = L 41 ((Tr.full 6).put (path 3) (ai q.bytes)) := fun e σ K hp => by rw [← hR.bytes hq]; exact hp
 refine call_post 6 41 rfl (rfl : P.T f_q16 = some F_q16) rfl (le_ok rfl) (fun e σ K => e = .ret ∧ K = H ∧ resultsA F_q16.res σ = some (ai q.bytes)) ?_ ?_
 ·rintro e σ K ⟨rfl,rfl,h2⟩
  refine ⟨rfl,_,h2,by simp,?_⟩
  simp
 rw [F_q16]; simp -implicitDefEqProofs [-toCells,-AV.one,-forget,c_q16]
 repeat rw [Option.bind_assoc]
 refine Ends.block (P := PostDB H x) (hL _ _ (hI _ (by simp [lp0_q16]))) ?_
 intro e σ1 K1 hp
 obtain ⟨rfl,rfl,k2⟩ := hPd e σ1 K1 hp
 simp -implicitDefEqProofs [-toCells,-AV.one,-forget,c_q16,k2]
 try simp [F_q16]
end
end Go.A.V.S

namespace Go.A.V.S
open Go Go.A
theorem dsl_app0 {m : Md} {d bytes : Nat} {x v : AV} {K : Heap} (hm : m.row (some d) = true) (hx : elems K 1 x = some [[v]]) (hb : bytes ≤ 1000) (σ : List AV) : appW m (some d) 1 bytes nilS x σ K = some (dsl K.length 1,σ,K ++ [.grow [v] 0]) := by
 have h1 : 1 * bytes ≤ appBound ∧ 1 ≤ appBound := by unfold appBound; omega
 simp only [appW,hm,if_true,hx,Option.bind_some,List.length_singleton,reduceCtorEq,if_false,h1,and_self,List.flatten_cons,List.flatten_nil,List.append_nil]
 rfl
theorem dsl_app1 {m : Md} {d bytes a n lo : Nat} {x v : AV} {cs : List AV} {K : Heap} (hm : m.wr = true) (hx : elems K 1 x = some [[v]]) (hb : bytes ≤ 1000) (hn : 0 < n) (hn2 : n ≤ 100000) (hK : K[a]? = some (.grow cs lo)) (hcs : cs.length = n) (σ : List AV) :
  appW m (some d) 1 bytes (dsl a n) x σ K = some (dsl a (n + 1),σ,K.set a (.grow (cs ++ [v]) lo)) := by
 have h1 : (n + 1) * bytes ≤ appBound ∧ n + 1 ≤ appBound := by
  have : (n + 1) * bytes ≤ 100001 * 1000 := Nat.mul_le_mul (by omega) hb
  unfold appBound; omega
 rw [dsl_pos hn,dsl_pos (by omega)]
 have h2 : n ≠ 0 := by omega
 simp only [appW,hm,if_true,hx,Option.bind_some,List.length_singleton,reduceCtorEq,if_false,h1,h2,and_self,List.flatten_cons,List.flatten_nil,List.append_nil,Nat.mul_one,hK,AObj.isW,AObj.cells,hcs,ne_eq,not_false_eq_true,AObj.lo]
theorem sameA_dsl {K : Heap} {a n : Nat} (h : 0 < n → ∃ cs lo,K[a]? = some (.grow cs lo)) : sameA K (dsl a n) (dsl a n) = true := by
 rcases dsl_cases a n with ⟨_,e⟩ | ⟨h0,e⟩
 ·rw [e]; rfl
 ·rw [e]
  obtain ⟨cs,lo,h1⟩ := h h0
  simp [sameA,eqAV,h1,AObj.isRow]
section
variable {H : Heap} {m r a b c : Nat} {x : RQ}
theorem d_Push_1 (B : Bs) (h0 : B.2.length = 0) (H : Heap) : callW P f_q10 [.ptr r 0 4,bv B] H = some (.tup [ul 0,ai 1],H) := by
 have hlb := bv_len B
 rw [h0] at hlb
 replace hlb : lenW (bv B) = some 0 := hlb
 rw [call_L 7 rfl (rfl : P.T f_q10 = some F_q10) (le_ok rfl)]; simp -implicitDefEqProofs [-toCells,-AV.one,-forget,F_q10,c_q10,hlb]
theorem d_Push_2 (B : Bs) (h0 : 1000 < B.2.length) (H : Heap) : callW P f_q10 [.ptr r 0 4,bv B] H = some (.tup [ul 0,ai 2],H) := by
 have hlb := bv_len B
 obtain ⟨n,hn⟩ : ∃ y,B.2.length = y := ⟨_,rfl⟩
 rw [hn] at hlb h0
 have c1 : ¬ (n : Int) = 0 := by omega
 have c1' : ¬ n = 0 := by omega
 have c2 : (n : Int) > 1000 := by omega
 have c2' : (1000 : Int) < n := by omega
 rw [call_L 7 rfl (rfl : P.T f_q10 = some F_q10) (le_ok rfl)]; simp -implicitDefEqProofs [-toCells,-AV.one,-forget,F_q10,c_q10,hlb,c1,c1',c2,c2',h0]
theorem d_Push_5 (h : DQ H m r a b c x) {q : QM} (hq : q.Ok) (hR : Rel q x) (hn : x.L.length ≤ 100000) (B : Bs) (h0 : B.2.length ≠ 0) (h1 : B.2.length ≤ 1000) (h2 : 64 ≤ q.l.length ∨ q.room < q.bytes + B.2.length) : callW P f_q10 [.ptr r 0 4,bv B] H = some (.tup [ul 0,ai 5],H) := by
 have hlb := bv_len B
 have hI := d_IDs h hn
 have hB := d_Bytes h hq hR hn
 have hlu : ∀ f,lenW (lst true 1 f (uls ((live 0 x.L x.G).map (·.1)))) = some q.l.length := fun f => by rw [lenW_lst,uls_len,List.length_map,hR.l]
 have r0 := h.r0
 rw [hR.room] at r0
 have hb4 : q.bytes ≤ 64000 := by rw [QM.bytes]; have := hq.tot_le; omega
 generalize uls ((live 0 x.L x.G).map (·.1)) = us at *
 obtain ⟨k,hk⟩ : ∃ y,q.l.length = y := ⟨_,rfl⟩
 obtain ⟨bl,hbl⟩ : ∃ y,B.2.length = y := ⟨_,rfl⟩
 obtain ⟨by',hby⟩ : ∃ y,q.bytes = y := ⟨_,rfl⟩
 obtain ⟨rm,hrm⟩ : ∃ y,q.room = y := ⟨_,rfl⟩
 rw [hk] at hlu h2
 rw [hbl] at hlb h0 h1 h2
 rw [hby] at hB h2 hb4
 rw [hrm] at r0 h2
 have c1 : ¬ (bl : Int) = 0 := by omega
 have c2 : ¬ (bl : Int) > 1000 := by omega
 have c2' : ¬ (1000 : Int) < bl := by omega
 have c2'' : ¬ 1000 < bl := by omega
 have w1 : IntKind.i64.wrap ((by' : Int) + bl) = ((by' + bl : Nat) : Int) := by rw [wrap_i64 (by omega) (by omega)]; omega
 obtain ⟨sm,hsm⟩ : ∃ y,by' + bl = y := ⟨_,rfl⟩
 rw [hsm] at w1 h2
 by_cases h64 : 64 ≤ k
 ·have c3 : (k : Int) ≥ 64 := by omega
  have c3' : (64 : Int) ≤ k := by omega
  clear h2
  rw [call_L 7 rfl (rfl : P.T f_q10 = some F_q10) (le_ok rfl)]; simp -implicitDefEqProofs [-toCells,-AV.one,-forget,F_q10,c_q10,keepB,-goodB,goodB_L,sameV,dstNot,dstNe,SOpG.reads,SOp.slots,SX.slots,SOp.noL,rdV_load,rdV_str,selfE_lst,selfE,selfEs,eqV,hlb,h0,c1,c2,c2',c2'',hI,hlu,h64,c3,c3']
 ·have c3 : ¬ (k : Int) ≥ 64 := by omega
  have c3' : ¬ (64 : Int) ≤ k := by omega
  have c4 : (sm : Int) > rm := by omega
  have c4' : (rm : Int) < sm := by omega
  have c4'' : rm < sm := by omega
  clear h2
  rw [call_L 7 rfl (rfl : P.T f_q10 = some F_q10) (le_ok rfl)]; simp -implicitDefEqProofs [-toCells,-AV.one,-forget,F_q10,c_q10,keepB,-goodB,goodB_L,sameV,dstNot,dstNe,SOpG.reads,SOp.slots,SX.slots,SOp.noL,rdV_load,rdV_str,selfE_lst,selfE,selfEs,eqV,hlb,h0,c1,c2,c2',c2'',hI,hlu,h64,c3,c3',hB,r0,w1,c4,c4',c4'']
end
end Go.A.V.S

namespace Go.A.V.S
open Go Go.A
theorem dsl_ok (a n : Nat) : okCell (dsl a n) = true := by rcases dsl_cases a n with ⟨_,e⟩ | ⟨_,e⟩ <;> rw [e] <;> rfl
structure PR (H : Heap) (m r a b c : Nat) (x : RQ) (t : List Nat) (a1 b1 c1 : Nat) (K1 K2 K3 : Heap) : Prop where
 ap1 : ∀ f σ,appW (P.md f_q10) (some 40) 1 24 (dsl a x.L.length) (.vs 1 f [[bv (false,t)]]) σ H = some (dsl a1 (x.L.length + 1),σ,K1)
 ap2 : ∀ σ,appW (P.md f_q10) (some 46) 1 8 (dsl b x.L.length) (.imm [.int .i64 0]) σ K1 = some (dsl b1 (x.L.length + 1),σ,K2)
 ap3 : ∀ σ,appW (P.md f_q10) (some 52) 1 1 (dsl c x.L.length) (.imm [.bool false]) σ K2 = some (dsl c1 (x.L.length + 1),σ,K3)
 w1 : K1[r]? = H[r]?
 w2 : K2[r]? = H[r]?
 w3 : K3[r]? = H[r]?
 s0b : sameA H (dsl b x.L.length) (dsl b x.L.length) = true
 s0a : sameA H (dsl a x.L.length) (dsl a x.L.length) = true
 s0c : sameA H (dsl c x.L.length) (dsl c x.L.length) = true
 s1b : sameA K1 (dsl b x.L.length) (dsl b x.L.length) = true
 s1c : sameA K1 (dsl c x.L.length) (dsl c x.L.length) = true
 s2c : sameA K2 (dsl c x.L.length) (dsl c x.L.length) = true
 la : m ≤ a1 ∧ ∃ lo,lo ≤ x.L.length + 1 ∧ K3[a1]? = some (.grow (lcs (x.L ++ [t])) lo)
 lb : m ≤ b1 ∧ ∃ lo,lo ≤ x.L.length + 1 ∧ K3[b1]? = some (.grow (tcs (x.T ++ [0])) lo)
 lc : m ≤ c1 ∧ ∃ lo,lo ≤ x.L.length + 1 ∧ K3[c1]? = some (.grow (gcs (x.G ++ [false])) lo)
 ne : a1 ≠ b1 ∧ a1 ≠ c1 ∧ b1 ≠ c1
 beh : Beh m H K3
section
variable {H : Heap} {m r a b c : Nat} {x : RQ}
theorem push_rows (h : DQ H m r a b c x) (hn : x.L.length ≤ 100000) (t : List Nat) : ∃ a1 b1 c1 K1 K2 K3,PR H m r a b c x t a1 b1 c1 K1 K2 K3 := by
 have hrl : r < H.length := (List.getElem?_eq_some_iff.1 h.row).1
 have hmr := h.mr
 have hbt := h.nt
 have hgt := h.ng
 have e1 : ∀ f K,elems K 1 (.vs 1 f [[bv (false,t)]]) = some [[bv (false,t)]] := fun f K => elems_vs K 1 f _
 have e2 : ∀ K,elems K 1 (.imm [.int .i64 0]) = some [[ai 0]] := fun K => rfl
 have e3 : ∀ K,elems K 1 (.imm [.bool false]) = some [[ab false]] := fun K => rfl
 by_cases h0 : x.L.length = 0
 ·have hL : x.L = [] := List.eq_nil_of_length_eq_zero h0
  have hT : x.T = [] := List.eq_nil_of_length_eq_zero (by omega)
  have hG : x.G = [] := List.eq_nil_of_length_eq_zero (by omega)
  have sm : ∀ K j,sameA K (dsl j x.L.length) (dsl j x.L.length) = true := fun K j => sameA_dsl (fun h => by omega)
  refine ⟨H.length,H.length + 1,H.length + 2,H ++ [.grow [bv (false,t)] 0],H ++ [.grow [bv (false,t)] 0] ++ [.grow [ai 0] 0],H ++ [.grow [bv (false,t)] 0] ++ [.grow [ai 0] 0] ++ [.grow [ab false] 0],?_,?_,?_,?_,?_,?_,sm _ _,sm _ _,sm _ _,sm _ _,sm _ _,sm _ _,?_,?_,?_,by omega,?_⟩
  ·intro f σ
   rw [h0]
   exact dsl_app0 rfl (e1 _ _) (by omega) σ
  ·intro σ
   rw [h0]
   have := dsl_app0 (m := P.md f_q10) (d := 46) (bytes := 8) (K := H ++ [.grow [bv (false,t)] 0]) rfl (e2 _) (by omega) σ
   rw [List.length_append] at this
   exact this
  ·intro σ
   rw [h0]
   have := dsl_app0 (m := P.md f_q10) (d := 52) (bytes := 1) (K := H ++ [.grow [bv (false,t)] 0] ++ [.grow [ai 0] 0]) rfl (e3 _) (by omega) σ
   rw [List.length_append,List.length_append] at this
   exact this
  ·rw [List.getElem?_append_left (by omega)]
  ·rw [List.getElem?_append_left (by simp; omega),List.getElem?_append_left (by omega)]
  ·rw [List.getElem?_append_left (by simp; omega),List.getElem?_append_left (by simp; omega),List.getElem?_append_left (by omega)]
  ·exact ⟨by omega,0,by omega,by rw [hL]; simp [lcs]⟩
  ·exact ⟨by omega,0,by omega,by rw [hT]; simp [tcs]⟩
  ·exact ⟨by omega,0,by omega,by rw [hG]; simp [gcs]⟩
  ·rw [List.append_assoc,List.append_assoc]
   exact Beh.app _ _ (by omega)
 ·have hp : 0 < x.L.length := by omega
  obtain ⟨ma,la,la1,la2⟩ := h.la hp
  obtain ⟨mb,lb,lb1,lb2⟩ := h.lb hp
  obtain ⟨mc,lc,lc1,lc2⟩ := h.lc hp
  obtain ⟨n1,n2,n3⟩ := h.ne hp
  have hra : r ≠ a := fun e => by have := h.row; rw [e,la2] at this; simp at this
  have hrb : r ≠ b := fun e => by have := h.row; rw [e,lb2] at this; simp at this
  have hrc : r ≠ c := fun e => by have := h.row; rw [e,lc2] at this; simp at this
  have hal : a < H.length := (List.getElem?_eq_some_iff.1 la2).1
  have hbl : b < H.length := (List.getElem?_eq_some_iff.1 lb2).1
  have hcl : c < H.length := (List.getElem?_eq_some_iff.1 lc2).1
  obtain ⟨K1,hK1⟩ : ∃ K,H.set a (.grow (lcs x.L ++ [bv (false,t)]) la) = K := ⟨_,rfl⟩
  obtain ⟨K2,hK2⟩ : ∃ K,K1.set b (.grow (tcs x.T ++ [ai 0]) lb) = K := ⟨_,rfl⟩
  obtain ⟨K3,hK3⟩ : ∃ K,K2.set c (.grow (gcs x.G ++ [ab false]) lc) = K := ⟨_,rfl⟩
  have o1 : ∀ j,j ≠ a → K1[j]? = H[j]? := fun j hj => by rw [← hK1,List.getElem?_set_ne (by omega)]
  have o2 : ∀ j,j ≠ b → K2[j]? = K1[j]? := fun j hj => by rw [← hK2,List.getElem?_set_ne (by omega)]
  have o3 : ∀ j,j ≠ c → K3[j]? = K2[j]? := fun j hj => by rw [← hK3,List.getElem?_set_ne (by omega)]
  have l1 : K1.length = H.length := by rw [← hK1]; simp
  have l2 : K2.length = H.length := by rw [← hK2]; simp [l1]
  have x1 : K1[b]? = some (.grow (tcs x.T) lb) := by rw [o1 b (by omega)]; exact lb2
  have y1 : K1[c]? = some (.grow (gcs x.G) lc) := by rw [o1 c (by omega)]; exact lc2
  have y2 : K2[c]? = some (.grow (gcs x.G) lc) := by rw [o2 c (by omega)]; exact y1
  refine ⟨a,b,c,K1,K2,K3,fun f σ => ?_,fun σ => ?_,fun σ => ?_,o1 r hra,by rw [o2 r hrb,o1 r hra],by rw [o3 r hrc,o2 r hrb,o1 r hra],sameA_dsl (fun _ => ⟨_,_,lb2⟩),sameA_dsl (fun _ => ⟨_,_,la2⟩),sameA_dsl (fun _ => ⟨_,_,lc2⟩),sameA_dsl (fun _ => ⟨_,_,x1⟩),sameA_dsl (fun _ => ⟨_,_,y1⟩),sameA_dsl (fun _ => ⟨_,_,y2⟩),⟨ma,la,by omega,?_⟩,⟨mb,lb,by omega,?_⟩,⟨mc,lc,by omega,?_⟩,h.ne hp,⟨fun j hj => ?_,?_,fun j cs _ hj => ?_⟩⟩
  ·rw [← hK1]; exact dsl_app1 rfl (e1 _ _) (by omega) hp hn la2 (by simp [lcs]) σ
  ·rw [← hK2]; exact dsl_app1 rfl (e2 _) (by omega) hp hn x1 (by simp [tcs,hbt]) σ
  ·rw [← hK3]; exact dsl_app1 rfl (e3 _) (by omega) hp hn y2 (by simp [gcs,hgt]) σ
  ·rw [o3 a (by omega),o2 a (by omega),← hK1,List.getElem?_set_self hal]; simp [lcs]
  ·rw [o3 b (by omega),← hK2,List.getElem?_set_self (by omega)]; simp [tcs]
  ·rw [← hK3,List.getElem?_set_self (by omega)]; simp [gcs]
  ·rw [o3 j (by omega),o2 j (by omega),o1 j (by omega)]
  ·rw [← hK3,List.length_set,l2]; exact Nat.le_refl _
  ·have g : ∀ {i : Nat} {ds : List AV} {lo : Nat},H[i]? = some (.grow ds lo) → j ≠ i := fun hi e => by rw [e,hi] at hj; simp at hj
   rw [o3 j (g lc2),o2 j (g lb2),o1 j (g la2)]; exact hj
theorem push_dq (h : DQ H m r a b c x) {t : List Nat} {a1 b1 c1 : Nat} {K1 K2 K3 : Heap} (k : PR H m r a b c x t a1 b1 c1 K1 K2 K3) :
  DQ (RC K3 r [ai x.room,dsl a1 (x.L.length + 1),dsl b1 (x.L.length + 1),dsl c1 (x.L.length + 1)]) m r a1 b1 c1 (x.push t) ∧ Beh m H (RC K3 r [ai x.room,dsl a1 (x.L.length + 1),dsl b1 (x.L.length + 1),dsl c1 (x.L.length + 1)]) := by
 have hr3 : K3[r]? = some (.row [ai x.room,dsl a x.L.length,dsl b x.L.length,dsl c x.L.length]) := by rw [k.w3]; exact h.row
 have hrl : r < K3.length := (List.getElem?_eq_some_iff.1 hr3).1
 have hne : ∀ {j : Nat} {cs : List AV} {lo : Nat},K3[j]? = some (.grow cs lo) → r ≠ j := fun hj e => by rw [e,hj] at hr3; simp at hr3
 refine ⟨⟨?_,h.mr,by simp [RQ.push,h.nt],by simp [RQ.push,h.ng],fun _ => ?_,fun _ => ?_,fun _ => ?_,fun _ => k.ne⟩,k.beh.trans (Beh.set _ h.mr hr3 (fun cs e => by have := AObj.row.inj e; rw [← this]; simp))⟩
 ·rw [RC_get hrl]; simp [RQ.push]
 ·obtain ⟨q1,lo,q2,q3⟩ := k.la
  exact ⟨q1,lo,by simpa [RQ.push] using q2,by rw [RC,List.getElem?_set_ne (hne q3)]; exact q3⟩
 ·obtain ⟨q1,lo,q2,q3⟩ := k.lb
  exact ⟨q1,lo,by simpa [RQ.push] using q2,by rw [RC,List.getElem?_set_ne (hne q3)]; exact q3⟩
 ·obtain ⟨q1,lo,q2,q3⟩ := k.lc
  exact ⟨q1,lo,by simpa [RQ.push] using q2,by rw [RC,List.getElem?_set_ne (hne q3)]; exact q3⟩
set_option maxHeartbeats 2000000 in
theorem d_Push_0 (h : DQ H m r a b c x) {q : QM} (hq : q.Ok) (hR : Rel q x) (hn : x.L.length ≤ 100000) (B : Bs) (h0 : B.2.length ≠ 0) (h1 : B.2.length ≤ 1000) (h2 : q.l.length < 64 ∧ q.bytes + B.2.length ≤ q.room) :
  ∃ a1 b1 c1 H',DQ H' m r a1 b1 c1 (x.push B.2) ∧ Beh m H H' ∧ callW P f_q10 [.ptr r 0 4,bv B] H = some (.tup [ul (x.L.length + 1 : Nat),ai 0],H') := by
 obtain ⟨a1,b1,c1,K1,K2,K3,k⟩ := push_rows h hn B.2
 obtain ⟨d1,d2⟩ := push_dq h k
 refine ⟨a1,b1,c1,_,d1,d2,?_⟩
 have hlb := bv_len B
 have hI := d_IDs h hn
 have hB := d_Bytes h hq hR hn
 have hlu : ∀ f,lenW (lst true 1 f (uls ((live 0 x.L x.G).map (·.1)))) = some q.l.length := fun f => by rw [lenW_lst,uls_len,List.length_map,hR.l]
 have r0 := h.r0
 have r1 := h.r1
 have r2 := h.r2
 have r3 := h.r3
 have row1 : K1[r]? = some (.row [ai x.room,dsl a x.L.length,dsl b x.L.length,dsl c x.L.length]) := by rw [k.w1]; exact h.row
 have row2 : K2[r]? = some (.row [ai x.room,dsl a x.L.length,dsl b x.L.length,dsl c x.L.length]) := by rw [k.w2]; exact h.row
 have row3 : K3[r]? = some (.row [ai x.room,dsl a x.L.length,dsl b x.L.length,dsl c x.L.length]) := by rw [k.w3]; exact h.row
 have k12 : rdRow K1 r 2 1 4 = some [dsl b x.L.length] := rd_row row1 rfl rfl
 have k13 : rdRow K1 r 3 1 4 = some [dsl c x.L.length] := rd_row row1 rfl rfl
 have k23 : rdRow K2 r 3 1 4 = some [dsl c x.L.length] := rd_row row2 rfl rfl
 have hrl : r < K3.length := (List.getElem?_eq_some_iff.1 row3).1
 have t1 : ∀ σ,storeA σ K3 none (.ptr r 1 4) (dsl a1 (x.L.length + 1)) = some (σ,RC K3 r [ai x.room,dsl a1 (x.L.length + 1),dsl b x.L.length,dsl c x.L.length]) := fun σ => by
  have := RC_st hrl [ai x.room,dsl a x.L.length,dsl b x.L.length,dsl c x.L.length] 1 4 (dsl a1 (x.L.length + 1)) σ
  rw [RC_self row3,if_pos ⟨dsl_ok _ _,by omega,rfl⟩] at this
  exact this
 have t2 : ∀ σ,storeA σ (RC K3 r [ai x.room,dsl a1 (x.L.length + 1),dsl b x.L.length,dsl c x.L.length]) none (.ptr r 2 4) (dsl b1 (x.L.length + 1)) = some (σ,RC K3 r [ai x.room,dsl a1 (x.L.length + 1),dsl b1 (x.L.length + 1),dsl c x.L.length]) := fun σ => by
  rw [RC_st hrl,if_pos ⟨dsl_ok _ _,by omega,rfl⟩]; rfl
 have t3 : ∀ σ,storeA σ (RC K3 r [ai x.room,dsl a1 (x.L.length + 1),dsl b1 (x.L.length + 1),dsl c x.L.length]) none (.ptr r 3 4) (dsl c1 (x.L.length + 1)) = some (σ,RC K3 r [ai x.room,dsl a1 (x.L.length + 1),dsl b1 (x.L.length + 1),dsl c1 (x.L.length + 1)]) := fun σ => by
  rw [RC_st hrl,if_pos ⟨dsl_ok _ _,by omega,rfl⟩]; rfl
 have f1 : rdRow (RC K3 r [ai x.room,dsl a1 (x.L.length + 1),dsl b1 (x.L.length + 1),dsl c1 (x.L.length + 1)]) r 1 1 4 = some [dsl a1 (x.L.length + 1)] := by rw [RC_rd hrl]; rfl
 have ap1 := k.ap1
 have ap2 := k.ap2
 have ap3 := k.ap3
 have s0a := k.s0a
 have s0b := k.s0b
 have s0c := k.s0c
 have s1b := k.s1b
 have s1c := k.s1c
 have s2c := k.s2c
 have hap0 := fun σ H => appW_lst (m := P.md f_q10) (d := 38) (bytes := 1) (l := []) (l' := byteCs B.2) (x := bv B) (R_q10 38) (fun H => bv_elems H B) (by simp [byteCs,appBound]; omega) (by simp [byteCs,appBound]; omega) σ H
 have hb4 : q.bytes ≤ 64000 := by rw [QM.bytes]; have := hq.tot_le; omega
 rw [hR.room] at r0
 generalize RC K3 r [ai x.room,dsl a1 (x.L.length + 1),dsl b1 (x.L.length + 1),dsl c1 (x.L.length + 1)] = K6 at *
 generalize RC K3 r [ai x.room,dsl a1 (x.L.length + 1),dsl b1 (x.L.length + 1),dsl c x.L.length] = K5 at *
 generalize RC K3 r [ai x.room,dsl a1 (x.L.length + 1),dsl b x.L.length,dsl c x.L.length] = K4 at *
 generalize uls ((live 0 x.L x.G).map (·.1)) = us at *
 clear d1 d2 k row1 row2 row3 hrl h hR
 obtain ⟨k,hk⟩ : ∃ y,q.l.length = y := ⟨_,rfl⟩
 obtain ⟨bl,hbl⟩ : ∃ y,B.2.length = y := ⟨_,rfl⟩
 obtain ⟨by',hby⟩ : ∃ y,q.bytes = y := ⟨_,rfl⟩
 obtain ⟨rm,hrm⟩ : ∃ y,q.room = y := ⟨_,rfl⟩
 have hbne : byteCs B.2 ≠ [] := fun e => h0 (by rw [← byteCs_len,e]; rfl)
 have hap1 := fun σ H => hap0 σ H
 rw [lst_nil,List.nil_append] at hap0
 rw [lst_ne hbne] at hap0
 have hbv : ∀ f,unfl [39] (AV.vs 1 f (byteCs B.2)) = AV.vs 1 f (byteCs B.2) → True := fun _ _ => trivial
 have hvb : bv (false,B.2) = .vs 1 none (byteCs B.2) := rfl
 rw [hvb] at ap1
 rw [hk] at hlu h2
 rw [hbl] at hlb h0 h1 h2
 rw [hby] at hB h2 hb4
 rw [hrm] at r0 h2
 have c1' : ¬ (bl : Int) = 0 := by omega
 have c2 : ¬ (bl : Int) > 1000 := by omega
 have c2' : ¬ (1000 : Int) < bl := by omega
 have c2'' : ¬ 1000 < bl := by omega
 have w1 : IntKind.i64.wrap ((by' : Int) + bl) = ((by' + bl : Nat) : Int) := by rw [wrap_i64 (by omega) (by omega)]; omega
 obtain ⟨sm,hsm⟩ : ∃ y,by' + bl = y := ⟨_,rfl⟩
 rw [hsm] at w1 h2
 have h64 : ¬ 64 ≤ k := by omega
 have c3 : ¬ (k : Int) ≥ 64 := by omega
 have c3' : ¬ (64 : Int) ≤ k := by omega
 have c4 : ¬ (sm : Int) > rm := by omega
 have c4' : ¬ (rm : Int) < sm := by omega
 have c4'' : ¬ rm < sm := by omega
 obtain ⟨n1,hn1⟩ : ∃ y,x.L.length + 1 = y := ⟨_,rfl⟩
 rw [hn1] at ap1 ap2 ap3 t1 t2 t3 f1 ⊢
 have w2 : IntKind.u64.wrap (n1 : Int) = n1 := wrap_u64 (by omega) (by omega)
 obtain ⟨n,hnn⟩ : ∃ y,x.L.length = y := ⟨_,rfl⟩
 rw [hnn] at ap1 ap2 ap3 r1 r2 r3 k12 k13 k23 s0a s0b s0c s1b s1c s2c
 clear h2 hb4 hn hn1 hnn
 generalize byteCs B.2 = bc at *
 rw [call_L 7 rfl (rfl : P.T f_q10 = some F_q10) (le_ok rfl)]; simp -implicitDefEqProofs [-toCells,-AV.one,-forget,F_q10,c_q10,keepB,-goodB,goodB_L,sameV,dstNot,dstNe,SOpG.reads,SOp.slots,SX.slots,SOp.noL,rdV_load,rdV_str,selfE_lst,selfE,selfEs,eqV,-elems_vs,hlb,h0,c1',c2,c2',c2'',hI,hlu,h64,c3,c3',hB,r0,w1,c4,c4',c4'',r1,r2,r3,hap0,ap1,ap2,ap3,k12,k13,k23,s0a,s0b,s0c,s1b,s1c,s2c,t1,t2,t3,f1,w2]
end
end Go.A.V.S

namespace Go.A.V.S
open Go Go.A
section
variable {H : Heap} {m r a b c : Nat} {x : RQ}
theorem d_first_i (h : DQ H m r a b c x) (hn : x.L.length ≤ 100000) {i : Nat} (h1 : x.G[i]? = some false) (h2 : ∀ j,j < i → x.G[j]? = some true) : callW P f_q69 [.ptr r 0 4] H = some (ai i,H) := by
 have hi := (List.getElem?_eq_some_iff.1 h1).1
 rcases d_first h hn with ⟨j,q1,q2,q3⟩ | ⟨q1,_⟩
 ·have : i = j := by
   rcases Nat.lt_trichotomy i j with hl | hl | hl
   ·have := q2 i hl; rw [h1] at this; simp at this
   ·exact hl
   ·have := h2 j hl; rw [q1] at this; simp at this
  rw [this]; exact q3
 ·have := q1 i (by rw [← h.ng]; exact hi)
  rw [h1] at this; simp at this
theorem d_first_n (h : DQ H m r a b c x) (hn : x.L.length ≤ 100000) (h1 : ∀ j,j < x.L.length → x.G[j]? = some true) : callW P f_q69 [.ptr r 0 4] H = some (ai (-1),H) := by
 rcases d_first h hn with ⟨j,q1,q2,q3⟩ | ⟨q1,q3⟩
 ·have hj := (List.getElem?_eq_some_iff.1 q1).1
  have := h1 j (by rw [← h.ng]; exact hj)
  rw [q1] at this; simp at this
 ·exact q3
set_option maxHeartbeats 1000000 in
theorem d_Take_at (h : DQ H m r a b c x) (hn : x.L.length ≤ 100000) {i t n : Nat} {l : List Nat} (hl : x.L[i]? = some l) (ht : x.T[i]? = some t) (hg : x.G[i]? = some false) (hf : callW P f_q69 [.ptr r 0 4] H = some (ai i,H)) (hl1 : l.length ≤ 1000) (h1 : 1 ≤ n) (h2 : t + n ≤ l.length) :
  ∃ H',DQ H' m r a b c ⟨x.room,x.L,x.T.set i (t + n),x.G.set i (decide (t + n = l.length))⟩ ∧ Beh m H H' ∧ H'.length = H.length ∧ callW P f_q42 [.ptr r 0 4,ai n] H = some (.tup [bv (false,(l.drop t).take n),ab (decide (t + n = l.length)),ai 0],H') := by
 obtain ⟨s1,d1,b1⟩ := h.setT (v := t + n) ht
 obtain ⟨s2,d2,b2⟩ := d1.setG (v := decide (t + n = l.length)) hg
 refine ⟨_,d2,b1.trans b2,by simp,?_⟩
 have hi := (List.getElem?_eq_some_iff.1 hl).1
 have r1 := h.r1
 have r2 := h.r2
 have r3 := d1.r3
 have q1 := dsl_at (a := a) hi .i64
 have q2 := dsl_at (a := b) hi .i64
 have q3 := dsl_at (a := c) hi .i64
 have l1 := h.rl hl
 have l2 := h.rt ht
 have hlb := bv_len (false,l)
 simp only at hlb
 have c1 := fun d => bv_cut (b := (false,l)) (lo := some (.c (.int .i64 t))) (hi := some (.c (.int .i64 (t + n : Nat)))) (i := t) (j := t + n) (.inr ⟨.i64,rfl⟩) (.inr ⟨.i64,rfl⟩) (by omega) (by simp only; omega) d
 have hb1 : bcut (false,l) t (t + n) = (false,(l.drop t).take n) := by
  simp [bcut,List.drop_take]
 simp only [hb1] at c1
 have e0 : (⟨x.room,x.L,x.T.set i (t + n),x.G⟩ : RQ).L.length = x.L.length := rfl
 rw [e0] at r3 s2
 have hle : (H.set b (.grow (tcs (x.T.set i (t + n))) x.L.length)).length = H.length := by simp
 have hle2 : ((H.set b (.grow (tcs (x.T.set i (t + n))) x.L.length)).set c (.grow (gcs (x.G.set i (decide (t + n = l.length)))) x.L.length)).length = H.length := by simp
 have hta : ((H.set b (.grow (tcs (x.T.set i (t + n))) x.L.length)).set c (.grow (gcs (x.G.set i (decide (t + n = l.length)))) x.L.length)).take H.length = (H.set b (.grow (tcs (x.T.set i (t + n))) x.L.length)).set c (.grow (gcs (x.G.set i (decide (t + n = l.length)))) x.L.length) := List.take_of_length_le (by rw [hle2]; exact Nat.le_refl _)
 simp only at s2
 generalize (H.set b (.grow (tcs (x.T.set i (t + n))) x.L.length)).set c (.grow (gcs (x.G.set i (decide (t + n = l.length)))) x.L.length) = K2 at *
 generalize H.set b (.grow (tcs (x.T.set i (t + n))) x.L.length) = K1 at *
 have w1 : IntKind.i64.wrap ((l.length : Int) - t) = ((l.length - t : Nat) : Int) := by rw [wrap_i64 (by omega) (by omega)]; omega
 have w2 : IntKind.i64.wrap ((t : Int) + n) = ((t + n : Nat) : Int) := by rw [wrap_i64 (by omega) (by omega)]; omega
 obtain ⟨lf,hlf⟩ : ∃ y,l.length - t = y := ⟨_,rfl⟩
 rw [hlf] at w1
 have hde : decide (t + n = l.length) = decide (n = lf) := decide_eq_decide.2 (by omega)
 rw [hde] at s2 ⊢
 have n1 : ¬ (i : Int) < 0 := by omega
 have n2 : ¬ (n : Int) < 1 := by omega
 have n2' : ¬ n < 1 := by omega
 have n3 : ¬ (n : Int) > lf := by omega
 have n3' : ¬ (lf : Int) < n := by omega
 have n3'' : ¬ lf < n := by omega
 have hdc : decide ((n : Int) = lf) = decide (n = lf) := decide_eq_decide.2 (by omega)
 have hbe : ((n : Int) == (lf : Int)) = decide (n = lf) := by rw [← hdc]; rfl
 generalize (l.drop t).take n = bd at *
 obtain ⟨tn,htn⟩ : ∃ y,t + n = y := ⟨_,rfl⟩
 rw [htn] at w2 s1 c1
 obtain ⟨ll,hll⟩ : ∃ y,l.length = y := ⟨_,rfl⟩
 rw [hll] at w1 hlb
 obtain ⟨N,hN⟩ : ∃ y,x.L.length = y := ⟨_,rfl⟩
 rw [hN] at r1 r2 r3 q1 q2 q3 l1 l2 s1 s2
 obtain ⟨dn,hdn⟩ : ∃ y,decide (n = lf) = y := ⟨_,rfl⟩
 rw [hdn] at s2 hdc hbe ⊢
 clear d1 d2 b1 b2 h hi hn h1 h2 hlf hde htn hll e0 hl1
 rw [call_L 7 rfl (rfl : P.T f_q42 = some F_q42) (le_ok rfl)]; simp -implicitDefEqProofs [-toCells,-AV.one,-forget,F_q42,c_q42,keepB,-goodB,goodB_L,sameV,dstNot,dstNe,SOpG.reads,SOp.slots,SX.slots,SOp.noL,rdV_load,rdV_str,selfE_lst,selfE,selfEs,eqV,hf,r1,r2,r3,q1,q2,q3,l1,l2,hlb,c1,w1,w2,n1,n2,n2',n3,n3',n3'',hdc,hbe,hdn,s1,s2,hle,hle2,hta]
end
end Go.A.V.S

namespace Go.A.V.S
open Go Go.A
theorem disc_none {q : QM} {id : Nat} (h : q.find id = none) : q.discard id = (q,4) := by rw [QM.discard,h]
theorem find_0 {q : QM} (hq : q.Ok) : q.find 0 = none := by
 rw [QM.find,List.findIdx?_eq_none_iff]
 intro t ht
 have := (hq.each t ht).2.2.2.1
 simp
 omega
section
variable {H : Heap} {m r a b c : Nat} {x : RQ}
theorem d_Disc_a (h : DQ H m r a b c x) : callW P f_q11 [.ptr r 0 4,ul 0] H = some (ai 4,H) := by
 rw [call_L 6 rfl (rfl : P.T f_q11 = some F_q11) (le_ok rfl)]; simp -implicitDefEqProofs [-toCells,-AV.one,-forget,F_q11,c_q11]
theorem d_Disc_b (h : DQ H m r a b c x) (hn : x.L.length ≤ 100000) {id : Nat} (h1 : 1 ≤ id) (h2 : x.L.length < id) : callW P f_q11 [.ptr r 0 4,ul id] H = some (ai 4,H) := by
 have r1 := h.r1
 obtain ⟨n,hnn⟩ : ∃ y,x.L.length = y := ⟨_,rfl⟩
 rw [hnn] at r1 hn h2
 have w : IntKind.u64.wrap (n : Int) = n := wrap_u64 (by omega) (by omega)
 have n1 : ¬ (id : Int) < 1 := by omega
 have n2 : (id : Int) > n := by omega
 have n2' : (n : Int) < id := by omega
 have n1' : ¬ id < 1 := by omega
 clear h hnn hn
 rw [call_L 6 rfl (rfl : P.T f_q11 = some F_q11) (le_ok rfl)]; simp -implicitDefEqProofs [-toCells,-AV.one,-forget,F_q11,c_q11,r1,w,n1,n1',n2,n2',h2]
theorem d_Disc_c (h : DQ H m r a b c x) (hn : x.L.length ≤ 100000) {i : Nat} (hg : x.G[i]? = some true) : callW P f_q11 [.ptr r 0 4,ul (i + 1 : Nat)] H = some (ai 4,H) := by
 have r1 := h.r1
 have r3 := h.r3
 have hi : i < x.L.length := by rw [← h.ng]; exact (List.getElem?_eq_some_iff.1 hg).1
 have q3 := dsl_at (a := c) hi .u64
 have l3 := h.rg hg
 obtain ⟨n,hnn⟩ : ∃ y,x.L.length = y := ⟨_,rfl⟩
 rw [hnn] at r1 r3 hn hi q3 l3
 have w : IntKind.u64.wrap (n : Int) = n := wrap_u64 (by omega) (by omega)
 have w2 : IntKind.u64.wrap (((i + 1 : Nat) : Int) - 1) = i := by rw [wrap_u64 (by omega) (by omega)]; omega
 obtain ⟨id,hid⟩ : ∃ y,i + 1 = y := ⟨_,rfl⟩
 rw [hid] at w2 ⊢
 have n1 : ¬ (id : Int) < 1 := by omega
 have n1' : ¬ id < 1 := by omega
 have n2 : ¬ (id : Int) > n := by omega
 have n2' : ¬ (n : Int) < id := by omega
 have n2'' : ¬ n < id := by omega
 clear h hnn hn
 rw [call_L 6 rfl (rfl : P.T f_q11 = some F_q11) (le_ok rfl)]; simp -implicitDefEqProofs [-toCells,-AV.one,-forget,F_q11,c_q11,r1,r3,q3,l3,w,w2,n1,n1',n2,n2',n2'']
theorem d_Disc_d (h : DQ H m r a b c x) (hn : x.L.length ≤ 100000) {i t : Nat} (hg : x.G[i]? = some false) (ht : x.T[i]? = some t) (h0 : 0 < t) : callW P f_q11 [.ptr r 0 4,ul (i + 1 : Nat)] H = some (ai 7,H) := by
 have r1 := h.r1
 have r2 := h.r2
 have r3 := h.r3
 have hi : i < x.L.length := by rw [← h.ng]; exact (List.getElem?_eq_some_iff.1 hg).1
 have q3 := dsl_at (a := c) hi .u64
 have l3 := h.rg hg
 have q2 := dsl_at (a := b) hi .u64
 have l2 := h.rt ht
 obtain ⟨n,hnn⟩ : ∃ y,x.L.length = y := ⟨_,rfl⟩
 rw [hnn] at r1 r2 r3 hn hi q2 q3 l2 l3
 have w : IntKind.u64.wrap (n : Int) = n := wrap_u64 (by omega) (by omega)
 have w2 : IntKind.u64.wrap (((i + 1 : Nat) : Int) - 1) = i := by rw [wrap_u64 (by omega) (by omega)]; omega
 obtain ⟨id,hid⟩ : ∃ y,i + 1 = y := ⟨_,rfl⟩
 rw [hid] at w2 ⊢
 have n1 : ¬ (id : Int) < 1 := by omega
 have n1' : ¬ id < 1 := by omega
 have n2 : ¬ (id : Int) > n := by omega
 have n2' : ¬ (n : Int) < id := by omega
 have n2'' : ¬ n < id := by omega
 have n3 : (t : Int) > 0 := by omega
 have n3' : (0 : Int) < t := by omega
 clear h hnn hn
 rw [call_L 6 rfl (rfl : P.T f_q11 = some F_q11) (le_ok rfl)]; simp -implicitDefEqProofs [-toCells,-AV.one,-forget,F_q11,c_q11,r1,r2,r3,q2,q3,l2,l3,w,w2,n1,n1',n2,n2',n2'',n3,n3',h0]
theorem d_Disc_e (h : DQ H m r a b c x) (hn : x.L.length ≤ 100000) {i : Nat} (hg : x.G[i]? = some false) (ht : x.T[i]? = some 0) :
  ∃ H',DQ H' m r a b c ⟨x.room,x.L,x.T,x.G.set i true⟩ ∧ Beh m H H' ∧ callW P f_q11 [.ptr r 0 4,ul (i + 1 : Nat)] H = some (ai 0,H') := by
 obtain ⟨s1,d1,b1⟩ := h.setG (v := true) hg
 refine ⟨_,d1,b1,?_⟩
 have r1 := h.r1
 have r2 := h.r2
 have r3 := h.r3
 have hi : i < x.L.length := by rw [← h.ng]; exact (List.getElem?_eq_some_iff.1 hg).1
 have q3 := dsl_at (a := c) hi .u64
 have l3 := h.rg hg
 have q2 := dsl_at (a := b) hi .u64
 have l2 := h.rt ht
 replace l2 : rdRow H b i 1 x.L.length = some [ai 0] := l2
 have hle : (H.set c (.grow (gcs (x.G.set i true)) x.L.length)).length = H.length := by simp
 have hta : (H.set c (.grow (gcs (x.G.set i true)) x.L.length)).take H.length = H.set c (.grow (gcs (x.G.set i true)) x.L.length) := List.take_of_length_le (by rw [hle]; exact Nat.le_refl _)
 generalize H.set c (.grow (gcs (x.G.set i true)) x.L.length) = K1 at *
 obtain ⟨n,hnn⟩ : ∃ y,x.L.length = y := ⟨_,rfl⟩
 rw [hnn] at r1 r2 r3 hn hi q2 q3 l2 l3 s1
 have w : IntKind.u64.wrap (n : Int) = n := wrap_u64 (by omega) (by omega)
 have w2 : IntKind.u64.wrap (((i + 1 : Nat) : Int) - 1) = i := by rw [wrap_u64 (by omega) (by omega)]; omega
 obtain ⟨id,hid⟩ : ∃ y,i + 1 = y := ⟨_,rfl⟩
 rw [hid] at w2 ⊢
 have n1 : ¬ (id : Int) < 1 := by omega
 have n1' : ¬ id < 1 := by omega
 have n2 : ¬ (id : Int) > n := by omega
 have n2' : ¬ (n : Int) < id := by omega
 have n2'' : ¬ n < id := by omega
 clear h hnn hn d1 b1
 rw [call_L 6 rfl (rfl : P.T f_q11 = some F_q11) (le_ok rfl)]; simp -implicitDefEqProofs [-toCells,-AV.one,-forget,F_q11,c_q11,r1,r2,r3,q2,q3,l2,l3,w,w2,n1,n1',n2,n2',n2'',s1,hle,hta]
theorem d_Discard (h : DQ H m r a b c x) {q : QM} (hq : q.Ok) (hR : Rel q x) (hn : x.L.length ≤ 100000) (id : Nat) :
  ∃ x' H',DQ H' m r a b c x' ∧ Rel (q.discard id).1 x' ∧ x'.L = x.L ∧ Beh m H H' ∧ callW P f_q11 [.ptr r 0 4,ul id] H = some (ai ((q.discard id).2 : Nat),H') := by
 by_cases h0 : id = 0
 ·subst h0
  rw [disc_none (find_0 hq)]
  exact ⟨x,H,h,hR,rfl,Beh.refl _ _,d_Disc_a h⟩
 obtain ⟨i,rfl⟩ : ∃ i,id = i + 1 := ⟨id - 1,by omega⟩
 have hf := hR.find i
 by_cases hi : i < x.L.length
 ·obtain ⟨g,hg⟩ : ∃ g,x.G[i]? = some g := ⟨_,List.getElem?_eq_getElem (by rw [h.ng]; exact hi)⟩
  cases g with
  | true =>
   rw [if_neg (by rw [hg]; simp)] at hf
   rw [disc_none hf]
   exact ⟨x,H,h,hR,rfl,Beh.refl _ _,d_Disc_c h hn hg⟩
  | false =>
   rw [if_pos hg] at hf
   obtain ⟨j,t,f1,f2,f3,f4⟩ := hf
   by_cases ht : 0 < t
   ·have hd : q.discard (i + 1) = (q,7) := by
     unfold QM.discard
     rw [f1]
     simp only
     split at f3
     ·rename_i hj
      rw [if_pos ⟨hj,by omega⟩]
     ·omega
    rw [hd]
    exact ⟨x,H,h,hR,rfl,Beh.refl _ _,d_Disc_d h hn hg f2 ht⟩
   ·obtain rfl : t = 0 := by omega
    have hd : q.discard (i + 1) = (⟨q.room,q.l.eraseIdx j,q.taken,q.last⟩,0) := by
     unfold QM.discard
     rw [f1]
     simp only
     rw [if_neg (fun ⟨e1,e2⟩ => by rw [if_pos e1] at f3; omega)]
    have e : (if j = 0 then 0 else q.taken) = q.taken := by
     split
     ·rename_i hj; rw [if_pos hj] at f3; exact f3
     ·rfl
    rw [e] at f4
    obtain ⟨H',d1,d2,d3⟩ := d_Disc_e h hn hg f2
    rw [hd]
    exact ⟨_,H',d1,f4,rfl,d2,d3⟩
 ·rw [if_neg (fun e => by have := (List.getElem?_eq_some_iff.1 e).1; rw [h.ng] at this; exact hi this)] at hf
  rw [disc_none hf]
  exact ⟨x,H,h,hR,rfl,Beh.refl _ _,d_Disc_b h hn (by omega) (by omega)⟩
def InvDC (H : Heap) (m r a b c : Nat) (x : RQ) (I : List Nat) (zz : Nat) (σ : List AV) (K : Heap) : Prop :=
 ∃ i : Nat,i + zz = x.L.length ∧ DQ K m r a b c ⟨x.room,x.L,x.T,List.replicate i true ++ x.G.drop i⟩ ∧ Beh m H K ∧ K.length = H.length ∧ σ = L 23 ((((Tr.full 5).put (path 0) (.ptr r 0 4)).put (path 3) (lst true 1 (some 6) (uls I))).put (path 4) (ai i))
def PostDC (H : Heap) (m r a b c : Nat) (x : RQ) (I : List Nat) (e : AExit) (σ : List AV) (K : Heap) : Prop :=
 e = .exit 0 ∧ DQ K m r a b c ⟨x.room,x.L,x.T,List.replicate x.L.length true⟩ ∧ Beh m H K ∧ K.length = H.length ∧ kill [0,4,7,8,9,10,11,12,13] σ = L 23 ((Tr.full 5).put (path 3) (lst true 1 (some 6) (uls I)))
theorem dc_loop (hg : x.G.length = x.L.length) (hn : x.L.length ≤ 100000) (I : List Nat) (zz : Nat) (σ : List AV) (K : Heap) (hI : InvDC H m r a b c x I zz (kill (headK lp0_q15) σ) K) :
  Ends (execW P f_q15 (.loop lp0_q15) σ K) fun s => PostDC H m r a b c x I s.e s.σ s.H := by
 refine loop_ends (fun zz σ K => InvDC H m r a b c x I zz σ K) (PostDC H m r a b c x I) ?_ zz σ K hI
 clear hI zz σ K
 rintro zz σ K ⟨i,hz,h,hb,hle,rfl⟩
 have r1 := h.r1
 have r3 := h.r3
 simp only at r1 r3
 by_cases hi : i < x.L.length
 ·have hgi : (List.replicate i true ++ x.G.drop i)[i]? = some x.G[i] := by
   rw [List.getElem?_append_right (by simp)]
   simp
  obtain ⟨s1,d1,b1⟩ := h.setG (v := true) hgi
  simp only at s1 d1
  have q3 := dsl_at (a := c) hi .i64
  have w2 : IntKind.i64.wrap ((i : Int) + 1) = ((i + 1 : Nat) : Int) := by rw [wrap_i64 (by omega) (by omega)]; omega
  have e : (List.replicate i true ++ x.G.drop i).set i true = List.replicate (i + 1) true ++ x.G.drop (i + 1) := by
   rw [List.set_append_right _ _ (by simp),List.length_replicate,Nat.sub_self,List.drop_eq_getElem_cons (by omega),List.set_cons_zero,List.replicate_succ',List.append_assoc]
   rfl
  rw [e] at s1 d1 b1
  have hle2 : (K.set c (.grow (gcs (List.replicate (i + 1) true ++ x.G.drop (i + 1))) x.L.length)).length = H.length := by simp [hle]
  generalize K.set c (.grow (gcs (List.replicate (i + 1) true ++ x.G.drop (i + 1))) x.L.length) = K1 at *
  have hf : ∀ σ',σ' = L 23 ((((Tr.full 5).put (path 0) (.ptr r 0 4)).put (path 3) (lst true 1 (some 6) (uls I))).put (path 4) (ai (i + 1 : Nat))) → ∃ z,z < zz ∧ InvDC H m r a b c x I z σ' K1 := fun σ' hσ' => ⟨zz - 1,by omega,i + 1,by omega,d1,hb.trans b1,hle2,hσ'⟩
  obtain ⟨n,hnn⟩ : ∃ y,x.L.length = y := ⟨_,rfl⟩
  rw [hnn] at r1 r3 hi q3 s1
  obtain ⟨i1,hi1⟩ : ∃ y,i + 1 = y := ⟨_,rfl⟩
  rw [hi1] at w2 hf
  clear h d1 hb b1 hz hg hn hgi e
  simp -implicitDefEqProofs (disch := first | omega | (simp; done) | fail) [-toCells,-AV.one,-forget,c_q15,cmp_ilt,cmp_ilf,cmp_ile,cmp_ilg,cmp_ine,cmp_ieq,cmp_nlt,cmp_nlf,cmp_nle,cmp_nne,cmp_neq,wrap_i64,wrap_u64,wrap_u8,lp0_q15,r1,r3,q3,s1,w2]
  exact hf _ (by simp)
 ·have hie : i = x.L.length := by omega
  have hp : ∀ σ',kill [0,4,7,8,9,10,11,12,13] σ' = L 23 ((Tr.full 5).put (path 3) (lst true 1 (some 6) (uls I))) → PostDC H m r a b c x I (.exit 0) σ' K := fun σ' hσ' => ⟨rfl,by rw [hie,List.drop_of_length_le (by omega),List.append_nil] at h; exact h,hb,hle,hσ'⟩
  obtain ⟨n,hnn⟩ : ∃ y,x.L.length = y := ⟨_,rfl⟩
  rw [hnn] at r1 r3 hi
  clear h hb hz hg hn hie
  simp -implicitDefEqProofs (disch := first | omega | (simp; done) | fail) [-toCells,-AV.one,-forget,c_q15,cmp_ilt,cmp_ilf,cmp_ile,cmp_ilg,cmp_ine,cmp_ieq,cmp_nlt,cmp_nlf,cmp_nle,cmp_nne,cmp_neq,wrap_i64,wrap_u64,wrap_u8,lp0_q15,r1,r3]
  exact hp _ (by simp)
def PostDc (H : Heap) (m r a b c : Nat) (x : RQ) (I : List Nat) (e : AExit) (σ : List AV) (K : Heap) : Prop := e = .ret ∧ (DQ K m r a b c ⟨x.room,x.L,x.T,List.replicate x.L.length true⟩ ∧ Beh m H K ∧ K.length = H.length) ∧ resultsA F_q15.res σ = some (lst true 1 (some 6) (uls I))
theorem d_Clear (h : DQ H m r a b c x) {q : QM} (hR : Rel q x) (hn : x.L.length ≤ 100000) :
  ∃ H',DQ H' m r a b c ⟨x.room,x.L,x.T,List.replicate q.last true⟩ ∧ Beh m H H' ∧ callW P f_q15 [.ptr r 0 4] H = some (lst true 1 (some 0) (uls q.ids),H') := by
 have hI := d_IDs h hn
 rw [hR.l] at hI
 replace hI : callW P f_q31 [.ptr r 0 4] H = some (lst true 1 (some 0) (uls q.ids),H) := hI
 suffices hs : Ends (callW P f_q15 [.ptr r 0 4] H) fun y => ∃ H',DQ H' m r a b c ⟨x.room,x.L,x.T,List.replicate x.L.length true⟩ ∧ Beh m H H' ∧ y = (lst true 1 (some 0) (uls q.ids),H') by
  obtain ⟨y,h1,H',h2,h3,rfl⟩ := hs
  rw [hR.n1] at h2
  exact ⟨H',h2,h3,h1⟩
 have hL := fun σ K => dc_loop (H := H) (m := m) (r := r) (a := a) (b := b) (c := c) h.ng hn q.ids x.L.length σ K
 have hI2 : ∀ σ,σ = L 23 ((((Tr.full 5).put (path 0) (.ptr r 0 4)).put (path 3) (lst true 1 (some 6) (uls q.ids))).put (path 4) (ai 0)) → InvDC H m r a b c x q.ids x.L.length σ H := fun σ hσ => ⟨0,by omega,h,Beh.refl _ _,rfl,hσ⟩
 refine call_post 5 23 rfl (rfl : P.T f_q15 = some F_q15) rfl (le_ok rfl) (PostDc H m r a b c x q.ids) ?_ ?_
 ·rintro e σ K ⟨rfl,⟨h1,h2,h3⟩,h4⟩
  refine ⟨rfl,_,h4,by simp,?_⟩
  have fin : finish (P.K f_q15) (P.C f_q15) H.length (lst true 1 (some 6) (uls q.ids)) K = some (lst true 1 (some 0) (uls q.ids),K) := by
   have ht : K.take H.length = K := List.take_of_length_le (by omega)
   simp [h3,ht]
  exact ⟨_,fin,K,h1,h2,rfl⟩
 have hp : ∀ K σ,DQ K m r a b c ⟨x.room,x.L,x.T,List.replicate x.L.length true⟩ → Beh m H K → K.length = H.length → resultsA F_q15.res σ = some (lst true 1 (some 6) (uls q.ids)) → PostDc H m r a b c x q.ids .ret σ K := fun K σ h1 h2 h3 h4 => ⟨rfl,⟨h1,h2,h3⟩,h4⟩
 have hPd : ∀ e σ K,PostDC H m r a b c x q.ids e σ K → e = .exit 0 ∧ (DQ K m r a b c ⟨x.room,x.L,x.T,List.replicate x.L.length true⟩ ∧ Beh m H K ∧ K.length = H.length) ∧ kill [0,4,7,8,9,10,11,12,13] σ = L 23 ((Tr.full 5).put (path 3) (lst true 1 (some 6) (uls q.ids))) := fun e σ K ⟨q1,q2,q3,q4,q5⟩ => ⟨q1,⟨q2,q3,q4⟩,q5⟩
 generalize uls q.ids = us at *
 rw [F_q15]; simp -implicitDefEqProofs [-toCells,-AV.one,-forget,c_q15,hI]
 repeat rw [Option.bind_assoc]
 refine Ends.block (P := PostDC H m r a b c x q.ids) (hL _ _ (hI2 _ (by simp [lp0_q15]))) ?_
 intro e σ1 K1 hq
 obtain ⟨rfl,⟨q1,q2,q3⟩,k2⟩ := hPd e σ1 K1 hq
 simp -implicitDefEqProofs [-toCells,-AV.one,-forget,c_q15,k2]
 exact hp _ _ q1 q2 q3 (by simp [F_q15])
end
end Go.A.V.S
