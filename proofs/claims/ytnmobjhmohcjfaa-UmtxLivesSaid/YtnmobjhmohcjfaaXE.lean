/- Rows of the heap that are told by their cells. -/
import Derived.Test.YtnmobjhmohcjfaaXA
import Derived.Test.YtnmobjhmohcjfaaAX
import Derived.Test.YtnmobjhmohcjfaaV14
set_option linter.unusedSimpArgs false
set_option linter.unusedVariables false
set_option linter.unnecessarySimpa false
namespace Go.A.V.S
open Go Go.A
def RC (H : Heap) (r : Nat) (cs : List AV) : Heap := H.set r (.row cs)
section
variable {H : Heap} {r : Nat}
theorem RC_get (hlt : r < H.length) (cs : List AV) : (RC H r cs)[r]? = some (.row cs) := by simp [RC,hlt]
theorem RC_len (H : Heap) (r : Nat) (cs : List AV) : (RC H r cs).length = H.length := by simp [RC]
theorem RC_take (H : Heap) (r : Nat) (cs : List AV) : (RC H r cs).take H.length = RC H r cs := List.take_of_length_le (by rw [RC_len]; exact Nat.le_refl _)
theorem RC_rd (hlt : r < H.length) (cs : List AV) (i k n : Nat) : rdRow (RC H r cs) r i k n = if i + k ≤ n ∧ n ≤ cs.length then some ((cs.drop i).take k) else none := by
 simp [rdRow,RC_get hlt,AObj.isRow,AObj.lo,AObj.cells]
theorem RC_st (hlt : r < H.length) (cs : List AV) (i n : Nat) (v : AV) (σ : List AV) : storeA σ (RC H r cs) none (.ptr r i n) v = if okCell v = true ∧ i < n ∧ n = cs.length then some (σ,RC H r (cs.set i v)) else none := by
 simp only [storeA,wrRow,RC_get hlt]
 by_cases h : okCell v = true ∧ i < n ∧ n = cs.length
 ·obtain ⟨h1,h2,h3⟩ := h
  have h1' : [v].all okCell = true := by simpa using h1
  rw [if_pos ⟨h3,by simp only [List.length_cons,List.length_nil]; omega,h1'⟩,if_pos ⟨h1,h2,h3⟩]
  have e : cs.take i ++ [v] ++ cs.drop (i + [v].length) = cs.set i v := by
   rw [List.set_eq_take_append_cons_drop,if_pos (by omega)]
   simp
  simp only [Option.map_some,e,RC,List.set_set]
 ·rw [if_neg (fun ⟨a,b,c⟩ => h ⟨by simpa using c,by simp only [List.length_cons,List.length_nil] at b; omega,a⟩),if_neg h]
  rfl
theorem RC_comm {s : Nat} (h : r ≠ s) (a b : List AV) : RC (RC H r a) s b = RC (RC H s b) r a := by
 simp only [RC]; exact List.set_comm _ _ h
theorem RC_app (hlt : r < H.length) (cs : List AV) (X : Heap) : RC H r cs ++ X = RC (H ++ X) r cs := by
 simp only [RC]; rw [List.set_append_left _ _ hlt]
theorem RC_self {cs : List AV} (h : H[r]? = some (.row cs)) : RC H r cs = H := by
 apply List.ext_getElem?
 intro j
 rw [RC,List.getElem?_set]
 split
 ·rename_i e
  subst e
  split
  ·exact h.symm
  ·rename_i hn; rw [List.getElem?_eq_none (by omega)]
 ·rfl
end
attribute [simp] RC_len RC_take
end Go.A.V.S

namespace Go.A.V.S
structure QM where
 room : Nat
 l : List (Nat × List Nat)
 taken : Nat
 last : Nat
def tot (l : List (Nat × List Nat)) : Nat := (l.map fun t => t.2.length).sum
theorem tot_cons (t : Nat × List Nat) (l : List (Nat × List Nat)) : tot (t :: l) = t.2.length + tot l := by simp [tot]
theorem tot_app (a b : List (Nat × List Nat)) : tot (a ++ b) = tot a + tot b := by simp [tot]
def QM.bytes (q : QM) : Nat := tot q.l - q.taken
def QM.ids (q : QM) : List Nat := q.l.map (·.1)
structure QM.Ok (q : QM) : Prop where
 room : 1 ≤ q.room ∧ q.room ≤ 20000
 len : q.l.length ≤ 64
 each : ∀ t ∈ q.l,1 ≤ t.2.length ∧ t.2.length ≤ 1000 ∧ Go.A.Bytes t.2 ∧ 1 ≤ t.1 ∧ t.1 ≤ q.last
 top : q.l = [] → q.taken = 0
 first : ∀ t r,q.l = t :: r → q.taken < t.2.length
 fits : q.bytes ≤ q.room
 inc : q.ids.Pairwise (· < ·)
theorem QM.Ok.tot_le {q : QM} (h : q.Ok) : tot q.l ≤ 64000 := by
 have h1 : ∀ l : List (Nat × List Nat),(∀ t ∈ l,t.2.length ≤ 1000) → tot l ≤ 1000 * l.length := by
  intro l
  induction l with
  | nil => intro _; simp [tot]
  | cons t r ih =>
   intro hl
   rw [tot_cons,List.length_cons]
   have := hl t (by simp)
   have := ih (fun x hx => hl x (by simp [hx]))
   omega
 have := h1 q.l (fun t ht => (h.each t ht).2.1)
 have := h.len
 omega
theorem QM.Ok.taken_le {q : QM} (h : q.Ok) : q.taken ≤ tot q.l := by
 cases hl : q.l with
 | nil => rw [h.top hl]; simp
 | cons t r => have := h.first t r hl; rw [tot_cons]; omega
def QM.push (q : QM) (b : List Nat) : QM × Nat × Nat :=
 if b.length = 0 then (q,0,1) else if 1000 < b.length then (q,0,2) else if 64 ≤ q.l.length ∨ q.room < q.bytes + b.length then (q,0,5)
 else (⟨q.room,q.l ++ [(q.last + 1,b)],q.taken,q.last + 1⟩,q.last + 1,0)
def QM.take (q : QM) (n : Int) : QM × List Nat × Bool × Nat := match q.l with
 | [] => (q,[],false,4)
 | t :: r => if n < 1 ∨ ((t.2.length - q.taken : Nat) : Int) < n then (q,[],false,1)
  else if n < ((t.2.length - q.taken : Nat) : Int) then (⟨q.room,q.l,q.taken + n.toNat,q.last⟩,(t.2.drop q.taken).take n.toNat,false,0)
  else (⟨q.room,r,0,q.last⟩,t.2.drop q.taken,true,0)
def QM.find (q : QM) (id : Nat) : Option Nat := q.l.findIdx? fun t => t.1 == id
def QM.discard (q : QM) (id : Nat) : QM × Nat := match q.find id with
 | none => (q,4)
 | some i => if i = 0 ∧ 0 < q.taken then (q,7) else (⟨q.room,q.l.eraseIdx i,q.taken,q.last⟩,0)
def QM.clear (q : QM) : QM := ⟨q.room,[],0,q.last⟩
theorem QM.push_ok {q : QM} (h : q.Ok) {b : List Nat} (hb : Go.A.Bytes b) : (q.push b).1.Ok := by
 unfold QM.push
 split
 ·exact h
 ·split
  ·exact h
  ·split
   ·exact h
   ·rename_i h1 h2 h3
    have ht := h.taken_le
    have hby : q.bytes = tot q.l - q.taken := rfl
    have ht1 : tot [(q.last + 1,b)] = b.length := by simp [tot]
    refine ⟨h.room,by simp; have := h.len; omega,fun t ht => ?_,fun e => by simp at e,fun t r e => ?_,?_,?_⟩
    ·rcases List.mem_append.1 ht with ht | ht
     ·obtain ⟨a,b',c,d,e⟩ := h.each t ht
      exact ⟨a,b',c,d,by simp only; omega⟩
     ·simp at ht; subst ht
      exact ⟨by simp only; omega,by simp only; omega,hb,by simp only; omega,by simp only; omega⟩
    ·simp only
     cases hl : q.l with
     | nil =>
      rw [hl] at e
      simp at e
      obtain ⟨rfl,_⟩ := e
      rw [h.top hl]; simp only; omega
     | cons t' r' =>
      rw [hl] at e
      simp at e
      obtain ⟨rfl,_⟩ := e
      exact h.first _ _ hl
    ·show tot (q.l ++ [(q.last + 1,b)]) - q.taken ≤ q.room
     rw [tot_app,ht1]
     omega
    ·show ((q.l ++ [(q.last + 1,b)]).map (·.1)).Pairwise (· < ·)
     rw [List.map_append,List.pairwise_append]
     refine ⟨h.inc,by simp,fun x hx y hy => ?_⟩
     obtain ⟨t,ht,rfl⟩ := List.mem_map.1 hx
     have := (h.each t ht).2.2.2.2
     simp at hy; omega
theorem QM.take_ok {q : QM} (h : q.Ok) (n : Int) : (q.take n).1.Ok := by
 unfold QM.take
 split
 ·exact h
 ·rename_i t r hl
  split
  ·exact h
  ·split
   ·rename_i h1 h2
    have hf := h.first t r hl
    refine ⟨h.room,h.len,h.each,fun e => by simp only at e; rw [e] at hl; simp at hl,fun t' r' e => ?_,?_,h.inc⟩
    ·simp only at e ⊢
     rw [hl] at e
     simp at e
     obtain ⟨rfl,_⟩ := e
     omega
    ·have hfit := h.fits
     have e : q.bytes = tot q.l - q.taken := rfl
     show tot q.l - (q.taken + n.toNat) ≤ q.room
     omega
   ·have hln := h.len
    have hfit := h.fits
    have e : q.bytes = tot q.l - q.taken := rfl
    have hf := h.first t r hl
    have hinc := h.inc
    rw [hl,tot_cons] at e
    rw [hl,List.length_cons] at hln
    refine ⟨h.room,by simp only; omega,fun t' ht => h.each t' (by rw [hl]; simp [ht]),fun _ => rfl,fun t' r' e2 => ?_,?_,?_⟩
    ·simp only at e2 ⊢
     have := (h.each t' (by rw [hl,e2]; simp)).1
     omega
    ·show tot r - 0 ≤ q.room
     omega
    ·rw [QM.ids,hl,List.map_cons,List.pairwise_cons] at hinc
     exact hinc.2
theorem tot_erase : ∀ (l : List (Nat × List Nat)) (i : Nat) (t : Nat × List Nat),l[i]? = some t → tot (l.eraseIdx i) + t.2.length = tot l
 | [],i,t,h => by simp at h
 | x :: r,0,t,h => by simp at h; subst h; rw [List.eraseIdx_cons_zero,tot_cons]; omega
 | x :: r,i + 1,t,h => by
  rw [List.getElem?_cons_succ] at h
  rw [List.eraseIdx_cons_succ,tot_cons,tot_cons]
  have := tot_erase r i t h
  omega
theorem QM.discard_ok {q : QM} (h : q.Ok) (id : Nat) : (q.discard id).1.Ok := by
 unfold QM.discard
 split
 ·exact h
 ·rename_i i hi
  split
  ·exact h
  ·rename_i h0
   have hil : i < q.l.length := by
    obtain ⟨h1,_⟩ := List.findIdx?_eq_some_iff_getElem.1 hi
    exact h1
   obtain ⟨t,ht⟩ : ∃ t,q.l[i]? = some t := ⟨_,List.getElem?_eq_getElem hil⟩
   have hte := tot_erase _ _ _ ht
   have e : q.bytes = tot q.l - q.taken := rfl
   have hfit := h.fits
   have hln := h.len
   refine ⟨h.room,by simp only; rw [List.length_eraseIdx]; split <;> omega,fun x hx => h.each x (List.mem_of_mem_eraseIdx hx),fun e2 => ?_,fun x r e2 => ?_,?_,?_⟩
   ·simp only at e2 ⊢
    cases hl : q.l with
    | nil => exact h.top hl
    | cons y s =>
     rw [hl] at e2 hil
     cases i with
     | zero => omega
     | succ i => rw [List.eraseIdx_cons_succ] at e2; simp at e2
   ·simp only at e2 ⊢
    cases hl : q.l with
    | nil => rw [hl] at hil; simp at hil
    | cons y s =>
     cases i with
     | zero =>
      have : q.taken = 0 := by omega
      rw [this]
      have := (h.each x (List.mem_of_mem_eraseIdx (by rw [e2]; simp))).1
      omega
     | succ i =>
      rw [hl,List.eraseIdx_cons_succ] at e2
      simp at e2
      obtain ⟨rfl,_⟩ := e2
      exact h.first _ _ hl
   ·show tot (q.l.eraseIdx i) - q.taken ≤ q.room
    omega
   ·show ((q.l.eraseIdx i).map (·.1)).Pairwise (· < ·)
    exact h.inc.sublist ((List.eraseIdx_sublist _ _).map _)
theorem QM.clear_ok {q : QM} (h : q.Ok) : q.clear.Ok := ⟨h.room,by simp [QM.clear],by simp [QM.clear],fun _ => rfl,by simp [QM.clear],by simp [QM.clear,QM.bytes,tot],by simp [QM.clear,QM.ids]⟩
end Go.A.V.S

namespace Go.A.V.S
open Go Go.A
abbrev ul (n : Nat) : AV := .c (.int .u64 (n : Int))
def txs (l : List (Nat × List Nat)) : List (List AV) := l.map fun t => [ul t.1,bv (false,t.2)]
theorem txs_len (l : List (Nat × List Nat)) : (txs l).length = l.length := by simp [txs]
def qv (q : QM) (z : Bool) : List AV := [ai q.room,lst z 2 none (txs q.l),ai q.taken,ul q.last,ai q.bytes]
def QH (H : Heap) (r : Nat) (q : QM) (z : Bool) : Heap := RC H r (qv q z)
section
variable {H : Heap} {r : Nat}
theorem QH_len (H : Heap) (r : Nat) (q : QM) (z : Bool) : (QH H r q z).length = H.length := RC_len _ _ _
theorem QH_take (H : Heap) (r : Nat) (q : QM) (z : Bool) : (QH H r q z).take H.length = QH H r q z := RC_take _ _ _
theorem QH_0 (hlt : r < H.length) (q : QM) (z : Bool) : rdRow (QH H r q z) r 0 1 5 = some [ai q.room] := by rw [QH,RC_rd hlt]; rfl
theorem QH_1 (hlt : r < H.length) (q : QM) (z : Bool) : rdRow (QH H r q z) r 1 1 5 = some [lst z 2 none (txs q.l)] := by rw [QH,RC_rd hlt]; rfl
theorem QH_2 (hlt : r < H.length) (q : QM) (z : Bool) : rdRow (QH H r q z) r 2 1 5 = some [ai q.taken] := by rw [QH,RC_rd hlt]; rfl
theorem QH_4 (hlt : r < H.length) (q : QM) (z : Bool) : rdRow (QH H r q z) r 4 1 5 = some [ai q.bytes] := by rw [QH,RC_rd hlt]; rfl
attribute [simp] QH_len QH_take
theorem q_made (hlt : r < H.length) {q : QM} (h : 1 ≤ q.room) (z : Bool) : callW P f_q48 [.ptr r 0 5] (QH H r q z) = some (ab true,QH H r q z) := by
 have r0 := QH_0 hlt q z
 have hl := QH_len H r q z
 have ht : (QH H r q z).take (QH H r q z).length = QH H r q z := List.take_length
 generalize QH H r q z = G at *
 rw [call_L 4 rfl (rfl : P.T f_q48 = some F_q48) (le_ok rfl)]; simp -implicitDefEqProofs (disch := first | omega | (simp; done) | fail) [-toCells,-AV.one,-forget,F_q48,c_q48,cmp_ilt,cmp_ilf,cmp_ile,cmp_ilg,cmp_ine,cmp_ieq,cmp_nlt,cmp_nlf,cmp_nle,cmp_nne,cmp_neq,wrap_i64,wrap_u64,wrap_u8,r0]
theorem q_made_nil (H : Heap) : callW P f_q48 [.c (.pointer none)] H = some (ab false,H) := by
 rw [call_L 4 rfl (rfl : P.T f_q48 = some F_q48) (le_ok rfl)]; simp -implicitDefEqProofs (disch := first | omega | (simp; done) | fail) [-toCells,-AV.one,-forget,F_q48,c_q48,cmp_ilt,cmp_ilf,cmp_ile,cmp_ilg,cmp_ine,cmp_ieq,cmp_nlt,cmp_nlf,cmp_nle,cmp_nne,cmp_neq,wrap_i64,wrap_u64,wrap_u8]
theorem q_Bytes (hlt : r < H.length) (q : QM) (z : Bool) : callW P f_q29 [.ptr r 0 5] (QH H r q z) = some (ai q.bytes,QH H r q z) := by
 have r0 := QH_4 hlt q z
 generalize QH H r q z = G at *
 rw [call_L 4 rfl (rfl : P.T f_q29 = some F_q29) (le_ok rfl)]; simp -implicitDefEqProofs (disch := first | omega | (simp; done) | fail) [-toCells,-AV.one,-forget,F_q29,c_q29,cmp_ilt,cmp_ilf,cmp_ile,cmp_ilg,cmp_ine,cmp_ieq,cmp_nlt,cmp_nlf,cmp_nle,cmp_nne,cmp_neq,wrap_i64,wrap_u64,wrap_u8,r0]
theorem q_New (n : Int) (H : Heap) : callW P f_q19 [ai n] H = if 1 ≤ n ∧ n ≤ 20000 then some (.tup [.ptr H.length 0 5,ai 0],H ++ [.row (qv ⟨n.toNat,[],0,0⟩ true)]) else some (.tup [.c (.pointer none),ai 1],H) := by
 by_cases h1 : 1 ≤ n
 ·by_cases h2 : n ≤ 20000
  ·rw [if_pos ⟨h1,h2⟩]
   obtain ⟨m,rfl⟩ : ∃ m : Nat,n = m := ⟨n.toNat,by omega⟩
   rw [call_L 4 rfl (rfl : P.T f_q19 = some F_q19) (le_ok rfl)]; simp -implicitDefEqProofs (disch := first | omega | (simp; done) | fail) [-toCells,-AV.one,-forget,F_q19,c_q19,cmp_ilt,cmp_ilf,cmp_ile,cmp_ilg,cmp_ine,cmp_ieq,cmp_nlt,cmp_nlf,cmp_nle,cmp_nne,cmp_neq,wrap_i64,wrap_u64,wrap_u8,qv,txs,QM.bytes,tot]
  ·rw [if_neg (fun h => h2 h.2)]
   rw [call_L 4 rfl (rfl : P.T f_q19 = some F_q19) (le_ok rfl)]; simp -implicitDefEqProofs (disch := first | omega | (simp; done) | fail) [-toCells,-AV.one,-forget,F_q19,c_q19,cmp_ilt,cmp_ilf,cmp_ile,cmp_ilg,cmp_ine,cmp_ieq,cmp_nlt,cmp_nlf,cmp_nle,cmp_nne,cmp_neq,wrap_i64,wrap_u64,wrap_u8]
 ·rw [if_neg (fun h => h1 h.1)]
  rw [call_L 4 rfl (rfl : P.T f_q19 = some F_q19) (le_ok rfl)]; simp -implicitDefEqProofs (disch := first | omega | (simp; done) | fail) [-toCells,-AV.one,-forget,F_q19,c_q19,cmp_ilt,cmp_ilf,cmp_ile,cmp_ilg,cmp_ine,cmp_ieq,cmp_nlt,cmp_nlf,cmp_nle,cmp_nne,cmp_neq,wrap_i64,wrap_u64,wrap_u8]
end
end Go.A.V.S

namespace Go.A.V.S
open Go Go.A
section
variable {H : Heap} {r : Nat}
def QC (H : Heap) (r : Nat) (room : Nat) (l : AV) (taken last : Nat) (bytes : Int) : Heap := RC H r [ai room,l,ai taken,ul last,ai bytes]
theorem QC_len (H : Heap) (r room : Nat) (l : AV) (taken last : Nat) (bytes : Int) : (QC H r room l taken last bytes).length = H.length := RC_len _ _ _
theorem QC_take (H : Heap) (r room : Nat) (l : AV) (taken last : Nat) (bytes : Int) : (QC H r room l taken last bytes).take H.length = QC H r room l taken last bytes := RC_take _ _ _
theorem QH_QC (H : Heap) (r : Nat) (q : QM) (z : Bool) : QH H r q z = QC H r q.room (lst z 2 none (txs q.l)) q.taken q.last q.bytes := rfl
section
variable {room taken last : Nat} {l : AV} {bytes : Int}
theorem QC_0 (hlt : r < H.length) : rdRow (QC H r room l taken last bytes) r 0 1 5 = some [ai room] := by rw [QC,RC_rd hlt]; rfl
theorem QC_1 (hlt : r < H.length) : rdRow (QC H r room l taken last bytes) r 1 1 5 = some [l] := by rw [QC,RC_rd hlt]; rfl
theorem QC_2 (hlt : r < H.length) : rdRow (QC H r room l taken last bytes) r 2 1 5 = some [ai taken] := by rw [QC,RC_rd hlt]; rfl
theorem QC_3 (hlt : r < H.length) : rdRow (QC H r room l taken last bytes) r 3 1 5 = some [ul last] := by rw [QC,RC_rd hlt]; rfl
theorem QC_4 (hlt : r < H.length) : rdRow (QC H r room l taken last bytes) r 4 1 5 = some [ai bytes] := by rw [QC,RC_rd hlt]; rfl
theorem QC_s1 (hlt : r < H.length) (v : AV) (hv : okCell v = true) (σ : List AV) : storeA σ (QC H r room l taken last bytes) none (.ptr r 1 5) v = some (σ,QC H r room v taken last bytes) := by
 rw [QC,RC_st hlt,if_pos ⟨hv,by omega,rfl⟩]; rfl
theorem QC_s2 (hlt : r < H.length) (n : Nat) (σ : List AV) : storeA σ (QC H r room l taken last bytes) none (.ptr r 2 5) (ai n) = some (σ,QC H r room l n last bytes) := by
 rw [QC,RC_st hlt,if_pos ⟨rfl,by omega,rfl⟩]; rfl
theorem QC_s2i (hlt : r < H.length) (n : Int) (m : Nat) (e : n = m) (σ : List AV) : storeA σ (QC H r room l taken last bytes) none (.ptr r 2 5) (ai n) = some (σ,QC H r room l m last bytes) := by
 subst e; exact QC_s2 hlt m σ
theorem QC_s3 (hlt : r < H.length) (n : Nat) (σ : List AV) : storeA σ (QC H r room l taken last bytes) none (.ptr r 3 5) (ul n) = some (σ,QC H r room l taken n bytes) := by
 rw [QC,RC_st hlt,if_pos ⟨rfl,by omega,rfl⟩]; rfl
theorem QC_s4 (hlt : r < H.length) (n : Int) (σ : List AV) : storeA σ (QC H r room l taken last bytes) none (.ptr r 4 5) (ai n) = some (σ,QC H r room l taken last n) := by
 rw [QC,RC_st hlt,if_pos ⟨rfl,by omega,rfl⟩]; rfl
end
attribute [simp] QC_len QC_take
theorem app_lst {m : Md} {d c sz bytes : Nat} (hm : m.row (some d) = false) (z : Bool) {l l' : List (List AV)} {x : AV} (hx : ∀ H,elems H sz x = some l') (h0 : l' ≠ []) (h1 : (l.length + l'.length) * bytes ≤ appBound) (h2 : l.length + l'.length ≤ appBound) :
  ∃ cs,∀ (σ : List AV) (H : Heap),appW m (some d) sz bytes (lst z sz (some c) l) x σ H = some (.vs sz (some d) (l ++ l'),σ.map (unfl cs),H) := by
 cases z with
 | true => exact appW_c hm hx (.inr h0) h1 h2
 | false =>
  refine ⟨[c,d],fun σ H => ?_⟩
  rcases lst_cases false sz (some c) l with ⟨h,_⟩ | ⟨e,_⟩
  ·simp at h
  ·rw [e,appW_vs hx h1 h2]
theorem cut_all (z : Bool) (k : Nat) (f d : Option Nat) (l : List (List AV)) {n : Nat} (h : l.length = n) : cutV k d (lst z k f l) none (some (ai n)) (some (ai n)) = some (lst z k d l) := by
 subst h
 rw [cutV_3 z k f d l (.inl ⟨rfl,rfl⟩) .i64 .i64 (Nat.zero_le _) (Nat.le_refl _)]
 simp only [cutL,List.take_length,List.drop_zero]
 rcases lst_cases z k f l with ⟨rfl,rfl,e⟩ | ⟨e,h⟩ <;> simp_all [lst]
theorem bv_ne {z : Bool} {b : List Nat} (h : b ≠ []) : bv (z,b) = .vs 1 none (byteCs b) := lst_ne (by cases b <;> simp [byteCs] at h ⊢)
set_option maxHeartbeats 1000000 in
theorem q_Push (hlt : r < H.length) {q : QM} (hq : q.Ok) (hlast : q.last ≤ 100000) (z : Bool) (b : Bs) (hb : b.2.length ≤ 1000000) :
  ∃ z',callW P f_q23 [.ptr r 0 5,bv b] (QH H r q z) = some (.tup [ul (q.push b.2).2.1,ai (q.push b.2).2.2],QH H r (q.push b.2).1 z') := by
 have hm := q_made hlt hq.room.1 z
 have hlen := bv_len b
 have hl2 := txs_len q.l
 have hql := hq.len
 have hlw : lenW (lst z 2 none (txs q.l)) = some q.l.length := by rw [lenW_lst,hl2]
 have hroom := hq.room.2
 have htot := hq.tot_le
 have hby : q.bytes ≤ 64000 := by have : q.bytes = tot q.l - q.taken := rfl; omega
 rw [QH_QC] at hm
 obtain ⟨n,hn⟩ : ∃ t,b.2.length = t := ⟨_,rfl⟩
 obtain ⟨ln,hln⟩ : ∃ t,q.l.length = t := ⟨_,rfl⟩
 rw [hn] at hlen
 rw [hln] at hlw hql
 by_cases h0 : n = 0
 ·have hR : q.push b.2 = (q,0,1) := by unfold QM.push; rw [if_pos (by omega)]
  refine ⟨z,?_⟩
  rw [hR,QH_QC]
  generalize hG : QC H r q.room (lst z 2 none (txs q.l)) q.taken q.last q.bytes = G at *
  have hGl : G.length = H.length := by rw [← hG]; exact QC_len _ _ _ _ _ _ _
  rw [call_L 7 rfl (rfl : P.T f_q23 = some F_q23) (le_ok rfl)]; simp -implicitDefEqProofs (disch := first | omega | (simp; done) | fail) [-toCells,-AV.one,-forget,F_q23,c_q23,cmp_ilt,cmp_ilf,cmp_ile,cmp_ilg,cmp_ine,cmp_ieq,cmp_nlt,cmp_nlf,cmp_nle,cmp_nne,cmp_neq,wrap_i64,wrap_u64,wrap_u8,hm,hlen,h0]
 by_cases h1 : 1000 < n
 ·have hR : q.push b.2 = (q,0,2) := by unfold QM.push; rw [if_neg (by omega),if_pos (by omega)]
  refine ⟨z,?_⟩
  rw [hR,QH_QC]
  generalize hG : QC H r q.room (lst z 2 none (txs q.l)) q.taken q.last q.bytes = G at *
  rw [call_L 7 rfl (rfl : P.T f_q23 = some F_q23) (le_ok rfl)]; simp -implicitDefEqProofs (disch := first | omega | (simp; done) | fail) [-toCells,-AV.one,-forget,F_q23,c_q23,cmp_ilt,cmp_ilf,cmp_ile,cmp_ilg,cmp_ine,cmp_ieq,cmp_nlt,cmp_nlf,cmp_nle,cmp_nne,cmp_neq,wrap_i64,wrap_u64,wrap_u8,hm,hlen]
 by_cases h2 : 64 ≤ ln ∨ q.room < q.bytes + n
 ·have hR : q.push b.2 = (q,0,5) := by unfold QM.push; rw [if_neg (by omega),if_neg (by omega),if_pos (by omega)]
  refine ⟨z,?_⟩
  rw [hR,QH_QC]
  have r0 := QC_0 (room := q.room) (l := lst z 2 none (txs q.l)) (taken := q.taken) (last := q.last) (bytes := q.bytes) hlt
  have r1 := QC_1 (room := q.room) (l := lst z 2 none (txs q.l)) (taken := q.taken) (last := q.last) (bytes := q.bytes) hlt
  have r4 := QC_4 (room := q.room) (l := lst z 2 none (txs q.l)) (taken := q.taken) (last := q.last) (bytes := q.bytes) hlt
  generalize hG : QC H r q.room (lst z 2 none (txs q.l)) q.taken q.last q.bytes = G at *
  by_cases h3 : 64 ≤ ln
  ·rw [call_L 7 rfl (rfl : P.T f_q23 = some F_q23) (le_ok rfl)]; simp -implicitDefEqProofs (maxSteps := 1000000) (disch := first | omega | (simp; done) | fail) [-toCells,-AV.one,-forget,F_q23,c_q23,cmp_ilt,cmp_ilf,cmp_ile,cmp_ilg,cmp_ine,cmp_ieq,cmp_nlt,cmp_nlf,cmp_nle,cmp_nne,cmp_neq,wrap_i64,wrap_u64,wrap_u8,keepB,-goodB,goodB_L,sameV,dstNot,dstNe,SOpG.reads,SOp.slots,SX.slots,SOp.noL,rdV_load,rdV_str,selfE_lst,selfE,selfEs,eqV,hm,hlen,r0,r1,r4,hlw]
  ·rw [call_L 7 rfl (rfl : P.T f_q23 = some F_q23) (le_ok rfl)]; simp -implicitDefEqProofs (maxSteps := 1000000) (disch := first | omega | (simp; done) | fail) [-toCells,-AV.one,-forget,F_q23,c_q23,cmp_ilt,cmp_ilf,cmp_ile,cmp_ilg,cmp_ine,cmp_ieq,cmp_nlt,cmp_nlf,cmp_nle,cmp_nne,cmp_neq,wrap_i64,wrap_u64,wrap_u8,keepB,-goodB,goodB_L,sameV,dstNot,dstNe,SOpG.reads,SOp.slots,SX.slots,SOp.noL,rdV_load,rdV_str,selfE_lst,selfE,selfEs,eqV,hm,hlen,r0,r1,r4,hlw]
 have hR : q.push b.2 = (⟨q.room,q.l ++ [(q.last + 1,b.2)],q.taken,q.last + 1⟩,q.last + 1,0) := by unfold QM.push; rw [if_neg (by omega),if_neg (by omega),if_neg (by omega)]
 refine ⟨z,?_⟩
 rw [hR,QH_QC,QH_QC]
 simp only
 have hbn : b.2 ≠ [] := fun e => h0 (by rw [← hn,e]; rfl)
 have hcl := Clone_bs b hb
 have hbv : bv (false,b.2) = .vs 1 none (byteCs b.2) := bv_ne hbn
 have hbv' : ∀ z f,lst z 1 f (byteCs b.2) = .vs 1 f (byteCs b.2) := fun z f => lst_ne (by cases hb2 : b.2 <;> simp_all [byteCs])
 rw [hbv'] at hcl
 have htl : lst z 2 none (txs (q.l ++ [(q.last + 1,b.2)])) = .vs 2 none (txs q.l ++ [[ul (q.last + 1),.vs 1 none (byteCs b.2)]]) := by
  rw [← hbv]
  rw [lst_ne (by simp [txs])]
  simp [txs]
 rw [htl]
 have hby2 : ((⟨q.room,q.l ++ [(q.last + 1,b.2)],q.taken,q.last + 1⟩ : QM).bytes : Int) = q.bytes + n := by
  have e1 : q.bytes = tot q.l - q.taken := rfl
  have e2 : (⟨q.room,q.l ++ [(q.last + 1,b.2)],q.taken,q.last + 1⟩ : QM).bytes = tot (q.l ++ [(q.last + 1,b.2)]) - q.taken := rfl
  have e3 : tot [(q.last + 1,b.2)] = n := by simp [tot,hn]
  rw [tot_app] at e2
  have := hq.taken_le
  omega
 rw [hby2]
 have hw3 : IntKind.u64.wrap ((q.last : Int) + 1) = ((q.last + 1 : Nat) : Int) := by rw [wrap_u64 (by omega) (by omega)]; omega
 obtain ⟨la,hla⟩ : ∃ t,q.last + 1 = t := ⟨_,rfl⟩
 rw [hla] at hw3 ⊢
 obtain ⟨cs,hap⟩ := app_lst (m := P.md f_q23) (d := 70) (c := 61) (sz := 2) (bytes := 32) (R_q23 70) z (l := txs q.l) (l' := [[ul la,.vs 1 none (byteCs b.2)]]) (x := .vs 2 (some 69) [[ul la,.vs 1 none (byteCs b.2)]]) (fun H => elems_vs H 2 (some 69) _) (by simp) (by simp [appBound,hl2,hln]; omega) (by simp [appBound,hl2,hln]; omega)
 have hcut := cut_all z 2 none (some 61) (txs q.l) (n := ln) (by rw [hl2,hln])
 have a0 := fun last => QC_0 (room := q.room) (l := lst z 2 none (txs q.l)) (taken := q.taken) (last := last) (bytes := q.bytes) hlt
 have a1 := fun last => QC_1 (room := q.room) (l := lst z 2 none (txs q.l)) (taken := q.taken) (last := last) (bytes := q.bytes) hlt
 have a3 := fun last => QC_3 (room := q.room) (l := lst z 2 none (txs q.l)) (taken := q.taken) (last := last) (bytes := q.bytes) hlt
 have a4 := fun last => QC_4 (room := q.room) (l := lst z 2 none (txs q.l)) (taken := q.taken) (last := last) (bytes := q.bytes) hlt
 have s3 := QC_s3 (room := q.room) (l := lst z 2 none (txs q.l)) (taken := q.taken) (last := q.last) (bytes := q.bytes) hlt la
 have hok : okCell (.vs 2 (none : Option Nat) (txs q.l ++ [[ul la,.vs 1 none (byteCs b.2)]])) = true := rfl
 have s1 := QC_s1 (room := q.room) (l := lst z 2 none (txs q.l)) (taken := q.taken) (last := la) (bytes := q.bytes) hlt _ hok
 have b3 := QC_3 (room := q.room) (l := .vs 2 none (txs q.l ++ [[ul la,.vs 1 none (byteCs b.2)]])) (taken := q.taken) (last := la) (bytes := q.bytes) hlt
 have b4 := QC_4 (room := q.room) (l := .vs 2 none (txs q.l ++ [[ul la,.vs 1 none (byteCs b.2)]])) (taken := q.taken) (last := la) (bytes := q.bytes) hlt
 have s4 := QC_s4 (room := q.room) (l := .vs 2 none (txs q.l ++ [[ul la,.vs 1 none (byteCs b.2)]])) (taken := q.taken) (last := la) (bytes := q.bytes) hlt ((q.bytes : Int) + n)
 have c3 := QC_3 (room := q.room) (l := .vs 2 none (txs q.l ++ [[ul la,.vs 1 none (byteCs b.2)]])) (taken := q.taken) (last := la) (bytes := (q.bytes : Int) + n) hlt
 have hw4 : IntKind.i64.wrap ((q.bytes : Int) + n) = q.bytes + n := wrap_i64 (by omega) (by omega)
 have g0 : ¬ (n : Int) = 0 := by omega
 have g1 : ¬ (n : Int) > 1000 := by omega
 have g1' : ¬ (1000 : Int) < n := by omega
 have g1'' : ¬ 1000 < n := by omega
 have g2 : ¬ (ln : Int) ≥ 64 := by omega
 have g2' : ¬ (64 : Int) ≤ ln := by omega
 have g2'' : ¬ 64 ≤ ln := by omega
 have hw5 : IntKind.i64.wrap ((q.room : Int) - q.bytes) = q.room - q.bytes := wrap_i64 (by omega) (by omega)
 have g3 : ¬ (n : Int) > (q.room : Int) - q.bytes := by omega
 have g3' : ¬ (q.room : Int) - q.bytes < n := by omega
 rw [call_L 7 rfl (rfl : P.T f_q23 = some F_q23) (le_ok rfl)]; simp -implicitDefEqProofs [-toCells,-AV.one,-forget,F_q23,c_q23,keepB,-goodB,goodB_L,sameV,dstNot,dstNe,SOpG.reads,SOp.slots,SX.slots,SOp.noL,rdV_load,rdV_str,selfE_lst,selfE,selfEs,eqV,hm,hlen,h0,g0,g1,g1',g1'',g2,g2',g2'',g3,g3',hw5,a0,a1,a3,a4,s3,s1,b3,b4,s4,c3,hlw,hw3,hw4,hap,hcut,hcl,hln]
end
end Go.A.V.S

namespace Go.A.V.S
open Go Go.A
section
variable {H : Heap} {r : Nat}
theorem txs_at {l : List (Nat × List Nat)} {i : Nat} {t : Nat × List Nat} (h : l[i]? = some t) (z : Bool) (f : Option Nat) (k : IntKind) : iaddrW 2 none (lst z 2 f (txs l)) (.c (.int k i)) = some (.vp [ul t.1,bv (false,t.2)] 0) := iaddrW_lst _ _ _ (by simp [txs,h]) k
theorem q_Front0 (hlt : r < H.length) {q : QM} (hq : q.Ok) (z : Bool) (hl : q.l = []) : callW P f_q37 [.ptr r 0 5] (QH H r q z) = some (.tup [ul 0,nilS,ab false],QH H r q z) := by
 have hm := q_made hlt hq.room.1 z
 have r1 := QH_1 hlt q z
 have hlw : lenW (lst z 2 none (txs q.l)) = some 0 := by rw [lenW_lst,txs_len,hl]; rfl
 generalize hG : QH H r q z = G at *
 rw [call_L 6 rfl (rfl : P.T f_q37 = some F_q37) (le_ok rfl)]; simp -implicitDefEqProofs [-toCells,-AV.one,-forget,F_q37,c_q37,hm,r1,hlw]
theorem q_Front1 (hlt : r < H.length) {q : QM} (hq : q.Ok) (z : Bool) {t : Nat × List Nat} {l : List (Nat × List Nat)} (hl : q.l = t :: l) : callW P f_q37 [.ptr r 0 5] (QH H r q z) = some (.tup [ul t.1,bv (false,t.2.drop q.taken),ab (decide (0 < q.taken))],QH H r q z) := by
 have hm := q_made hlt hq.room.1 z
 have r1 := QH_1 hlt q z
 have r2 := QH_2 hlt q z
 have hlw : lenW (lst z 2 none (txs q.l)) = some (l.length + 1) := by rw [lenW_lst,txs_len,hl]; rfl
 have ht := hq.each t (by rw [hl]; simp)
 have hf := hq.first t l hl
 have q1 : iaddrW 2 none (lst z 2 none (txs q.l)) (.c (.int .i64 0)) = some (.vp [ul t.1,bv (false,t.2)] 0) := txs_at (i := 0) (by rw [hl]; rfl) z none .i64
 have c1 := fun d => bv_from (b := (false,t.2)) (i := q.taken) (by simp only; omega) .i64 d
 have hb1 : bcut (false,t.2) q.taken t.2.length = (false,t.2.drop q.taken) := by simp [bcut]
 simp only [hb1] at c1
 have hcl := Clone_bs (false,t.2.drop q.taken) (by simp; omega)
 have n0 : ¬ ((l.length + 1 : Nat) : Int) = 0 := by omega
 have n1 : ¬ (l.length : Int) + 1 = 0 := by omega
 have hdc : decide ((q.taken : Int) > 0) = decide (0 < q.taken) := decide_eq_decide.2 (by omega)
 have hdc' : decide ((0 : Int) < q.taken) = decide (0 < q.taken) := decide_eq_decide.2 (by omega)
 obtain ⟨bt,hbt⟩ : ∃ x,decide (0 < q.taken) = x := ⟨_,rfl⟩
 rw [hbt] at hdc hdc' ⊢
 have hbw : lst (false,t.2.drop q.taken).1 1 (some 0) (byteCs (false,t.2.drop q.taken).2) = lst false 1 (some 0) (byteCs (t.2.drop q.taken)) := rfl
 rw [hbw] at hcl
 generalize t.2.drop q.taken = bd at *
 obtain ⟨t1,t2⟩ := t
 simp only at *
 generalize hG : QH H r q z = G at *
 rw [call_L 6 rfl (rfl : P.T f_q37 = some F_q37) (le_ok rfl)]; simp -implicitDefEqProofs [-toCells,-AV.one,-forget,F_q37,c_q37,keepB,-goodB,goodB_L,sameV,dstNot,dstNe,SOpG.reads,SOp.slots,SX.slots,SOp.noL,rdV_load,rdV_str,selfE_lst,selfE,selfEs,eqV,hm,r1,r2,hlw,n0,n1,q1,c1,hcl,hdc,hdc',hbt]
 rfl
theorem CloneT (z : Bool) (l : List (List AV)) (hl : l.length ≤ 100000) (H : Heap) : callW P f_q67 [lst z 2 none l] H = some (lst z 2 (some 0) l,H) := by
 rcases lst_cases z 2 none l with ⟨rfl,rfl,e⟩ | ⟨e,h⟩
 ·rw [e]; rw [call_L 4 rfl (rfl : P.T f_q67 = some F_q67) (le_ok rfl)]; simp -implicitDefEqProofs [-toCells,-AV.one,-forget,F_q67,c_q67]
 ·have hap := fun σ H => appW_vs (m := P.md f_q67) (d := 7) (bytes := 32) (c := 5) (l := []) (fun H => elems_vs H 2 none l) (by simp [appBound]; omega) (by simp [appBound]; omega) σ H
  rw [e]; rw [call_L 4 rfl (rfl : P.T f_q67 = some F_q67) (le_ok rfl)]; simp -implicitDefEqProofs [-toCells,-AV.one,-forget,F_q67,c_q67,hap]
  simp [lst,h]
end
end Go.A.V.S

namespace Go.A.V.S
open Go Go.A
section
variable {H : Heap} {r : Nat}
theorem q_Take0 (hlt : r < H.length) {q : QM} (hq : q.Ok) (z : Bool) (hl : q.l = []) (n : Int) : callW P f_q38 [.ptr r 0 5,ai n] (QH H r q z) = some (.tup [nilS,ab false,ai 4],QH H r q z) := by
 have hm := q_made hlt hq.room.1 z
 have r1 := QH_1 hlt q z
 have hlw : lenW (lst z 2 none (txs q.l)) = some 0 := by rw [lenW_lst,txs_len,hl]; rfl
 generalize hG : QH H r q z = G at *
 rw [call_L 7 rfl (rfl : P.T f_q38 = some F_q38) (le_ok rfl)]; simp -implicitDefEqProofs [-toCells,-AV.one,-forget,F_q38,c_q38,hm,r1,hlw]
theorem QM.bytes_ge {q : QM} (hq : q.Ok) {t : Nat × List Nat} {l : List (Nat × List Nat)} (hl : q.l = t :: l) : q.bytes + q.taken = t.2.length + tot l := by
 have h1 := hq.taken_le
 have h2 : q.bytes = tot q.l - q.taken := rfl
 rw [hl,tot_cons] at h1 h2
 omega
set_option maxHeartbeats 1000000 in
theorem q_Take1 (hlt : r < H.length) {q : QM} (hq : q.Ok) (z : Bool) {t : Nat × List Nat} {l : List (Nat × List Nat)} (hl : q.l = t :: l) (n : Int) :
  ∃ z',callW P f_q38 [.ptr r 0 5,ai n] (QH H r q z) = some (.tup [bv ((q.take n).2.2.2 != 0,(q.take n).2.1),ab (q.take n).2.2.1,ai (q.take n).2.2.2],QH H r (q.take n).1 z') := by
 have hm := q_made hlt hq.room.1 z
 have ht := hq.each t (by rw [hl]; simp)
 have hf := hq.first t l hl
 have hbg := QM.bytes_ge hq hl
 have htot := hq.tot_le
 rw [hl,tot_cons] at htot
 have hlw : lenW (lst z 2 none (txs q.l)) = some (l.length + 1) := by rw [lenW_lst,txs_len,hl]; rfl
 have hln := hq.len
 rw [hl,List.length_cons] at hln
 have q1 : iaddrW 2 none (lst z 2 none (txs q.l)) (.c (.int .i64 0)) = some (.vp [ul t.1,bv (false,t.2)] 0) := txs_at (i := 0) (by rw [hl]; rfl) z none .i64
 have c1 := fun d => bv_from (b := (false,t.2)) (i := q.taken) (by simp only; omega) .i64 d
 have hb1 : bcut (false,t.2) q.taken t.2.length = (false,t.2.drop q.taken) := by simp [bcut]
 simp only [hb1] at c1
 obtain ⟨m,hmm⟩ : ∃ x,t.2.length - q.taken = x := ⟨_,rfl⟩
 have hbl : (t.2.drop q.taken).length = m := by rw [List.length_drop]; omega
 have hlb : lenW (bv (false,t.2.drop q.taken)) = some m := by rw [bv_len]; simp only; rw [hbl]
 have n0 : ¬ ((l.length + 1 : Nat) : Int) = 0 := by omega
 have n1 : ¬ (l.length : Int) + 1 = 0 := by omega
 have hRR : q.take n = if n < 1 ∨ ((t.2.length - q.taken : Nat) : Int) < n then (q,[],false,1)
  else if n < ((t.2.length - q.taken : Nat) : Int) then (⟨q.room,q.l,q.taken + n.toNat,q.last⟩,(t.2.drop q.taken).take n.toNat,false,0)
  else (⟨q.room,l,0,q.last⟩,t.2.drop q.taken,true,0) := by unfold QM.take; rw [hl]
 rw [hmm] at hRR
 rw [QH_QC] at hm ⊢
 have r1 := QC_1 (room := q.room) (l := lst z 2 none (txs q.l)) (taken := q.taken) (last := q.last) (bytes := q.bytes) hlt
 have r2 := QC_2 (room := q.room) (l := lst z 2 none (txs q.l)) (taken := q.taken) (last := q.last) (bytes := q.bytes) hlt
 by_cases hn1 : n < 1
 ·rw [if_pos (.inl hn1)] at hRR
  refine ⟨z,?_⟩
  rw [hRR,QH_QC]
  generalize hG : QC H r q.room (lst z 2 none (txs q.l)) q.taken q.last q.bytes = G at *
  rw [call_L 7 rfl (rfl : P.T f_q38 = some F_q38) (le_ok rfl)]; simp -implicitDefEqProofs [-toCells,-AV.one,-forget,F_q38,c_q38,keepB,-goodB,goodB_L,sameV,dstNot,dstNe,SOpG.reads,SOp.slots,SX.slots,SOp.noL,rdV_load,rdV_str,selfE_lst,selfE,selfEs,eqV,hm,r1,r2,hlw,n0,n1,q1,c1,hn1]
  rfl
 by_cases hn2 : (m : Int) < n
 ·rw [if_pos (.inr hn2)] at hRR
  refine ⟨z,?_⟩
  rw [hRR,QH_QC]
  have hn2' : n > (m : Int) := hn2
  generalize hG : QC H r q.room (lst z 2 none (txs q.l)) q.taken q.last q.bytes = G at *
  rw [call_L 7 rfl (rfl : P.T f_q38 = some F_q38) (le_ok rfl)]; simp -implicitDefEqProofs [-toCells,-AV.one,-forget,F_q38,c_q38,keepB,-goodB,goodB_L,sameV,dstNot,dstNe,SOpG.reads,SOp.slots,SX.slots,SOp.noL,rdV_load,rdV_str,selfE_lst,selfE,selfEs,eqV,hm,r1,r2,hlw,n0,n1,q1,c1,hn1,hn2,hn2',hlb]
  rfl
 rw [if_neg (fun h => h.elim hn1 hn2)] at hRR
 have hn2' : ¬ n > (m : Int) := hn2
 obtain ⟨k,rfl⟩ : ∃ k : Nat,n = k := ⟨n.toNat,by omega⟩
 rw [Int.toNat_natCast] at hRR
 have hk : k ≤ m := by omega
 have c3 := fun d => bv_to3 (b := (false,t.2.drop q.taken)) (j := k) (by simp only; omega) .i64 .i64 d
 have hbc : bcut (false,t.2.drop q.taken) 0 k = (false,(t.2.drop q.taken).take k) := by simp [bcut]
 simp only [hbc] at c3
 have hcl : ∀ H,callW P f_q43 [.vs 1 none (byteCs ((t.2.drop q.taken).take k))] H = some (.vs 1 (some 0) (byteCs ((t.2.drop q.taken).take k)),H) := fun H => Clone_b false (byteCs ((t.2.drop q.taken).take k)) (by rw [byteCs_len,List.length_take]; omega) H
 have hbv : bv (false,(t.2.drop q.taken).take k) = lst false 1 none (byteCs ((t.2.drop q.taken).take k)) := rfl
 have w1 : IntKind.i64.wrap ((q.taken : Int) + k) = ((q.taken + k : Nat) : Int) := by rw [wrap_i64 (by omega) (by omega)]; omega
 have w2 : IntKind.i64.wrap ((q.bytes : Int) - k) = (q.bytes : Int) - k := wrap_i64 (by omega) (by omega)
 obtain ⟨tk,htk⟩ : ∃ x,q.taken + k = x := ⟨_,rfl⟩
 rw [htk] at w1
 have s2 := QC_s2 (room := q.room) (l := lst z 2 none (txs q.l)) (taken := q.taken) (last := q.last) (bytes := q.bytes) hlt tk
 have a4 := QC_4 (room := q.room) (l := lst z 2 none (txs q.l)) (taken := tk) (last := q.last) (bytes := q.bytes) hlt
 have s4 := QC_s4 (room := q.room) (l := lst z 2 none (txs q.l)) (taken := tk) (last := q.last) (bytes := q.bytes) hlt ((q.bytes : Int) - k)
 by_cases hkm : k < m
 ·rw [if_pos (by omega)] at hRR
  refine ⟨z,?_⟩
  rw [hRR,QH_QC]
  simp only [bne_self_eq_false]
  have hby2 : ((⟨q.room,q.l,q.taken + k,q.last⟩ : QM).bytes : Int) = (q.bytes : Int) - k := by
   have e1 : q.bytes = tot q.l - q.taken := rfl
   have e2 : (⟨q.room,q.l,q.taken + k,q.last⟩ : QM).bytes = tot q.l - (q.taken + k) := rfl
   omega
  rw [hby2,htk]
  have hkm' : (k : Int) < m := by omega
  rw [hbv]
  have hlen0 := QC_len H r q.room (lst z 2 none (txs q.l)) q.taken q.last q.bytes
  generalize (t.2.drop q.taken).take k = bo at *
  generalize t.2.drop q.taken = bd at *
  generalize hG : QC H r q.room (lst z 2 none (txs q.l)) q.taken q.last q.bytes = G at *
  rw [call_L 7 rfl (rfl : P.T f_q38 = some F_q38) (le_ok rfl)]; simp -implicitDefEqProofs [-toCells,-AV.one,-forget,F_q38,c_q38,keepB,-goodB,goodB_L,sameV,dstNot,dstNe,SOpG.reads,SOp.slots,SX.slots,SOp.noL,rdV_load,rdV_str,selfE_lst,selfE,selfEs,eqV,hm,r1,r2,hlw,n0,n1,q1,c1,hn1,hn2,hn2',hlb,c3,hcl,w1,w2,s2,a4,s4,hkm,hkm',hlen0]
 ·rw [if_neg (by omega)] at hRR
  refine ⟨false,?_⟩
  rw [hRR,QH_QC]
  simp only [bne_self_eq_false]
  have hkm' : ¬ (k : Int) < m := by omega
  have hbo : (t.2.drop q.taken).take k = t.2.drop q.taken := List.take_of_length_le (by omega)
  have hby2 : ((⟨q.room,l,0,q.last⟩ : QM).bytes : Int) = (q.bytes : Int) - k := by
   have e2 : (⟨q.room,l,0,q.last⟩ : QM).bytes = tot l - 0 := rfl
   omega
  rw [hby2]
  rw [hbo] at c3 hcl hbv
  rw [hbv]
  have a1 := QC_1 (room := q.room) (l := lst z 2 none (txs q.l)) (taken := tk) (last := q.last) (bytes := (q.bytes : Int) - k) hlt
  have ct := fun d => cutV_lst z 2 none d (txs q.l) (lo := some (ai 1)) (hi := none) (i := 1) (j := l.length + 1) (.inr ⟨.i64,rfl⟩) (.inl ⟨rfl,by rw [txs_len,hl]; rfl⟩) (by omega) (by rw [txs_len,hl]; simp)
  have ect : cutL z 2 none (txs q.l) 1 (l.length + 1) = lst false 2 none (txs l) := by
   simp only [cutL]
   rw [hl]
   simp [txs]
   exact List.take_of_length_le (by simp)
  rw [ect] at ct
  have hct : ∀ H,callW P f_q67 [.vs 2 none (txs l)] H = some (.vs 2 (some 0) (txs l),H) := fun H => CloneT false (txs l) (by rw [txs_len]; omega) H
  have z0 := QC_s2i (room := q.room) (l := lst z 2 none (txs q.l)) (taken := tk) (last := q.last) (bytes := (q.bytes : Int) - k) hlt 0 0 rfl
  have hok : okCell (lst false 2 (none : Option Nat) (txs l)) = true := by simp [lst_one,lst_free]
  have z1 : ∀ σ,storeA σ (QC H r q.room (lst z 2 none (txs q.l)) 0 q.last ((q.bytes : Int) - k)) none (.ptr r 1 5) (.vs 2 none (txs l)) = _ := QC_s1 (room := q.room) (l := lst z 2 none (txs q.l)) (taken := 0) (last := q.last) (bytes := (q.bytes : Int) - k) hlt _ hok
  have hlen0 := QC_len H r q.room (lst z 2 none (txs q.l)) q.taken q.last q.bytes
  generalize t.2.drop q.taken = bd at *
  generalize hG : QC H r q.room (lst z 2 none (txs q.l)) q.taken q.last q.bytes = G at *
  rw [call_L 7 rfl (rfl : P.T f_q38 = some F_q38) (le_ok rfl)]; simp -implicitDefEqProofs [-toCells,-AV.one,-forget,F_q38,c_q38,keepB,-goodB,goodB_L,sameV,dstNot,dstNe,SOpG.reads,SOp.slots,SX.slots,SOp.noL,rdV_load,rdV_str,selfE_lst,selfE,selfEs,eqV,hm,r1,r2,hlw,n0,n1,q1,c1,hn1,hn2,hn2',hlb,c3,hcl,w1,w2,s2,a4,s4,hkm,hkm',hlen0,a1,ct,hct,z0,z1]
end
end Go.A.V.S

namespace Go.A.V.S
open Go Go.A
def uls (l : List Nat) : List (List AV) := l.map fun n => [ul n]
theorem uls_len (l : List Nat) : (uls l).length = l.length := by simp [uls]
theorem uls_snoc (l : List Nat) (n : Nat) : uls (l ++ [n]) = uls l ++ [[ul n]] := by simp [uls]
section
variable {H : Heap} {r : Nat}
def InvQI (H : Heap) (q : QM) (z : Bool) (zz : Nat) (σ : List AV) (G : Heap) : Prop :=
 ∃ (i : Nat) (o : List Nat),i + zz = q.l.length ∧ o = q.ids.take i ∧ G = H ∧ σ = L 24 (((((Tr.full 5).put (path 3) (lst true 1 (some 21) (uls o))).put (path 11) (lst z 2 none (txs q.l))).put (path 12) (ai q.l.length)).put (path 13) (ai i))
def PostQI (H : Heap) (q : QM) (e : AExit) (σ : List AV) (G : Heap) : Prop :=
 e = .exit 0 ∧ G = H ∧ kill [0,6,7,11,12,13,14] σ = L 24 ((Tr.full 5).put (path 3) (lst true 1 (some 21) (uls q.ids)))
theorem ids_loop {q : QM} (hq : q.Ok) (z : Bool) (zz : Nat) (σ : List AV) (G : Heap) (hI : InvQI H q z zz (kill (headK lp0_q61) σ) G) :
  Ends (execW P f_q61 (.loop lp0_q61) σ G) fun s => PostQI H q s.e s.σ s.H := by
 refine loop_ends (fun zz σ G => InvQI H q z zz σ G) (PostQI H q) ?_ zz σ G hI
 clear hI zz σ G
 rintro zz σ G ⟨i,o,hz,ho,rfl,rfl⟩
 have hln := hq.len
 have hil : q.ids.length = q.l.length := by simp [QM.ids]
 have hol : o.length = i := by rw [ho,List.length_take,hil]; omega
 by_cases hi : i < q.l.length
 ·obtain ⟨t,ht⟩ : ∃ t,q.l[i]? = some t := ⟨_,List.getElem?_eq_getElem hi⟩
  have q1 := txs_at ht z none .i64
  have hap := fun σ H => app1 (m := P.md f_q61) (d := 21) (bytes := 8) (v := ul t.1) (R_q61 21) (by omega) (by rw [uls_len]; omega) (l := uls o) (some 20) σ H
  rw [← uls_snoc] at hap
  have hi' : (i : Int) < q.l.length := by omega
  have w1 : IntKind.i64.wrap ((i : Int) + 1) = ((i + 1 : Nat) : Int) := by rw [wrap_i64 (by omega) (by omega)]; omega
  have hids : q.ids[i]? = some t.1 := by simp [QM.ids,ht]
  have ho2 : o ++ [t.1] = q.ids.take (i + 1) := by
   rw [List.take_add_one,hids,ho]; rfl
  obtain ⟨i1,hi1⟩ : ∃ i1,i + 1 = i1 := ⟨_,rfl⟩
  rw [hi1] at w1 ho2
  obtain ⟨n,hn⟩ : ∃ x,q.l.length = x := ⟨_,rfl⟩
  rw [hn] at hi hi' ⊢
  simp -implicitDefEqProofs [-toCells,-AV.one,-forget,c_q61,lp0_q61,hi,hi',q1,hap,w1]
  exact ⟨zz - 1,by omega,i1,o ++ [t.1],by omega,ho2,rfl,by simp [hn]⟩
 ·have hi' : ¬ (i : Int) < q.l.length := by omega
  simp -implicitDefEqProofs [-toCells,-AV.one,-forget,c_q61,lp0_q61,hi,hi']
  have hoa : o = q.ids := by rw [ho]; exact List.take_of_length_le (by omega)
  exact ⟨rfl,rfl,by rw [hoa]; simp⟩
theorem q_IDs_nil (H : Heap) : callW P f_q61 [.c (.pointer none)] H = some (nilS,H) := by
 rw [call_L 5 rfl (rfl : P.T f_q61 = some F_q61) (le_ok rfl)]; simp -implicitDefEqProofs [-toCells,-AV.one,-forget,F_q61,c_q61]
theorem q_IDs (hlt : r < H.length) {q : QM} (hq : q.Ok) (z : Bool) : callW P f_q61 [.ptr r 0 5] (QH H r q z) = some (lst true 1 (some 0) (uls q.ids),QH H r q z) := by
 have r1 := QH_1 hlt q z
 have hlw : lenW (lst z 2 none (txs q.l)) = some q.l.length := by rw [lenW_lst,txs_len]
 have hle : (QH H r q z).length = H.length := QH_len H r q z
 suffices hs : Ends (callW P f_q61 [.ptr r 0 5] (QH H r q z)) fun y => y = (lst true 1 (some 0) (uls q.ids),QH H r q z) by
  obtain ⟨y,h1,rfl⟩ := hs
  exact h1
 generalize hG : QH H r q z = G at *
 refine call_post 5 24 rfl (rfl : P.T f_q61 = some F_q61) rfl (le_ok rfl) (fun e σ G' => e = .ret ∧ G' = G ∧ resultsA F_q61.res σ = some (lst true 1 (some 21) (uls q.ids))) ?_ ?_
 ·rintro e σ G' ⟨rfl,rfl,h2⟩
  refine ⟨rfl,_,h2,by simp,?_⟩
  simp
 rw [F_q61]; simp -implicitDefEqProofs [-toCells,-AV.one,-forget,c_q61,r1,hlw]
 repeat rw [Option.bind_assoc]
 refine Ends.block (P := PostQI G q) (ids_loop hq z q.l.length _ _ ⟨0,[],by omega,by simp,rfl,by simp [lp0_q61,uls]⟩) ?_
 rintro e σ1 G1 ⟨rfl,rfl,k2⟩
 simp -implicitDefEqProofs [-toCells,-AV.one,-forget,c_q61,k2]
 try simp [F_q61]
theorem q_Clear (hlt : r < H.length) {q : QM} (hq : q.Ok) (z : Bool) : callW P f_q30 [.ptr r 0 5] (QH H r q z) = some (lst true 1 (some 0) (uls q.ids),QH H r q.clear true) := by
 have hI := q_IDs hlt hq z
 have hm := q_made hlt hq.room.1 z
 rw [QH_QC] at hI hm ⊢
 rw [QH_QC]
 have e0 : (q.clear.bytes : Int) = 0 := by simp [QM.clear,QM.bytes,tot]
 have e1 : q.clear.room = q.room ∧ q.clear.last = q.last ∧ q.clear.taken = 0 ∧ lst true 2 none (txs q.clear.l) = nilS := ⟨rfl,rfl,rfl,rfl⟩
 rw [e0,e1.1,e1.2.1,e1.2.2.1,e1.2.2.2]
 have s1 := QC_s1 (room := q.room) (l := lst z 2 none (txs q.l)) (taken := q.taken) (last := q.last) (bytes := q.bytes) hlt nilS rfl
 have s2 := QC_s2i (room := q.room) (l := nilS) (taken := q.taken) (last := q.last) (bytes := q.bytes) hlt 0 0 rfl
 have s4 := QC_s4 (room := q.room) (l := nilS) (taken := 0) (last := q.last) (bytes := q.bytes) hlt 0
 have hlen0 := QC_len H r q.room (lst z 2 none (txs q.l)) q.taken q.last q.bytes
 generalize hG : QC H r q.room (lst z 2 none (txs q.l)) q.taken q.last q.bytes = G at *
 rw [call_L 5 rfl (rfl : P.T f_q30 = some F_q30) (le_ok rfl)]; simp -implicitDefEqProofs [-toCells,-AV.one,-forget,F_q30,c_q30,hI,hm,s1,s2,s4,hlen0]
end
end Go.A.V.S

namespace Go.A.V.S
open Go Go.A
section
variable {H : Heap}
theorem txs_flat (l : List (Nat × List Nat)) : (txs l).flatten.length = l.length * 2 := by
 induction l with
 | nil => rfl
 | cons t r ih => simp only [txs,List.map_cons,List.flatten_cons,List.length_append,List.length_cons] at ih ⊢; simp at ih ⊢; omega
theorem txs_ok (l : List (Nat × List Nat)) : (txs l).flatten.all okCell = true := by
 rw [List.all_eq_true]
 intro x hx
 obtain ⟨c,hc,hx⟩ := List.mem_flatten.1 hx
 obtain ⟨t,_,rfl⟩ := List.mem_map.1 hc
 simp only [List.mem_cons,List.not_mem_nil,or_false] at hx
 rcases hx with rfl | rfl
 ·rfl
 ·simp [bv,lst_one,lst_free]
theorem txs_chunk (l : List (Nat × List Nat)) : chunk 2 l.length (txs l).flatten = txs l := by
 induction l with
 | nil => rfl
 | cons t r ih =>
  have e : txs (t :: r) = [ul t.1,bv (false,t.2)] :: txs r := rfl
  rw [e,List.flatten_cons,List.length_cons,chunk]
  simp only [List.cons_append,List.nil_append,List.take_succ_cons,List.take_zero,List.drop_succ_cons,List.drop_zero,ih]
theorem txs_app (a b : List (Nat × List Nat)) : txs (a ++ b) = txs a ++ txs b := by simp [txs]
def GH (H : Heap) (n : Nat) (l : List (Nat × List Nat)) (lo : Nat) : Heap := H ++ [.grow ((txs l).flatten ++ List.replicate ((n - l.length) * 2) .undef) lo]
theorem Grow0 (H : Heap) : callW P f_q77 [nilS,ai 0] H = some (nilS,H) := by
 rw [call_L 5 rfl (rfl : P.T f_q77 = some F_q77) (le_ok rfl)]; simp -implicitDefEqProofs (disch := first | omega | (simp; done) | fail) [-toCells,-AV.one,-forget,F_q77,c_q77,cmp_ilt,cmp_ilf,cmp_ile,cmp_ilg,cmp_ine,cmp_ieq,cmp_nlt,cmp_nlf,cmp_nle,cmp_nne,cmp_neq,wrap_i64,wrap_u64,wrap_u8]
theorem Grow1 {n : Nat} (hn : 0 < n) (hn2 : n ≤ 1000) (H : Heap) : callW P f_q77 [nilS,ai n] H = some (.sl H.length 0 0 n 2 (n * 2) false,GH H n [] 0) := by
 have hmk : mknzW H 2 32 (some nilS) (ai n) = some (.sl H.length 0 n n 2 (n * 2) false,GH H n [] 0) := by
  simp only [mknzW,GH,Int.toNat_natCast,txs]
  rw [if_pos ⟨by omega,by simp [appBound]; omega,by simp [appBound]; omega⟩]
  simp
 have hct : ∀ d,cutV 2 d (.sl H.length 0 n n 2 (n * 2) false) none (some (ai 0)) none = some (.sl H.length 0 0 n 2 (n * 2) false) := fun d => by
  simp only [cutV,cutA,cutBounds,capOf,highOf,lowOf]
  rw [if_pos (Nat.le_refl n)]
  simp only [Option.bind_some]
  rw [show (ai 0 : AV) = ai ((0 : Nat) : Int) from rfl,cutBound_nat .i64 (by omega)]
  simp
 have hc0 : ∀ d,cutV 2 d nilS none (some (ai 0)) none = some nilS := fun d => rfl
 rw [call_L 5 rfl (rfl : P.T f_q77 = some F_q77) (le_ok rfl)]; simp -implicitDefEqProofs (disch := first | omega | (simp; done) | fail) [-toCells,-AV.one,-forget,F_q77,c_q77,cmp_ilt,cmp_ilf,cmp_ile,cmp_ilg,cmp_ine,cmp_ieq,cmp_nlt,cmp_nlf,cmp_nle,cmp_nne,cmp_neq,wrap_i64,wrap_u64,wrap_u8,hmk,hct,hc0]
 rfl
theorem grow_app {n lo : Nat} {l l' : List (Nat × List Nat)} (hl : l.length + l'.length ≤ n) (hn : 0 < n) (d : Nat) (z : Bool) (σ : List AV) :
  appW (P.md f_q60) (some d) 2 32 (.sl H.length 0 l.length n 2 (n * 2) false) (lst z 2 none (txs l')) σ (GH H n l lo) = some (.sl H.length 0 (l.length + l'.length) n 2 (n * 2) false,σ,GH H n (l ++ l') (if l' = [] then lo else n * 2)) := by
 have hel : elems (GH H n l lo) 2 (lst z 2 none (txs l')) = some (txs l') := elems_lst _ _ _ _ _
 simp only [appW,hel,Option.bind_some]
 rw [if_pos (by rfl)]
 by_cases h0 : l' = []
 ·subst h0
  rw [if_pos (by rfl),if_pos (by simp at hl; omega)]
  simp
 ·have hne : txs l' ≠ [] := by simp [txs,h0]
  have hpos : 0 < l'.length := List.length_pos_iff.2 h0
  rw [if_neg hne,if_neg (by rintro ⟨_,h,_⟩; omega),txs_len,if_pos hl]
  have hget : (GH H n l lo)[H.length]? = some (.grow ((txs l).flatten ++ List.replicate ((n - l.length) * 2) .undef) lo) := by simp [GH]
  have hclen : ((txs l).flatten ++ List.replicate ((n - l.length) * 2) AV.undef).length = n * 2 := by rw [List.length_append,txs_flat,List.length_replicate]; omega
  rw [if_neg h0]
  simp only [wrRow,hget,hclen]
  rw [if_pos ⟨trivial,by rw [txs_flat]; omega,txs_ok l'⟩]
  simp only [Option.map_some,Nat.zero_add]
  congr 3
  simp only [GH,List.set_append_right _ _ (Nat.le_refl _),Nat.sub_self,List.set_cons_zero]
  congr 3
  have e1 : ((txs l).flatten ++ List.replicate ((n - l.length) * 2) AV.undef).take (l.length * 2) = (txs l).flatten := List.take_left' (txs_flat l)
  rw [e1,txs_app,List.flatten_append,List.append_assoc,List.append_assoc]
  congr 2
  rw [txs_flat,List.drop_append,List.drop_eq_nil_of_le (by rw [txs_flat]; omega),List.nil_append,txs_flat,List.drop_replicate]
  congr 1
  rw [List.length_append]; omega
def InvC1 (H : Heap) (A B : AV) (a b : Nat) (zz : Nat) (σ : List AV) (G : Heap) : Prop :=
 ∃ i s : Nat,i + zz = 2 ∧ s = (if i = 0 then 0 else if i = 1 then a else a + b) ∧ G = H ∧ σ = L 36 ((((((Tr.full 6).put (path 0) (.vs 1 none [[A],[B]])).put (path 3) (ai s)).put (path 9) (.vs 1 none [[A],[B]])).put (path 10) (ai 2)).put (path 11) (ai i))
def PostC1 (H : Heap) (A B : AV) (a b : Nat) (e : AExit) (σ : List AV) (G : Heap) : Prop :=
 e = .exit 0 ∧ G = H ∧ kill [9,10,11,12] σ = L 36 (((Tr.full 6).put (path 0) (.vs 1 none [[A],[B]])).put (path 3) (ai (a + b : Nat)))
theorem cc_loop1 {z1 z2 : Bool} {la lb : List (Nat × List Nat)} (ha : la.length ≤ 100) (hb : lb.length ≤ 100) (zz : Nat) (σ : List AV) (G : Heap) (hI : InvC1 H (lst z1 2 none (txs la)) (lst z2 2 none (txs lb)) la.length lb.length zz (kill (headK lp0_q60) σ) G) :
  Ends (execW P f_q60 (.loop lp0_q60) σ G) fun s => PostC1 H (lst z1 2 none (txs la)) (lst z2 2 none (txs lb)) la.length lb.length s.e s.σ s.H := by
 refine loop_ends (fun zz σ G => InvC1 H (lst z1 2 none (txs la)) (lst z2 2 none (txs lb)) la.length lb.length zz σ G) (PostC1 H (lst z1 2 none (txs la)) (lst z2 2 none (txs lb)) la.length lb.length) ?_ zz σ G hI
 clear hI zz σ G
 rintro zz σ G ⟨i,s,hz,hs,rfl,rfl⟩
 have ea : lenW (lst z1 2 none (txs la)) = some la.length := by rw [lenW_lst,txs_len]
 have eb : lenW (lst z2 2 none (txs lb)) = some lb.length := by rw [lenW_lst,txs_len]
 have q0 : iaddrW 1 none (.vs 1 none [[lst z1 2 none (txs la)],[lst z2 2 none (txs lb)]]) (ai 0) = some (.vp [lst z1 2 none (txs la)] 0) := rfl
 have q1 : iaddrW 1 none (.vs 1 none [[lst z1 2 none (txs la)],[lst z2 2 none (txs lb)]]) (ai 1) = some (.vp [lst z2 2 none (txs lb)] 0) := rfl
 generalize la.length = a at *
 generalize lb.length = b at *
 have hi3 : i = 0 ∨ i = 1 ∨ i = 2 := by omega
 rcases hi3 with rfl | rfl | rfl
 ·simp only [if_true] at hs
  subst hs
  have w0 : IntKind.i64.wrap (0 + (a : Int)) = a := by rw [Int.zero_add]; exact wrap_i64 (by omega) (by omega)
  have w0' : IntKind.i64.wrap (a : Int) = a := wrap_i64 (by omega) (by omega)
  have w1 : IntKind.i64.wrap 1 = 1 := rfl
  have n0 : ¬ (a : Int) < 0 := by omega
  simp -implicitDefEqProofs [-toCells,-AV.one,-forget,c_q60,lp0_q60,q0,ea,eb,w0,w0',w1,n0]
  exact ⟨1,by omega,1,a,by omega,by simp,rfl,by simp⟩
 ·simp only [show (1 : Nat) ≠ 0 from by omega,if_false,if_true] at hs
  subst hs
  have w0 : IntKind.i64.wrap ((s : Int) + (b : Int)) = (s + b : Nat) := by rw [wrap_i64 (by omega) (by omega)]; omega
  have w1 : IntKind.i64.wrap 2 = 2 := rfl
  obtain ⟨t,ht⟩ : ∃ t,s + b = t := ⟨_,rfl⟩
  rw [ht] at w0
  have n0 : ¬ (t : Int) < 0 := by omega
  simp -implicitDefEqProofs [-toCells,-AV.one,-forget,c_q60,lp0_q60,q1,ea,eb,w0,w1,n0]
  exact ⟨0,by omega,2,t,by omega,by simp [ht],rfl,by simp⟩
 ·simp only [show (2 : Nat) ≠ 0 from by omega,show (2 : Nat) ≠ 1 from by omega,if_false] at hs
  simp -implicitDefEqProofs [-toCells,-AV.one,-forget,c_q60,lp0_q60]
  exact ⟨rfl,rfl,by simp [hs]⟩
def SC2 (H : Heap) (n : Nat) (l : List (Nat × List Nat)) (s : AV) (G : Heap) : Prop :=
 (n = 0 ∧ s = nilS ∧ G = H) ∨ (0 < n ∧ s = .sl H.length 0 l.length n 2 (n * 2) false ∧ ∃ lo,lo ≤ n * 2 ∧ G = GH H n l lo)
def InvC2 (H : Heap) (n : Nat) (za zb : Bool) (la lb : List (Nat × List Nat)) (zz : Nat) (σ : List AV) (G : Heap) : Prop :=
 ∃ (i : Nat) (s : AV),i + zz = 2 ∧ SC2 H n (if i = 0 then [] else if i = 1 then la else la ++ lb) s G ∧ σ = L 36 (((((Tr.full 6).put (path 6) (s)).put (path 25) (.vs 1 none [[lst za 2 none (txs la)],[lst zb 2 none (txs lb)]])).put (path 26) (ai 2)).put (path 27) (ai i))
def PostC2 (H : Heap) (n : Nat) (la lb : List (Nat × List Nat)) (e : AExit) (σ : List AV) (G : Heap) : Prop :=
 e = .exit 2 ∧ ∃ s,SC2 H n (la ++ lb) s G ∧ kill [25,26,27,28] σ = L 36 ((Tr.full 6).put (path 6) (s))
theorem sc2_app0 (z : Bool) (σ : List AV) (G : Heap) : appW (P.md f_q60) (some 33) 2 32 nilS (lst z 2 none (txs [])) σ G = some (nilS,σ.map (unfl [33]),G) := by
 have hel : elems G 2 (lst z 2 none (txs [])) = some [] := elems_lst _ _ _ _ _
 simp only [appW,R_q60,Bool.false_eq_true,if_false,appV,hel,Option.bind_some]
 rfl
theorem cc_loop2 {n : Nat} {za zb : Bool} {la lb : List (Nat × List Nat)} (hn9 : la.length + lb.length = n) (ha : la.length ≤ 100) (hb : lb.length ≤ 100) (zz : Nat) (σ : List AV) (G : Heap) (hI : InvC2 H n za zb la lb zz (kill (headK lp1_q60) σ) G) :
  Ends (execW P f_q60 (.loop lp1_q60) σ G) fun s => PostC2 H n la lb s.e s.σ s.H := by
 refine loop_ends (fun zz σ G => InvC2 H n za zb la lb zz σ G) (PostC2 H n la lb) ?_ zz σ G hI
 clear hI zz σ G
 rintro zz σ G ⟨i,s,hz,hs,rfl⟩
 have q0 : iaddrW 1 none (.vs 1 none [[lst za 2 none (txs la)],[lst zb 2 none (txs lb)]]) (ai 0) = some (.vp [lst za 2 none (txs la)] 0) := rfl
 have q1 : iaddrW 1 none (.vs 1 none [[lst za 2 none (txs la)],[lst zb 2 none (txs lb)]]) (ai 1) = some (.vp [lst zb 2 none (txs lb)] 0) := rfl
 have hi3 : i = 0 ∨ i = 1 ∨ i = 2 := by omega
 rcases hi3 with rfl | rfl | rfl
 ·simp only [if_true] at hs
  have w1 : IntKind.i64.wrap 1 = 1 := rfl
  rcases hs with ⟨hn,rfl,rfl⟩ | ⟨hn,rfl,lo,hlo,rfl⟩
  ·obtain rfl : la = [] := List.length_eq_zero_iff.1 (by omega)
   obtain rfl : lb = [] := List.length_eq_zero_iff.1 (by omega)
   have h3 := fun σ => sc2_app0 za σ G
   simp -implicitDefEqProofs [-toCells,-AV.one,-forget,c_q60,lp1_q60,q0,h3,w1]
   exact ⟨1,by omega,1,nilS,by omega,.inl ⟨hn,rfl,rfl⟩,by simp⟩
  ·have h3 := fun σ => grow_app (H := H) (n := n) (lo := lo) (l := []) (l' := la) (by simp; omega) hn 33 za σ
   have hsc : SC2 H n la (.sl H.length 0 la.length n 2 (n * 2) false) (GH H n la (if la = [] then lo else n * 2)) := .inr ⟨hn,rfl,_,by split <;> omega,rfl⟩
   rw [List.nil_append,List.length_nil,Nat.zero_add] at h3
   rw [List.length_nil]
   generalize GH H n la (if la = [] then lo else n * 2) = G' at *
   generalize GH H n [] lo = G at *
   generalize n * 2 = n2 at *
   generalize hla : la.length = a at *
   simp -implicitDefEqProofs [-toCells,-AV.one,-forget,c_q60,lp1_q60,q0,h3,w1]
   exact ⟨1,by omega,1,.sl H.length 0 a n 2 n2 false,by omega,by simpa using hsc,by simp⟩
 ·simp only [show (1 : Nat) ≠ 0 from by omega,if_false,if_true] at hs
  have w1 : IntKind.i64.wrap 2 = 2 := rfl
  rcases hs with ⟨hn,rfl,rfl⟩ | ⟨hn,rfl,lo,hlo,rfl⟩
  ·obtain rfl : la = [] := List.length_eq_zero_iff.1 (by omega)
   obtain rfl : lb = [] := List.length_eq_zero_iff.1 (by omega)
   have h3 := fun σ => sc2_app0 zb σ G
   simp -implicitDefEqProofs [-toCells,-AV.one,-forget,c_q60,lp1_q60,q1,h3,w1]
   exact ⟨0,by omega,2,nilS,by omega,.inl ⟨hn,rfl,rfl⟩,by simp⟩
  ·have h3 := fun σ => grow_app (H := H) (n := n) (lo := lo) (l := la) (l' := lb) (by omega) hn 33 zb σ
   have hsc : SC2 H n (la ++ lb) (.sl H.length 0 n n 2 (n * 2) false) (GH H n (la ++ lb) (if lb = [] then lo else n * 2)) := .inr ⟨hn,by rw [List.length_append,hn9],_,by split <;> omega,rfl⟩
   rw [hn9] at h3
   generalize GH H n (la ++ lb) (if lb = [] then lo else n * 2) = G' at *
   generalize GH H n la lo = G at *
   generalize n * 2 = n2 at *
   generalize hla : la.length = a at *
   simp -implicitDefEqProofs [-toCells,-AV.one,-forget,c_q60,lp1_q60,q1,h3,w1]
   exact ⟨0,by omega,2,.sl H.length 0 n n 2 n2 false,by omega,by simpa using hsc,by simp⟩
 ·simp only [show (2 : Nat) ≠ 0 from by omega,show (2 : Nat) ≠ 1 from by omega,if_false] at hs
  simp -implicitDefEqProofs [-toCells,-AV.one,-forget,c_q60,lp1_q60]
  exact ⟨rfl,s,hs,by simp⟩
theorem Concat2 {za zb : Bool} {la lb : List (Nat × List Nat)} (ha : la.length ≤ 100) (hb : lb.length ≤ 100) (H : Heap) :
  ∃ k,callW P f_q60 [.vs 1 none [[lst za 2 none (txs la)],[lst zb 2 none (txs lb)]]] H = some (lst true 2 none (txs (la ++ lb)),H ++ List.replicate k .other) := by
 obtain ⟨n,hn⟩ : ∃ t,la.length + lb.length = t := ⟨_,rfl⟩
 suffices hs : Ends (callW P f_q60 [.vs 1 none [[lst za 2 none (txs la)],[lst zb 2 none (txs lb)]]] H) fun y => ∃ k,y = (lst true 2 none (txs (la ++ lb)),H ++ List.replicate k .other) by
  obtain ⟨y,h1,k,rfl⟩ := hs
  exact ⟨k,h1⟩
 refine call_post 6 36 rfl (rfl : P.T f_q60 = some F_q60) rfl (le_ok rfl) (fun e σ G => e = .ret ∧ ∃ s,SC2 H n (la ++ lb) s G ∧ resultsA F_q60.res σ = some s) ?_ ?_
 ·rintro e σ G ⟨rfl,s,hs,h2⟩
  rcases hs with ⟨h0,rfl,rfl⟩ | ⟨h0,rfl,lo,hlo,rfl⟩
  ·refine ⟨rfl,_,h2,rfl,?_⟩
   obtain rfl : la = [] := List.length_eq_zero_iff.1 (by omega)
   obtain rfl : lb = [] := List.length_eq_zero_iff.1 (by omega)
   refine ⟨(nilS,G),?_,0,by simp [txs]⟩
   simp
  ·refine ⟨rfl,_,h2,rfl,?_⟩
   have hlen : (la ++ lb).length = n := by rw [List.length_append,hn]
   have hget : (GH H n (la ++ lb) lo)[H.length]? = some (.grow ((txs (la ++ lb)).flatten ++ List.replicate ((n - (la ++ lb).length) * 2) .undef) lo) := by simp [GH]
   rw [hlen,Nat.sub_self,Nat.zero_mul,List.replicate_zero,List.append_nil] at hget
   have hfl := txs_flat (la ++ lb)
   rw [hlen] at hfl
   have hrd : rdRow0 (GH H n (la ++ lb) lo) H.length 0 (n * 2) (n * 2) = some (txs (la ++ lb)).flatten := by
    rw [rdRow0,if_neg (by omega),rdRow,hget]
    simp only [AObj.isRow,AObj.lo,AObj.cells,hfl]
    rw [if_pos ⟨trivial,by omega,by omega,by omega⟩,List.drop_zero,List.take_of_length_le (by omega)]
   have hch := txs_chunk (la ++ lb)
   rw [hlen] at hch
   have hfz : frz H.length (GH H n (la ++ lb) lo) (.sl H.length 0 n n 2 (n * 2) false) = some (.vs 2 none (txs (la ++ lb))) := by
    simp only [frz]
    rw [if_neg (by omega),if_neg (by omega),hrd,Option.bind_some,if_pos (txs_ok _),hch]
   have hgl : (GH H n (la ++ lb) lo).length = H.length + 1 := by simp [GH]
   have hgt : (GH H n (la ++ lb) lo).take H.length = H := by simp [GH]
   have hne : txs (la ++ lb) ≠ [] := fun e => by
    have := congrArg List.length e
    rw [txs_len,hlen] at this
    simp at this; omega
   have hl0 : lst true 2 none (txs (la ++ lb)) = .vs 2 none (txs (la ++ lb)) := lst_ne hne
   rw [hlen,hl0]
   refine ⟨(.vs 2 none (txs (la ++ lb)),H ++ List.replicate 1 .other),?_,1,rfl⟩
   simp only [K_q60,C_q60,finish_n,hfz,hgl,hgt,Option.map_some,Nat.add_sub_cancel_left]
   rfl
 have hg : callW P f_q77 [nilS,ai n] H = some (if n = 0 then nilS else .sl H.length 0 0 n 2 (n * 2) false,if n = 0 then H else GH H n [] 0) := by
  by_cases h0 : n = 0
  ·subst h0; exact Grow0 H
  ·rw [if_neg h0,if_neg h0]; exact Grow1 (by omega) (by omega) H
 rw [F_q60]; simp -implicitDefEqProofs [-toCells,-AV.one,-forget,c_q60]
 repeat rw [Option.bind_assoc]
 refine Ends.block (P := PostC1 H (lst za 2 none (txs la)) (lst zb 2 none (txs lb)) la.length lb.length) (cc_loop1 ha hb 2 _ _ ⟨0,0,by omega,rfl,rfl,by simp [lp0_q60]⟩) ?_
 rintro e σ1 G1 ⟨rfl,rfl,k2⟩
 rw [hn] at k2
 have hsc : SC2 G1 n [] (if n = 0 then nilS else .sl G1.length 0 0 n 2 (n * 2) false) (if n = 0 then G1 else GH G1 n [] 0) := by
  by_cases h0 : n = 0
  ·rw [if_pos h0,if_pos h0]; exact .inl ⟨h0,rfl,rfl⟩
  ·rw [if_neg h0,if_neg h0]; exact .inr ⟨by omega,rfl,0,by omega,rfl⟩
 have hsf : ∀ d,recol (some d) (if n = 0 then nilS else .sl G1.length 0 0 n 2 (n * 2) false) = fun σ H => (if n = 0 then nilS else .sl G1.length 0 0 n 2 (n * 2) false,if n = 0 then σ.map (unfl [d]) else σ,H) := fun d => by
  funext σ H
  by_cases h0 : n = 0
  ·simp [h0,recol]
  ·simp [h0,recol,pln]
 by_cases h0 : n = 0
 ·rw [if_pos h0,if_pos h0] at hg hsc
  simp -implicitDefEqProofs [-toCells,-AV.one,-forget,c_q60,k2,hg]
  repeat rw [Option.bind_assoc]
  refine Ends.block (P := PostC2 G1 n la lb) (cc_loop2 (za := za) (zb := zb) hn ha hb 2 _ _ ⟨0,nilS,by omega,hsc,by simp [lp1_q60]⟩) ?_
  rintro e σ2 G2 ⟨rfl,s,hs2,k3⟩
  obtain ⟨e0,rfl,e2⟩ := hs2.resolve_right (by omega)
  simp -implicitDefEqProofs [-toCells,-AV.one,-forget,c_q60,k3]
  exact .inl ⟨e0,by simp,e2⟩
 ·rw [if_neg h0,if_neg h0] at hg hsc
  simp -implicitDefEqProofs [-toCells,-AV.one,-forget,c_q60,k2,hg]
  repeat rw [Option.bind_assoc]
  refine Ends.block (P := PostC2 G1 n la lb) (cc_loop2 (za := za) (zb := zb) hn ha hb 2 _ _ ⟨0,_,by omega,hsc,by simp [lp1_q60]⟩) ?_
  rintro e σ2 G2 ⟨rfl,s,hs2,k3⟩
  obtain ⟨e0,rfl,e2⟩ := hs2.resolve_left (by omega)
  simp -implicitDefEqProofs [-toCells,-AV.one,-forget,c_q60,k3]
  exact .inr ⟨e0,by simp,e2⟩
end
end Go.A.V.S
