/- The law UmtxNumbers. -/
import Derived.Test.YtnmobjhmohcjfaaXG
import Derived.Test.YtnmobjhmohcjfaaXN
import Derived.Test.YtnmobjhmohcjfaaAX
import Derived.Test.YtnmobjhmohcjfaaXA
import Derived.Test.YtnmobjhmohcjfaaXC
import Derived.Test.YtnmobjhmohcjfaaXM
set_option linter.unusedSimpArgs false
set_option linter.unusedVariables false
set_option linter.unnecessarySimpa false
namespace Go.A.V.S
open Go Go.A
structure UOp where
 kind : Int
 n : Int
 b : Bs
def UOp.v (o : UOp) : List AV := [ai o.kind,ai o.n,bv o.b]
def opv (l : List UOp) : List (List AV) := l.map UOp.v
theorem opv_len (l : List UOp) : (opv l).length = l.length := by simp [opv]
theorem opv_at {l : List UOp} {i : Nat} {o : UOp} (h : l[i]? = some o) (z : Bool) (f : Option Nat) (k : IntKind) : iaddrW 3 none (lst z 3 f (opv l)) (.c (.int k i)) = some (.vp [ai o.kind,ai o.n,bv o.b] 0) := iaddrW_lst _ _ _ (by simp [opv,h,UOp.v]) k
theorem l16alive (H : Heap) : callW P f_q9 [] H = some (ab true,H) := by
 rw [callW_eq]; rfl
theorem chk_um {c : Cfg} (h : c.chk = 0) (hm : c.mode = 1) : ∃ w : Nat,(w = 5 ∨ w = 10) ∧ c.bits = w := by
 have hu : c.um = true := by
  unfold Cfg.chk at h
  rw [if_pos (by omega)] at h
  have hne : ¬ c.mode = 0 := by omega
  rw [if_neg hne,if_pos hm] at h
  cases hx : c.um with
  | true => rfl
  | false => rw [hx,Bool.false_and] at h; simp at h
 unfold Cfg.um at hu
 rw [Bool.and_eq_true] at hu
 have h1 := of_decide_eq_true hu.1
 rcases h1 with h1 | h1
 ·exact ⟨5,.inl rfl,h1⟩
 ·exact ⟨10,.inr rfl,h1⟩
theorem u64_id (n : Int) : ∃ id : Nat,IntKind.u64.wrap n = (id : Int) := by
 refine ⟨(IntKind.u64.wrap n).toNat,?_⟩
 have : 0 ≤ IntKind.u64.wrap n := by
  simp only [IntKind.wrap,IntKind.bits,IntKind.signed]
  simp
  omega
 omega
theorem QM.push_last (q : QM) (b : List Nat) : (q.push b).1.last ≤ q.last + 1 := by
 unfold QM.push
 split
 ·simp
 ·split
  ·simp
  ·split <;> simp
theorem QM.disc_last (q : QM) (id : Nat) : (q.discard id).1.last = q.last := by
 unfold QM.discard
 split
 ·rfl
 ·split <;> rfl
theorem WrU_by {p : Um} {w : Nat} {out : List Nat} (h : WrU p w out) (hf : ∀ f ∈ p.ff,Bytes f.2) : Bytes out := by
 obtain ⟨a1,a2,x1,x2,rfl⟩ := h
 intro b hb
 rcases List.mem_append.1 hb with hb | hb
 ·rcases List.mem_append.1 hb with hb | hb
  ·exact x1.byte b hb
  ·exact x2.byte b hb
 ·obtain ⟨f,hf1,hf2⟩ := List.mem_flatten.1 hb
  obtain ⟨c,hc,rfl⟩ := List.mem_map.1 hf1
  exact hf c hc b hf2
theorem bR_bytes {q : QM} (hq : q.Ok) (w : Nat) (g : Int) (next : Nat) : ∀ f ∈ (umOf (bR q w g) next).ff,Bytes f.2 := fun f hf => by
 obtain ⟨b,hb,rfl⟩ := List.mem_map.1 hf
 exact (cutQ_F (room := rmOf w g) (w := 11) Bytes (fun b i n hb x hx => hb.2 x (List.mem_of_mem_drop (List.mem_of_mem_take hx))) 24 q [] [] 0 0 hq (fun f hf => by simp at hf)).1 b hb
section
variable {rq rs : Nat} {c : Cfg} {w : Nat} {zo : Bool} {l : List UOp}
end
end Go.A.V.S

namespace Go.A.V.S
open Go Go.A
structure LU (c : Cfg) (w rq rs m rr ry : Nat) (q : QM) (next : Nat) (G : Heap) : Prop where
 ok : q.Ok
 nx : next < 2 ^ w
 st : ∃ z,G = SH G rq rs q z c next
 bt : At G rq rs
 lt : rq < m ∧ rs < m
 dy : ∃ a b d,DY m rr a b d q.last ry w next q G
section
variable {c : Cfg} {w rq rs m rr ry : Nat} {q : QM} {next : Nat} {G H : Heap} {z : Bool}
theorem SH_get {j : Nat} (h1 : j ≠ rq) (h2 : j ≠ rs) : (SH H rq rs q z c next)[j]? = H[j]? := by
 rw [SH,RC,List.getElem?_set_ne (by omega),QH,RC,List.getElem?_set_ne (by omega)]
theorem SH_self (h1 : H[rq]? = some (.row (qv q z))) (h2 : H[rs]? = some (.row (sv rq c next))) : SH H rq rs q z c next = H := by
 rw [SH,QH,RC_self h1,RC_self h2]
theorem SH_q (hb : At H rq rs) : (SH H rq rs q z c next)[rq]? = some (.row (qv q z)) := by
 rw [SH,RC,List.getElem?_set_ne (Ne.symm hb.ne),QH,RC_get hb.q]
theorem SH_r (hb : At H rq rs) : (SH H rq rs q z c next)[rs]? = some (.row (sv rq c next)) := by
 rw [SH,RC_get (SH_s hb)]
theorem DY.mono {a b d n0 : Nat} {G' : Heap} (h : DY m rr a b d n0 ry w next q G) (hf : ∀ (j : Nat) (o : AObj),m ≤ j → G[j]? = some o → G'[j]? = some o) : DY m rr a b d n0 ry w next q G' := by
 obtain ⟨x,hd,hr⟩ := h.ex
 exact ⟨h.ok,⟨x,hd.mono hf,hr⟩,h.last,hf _ _ h.mr h.row,h.mr⟩
theorem DY.prog {a b d n0 k : Nat} {q' : QM} {z' : Bool} {next' : Nat} (hl : rq < m ∧ rs < m) (h : DY m rr a b d n0 ry w next q G) : DY m rr a b d n0 ry w next q (SH (G ++ List.replicate k .other) rq rs q' z' c next') :=
 h.mono fun j o hj ho => by
  have hjl : j < G.length := (List.getElem?_eq_some_iff.1 ho).1
  rw [SH_get (by omega) (by omega),List.getElem?_append_left hjl]
  exact ho
theorem LU.doc {G2 : Heap} (ho : q.Ok) (hn : next < 2 ^ w) (hl : rq < m ∧ rs < m) (hb : At G rq rs) (hold : ∀ j,j < m → G2[j]? = (SH G rq rs q z c next)[j]?) (hlen : G.length ≤ G2.length) (hd : ∃ a b d,DY m rr a b d q.last ry w next q G2) : LU c w rq rs m rr ry q next G2 := by
 have hb2 : At G2 rq rs := ⟨by have := hb.q; omega,by have := hb.s; omega,hb.ne⟩
 exact ⟨ho,hn,⟨z,(SH_self (by rw [hold _ hl.1]; exact SH_q hb) (by rw [hold _ hl.2]; exact SH_r hb)).symm⟩,hb2,hl,hd⟩
theorem LU.app (h : LU c w rq rs m rr ry q next G) (X : Heap) : LU c w rq rs m rr ry q next (G ++ X) := by
 obtain ⟨z,hG⟩ := h.st
 obtain ⟨a,b,d,hd⟩ := h.dy
 have hb := h.bt
 have g1 : (G ++ X)[rq]? = some (.row (qv q z)) := by rw [List.getElem?_append_left hb.q,hG]; exact SH_q hb
 have g2 : (G ++ X)[rs]? = some (.row (sv rq c next)) := by rw [List.getElem?_append_left hb.s,hG]; exact SH_r hb
 exact ⟨h.ok,h.nx,⟨z,(SH_self g1 g2).symm⟩,hb.app X,h.lt,a,b,d,hd.mono fun j o _ ho => by rw [List.getElem?_append_left (List.getElem?_eq_some_iff.1 ho).1]; exact ho⟩
theorem LU.tells (h : LU c w rq rs m rr ry q next G) (hl : q.last ≤ 100000) : callW P f_q6 [.ptr rs 0 12] G = some (ai q.bytes,G) ∧ callW P f_q16 [.ptr rr 0 4] G = some (ai q.bytes,G) ∧ callW P f_q7 [.ptr rs 0 12] G = some (ai next,G) ∧ rdRow G ry 0 1 3 = some [.ptr rr 0 4] ∧ rdRow G ry 2 1 3 = some [ai next] := by
 obtain ⟨z,hG⟩ := h.st
 obtain ⟨a,b,d,hd⟩ := h.dy
 have h1 := u_Bytes (q := q) (z := z) (c := c) (next := next) h.bt
 have h2 := u_Next (q := q) (z := z) (c := c) (next := next) h.bt
 rw [← hG] at h1 h2
 exact ⟨h1,hd.ds.bytes hl,h2,hd.r0,hd.r2⟩
theorem LU.push (h : LU c w rq rs m rr ry q next G) (hl : q.last ≤ 99999) (b : Bs) (hb : b.2.length ≤ 1100) (hby : Bytes b.2) :
  ∃ G1 G2 id e,callW P f_q3 [.ptr rs 0 12,bv b] G = some (.tup [ul id,ai (e : Nat)],G1) ∧ rdRow G1 ry 0 1 3 = some [.ptr rr 0 4] ∧ callW P f_q10 [.ptr rr 0 4,bv b] G1 = some (.tup [ul id,ai (e : Nat)],G2) ∧ LU c w rq rs m rr ry (q.push b.2).1 next G2 := by
 obtain ⟨z,hG⟩ := h.st
 obtain ⟨a,bb,d,hd⟩ := h.dy
 have hlt := h.lt
 obtain ⟨z',hP⟩ := u_Push (z := z) (c := c) (next := next) h.bt h.ok (by omega) b (by omega)
 rw [← hG] at hP
 have hd1 : DY m rr a bb d q.last ry w next q (SH G rq rs (q.push b.2).1 z' c next) := by
  have := DY.prog (k := 0) (q' := (q.push b.2).1) (z' := z') (next' := next) (c := c) hlt hd
  rw [List.replicate_zero,List.append_nil] at this
  exact this
 have hok := QM.push_ok h.ok hby
 obtain ⟨x,hx,hr⟩ := hd1.ex
 have hln : x.L.length ≤ 100000 := by rw [hr.n1]; omega
 have hr0 := hd1.r0
 have hsame : ∀ e : Nat,(q.push b.2) = (q,0,e) → callW P f_q10 [.ptr rr 0 4,bv b] (SH G rq rs (q.push b.2).1 z' c next) = some (.tup [ul 0,ai e],SH G rq rs (q.push b.2).1 z' c next) → ∃ G1 G2 id e,callW P f_q3 [.ptr rs 0 12,bv b] G = some (.tup [ul id,ai (e : Nat)],G1) ∧ rdRow G1 ry 0 1 3 = some [.ptr rr 0 4] ∧ callW P f_q10 [.ptr rr 0 4,bv b] G1 = some (.tup [ul id,ai (e : Nat)],G2) ∧ LU c w rq rs m rr ry (q.push b.2).1 next G2 := fun e he hc => by
  rw [he] at hP hc hd1 hr0 ⊢
  exact ⟨_,_,_,_,hP,hr0,hc,LU.doc h.ok h.nx hlt h.bt (fun _ _ => rfl) (by rw [SH_len]; exact Nat.le_refl _) ⟨a,bb,d,hd1⟩⟩
 by_cases h0 : b.2.length = 0
 ·exact hsame 1 (by unfold QM.push; rw [if_pos h0]) (d_Push_1 b h0 _)
 by_cases h1 : 1000 < b.2.length
 ·exact hsame 2 (by unfold QM.push; rw [if_neg h0,if_pos h1]) (d_Push_2 b h1 _)
 by_cases h2 : 64 ≤ q.l.length ∨ q.room < q.bytes + b.2.length
 ·exact hsame 5 (by unfold QM.push; rw [if_neg h0,if_neg h1,if_pos h2]) (d_Push_5 hx h.ok hr hln b h0 (by omega) h2)
 ·have he : q.push b.2 = (⟨q.room,q.l ++ [(q.last + 1,b.2)],q.taken,q.last + 1⟩,q.last + 1,0) := by unfold QM.push; rw [if_neg h0,if_neg h1,if_neg h2]
  obtain ⟨a1,b1,c1,G2,d1,d2,d3⟩ := d_Push_0 hx h.ok hr hln b h0 (by omega) (by omega)
  have hr2 := hr.push h.ok b.2
  have hrow := d2.r3 _ _ rfl hd1.row
  have hle := d2.len
  have hold := d2.old
  rw [SH_len] at hle
  rw [he] at hP hok hold d3 hr0 ⊢
  rw [hr.n1] at d3
  exact ⟨_,_,_,_,hP,hr0,d3,LU.doc hok h.nx hlt h.bt hold hle ⟨a1,b1,c1,hok,⟨_,d1,hr2⟩,rfl,hrow,hd.mr⟩⟩
theorem LU.disc (h : LU c w rq rs m rr ry q next G) (hl : q.last ≤ 100000) (id : Nat) :
  ∃ G1 G2 e,callW P f_q5 [.ptr rs 0 12,ul id] G = some (ai (e : Nat),G1) ∧ rdRow G ry 0 1 3 = some [.ptr rr 0 4] ∧ rdRow G1 ry 0 1 3 = some [.ptr rr 0 4] ∧ sameA G1 (.ptr rr 0 4) (.ptr rr 0 4) = true ∧ callW P f_q11 [.ptr rr 0 4,ul id] G1 = some (ai (e : Nat),G2) ∧ LU c w rq rs m rr ry (q.discard id).1 next G2 := by
 obtain ⟨z,hG⟩ := h.st
 obtain ⟨a,bb,d,hd⟩ := h.dy
 have hlt := h.lt
 obtain ⟨z',k,hP⟩ := u_Discard (z := z) (c := c) (next := next) h.bt h.ok id
 rw [← hG] at hP
 have hd1 := DY.prog (k := k) (q' := (q.discard id).1) (z' := z') (next' := next) (c := c) hlt hd
 obtain ⟨x,hx,hr⟩ := hd1.ex
 obtain ⟨x',G2,d1,d2,d3,d4,d5⟩ := d_Discard hx h.ok hr (by rw [hr.n1]; exact hl) id
 have hle := d4.len
 rw [SH_len,List.length_append] at hle
 exact ⟨_,_,_,hP,hd.r0,hd1.r0,sameA_ptr hx.row 0 4,d5,LU.doc (QM.discard_ok h.ok id) h.nx hlt (h.bt.app _) d4.old (by rw [List.length_append]; exact hle) ⟨a,bb,d,QM.discard_ok h.ok id,⟨x',d1,d2⟩,rfl,d4.r3 _ _ rfl hd1.row,hd.mr⟩⟩
theorem LU.reset (h : LU c w rq rs m rr ry q next G) (hl : q.last ≤ 100000) :
  ∃ G0 G1 G2,(∀ σ,storeA σ G none (.ptr ry 2 3) (ai 0) = some (σ,G0)) ∧ callW P f_q8 [.ptr rs 0 12] G0 = some (lst true 1 (some 0) (uls q.ids),G1) ∧ rdRow G0 ry 0 1 3 = some [.ptr rr 0 4] ∧ rdRow G1 ry 0 1 3 = some [.ptr rr 0 4] ∧ sameA G1 (.ptr rr 0 4) (.ptr rr 0 4) = true ∧ callW P f_q15 [.ptr rr 0 4] G1 = some (lst true 1 (some 0) (uls q.ids),G2) ∧ LU c w rq rs m rr ry q.clear 0 G2 := by
 obtain ⟨z,hG⟩ := h.st
 obtain ⟨a,bb,d,hd⟩ := h.dy
 have hlt := h.lt
 have hp : (0 : Nat) < 2 ^ w := Nat.pos_of_ne_zero (by have := h.nx; omega)
 obtain ⟨s0,hd0,hold0⟩ := hd.set 0
 have hl0 : (RC G ry [.ptr rr 0 4,ai w,ai (0 : Nat)]).length = G.length := RC_len _ _ _
 have hb0 : At (RC G ry [.ptr rr 0 4,ai w,ai (0 : Nat)]) rq rs := ⟨by rw [hl0]; exact h.bt.q,by rw [hl0]; exact h.bt.s,h.bt.ne⟩
 have hG0 : SH (RC G ry [.ptr rr 0 4,ai w,ai (0 : Nat)]) rq rs q z c next = RC G ry [.ptr rr 0 4,ai w,ai (0 : Nat)] := SH_self (by rw [hold0 _ hlt.1,hG]; exact SH_q h.bt) (by rw [hold0 _ hlt.2,hG]; exact SH_r h.bt)
 generalize RC G ry [.ptr rr 0 4,ai w,ai (0 : Nat)] = G0 at *
 have hP := u_Reset (z := z) (c := c) (next := next) hb0 h.ok
 rw [hG0] at hP
 have hd1 : DY m rr a bb d q.last ry w 0 q (SH G0 rq rs q.clear true c 0) := by
  have := DY.prog (k := 0) (q' := q.clear) (z' := true) (next' := 0) (c := c) hlt hd0
  rw [List.replicate_zero,List.append_nil] at this
  exact this
 obtain ⟨x,hx,hr⟩ := hd1.ex
 obtain ⟨G2,d1,d2,d3⟩ := d_Clear hx hr (by rw [hr.n1]; exact hl)
 have hle := d2.len
 rw [SH_len] at hle
 exact ⟨_,_,_,s0,hP,hd0.r0,hd1.r0,sameA_ptr hx.row 0 4,d3,LU.doc (QM.clear_ok h.ok) hp hlt hb0 d2.old hle ⟨a,bb,d,QM.clear_ok h.ok,⟨_,d1,hr.clear⟩,rfl,d2.r3 _ _ rfl hd1.row,hd.mr⟩⟩
inductive LB (w : Nat) (q : QM) (next : Nat) (q' : QM) (next' : Nat) : AV → AV → Prop
 | no (e : Nat) (he : e ≠ 0) (hn : next' = next) : LB w q next q' next' (.tup [nilS,nilS,ai e]) (.tup [.agg [ai 0,ai 0,nilS],nilS,ai e])
 | yes (R : CR) (out : List Nat) (hs : sizeU (umOf R next) w ≠ 0) (hW : WrU (umOf R next) w out) (hb : Bytes out) (hD : R.D.length ≤ 100000) : LB w q next q' next' (.tup [.vs 1 none (byteCs out),lst true 1 none (uls R.D),ai 0]) (.tup [.agg [ai R.fi,ai next,lst true 1 none (bvF R.F)],lst true 1 none (uls R.D),ai 0])
theorem cutQ_D {room w : Nat} : ∀ (k : Nat) (q : QM) (F : List (List Nat)) (D : List Nat) (fi used : Nat),(cutQ room w k q F D fi used).D.length ≤ D.length + k
 | 0,q,F,D,fi,used => by simp [cutQ]
 | k + 1,q,F,D,fi,used => by
  rw [cutQ]
  split
  ·simp only; omega
  ·split
   ·simp only; omega
   ·split
    ·have := cutQ_D (room := room) (w := w) k ⟨q.room,‹_›,0,q.last⟩ (F ++ [(‹Nat × List Nat›).2.drop q.taken]) (D ++ [(‹Nat × List Nat›).1]) (if 0 < q.taken then 2 else fi) (used + ((‹Nat × List Nat›).2.length - q.taken))
     rw [List.length_append,List.length_singleton] at this
     omega
    ·simp only; omega
theorem LU.build (hw : w = 5 ∨ w = 10) (hcb : c.bits = w) (h : LU c w rq rs m rr ry q next G) (hl : q.last ≤ 100000) (g : Int) :
  ∃ G1 G2 q' next' v1 v2,LB w q next q' next' v1 v2 ∧ callW P f_q4 [.ptr rs 0 12,ai g] G = some (v1,G1) ∧ callW P f_q12 [.ptr ry 0 3,ai g] G1 = some (v2,G2) ∧ LU c w rq rs m rr ry q' next' G2 ∧ q'.last = q.last := by
 obtain ⟨z,hG⟩ := h.st
 obtain ⟨a,bb,d,hd⟩ := h.dy
 have hlt := h.lt
 obtain ⟨v,q',next',z',k,hBP,hB⟩ := u_Build (z := z) (c := c) (next := next) h.bt h.ok hw hcb h.nx g
 rw [← hG] at hB
 have hd1 := DY.prog (k := k) (q' := q') (z' := z') (next' := next') (c := c) hlt hd
 have hbt := h.bt.app (List.replicate k AObj.other)
 have hcq := cutQ_ok (room := rmOf w g) (w := 11) 24 q [] [] 0 0 h.ok
 have hbR : cutQ (rmOf w g) 11 24 q [] [] 0 0 = bR q w g := rfl
 rw [hbR] at hcq
 cases hBP with
 | no he =>
  have hy := y_e hd1 hl hw g he
  have hn : ∃ e : Nat,askE q w g = e ∧ e ≠ 0 := by
   unfold askE at he ⊢
   by_cases a1 : g < 0 ∨ 4096 < g
   ·rw [if_pos a1]; exact ⟨1,rfl,by omega⟩
   rw [if_neg a1] at he ⊢
   by_cases a2 : q.bytes = 0
   ·rw [if_pos a2]; exact ⟨4,rfl,by omega⟩
   rw [if_neg a2] at he ⊢
   by_cases a3 : g ≤ ((w / 5 : Nat) : Int)
   ·rw [if_pos a3]; exact ⟨16,rfl,by omega⟩
   rw [if_neg a3] at he
   exact (he rfl).elim
  obtain ⟨e,he1,he2⟩ := hn
  rw [he1] at hy hB
  exact ⟨_,_,q,next,_,_,.no e he2 rfl,hB,hy,LU.doc h.ok h.nx hlt hbt (fun _ _ => rfl) (by rw [SH_len]; exact Nat.le_refl _) ⟨a,bb,d,hd1⟩,rfl⟩
 | none he hF =>
  obtain ⟨K',y1,y2,⟨_,y4,y5⟩ | ⟨y3,_,_⟩⟩ := y_0 hd1 hl hw h.nx g he
  ·rw [SH_len] at y2
   have y4' : DY m rr a bb d (bR q w g).q.last ry w next (bR q w g).q K' := by rw [hcq.2.1]; exact y4
   exact ⟨_,_,_,_,_,_,.no 4 (by omega) rfl,hB,y5,LU.doc hcq.1 h.nx hlt hbt y1 (by omega) ⟨a,bb,d,y4'⟩,hcq.2.1⟩
  ·exact (y3 hF).elim
 | bad he hF hs => exact (u_size h.ok hw he h.nx hF hs).elim
 | yes out he hF hs hW =>
  obtain ⟨K',y1,y2,⟨y3,_,_⟩ | ⟨_,y4,y5⟩⟩ := y_0 hd1 hl hw h.nx g he
  ·exact (hF y3).elim
  ·rw [SH_len] at y2
   have y4' : DY m rr a bb d (bR q w g).q.last ry w ((next + 1) % 2 ^ w) (bR q w g).q K' := by rw [hcq.2.1]; exact y4
   have hlt2 : (next + 1) % 2 ^ w < 2 ^ w := Nat.mod_lt _ (Nat.pos_of_ne_zero (by rcases hw with rfl | rfl <;> decide))
   have hD := cutQ_D (room := rmOf w g) (w := 11) 24 q [] [] 0 0
   rw [hbR] at hD
   exact ⟨_,_,_,_,_,_,.yes (bR q w g) out hs hW (WrU_by hW (bR_bytes h.ok w g next)) (by simp at hD; omega),hB,y5,LU.doc hcq.1 hlt2 hlt hbt y1 (by omega) ⟨a,bb,d,y4'⟩,hcq.2.1⟩
end
end Go.A.V.S

namespace Go.A.V.S
open Go Go.A Go.A.V
theorem lst_strP (H : Heap) (z : Bool) (f : Option Nat) (l : List Nat) : strV H (lst z 1 f (byteCs l)) = some (.c (.string (strB l))) := by
 have h : ∀ f,strV H (.vs 1 f (byteCs l)) = some (.c (.string (strB l))) := fun f => by
  simp only [strV]
  rw [if_pos trivial,Go.A.byteCs_flat,bytesOf_au]
  rfl
 rcases lst_cases z 1 f (byteCs l) with ⟨_,e1,e⟩ | ⟨e,_⟩
 ·have : l = [] := by simpa [byteCs] using e1
  subst this
  rw [e]; rfl
 ·rw [e]; exact h f
end Go.A.V.S

namespace Go.A.V.S
open Go Go.A
section
variable {c : Cfg} {w rq rs m rr ry : Nat} {zo : Bool} {l : List UOp}
def InvUL (c : Cfg) (w rq rs m rr ry : Nat) (zo : Bool) (l : List UOp) (zz : Nat) (σ : List AV) (G : Heap) : Prop :=
 ∃ (i : Nat) (q : QM) (next : Nat),i + zz = 81 ∧ i ≤ 80 ∧ LU c w rq rs m rr ry q next G ∧ q.last ≤ i ∧ σ = L 266 ((((((Tr.full 9).put (path 1) (lst zo 3 none (opv l))).put (path 2) (.lbox c.v)).put (path 5) (.ptr rs 0 12)).put (path 18) (.ptr ry 0 3)).put (path 19) (ai i))
def PostUL (e : AExit) (σ : List AV) (G : Heap) : Prop :=
 (e = .exit 0 ∧ kill [1,2,5,18,19,113,114,115,116,117,118,119,120] σ = L 266 (Tr.full 9)) ∨ (e = .ret ∧ resultsA F_q0.res σ = some (ab true))
set_option maxHeartbeats 16000000 in
theorem ul_loop (hw : w = 5 ∨ w = 10) (hcb : c.bits = w) (hby : ∀ o ∈ l,Bytes o.b.2) (zz : Nat) (σ : List AV) (G : Heap) (hI : InvUL c w rq rs m rr ry zo l zz (kill (headK lp0_q0) σ) G) :
  Ends (execW P f_q0 (.loop lp0_q0) σ G) fun s => PostUL s.e s.σ s.H := by
 refine loop_ends (fun zz σ G => InvUL c w rq rs m rr ry zo l zz σ G) PostUL ?_ zz σ G hI
 clear hI zz σ G
 rintro zz σ G ⟨i,q,next,hz,hi60,hS,hla,rfl⟩
 have hAl := l16alive
 have hlw : lenW (lst zo 3 none (opv l)) = some l.length := by rw [lenW_lst,opv_len]
 obtain ⟨cc,hcc⟩ : ∃ x,c = x := ⟨_,rfl⟩
 rw [hcc] at hS
 have hcb2 : cc.bits = w := by rw [← hcc]; exact hcb
 obtain ⟨mo,bi,wi,re,pr,ph,pp,pb,mr,qu⟩ := c
 simp only at hcb
 subst hcb
 simp only [Cfg.v]
 by_cases hi : i < l.length
 ·have hi' : (i : Int) < l.length := by omega
  by_cases h80 : i < 80
  ·have h80' : (i : Int) < 80 := by omega
   obtain ⟨o,ho⟩ : ∃ o,l[i]? = some o := ⟨_,List.getElem?_eq_getElem hi⟩
   have q1 := opv_at ho zo none .i64
   have hoby := hby o (List.mem_of_getElem? ho)
   obtain ⟨n,hnl⟩ : ∃ x,l.length = x := ⟨_,rfl⟩
   rw [hnl] at hi hi' hlw
   have hlb := bv_len o.b
   have hlen11 : o.b.2.length ≤ 1100 ∨ 1100 < o.b.2.length := by omega
   obtain ⟨bl,hbl⟩ : ∃ x,o.b.2.length = x := ⟨_,rfl⟩
   rw [hbl] at hlb
   by_cases h11 : 1100 < bl
   ·have h11' : (bl : Int) > 1100 := by omega
    have h11'' : (1100 : Int) < bl := by omega
    clear hS
    simp -implicitDefEqProofs [-toCells,-AV.one,-forget,c_q0,lp0_q0,hlw,hi,hi',h80,h80',q1,hlb,h11,h11',h11'',hAl]
    exact .inr ⟨rfl,by simp [F_q0]⟩
   have h11' : ¬ (bl : Int) > 1100 := by omega
   have h11'' : ¬ (1100 : Int) < bl := by omega
   have w1 : IntKind.i64.wrap ((i : Int) + 1) = ((i + 1 : Nat) : Int) := by rw [wrap_i64 (by omega) (by omega)]; omega
   have hfin : ∀ (q' : QM) (next' : Nat) (G' : Heap),LU cc w rq rs m rr ry q' next' G' → q'.last ≤ i + 1 → (callW P f_q6 [.ptr rs 0 12] G' = some (ai q'.bytes,G') ∧ callW P f_q16 [.ptr rr 0 4] G' = some (ai q'.bytes,G') ∧ callW P f_q7 [.ptr rs 0 12] G' = some (ai next',G') ∧ rdRow G' ry 0 1 3 = some [.ptr rr 0 4] ∧ rdRow G' ry 2 1 3 = some [ai next']) ∧ ∀ σ',σ' = L 266 ((((((Tr.full 9).put (path 1) (lst zo 3 none (opv l))).put (path 2) (.lbox [ai mo,ai w,ai wi,ai re,ai pr,ai ph,ai pp,ai pb,ai mr,ai qu])).put (path 5) (.ptr rs 0 12)).put (path 18) (.ptr ry 0 3)).put (path 19) (ai (i + 1 : Nat))) → ∃ z,z < zz ∧ InvUL cc w rq rs m rr ry zo l z σ' G' := fun q' next' G' h1 h2 => ⟨h1.tells (by omega),fun σ' hσ' => ⟨zz - 1,by omega,i + 1,q',next',by omega,by omega,h1,h2,by rw [hσ',← hcc]; rfl⟩⟩
   rw [hcc]
   obtain ⟨i1,hi1⟩ : ∃ x,i + 1 = x := ⟨_,rfl⟩
   rw [hi1] at w1
   by_cases hk0 : o.kind = 0
   ·rw [hk0] at q1
    obtain ⟨G1,G2,id,e,hA,hr1,hB,hS2⟩ := hS.push (by omega) o.b (by omega) hoby
    obtain ⟨⟨b1,b2,b3,b4,b5⟩,hf⟩ := hfin _ _ G2 hS2 (by have := QM.push_last q o.b.2; omega)
    rw [hi1] at hf
    generalize (q.push o.b.2).1.bytes = by' at *
    clear hS hS2 hfin hcc
    simp -implicitDefEqProofs [-toCells,-AV.one,-forget,c_q0,keepB,-goodB,goodB_L,sameV,dstNot,dstNe,SOpG.reads,SOp.slots,SX.slots,SOp.noL,rdV_load,rdV_str,selfE_lst,selfE,selfEs,eqV,lp0_q0,hlw,hi,hi',h80,h80',q1,hlb,h11,h11',h11'',hA,hr1,hB,b1,b2,b3,b4,b5,w1]
    exact hf _ (by simp)
   by_cases hk1 : o.kind = 1
   ·rw [hk1] at q1
    by_cases hn0 : o.n < 0
    ·obtain ⟨⟨b1,b2,b3,b4,b5⟩,hf⟩ := hfin q next G hS (by omega)
     rw [hi1] at hf
     generalize q.bytes = by' at *
     clear hS hfin hcc
     simp -implicitDefEqProofs [-toCells,-AV.one,-forget,c_q0,keepB,-goodB,goodB_L,sameV,dstNot,dstNe,SOpG.reads,SOp.slots,SX.slots,SOp.noL,rdV_load,rdV_str,selfE_lst,selfE,selfEs,eqV,lp0_q0,hlw,hi,hi',h80,h80',q1,hlb,h11,h11',h11'',hn0,b1,b2,b3,b4,b5,w1]
     exact hf _ (by simp)
    ·obtain ⟨id,hid⟩ := u64_id o.n
     obtain ⟨G1,G2,e,hA,hr0,hr1,hsm,hB,hS2⟩ := hS.disc (by omega) id
     obtain ⟨⟨b1,b2,b3,b4,b5⟩,hf⟩ := hfin _ _ G2 hS2 (by rw [QM.disc_last]; omega)
     rw [hi1] at hf
     generalize (q.discard id).1.bytes = by' at *
     clear hS hS2 hfin hcc
     simp -implicitDefEqProofs [-toCells,-AV.one,-forget,c_q0,keepB,-goodB,goodB_L,sameV,dstNot,dstNe,SOpG.reads,SOp.slots,SX.slots,SOp.noL,rdV_load,rdV_str,selfE_lst,selfE,selfEs,eqV,lp0_q0,hlw,hi,hi',h80,h80',q1,hlb,h11,h11',h11'',hn0,hid,hA,hr0,hr1,hsm,hB,b1,b2,b3,b4,b5,w1]
     exact hf _ (by simp)
   by_cases hk2 : o.kind = 2
   ·rw [hk2] at q1
    obtain ⟨G1,G2,q',next',v1,v2,hLB,hA,hB,hS2,hq'⟩ := hS.build hw hcb2 (by omega) o.n
    cases hLB with
    | no e he hn =>
     obtain ⟨⟨b1,b2,b3,b4,b5⟩,hf⟩ := hfin _ _ G2 hS2 (by omega)
     rw [hi1] at hf
     have hsame : ∀ H,callW P f_q13 [nilS,nilS] H = some (ab true,H) := fun H => l_same (z1 := true) (z2 := true) (D := []) (by simp) H
     have he' : ¬ (e : Int) = 0 := by omega
     generalize q'.bytes = by' at *
     clear hS hS2 hfin hcc
     simp -implicitDefEqProofs [-toCells,-AV.one,-forget,c_q0,keepB,-goodB,goodB_L,sameV,dstNot,dstNe,SOpG.reads,SOp.slots,SX.slots,SOp.noL,rdV_load,rdV_str,selfE_lst,selfE,selfEs,eqV,lp0_q0,hlw,hi,hi',h80,h80',q1,hlb,h11,h11',h11'',hA,hB,hsame,he,he',b1,b2,b3,b4,b5,w1]
     exact hf _ (by simp)
    | yes R out hs hWr hb hD =>
     obtain ⟨out2,k,hW2,hRW⟩ := rUWrite (umOf R next) hs G2
     rw [Int.toNat_natCast] at hW2
     obtain rfl := WrU_one hWr hW2
     have hS3 := hS2.app (List.replicate k AObj.other)
     obtain ⟨⟨b1,b2,b3,b4,b5⟩,hf⟩ := hfin _ _ _ hS3 (by omega)
     rw [hi1] at hf
     have hsame := fun H => l_same (z1 := true) (z2 := true) hD H
     have hv : (umOf R next).v = [ai R.fi,ai next,lst true 1 none (bvF R.F)] := by
      simp only [umOf,Um.v,Um.f,bvs_bvF2]
     rw [hv] at hRW
     have s2 : ∀ H,strV H (.vs 1 none (byteCs out)) = some (.c (.string (strB out))) := fun H => lst_strP H false none out
     have hstr : binA .eql .no (.c (.string (strB out))) (.c (.string (strB out))) = some (ab true) := by
      rw [binA_strEq .no hb hb]; simp
     have hle : lenW (.vs 1 none (byteCs out)) = some (byteCs out).length := rfl
     generalize strB out = S at *
     generalize G2 ++ List.replicate k AObj.other = G3 at *
     generalize uls R.D = D1 at *
     generalize bvF R.F = F1 at *
     generalize byteCs out = ob at *
     generalize q'.bytes = by' at *
     clear hS hS2 hS3 hfin hcc hv hs hWr hW2 hD
     simp -implicitDefEqProofs [-toCells,-AV.one,-forget,c_q0,keepB,-goodB,goodB_L,sameV,dstNot,dstNe,SOpG.reads,SOp.slots,SX.slots,SOp.noL,rdV_load,rdV_str,selfE_lst,selfE,selfEs,eqV,lp0_q0,hlw,hi,hi',h80,h80',q1,hlb,h11,h11',h11'',hA,hB,hsame,hRW,s2,hstr,b1,b2,b3,b4,b5,w1]
     exact hf _ (by simp)
   by_cases hk3 : o.kind = 3
   ·rw [hk3] at q1
    obtain ⟨G0,G1,G2,s0,hA,hr0,hr1,hsm,hB,hS2⟩ := hS.reset (by omega)
    obtain ⟨⟨b1,b2,b3,b4,b5⟩,hf⟩ := hfin _ _ G2 hS2 (by show q.last ≤ _; omega)
    rw [hi1] at hf
    replace b3 : callW P f_q7 [.ptr rs 0 12] G2 = some (ai 0,G2) := b3
    replace b5 : rdRow G2 ry 2 1 3 = some [ai 0] := b5
    have hids : q.ids.length ≤ 100000 := by
     have := hS.ok.len
     simp only [QM.ids,List.length_map]; omega
    have hsame2 : ∀ H,callW P f_q13 [lst true 1 none (uls q.ids),lst true 1 none (uls q.ids)] H = some (ab true,H) := fun H => l_same hids H
    generalize q.clear.bytes = by' at *
    generalize uls q.ids = us at *
    clear hS hS2 hfin hcc
    simp -implicitDefEqProofs [-toCells,-AV.one,-forget,c_q0,keepB,-goodB,goodB_L,sameV,dstNot,dstNe,SOpG.reads,SOp.slots,SX.slots,SOp.noL,rdV_load,rdV_str,selfE_lst,selfE,selfEs,eqV,lp0_q0,hlw,hi,hi',h80,h80',q1,hlb,h11,h11',h11'',s0,hA,hr0,hr1,hsm,hB,hsame2,b1,b2,b3,b4,b5,w1]
    exact hf _ (by simp)
   obtain ⟨⟨b1,b2,b3,b4,b5⟩,hf⟩ := hfin q next G hS (by omega)
   rw [hi1] at hf
   generalize q.bytes = by' at *
   clear hS hfin hcc
   simp -implicitDefEqProofs [-toCells,-AV.one,-forget,c_q0,keepB,-goodB,goodB_L,sameV,dstNot,dstNe,SOpG.reads,SOp.slots,SX.slots,SOp.noL,rdV_load,rdV_str,selfE_lst,selfE,selfEs,eqV,lp0_q0,hlw,hi,hi',h80,h80',q1,hlb,h11,h11',h11'',hk0,hk1,hk2,hk3,b1,b2,b3,b4,b5,w1]
   exact hf _ (by simp)
  ·have h80' : ¬ (i : Int) < 80 := by omega
   clear hS
   simp -implicitDefEqProofs [-toCells,-AV.one,-forget,c_q0,lp0_q0,hlw,hi,hi',h80,h80']
   exact .inl ⟨rfl,by simp⟩
 ·have hi' : ¬ (i : Int) < l.length := by omega
  clear hS
  simp -implicitDefEqProofs [-toCells,-AV.one,-forget,c_q0,lp0_q0,hlw,hi,hi']
  exact .inl ⟨rfl,by simp⟩
end
end Go.A.V.S

namespace Go.A.V.S
open Go Go.A Go.A.V
theorem iss_cfg {vs : List AV} (h : V.CT.iss [.i .i64,.i .i64,.i .i64,.i .i64,.i .i64,.i .i64,.i .i64,.i .i64,.i .i64,.i .i64] vs) : ∃ c : Cfg,vs = c.v := by
 obtain ⟨c0,r0,rfl,h0,h⟩ := iss_cons h
 obtain ⟨c1,r1,rfl,h1,h⟩ := iss_cons h
 obtain ⟨c2,r2,rfl,h2,h⟩ := iss_cons h
 obtain ⟨c3,r3,rfl,h3,h⟩ := iss_cons h
 obtain ⟨c4,r4,rfl,h4,h⟩ := iss_cons h
 obtain ⟨c5,r5,rfl,h5,h⟩ := iss_cons h
 obtain ⟨c6,r6,rfl,h6,h⟩ := iss_cons h
 obtain ⟨c7,r7,rfl,h7,h⟩ := iss_cons h
 obtain ⟨c8,r8,rfl,h8,h⟩ := iss_cons h
 obtain ⟨c9,r9,rfl,h9,h⟩ := iss_cons h
 obtain rfl := iss_nil h
 obtain ⟨a0,rfl,_⟩ := is_i h0
 obtain ⟨a1,rfl,_⟩ := is_i h1
 obtain ⟨a2,rfl,_⟩ := is_i h2
 obtain ⟨a3,rfl,_⟩ := is_i h3
 obtain ⟨a4,rfl,_⟩ := is_i h4
 obtain ⟨a5,rfl,_⟩ := is_i h5
 obtain ⟨a6,rfl,_⟩ := is_i h6
 obtain ⟨a7,rfl,_⟩ := is_i h7
 obtain ⟨a8,rfl,_⟩ := is_i h8
 obtain ⟨a9,rfl,_⟩ := is_i h9
 exact ⟨⟨a0,a1,a2,a3,a4,a5,a6,a7,a8,a9⟩,rfl⟩
theorem isss_ops : ∀ (l : List (List AV)),(∀ cs ∈ l,V.CT.iss [.i .i64,.i .i64,.sl [.i .u8]] cs) → ∃ os : List UOp,l = opv os ∧ ∀ o ∈ os,Bytes o.b.2
 | [],_ => ⟨[],rfl,by simp⟩
 | x :: r,h => by
  have h1 := h x (by simp)
  obtain ⟨c0,r0,rfl,h0,h1⟩ := iss_cons h1
  obtain ⟨c1,r1,rfl,h2,h1⟩ := iss_cons h1
  obtain ⟨c2,r2,rfl,h3,h1⟩ := iss_cons h1
  obtain rfl := iss_nil h1
  obtain ⟨a0,rfl,_⟩ := is_i h0
  obtain ⟨a1,rfl,_⟩ := is_i h2
  obtain ⟨b,rfl,hb⟩ := is_bytes h3
  obtain ⟨os,rfl,ho⟩ := isss_ops r (fun cs hc => h cs (by simp [hc]))
  refine ⟨⟨a0,a1,b⟩ :: os,rfl,fun o hm => ?_⟩
  rcases List.mem_cons.1 hm with rfl | hm
  ·exact hb
  ·exact ho o hm
theorem is_ops {c : AV} (h : V.CT.is (.sl [.i .i64,.i .i64,.sl [.i .u8]]) c) : ∃ (z : Bool) (os : List UOp),c = lst z 3 none (opv os) ∧ ∀ o ∈ os,Bytes o.b.2 := by
 rw [V.CT.is] at h
 obtain ⟨z,l,rfl,hl⟩ := h
 obtain ⟨os,rfl,ho⟩ := isss_ops l hl
 exact ⟨z,os,rfl,ho⟩
end Go.A.V.S

namespace Go.A.V.S
open Go Go.A
theorem qn_made (H : Heap) : callW P f_q48 [.c (.pointer none)] H = some (ab false,H) := by
 rw [call_L 4 rfl (rfl : P.T f_q48 = some F_q48) (le_ok rfl)]; simp -implicitDefEqProofs [-toCells,-AV.one,-forget,F_q48,c_q48]
theorem qn_Clear (H : Heap) : callW P f_q30 [.c (.pointer none)] H = some (nilS,H) := by
 have h := q_IDs_nil
 have h2 := qn_made
 rw [call_L 5 rfl (rfl : P.T f_q30 = some F_q30) (le_ok rfl)]; simp -implicitDefEqProofs [-toCells,-AV.one,-forget,F_q30,c_q30,h,h2]
theorem nu_queue (H : Heap) : callW P f_q22 [.c (.pointer none)] H = some (.c (.pointer none),H) := by
 rw [call_L 4 rfl (rfl : P.T f_q22 = some F_q22) (le_ok rfl)]; simp -implicitDefEqProofs [-toCells,-AV.one,-forget,F_q22,c_q22]
theorem nu_Push (b : Bs) (H : Heap) : callW P f_q3 [.c (.pointer none),bv b] H = some (.tup [ul 0,ai 6],H) := by
 have h1 := nu_queue
 have h2 := q_nil_Push b
 rw [call_L 4 rfl (rfl : P.T f_q3 = some F_q3) (le_ok rfl)]; simp -implicitDefEqProofs [-toCells,-AV.one,-forget,F_q3,c_q3,h1,h2]
theorem nu_Bytes (H : Heap) : callW P f_q6 [.c (.pointer none)] H = some (ai 0,H) := by
 have h1 := nu_queue
 have h2 := q_nil_Bytes
 rw [call_L 3 rfl (rfl : P.T f_q6 = some F_q6) (le_ok rfl)]; simp -implicitDefEqProofs [-toCells,-AV.one,-forget,F_q6,c_q6,h1,h2]
theorem nu_Next (H : Heap) : callW P f_q7 [.c (.pointer none)] H = some (ai 0,H) := by
 rw [call_L 4 rfl (rfl : P.T f_q7 = some F_q7) (le_ok rfl)]; simp -implicitDefEqProofs [-toCells,-AV.one,-forget,F_q7,c_q7]
theorem nu_ask (H : Heap) : callW P f_q24 [.c (.pointer none),ai 1] H = some (ai 6,H) := by
 have h1 := nu_queue
 rw [call_L 5 rfl (rfl : P.T f_q24 = some F_q24) (le_ok rfl)]; simp -implicitDefEqProofs [-toCells,-AV.one,-forget,F_q24,c_q24,h1]
theorem nu_Build (H : Heap) : callW P f_q4 [.c (.pointer none),ai 1] H = some (.tup [nilS,nilS,ai 6],H) := by
 have h1 := nu_ask
 rw [call_L 7 rfl (rfl : P.T f_q4 = some F_q4) (le_ok rfl)]; simp -implicitDefEqProofs [-toCells,-AV.one,-forget,F_q4,c_q4,h1]
theorem nu_Reset (H : Heap) : callW P f_q8 [.c (.pointer none)] H = some (nilS,H) := by
 have h1 := nu_queue
 have h2 := qn_Clear
 rw [call_L 4 rfl (rfl : P.T f_q8 = some F_q8) (le_ok rfl)]; simp -implicitDefEqProofs [-toCells,-AV.one,-forget,F_q8,c_q8,h1,h2]
def zuC : List AV := [.c (.pointer none),ai 0,ai 0,ai 0,ai 0,ai 0,ai 0,ai 0,ai 0,ai 0,ai 0,ai 0]
section
variable {K : Heap} {rz : Nat}
theorem zu_queue (h : K[rz]? = some (.row zuC)) : callW P f_q22 [.ptr rz 0 12] K = some (.c (.pointer none),K) := by
 have r0 : rdRow K rz 0 1 12 = some [.c (.pointer none)] := rd_row h rfl rfl
 rw [call_L 4 rfl (rfl : P.T f_q22 = some F_q22) (le_ok rfl)]; simp -implicitDefEqProofs [-toCells,-AV.one,-forget,F_q22,c_q22,r0]
theorem zu_ask (h : K[rz]? = some (.row zuC)) : callW P f_q24 [.ptr rz 0 12,ai 1] K = some (ai 6,K) := by
 have h1 := zu_queue h
 rw [call_L 5 rfl (rfl : P.T f_q24 = some F_q24) (le_ok rfl)]; simp -implicitDefEqProofs [-toCells,-AV.one,-forget,F_q24,c_q24,h1]
theorem zu_Build (h : K[rz]? = some (.row zuC)) : callW P f_q4 [.ptr rz 0 12,ai 1] K = some (.tup [nilS,nilS,ai 6],K) := by
 have h1 := zu_ask h
 rw [call_L 7 rfl (rfl : P.T f_q4 = some F_q4) (le_ok rfl)]; simp -implicitDefEqProofs [-toCells,-AV.one,-forget,F_q4,c_q4,h1]
theorem zu_Discard (h : K[rz]? = some (.row zuC)) : callW P f_q5 [.ptr rz 0 12,.c (.int .u64 1)] K = some (ai 6,K) := by
 have h1 := zu_queue h
 have h2 : ∀ H,callW P f_q28 [.c (.pointer none),.c (.int .u64 1)] H = some (ai 6,H) := q_nil_Discard 1
 rw [call_L 4 rfl (rfl : P.T f_q5 = some F_q5) (le_ok rfl)]; simp -implicitDefEqProofs [-toCells,-AV.one,-forget,F_q5,c_q5,h1,h2]
theorem zu_Reset (h : K[rz]? = some (.row zuC)) : callW P f_q8 [.ptr rz 0 12] K = some (nilS,K) := by
 have h1 := zu_queue h
 have h2 := qn_Clear
 have hrl : rz < K.length := (List.getElem?_eq_some_iff.1 h).1
 have s1 : ∀ σ,storeA σ K none (.ptr rz 11 12) (ai 0) = some (σ,K) := fun σ => by
  have := RC_st hrl zuC 11 12 (ai 0) σ
  rw [RC_self h,if_pos ⟨rfl,by omega,rfl⟩] at this
  rw [this]
  congr 2
  exact RC_self h
 have ht : K.take K.length = K := List.take_length
 rw [call_L 4 rfl (rfl : P.T f_q8 = some F_q8) (le_ok rfl)]; simp -implicitDefEqProofs [-toCells,-AV.one,-forget,F_q8,c_q8,h1,h2,s1,ht]
end
theorem ul_mid {c : Cfg} {w : Nat} (hw : w = 5 ∨ w = 10) (hN : 1 ≤ c.queue ∧ c.queue ≤ 20000) (H : Heap) (l : List UOp) (zo : Bool) :
  ∀ G,G = SH (H ++ [.other,.other]) H.length (H.length + 1) ⟨c.queue.toNat,[],0,0⟩ true c 0 ++ [.row zuC] ++ [.row [ai c.queue,nilS,nilS,nilS]] ++ [.row [.ptr (H.length + 3) 0 4,ai w,ai 0]] → ∀ σ,σ = L 266 ((((((Tr.full 9).put (path 1) (lst zo 3 none (opv l))).put (path 2) (.lbox c.v)).put (path 5) (.ptr (H.length + 1) 0 12)).put (path 18) (.ptr (H.length + 4) 0 3)).put (path 19) (ai 0)) → InvUL c w H.length (H.length + 1) (H.length + 2) (H.length + 3) (H.length + 4) zo l 81 σ G := by
 intro G hG σ hσ
 have hb : At (H ++ [.other,.other]) H.length (H.length + 1) := ⟨by simp,by simp,by omega⟩
 have hl0 : (SH (H ++ [.other,.other]) H.length (H.length + 1) ⟨c.queue.toNat,[],0,0⟩ true c 0).length = H.length + 2 := by rw [SH_len]; simp
 have hlen : G.length = H.length + 5 := by rw [hG]; simp
 have g : ∀ j : Nat,j < H.length + 2 → G[j]? = (SH (H ++ [.other,.other]) H.length (H.length + 1) ⟨c.queue.toNat,[],0,0⟩ true c 0)[j]? := fun j hj => by
  rw [hG,List.getElem?_append_left (by simp; omega),List.getElem?_append_left (by simp; omega),List.getElem?_append_left (by omega)]
 have hq : (⟨c.queue.toNat,[],0,0⟩ : QM).Ok := ⟨by simp only; omega,by simp,by simp,fun _ => rfl,by simp,by simp [QM.bytes,tot],by simp [QM.ids]⟩
 have hbG : At G H.length (H.length + 1) := ⟨by omega,by omega,by omega⟩
 have hN2 : ((c.queue.toNat : Nat) : Int) = c.queue := by omega
 have hrr : G[H.length + 3]? = some (.row [ai c.queue,nilS,nilS,nilS]) := by
  rw [hG,List.getElem?_append_left (by simp),List.getElem?_append_right (by rw [List.length_append,hl0]; simp),List.length_append,hl0]
  simp
 have hry : G[H.length + 4]? = some (.row [.ptr (H.length + 3) 0 4,ai w,ai 0]) := by
  rw [hG,List.getElem?_append_right (by rw [List.length_append,List.length_append,hl0]; simp),List.length_append,List.length_append,hl0]
  simp
 refine ⟨0,_,0,rfl,by omega,⟨hq,Nat.pos_of_ne_zero (by rcases hw with rfl | rfl <;> decide),⟨true,(SH_self ?_ ?_).symm⟩,hbG,by omega,0,0,0,hq,⟨⟨c.queue.toNat,[],[],[]⟩,⟨?_,by omega,rfl,rfl,fun h => by simp at h,fun h => by simp at h,fun h => by simp at h,fun h => by simp at h⟩,⟨rfl,rfl,rfl,rfl,rfl,rfl⟩⟩,rfl,hry,by omega⟩,Nat.le_refl _,hσ⟩
 ·rw [g _ (by omega)]; exact SH_q hb
 ·rw [g _ (by omega)]; exact SH_r hb
 ·rw [hrr]; simp [hN2,dsl]
set_option maxHeartbeats 8000000 in
theorem lUmtxLives (c : Cfg) (zo : Bool) (l : List UOp) (hby : ∀ o ∈ l,Bytes o.b.2) (H : Heap) : ∃ H',callW P f_q0 [.agg c.v,lst zo 3 none (opv l)] H = some (ab true,H') := by
 suffices hs : Ends (callW P f_q0 [.agg c.v,lst zo 3 none (opv l)] H) fun y => y.1 = ab true by
  obtain ⟨⟨v,H'⟩,h2,rfl⟩ := hs
  exact ⟨H',h2⟩
 have hAl := l16alive
 have hNew := u_New c H
 have hChk := fun H => rCheck c H
 have hb1 : (bv (false,[1]) : AV) = .vs 1 none [[.c (.int .u8 1)]] := rfl
 have n1 : ∀ H,callW P f_q3 [.c (.pointer none),.vs 1 none [[.c (.int .u8 1)]]] H = some (.tup [.c (.int .u64 0),ai 6],H) := fun H => by rw [← hb1]; exact nu_Push _ H
 have n2 := nu_Next
 have n3 := nu_Build
 have n4 := nu_Bytes
 have n5 := nu_Reset
 have w00 : IntKind.i64.wrap 0 = 0 := rfl
 refine call_post 9 266 rfl (rfl : P.T f_q0 = some F_q0) rfl (le_ok rfl) (fun e σ G => e = .ret ∧ resultsA F_q0.res σ = some (ab true)) ?_ ?_
 ·rintro e σ G ⟨rfl,h⟩
  exact ⟨rfl,_,h,by simp,by simp⟩
 by_cases hc : c.chk = 0 ∧ c.mode = 1
 ·rw [if_pos hc] at hNew
  obtain ⟨w,hw,hcb⟩ := chk_um hc.1 hc.2
  have hN : 1 ≤ c.queue ∧ c.queue ≤ 20000 := by
   have h1 := hc.1
   unfold Cfg.chk at h1
   rw [if_pos (by omega)] at h1
   have h3 : [(c.queue,((1 : Int),(20000 : Int)))].all inn = true := by
    cases hx : [(c.queue,((1 : Int),(20000 : Int)))].all inn with
    | true => rfl
    | false => rw [hx,Bool.and_false] at h1; simp at h1
   simp only [List.all_cons,List.all_nil,Bool.and_true,inn,Bool.not_eq_true',decide_eq_false_iff_not] at h3
   omega
  have hm := hc.2
  rw [hc.1] at hChk
  have hmid := ul_mid hw hN H l zo
  have hL := fun σ G => ul_loop (c := c) (w := w) (rq := H.length) (rs := H.length + 1) (m := H.length + 2) (rr := H.length + 3) (ry := H.length + 4) (zo := zo) (l := l) hw hcb hby 81 σ G
  have hl0 : (SH (H ++ [.other,.other]) H.length (H.length + 1) ⟨c.queue.toNat,[],0,0⟩ true c 0).length = H.length + 2 := by rw [SH_len]; simp
  obtain ⟨G,hG⟩ : ∃ x,SH (H ++ [.other,.other]) H.length (H.length + 1) ⟨c.queue.toNat,[],0,0⟩ true c 0 = x := ⟨_,rfl⟩
  rw [hG] at hNew hmid hl0
  have r0 : (G ++ [AObj.row zuC])[G.length]? = some (.row zuC) := by rw [List.getElem?_append_right (Nat.le_refl _),Nat.sub_self]; rfl
  have z1 := zu_Build r0
  have z2 := zu_Discard r0
  have z3 := zu_Reset r0
  have hlk : (G ++ [AObj.row zuC]).length = H.length + 3 := by simp [hl0]
  have hmid2 := hmid _ rfl
  clear hmid
  obtain ⟨K,hK⟩ : ∃ x,G ++ [AObj.row zuC] = x := ⟨_,rfl⟩
  rw [hK] at r0 z1 z2 z3 hlk hmid2
  have hK3 : G ++ [AObj.row [.c (.pointer none),ai 0,ai 0,ai 0,ai 0,ai 0,ai 0,ai 0,ai 0,ai 0,ai 0,ai 0]] = K := hK
  obtain ⟨K2,hK2⟩ : ∃ x,K ++ [AObj.row [ai c.queue,nilS,nilS,nilS]] = x := ⟨_,rfl⟩
  have hlk2 : K2.length = H.length + 4 := by rw [← hK2]; simp [hlk]
  rw [hK2] at hmid2
  rw [hl0] at z1 z2 z3
  generalize H.length + 1 = rs at *
  generalize H.length + 3 = rr at *
  generalize H.length + 4 = ry at *
  generalize H.length + 2 = rz at *
  obtain ⟨cc,hcc⟩ : ∃ x,c = x := ⟨_,rfl⟩
  have hv : cc.v = c.v := by rw [hcc]
  rw [hcc] at hL hmid2
  rw [hv] at hmid2
  obtain ⟨mo,bi,wi,re,pr,ph,pp,pb,mr,qu⟩ := c
  simp only at hcb hm
  subst hcb
  subst hm
  simp only [Cfg.v] at hNew hChk hmid2 hK2 ⊢
  clear hcc hv
  rw [F_q0]; simp -implicitDefEqProofs [-toCells,-AV.one,-forget,c_q0,hNew,hChk,n1,n2,n3,n4,n5,z1,z2,z3,hl0,hK3,hlk,hK2,hlk2,w00]
  repeat rw [Option.bind_assoc]
  refine Ends.block (P := PostUL) (hL _ _ (hmid2 _ (by simp [lp0_q0]))) ?_
  rintro e σ1 G1 (⟨rfl,k2⟩ | ⟨rfl,k2⟩)
  ·simp -implicitDefEqProofs [-toCells,-AV.one,-forget,c_q0,k2,hAl]
   try simp [F_q0]
  ·simp -implicitDefEqProofs [-toCells,-AV.one,-forget,c_q0]
   simpa [F_q0] using k2
 ·rw [if_neg hc] at hNew
  obtain ⟨e,he⟩ : ∃ x,(if c.chk ≠ 0 then (c.chk : Int) else 9) = x := ⟨_,rfl⟩
  have he0 : ¬ e = 0 := by rw [← he]; split <;> omega
  rw [he] at hNew
  have r0 : (H ++ [AObj.row zuC])[H.length]? = some (.row zuC) := by rw [List.getElem?_append_right (Nat.le_refl _),Nat.sub_self]; rfl
  have z1 := zu_Build r0
  have z2 := zu_Discard r0
  have z3 := zu_Reset r0
  obtain ⟨K,hK⟩ : ∃ x,H ++ [AObj.row zuC] = x := ⟨_,rfl⟩
  rw [hK] at r0 z1 z2 z3
  have hK3 : H ++ [AObj.row [.c (.pointer none),ai 0,ai 0,ai 0,ai 0,ai 0,ai 0,ai 0,ai 0,ai 0,ai 0,ai 0]] = K := hK
  by_cases h1 : c.chk = 0
  ·have h2 : ¬ c.mode = 1 := fun h2 => hc ⟨h1,h2⟩
   have he9 : e = 9 := by rw [← he,if_neg (by omega)]
   subst he9
   rw [h1] at hChk
   obtain ⟨mo,bi,wi,re,pr,ph,pp,pb,mr,qu⟩ := c
   simp only [Cfg.v] at *
   rw [F_q0]; simp -implicitDefEqProofs [-toCells,-AV.one,-forget,c_q0,hNew,hChk,h2,n1,n2,n3,n4,n5,z1,z2,z3,hK3,hAl,w00]
   try simp [F_q0]
  ·have hee : (c.chk : Int) = e := by rw [← he,if_pos h1]
   rw [hee] at hChk
   obtain ⟨mo,bi,wi,re,pr,ph,pp,pb,mr,qu⟩ := c
   simp only [Cfg.v] at *
   rw [F_q0]; simp -implicitDefEqProofs [-toCells,-AV.one,-forget,c_q0,hNew,hChk,he0,n1,n2,n3,n4,n5,z1,z2,z3,hK3,hAl,w00]
   try simp [F_q0]
theorem umtxLives_all (u0 : List AV) (h0 : V.CT.iss [.i .i64,.i .i64,.i .i64,.i .i64,.i .i64,.i .i64,.i .i64,.i .i64,.i .i64,.i .i64] u0) (c1 : AV) (h1 : V.CT.is (.sl [.i .i64,.i .i64,.sl [.i .u8]]) c1) : ∃ H',callW P f_q0 [.agg u0,c1] [] = some (ab true,H') := by
 obtain ⟨c,rfl⟩ := iss_cfg h0
 obtain ⟨z,os,rfl,ho⟩ := is_ops h1
 exact lUmtxLives c z os ho []
end Go.A.V.S
