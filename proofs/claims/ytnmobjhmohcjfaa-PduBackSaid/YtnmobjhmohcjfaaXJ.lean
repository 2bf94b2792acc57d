/- What must come of fixed calls (pdu). -/
import Derived.Test.YtnmobjhmohcjfaaXI
import Derived.Test.YtnmobjhmohcjfaaXC
import Derived.Test.YtnmobjhmohcjfaaXD
import Derived.Test.YtnmobjhmohcjfaaXG
set_option linter.unusedSimpArgs false
set_option linter.unusedVariables false
set_option linter.unnecessarySimpa false
namespace Go.A.V.S
open Go Go.A
set_option linter.unusedSimpArgs false
set_option linter.unusedVariables false
def cU : Cfg := ⟨2,10,512,4,8,3,4,500,4,5000⟩
theorem pdu_Usual2 (H : Heap) : callW P f_q1 [ai 2] H = some (.agg cU.v,H) := by
 rw [call_L 5 rfl (rfl : P.T f_q1 = some F_q1) (le_ok rfl)]; simp -implicitDefEqProofs [-toCells,-AV.one,-forget,F_q1,c_q1,cU,Cfg.v]
theorem cU_chk : cU.chk = 0 := by decide
set_option maxRecDepth 100000 in
theorem al_s : readS [0,20] 10 = (0,5,[]) := by decide
set_option maxRecDepth 100000 in
theorem al_r : readR [128,5,65] 10 = (0,[[65]]) := by decide
set_option maxRecDepth 100000 in
theorem al_sn : hSN [128,5,65] 10 = 5 := by decide
theorem al_1 {z : Bool} {e : Nat} {x : Un} (h : ReadP cU (z,[0,20]) e x) : e = 0 ∧ x = ⟨3,(true,[]),um0,am0,⟨5,true,[]⟩⟩ := by
 have n0 : numAt [0,20] 0 1 = 0 := by decide
 cases h with
 | bad h => exact (h cU_chk).elim
 | none _ m => exact absurd m (by decide)
 | long _ m => exact absurd m (by decide)
 | raw _ m => exact absurd m (by decide)
 | umE _ m => exact absurd m (by decide)
 | um _ m => exact absurd m (by decide)
 | stE _ _ _ _ e =>
  exact absurd (congrArg Prod.fst al_s) e
 | st _ _ _ _ ack ms e =>
  have := al_s.symm.trans e
  simp only [Prod.mk.injEq] at this
  obtain ⟨_,rfl,rfl⟩ := this
  exact ⟨rfl,rfl⟩
 | amE _ _ n => exact (n.elim (by simp) (fun h => h n0)).elim
 | am _ _ n => exact (n.elim (by simp) (fun h => h n0)).elim
theorem al_2 {z : Bool} {e : Nat} {x : Un} (h : ReadP cU (z,[128,5,65]) e x) : e = 0 ∧ x.kind = 2 ∧ x.am.sn = 5 := by
 have n0 : numAt [128,5,65] 0 1 = 1 := by decide
 cases h with
 | bad h => exact (h cU_chk).elim
 | none _ m => exact absurd m (by decide)
 | long _ m => exact absurd m (by decide)
 | raw _ m => exact absurd m (by decide)
 | umE _ m => exact absurd m (by decide)
 | um _ m => exact absurd m (by decide)
 | stE _ _ _ n => exact absurd (n0.symm.trans n) (by decide)
 | st _ _ _ n => exact absurd (n0.symm.trans n) (by decide)
 | amE _ _ _ e => exact absurd (congrArg Prod.fst al_r) e
 | am _ _ _ out e => exact ⟨rfl,rfl,congrArg (fun n : Nat => (n : Int)) al_sn⟩
def uK1 : Un := ⟨1,(true,[]),um0,am0,st0⟩
theorem al_3 {e : Nat} {out : List Nat} (h : WriteP cU uK1 e out) : e = 7 ∧ out = [] := by
 cases h with
 | bad h => exact (h cU_chk).elim
 | rawE _ m => exact absurd m (by decide)
 | raw _ m => exact absurd m (by decide)
 | umE _ m => exact absurd m (by decide)
 | um _ m => exact absurd m (by decide)
 | amE _ _ k => exact absurd k (by decide)
 | am _ _ k => exact absurd k (by decide)
 | stE _ _ k => exact absurd k (by decide)
 | st _ _ k => exact absurd k (by decide)
 | state => exact ⟨rfl,rfl⟩
set_option maxHeartbeats 1000000 in
theorem pAlive (H : Heap) : ∃ k,callW P f_q4 [] H = some (ab true,H ++ List.replicate k .other) := by
 have u1 := fun H => pdu_Usual2 H
 obtain ⟨e1,x1,k1,p1,c1⟩ := pdu_Read cU (false,[0,20]) (by decide) (show ∀ b ∈ [0,20],b < 256 from by decide) H
 obtain ⟨rfl,rfl⟩ := al_1 p1
 obtain ⟨G1,hG1⟩ : ∃ t,H ++ List.replicate k1 AObj.other = t := ⟨_,rfl⟩
 rw [hG1] at c1
 obtain ⟨e2,x2,k2,p2,c2⟩ := pdu_Read cU (false,[128,5,65]) (by decide) (show ∀ b ∈ [128,5,65],b < 256 from by decide) G1
 obtain ⟨rfl,q1,q2⟩ := al_2 p2
 rw [← hG1,oth_app,hG1] at c2
 obtain ⟨G2,hG2⟩ : ∃ t,H ++ List.replicate (k1 + k2) AObj.other = t := ⟨_,rfl⟩
 rw [hG2] at c2
 obtain ⟨e3,z3,out,k3,p3,c3⟩ := pdu_Write cU uK1 ⟨by decide,by decide,by decide,by decide,by decide,by decide⟩ G2
 obtain ⟨rfl,rfl⟩ := al_3 p3
 rw [← hG2,oth_app,hG2] at c3
 obtain ⟨G3,hG3⟩ : ∃ t,H ++ List.replicate (k1 + k2 + k3) AObj.other = t := ⟨_,rfl⟩
 rw [hG3] at c3
 have d1 := fun H => pdu_Check ⟨0,0,0,0,0,0,0,0,0,0⟩ H
 have d2 := fun H => pdu_Check ⟨3,0,0,0,0,0,0,0,0,0⟩ H
 have v1 : (Cfg.chk ⟨0,0,0,0,0,0,0,0,0,0⟩) = 1 := by decide
 have v2 : (Cfg.chk ⟨3,0,0,0,0,0,0,0,0,0⟩) = 9 := by decide
 rw [v1] at d1
 rw [v2] at d2
 obtain ⟨kk,r,um,⟨po,fi,sn,pa,la,off,z0,ff⟩,st⟩ := x2
 simp only at q1 q2
 subst q1 q2
 replace u1 : ∀ H,callW P f_q1 [ai 2] H = some (.agg [ai 2,ai 10,ai 512,ai 4,ai 8,ai 3,ai 4,ai 500,ai 4,ai 5000],H) := u1
 replace c1 : callW P f_q5 [.agg [ai 2,ai 10,ai 512,ai 4,ai 8,ai 3,ai 4,ai 500,ai 4,ai 5000],.vs 1 none [[.c (.int .u8 0)],[.c (.int .u8 20)]]] H = some (.tup [.agg [ai 3,nilS,ai 0,ai 0,nilS,ab false,ai 0,ai 0,ab false,ab false,ai 0,nilS,ai 5,nilS],ai 0],G1) := c1
 simp only [Un.v] at c2
 replace c2 : callW P f_q5 [.agg [ai 2,ai 10,ai 512,ai 4,ai 8,ai 3,ai 4,ai 500,ai 4,ai 5000],.vs 1 none [[.c (.int .u8 128)],[.c (.int .u8 5)],[.c (.int .u8 65)]]] G1 = some (.tup [.agg [ai 2,bv r,ai um.fi,ai um.sn,lst um.z 1 none (bvs um.ff),ab po,ai fi,ai 5,ab pa,ab la,ai off,lst z0 1 none (bvs ff),ai st.ack,lst st.z 4 none (mvs st.ms)],ai 0],G2) := c2
 replace c3 : callW P f_q6 [.agg [ai 2,ai 10,ai 512,ai 4,ai 8,ai 3,ai 4,ai 500,ai 4,ai 5000],.agg [ai 1,nilS,ai 0,ai 0,nilS,ab false,ai 0,ai 0,ab false,ab false,ai 0,nilS,ai 0,nilS]] G2 = some (.tup [bv (z3,[]),ai 7],G3) := c3
 replace d1 : ∀ H,callW P f_q9 [.agg [ai 0,ai 0,ai 0,ai 0,ai 0,ai 0,ai 0,ai 0,ai 0,ai 0]] H = some (ai 1,H) := d1
 replace d2 : ∀ H,callW P f_q9 [.agg [ai 3,ai 0,ai 0,ai 0,ai 0,ai 0,ai 0,ai 0,ai 0,ai 0]] H = some (ai 9,H) := d2
 refine ⟨k1 + k2 + k3,?_⟩
 clear p1 p2 p3 v1 v2
 rw [call_L 7 rfl (rfl : P.T f_q4 = some F_q4) (le_ok rfl)]; simp -implicitDefEqProofs [-toCells,-AV.one,-forget,F_q4,c_q4,u1,c1,c2,c3,d1,d2]
 rw [← hG3]
 simp
end Go.A.V.S

namespace Go.A.V.S
open Go Go.A
set_option linter.unusedSimpArgs false
set_option linter.unusedVariables false
theorem WrU_uniq {p : Um} {w : Nat} {a b : List Nat} (ha : WrU p w a) (hb : WrU p w b) : a = b := by
 obtain ⟨a1,a2,x1,x2,rfl⟩ := ha
 obtain ⟨b1,b2,y1,y2,rfl⟩ := hb
 rw [x1.uniq y1,x2.uniq y2]
theorem WrU_bytes {p : Um} {w : Nat} {a : List Nat} (ha : WrU p w a) (hf : BytesF p.ff) : Bytes a := by
 obtain ⟨a1,a2,x1,x2,rfl⟩ := ha
 intro b hb
 rcases List.mem_append.1 hb with hb | hb
 ·rcases List.mem_append.1 hb with hb | hb
  ·exact x1.byte b hb
  ·exact x2.byte b hb
 ·obtain ⟨f,hf1,hf2⟩ := List.mem_flatten.1 hb
  obtain ⟨c,hc,rfl⟩ := List.mem_map.1 hf1
  exact hf c hc b hf2
theorem ff_ne {ff : List Bs} (h : 1 ≤ ff.length) : bb ff ≠ [] := fun e => by
 have := congrArg List.length e
 rw [bb_len] at this
 simp at this
 rw [this] at h
 simp at h
theorem ff_le {ff : List Bs} {f : Bs} (hf : f ∈ ff) : f.2.length ≤ (bb ff).flatten.length := by
 rw [List.length_flatten]
 exact len_le_sum (List.mem_map_of_mem hf)
theorem sizeU_sm {p : Um} {w : Int} (h : sizeU p w ≠ 0) : p.ff.length ≤ 24 ∧ (∀ f ∈ p.ff,f.2.length ≤ 4000) ∧ sizeU p w ≤ 4000 := by
 obtain ⟨hw,hfi,hsn,hf1,hf24,hsz⟩ := sizeU_pos h
 obtain ⟨s1,s2,s3,s4⟩ := sumR_pos (bb p.ff) (baseU p w.toNat) (by rw [← hsz]; exact h)
 have h3 := s3 (ff_ne hf1)
 exact ⟨hf24,fun f hf => by have := ff_le hf; omega,by omega⟩
theorem sizeR_sm {p : Pk} {w : Int} (h : sizeR p w ≠ 0) : p.ff.length ≤ 24 ∧ (∀ f ∈ p.ff,f.2.length ≤ 4000) ∧ sizeR p w ≤ 4000 := by
 obtain ⟨hok,hw,hf1,hf24,hsz,hpz⟩ := sizeR_pos h
 obtain ⟨s1,s2,s3,s4⟩ := sumR_pos (bb p.ff) (base p w.toNat) (by rw [← hsz]; exact h)
 have h3 := s3 (ff_ne hf1)
 exact ⟨hf24,fun f hf => by have := ff_le hf; omega,by omega⟩
theorem ff_sub {ff : List Bs} {pre out : List Nat} (h : out = pre ++ (bb ff).flatten) (hby : Bytes out) : BytesF ff := fun f hf b hb => hby b (by
 rw [h]
 exact List.mem_append_right _ (List.mem_flatten.2 ⟨f.2,List.mem_map_of_mem hf,hb⟩))
theorem um0_b : BytesF um0.ff := by simp [um0,BytesF]
theorem am0_b : BytesF am0.ff := by simp [am0,BytesF]
theorem read_put {c : Cfg} {b : Bs} {e : Nat} {x : Un} (hb : b.2.length ≤ 8192) (hby : Bytes b.2) (h : ReadP c b e x) (he : e = 0) : x.sm ∧ x.ok ∧ ∀ e2 out,WriteP c x e2 out → e2 = 0 ∧ out = b.2 := by
 cases h with
 | bad h => exact (h he).elim
 | none => simp at he
 | long => simp at he
 | umE _ _ h => exact (h he).elim
 | stE _ _ _ _ h => exact (h he).elim
 | amE _ _ _ h => exact (h he).elim
 | raw h m l l2 =>
  refine ⟨⟨hb,by simp [um0],by simp [um0],by simp [am0],by simp [am0],by simp [st0]⟩,⟨hby,by simp [um0],by simp [am0],by simp [st0],um0_b,am0_b⟩,fun e2 out hw => ?_⟩
  cases hw with
  | bad h2 => exact (h2 h).elim
  | rawE _ _ _ l3 => simp only at l3; omega
  | raw => exact ⟨rfl,rfl⟩
  | umE _ m2 => omega
  | um _ m2 => omega
  | amE _ m2 => omega
  | am _ m2 => omega
  | stE _ m2 => omega
  | st _ m2 => omega
  | state _ n => exact (n ⟨m,rfl⟩).elim
 | um h m out e =>
  obtain ⟨a1,a2,a3⟩ := put_againU (q := umOf b.2 c.bits.toNat out) hby e ⟨rfl,rfl⟩
  have hne : sizeU (umOf b.2 c.bits.toNat out) c.bits ≠ 0 := by omega
  obtain ⟨t1,t2,t3⟩ := sizeU_sm hne
  have hbf : BytesF (umOf b.2 c.bits.toNat out).ff := by
   obtain ⟨hb1,lb,x1,x2,x3⟩ := a3
   exact ff_sub x3 hby
  refine ⟨⟨by simp,by simp only; omega,fun f hf => by have := t2 f hf; omega,by simp [am0],by simp [am0],by simp [st0]⟩,⟨by simp [Bytes],by simp only; omega,by simp [am0],by simp [st0],hbf,am0_b⟩,fun e2 out2 hw => ?_⟩
  cases hw with
  | bad h2 => exact (h2 h).elim
  | rawE _ m2 => omega
  | raw _ m2 => omega
  | umE _ _ _ z => exact (hne z).elim
  | um _ _ _ _ o hw => exact ⟨rfl,WrU_uniq hw a3⟩
  | amE _ m2 => omega
  | am _ m2 => omega
  | stE _ m2 => omega
  | st _ m2 => omega
  | state _ _ n => exact (n ⟨m,rfl⟩).elim
 | am h m n out e =>
  obtain ⟨a1,a2,a3⟩ := put_again (q := amOf b.2 c.bits.toNat out) hby e ⟨rfl,rfl,rfl,rfl,rfl,rfl⟩
  have hne : sizeR (amOf b.2 c.bits.toNat out) c.bits ≠ 0 := by omega
  obtain ⟨t1,t2,t3⟩ := sizeR_sm hne
  have hbf : BytesF (amOf b.2 c.bits.toNat out).ff := by
   obtain ⟨hb1,lb,x1,x2,x3⟩ := a3
   exact ff_sub x3 hby
  refine ⟨⟨by simp,by simp [um0],by simp [um0],by simp only; omega,fun f hf => by have := t2 f hf; omega,by simp [st0]⟩,⟨by simp [Bytes],by simp [um0],by simp only; omega,by simp [st0],um0_b,hbf⟩,fun e2 out2 hw => ?_⟩
  cases hw with
  | bad h2 => exact (h2 h).elim
  | rawE _ m2 => omega
  | raw _ m2 => omega
  | umE _ m2 => omega
  | um _ m2 => omega
  | amE _ _ _ z => exact (hne z).elim
  | am _ _ _ _ o hw => exact ⟨rfl,WrB_uniq hw a3⟩
  | stE _ _ k => simp at k
  | st _ _ k => simp at k
  | state _ _ _ n => exact (n ⟨m,.inl rfl⟩).elim
 | st h m l n ack ms e =>
  obtain ⟨a1,a2,a3,a4,a5⟩ := put_againS hby true e
  have hms := (stOk_iff a4).2.1
  simp only at hms
  refine ⟨⟨by simp,by simp [um0],by simp [um0],by simp [am0],by simp [am0],by simp only; omega⟩,⟨by simp [Bytes],by simp [um0],by simp [am0],by simp only; omega,um0_b,am0_b⟩,fun e2 out2 hw => ?_⟩
  cases hw with
  | bad h2 => exact (h2 h).elim
  | rawE _ m2 => omega
  | raw _ m2 => omega
  | umE _ m2 => omega
  | um _ m2 => omega
  | amE _ _ k => simp at k
  | am _ _ k => simp at k
  | stE _ _ _ z =>
   simp only at z
   rw [a4] at z; simp at z
  | st _ _ _ _ o hw => exact ⟨rfl,hw.uniq a5⟩
  | state _ _ _ n => exact (n ⟨m,.inr rfl⟩).elim
theorem sBits_le {s : St} {w : Nat} (hw : w = 10 ∨ w = 16) (h : stOk s w = true) : (sBits s w).length ≤ 1700 := by
 have h2 := (stOk_iff h).2.1
 have h3 := msBits_len hw s.ms
 simp only [sBits,List.length_append,bitsOf_len,List.length_cons,List.length_nil]
 omega
theorem toN_w {w : Int} (hw : w = 10 ∨ w = 16) : w.toNat = 10 ∨ w.toNat = 16 := by omega
theorem write_ok {c : Cfg} {u : Un} {e : Nat} {out : List Nat} (hok : u.ok) (h : WriteP c u e out) : Bytes out ∧ out.length ≤ 4000 ∧ (e ≠ 0 → out = []) := by
 cases h with
 | bad | rawE | umE | amE | stE | state => exact ⟨by simp [Bytes],by simp,fun _ => rfl⟩
 | raw _ _ _ l l2 => exact ⟨hok.r,by omega,fun h => (h rfl).elim⟩
 | um _ _ _ e _ w => exact ⟨WrU_bytes w hok.ub,by rw [(read_backU e w).2.1]; exact (sizeU_sm e).2.2,fun h => (h rfl).elim⟩
 | am _ _ _ e _ w => exact ⟨WrB_bytes w hok.ab,by rw [(read_back e w).2.1]; exact (sizeR_sm e).2.2,fun h => (h rfl).elim⟩
 | st h m _ e _ w =>
  have h1 := sBits_le (toN_w (chk_am h m)) e
  have h2 := w.len
  exact ⟨w.byte,by omega,fun h => (h rfl).elim⟩
def Un.plain (u : Un) : Un := ⟨u.kind,if u.kind = 0 then u.raw else (true,[]),if u.kind = 1 then u.um else um0,if u.kind = 2 then u.am else am0,if u.kind = 3 then u.st else st0⟩
theorem back_read {c : Cfg} {u v : Un} {e e2 : Nat} {z : Bool} {out : List Nat} (hw : WriteP c u e out) (he : e = 0) (hr : ReadP c (z,out) e2 v) : e2 = 0 ∧ v.n.eq u.plain.n = true ∧ (u.kind = 0 ∨ u.kind = 1 ∨ u.kind = 2 ∨ u.kind = 3) := by
 cases hw with
 | bad h => exact (h he).elim
 | rawE | umE | amE | stE | state => simp at he
 | raw h m k l l2 =>
  cases hr with
  | bad h2 => exact (h2 h).elim
  | none _ _ l3 => exact (l l3).elim
  | long _ _ l3 => simp only at l3; omega
  | raw => exact ⟨rfl,by simp [Un.eq,Un.n,Un.plain,k,Um.eq,Pk.eq,St.eq],.inl k⟩
  | umE _ m2 => omega
  | um _ m2 => omega
  | amE _ m2 => omega
  | am _ m2 => omega
  | stE _ m2 => omega
  | st _ m2 => omega
 | um h m k e3 o w =>
  obtain ⟨b1,b2,b3,b4⟩ := read_backU e3 w
  cases hr with
  | bad h2 => exact (h2 h).elim
  | none _ m2 => omega
  | long _ m2 => omega
  | raw _ m2 => omega
  | umE _ _ e4 => exact (e4 (congrArg Prod.fst b1)).elim
  | um _ _ out2 e4 =>
   have h2 := congrArg Prod.snd (b1.symm.trans e4)
   simp only at h2
   exact ⟨rfl,by simp [Un.eq,Un.n,Un.plain,k,Um.eq,Pk.eq,St.eq,umOf,b3,b4,h2],.inr (.inl k)⟩
  | amE _ m2 => omega
  | am _ m2 => omega
  | stE _ m2 => omega
  | st _ m2 => omega
 | am h m k e3 o w =>
  obtain ⟨b1,b2,b3⟩ := read_back e3 w
  have hn := (readR_ok b1).2.2.1
  cases hr with
  | bad h2 => exact (h2 h).elim
  | none _ m2 => omega
  | long _ m2 => omega
  | raw _ m2 => omega
  | umE _ m2 => omega
  | um _ m2 => omega
  | amE _ _ _ e4 => exact (e4 (congrArg Prod.fst b1)).elim
  | am _ _ _ out2 e4 =>
   have h2 := congrArg Prod.snd (b1.symm.trans e4)
   simp only at h2
   have h3 := b3 nilS
   simp only [hPkt,pktV,List.cons.injEq,AV.c.injEq,Value.bool.injEq,Value.int.injEq,true_and,and_true] at h3
   obtain ⟨h3,h4,h5,h6,h7,h8⟩ := h3
   exact ⟨rfl,by simp [Un.eq,Un.n,Un.plain,k,Um.eq,Pk.eq,St.eq,amOf,h2,h3,h4,h5,h6,h7,h8],.inr (.inr (.inl k))⟩
  | stE _ _ _ n => exact (hn n).elim
  | st _ _ _ n => exact (hn n).elim
 | st h m k e3 o w =>
  obtain ⟨b1,b2,b3,b4⟩ := read_backS (chk_am h m) e3 w
  cases hr with
  | bad h2 => exact (h2 h).elim
  | none _ m2 => omega
  | long _ m2 => omega
  | raw _ m2 => omega
  | umE _ m2 => omega
  | um _ m2 => omega
  | amE _ _ n => exact (n.elim b2 (fun n => n b3)).elim
  | am _ _ n => exact (n.elim b2 (fun n => n b3)).elim
  | stE _ _ _ _ e4 => exact (e4 (congrArg Prod.fst b1)).elim
  | st _ _ _ _ ack ms e4 =>
   have h2 := b1.symm.trans e4
   simp only [Prod.mk.injEq,true_and] at h2
   obtain ⟨h2,h3⟩ := h2
   have h4 : (ack : Int) = u.st.ack := by omega
   exact ⟨rfl,by simp [Un.eq,Un.n,Un.plain,k,Um.eq,Pk.eq,St.eq,h3,h4],.inr (.inr (.inr k))⟩
end Go.A.V.S

namespace Go.A.V.S
open Go Go.A
set_option linter.unusedSimpArgs false
set_option linter.unusedVariables false
end Go.A.V.S

namespace Go.A.V.S
open Go Go.A
set_option linter.unusedSimpArgs false
set_option linter.unusedVariables false
section
variable {c : Cfg} {b y : Bs} {u x v : Un} {H G G1 G2 G3 G4 N : Heap} {n e e4 : Nat} {z2 z3 : Bool}
structure BkA (c : Cfg) (b : Bs) (u x : Un) (H G1 : Heap) (e n : Nat) : Prop where
 hlen : lenW (bv b) = some n
 h41 : n ≤ 4100
 hGr : ∀ H,callW P f_q3 [.agg u.v] H = some (ab false,H)
 c1 : callW P f_q5 [.agg c.v,bv b] H = some (.tup [.agg x.v,ai e],G1)
structure BkX (c : Cfg) (b : Bs) (x : Un) (G1 G2 : Heap) (z2 : Bool) : Prop where
 c2 : callW P f_q6 [.agg c.v,.agg x.v] G1 = some (.tup [lst z2 1 none (byteCs b.2),ai 0],G2)
 hs2 : ∀ H f,strV H (lst z2 1 f (byteCs b.2)) = some (.c (.string (strB b.2)))
 hs : ∀ H,strV H (bv b) = some (.c (.string (strB b.2)))
 hst : binA .neq .no (.c (.string (strB b.2))) (.c (.string (strB b.2))) = some (ab false)
structure BkN (G H N : Heap) : Prop where
 hA : callW P f_q4 [] G = some (ab true,H ++ N)
 hNl : List.replicate N.length AObj.other = N
structure BkZ (c : Cfg) (u v : Un) (y : Bs) (G2 G3 G4 : Heap) : Prop where
 c3 : callW P f_q6 [.agg c.v,.agg u.v] G2 = some (.tup [bv y,ai 0],G3)
 c4 : callW P f_q5 [.agg c.v,bv y] G3 = some (.tup [.agg v.v,ai 0],G4)
 a1 : ∀ H,callW P f_q8 [.agg v.v] H = some (.agg v.n.v,H)
 a2 : ∀ H,callW P f_q8 [.agg u.plain.v] H = some (.agg u.plain.n.v,H)
 a3 : ∀ H,callW P f_q7 [.agg v.n.v,.agg u.plain.n.v] H = some (ab true,H)
theorem plain_v0 (h : u.kind = 0) : u.plain.v = [ai 0,bv u.raw,ai 0,ai 0,nilS,ab false,ai 0,ai 0,ab false,ab false,ai 0,nilS,ai 0,nilS] := by
 obtain ⟨_,_,_,_,_⟩ := u; cases h; rfl
theorem plain_n0 (h : u.kind = 0) : u.plain.n.v = [ai 0,bv u.raw,ai 0,ai 0,nilS,ab false,ai 0,ai 0,ab false,ab false,ai 0,nilS,ai 0,nilS] := by
 obtain ⟨_,_,_,_,_⟩ := u; cases h; rfl
theorem plain_v1 (h : u.kind = 1) : u.plain.v = [ai 1,nilS,ai u.um.fi,ai u.um.sn,lst u.um.z 1 none (bvs u.um.ff),ab false,ai 0,ai 0,ab false,ab false,ai 0,nilS,ai 0,nilS] := by
 obtain ⟨_,_,_,_,_⟩ := u; cases h; rfl
theorem plain_n1 (h : u.kind = 1) : u.plain.n.v = [ai 1,nilS,ai u.um.fi,ai u.um.sn,lst u.um.z 1 none (bvs u.um.ff),ab false,ai 0,ai 0,ab false,ab false,ai 0,nilS,ai 0,nilS] := by
 obtain ⟨_,_,_,_,_⟩ := u; cases h; rfl
theorem plain_v2 (h : u.kind = 2) : u.plain.v = [ai 2,nilS,ai 0,ai 0,nilS,ab u.am.poll,ai u.am.fi,ai u.am.sn,ab u.am.part,ab u.am.last,ai u.am.off,lst u.am.z 1 none (bvs u.am.ff),ai 0,nilS] := by
 obtain ⟨_,_,_,_,_⟩ := u; cases h; rfl
theorem plain_n2 (h : u.kind = 2) : u.plain.n.v = [ai 2,nilS,ai 0,ai 0,nilS,ab u.am.poll,ai u.am.fi,ai u.am.sn,ab u.am.part,ab u.am.last,ai u.am.off,lst u.am.z 1 none (bvs u.am.ff),ai 0,nilS] := by
 obtain ⟨_,_,_,_,_⟩ := u; cases h; rfl
theorem plain_v3 (h : u.kind = 3) : u.plain.v = [ai 3,nilS,ai 0,ai 0,nilS,ab false,ai 0,ai 0,ab false,ab false,ai 0,nilS,ai u.st.ack,lst u.st.z 4 none (mvs u.st.ms)] := by
 obtain ⟨_,_,_,_,_⟩ := u; cases h; rfl
theorem plain_n3 (h : u.kind = 3) : u.plain.n.v = [ai 3,nilS,ai 0,ai 0,nilS,ab false,ai 0,ai 0,ab false,ab false,ai 0,nilS,ai u.st.ack,lst true 4 none (mvs u.st.ms)] := by
 obtain ⟨_,_,_,_,_⟩ := u; cases h; rfl
set_option maxHeartbeats 1000000 in
theorem pb_eq_E (A : BkA c b u x H G1 e n) (he : e = 0) (X : BkX c b x G1 G2 z2) (M : BkN G3 H N) (he4 : e4 ≠ 0) (c3 : callW P f_q6 [.agg c.v,.agg u.v] G2 = some (.tup [bv (z3,[]),ai e4],G3)) : callW P f_q0 [.agg c.v,bv b,.agg u.v] H = some (ab true,H ++ N) := by
 obtain ⟨hlen,h41,hGr,c1⟩ := A
 obtain ⟨hA,hNl⟩ := M
 have h1 : ¬ (n : Int) > 4100 := by omega
 have h2 : ¬ (4100 : Int) < n := by omega
 have h3 : ¬ 4100 < n := by omega
 obtain ⟨c2,hs2,hs,hst⟩ := X
 subst he
 replace c1 : callW P f_q5 [.agg c.v,bv b] H = some (.tup [.agg x.v,ai 0],G1) := c1
 have he4' : ¬ (e4 : Int) = 0 := by omega
 have hb3 : lenW (bv (z3,[])) = some 0 := bv_len (z3,[])
 simp only [Cfg.v,Un.v] at hGr c1 c2 c3 ⊢
 rw [call_L 7 rfl (rfl : P.T f_q0 = some F_q0) (le_ok rfl)]; simp -implicitDefEqProofs [-toCells,-AV.one,-forget,F_q0,c_q0,hlen,h1,h2,h3,hGr,c1,c2,hs,hs2,hst,c3,he4,he4',hb3,hA,hNl]
set_option maxHeartbeats 1000000 in
theorem pb_eq_0 (A : BkA c b u x H G1 e n) (he : e = 0) (X : BkX c b x G1 G2 z2) (M : BkN G4 H N) (Z : BkZ c u v y G2 G3 G4) (hk : u.kind = 0) : callW P f_q0 [.agg c.v,bv b,.agg u.v] H = some (ab true,H ++ N) := by
 obtain ⟨hlen,h41,hGr,c1⟩ := A
 obtain ⟨hA,hNl⟩ := M
 have h1 : ¬ (n : Int) > 4100 := by omega
 have h2 : ¬ (4100 : Int) < n := by omega
 have h3 : ¬ 4100 < n := by omega
 obtain ⟨c2,hs2,hs,hst⟩ := X
 subst he
 replace c1 : callW P f_q5 [.agg c.v,bv b] H = some (.tup [.agg x.v,ai 0],G1) := c1
 obtain ⟨c3,c4,a1,a2,a3⟩ := Z
 rw [plain_v0 hk,plain_n0 hk] at a2
 rw [plain_n0 hk] at a3
 have sv : selfE (bv v.raw) = true := selfE_lst _ _ _ _
 have su : selfE (bv u.raw) = true := selfE_lst _ _ _ _
 simp only [Cfg.v,Un.v,Un.n,hk] at hGr c1 c2 c3 c4 a1 a3 ⊢
 rw [call_L 7 rfl (rfl : P.T f_q0 = some F_q0) (le_ok rfl)]; simp -implicitDefEqProofs [-toCells,-AV.one,-forget,F_q0,c_q0,hlen,h1,h2,h3,hGr,c1,c2,hs,hs2,hst,c3,c4,hA,hNl,a1,a2,a3,sv,su,keepB,-goodB,goodB_L,sameV,dstNot,dstNe,SOpG.reads,SOp.slots,SX.slots,SOp.noL,rdV_load,selfE_lst,selfE,selfEs,eqV]
set_option maxHeartbeats 1000000 in
theorem pb_eq_1 (A : BkA c b u x H G1 e n) (he : e = 0) (X : BkX c b x G1 G2 z2) (M : BkN G4 H N) (Z : BkZ c u v y G2 G3 G4) (hk : u.kind = 1) : callW P f_q0 [.agg c.v,bv b,.agg u.v] H = some (ab true,H ++ N) := by
 obtain ⟨hlen,h41,hGr,c1⟩ := A
 obtain ⟨hA,hNl⟩ := M
 have h1 : ¬ (n : Int) > 4100 := by omega
 have h2 : ¬ (4100 : Int) < n := by omega
 have h3 : ¬ 4100 < n := by omega
 obtain ⟨c2,hs2,hs,hst⟩ := X
 subst he
 replace c1 : callW P f_q5 [.agg c.v,bv b] H = some (.tup [.agg x.v,ai 0],G1) := c1
 obtain ⟨c3,c4,a1,a2,a3⟩ := Z
 rw [plain_v1 hk,plain_n1 hk] at a2
 rw [plain_n1 hk] at a3
 have sv : selfE (bv v.raw) = true := selfE_lst _ _ _ _
 have su : selfE (bv u.raw) = true := selfE_lst _ _ _ _
 simp only [Cfg.v,Un.v,Un.n,hk] at hGr c1 c2 c3 c4 a1 a3 ⊢
 rw [call_L 7 rfl (rfl : P.T f_q0 = some F_q0) (le_ok rfl)]; simp -implicitDefEqProofs [-toCells,-AV.one,-forget,F_q0,c_q0,hlen,h1,h2,h3,hGr,c1,c2,hs,hs2,hst,c3,c4,hA,hNl,a1,a2,a3,sv,su,keepB,-goodB,goodB_L,sameV,dstNot,dstNe,SOpG.reads,SOp.slots,SX.slots,SOp.noL,rdV_load,selfE_lst,selfE,selfEs,eqV]
set_option maxHeartbeats 1000000 in
theorem pb_eq_2 (A : BkA c b u x H G1 e n) (he : e = 0) (X : BkX c b x G1 G2 z2) (M : BkN G4 H N) (Z : BkZ c u v y G2 G3 G4) (hk : u.kind = 2) : callW P f_q0 [.agg c.v,bv b,.agg u.v] H = some (ab true,H ++ N) := by
 obtain ⟨hlen,h41,hGr,c1⟩ := A
 obtain ⟨hA,hNl⟩ := M
 have h1 : ¬ (n : Int) > 4100 := by omega
 have h2 : ¬ (4100 : Int) < n := by omega
 have h3 : ¬ 4100 < n := by omega
 obtain ⟨c2,hs2,hs,hst⟩ := X
 subst he
 replace c1 : callW P f_q5 [.agg c.v,bv b] H = some (.tup [.agg x.v,ai 0],G1) := c1
 obtain ⟨c3,c4,a1,a2,a3⟩ := Z
 rw [plain_v2 hk,plain_n2 hk] at a2
 rw [plain_n2 hk] at a3
 have sv : selfE (bv v.raw) = true := selfE_lst _ _ _ _
 have su : selfE (bv u.raw) = true := selfE_lst _ _ _ _
 simp only [Cfg.v,Un.v,Un.n,hk] at hGr c1 c2 c3 c4 a1 a3 ⊢
 rw [call_L 7 rfl (rfl : P.T f_q0 = some F_q0) (le_ok rfl)]; simp -implicitDefEqProofs [-toCells,-AV.one,-forget,F_q0,c_q0,hlen,h1,h2,h3,hGr,c1,c2,hs,hs2,hst,c3,c4,hA,hNl,a1,a2,a3,sv,su,keepB,-goodB,goodB_L,sameV,dstNot,dstNe,SOpG.reads,SOp.slots,SX.slots,SOp.noL,rdV_load,selfE_lst,selfE,selfEs,eqV]
set_option maxHeartbeats 1000000 in
theorem pb_eq_3 (A : BkA c b u x H G1 e n) (he : e = 0) (X : BkX c b x G1 G2 z2) (M : BkN G4 H N) (Z : BkZ c u v y G2 G3 G4) (hk : u.kind = 3) : callW P f_q0 [.agg c.v,bv b,.agg u.v] H = some (ab true,H ++ N) := by
 obtain ⟨hlen,h41,hGr,c1⟩ := A
 obtain ⟨hA,hNl⟩ := M
 have h1 : ¬ (n : Int) > 4100 := by omega
 have h2 : ¬ (4100 : Int) < n := by omega
 have h3 : ¬ 4100 < n := by omega
 obtain ⟨c2,hs2,hs,hst⟩ := X
 subst he
 replace c1 : callW P f_q5 [.agg c.v,bv b] H = some (.tup [.agg x.v,ai 0],G1) := c1
 obtain ⟨c3,c4,a1,a2,a3⟩ := Z
 rw [plain_v3 hk,plain_n3 hk] at a2
 rw [plain_n3 hk] at a3
 have sv : selfE (bv v.raw) = true := selfE_lst _ _ _ _
 have su : selfE (bv u.raw) = true := selfE_lst _ _ _ _
 simp only [Cfg.v,Un.v,Un.n,hk] at hGr c1 c2 c3 c4 a1 a3 ⊢
 rw [call_L 7 rfl (rfl : P.T f_q0 = some F_q0) (le_ok rfl)]; simp -implicitDefEqProofs [-toCells,-AV.one,-forget,F_q0,c_q0,hlen,h1,h2,h3,hGr,c1,c2,hs,hs2,hst,c3,c4,hA,hNl,a1,a2,a3,sv,su,keepB,-goodB,goodB_L,sameV,dstNot,dstNe,SOpG.reads,SOp.slots,SX.slots,SOp.noL,rdV_load,selfE_lst,selfE,selfEs,eqV]
set_option maxHeartbeats 1000000 in
theorem pb_ne_E (A : BkA c b u x H G1 e n) (he : e ≠ 0) (hG : G2 = G1) (M : BkN G3 H N) (he4 : e4 ≠ 0) (c3 : callW P f_q6 [.agg c.v,.agg u.v] G2 = some (.tup [bv (z3,[]),ai e4],G3)) : callW P f_q0 [.agg c.v,bv b,.agg u.v] H = some (ab true,H ++ N) := by
 obtain ⟨hlen,h41,hGr,c1⟩ := A
 obtain ⟨hA,hNl⟩ := M
 have h1 : ¬ (n : Int) > 4100 := by omega
 have h2 : ¬ (4100 : Int) < n := by omega
 have h3 : ¬ 4100 < n := by omega
 subst hG
 have he' : ¬ (e : Int) = 0 := by omega
 have he4' : ¬ (e4 : Int) = 0 := by omega
 have hb3 : lenW (bv (z3,[])) = some 0 := bv_len (z3,[])
 simp only [Cfg.v,Un.v] at hGr c1 c3 ⊢
 rw [call_L 7 rfl (rfl : P.T f_q0 = some F_q0) (le_ok rfl)]; simp -implicitDefEqProofs [-toCells,-AV.one,-forget,F_q0,c_q0,hlen,h1,h2,h3,hGr,c1,he,he',c3,he4,he4',hb3,hA,hNl]
set_option maxHeartbeats 1000000 in
theorem pb_ne_0 (A : BkA c b u x H G1 e n) (he : e ≠ 0) (hG : G2 = G1) (M : BkN G4 H N) (Z : BkZ c u v y G2 G3 G4) (hk : u.kind = 0) : callW P f_q0 [.agg c.v,bv b,.agg u.v] H = some (ab true,H ++ N) := by
 obtain ⟨hlen,h41,hGr,c1⟩ := A
 obtain ⟨hA,hNl⟩ := M
 have h1 : ¬ (n : Int) > 4100 := by omega
 have h2 : ¬ (4100 : Int) < n := by omega
 have h3 : ¬ 4100 < n := by omega
 subst hG
 have he' : ¬ (e : Int) = 0 := by omega
 obtain ⟨c3,c4,a1,a2,a3⟩ := Z
 rw [plain_v0 hk,plain_n0 hk] at a2
 rw [plain_n0 hk] at a3
 have sv : selfE (bv v.raw) = true := selfE_lst _ _ _ _
 have su : selfE (bv u.raw) = true := selfE_lst _ _ _ _
 simp only [Cfg.v,Un.v,Un.n,hk] at hGr c1 c3 c4 a1 a3 ⊢
 rw [call_L 7 rfl (rfl : P.T f_q0 = some F_q0) (le_ok rfl)]; simp -implicitDefEqProofs [-toCells,-AV.one,-forget,F_q0,c_q0,hlen,h1,h2,h3,hGr,c1,he,he',c3,c4,hA,hNl,a1,a2,a3,sv,su,keepB,-goodB,goodB_L,sameV,dstNot,dstNe,SOpG.reads,SOp.slots,SX.slots,SOp.noL,rdV_load,selfE_lst,selfE,selfEs,eqV]
set_option maxHeartbeats 1000000 in
theorem pb_ne_1 (A : BkA c b u x H G1 e n) (he : e ≠ 0) (hG : G2 = G1) (M : BkN G4 H N) (Z : BkZ c u v y G2 G3 G4) (hk : u.kind = 1) : callW P f_q0 [.agg c.v,bv b,.agg u.v] H = some (ab true,H ++ N) := by
 obtain ⟨hlen,h41,hGr,c1⟩ := A
 obtain ⟨hA,hNl⟩ := M
 have h1 : ¬ (n : Int) > 4100 := by omega
 have h2 : ¬ (4100 : Int) < n := by omega
 have h3 : ¬ 4100 < n := by omega
 subst hG
 have he' : ¬ (e : Int) = 0 := by omega
 obtain ⟨c3,c4,a1,a2,a3⟩ := Z
 rw [plain_v1 hk,plain_n1 hk] at a2
 rw [plain_n1 hk] at a3
 have sv : selfE (bv v.raw) = true := selfE_lst _ _ _ _
 have su : selfE (bv u.raw) = true := selfE_lst _ _ _ _
 simp only [Cfg.v,Un.v,Un.n,hk] at hGr c1 c3 c4 a1 a3 ⊢
 rw [call_L 7 rfl (rfl : P.T f_q0 = some F_q0) (le_ok rfl)]; simp -implicitDefEqProofs [-toCells,-AV.one,-forget,F_q0,c_q0,hlen,h1,h2,h3,hGr,c1,he,he',c3,c4,hA,hNl,a1,a2,a3,sv,su,keepB,-goodB,goodB_L,sameV,dstNot,dstNe,SOpG.reads,SOp.slots,SX.slots,SOp.noL,rdV_load,selfE_lst,selfE,selfEs,eqV]
set_option maxHeartbeats 1000000 in
theorem pb_ne_2 (A : BkA c b u x H G1 e n) (he : e ≠ 0) (hG : G2 = G1) (M : BkN G4 H N) (Z : BkZ c u v y G2 G3 G4) (hk : u.kind = 2) : callW P f_q0 [.agg c.v,bv b,.agg u.v] H = some (ab true,H ++ N) := by
 obtain ⟨hlen,h41,hGr,c1⟩ := A
 obtain ⟨hA,hNl⟩ := M
 have h1 : ¬ (n : Int) > 4100 := by omega
 have h2 : ¬ (4100 : Int) < n := by omega
 have h3 : ¬ 4100 < n := by omega
 subst hG
 have he' : ¬ (e : Int) = 0 := by omega
 obtain ⟨c3,c4,a1,a2,a3⟩ := Z
 rw [plain_v2 hk,plain_n2 hk] at a2
 rw [plain_n2 hk] at a3
 have sv : selfE (bv v.raw) = true := selfE_lst _ _ _ _
 have su : selfE (bv u.raw) = true := selfE_lst _ _ _ _
 simp only [Cfg.v,Un.v,Un.n,hk] at hGr c1 c3 c4 a1 a3 ⊢
 rw [call_L 7 rfl (rfl : P.T f_q0 = some F_q0) (le_ok rfl)]; simp -implicitDefEqProofs [-toCells,-AV.one,-forget,F_q0,c_q0,hlen,h1,h2,h3,hGr,c1,he,he',c3,c4,hA,hNl,a1,a2,a3,sv,su,keepB,-goodB,goodB_L,sameV,dstNot,dstNe,SOpG.reads,SOp.slots,SX.slots,SOp.noL,rdV_load,selfE_lst,selfE,selfEs,eqV]
set_option maxHeartbeats 1000000 in
theorem pb_ne_3 (A : BkA c b u x H G1 e n) (he : e ≠ 0) (hG : G2 = G1) (M : BkN G4 H N) (Z : BkZ c u v y G2 G3 G4) (hk : u.kind = 3) : callW P f_q0 [.agg c.v,bv b,.agg u.v] H = some (ab true,H ++ N) := by
 obtain ⟨hlen,h41,hGr,c1⟩ := A
 obtain ⟨hA,hNl⟩ := M
 have h1 : ¬ (n : Int) > 4100 := by omega
 have h2 : ¬ (4100 : Int) < n := by omega
 have h3 : ¬ 4100 < n := by omega
 subst hG
 have he' : ¬ (e : Int) = 0 := by omega
 obtain ⟨c3,c4,a1,a2,a3⟩ := Z
 rw [plain_v3 hk,plain_n3 hk] at a2
 rw [plain_n3 hk] at a3
 have sv : selfE (bv v.raw) = true := selfE_lst _ _ _ _
 have su : selfE (bv u.raw) = true := selfE_lst _ _ _ _
 simp only [Cfg.v,Un.v,Un.n,hk] at hGr c1 c3 c4 a1 a3 ⊢
 rw [call_L 7 rfl (rfl : P.T f_q0 = some F_q0) (le_ok rfl)]; simp -implicitDefEqProofs [-toCells,-AV.one,-forget,F_q0,c_q0,hlen,h1,h2,h3,hGr,c1,he,he',c3,c4,hA,hNl,a1,a2,a3,sv,su,keepB,-goodB,goodB_L,sameV,dstNot,dstNe,SOpG.reads,SOp.slots,SX.slots,SOp.noL,rdV_load,selfE_lst,selfE,selfEs,eqV]
theorem pb_long (hlen : lenW (bv b) = some n) (h41 : 4100 < n) (M : BkN H H N) : callW P f_q0 [.agg c.v,bv b,.agg u.v] H = some (ab true,H ++ N) := by
 obtain ⟨hA,hNl⟩ := M
 have h1 : (n : Int) > 4100 := by omega
 have h2 : (4100 : Int) < n := by omega
 simp only [Cfg.v,Un.v]
 rw [call_L 7 rfl (rfl : P.T f_q0 = some F_q0) (le_ok rfl)]; simp -implicitDefEqProofs [-toCells,-AV.one,-forget,F_q0,c_q0,hlen,h41,h1,h2,hA,hNl]
theorem pb_great (hlen : lenW (bv b) = some n) (h41 : ¬ 4100 < n) (hGr : ∀ H,callW P f_q3 [.agg u.v] H = some (ab true,H)) (M : BkN H H N) : callW P f_q0 [.agg c.v,bv b,.agg u.v] H = some (ab true,H ++ N) := by
 obtain ⟨hA,hNl⟩ := M
 have h1 : ¬ (n : Int) > 4100 := by omega
 have h2 : ¬ (4100 : Int) < n := by omega
 simp only [Cfg.v,Un.v] at hGr ⊢
 rw [call_L 7 rfl (rfl : P.T f_q0 = some F_q0) (le_ok rfl)]; simp -implicitDefEqProofs [-toCells,-AV.one,-forget,F_q0,c_q0,hlen,h41,h1,h2,hGr,hA,hNl]
end
end Go.A.V.S

namespace Go.A.V.S
open Go Go.A
set_option linter.unusedSimpArgs false
set_option linter.unusedVariables false
theorem gr_sm {ff : List Bs} (h : greatR ff = false) : ff.length ≤ 1000 ∧ ∀ f ∈ ff,f.2.length ≤ 8192 := by
 have hgr := gr_false h
 refine ⟨?_,fun f hf => by have := hgr.2.1 f.2 (List.mem_map_of_mem hf); omega⟩
 by_cases h0 : bb ff = []
 ·have := congrArg List.length h0
  rw [bb_len] at this; simp at this; rw [this]; simp
 ·have := hgr.1 h0; omega
theorem great_sm {u : Un} (h : u.great = false) : u.sm := by
 simp only [Un.great,Bool.or_eq_false_iff,decide_eq_false_iff_not] at h
 obtain ⟨⟨⟨h1,h2⟩,h3⟩,h4⟩ := h
 exact ⟨by omega,(gr_sm h2).1,(gr_sm h2).2,(gr_sm h3).1,(gr_sm h3).2,by omega⟩
theorem n_ok {u : Un} (h : u.ok) : u.n.ok := ⟨h.r,h.uf,h.af,h.ms,h.ub,h.ab⟩
theorem plain_ok {u : Un} (h : u.ok) : u.plain.ok := by
 refine ⟨?_,?_,?_,?_,?_,?_⟩ <;> simp only [Un.plain] <;> split
 ·exact h.r
 ·simp [Bytes]
 ·exact h.uf
 ·simp [um0]
 ·exact h.af
 ·simp [am0]
 ·exact h.ms
 ·simp [st0]
 ·exact h.ub
 ·exact um0_b
 ·exact h.ab
 ·exact am0_b
theorem hs2_of (b : List Nat) (z : Bool) (H : Heap) (f : Option Nat) : strV H (lst z 1 f (byteCs b)) = some (.c (.string (strB b))) := lst_str H z f b
set_option maxHeartbeats 1000000 in
theorem lPduBack (c : Cfg) (b : Bs) (u : Un) (hby : Bytes b.2) (hu : u.st.ms.length ≤ 1000 → u.um.ff.length ≤ 100000 → u.am.ff.length ≤ 100000 → u.ok) (H : Heap) :
  ∃ k,callW P f_q0 [.agg c.v,bv b,.agg u.v] H = some (ab true,H ++ List.replicate k .other) := by
 have hlen := bv_len b
 have hGr := fun H => lUGreat u H
 by_cases h41 : 4100 < b.2.length
 ·obtain ⟨k,hA⟩ := pAlive H
  exact ⟨k,pb_long hlen h41 ⟨hA,by simp⟩⟩
 cases hg : u.great with
 | true =>
  rw [hg] at hGr
  obtain ⟨k,hA⟩ := pAlive H
  exact ⟨k,pb_great hlen h41 hGr ⟨hA,by simp⟩⟩
 | false =>
 rw [hg] at hGr
 have hsm := great_sm hg
 have hok := hu hsm.ms (by have := hsm.uf; omega) (by have := hsm.af; omega)
 obtain ⟨e,x,k1,p1,c1⟩ := pdu_Read c b (by omega) hby H
 obtain ⟨G1,hG1⟩ : ∃ t,H ++ List.replicate k1 AObj.other = t := ⟨_,rfl⟩
 rw [hG1] at c1
 have A : BkA c b u x H G1 e b.2.length := ⟨hlen,by omega,hGr,c1⟩
 have hs := fun H => bv_str H b
 have hst := binA_strNe .no hby hby
 rw [decide_eq_true rfl] at hst
 have hX : ∃ k2,(e ≠ 0 ∧ k2 = 0) ∨ (e = 0 ∧ ∃ z2,callW P f_q6 [.agg c.v,.agg x.v] G1 = some (.tup [bv (z2,b.2),ai 0],H ++ List.replicate (k1 + k2) .other)) := by
  by_cases he : e = 0
  ·obtain ⟨s1,s2,s3⟩ := read_put (by omega) hby p1 he
   obtain ⟨e2,z2,out,k2,w1,w2⟩ := pdu_Write c x s1 G1
   obtain ⟨rfl,rfl⟩ := s3 _ _ w1
   rw [← hG1,oth_app,hG1] at w2
   exact ⟨k2,.inr ⟨he,z2,w2⟩⟩
  ·exact ⟨0,.inl ⟨he,rfl⟩⟩
 obtain ⟨k2,hX⟩ := hX
 obtain ⟨G2,hG2⟩ : ∃ t,H ++ List.replicate (k1 + k2) AObj.other = t := ⟨_,rfl⟩
 rw [hG2] at hX
 have hX : (e ≠ 0 ∧ G2 = G1) ∨ (e = 0 ∧ ∃ z2,callW P f_q6 [.agg c.v,.agg x.v] G1 = some (.tup [bv (z2,b.2),ai 0],G2)) := hX.imp (fun h => ⟨h.1,by rw [← hG2,← hG1,h.2,Nat.add_zero]⟩) id
 obtain ⟨e4,z3,out,k3,w1,c3⟩ := pdu_Write c u hsm G2
 rw [← hG2,oth_app,hG2] at c3
 obtain ⟨G3,hG3⟩ : ∃ t,H ++ List.replicate (k1 + k2 + k3) AObj.other = t := ⟨_,rfl⟩
 rw [hG3] at c3
 obtain ⟨o1,o2,o3⟩ := write_ok hok w1
 by_cases he4 : e4 = 0
 ·obtain ⟨e5,v,k4,p2,c4⟩ := pdu_Read c (z3,out) (by simp only; omega) o1 G3
  rw [← hG3,oth_app,hG3] at c4
  obtain ⟨G4,hG4⟩ : ∃ t,H ++ List.replicate (k1 + k2 + k3 + k4) AObj.other = t := ⟨_,rfl⟩
  rw [hG4] at c4
  obtain ⟨f1,f2,f3⟩ := back_read w1 he4 p2
  obtain ⟨vs,vo,_⟩ := read_put (by simp only; omega) (show Bytes (z3,out).2 from o1) p2 f1
  obtain ⟨k5,hA⟩ := pAlive G4
  rw [← hG4,oth_app,hG4] at hA
  have a1 := fun H => lUAs v vs.ms H
  have pms : u.plain.st.ms.length ≤ 1000 := (plain_ok hok).ms
  have a2 := fun H => lUAs u.plain pms H
  have a3 := fun H => rUnSame v.n u.plain.n (n_ok vo) (n_ok (plain_ok hok)) H
  rw [f2] at a3
  refine ⟨k1 + k2 + k3 + k4 + k5,?_⟩
  subst he4 f1
  have M : BkN G4 H (List.replicate (k1 + k2 + k3 + k4 + k5) .other) := ⟨hA,by simp⟩
  have Z : BkZ c u v (z3,out) G2 G3 G4 := ⟨c3,c4,a1,a2,a3⟩
  rcases hX with ⟨he,hG⟩ | ⟨he,z2,c2⟩
  ·rcases f3 with h | h | h | h
   ·exact pb_ne_0 A he hG M Z h
   ·exact pb_ne_1 A he hG M Z h
   ·exact pb_ne_2 A he hG M Z h
   ·exact pb_ne_3 A he hG M Z h
  ·have X : BkX c b x G1 G2 z2 := ⟨c2,hs2_of b.2 z2,hs,hst⟩
   rcases f3 with h | h | h | h
   ·exact pb_eq_0 A he X M Z h
   ·exact pb_eq_1 A he X M Z h
   ·exact pb_eq_2 A he X M Z h
   ·exact pb_eq_3 A he X M Z h
 ·obtain ⟨k5,hA⟩ := pAlive G3
  rw [← hG3,oth_app,hG3] at hA
  refine ⟨k1 + k2 + k3 + k5,?_⟩
  have M : BkN G3 H (List.replicate (k1 + k2 + k3 + k5) .other) := ⟨hA,by simp⟩
  have := o3 he4
  subst this
  rcases hX with ⟨he,hG⟩ | ⟨he,z2,c2⟩
  ·exact pb_ne_E A he hG M he4 c3
  ·exact pb_eq_E A he ⟨c2,hs2_of b.2 z2,hs,hst⟩ M he4 c3
end Go.A.V.S

namespace Go.A.V.S
open Go Go.A Go.A.V
set_option linter.unusedSimpArgs false
set_option linter.unusedVariables false
theorem iss_cfg {vs : List AV} (h : V.CT.iss [.i .i64,.i .i64,.i .i64,.i .i64,.i .i64,.i .i64,.i .i64,.i .i64,.i .i64,.i .i64] vs) : ∃ c : Cfg,vs = c.v := by
 obtain ⟨c0,r0,rfl,h0,h⟩ := iss_cons h
 obtain ⟨c1,r1,rfl,h1,h⟩ := iss_cons h
 obtain ⟨c2,r2,rfl,h2,h⟩ := iss_cons h
 obtain ⟨c3,r3,rfl,h3,h⟩ := iss_cons h
 obtain ⟨c4,r4,rfl,h4,h⟩ := iss_cons h
 obtain ⟨c5,r5,rfl,h5,h⟩ := iss_cons h
 obtain ⟨c6,r6,rfl,h6,h⟩ := iss_cons h
 obtain ⟨c7,r7,rfl,h7,h⟩ := iss_cons h
 obtain ⟨c8,r8,rfl,h8,h⟩ := iss_cons h
 obtain ⟨c9,r9,rfl,h9,h⟩ := iss_cons h
 obtain rfl := iss_nil h
 obtain ⟨a0,rfl,_⟩ := is_i h0
 obtain ⟨a1,rfl,_⟩ := is_i h1
 obtain ⟨a2,rfl,_⟩ := is_i h2
 obtain ⟨a3,rfl,_⟩ := is_i h3
 obtain ⟨a4,rfl,_⟩ := is_i h4
 obtain ⟨a5,rfl,_⟩ := is_i h5
 obtain ⟨a6,rfl,_⟩ := is_i h6
 obtain ⟨a7,rfl,_⟩ := is_i h7
 obtain ⟨a8,rfl,_⟩ := is_i h8
 obtain ⟨a9,rfl,_⟩ := is_i h9
 exact ⟨⟨a0,a1,a2,a3,a4,a5,a6,a7,a8,a9⟩,rfl⟩
theorem isss_misses : ∀ (l : List (List AV)),(∀ cs ∈ l,V.CT.iss [.i .i64,.b,.i .i64,.i .i64] cs) → ∃ ms : List Ms,l = mvs ms
 | [],_ => ⟨[],rfl⟩
 | x :: r,h => by
  have h1 := h x (by simp)
  obtain ⟨c0,r0,rfl,h0,h1⟩ := iss_cons h1
  obtain ⟨c1,r1,rfl,h2,h1⟩ := iss_cons h1
  obtain ⟨c2,r2,rfl,h3,h1⟩ := iss_cons h1
  obtain ⟨c3,r3,rfl,h4,h1⟩ := iss_cons h1
  obtain rfl := iss_nil h1
  obtain ⟨a0,rfl,_⟩ := is_i h0
  obtain ⟨a1,rfl⟩ := is_b h2
  obtain ⟨a2,rfl,_⟩ := is_i h3
  obtain ⟨a3,rfl,_⟩ := is_i h4
  obtain ⟨ms,rfl⟩ := isss_misses r (fun cs hc => h cs (by simp [hc]))
  exact ⟨⟨a0,a1,a2,a3⟩ :: ms,rfl⟩
theorem is_misses {c : AV} (h : V.CT.is (.sl [.i .i64,.b,.i .i64,.i .i64]) c) : ∃ (z : Bool) (ms : List Ms),c = lst z 4 none (mvs ms) := by
 rw [V.CT.is] at h
 obtain ⟨z,l,rfl,hl⟩ := h
 obtain ⟨ms,rfl⟩ := isss_misses l hl
 exact ⟨z,ms,rfl⟩
theorem iss_un {vs : List AV} (h : V.CT.iss [.i .i64,.sl [.i .u8],.i .i64,.i .i64,.sl [.sl [.i .u8]],.b,.i .i64,.i .i64,.b,.b,.i .i64,.sl [.sl [.i .u8]],.i .i64,.sl [.i .i64,.b,.i .i64,.i .i64]] vs) :
  ∃ u : Un,vs = u.v ∧ (u.st.ms.length ≤ 1000 → u.um.ff.length ≤ 100000 → u.am.ff.length ≤ 100000 → u.ok) := by
 obtain ⟨c0,r0,rfl,h0,h⟩ := iss_cons h
 obtain ⟨c1,r1,rfl,h1,h⟩ := iss_cons h
 obtain ⟨c2,r2,rfl,h2,h⟩ := iss_cons h
 obtain ⟨c3,r3,rfl,h3,h⟩ := iss_cons h
 obtain ⟨c4,r4,rfl,h4,h⟩ := iss_cons h
 obtain ⟨am,rest,rfl,hpk,h⟩ : ∃ (p : Pk) (rest : List AV),r4 = p.v ++ rest ∧ BytesF p.ff ∧ V.CT.iss [.i .i64,.sl [.i .i64,.b,.i .i64,.i .i64]] rest := by
  obtain ⟨d0,q0,rfl,g0,h⟩ := iss_cons h
  obtain ⟨d1,q1,rfl,g1,h⟩ := iss_cons h
  obtain ⟨d2,q2,rfl,g2,h⟩ := iss_cons h
  obtain ⟨d3,q3,rfl,g3,h⟩ := iss_cons h
  obtain ⟨d4,q4,rfl,g4,h⟩ := iss_cons h
  obtain ⟨d5,q5,rfl,g5,h⟩ := iss_cons h
  obtain ⟨d6,q6,rfl,g6,hh⟩ := iss_cons h
  obtain ⟨po,rfl⟩ := is_b g0
  obtain ⟨fi,rfl,_⟩ := is_i g1
  obtain ⟨sn,rfl,_⟩ := is_i g2
  obtain ⟨pa,rfl⟩ := is_b g3
  obtain ⟨la,rfl⟩ := is_b g4
  obtain ⟨off,rfl,_⟩ := is_i g5
  obtain ⟨z,ff,rfl,hf⟩ := is_fields g6
  exact ⟨⟨po,fi,sn,pa,la,off,z,ff⟩,q6,rfl,hf,hh⟩
 obtain ⟨d0,q0,rfl,g0,h⟩ := iss_cons h
 obtain ⟨d1,q1,rfl,g1,h⟩ := iss_cons h
 obtain rfl := iss_nil h
 obtain ⟨k,rfl,_⟩ := is_i h0
 obtain ⟨b,rfl,hb⟩ := is_bytes h1
 obtain ⟨fi,rfl,_⟩ := is_i h2
 obtain ⟨sn,rfl,_⟩ := is_i h3
 obtain ⟨z,ff,rfl,hf⟩ := is_fields h4
 obtain ⟨ack,rfl,_⟩ := is_i g0
 obtain ⟨zm,ms,rfl⟩ := is_misses g1
 exact ⟨⟨k,b,⟨fi,sn,z,ff⟩,am,⟨ack,zm,ms⟩⟩,rfl,fun h1 h2 h3 => ⟨hb,h2,h3,h1,hf,hpk⟩⟩
theorem pduBack_all (u0 : List AV) (h0 : V.CT.iss [.i .i64,.i .i64,.i .i64,.i .i64,.i .i64,.i .i64,.i .i64,.i .i64,.i .i64,.i .i64] u0) (c1 : AV) (i1 : V.CT.is (.sl [.i .u8]) c1)
  (u2 : List AV) (h2 : V.CT.iss [.i .i64,.sl [.i .u8],.i .i64,.i .i64,.sl [.sl [.i .u8]],.b,.i .i64,.i .i64,.b,.b,.i .i64,.sl [.sl [.i .u8]],.i .i64,.sl [.i .i64,.b,.i .i64,.i .i64]] u2) :
  ∃ H',callW P f_q0 [.agg u0,c1,.agg u2] [] = some (ab true,H') := by
 obtain ⟨c,rfl⟩ := iss_cfg h0
 obtain ⟨b,rfl,hb⟩ := is_bytes i1
 obtain ⟨u,rfl,hu⟩ := iss_un h2
 obtain ⟨k,h⟩ := lPduBack c b u hb hu []
 exact ⟨_,h⟩
end Go.A.V.S
