/- Which configs may be. -/
import Derived.Test.YtnmobjhmohcjfaaXA
import Derived.Test.YtnmobjhmohcjfaaV14
import Derived.Test.YtnmobjhmohcjfaaXH
import Derived.Test.YtnmobjhmohcjfaaXD
set_option linter.unusedSimpArgs false
set_option linter.unusedVariables false
set_option linter.unnecessarySimpa false
namespace Go.A.V.S
open Go Go.A
set_option linter.unusedSimpArgs false
set_option linter.unusedVariables false
structure Cfg where
 mode : Int
 bits : Int
 window : Int
 reorder : Int
 pollRetx : Int
 prohibit : Int
 pollPDU : Int
 pollByte : Int
 maxRetx : Int
 queue : Int
def Cfg.v (c : Cfg) : List AV := [ai c.mode,ai c.bits,ai c.window,ai c.reorder,ai c.pollRetx,ai c.prohibit,ai c.pollPDU,ai c.pollByte,ai c.maxRetx,ai c.queue]
def inn (x : Int × Int × Int) : Bool := !decide (x.1 < x.2.1 ∨ x.1 > x.2.2)
def tri (x : Int × Int × Int) : List AV := [ai x.1,ai x.2.1,ai x.2.2]
def Cfg.tm (c : Cfg) : Bool := decide ([c.mode,c.bits,c.window,c.reorder,c.pollRetx,c.prohibit,c.pollPDU,c.pollByte,c.maxRetx,c.queue] = [0,0,0,0,0,0,0,0,0,c.queue])
def Cfg.plainUM (c : Cfg) : Bool := decide ([c.mode,c.bits,c.window,c.reorder,c.pollRetx,c.prohibit,c.pollPDU,c.pollByte,c.maxRetx,c.queue] = [1,c.bits,c.window,c.reorder,0,0,0,0,0,c.queue])
def Cfg.um (c : Cfg) : Bool := decide (c.bits = 5 ∨ c.bits = 10) && (c.plainUM && [(c.window,(1,if c.bits = 5 then 16 else 512)),(c.reorder,(1,1000))].all inn)
def Cfg.am (c : Cfg) : Bool := decide (c.bits = 10 ∨ c.bits = 16) && [(c.window,(1,if c.bits = 10 then 512 else 32768)),(c.reorder,(1,1000)),(c.pollRetx,(1,1000)),(c.prohibit,(0,1000)),(c.pollPDU,(1,1000)),(c.pollByte,(1,20000)),(c.maxRetx,(1,32))].all inn
def Cfg.chk (c : Cfg) : Nat :=
 if c.mode = 0 ∨ c.mode = 1 ∨ c.mode = 2 then (if (if c.mode = 0 then c.tm else if c.mode = 1 then c.um else c.am) && [(c.queue,((1 : Int),(20000 : Int)))].all inn then 0 else 1) else 9
theorem within_1 (a b c : Int) (H : Heap) : callW P f_q62 [.agg [ai a,ai b,ai c]] H = some (ab (!inn (a,b,c)),H) := by
 by_cases h1 : a < b
 ·rw [call_L 5 rfl (rfl : P.T f_q62 = some F_q62) (le_ok rfl)]; simp -implicitDefEqProofs (disch := first | omega | (simp; done) | fail) [-toCells,-AV.one,-forget,F_q62,c_q62,cmp_ilt,cmp_ilf,cmp_ile,cmp_ilg,cmp_ine,cmp_ieq,cmp_nlt,cmp_nlf,cmp_nle,cmp_nne,cmp_neq,wrap_i64,wrap_u64,wrap_u8,inn,h1]
 ·by_cases h2 : a > c
  ·have h2' : c < a := h2
   rw [call_L 5 rfl (rfl : P.T f_q62 = some F_q62) (le_ok rfl)]; simp -implicitDefEqProofs (disch := first | omega | (simp; done) | fail) [-toCells,-AV.one,-forget,F_q62,c_q62,cmp_ilt,cmp_ilf,cmp_ile,cmp_ilg,cmp_ine,cmp_ieq,cmp_nlt,cmp_nlf,cmp_nle,cmp_nne,cmp_neq,wrap_i64,wrap_u64,wrap_u8,inn,h1,h2,h2']
  ·have h2' : ¬ c < a := h2
   rw [call_L 5 rfl (rfl : P.T f_q62 = some F_q62) (le_ok rfl)]; simp -implicitDefEqProofs (disch := first | omega | (simp; done) | fail) [-toCells,-AV.one,-forget,F_q62,c_q62,cmp_ilt,cmp_ilf,cmp_ile,cmp_ilg,cmp_ine,cmp_ieq,cmp_nlt,cmp_nlf,cmp_nle,cmp_nne,cmp_neq,wrap_i64,wrap_u64,wrap_u8,inn,h1,h2,h2']
theorem within_l (x : Int × Int × Int) (r : List (Int × Int × Int)) (hr : r.length ≤ 100) (H : Heap) : callW P f_q32 [.vs 3 none ((x :: r).map tri)] H = some (ab ((x :: r).all inn),H) := by
 have h := fun H => cnt_call (f1 := f_q61) (f0 := f_q75) (k := 3) (ld := some 3) (z := true) (l := (x :: r).map tri) (f := f_q62) (cs := []) (p := fun c => match c with
  | [.c (.int _ a),.c (.int _ b),.c (.int _ c)] => !inn (a,b,c)
  | _ => false) (H := H) rfl (fun _ _ => rfl) rfl rfl rfl (fun _ _ => rfl) rfl (.inl rfl) (fun c hc => by obtain ⟨n,_,rfl⟩ := List.mem_map.1 hc; rfl) (by rw [List.length_map,List.length_cons]; omega) rfl rfl (fun c hc => by obtain ⟨n,_,rfl⟩ := List.mem_map.1 hc; exact ⟨rfl,rfl,rfl⟩)
  (fun c hc => by
   obtain ⟨n,_,rfl⟩ := List.mem_map.1 hc
   exact within_1 _ _ _ H)
 have e : (((x :: r).map tri).any fun c => match c with
  | [.c (.int _ a),.c (.int _ b),.c (.int _ c)] => !inn (a,b,c)
  | _ => false) = !((x :: r).all inn) := by
  rw [List.any_map,List.all_eq_not_any_not,Bool.not_not]
  rfl
 replace h : ∀ H,callW P f_q61 [.vs 3 none ((x :: r).map tri),.fn f_q62 []] H = some (ab (!((x :: r).all inn)),H) := fun H => by rw [← e]; exact h H
 generalize (x :: r).all inn = bb at *
 have hf : ((x :: r).map tri).length = r.length + 1 := by simp
 generalize (x :: r).map tri = l at *
 rw [call_L 3 rfl (rfl : P.T f_q32 = some F_q32) (le_ok rfl)]; simp -implicitDefEqProofs [-toCells,-AV.one,-forget,F_q32,c_q32,h]
theorem cfg_eq (a0 a1 a2 a3 a4 a5 a6 a7 a8 a9 b0 b1 b2 b3 b4 b5 b6 b7 b8 b9 : Int) : binA .eql (.agg [.i,.i,.i,.i,.i,.i,.i,.i,.i,.i]) (.agg [ai a0,ai a1,ai a2,ai a3,ai a4,ai a5,ai a6,ai a7,ai a8,ai a9]) (.agg [ai b0,ai b1,ai b2,ai b3,ai b4,ai b5,ai b6,ai b7,ai b8,ai b9]) = some (ab (decide ([a0,a1,a2,a3,a4,a5,a6,a7,a8,a9] = [b0,b1,b2,b3,b4,b5,b6,b7,b8,b9]))) := by
 rw [binA_eqa,if_pos ⟨rfl,rfl⟩]
 exact congrArg (Option.map ab) (eqAll_ints [a0,a1,a2,a3,a4,a5,a6,a7,a8,a9] [b0,b1,b2,b3,b4,b5,b6,b7,b8,b9] rfl)
theorem pdu_isTM (c : Cfg) (H : Heap) : callW P f_q29 [.agg c.v] H = some (ab c.tm,H) := by
 obtain ⟨mo,bi,wi,re,pr,ph,pp,pb,mr,q⟩ := c
 have hE := cfg_eq mo bi wi re pr ph pp pb mr q 0 0 0 0 0 0 0 0 0 q
 replace hE : _ = some (ab (Cfg.tm ⟨mo,bi,wi,re,pr,ph,pp,pb,mr,q⟩)) := hE
 generalize Cfg.tm ⟨mo,bi,wi,re,pr,ph,pp,pb,mr,q⟩ = t at *
 rw [call_L 4 rfl (rfl : P.T f_q29 = some F_q29) (le_ok rfl)]; simp -implicitDefEqProofs [-toCells,-AV.one,-forget,F_q29,c_q29,Cfg.v,hE]
theorem pdu_isUM (c : Cfg) (H : Heap) : callW P f_q30 [.agg c.v] H = some (ab c.um,H) := by
 obtain ⟨mo,bi,wi,re,pr,ph,pp,pb,mr,q⟩ := c
 by_cases h5 : bi = 5
 ·subst h5
  have hE := cfg_eq mo 5 wi re pr ph pp pb mr q 1 5 wi re 0 0 0 0 0 q
  replace hE : _ = some (ab (Cfg.plainUM ⟨mo,5,wi,re,pr,ph,pp,pb,mr,q⟩)) := hE
  have hW := fun H => within_l (wi,(1,16)) [(re,(1,1000))] (by simp) H
  replace hW : ∀ H,callW P f_q32 [.vs 3 none [[ai wi,ai 1,ai 16],[ai re,ai 1,ai 1000]]] H = _ := hW
  rw [Cfg.um]
  simp only [decide_true,Bool.true_and,true_or,if_true]
  generalize Cfg.plainUM ⟨mo,5,wi,re,pr,ph,pp,pb,mr,q⟩ = t at *
  generalize List.all [(wi,((1 : Int),(16 : Int))),(re,(1,1000))] inn = t2 at *
  cases t with
  | true => rw [call_L 6 rfl (rfl : P.T f_q30 = some F_q30) (le_ok rfl)]; simp -implicitDefEqProofs (disch := first | omega | (simp; done) | fail) [-toCells,-AV.one,-forget,F_q30,c_q30,cmp_ilt,cmp_ilf,cmp_ile,cmp_ilg,cmp_ine,cmp_ieq,cmp_nlt,cmp_nlf,cmp_nle,cmp_nne,cmp_neq,wrap_i64,wrap_u64,wrap_u8,keepB,-goodB,goodB_L,sameV,dstNot,dstNe,SOpG.reads,SOp.slots,SX.slots,SOp.noL,rdV_load,selfE_lst,selfE,selfEs,eqV,Cfg.v,hE,hW]
  | false => rw [call_L 6 rfl (rfl : P.T f_q30 = some F_q30) (le_ok rfl)]; simp -implicitDefEqProofs (disch := first | omega | (simp; done) | fail) [-toCells,-AV.one,-forget,F_q30,c_q30,cmp_ilt,cmp_ilf,cmp_ile,cmp_ilg,cmp_ine,cmp_ieq,cmp_nlt,cmp_nlf,cmp_nle,cmp_nne,cmp_neq,wrap_i64,wrap_u64,wrap_u8,keepB,-goodB,goodB_L,sameV,dstNot,dstNe,SOpG.reads,SOp.slots,SX.slots,SOp.noL,rdV_load,selfE_lst,selfE,selfEs,eqV,Cfg.v,hE]
 by_cases h10 : bi = 10
 ·subst h10
  have hE := cfg_eq mo 10 wi re pr ph pp pb mr q 1 10 wi re 0 0 0 0 0 q
  replace hE : _ = some (ab (Cfg.plainUM ⟨mo,10,wi,re,pr,ph,pp,pb,mr,q⟩)) := hE
  have hW := fun H => within_l (wi,(1,512)) [(re,(1,1000))] (by simp) H
  replace hW : ∀ H,callW P f_q32 [.vs 3 none [[ai wi,ai 1,ai 512],[ai re,ai 1,ai 1000]]] H = _ := hW
  rw [Cfg.um]
  simp only [show ¬ (10 : Int) = 5 by decide,decide_true,Bool.true_and,or_true,if_false]
  generalize Cfg.plainUM ⟨mo,10,wi,re,pr,ph,pp,pb,mr,q⟩ = t at *
  generalize List.all [(wi,((1 : Int),(512 : Int))),(re,(1,1000))] inn = t2 at *
  cases t with
  | true => rw [call_L 6 rfl (rfl : P.T f_q30 = some F_q30) (le_ok rfl)]; simp -implicitDefEqProofs (disch := first | omega | (simp; done) | fail) [-toCells,-AV.one,-forget,F_q30,c_q30,cmp_ilt,cmp_ilf,cmp_ile,cmp_ilg,cmp_ine,cmp_ieq,cmp_nlt,cmp_nlf,cmp_nle,cmp_nne,cmp_neq,wrap_i64,wrap_u64,wrap_u8,keepB,-goodB,goodB_L,sameV,dstNot,dstNe,SOpG.reads,SOp.slots,SX.slots,SOp.noL,rdV_load,selfE_lst,selfE,selfEs,eqV,Cfg.v,hE,hW]
  | false => rw [call_L 6 rfl (rfl : P.T f_q30 = some F_q30) (le_ok rfl)]; simp -implicitDefEqProofs (disch := first | omega | (simp; done) | fail) [-toCells,-AV.one,-forget,F_q30,c_q30,cmp_ilt,cmp_ilf,cmp_ile,cmp_ilg,cmp_ine,cmp_ieq,cmp_nlt,cmp_nlf,cmp_nle,cmp_nne,cmp_neq,wrap_i64,wrap_u64,wrap_u8,keepB,-goodB,goodB_L,sameV,dstNot,dstNe,SOpG.reads,SOp.slots,SX.slots,SOp.noL,rdV_load,selfE_lst,selfE,selfEs,eqV,Cfg.v,hE]
 rw [Cfg.um,decide_eq_false (by simp only; omega),Bool.false_and]
 rw [call_L 6 rfl (rfl : P.T f_q30 = some F_q30) (le_ok rfl)]; simp -implicitDefEqProofs [-toCells,-AV.one,-forget,F_q30,c_q30,Cfg.v,h5,h10]
end Go.A.V.S

namespace Go.A.V.S
open Go Go.A
set_option linter.unusedSimpArgs false
set_option linter.unusedVariables false
set_option maxHeartbeats 1000000 in
theorem pdu_isAM (c : Cfg) (H : Heap) : callW P f_q31 [.agg c.v] H = some (ab c.am,H) := by
 obtain ⟨mo,bi,wi,re,pr,ph,pp,pb,mr,q⟩ := c
 by_cases h5 : bi = 10
 ·subst h5
  have hW := fun H => within_l (wi,(1,512)) [(re,(1,1000)),(pr,(1,1000)),(ph,(0,1000)),(pp,(1,1000)),(pb,(1,20000)),(mr,(1,32))] (by simp) H
  replace hW : ∀ H,callW P f_q32 [.vs 3 none [[ai wi,ai 1,ai 512],[ai re,ai 1,ai 1000],[ai pr,ai 1,ai 1000],[ai ph,ai 0,ai 1000],[ai pp,ai 1,ai 1000],[ai pb,ai 1,ai 20000],[ai mr,ai 1,ai 32]]] H = _ := hW
  rw [Cfg.am]
  simp only [decide_true,Bool.true_and,true_or,if_true]
  generalize List.all [(wi,((1 : Int),(512 : Int))),(re,(1,1000)),(pr,(1,1000)),(ph,(0,1000)),(pp,(1,1000)),(pb,(1,20000)),(mr,(1,32))] inn = t2 at *
  have w9 : IntKind.i64.wrap 9 = 9 := rfl
  have w2 : IntKind.i64.wrap 512 = 512 := rfl
  rw [call_L 6 rfl (rfl : P.T f_q31 = some F_q31) (le_ok rfl)]; simp -implicitDefEqProofs [-toCells,-AV.one,-forget,F_q31,c_q31,keepB,-goodB,goodB_L,sameV,dstNot,dstNe,SOpG.reads,SOp.slots,SX.slots,SOp.noL,rdV_load,selfE_lst,selfE,selfEs,eqV,Cfg.v,hW,w9,w2]
 by_cases h10 : bi = 16
 ·subst h10
  have hW := fun H => within_l (wi,(1,32768)) [(re,(1,1000)),(pr,(1,1000)),(ph,(0,1000)),(pp,(1,1000)),(pb,(1,20000)),(mr,(1,32))] (by simp) H
  replace hW : ∀ H,callW P f_q32 [.vs 3 none [[ai wi,ai 1,ai 32768],[ai re,ai 1,ai 1000],[ai pr,ai 1,ai 1000],[ai ph,ai 0,ai 1000],[ai pp,ai 1,ai 1000],[ai pb,ai 1,ai 20000],[ai mr,ai 1,ai 32]]] H = _ := hW
  rw [Cfg.am]
  simp only [show ¬ (16 : Int) = 10 by decide,decide_true,Bool.true_and,or_true,if_false]
  generalize List.all [(wi,((1 : Int),(32768 : Int))),(re,(1,1000)),(pr,(1,1000)),(ph,(0,1000)),(pp,(1,1000)),(pb,(1,20000)),(mr,(1,32))] inn = t2 at *
  have w9 : IntKind.i64.wrap 15 = 15 := rfl
  have w2 : IntKind.i64.wrap 32768 = 32768 := rfl
  rw [call_L 6 rfl (rfl : P.T f_q31 = some F_q31) (le_ok rfl)]; simp -implicitDefEqProofs [-toCells,-AV.one,-forget,F_q31,c_q31,keepB,-goodB,goodB_L,sameV,dstNot,dstNe,SOpG.reads,SOp.slots,SX.slots,SOp.noL,rdV_load,selfE_lst,selfE,selfEs,eqV,Cfg.v,hW,w9,w2]
 rw [Cfg.am,decide_eq_false (by simp only; omega),Bool.false_and]
 rw [call_L 6 rfl (rfl : P.T f_q31 = some F_q31) (le_ok rfl)]; simp -implicitDefEqProofs [-toCells,-AV.one,-forget,F_q31,c_q31,Cfg.v,h5,h10]
theorem pdu_Check (c : Cfg) (H : Heap) : callW P f_q9 [.agg c.v] H = some (ai c.chk,H) := by
 have h1 := fun H => pdu_isTM c H
 have h2 := fun H => pdu_isUM c H
 have h3 := fun H => pdu_isAM c H
 have hW := fun H => within_l (c.queue,(1,20000)) [] (by simp) H
 replace hW : ∀ H,callW P f_q32 [.vs 3 none [[ai c.queue,ai 1,ai 20000]]] H = _ := hW
 rw [Cfg.chk]
 generalize List.all [(c.queue,((1 : Int),(20000 : Int)))] inn = b at *
 generalize c.tm = t1 at *
 generalize c.um = t2 at *
 generalize c.am = t3 at *
 obtain ⟨mo,bi,wi,re,pr,ph,pp,pb,mr,q⟩ := c
 simp only [Cfg.v] at h1 h2 h3 hW ⊢
 by_cases m0 : mo = 0
 ·subst m0
  rw [if_pos (show (0 : Int) = 0 ∨ (0 : Int) = 1 ∨ (0 : Int) = 2 by decide),if_pos (show (0 : Int) = 0 from rfl)]
  cases t1 with
  | true =>
   cases b with
   | true => rw [call_L 5 rfl (rfl : P.T f_q9 = some F_q9) (le_ok rfl)]; simp -implicitDefEqProofs [-toCells,-AV.one,-forget,F_q9,c_q9,h1,hW]
   | false => rw [call_L 5 rfl (rfl : P.T f_q9 = some F_q9) (le_ok rfl)]; simp -implicitDefEqProofs [-toCells,-AV.one,-forget,F_q9,c_q9,h1,hW]
  | false => rw [call_L 5 rfl (rfl : P.T f_q9 = some F_q9) (le_ok rfl)]; simp -implicitDefEqProofs [-toCells,-AV.one,-forget,F_q9,c_q9,h1]
 by_cases m1 : mo = 1
 ·subst m1
  rw [if_pos (show (1 : Int) = 0 ∨ (1 : Int) = 1 ∨ (1 : Int) = 2 by decide),if_neg (show ¬ (1 : Int) = 0 by decide),if_pos (show (1 : Int) = 1 from rfl)]
  cases t2 with
  | true =>
   cases b with
   | true => rw [call_L 5 rfl (rfl : P.T f_q9 = some F_q9) (le_ok rfl)]; simp -implicitDefEqProofs [-toCells,-AV.one,-forget,F_q9,c_q9,h2,hW]
   | false => rw [call_L 5 rfl (rfl : P.T f_q9 = some F_q9) (le_ok rfl)]; simp -implicitDefEqProofs [-toCells,-AV.one,-forget,F_q9,c_q9,h2,hW]
  | false => rw [call_L 5 rfl (rfl : P.T f_q9 = some F_q9) (le_ok rfl)]; simp -implicitDefEqProofs [-toCells,-AV.one,-forget,F_q9,c_q9,h2]
 by_cases m2 : mo = 2
 ·subst m2
  rw [if_pos (show (2 : Int) = 0 ∨ (2 : Int) = 1 ∨ (2 : Int) = 2 by decide),if_neg (show ¬ (2 : Int) = 0 by decide),if_neg (show ¬ (2 : Int) = 1 by decide)]
  cases t3 with
  | true =>
   cases b with
   | true => rw [call_L 5 rfl (rfl : P.T f_q9 = some F_q9) (le_ok rfl)]; simp -implicitDefEqProofs [-toCells,-AV.one,-forget,F_q9,c_q9,h3,hW]
   | false => rw [call_L 5 rfl (rfl : P.T f_q9 = some F_q9) (le_ok rfl)]; simp -implicitDefEqProofs [-toCells,-AV.one,-forget,F_q9,c_q9,h3,hW]
  | false => rw [call_L 5 rfl (rfl : P.T f_q9 = some F_q9) (le_ok rfl)]; simp -implicitDefEqProofs [-toCells,-AV.one,-forget,F_q9,c_q9,h3]
 rw [if_neg (show ¬ (mo = 0 ∨ mo = 1 ∨ mo = 2) by omega)]
 rw [call_L 5 rfl (rfl : P.T f_q9 = some F_q9) (le_ok rfl)]; simp -implicitDefEqProofs [-toCells,-AV.one,-forget,F_q9,c_q9,m0,m1,m2]
theorem chk_mode {c : Cfg} (h : c.chk = 0) : c.mode = 0 ∨ c.mode = 1 ∨ c.mode = 2 := by
 unfold Cfg.chk at h
 split at h
 ·assumption
 ·simp at h
end Go.A.V.S

namespace Go.A.V.S
open Go Go.A
set_option linter.unusedSimpArgs false
set_option linter.unusedVariables false
def um0 : Um := ⟨0,0,true,[]⟩
def am0 : Pk := ⟨false,0,0,false,false,0,true,[]⟩
def st0 : St := ⟨0,true,[]⟩
def un0 : Un := ⟨0,(true,[]),um0,am0,st0⟩
def umOf (bs : List Nat) (w : Nat) (out : List Bs) : Um := ⟨(uFI bs w : Nat),(uSN bs w : Nat),true,out⟩
def amOf (bs : List Nat) (w : Nat) (out : List Bs) : Pk := ⟨hPoll bs,(hFI bs : Nat),(hSN bs w : Nat),hPart bs,hLast bs w,(hOff bs w : Nat),true,out⟩
inductive ReadP (c : Cfg) (b : Bs) : Nat → Un → Prop where
 | bad (h : c.chk ≠ 0) : ReadP c b c.chk un0
 | none (h : c.chk = 0) (m : c.mode = 0) (l : b.2.length = 0) : ReadP c b 8 un0
 | long (h : c.chk = 0) (m : c.mode = 0) (l : 1000 < b.2.length) : ReadP c b 2 un0
 | raw (h : c.chk = 0) (m : c.mode = 0) (l : b.2.length ≠ 0) (l2 : b.2.length ≤ 1000) : ReadP c b 0 ⟨0,b,um0,am0,st0⟩
 | umE (h : c.chk = 0) (m : c.mode = 1) (e : (readU b.2 c.bits).1 ≠ 0) : ReadP c b (readU b.2 c.bits).1 un0
 | um (h : c.chk = 0) (m : c.mode = 1) (out : List Bs) (e : readU b.2 c.bits = (0,bb out)) : ReadP c b 0 ⟨1,(true,[]),umOf b.2 c.bits.toNat out,am0,st0⟩
 | stE (h : c.chk = 0) (m : c.mode = 2) (l : b.2.length ≠ 0) (n : numAt b.2 0 1 = 0) (e : (readS b.2 c.bits).1 ≠ 0) : ReadP c b (readS b.2 c.bits).1 un0
 | st (h : c.chk = 0) (m : c.mode = 2) (l : b.2.length ≠ 0) (n : numAt b.2 0 1 = 0) (ack : Nat) (ms : List Ms) (e : readS b.2 c.bits = (0,ack,ms)) : ReadP c b 0 ⟨3,(true,[]),um0,am0,⟨ack,true,ms⟩⟩
 | amE (h : c.chk = 0) (m : c.mode = 2) (n : b.2.length = 0 ∨ numAt b.2 0 1 ≠ 0) (e : (readR b.2 c.bits).1 ≠ 0) : ReadP c b (readR b.2 c.bits).1 un0
 | am (h : c.chk = 0) (m : c.mode = 2) (n : b.2.length = 0 ∨ numAt b.2 0 1 ≠ 0) (out : List Bs) (e : readR b.2 c.bits = (0,bb out)) : ReadP c b 0 ⟨2,(true,[]),um0,amOf b.2 c.bits.toNat out,st0⟩
theorem umd_Read_any (b : Bs) (hb : b.2.length ≤ 8192) (hby : Bytes b.2) (w : Int) (H : Heap) :
  ∃ (out : List Bs) (k : Nat),out.map (·.2) = (readU b.2 w).2 ∧ callW P f_q2 [bv b,ai w] H = some (readUV b.2 w (lst true 1 none (bvs out)),H ++ List.replicate k .other) := by
 by_cases h5 : w = 5
 ·subst h5; exact umd_Read5 b hb hby H
 by_cases h10 : w = 10
 ·subst h10; exact umd_Read10 b hb hby H
 have hW : ∀ H,callW P f_q11 [ai w] H = some (ab false,H) := fun H => by rw [umd_isWidth,decide_eq_false (by omega)]
 have hR : readU b.2 w = (9,[]) := by rw [readU,if_neg (by omega)]
 refine ⟨[],0,by rw [hR]; rfl,?_⟩
 rw [readUV,hR]
 clear hR hby
 rw [call_L 7 rfl (rfl : P.T f_q2 = some F_q2) (le_ok rfl)]; simp -implicitDefEqProofs [-toCells,-AV.one,-forget,F_q2,c_q2,hW]
theorem un0_v : un0.v = [ai 0,nilS,ai 0,ai 0,nilS,ab false,ai 0,ai 0,ab false,ab false,ai 0,nilS,ai 0,nilS] := rfl
theorem raw_v (b : Bs) : (⟨0,b,um0,am0,st0⟩ : Un).v = [ai 0,bv b,ai 0,ai 0,nilS,ab false,ai 0,ai 0,ab false,ab false,ai 0,nilS,ai 0,nilS] := rfl
theorem pdu_readRaw (b : Bs) (hb : b.2.length ≤ 8192) (H : Heap) :
  callW P f_q18 [bv b] H = some (.tup [.agg (if b.2.length = 0 ∨ 1000 < b.2.length then un0 else ⟨0,b,um0,am0,st0⟩ : Un).v,ai (if b.2.length = 0 then 8 else if 1000 < b.2.length then 2 else 0)],H) := by
 have hlen := bv_len b
 have hc := fun H => Clone_bs b (by omega) H
 by_cases h0 : b.2.length = 0
 ·have h0' : (b.2.length : Int) = 0 := by omega
  rw [if_pos (.inl h0),if_pos h0,un0_v]
  rw [h0] at hlen
  rw [call_L 5 rfl (rfl : P.T f_q18 = some F_q18) (le_ok rfl)]; simp -implicitDefEqProofs [-toCells,-AV.one,-forget,F_q18,c_q18,hlen]
 have h0' : ¬ (b.2.length : Int) = 0 := by omega
 by_cases h1 : 1000 < b.2.length
 ·have h1' : (1000 : Int) < b.2.length := by omega
  have h1'' : (b.2.length : Int) > 1000 := by omega
  rw [if_pos (.inr h1),if_neg h0,if_pos h1,un0_v]
  obtain ⟨n,hn⟩ : ∃ t,b.2.length = t := ⟨_,rfl⟩
  rw [hn] at hlen h0 h0' h1 h1' h1''
  rw [call_L 5 rfl (rfl : P.T f_q18 = some F_q18) (le_ok rfl)]; simp -implicitDefEqProofs [-toCells,-AV.one,-forget,F_q18,c_q18,hlen,h0,h0',h1,h1',h1'']
 ·have h1' : ¬ (1000 : Int) < b.2.length := by omega
  have h1'' : ¬ (b.2.length : Int) > 1000 := by omega
  rw [if_neg (by omega),if_neg h0,if_neg h1,raw_v]
  have hf : bv b = lst b.1 1 none (byteCs b.2) := rfl
  obtain ⟨n,hn⟩ : ∃ t,b.2.length = t := ⟨_,rfl⟩
  rw [hn] at hlen h0 h0' h1 h1' h1''
  rw [hf] at hlen hc ⊢
  rw [call_L 5 rfl (rfl : P.T f_q18 = some F_q18) (le_ok rfl)]; simp -implicitDefEqProofs [-toCells,-AV.one,-forget,F_q18,c_q18,hlen,h0,h0',h1,h1',h1'',hc]
end Go.A.V.S

namespace Go.A.V.S
open Go Go.A
set_option linter.unusedSimpArgs false
set_option linter.unusedVariables false
theorem um_v (bs : List Nat) (w : Nat) (out : List Bs) : (⟨1,(true,[]),umOf bs w out,am0,st0⟩ : Un).v = [ai 1,nilS,ai (uFI bs w : Nat),ai (uSN bs w : Nat),lst true 1 none (bvs out),ab false,ai 0,ai 0,ab false,ab false,ai 0,nilS,ai 0,nilS] := rfl
theorem am_v (bs : List Nat) (w : Nat) (out : List Bs) : (⟨2,(true,[]),um0,amOf bs w out,st0⟩ : Un).v = [ai 2,nilS,ai 0,ai 0,nilS,ab (hPoll bs),ai (hFI bs : Nat),ai (hSN bs w : Nat),ab (hPart bs),ab (hLast bs w),ai (hOff bs w : Nat),lst true 1 none (bvs out),ai 0,nilS] := rfl
theorem st_v (ack : Nat) (ms : List Ms) : (⟨3,(true,[]),um0,am0,⟨ack,true,ms⟩⟩ : Un).v = [ai 3,nilS,ai 0,ai 0,nilS,ab false,ai 0,ai 0,ab false,ab false,ai 0,nilS,ai ack,lst true 4 none (mvs ms)] := rfl
theorem readM_err {bs : List Nat} {w : Nat} : ∀ (z a e : Nat) (more : Bool) (out : List Ms),(readM bs w z a e more out).1 = 0 ∨ (readM bs w z a e more out).2 = []
 | 0,_,_,_,_ => .inr rfl
 | z + 1,a,e,more,out => by
  rw [readM]
  split
  ·exact .inr rfl
  ·split
   ·split
    ·exact .inr rfl
    ·split
     ·exact .inr rfl
     ·exact readM_err z _ _ _ _
   ·split
    ·exact .inl rfl
    ·exact .inr rfl
theorem readS_err {bs : List Nat} {w : Int} : (readS bs w).1 = 0 ∨ (readS bs w).2 = (0,[]) := by
 unfold readS
 split
 ·split
  ·exact .inr rfl
  ·split
   ·exact .inr rfl
   ·split
    ·exact .inr rfl
    ·simp only
     refine Classical.byCases (fun h0 => .inl h0) (fun h0 => .inr ?_)
     rw [if_neg h0]
     exact congrArg (Prod.mk 0) ((readM_err _ _ _ _ _).resolve_left h0)
 ·exact .inr rfl
section
variable {b : Bs}
def PRd (c : Cfg) (b : Bs) (H : Heap) : Prop := ∃ (e : Nat) (x : Un) (k : Nat),ReadP c b e x ∧ callW P f_q5 [.agg c.v,bv b] H = some (.tup [.agg x.v,ai e],H ++ List.replicate k .other)
theorem pRd_bad (c : Cfg) (h : c.chk ≠ 0) (H : Heap) : PRd c b H := by
 have hC := fun H => pdu_Check c H
 refine ⟨_,_,0,.bad h,?_⟩
 rw [un0_v]
 obtain ⟨n,hn⟩ : ∃ t,c.chk = t := ⟨_,rfl⟩
 rw [hn] at hC h ⊢
 have h' : ¬ (n : Int) = 0 := by omega
 obtain ⟨mo,bi,wi,re,pr,ph,pp,pb,mr,q⟩ := c
 simp only [Cfg.v] at hC ⊢
 clear hn
 rw [call_L 7 rfl (rfl : P.T f_q5 = some F_q5) (le_ok rfl)]; simp -implicitDefEqProofs [-toCells,-AV.one,-forget,F_q5,c_q5,hC,h,h']
theorem pRd_raw (c : Cfg) (hb : b.2.length ≤ 8192) (h : c.chk = 0) (m : c.mode = 0) (H : Heap) : PRd c b H := by
 have hC := fun H => pdu_Check c H
 have hR := fun H => pdu_readRaw b hb H
 rw [h] at hC
 replace hC : ∀ H,callW P f_q9 [.agg c.v] H = some (ai 0,H) := hC
 have key : ∀ (x : Un) (e : Nat),(∀ H,callW P f_q18 [bv b] H = some (.tup [.agg x.v,ai e],H)) → callW P f_q5 [.agg c.v,bv b] H = some (.tup [.agg x.v,ai e],H) := by
  intro x e hx
  obtain ⟨k,r,um,am,st⟩ := x
  simp only [Un.v] at hx ⊢
  obtain ⟨mo,bi,wi,re,pr,ph,pp,pb,mr,q⟩ := c
  simp only at m
  subst m
  simp only [Cfg.v] at hC ⊢
  clear hR h
  rw [call_L 7 rfl (rfl : P.T f_q5 = some F_q5) (le_ok rfl)]; simp -implicitDefEqProofs [-toCells,-AV.one,-forget,F_q5,c_q5,hC,hx]
 by_cases h0 : b.2.length = 0
 ·refine ⟨8,un0,0,.none h m h0,?_⟩
  rw [if_pos (.inl h0),if_pos h0] at hR
  simpa using key un0 8 hR
 by_cases h1 : 1000 < b.2.length
 ·refine ⟨2,un0,0,.long h m h1,?_⟩
  rw [if_pos (.inr h1),if_neg h0,if_pos h1] at hR
  simpa using key un0 2 hR
 ·refine ⟨0,_,0,.raw h m h0 (by omega),?_⟩
  rw [if_neg (by omega),if_neg h0,if_neg h1] at hR
  simpa using key _ 0 hR
theorem pRd_um (c : Cfg) (hb : b.2.length ≤ 8192) (hby : Bytes b.2) (h : c.chk = 0) (m : c.mode = 1) (H : Heap) : PRd c b H := by
 have hC := fun H => pdu_Check c H
 rw [h] at hC
 replace hC : ∀ H,callW P f_q9 [.agg c.v] H = some (ai 0,H) := hC
 obtain ⟨out,k,ho,hR⟩ := umd_Read_any b hb hby c.bits H
 obtain ⟨sc,hsc⟩ : ∃ t,sc0_q5 = t := ⟨_,rfl⟩
 have hJ : ∀ σ H,jumpW P f_q5 sc0_q5 0 ⟨.goto 0,σ,H⟩ = (execW P f_q5 sc0_q5 σ H).bind (jumpW P f_q5 sc 0) := fun σ H => by rw [jumpW_eq,hsc]; rfl
 unfold sc0_q5 tsc0_q5 at hJ
 by_cases he : (readU b.2 c.bits).1 = 0
 ·have e2 : readU b.2 c.bits = (0,bb out) := Prod.ext he ho.symm
  refine ⟨0,_,k,.um h m out e2,?_⟩
  rw [um_v]
  rw [readUV,if_pos he,he] at hR
  replace hR : callW P f_q2 [bv b,ai c.bits] H = some (.tup [.agg [ai (uFI b.2 c.bits.toNat : Nat),ai (uSN b.2 c.bits.toNat : Nat),lst true 1 none (bvs out)],ai 0],H ++ List.replicate k .other) := hR
  generalize uFI b.2 c.bits.toNat = f1 at *
  generalize uSN b.2 c.bits.toNat = f2 at *
  obtain ⟨N,hN⟩ : ∃ t,List.replicate k AObj.other = t := ⟨_,rfl⟩
  have hNl : List.replicate N.length AObj.other = N := by rw [← hN]; simp
  rw [hN] at hR ⊢
  obtain ⟨mo,bi,wi,re,pr,ph,pp,pb,mr,q⟩ := c
  simp only at m hR
  subst m
  simp only [Cfg.v] at hC ⊢
  clear h he e2 ho hby
  rw [call_L 7 rfl (rfl : P.T f_q5 = some F_q5) (le_ok rfl)]; simp -implicitDefEqProofs [-toCells,-AV.one,-forget,F_q5,c_q5,hC,hR,hNl]
 ·refine ⟨_,_,k,.umE h m he,?_⟩
  rw [un0_v]
  rw [readUV,if_neg he] at hR
  replace hR : callW P f_q2 [bv b,ai c.bits] H = some (.tup [.agg [ai 0,ai 0,nilS],ai (readU b.2 c.bits).1],H ++ List.replicate k .other) := hR
  obtain ⟨N,hN⟩ : ∃ t,List.replicate k AObj.other = t := ⟨_,rfl⟩
  have hNl : List.replicate N.length AObj.other = N := by rw [← hN]; simp
  obtain ⟨n,hn⟩ : ∃ t,(readU b.2 c.bits).1 = t := ⟨_,rfl⟩
  rw [hN,hn] at hR
  rw [hN,hn]
  rw [hn] at he
  have he' : ¬ (n : Int) = 0 := by omega
  obtain ⟨mo,bi,wi,re,pr,ph,pp,pb,mr,q⟩ := c
  simp only at m hR
  subst m
  simp only [Cfg.v] at hC ⊢
  clear h ho hby hn
  rw [call_L 7 rfl (rfl : P.T f_q5 = some F_q5) (le_ok rfl)]; simp -implicitDefEqProofs [-toCells,-AV.one,-forget,F_q5,c_q5,hC,hR,hJ,sc0_q5,tsc0_q5,hNl,he,he']
theorem pRd_st (c : Cfg) (hb : b.2.length ≤ 8192) (hby : Bytes b.2) (h : c.chk = 0) (m : c.mode = 2) (hl : b.2.length ≠ 0) (hn0 : numAt b.2 0 1 = 0) (H : Heap) : PRd c b H := by
 have hC := fun H => pdu_Check c H
 rw [h] at hC
 replace hC : ∀ H,callW P f_q9 [.agg c.v] H = some (ai 0,H) := hC
 obtain ⟨sc,hsc⟩ : ∃ t,sc0_q5 = t := ⟨_,rfl⟩
 have hJ : ∀ σ H,jumpW P f_q5 sc0_q5 0 ⟨.goto 0,σ,H⟩ = (execW P f_q5 sc0_q5 σ H).bind (jumpW P f_q5 sc 0) := fun σ H => by rw [jumpW_eq,hsc]; rfl
 unfold sc0_q5 tsc0_q5 at hJ
 have hlen := bv_len b
 have hl' : 0 < b.2.length := by omega
 have hl'' : 0 < (b.2.length : Int) := by omega
 have hl3 : (b.2.length : Int) > 0 := by omega
 obtain ⟨b0,hb0⟩ : ∃ x,b.2[0]? = some x := ⟨_,List.getElem?_eq_getElem (by omega)⟩
 have hb256 := hby b0 (List.mem_of_getElem? hb0)
 have q1 : iaddrW 1 none (bv b) (.c (.int .i64 0)) = some (.vp [au b0] 0) := bv_at hb0 .i64
 have a128 := and128 ⟨b0,hb256⟩
 simp only at a128
 have n0 : numAt b.2 0 1 = b0 / 128 % 2 := numAt_bit (a := 0) hb0
 rw [if_neg (by omega)] at a128
 obtain ⟨ll,hll⟩ : ∃ t,b.2.length = t := ⟨_,rfl⟩
 obtain ⟨k,hR⟩ := st_Read_any b hb hby c.bits H
 by_cases he : (readS b.2 c.bits).1 = 0
 ·have e2 : readS b.2 c.bits = (0,(readS b.2 c.bits).2.1,(readS b.2 c.bits).2.2) := Prod.ext he rfl
  refine ⟨0,_,k,.st h m hl hn0 _ _ e2,?_⟩
  rw [st_v]
  rw [readSV,he] at hR
  replace hR : callW P f_q19 [bv b,ai c.bits] H = some (.tup [.agg [ai (readS b.2 c.bits).2.1,lst true 4 none (mvs (readS b.2 c.bits).2.2)],ai 0],H ++ List.replicate k .other) := hR
  clear e2
  generalize (readS b.2 c.bits).2.1 = f1 at *
  generalize (readS b.2 c.bits).2.2 = f2 at *
  rw [hll] at hlen hl' hl'' hl3
  obtain ⟨N,hN⟩ : ∃ t,List.replicate k AObj.other = t := ⟨_,rfl⟩
  have hNl : List.replicate N.length AObj.other = N := by rw [← hN]; simp
  rw [hN] at hR ⊢
  obtain ⟨mo,bi,wi,re,pr,ph,pp,pb,mr,q⟩ := c
  simp only at m hR
  subst m
  simp only [Cfg.v] at hC ⊢
  clear h he hby n0 hn0 hl hll
  rw [call_L 7 rfl (rfl : P.T f_q5 = some F_q5) (le_ok rfl)]; simp -implicitDefEqProofs [-toCells,-AV.one,-forget,F_q5,c_q5,-binA_and,binA_andI,hlen,hl',hl'',hl3,q1,a128,hC,hR,hNl]
 ·refine ⟨_,_,k,.stE h m hl hn0 he,?_⟩
  rw [un0_v]
  have h2 : (readS b.2 c.bits).2 = (0,[]) := by
   rcases readS_err (bs := b.2) (w := c.bits) with e | e
   ·exact (he e).elim
   ·exact e
  rw [readSV,h2] at hR
  replace hR : callW P f_q19 [bv b,ai c.bits] H = some (.tup [.agg [ai 0,nilS],ai (readS b.2 c.bits).1],H ++ List.replicate k .other) := hR
  clear h2
  rw [hll] at hlen hl' hl'' hl3
  obtain ⟨N,hN⟩ : ∃ t,List.replicate k AObj.other = t := ⟨_,rfl⟩
  have hNl : List.replicate N.length AObj.other = N := by rw [← hN]; simp
  obtain ⟨n,hn⟩ : ∃ t,(readS b.2 c.bits).1 = t := ⟨_,rfl⟩
  rw [hN,hn] at hR
  rw [hN,hn]
  rw [hn] at he
  have he' : ¬ (n : Int) = 0 := by omega
  obtain ⟨mo,bi,wi,re,pr,ph,pp,pb,mr,q⟩ := c
  simp only at m hR
  subst m
  simp only [Cfg.v] at hC ⊢
  clear h hby n0 hn0 hl hll hn
  rw [call_L 7 rfl (rfl : P.T f_q5 = some F_q5) (le_ok rfl)]; simp -implicitDefEqProofs [-toCells,-AV.one,-forget,F_q5,c_q5,-binA_and,binA_andI,hlen,hl',hl'',hl3,q1,a128,hC,hR,hJ,sc0_q5,tsc0_q5,hNl,he,he']
theorem pRd_am0 (c : Cfg) (hb : b.2.length ≤ 8192) (hby : Bytes b.2) (h : c.chk = 0) (m : c.mode = 2) (hn0 : b.2.length = 0) (H : Heap) : PRd c b H := by
 have hC := fun H => pdu_Check c H
 rw [h] at hC
 replace hC : ∀ H,callW P f_q9 [.agg c.v] H = some (ai 0,H) := hC
 obtain ⟨sc,hsc⟩ : ∃ t,sc0_q5 = t := ⟨_,rfl⟩
 have hJ : ∀ σ H,jumpW P f_q5 sc0_q5 0 ⟨.goto 0,σ,H⟩ = (execW P f_q5 sc0_q5 σ H).bind (jumpW P f_q5 sc 0) := fun σ H => by rw [jumpW_eq,hsc]; rfl
 unfold sc0_q5 tsc0_q5 at hJ
 have hlen := bv_len b
 rw [hn0] at hlen
 obtain ⟨out,k,ho,hR⟩ := amd_Read b (by omega) hby c.bits H
 by_cases he : (readR b.2 c.bits).1 = 0
 ·have e2 : readR b.2 c.bits = (0,bb out) := Prod.ext he ho.symm
  refine ⟨0,_,k,.am h m (.inl hn0) out e2,?_⟩
  rw [am_v]
  rw [readV,if_pos he,he,hPkt] at hR
  replace hR : callW P f_q20 [bv b,ai c.bits] H = some (.tup [.agg [ab (hPoll b.2),ai (hFI b.2 : Nat),ai (hSN b.2 c.bits.toNat : Nat),ab (hPart b.2),ab (hLast b.2 c.bits.toNat),ai (hOff b.2 c.bits.toNat : Nat),lst true 1 none (bvs out)],ai 0],H ++ List.replicate k .other) := hR
  clear e2
  generalize hPoll b.2 = x1 at *
  generalize hFI b.2 = x2 at *
  generalize hSN b.2 c.bits.toNat = x3 at *
  generalize hPart b.2 = x4 at *
  generalize hLast b.2 c.bits.toNat = x5 at *
  generalize hOff b.2 c.bits.toNat = x6 at *
  obtain ⟨N,hN⟩ : ∃ t,List.replicate k AObj.other = t := ⟨_,rfl⟩
  have hNl : List.replicate N.length AObj.other = N := by rw [← hN]; simp
  rw [hN] at hR ⊢
  obtain ⟨mo,bi,wi,re,pr,ph,pp,pb,mr,q⟩ := c
  simp only at m hR
  subst m
  simp only [Cfg.v] at hC ⊢
  clear h he ho hby hn0
  rw [call_L 7 rfl (rfl : P.T f_q5 = some F_q5) (le_ok rfl)]; simp -implicitDefEqProofs [-toCells,-AV.one,-forget,F_q5,c_q5,-binA_and,binA_andI,hlen,hC,hR,hNl]
 ·refine ⟨_,_,k,.amE h m (.inl hn0) he,?_⟩
  rw [un0_v]
  rw [readV,if_neg he,noPkt] at hR
  replace hR : callW P f_q20 [bv b,ai c.bits] H = some (.tup [.agg [ab false,ai 0,ai 0,ab false,ab false,ai 0,nilS],ai (readR b.2 c.bits).1],H ++ List.replicate k .other) := hR
  obtain ⟨N,hN⟩ : ∃ t,List.replicate k AObj.other = t := ⟨_,rfl⟩
  have hNl : List.replicate N.length AObj.other = N := by rw [← hN]; simp
  obtain ⟨n,hn⟩ : ∃ t,(readR b.2 c.bits).1 = t := ⟨_,rfl⟩
  rw [hN,hn] at hR
  rw [hN,hn]
  rw [hn] at he
  have he' : ¬ (n : Int) = 0 := by omega
  obtain ⟨mo,bi,wi,re,pr,ph,pp,pb,mr,q⟩ := c
  simp only at m hR
  subst m
  simp only [Cfg.v] at hC ⊢
  clear h hby hn ho hn0
  rw [call_L 7 rfl (rfl : P.T f_q5 = some F_q5) (le_ok rfl)]; simp -implicitDefEqProofs [-toCells,-AV.one,-forget,F_q5,c_q5,-binA_and,binA_andI,hlen,hC,hR,hJ,sc0_q5,tsc0_q5,hNl,he,he']
theorem pRd_am1 (c : Cfg) (hb : b.2.length ≤ 8192) (hby : Bytes b.2) (h : c.chk = 0) (m : c.mode = 2) (hn0 : b.2.length ≠ 0 ∧ numAt b.2 0 1 ≠ 0) (H : Heap) : PRd c b H := by
 have hC := fun H => pdu_Check c H
 rw [h] at hC
 replace hC : ∀ H,callW P f_q9 [.agg c.v] H = some (ai 0,H) := hC
 obtain ⟨sc,hsc⟩ : ∃ t,sc0_q5 = t := ⟨_,rfl⟩
 have hJ : ∀ σ H,jumpW P f_q5 sc0_q5 0 ⟨.goto 0,σ,H⟩ = (execW P f_q5 sc0_q5 σ H).bind (jumpW P f_q5 sc 0) := fun σ H => by rw [jumpW_eq,hsc]; rfl
 unfold sc0_q5 tsc0_q5 at hJ
 have hlen := bv_len b
 have hl : b.2.length ≠ 0 := hn0.1
 have hl' : 0 < b.2.length := by omega
 have hl'' : 0 < (b.2.length : Int) := by omega
 have hl3 : (b.2.length : Int) > 0 := by omega
 obtain ⟨b0,hb0⟩ : ∃ x,b.2[0]? = some x := ⟨_,List.getElem?_eq_getElem (by omega)⟩
 have hb256 := hby b0 (List.mem_of_getElem? hb0)
 have q1 : iaddrW 1 none (bv b) (.c (.int .i64 0)) = some (.vp [au b0] 0) := bv_at hb0 .i64
 have a128 := and128 ⟨b0,hb256⟩
 simp only at a128
 have n0 : numAt b.2 0 1 = b0 / 128 % 2 := numAt_bit (a := 0) hb0
 rw [if_pos (by omega)] at a128
 obtain ⟨ll,hll⟩ : ∃ t,b.2.length = t := ⟨_,rfl⟩
 obtain ⟨out,k,ho,hR⟩ := amd_Read b (by omega) hby c.bits H
 by_cases he : (readR b.2 c.bits).1 = 0
 ·have e2 : readR b.2 c.bits = (0,bb out) := Prod.ext he ho.symm
  refine ⟨0,_,k,.am h m (.inr hn0.2) out e2,?_⟩
  rw [am_v]
  rw [readV,if_pos he,he,hPkt] at hR
  replace hR : callW P f_q20 [bv b,ai c.bits] H = some (.tup [.agg [ab (hPoll b.2),ai (hFI b.2 : Nat),ai (hSN b.2 c.bits.toNat : Nat),ab (hPart b.2),ab (hLast b.2 c.bits.toNat),ai (hOff b.2 c.bits.toNat : Nat),lst true 1 none (bvs out)],ai 0],H ++ List.replicate k .other) := hR
  clear e2
  generalize hPoll b.2 = x1 at *
  generalize hFI b.2 = x2 at *
  generalize hSN b.2 c.bits.toNat = x3 at *
  generalize hPart b.2 = x4 at *
  generalize hLast b.2 c.bits.toNat = x5 at *
  generalize hOff b.2 c.bits.toNat = x6 at *
  rw [hll] at hlen hl' hl'' hl3
  obtain ⟨N,hN⟩ : ∃ t,List.replicate k AObj.other = t := ⟨_,rfl⟩
  have hNl : List.replicate N.length AObj.other = N := by rw [← hN]; simp
  rw [hN] at hR ⊢
  obtain ⟨mo,bi,wi,re,pr,ph,pp,pb,mr,q⟩ := c
  simp only at m hR
  subst m
  simp only [Cfg.v] at hC ⊢
  clear h he ho hby n0 hl hll hn0
  rw [call_L 7 rfl (rfl : P.T f_q5 = some F_q5) (le_ok rfl)]; simp -implicitDefEqProofs [-toCells,-AV.one,-forget,F_q5,c_q5,-binA_and,binA_andI,hlen,hl',hl'',hl3,q1,a128,hC,hR,hNl]
 ·refine ⟨_,_,k,.amE h m (.inr hn0.2) he,?_⟩
  rw [un0_v]
  rw [readV,if_neg he,noPkt] at hR
  replace hR : callW P f_q20 [bv b,ai c.bits] H = some (.tup [.agg [ab false,ai 0,ai 0,ab false,ab false,ai 0,nilS],ai (readR b.2 c.bits).1],H ++ List.replicate k .other) := hR
  rw [hll] at hlen hl' hl'' hl3
  obtain ⟨N,hN⟩ : ∃ t,List.replicate k AObj.other = t := ⟨_,rfl⟩
  have hNl : List.replicate N.length AObj.other = N := by rw [← hN]; simp
  obtain ⟨n,hn⟩ : ∃ t,(readR b.2 c.bits).1 = t := ⟨_,rfl⟩
  rw [hN,hn] at hR
  rw [hN,hn]
  rw [hn] at he
  have he' : ¬ (n : Int) = 0 := by omega
  obtain ⟨mo,bi,wi,re,pr,ph,pp,pb,mr,q⟩ := c
  simp only at m hR
  subst m
  simp only [Cfg.v] at hC ⊢
  clear h hby hn ho n0 hl hll hn0
  rw [call_L 7 rfl (rfl : P.T f_q5 = some F_q5) (le_ok rfl)]; simp -implicitDefEqProofs [-toCells,-AV.one,-forget,F_q5,c_q5,-binA_and,binA_andI,hlen,hl',hl'',hl3,q1,a128,hC,hR,hJ,sc0_q5,tsc0_q5,hNl,he,he']
end
theorem pdu_Read (c : Cfg) (b : Bs) (hb : b.2.length ≤ 8192) (hby : Bytes b.2) (H : Heap) : ∃ (e : Nat) (x : Un) (k : Nat),ReadP c b e x ∧ callW P f_q5 [.agg c.v,bv b] H = some (.tup [.agg x.v,ai e],H ++ List.replicate k .other) := by
 by_cases h : c.chk = 0
 case neg => exact pRd_bad c h H
 rcases chk_mode h with m | m | m
 ·exact pRd_raw c hb h m H
 ·exact pRd_um c hb hby h m H
 ·by_cases hl : b.2.length = 0
  ·exact pRd_am0 c hb hby h m hl H
  by_cases hn : numAt b.2 0 1 = 0
  ·exact pRd_st c hb hby h m hl hn H
  ·exact pRd_am1 c hb hby h m ⟨hl,hn⟩ H
end Go.A.V.S

namespace Go.A.V.S
open Go Go.A
set_option linter.unusedSimpArgs false
set_option linter.unusedVariables false
theorem chk_um {c : Cfg} (h : c.chk = 0) (m : c.mode = 1) : c.bits = 5 ∨ c.bits = 10 := by
 unfold Cfg.chk at h
 rw [if_pos (.inr (.inl m)),if_neg (show ¬ c.mode = 0 by omega),if_pos m] at h
 by_cases hw : c.bits = 5 ∨ c.bits = 10
 ·exact hw
 ·rw [Cfg.um,decide_eq_false hw] at h; simp at h
theorem chk_am {c : Cfg} (h : c.chk = 0) (m : c.mode = 2) : c.bits = 10 ∨ c.bits = 16 := by
 unfold Cfg.chk at h
 rw [if_pos (.inr (.inr m)),if_neg (show ¬ c.mode = 0 by omega),if_neg (show ¬ c.mode = 1 by omega)] at h
 by_cases hw : c.bits = 10 ∨ c.bits = 16
 ·exact hw
 ·rw [Cfg.am,decide_eq_false hw] at h; simp at h
inductive WriteP (c : Cfg) (u : Un) : Nat → List Nat → Prop where
 | bad (h : c.chk ≠ 0) : WriteP c u c.chk []
 | rawE (h : c.chk = 0) (m : c.mode = 0) (k : u.kind = 0) (l : u.raw.2.length = 0 ∨ 1000 < u.raw.2.length) : WriteP c u 3 []
 | raw (h : c.chk = 0) (m : c.mode = 0) (k : u.kind = 0) (l : u.raw.2.length ≠ 0) (l2 : u.raw.2.length ≤ 1000) : WriteP c u 0 u.raw.2
 | umE (h : c.chk = 0) (m : c.mode = 1) (k : u.kind = 1) (e : sizeU u.um c.bits = 0) : WriteP c u 3 []
 | um (h : c.chk = 0) (m : c.mode = 1) (k : u.kind = 1) (e : sizeU u.um c.bits ≠ 0) (out : List Nat) (w : WrU u.um c.bits.toNat out) : WriteP c u 0 out
 | amE (h : c.chk = 0) (m : c.mode = 2) (k : u.kind = 2) (e : sizeR u.am c.bits = 0) : WriteP c u 3 []
 | am (h : c.chk = 0) (m : c.mode = 2) (k : u.kind = 2) (e : sizeR u.am c.bits ≠ 0) (out : List Nat) (w : WrB u.am c.bits.toNat out) : WriteP c u 0 out
 | stE (h : c.chk = 0) (m : c.mode = 2) (k : u.kind = 3) (e : stOk u.st c.bits.toNat = false) : WriteP c u 3 []
 | st (h : c.chk = 0) (m : c.mode = 2) (k : u.kind = 3) (e : stOk u.st c.bits.toNat = true) (out : List Nat) (w : PackR (sBits u.st c.bits.toNat) out) : WriteP c u 0 out
 | state (h : c.chk = 0) (n : ¬ (c.mode = 0 ∧ u.kind = 0)) (n1 : ¬ (c.mode = 1 ∧ u.kind = 1)) (n2 : ¬ (c.mode = 2 ∧ (u.kind = 2 ∨ u.kind = 3))) : WriteP c u 7 []
structure Un.sm (u : Un) : Prop where
 r : u.raw.2.length ≤ 8192
 uf : u.um.ff.length ≤ 1000
 us : ∀ f ∈ u.um.ff,f.2.length ≤ 8192
 af : u.am.ff.length ≤ 1000
 as : ∀ f ∈ u.am.ff,f.2.length ≤ 8192
 ms : u.st.ms.length ≤ 1000
def PWr (c : Cfg) (u : Un) (H : Heap) : Prop := ∃ (e : Nat) (z : Bool) (out : List Nat) (k : Nat),WriteP c u e out ∧ callW P f_q6 [.agg c.v,.agg u.v] H = some (.tup [bv (z,out),ai e],H ++ List.replicate k .other)
theorem bv_nil : bv (true,[]) = nilS := rfl
theorem bv_vs (l : List Nat) : bv (false,l) = .vs 1 none (byteCs l) := by
 rcases lst_cases false 1 none (byteCs l) with ⟨h,_,_⟩ | ⟨e,_⟩
 ·simp at h
 ·exact e
section
variable {c : Cfg} {u : Un}
theorem pWr_bad (h : c.chk ≠ 0) (H : Heap) : PWr c u H := by
 have hC := fun H => pdu_Check c H
 refine ⟨_,true,_,0,.bad h,?_⟩
 rw [bv_nil]
 obtain ⟨n,hn⟩ : ∃ t,c.chk = t := ⟨_,rfl⟩
 rw [hn] at hC h ⊢
 have h' : ¬ (n : Int) = 0 := by omega
 obtain ⟨mo,bi,wi,re,pr,ph,pp,pb,mr,q⟩ := c
 obtain ⟨k,r,um,am,st⟩ := u
 simp only [Cfg.v,Un.v] at hC ⊢
 clear hn
 rw [call_L 7 rfl (rfl : P.T f_q6 = some F_q6) (le_ok rfl)]; simp -implicitDefEqProofs [-toCells,-AV.one,-forget,F_q6,c_q6,hC,h,h']
theorem pWr_raw (h : c.chk = 0) (m : c.mode = 0) (hk : u.kind = 0) (hs : u.sm) (H : Heap) : PWr c u H := by
 have hC := fun H => pdu_Check c H
 rw [h] at hC
 replace hC : ∀ H,callW P f_q9 [.agg c.v] H = some (ai 0,H) := hC
 have hlen := bv_len u.raw
 have hc := fun H => Clone_bs u.raw (by have := hs.r; omega) H
 by_cases h0 : u.raw.2.length = 0
 ·refine ⟨_,true,_,0,.rawE h m hk (.inl h0),?_⟩
  rw [bv_nil]
  rw [h0] at hlen
  obtain ⟨mo,bi,wi,re,pr,ph,pp,pb,mr,q⟩ := c
  obtain ⟨k,r,um,am,st⟩ := u
  simp only at m hk
  subst m hk
  simp only [Cfg.v,Un.v] at hC hlen ⊢
  clear hc hs h
  rw [call_L 7 rfl (rfl : P.T f_q6 = some F_q6) (le_ok rfl)]; simp -implicitDefEqProofs [-toCells,-AV.one,-forget,F_q6,c_q6,hC,hlen]
 have h0' : ¬ (u.raw.2.length : Int) = 0 := by omega
 by_cases h1 : 1000 < u.raw.2.length
 ·have h1' : (1000 : Int) < u.raw.2.length := by omega
  have h1'' : (u.raw.2.length : Int) > 1000 := by omega
  refine ⟨_,true,_,0,.rawE h m hk (.inr h1),?_⟩
  rw [bv_nil]
  obtain ⟨n,hn⟩ : ∃ t,u.raw.2.length = t := ⟨_,rfl⟩
  rw [hn] at hlen h0 h0' h1 h1' h1''
  obtain ⟨mo,bi,wi,re,pr,ph,pp,pb,mr,q⟩ := c
  obtain ⟨k,r,um,am,st⟩ := u
  simp only at m hk
  subst m hk
  simp only [Cfg.v,Un.v] at hC hlen ⊢
  clear hc hs h hn
  rw [call_L 7 rfl (rfl : P.T f_q6 = some F_q6) (le_ok rfl)]; simp -implicitDefEqProofs [-toCells,-AV.one,-forget,F_q6,c_q6,hC,hlen,h0,h0',h1,h1',h1'']
 ·have h1' : ¬ (1000 : Int) < u.raw.2.length := by omega
  have h1'' : ¬ (u.raw.2.length : Int) > 1000 := by omega
  refine ⟨0,u.raw.1,_,0,.raw h m hk h0 (by omega),?_⟩
  obtain ⟨n,hn⟩ : ∃ t,u.raw.2.length = t := ⟨_,rfl⟩
  rw [hn] at hlen h0 h0' h1 h1' h1''
  obtain ⟨mo,bi,wi,re,pr,ph,pp,pb,mr,q⟩ := c
  obtain ⟨k,r,um,am,st⟩ := u
  simp only at m hk
  subst m hk
  have hf : bv r = lst r.1 1 none (byteCs r.2) := rfl
  simp only [Cfg.v,Un.v] at hC hlen hc ⊢
  rw [show bv (r.1,r.2) = bv r from rfl,hf]
  rw [hf] at hlen hc
  clear hs h hn
  rw [call_L 7 rfl (rfl : P.T f_q6 = some F_q6) (le_ok rfl)]; simp -implicitDefEqProofs [-toCells,-AV.one,-forget,F_q6,c_q6,hC,hlen,h0,h0',h1,h1',h1'',hc]
theorem pWr_state (h : c.chk = 0) (n : ¬ (c.mode = 0 ∧ u.kind = 0)) (n1 : ¬ (c.mode = 1 ∧ u.kind = 1)) (n2 : ¬ (c.mode = 2 ∧ (u.kind = 2 ∨ u.kind = 3))) (H : Heap) : PWr c u H := by
 have hC := fun H => pdu_Check c H
 rw [h] at hC
 replace hC : ∀ H,callW P f_q9 [.agg c.v] H = some (ai 0,H) := hC
 refine ⟨_,true,_,0,.state h n n1 n2,?_⟩
 rw [bv_nil]
 have m := chk_mode h
 obtain ⟨mo,bi,wi,re,pr,ph,pp,pb,mr,q⟩ := c
 obtain ⟨k,r,um,am,st⟩ := u
 simp only at n n1 n2 m
 simp only [Cfg.v,Un.v] at hC ⊢
 clear h
 rcases m with rfl | rfl | rfl
 ·have k0 : ¬ k = 0 := fun e => n ⟨rfl,e⟩
  clear n n1 n2
  rw [call_L 7 rfl (rfl : P.T f_q6 = some F_q6) (le_ok rfl)]; simp -implicitDefEqProofs [-toCells,-AV.one,-forget,F_q6,c_q6,hC,k0]
 ·have k0 : ¬ k = 1 := fun e => n1 ⟨rfl,e⟩
  clear n n1 n2
  rw [call_L 7 rfl (rfl : P.T f_q6 = some F_q6) (le_ok rfl)]; simp -implicitDefEqProofs [-toCells,-AV.one,-forget,F_q6,c_q6,hC,k0]
 ·have k0 : ¬ k = 2 := fun e => n2 ⟨rfl,.inl e⟩
  have k1 : ¬ k = 3 := fun e => n2 ⟨rfl,.inr e⟩
  clear n n1 n2
  rw [call_L 7 rfl (rfl : P.T f_q6 = some F_q6) (le_ok rfl)]; simp -implicitDefEqProofs [-toCells,-AV.one,-forget,F_q6,c_q6,hC,k0,k1]
theorem pWr_um (h : c.chk = 0) (m : c.mode = 1) (hk : u.kind = 1) (hs : u.sm) (H : Heap) : PWr c u H := by
 have hC := fun H => pdu_Check c H
 rw [h] at hC
 replace hC : ∀ H,callW P f_q9 [.agg c.v] H = some (ai 0,H) := hC
 have hw := chk_um h m
 obtain ⟨w1,w2,w3⟩ := umd_Write u.um (fun f hf => by have := hs.us f hf; omega) (by have := hs.uf; omega) c.bits H
 by_cases h0 : sizeU u.um c.bits = 0
 ·replace w2 := w2 hw h0
  refine ⟨_,true,_,0,.umE h m hk h0,?_⟩
  rw [bv_nil]
  clear w1 w3 h0 hw hs
  obtain ⟨mo,bi,wi,re,pr,ph,pp,pb,mr,q⟩ := c
  obtain ⟨k,r,⟨ufi,usn,uz,uff⟩,am,st⟩ := u
  simp only at m hk
  subst m hk
  simp only [Cfg.v,Un.v,Um.v,Um.f] at hC w2 ⊢
  clear h
  rw [call_L 7 rfl (rfl : P.T f_q6 = some F_q6) (le_ok rfl)]; simp -implicitDefEqProofs [-toCells,-AV.one,-forget,F_q6,c_q6,hC,w2]
 ·obtain ⟨out,k,hW,w3⟩ := w3 h0
  refine ⟨_,false,_,k,.um h m hk h0 out hW,?_⟩
  rw [bv_vs]
  obtain ⟨N,hN⟩ : ∃ t,List.replicate k AObj.other = t := ⟨_,rfl⟩
  have hNl : List.replicate N.length AObj.other = N := by rw [← hN]; simp
  rw [hN] at w3 ⊢
  generalize byteCs out = bo at *
  clear w1 w2 h0 hw hs hW hN
  obtain ⟨mo,bi,wi,re,pr,ph,pp,pb,mr,q⟩ := c
  obtain ⟨k,r,⟨ufi,usn,uz,uff⟩,am,st⟩ := u
  simp only at m hk
  subst m hk
  simp only [Cfg.v,Un.v,Um.v,Um.f] at hC w3 ⊢
  clear h
  rw [call_L 7 rfl (rfl : P.T f_q6 = some F_q6) (le_ok rfl)]; simp -implicitDefEqProofs [-toCells,-AV.one,-forget,F_q6,c_q6,hC,w3,hNl]
theorem pWr_am (h : c.chk = 0) (m : c.mode = 2) (hk : u.kind = 2) (hs : u.sm) (H : Heap) : PWr c u H := by
 have hC := fun H => pdu_Check c H
 rw [h] at hC
 replace hC : ∀ H,callW P f_q9 [.agg c.v] H = some (ai 0,H) := hC
 have hw := chk_am h m
 obtain ⟨w1,w2,w3⟩ := amd_Write u.am (fun f hf => by have := hs.as f hf; omega) (by have := hs.af; omega) c.bits H
 by_cases h0 : sizeR u.am c.bits = 0
 ·replace w2 := w2 hw h0
  refine ⟨_,true,_,0,.amE h m hk h0,?_⟩
  rw [bv_nil]
  clear w1 w3 h0 hw hs
  obtain ⟨mo,bi,wi,re,pr,ph,pp,pb,mr,q⟩ := c
  obtain ⟨k,r,um,⟨po,fi,sn,pa,la,off,z0,ff⟩,st⟩ := u
  simp only at m hk
  subst m hk
  simp only [Cfg.v,Un.v,Pk.v,Pk.f,pktV] at hC w2 ⊢
  clear h
  rw [call_L 7 rfl (rfl : P.T f_q6 = some F_q6) (le_ok rfl)]; simp -implicitDefEqProofs [-toCells,-AV.one,-forget,F_q6,c_q6,hC,w2]
 ·obtain ⟨out,k,hW,w3⟩ := w3 h0
  refine ⟨_,false,_,k,.am h m hk h0 out hW,?_⟩
  rw [bv_vs]
  obtain ⟨N,hN⟩ : ∃ t,List.replicate k AObj.other = t := ⟨_,rfl⟩
  have hNl : List.replicate N.length AObj.other = N := by rw [← hN]; simp
  rw [hN] at w3 ⊢
  generalize byteCs out = bo at *
  clear w1 w2 h0 hw hs hW hN
  obtain ⟨mo,bi,wi,re,pr,ph,pp,pb,mr,q⟩ := c
  obtain ⟨k,r,um,⟨po,fi,sn,pa,la,off,z0,ff⟩,st⟩ := u
  simp only at m hk
  subst m hk
  simp only [Cfg.v,Un.v,Pk.v,Pk.f,pktV] at hC w3 ⊢
  clear h
  rw [call_L 7 rfl (rfl : P.T f_q6 = some F_q6) (le_ok rfl)]; simp -implicitDefEqProofs [-toCells,-AV.one,-forget,F_q6,c_q6,hC,w3,hNl]
theorem pWr_st (h : c.chk = 0) (m : c.mode = 2) (hk : u.kind = 3) (hs : u.sm) (H : Heap) : PWr c u H := by
 have hC := fun H => pdu_Check c H
 rw [h] at hC
 replace hC : ∀ H,callW P f_q9 [.agg c.v] H = some (ai 0,H) := hC
 have hw := chk_am h m
 obtain ⟨w1,w2,w3⟩ := st_Write u.st (by have := hs.ms; omega) c.bits H
 by_cases h0 : stOk u.st c.bits.toNat = false
 ·obtain ⟨k,w2⟩ := w2 hw h0
  refine ⟨_,true,_,k,.stE h m hk h0,?_⟩
  rw [bv_nil]
  obtain ⟨N,hN⟩ : ∃ t,List.replicate k AObj.other = t := ⟨_,rfl⟩
  have hNl : List.replicate N.length AObj.other = N := by rw [← hN]; simp
  rw [hN] at w2 ⊢
  clear w1 w3 h0 hw hs hN
  obtain ⟨mo,bi,wi,re,pr,ph,pp,pb,mr,q⟩ := c
  obtain ⟨k,r,um,am,⟨sa,sz,sm⟩⟩ := u
  simp only at m hk
  subst m hk
  simp only [Cfg.v,Un.v,St.v] at hC w2 ⊢
  clear h
  rw [call_L 7 rfl (rfl : P.T f_q6 = some F_q6) (le_ok rfl)]; simp -implicitDefEqProofs [-toCells,-AV.one,-forget,F_q6,c_q6,hC,w2,hNl]
 ·have h0t : stOk u.st c.bits.toNat = true := by cases h : stOk u.st c.bits.toNat with | true => rfl | false => exact (h0 h).elim
  obtain ⟨out,k,hW,w3⟩ := w3 hw h0t
  refine ⟨_,false,_,k,.st h m hk h0t out hW,?_⟩
  rw [bv_vs]
  obtain ⟨N,hN⟩ : ∃ t,List.replicate k AObj.other = t := ⟨_,rfl⟩
  have hNl : List.replicate N.length AObj.other = N := by rw [← hN]; simp
  rw [hN] at w3 ⊢
  generalize byteCs out = bo at *
  clear w1 w2 h0 h0t hw hs hW hN
  obtain ⟨mo,bi,wi,re,pr,ph,pp,pb,mr,q⟩ := c
  obtain ⟨k,r,um,am,⟨sa,sz,sm⟩⟩ := u
  simp only at m hk
  subst m hk
  simp only [Cfg.v,Un.v,St.v] at hC w3 ⊢
  clear h
  rw [call_L 7 rfl (rfl : P.T f_q6 = some F_q6) (le_ok rfl)]; simp -implicitDefEqProofs [-toCells,-AV.one,-forget,F_q6,c_q6,hC,w3,hNl]
end
theorem pdu_Write (c : Cfg) (u : Un) (hs : u.sm) (H : Heap) : PWr c u H := by
 by_cases h : c.chk = 0
 case neg => exact pWr_bad h H
 by_cases n : c.mode = 0 ∧ u.kind = 0
 ·exact pWr_raw h n.1 n.2 hs H
 by_cases n1 : c.mode = 1 ∧ u.kind = 1
 ·exact pWr_um h n1.1 n1.2 hs H
 by_cases n2 : c.mode = 2 ∧ u.kind = 2
 ·exact pWr_am h n2.1 n2.2 hs H
 by_cases n3 : c.mode = 2 ∧ u.kind = 3
 ·exact pWr_st h n3.1 n3.2 hs H
 exact pWr_state h n n1 (fun h => h.2.elim (fun e => n2 ⟨h.1,e⟩) (fun e => n3 ⟨h.1,e⟩)) H
end Go.A.V.S
