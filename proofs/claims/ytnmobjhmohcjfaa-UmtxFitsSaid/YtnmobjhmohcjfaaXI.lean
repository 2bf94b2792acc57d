/- glue: the row, and its small calls. -/
import Derived.Test.YtnmobjhmohcjfaaXE
import Derived.Test.YtnmobjhmohcjfaaXA
import Derived.Test.YtnmobjhmohcjfaaXF
set_option linter.unusedSimpArgs false
set_option linter.unusedVariables false
set_option linter.unnecessarySimpa false
namespace Go.A.V.S
open Go Go.A
set_option linter.unusedSimpArgs false
set_option linter.unusedVariables false
/-- What a glue holds: nothing, or the beginning of a text. -/
def hv : Option Bs → AV
  | none => nilS
  | some b => bv b
/-- The heap of a glue. -/
def GG (H : Heap) (r : Nat) (h : Option Bs) (lost : Nat) : Heap := RC H r [ab true, hv h, ab h.isSome, ai lost]
theorem GG_len (H : Heap) (r : Nat) (h : Option Bs) (lost : Nat) : (GG H r h lost).length = H.length := RC_len _ _ _
theorem GG_take (H : Heap) (r : Nat) (h : Option Bs) (lost : Nat) : (GG H r h lost).take H.length = GG H r h lost := RC_take _ _ _
section
variable {H : Heap} {r : Nat} {lost : Nat}
theorem g_New (H : Heap) : callW P f_glue_New [] H = some (.ptr H.length 0 4, GG (H ++ [.other]) H.length none 0) := by
  have hsh : GG (H ++ [.other]) H.length none 0 = H ++ [.row [ab true, nilS, ab false, ai 0]] := by simp [GG, RC, hv]
  rw [hsh]
  rw [call_L 3 rfl (rfl : P.T f_glue_New = some F_glue_New) (le_ok rfl)]; simp -implicitDefEqProofs [-toCells, -AV.one, -forget, F_glue_New, c_glue_New]
theorem g_Lost (hlt : r < H.length) (h : Option Bs) : callW P f_glue_Glue_Lost [.ptr r 0 4] (GG H r h lost) = some (ai lost, GG H r h lost) := by
  have r3 : rdRow (GG H r h lost) r 3 1 4 = some [ai lost] := by rw [GG, RC_rd hlt]; rfl
  generalize GG H r h lost = G at *
  rw [call_L 4 rfl (rfl : P.T f_glue_Glue_Lost = some F_glue_Glue_Lost) (le_ok rfl)]; simp -implicitDefEqProofs [-toCells, -AV.one, -forget, F_glue_Glue_Lost, c_glue_Glue_Lost, r3]
/-- A row whose cells are told apart. -/
def GC (H : Heap) (r : Nat) (hd : AV) (ho : Bool) (lost : Nat) : Heap := RC H r [ab true, hd, ab ho, ai lost]
theorem GC_len (H : Heap) (r : Nat) (hd : AV) (ho : Bool) (lost : Nat) : (GC H r hd ho lost).length = H.length := RC_len _ _ _
theorem GC_1 (hlt : r < H.length) (hd : AV) (ho : Bool) : rdRow (GC H r hd ho lost) r 1 1 4 = some [hd] := by rw [GC, RC_rd hlt]; rfl
theorem GC_2 (hlt : r < H.length) (hd : AV) (ho : Bool) : rdRow (GC H r hd ho lost) r 2 1 4 = some [ab ho] := by rw [GC, RC_rd hlt]; rfl
theorem GC_s1 (hlt : r < H.length) (hd : AV) (ho : Bool) {v : AV} (hv : okCell v = true) (σ : List AV) : storeA σ (GC H r hd ho lost) none (.ptr r 1 4) v = some (σ, GC H r v ho lost) := by
  rw [GC, RC_st hlt, if_pos ⟨hv, by omega, rfl⟩]; rfl
theorem GC_s2 (hlt : r < H.length) (hd : AV) (ho : Bool) (b : Bool) (σ : List AV) : storeA σ (GC H r hd ho lost) none (.ptr r 2 4) (ab b) = some (σ, GC H r hd b lost) := by
  rw [GC, RC_st hlt, if_pos ⟨rfl, by omega, rfl⟩]; rfl
theorem g_Drop (hlt : r < H.length) (hd : AV) (ho : Bool) : callW P f_glue_Glue_Drop [.ptr r 0 4] (GC H r hd ho lost) = some (.tup [], GC H r nilS false lost) := by
  have s1 := GC_s1 (lost := lost) hlt hd ho (v := nilS) rfl
  have s2 := GC_s2 (lost := lost) hlt nilS ho false
  have hl := GC_len H r hd ho lost
  have hl2 := GC_len H r nilS false lost
  have ht2 : (GC H r nilS false lost).take H.length = GC H r nilS false lost := RC_take _ _ _
  generalize GC H r nilS false lost = G3 at *
  generalize GC H r nilS ho lost = G2 at *
  generalize GC H r hd ho lost = G at *
  rw [call_L 4 rfl (rfl : P.T f_glue_Glue_Drop = some F_glue_Glue_Drop) (le_ok rfl)]; simp -implicitDefEqProofs [-toCells, -AV.one, -forget, F_glue_Glue_Drop, c_glue_Glue_Drop, s1, s2, hl, hl2, ht2]
/-- With nothing held nothing is lost. -/
theorem g_lose (hlt : r < H.length) (hd : AV) : callW P f_glue_Glue_lose [.ptr r 0 4] (GC H r hd false lost) = some (.tup [], GC H r nilS false lost) := by
  have r2 := GC_2 (lost := lost) hlt hd false
  have hD := g_Drop (lost := lost) hlt hd false
  have hl := GC_len H r hd false lost
  have hl2 := GC_len H r nilS false lost
  have ht2 : (GC H r nilS false lost).take H.length = GC H r nilS false lost := RC_take _ _ _
  generalize GC H r nilS false lost = G3 at *
  generalize GC H r hd false lost = G at *
  rw [call_L 5 rfl (rfl : P.T f_glue_Glue_lose = some F_glue_Glue_lose) (le_ok rfl)]; simp -implicitDefEqProofs [-toCells, -AV.one, -forget, F_glue_Glue_lose, c_glue_Glue_lose, r2, hD, hl, hl2, ht2]
end
end Go.A.V.S

namespace Go.A.V.S
open Go Go.A
set_option linter.unusedSimpArgs false
set_option linter.unusedVariables false
section
variable {H : Heap} {r : Nat} {lost : Nat}
theorem g_field_b (hlt : r < H.length) (hd : AV) (b : Bs) (h1 : 1 ≤ b.2.length) (h2 : b.2.length ≤ 1000) (ends : Bool) :
    callW P f_glue_Glue_field [.ptr r 0 4, bv b, ab true, ab ends] (GC H r hd false lost) = some (if ends = true then (.tup [bv b, ab true], GC H r nilS false lost) else (.tup [nilS, ab false], GC H r (bv b) true lost)) := by
  have hL := g_lose (lost := lost) hlt hd
  have hcl := Clone_bs b (by omega)
  have s1 := GC_s1 (lost := lost) hlt nilS false (v := bv b) (okCell_lst _ _ _ _)
  have s2 := GC_s2 (lost := lost) hlt (bv b) false true
  have r1 := GC_1 (lost := lost) hlt (bv b) true
  have r2 := GC_2 (lost := lost) hlt (bv b) true
  have hD := g_Drop (lost := lost) hlt (bv b) true
  have hlb := bv_len b
  have hl := GC_len H r hd false lost
  have hl1 := GC_len H r nilS false lost
  have hl2 := GC_len H r (bv b) true lost
  have ht1 : (GC H r nilS false lost).take H.length = GC H r nilS false lost := RC_take _ _ _
  have ht2 : (GC H r (bv b) true lost).take H.length = GC H r (bv b) true lost := RC_take _ _ _
  have hbf : bv b = lst b.1 1 none (byteCs b.2) := rfl
  obtain ⟨m, hm⟩ : ∃ x, b.2.length = x := ⟨_, rfl⟩
  rw [hm] at hlb h1 h2
  have c1 : ¬ (m : Int) > 1000 := by omega
  have c2 : ¬ (1000 : Int) < m := by omega
  generalize GC H r (bv b) true lost = G4 at *
  generalize GC H r (bv b) false lost = G3 at *
  generalize GC H r nilS false lost = G2 at *
  generalize GC H r hd false lost = G at *
  rw [hbf] at hcl s1 r1 hlb ⊢
  cases ends with
  | true => rw [call_L 7 rfl (rfl : P.T f_glue_Glue_field = some F_glue_Glue_field) (le_ok rfl)]; simp -implicitDefEqProofs [-toCells, -AV.one, -forget, F_glue_Glue_field, c_glue_Glue_field, hL, hcl, s1, s2, r1, r2, hD, hlb, hl, hl1, hl2, ht1, ht2, c1, c2]
  | false => rw [call_L 7 rfl (rfl : P.T f_glue_Glue_field = some F_glue_Glue_field) (le_ok rfl)]; simp -implicitDefEqProofs [-toCells, -AV.one, -forget, F_glue_Glue_field, c_glue_Glue_field, hL, hcl, s1, s2, r1, r2, hD, hlb, hl, hl1, hl2, ht1, ht2, c1, c2]
theorem g_field_c (hlt : r < H.length) (a b : List Nat) (za : Bool) (h0 : 1 ≤ a.length) (h1 : 1 ≤ b.length) (h2 : a.length + b.length ≤ 1000) (zb ends : Bool) :
    callW P f_glue_Glue_field [.ptr r 0 4, bv (zb, b), ab false, ab ends] (GC H r (bv (za, a)) true lost) = some (if ends = true then (.tup [bv (false, a ++ b), ab true], GC H r nilS false lost) else (.tup [nilS, ab false], GC H r (bv (false, a ++ b)) true lost)) := by
  have r1 := GC_1 (lost := lost) hlt (bv (za, a)) true
  have r2 := GC_2 (lost := lost) hlt (bv (za, a)) true
  have ca : lst za 1 none (byteCs a) = .vs 1 none (byteCs a) := by
    rcases lst_cases za 1 none (byteCs a) with ⟨_, e1, e⟩ | ⟨e, _⟩
    · have : a = [] := by simpa [byteCs] using e1
      subst this; simp at h0
    · exact e
  have cut1 := fun d => bv_to3 (b := (za, a)) (j := a.length) (Nat.le_refl _) .i64 .i64 d
  have hbc : bcut (za, a) 0 a.length = (za && a.isEmpty, a) := by simp [bcut]
  have hae : a.isEmpty = false := by cases a <;> simp_all
  rw [hae, Bool.and_false] at hbc
  simp only [hbc] at cut1
  have cut2 : ∀ d, cutV 1 d (bv (za, a)) none (some (.c (.int .i64 a.length))) (some (.c (.int .i64 a.length))) = some (.vs 1 d (byteCs a)) := fun d => by rw [cut1 d]; simp [lst]
  clear cut1
  have hap := fun σ H => appW_vs (m := P.md f_glue_Glue_field) (d := 45) (bytes := 1) (c := 43) (l := byteCs a) (l' := byteCs b) (x := bv (zb, b)) (sz := 1) (fun H => Go.A.V.elems_lst H zb 1 none (byteCs b)) (by simp only [byteCs_len, appBound]; omega) (by simp only [byteCs_len, appBound]; omega) σ H
  have hab : byteCs a ++ byteCs b = byteCs (a ++ b) := by simp [byteCs]
  rw [hab] at hap
  have hbn : ∀ f : Option Nat, pln (.vs 1 f (byteCs (a ++ b))) = bv (false, a ++ b) := fun f => rfl
  have s1 := GC_s1 (lost := lost) hlt (bv (za, a)) true (v := bv (false, a ++ b)) (okCell_lst _ _ _ _)
  have q1 := GC_1 (lost := lost) hlt (bv (false, a ++ b)) true
  have q2 := GC_2 (lost := lost) hlt (bv (false, a ++ b)) true
  have hD := g_Drop (lost := lost) hlt (bv (false, a ++ b)) true
  have hla := bv_len (za, a)
  have hlb := bv_len (false, a ++ b)
  simp only [List.length_append] at hla hlb
  have hl := GC_len H r (bv (za, a)) true lost
  have hl1 := GC_len H r nilS false lost
  have hl2 := GC_len H r (bv (false, a ++ b)) true lost
  have ht1 : (GC H r nilS false lost).take H.length = GC H r nilS false lost := RC_take _ _ _
  have ht2 : (GC H r (bv (false, a ++ b)) true lost).take H.length = GC H r (bv (false, a ++ b)) true lost := RC_take _ _ _
  obtain ⟨m, hm⟩ : ∃ x, a.length + b.length = x := ⟨_, rfl⟩
  rw [hm] at hlb h2
  have c1 : ¬ (m : Int) > 1000 := by omega
  have c2 : ¬ (1000 : Int) < m := by omega
  have hbw : bv (false, a ++ b) = .vs 1 none (byteCs (a ++ b)) := rfl
  simp only [hbw] at s1 q1 q2 hD hlb hl2 ht2 ⊢
  obtain ⟨n, hn⟩ : ∃ x, a.length = x := ⟨_, rfl⟩
  rw [hn] at hla cut2
  clear hab hbn
  generalize byteCs (a ++ b) = cs at *
  generalize GC H r (.vs 1 none cs) true lost = G4 at *
  generalize GC H r nilS false lost = G2 at *
  generalize GC H r (bv (za, a)) true lost = G at *
  have hB : bv (zb, b) = lst zb 1 none (byteCs b) := rfl
  rw [hB] at hap ⊢
  cases ends with
  | true => rw [call_L 7 rfl (rfl : P.T f_glue_Glue_field = some F_glue_Glue_field) (le_ok rfl)]; simp -implicitDefEqProofs [-toCells, -AV.one, -forget, F_glue_Glue_field, c_glue_Glue_field, keepB, -goodB, goodB_L, sameV, dstNot, dstNe, SOpG.reads, SOp.slots, SX.slots, SOp.noL, rdV_load, selfE_lst, selfE, selfEs, eqV, r1, r2, cut2, hap, s1, q1, q2, hD, hla, hlb, hl, hl1, hl2, ht1, ht2, c1, c2]
  | false => rw [call_L 7 rfl (rfl : P.T f_glue_Glue_field = some F_glue_Glue_field) (le_ok rfl)]; simp -implicitDefEqProofs [-toCells, -AV.one, -forget, F_glue_Glue_field, c_glue_Glue_field, keepB, -goodB, goodB_L, sameV, dstNot, dstNe, SOpG.reads, SOp.slots, SX.slots, SOp.noL, rdV_load, selfE_lst, selfE, selfEs, eqV, r1, r2, cut2, hap, s1, q1, q2, hD, hla, hlb, hl, hl1, hl2, ht1, ht2, c1, c2]
end
end Go.A.V.S

namespace Go.A.V.S
open Go Go.A
set_option linter.unusedSimpArgs false
set_option linter.unusedVariables false
/-- What is held, and a field behind it. -/
def jn (h : Option Bs) (b : Bs) : Bs := match h with
  | none => b
  | some a => (false, a.2 ++ b.2)
/-- What fields tell, and what is held behind them; cut: the last field does not end its text. -/
def gp (cut : Bool) : Option Bs → List Bs → List Bs × Option Bs
  | h, [] => ([], h)
  | h, [f] => if cut = true then ([], some (jn h f)) else ([jn h f], none)
  | h, f :: g :: r => (jn h f :: (gp cut none (g :: r)).1, (gp cut none (g :: r)).2)
section
variable {H : Heap} {r : Nat} {lost : Nat}
theorem g_field (hlt : r < H.length) (h : Option Bs) (b : Bs) (hh : ∀ a, h = some a → 1 ≤ a.2.length) (h1 : 1 ≤ b.2.length) (h2 : (jn h b).2.length ≤ 1000) (ends : Bool) :
    callW P f_glue_Glue_field [.ptr r 0 4, bv b, ab h.isNone, ab ends] (GG H r h lost) = some (if ends = true then (.tup [bv (jn h b), ab true], GG H r none lost) else (.tup [nilS, ab false], GG H r (some (jn h b)) lost)) := by
  cases h with
  | none => exact g_field_b hlt nilS b h1 h2 ends
  | some a =>
    simp only [jn, List.length_append] at h2
    exact g_field_c hlt a.2 b.2 a.1 (hh a rfl) h1 h2 b.1 ends
def InvPt (H : Heap) (r lost : Nat) (F : List Bs) (zf : Bool) (fi : Nat) (cut : Bool) (T : List Bs) (hf : Option Bs) (zz : Nat) (σ : List AV) (G : Heap) : Prop :=
  ∃ (i : Nat) (h : Option Bs) (out : List Bs), i + zz + 1 = F.length ∧ out.length ≤ i ∧ (0 < i → h = none) ∧ (i = 0 → (2 ≤ fi ↔ h.isSome = true)) ∧ (∀ a, h = some a → 1 ≤ a.2.length) ∧ (∀ b, F[i]? = some b → (jn h b).2.length ≤ 1000) ∧
    T = out ++ (gp cut h (F.drop i)).1 ∧ hf = (gp cut h (F.drop i)).2 ∧ G = GG H r h lost ∧
    σ = L 89 (((((((Tr.full 7).put (path 0) (.ptr r 0 4)).put (path 1) (ai fi)).put (path 2) (lst zf 1 none (bvs F))).put (path 11) (lst true 1 (some 82) (bvs out))).put (path 12) (ai i)).put (path 13) (ai (F.length - 1 : Nat)))
def PostPt (H : Heap) (r lost : Nat) (T : List Bs) (hf : Option Bs) (e : AExit) (σ : List AV) (G : Heap) : Prop :=
  e = .ret ∧ G = GG H r hf lost ∧ resultsA F_glue_Glue_Put.res σ = some (.tup [lst true 1 (some 82) (bvs T), ai 0])
set_option maxHeartbeats 4000000 in
theorem gput_tail (hlt : r < H.length) {F : List Bs} (hF : F.length ≤ 24) (hFb : ∀ b ∈ F, 1 ≤ b.2.length ∧ b.2.length ≤ 1000) {zf : Bool} {fi : Nat} (hfi : fi ≤ 3) {cut : Bool} (hcut : cut = decide (fi % 2 = 1)) {T : List Bs} {hf : Option Bs} (zz : Nat) (σ : List AV) (G : Heap)
    (hI : InvPt H r lost F zf fi cut T hf zz (kill (headK tsc0_glue_Glue_Put) σ) G) :
    Ends ((execW P f_glue_Glue_Put tsc0_glue_Glue_Put σ G).bind (jumpW P f_glue_Glue_Put sc0_glue_Glue_Put 0)) fun s => PostPt H r lost T hf s.e s.σ s.H := by
  refine scope_ends (InvPt H r lost F zf fi cut T hf) (PostPt H r lost T hf) rfl ?_ zz σ G hI
  clear hI zz σ G
  rintro zz σ G ⟨i, h, out, hz, ho, hi0, hi1, hh, hj, hT, hfe, rfl, hσ⟩
  rw [← execW_head, hσ]
  obtain ⟨b, hb⟩ : ∃ o, F[i]? = some o := ⟨_, List.getElem?_eq_getElem (by omega)⟩
  have hbF := hFb b (List.mem_of_getElem? hb)
  have hd : F.drop i = b :: F.drop (i + 1) := by
    have hlt : i < F.length := by omega
    have : F[i] = b := by rw [List.getElem?_eq_getElem hlt] at hb; exact Option.some.inj hb
    rw [List.drop_eq_getElem_cons hlt, this]
  have qx := bvs_at hb zf none .i64
  have hfl := g_field (lost := lost) hlt h b hh hbF.1 (hj b hb)
  have hap := fun σ H => app1 (m := P.md f_glue_Glue_Put) (d := 82) (bytes := 24) (v := bv (jn h b)) (R_glue_Glue_Put 82) (by omega) (by rw [bvs_len]; omega) (l := bvs out) (some 81) σ H
  rw [← bvs_snoc] at hap
  have w1 : IntKind.i64.wrap ((i : Int) + 1) = ((i + 1 : Nat) : Int) := by rw [wrap_i64 (by omega) (by omega)]; omega
  obtain ⟨f2, hf2⟩ : ∃ x, fi / 2 * 2 = x := ⟨_, rfl⟩
  obtain ⟨f1, hf1⟩ : ∃ x, fi % 2 = x := ⟨_, rfl⟩
  have a2 : binA .and .no (ai fi) (ai 2) = some (ai f2) := by
    have : fi = 0 ∨ fi = 1 ∨ fi = 2 ∨ fi = 3 := by omega
    rcases this with rfl | rfl | rfl | rfl <;> (subst hf2; rfl)
  have a1 : binA .and .no (ai fi) (ai 1) = some (ai f1) := by
    have : fi = 0 ∨ fi = 1 ∨ fi = 2 ∨ fi = 3 := by omega
    rcases this with rfl | rfl | rfl | rfl <;> (subst hf1; rfl)
  obtain ⟨la, hla⟩ : ∃ x, F.length - 1 = x := ⟨_, rfl⟩
  -- the two ways on
  have hgo : i < la → (∀ k, k < la - i → True) ∧ ∀ σ', σ' = L 89 (((((((Tr.full 7).put (path 0) (.ptr r 0 4)).put (path 1) (ai fi)).put (path 2) (lst zf 1 none (bvs F))).put (path 11) (lst true 1 (some 82) (bvs (out ++ [jn h b])))).put (path 12) (ai (i + 1 : Nat))).put (path 13) (ai la)) → ∃ m, m < zz ∧ InvPt H r lost F zf fi cut T hf m σ' (GG H r none lost) := fun hlt => ⟨fun _ _ => trivial, fun σ' hσ' => by
    obtain ⟨c, r', hdc⟩ : ∃ c r', F.drop (i + 1) = c :: r' := ⟨_, _, List.drop_eq_getElem_cons (by omega)⟩
    rw [hd, hdc, gp] at hT hfe
    refine ⟨zz - 1, by omega, i + 1, none, out ++ [jn h b], by omega, by simp; omega, fun _ => rfl, fun h => by omega, fun a h => by simp at h, fun x hx => (hFb x (List.mem_of_getElem? hx)).2, ?_, ?_, rfl, by rw [hσ', hla]⟩
    · rw [hT, hdc]; simp
    · rw [hfe, hdc]⟩
  have hla2 : i = la → T = out ++ (if cut = true then ([], some (jn h b)) else ([jn h b], none) : List Bs × Option Bs).1 ∧ hf = (if cut = true then ([], some (jn h b)) else ([jn h b], none) : List Bs × Option Bs).2 := fun he => by
    rw [hd, List.drop_of_length_le (by omega), gp] at hT hfe
    exact ⟨hT, hfe⟩
  rw [hla]
  have hbg : (0 < i ∧ h.isNone = true) ∨ (¬ 0 < i ∧ h.isNone = true ∧ f2 = 0) ∨ (¬ 0 < i ∧ h.isNone = false ∧ f2 = 2) := by
    by_cases hp : 0 < i
    · exact .inl ⟨hp, by rw [hi0 hp]; rfl⟩
    · have := hi1 (by omega)
      cases h with
      | none => exact .inr (.inl ⟨hp, rfl, by simp at this; omega⟩)
      | some a => exact .inr (.inr ⟨hp, rfl, by simp at this; omega⟩)
  unfold PostPt
  clear hσ hi0 hi1 hh hj hT hfe hbF hd
  have hf1' : f1 = 0 ∨ f1 = 1 := by omega
  have hcf : cut = decide (f1 = 1) := by rw [hcut, hf1]
  have hflT := hfl true
  have hflF := hfl false
  rw [if_pos rfl] at hflT
  rw [if_neg (by decide)] at hflF
  have hgo2 := fun h => (hgo h).2
  clear hfl hgo hb hcut hf2 hf1
  obtain ⟨i1, hi1⟩ : ∃ x, i + 1 = x := ⟨_, rfl⟩
  rw [hi1] at w1 hgo2
  have hila : i ≤ la := by omega
  generalize jn h b = J at *
  generalize GG H r h lost = G at *
  clear hz hfi hF hFb ho
  have main : ∀ bg : Bool, h.isNone = bg → (0 < i ∧ bg = true ∨ ¬ 0 < i ∧ bg = decide (f2 = 0)) → Ends (execW P f_glue_Glue_Put tsc0_glue_Glue_Put (L 89 (((((((Tr.full 7).put (path 0) (.ptr r 0 4)).put (path 1) (ai fi)).put (path 2) (lst zf 1 none (bvs F))).put (path 11) (lst true 1 (some 82) (bvs out))).put (path 12) (ai i)).put (path 13) (ai la))) G) fun s => if s.e = .goto 0 then ∃ m, m < zz ∧ InvPt H r lost F zf fi cut T hf m (kill (headK tsc0_glue_Glue_Put) s.σ) s.H else PostPt H r lost T hf s.e s.σ s.H := by
    intro bg hbe hc
    rw [hbe] at hflT hflF
    unfold PostPt
    rcases hc with ⟨hp, rfl⟩ | ⟨hp, rfl⟩
    · have c0 : (i : Int) > 0 := by omega
      have c0' : (0 : Int) < i := by omega
      by_cases he : i < la
      · have e0 : (i : Int) < la := by omega
        have e0' : True := trivial
        have hg := hgo2 he
        generalize GG H r none lost = Gn at *
        simp -implicitDefEqProofs [-toCells, -AV.one, -forget, c_glue_Glue_Put, tsc0_glue_Glue_Put, qx, hp, c0, c0', e0, e0', a1, a2, hflT, hap, w1]
        exact hg _ (by simp)
      · have e0 : ¬ (i : Int) < la := by omega
        have e0' : True := trivial
        obtain ⟨hT, hfe⟩ := hla2 (by omega)
        rcases hf1' with rfl | rfl
        · rw [if_neg (by rw [hcf]; decide)] at hT hfe
          rw [hT, hfe]
          generalize GG H r none lost = Gn at *
          simp -implicitDefEqProofs [-toCells, -AV.one, -forget, c_glue_Glue_Put, tsc0_glue_Glue_Put, qx, hp, c0, c0', e0, e0', a1, a2, hflT, hap]
          try simp [F_glue_Glue_Put]
        · rw [if_pos (by rw [hcf]; decide)] at hT hfe
          rw [hT, hfe]
          generalize GG H r (some J) lost = Gs at *
          simp -implicitDefEqProofs [-toCells, -AV.one, -forget, c_glue_Glue_Put, tsc0_glue_Glue_Put, qx, hp, c0, c0', e0, e0', a1, a2, hflF]
          try simp [F_glue_Glue_Put]
    · have c0 : ¬ (i : Int) > 0 := by omega
      have c0' : ¬ (0 : Int) < i := by omega
      obtain ⟨bg, hdf⟩ : ∃ x, decide (f2 = 0) = x := ⟨_, rfl⟩
      rw [hdf] at hflT hflF
      by_cases he : i < la
      · have e0 : (i : Int) < la := by omega
        have e0' : True := trivial
        have hg := hgo2 he
        generalize GG H r none lost = Gn at *
        simp -implicitDefEqProofs [-toCells, -AV.one, -forget, c_glue_Glue_Put, tsc0_glue_Glue_Put, qx, hp, c0, c0', e0, e0', a1, a2, hdf, hflT, hap, w1]
        exact hg _ (by simp)
      · have e0 : ¬ (i : Int) < la := by omega
        have e0' : True := trivial
        obtain ⟨hT, hfe⟩ := hla2 (by omega)
        rcases hf1' with rfl | rfl
        · rw [if_neg (by rw [hcf]; decide)] at hT hfe
          rw [hT, hfe]
          generalize GG H r none lost = Gn at *
          simp -implicitDefEqProofs [-toCells, -AV.one, -forget, c_glue_Glue_Put, tsc0_glue_Glue_Put, qx, hp, c0, c0', e0, e0', a1, a2, hdf, hflT, hap]
          try simp [F_glue_Glue_Put]
        · rw [if_pos (by rw [hcf]; decide)] at hT hfe
          rw [hT, hfe]
          generalize GG H r (some J) lost = Gs at *
          simp -implicitDefEqProofs [-toCells, -AV.one, -forget, c_glue_Glue_Put, tsc0_glue_Glue_Put, qx, hp, c0, c0', e0, e0', a1, a2, hdf, hflF]
          try simp [F_glue_Glue_Put]
  rcases hbg with ⟨h1, h2⟩ | ⟨h1, h2, h3⟩ | ⟨h1, h2, h3⟩
  · exact main _ h2 (.inl ⟨h1, rfl⟩)
  · exact main _ h2 (.inr ⟨h1, by rw [h3]; rfl⟩)
  · exact main _ h2 (.inr ⟨h1, by rw [h3]; rfl⟩)
end
end Go.A.V.S

namespace Go.A.V.S
open Go Go.A
set_option linter.unusedSimpArgs false
set_option linter.unusedVariables false
theorem g_empty1 (b : Bs) (H : Heap) : callW P f_glue_Glue_Put_1 [bv b] H = some (ab (decide (b.2.length = 0)), H) := by
  have hl := bv_len b
  obtain ⟨n, hn⟩ : ∃ x, b.2.length = x := ⟨_, rfl⟩
  rw [hn] at hl ⊢
  rw [call_L 3 rfl (rfl : P.T f_glue_Glue_Put_1 = some F_glue_Glue_Put_1) (le_ok rfl)]; simp -implicitDefEqProofs (disch := first | omega | (simp; done) | fail) [-toCells, -AV.one, -forget, F_glue_Glue_Put_1, c_glue_Glue_Put_1, cmp_ilt, cmp_ilf, cmp_ile, cmp_ilg, cmp_ine, cmp_nlt, cmp_nlf, cmp_nle, cmp_nne, cmp_neq, wrap_i64, wrap_u64, wrap_u8, hl]
theorem g_empties {F : List Bs} (hF : F.length ≤ 24) (hFb : ∀ b ∈ F, 1 ≤ b.2.length) (zf : Bool) (H : Heap) : callW P f_slices_ContainsFunc_ssbyte_sbyte [lst zf 1 none (bvs F), .fn f_glue_Glue_Put_1 []] H = some (ab false, H) := by
  have h := cnt_call (f1 := f_slices_ContainsFunc_ssbyte_sbyte) (f0 := f_slices_IndexFunc_ssbyte_sbyte) (k := 1) (ld := none) (z := zf) (l := bvs F) (f := f_glue_Glue_Put_1) (cs := []) (p := fun _ => false) (H := H) rfl (fun _ _ => rfl) rfl rfl rfl (fun _ _ => rfl) rfl (.inr ⟨rfl, rfl⟩) (fun c hc => by obtain ⟨n, _, rfl⟩ := List.mem_map.1 hc; rfl) (by rw [bvs_len]; omega) rfl rfl (fun c hc => by obtain ⟨n, _, rfl⟩ := List.mem_map.1 hc; exact ⟨by simp [elemV], by simp [elemV], by simp [elemV]⟩)
    (fun c hc => by
      obtain ⟨n, hn, rfl⟩ := List.mem_map.1 hc
      have := g_empty1 n H
      rw [decide_eq_false (by have := hFb n hn; omega)] at this
      exact this)
  rw [h]
  congr 2
  simp
section
variable {H : Heap} {r : Nat} {lost : Nat}
set_option maxHeartbeats 1000000 in
theorem g_Put (hlt : r < H.length) (h : Option Bs) (hh : ∀ a, h = some a → 1 ≤ a.2.length) {F : List Bs} (hF : F.length ≤ 24) (hF0 : F ≠ []) (hFb : ∀ b ∈ F, 1 ≤ b.2.length ∧ b.2.length ≤ 1000) (hj : ∀ b, F[0]? = some b → (jn h b).2.length ≤ 1000)
    (zf : Bool) {fi : Nat} (hfi : fi ≤ 3) (h2 : 2 ≤ fi ↔ h.isSome = true) :
    callW P f_glue_Glue_Put [.ptr r 0 4, ai fi, lst zf 1 none (bvs F), ab false] (GG H r h lost) = some (.tup [lst true 1 none (bvs (gp (decide (fi % 2 = 1)) h F).1), ai 0], GG H r (gp (decide (fi % 2 = 1)) h F).2 lost) := by
  obtain ⟨T, hT⟩ : ∃ x, (gp (decide (fi % 2 = 1)) h F).1 = x := ⟨_, rfl⟩
  obtain ⟨hf, hhf⟩ : ∃ x, (gp (decide (fi % 2 = 1)) h F).2 = x := ⟨_, rfl⟩
  rw [hT, hhf]
  suffices hs : Ends (callW P f_glue_Glue_Put [.ptr r 0 4, ai fi, lst zf 1 none (bvs F), ab false] (GG H r h lost)) fun y => y = (.tup [lst true 1 none (bvs T), ai 0], GG H r hf lost) by
    obtain ⟨y, h1, rfl⟩ := hs
    exact h1
  have hE := fun H => g_empties hF (fun b hb => (hFb b hb).1) zf H
  have r0 : rdRow (GG H r h lost) r 0 1 4 = some [ab true] := by rw [GG, RC_rd hlt]; rfl
  have hlF : lenW (lst zf 1 none (bvs F)) = some F.length := by rw [lenW_lst, bvs_len]
  have hlen : 1 ≤ F.length := by cases F with
    | nil => simp at hF0
    | cons a l => simp
  refine call_post 7 89 rfl (rfl : P.T f_glue_Glue_Put = some F_glue_Glue_Put) rfl (le_ok rfl) (PostPt H r lost T hf) ?_ ?_
  · rintro e σ G ⟨rfl, rfl, h2⟩
    refine ⟨rfl, _, h2, by simp, ?_⟩
    simp [finish_n, GG_len, GG_take]
  have hgl : (GG H r h lost).length = H.length := GG_len _ _ _ _
  have hI : ∀ σ, σ = L 89 (((((((Tr.full 7).put (path 0) (.ptr r 0 4)).put (path 1) (ai fi)).put (path 2) (lst zf 1 none (bvs F))).put (path 11) (nilS)).put (path 12) (ai 0)).put (path 13) (ai (F.length - 1 : Nat))) → InvPt H r lost F zf fi (decide (fi % 2 = 1)) T hf (F.length - 1) σ (GG H r h lost) := fun σ hσ =>
    ⟨0, h, [], by omega, by simp, fun h => by omega, fun _ => h2, hh, hj, by rw [List.drop_zero, hT]; simp, by rw [List.drop_zero, hhf], rfl, hσ⟩
  have hL := fun σ G => gput_tail (lost := lost) (zf := zf) (T := T) (hf := hf) hlt hF hFb hfi rfl (F.length - 1) σ G
  obtain ⟨n, hn⟩ : ∃ x, F.length = x := ⟨_, rfl⟩
  rw [hn] at hlF hlen hF
  have w1 : IntKind.i64.wrap ((n : Int) - 1) = ((F.length - 1 : Nat) : Int) := by rw [wrap_i64 (by omega) (by omega)]; omega
  obtain ⟨n1, hn1⟩ : ∃ x, F.length - 1 = x := ⟨_, rfl⟩
  rw [hn1] at w1 hI hL
  have c1 : ¬ (fi : Int) < 0 := by omega
  have c2 : ¬ (fi : Int) > 3 := by omega
  have c2' : ¬ (3 : Int) < fi := by omega
  have c3 : ¬ (n : Int) = 0 := by omega
  have c3' : ¬ n = 0 := by omega
  have c4 : ¬ (n : Int) > 24 := by omega
  have c4' : ¬ (24 : Int) < n := by omega
  generalize GG H r h lost = G at *
  clear hT hhf hh hj h2
  rw [F_glue_Glue_Put]; simp -implicitDefEqProofs [-toCells, -AV.one, -forget, c_glue_Glue_Put, hE, r0, hlF, w1, c1, c2, c2', c3, c3', c4, c4']
  exact hL _ _ (hI _ (by simp [tsc0_glue_Glue_Put]))
end
end Go.A.V.S
