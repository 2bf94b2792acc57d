/- A slice that is written, cloned. -/
import Derived.Test.YtekoolanpphbfaaXA
import Derived.Test.YtekoolanpphbfaaXC
import Derived.Test.YtekoolanpphbfaaXB
import Derived.Test.YtekoolanpphbfaaXE
set_option linter.unusedSimpArgs false
set_option linter.unusedVariables false
set_option linter.unnecessarySimpa false
namespace Go.A.V.S
open Go Go.A
set_option linter.unusedSimpArgs false
set_option linter.unusedVariables false
theorem appW_vsH {m : Md} {d sz bytes c : Nat} {l l' : List (List AV)} {x : AV} {H : Heap} (hx : elems H sz x = some l') (h1 : (l.length + l'.length) * bytes ≤ appBound) (h2 : l.length + l'.length ≤ appBound) (σ : List AV) :
    appW m (some d) sz bytes (.vs sz (some c) l) x σ H = some (.vs sz (some d) (l ++ l'), σ.map (unfl [c, d]), H) := by
  simp only [appW, appV, hx, Option.bind_some]
  rw [if_pos ⟨trivial, h1, h2⟩]
theorem Clone_sl {r off len cap g : Nat} {e : Bool} {o : List Nat} (H : Heap) (hel : elems H 1 (.sl r off len cap 1 g e) = some (byteCs o)) (hl : o.length ≤ 1000000) :
    callW P f_slices_Clone_sbyte_byte [.sl r off len cap 1 g e] H = some (lst false 1 (some 0) (byteCs o), H) := by
  have hap := fun σ => appW_vsH (m := P.md f_slices_Clone_sbyte_byte) (d := 7) (bytes := 1) (c := 5) (l := []) hel (by simp [appBound, byteCs_len]; omega) (by simp [appBound, byteCs_len]; omega) σ
  have hv : lst false 1 (some 0) (byteCs o) = .vs 1 (some 0) (byteCs o) := by
    rcases lst_cases false 1 (some 0) (byteCs o) with ⟨h, _, _⟩ | ⟨h, _⟩
    · simp at h
    · exact h
  rw [hv]
  generalize byteCs o = lo at *
  rw [call_L 4 rfl (rfl : P.T f_slices_Clone_sbyte_byte = some F_slices_Clone_sbyte_byte) (le_ok rfl)]; simp -implicitDefEqProofs [-toCells, -AV.one, -forget, F_slices_Clone_sbyte_byte, c_slices_Clone_sbyte_byte, hap]
end Go.A.V.S

namespace Go.A.V.S
open Go Go.A
set_option linter.unusedSimpArgs false
set_option linter.unusedVariables false
theorem cut_to3 {r off n cap g : Nat} {e : Bool} (hc : n ≤ cap) (d : Option Nat) : cutV 1 d (.sl r off n cap 1 g e) none (some (ai n)) (some (ai n)) = some (.sl r off n n 1 g true) := by
  simp only [cutV, cutA, cutBounds, capOf, highOf, lowOf]
  rw [if_pos hc, cutBound_nat .i64 hc, Option.bind_some, cutBound_nat .i64 (Nat.le_refl n)]
  simp
theorem bits_Read_sl {r off cap g : Nat} {e : Bool} {o : List Nat} (hc : o.length ≤ cap) (hb : o.length ≤ 8192) (H : Heap) (hel : ∀ cap e, elems H 1 (.sl r off o.length cap 1 g e) = some (byteCs o)) :
    callW P f_bits_Read [.sl r off o.length cap 1 g e] H = some (.ptr H.length 0 2, H ++ [.row [bv (false, o), ai 0]]) := by
  have h1 : mn (o.length : Int) 8192 = o.length := mn_le hb
  have h2 := fun d => cut_to3 (r := r) (off := off) (g := g) (e := e) hc d
  have h3 := Clone_sl H (hel o.length true) (by omega)
  obtain ⟨n, hn⟩ : ∃ t, o.length = t := ⟨_, rfl⟩
  rw [hn] at h1 h2 h3 ⊢
  have hbv : bv (false, o) = lst false 1 none (byteCs o) := rfl
  rw [hbv]
  generalize byteCs o = lo at *
  clear hel
  rw [call_L 4 rfl (rfl : P.T f_bits_Read = some F_bits_Read) (le_ok rfl)]; simp -implicitDefEqProofs [-toCells, -AV.one, -forget, F_bits_Read, c_bits_Read, h1, h2, h3]
end Go.A.V.S

namespace Go.A.V.S
open Go Go.A
set_option linter.unusedSimpArgs false
set_option linter.unusedVariables false
theorem cut_to {r off n j cap g : Nat} {e : Bool} (hj : j ≤ n) (hc : n ≤ cap) (d : Option Nat) : cutV 1 d (.sl r off n cap 1 g e) none (some (ai j)) none = some (.sl r off j cap 1 g e) := by
  simp only [cutV, cutA, cutBounds, capOf, highOf, lowOf]
  rw [if_pos hc]
  simp only [Option.bind_some]
  rw [cutBound_nat .i64 (by omega)]
  simp
theorem lens_Read_sl {r off cap g : Nat} {e : Bool} {o : List Nat} (hcap : o.length ≤ cap) (hb : o.length ≤ 8192) (hby : Bytes o) {w : Nat} (hw : w = 11 ∨ w = 15) (H : Heap) (hel : ∀ j, j ≤ o.length → ∀ cap e, elems H 1 (.sl r off j cap 1 g e) = some (byteCs (o.take j))) : callW P f_lens_Read [.sl r off o.length cap 1 g e, ai w] H = some (resL o w none, H ++ [.other]) := by
  have h := fun H => lens_isWidth w H
  have hd : decide ((w : Int) = 11 ∨ (w : Int) = 15) = true := by rcases hw with rfl | rfl <;> simp
  rw [hd] at h
  have hs : ∀ H, callW P f_lens_Size [ai 23, ai w] H = some (ai (lsize 23 w : Nat), H) := fun H => lens_Size 23 w hw (by omega) H
  have h23 := lsize23 hw
  obtain ⟨ls, hls⟩ : ∃ t, lsize 23 w = t := ⟨_, rfl⟩
  rw [hls] at hs h23
  obtain ⟨j, hj, hjl, hjv⟩ : ∃ j : Nat, mn (o.length : Int) (ls : Int) = j ∧ j ≤ o.length ∧ (j = o.length ∨ j = ls) := by
    by_cases hc : (ls : Int) < o.length
    · exact ⟨ls, by simp only [mn]; rw [if_pos hc], by omega, .inr rfl⟩
    · exact ⟨o.length, by simp only [mn]; rw [if_neg hc], by omega, .inl rfl⟩
  have hc := fun d => cut_to (r := r) (off := off) (g := g) (e := e) hjl hcap d
  have hjt : (o.take j).length = j := by rw [List.length_take]; omega
  have hres : ∀ f, resL (o.take j) w f = resL o w f := fun f => by
    rcases hjv with rfl | rfl
    · rw [List.take_length]
    · exact resL_take (by omega) f
  have hrd := bits_Read_sl (r := r) (off := off) (cap := cap) (g := g) (e := e) (o := o.take j) (by omega) (by omega) H (fun cap e => by rw [hjt]; exact hel j hjl cap e)
  rw [hjt] at hrd
  obtain ⟨z, hz⟩ : ∃ t, false = t := ⟨_, rfl⟩
  rw [hz] at hrd
  rw [ends_eq]
  refine call_post 7 69 rfl (rfl : P.T f_lens_Read = some F_lens_Read) rfl (le_ok rfl) (PostL (H ++ [.row [bv (z, o.take j), ai 0]]) H.length (z, o.take j) w) ?_ ?_
  · rintro e σ G ⟨rfl, q2, a, rfl⟩
    rw [hres] at q2
    rw [RD_new]
    exact ⟨rfl, _, q2, by simp, by simp⟩
  have hM := RD_new H (.row [bv (z, o.take j), ai 0]) (z, o.take j) 0
  rw [F_lens_Read]; simp -implicitDefEqProofs [-toCells, -AV.one, -forget, c_lens_Read, h, hs, hj, hc, hrd]
  refine lens_tail (by simp) (by simp; omega) (fun x hx => hby x (List.mem_of_mem_take hx)) hw 22 _ _ ?_
  exact ⟨0, 0, by omega, by omega, by omega, rfl, hM.symm, by simp [tsc0_lens_Read, lvals, nvs]⟩
end Go.A.V.S

namespace Go.A.V.S
open Go Go.A
set_option linter.unusedSimpArgs false
set_option linter.unusedVariables false
theorem cut_to3j {r off n j cap g : Nat} {e : Bool} (hj : j ≤ n) (hc : n ≤ cap) (d : Option Nat) : cutV 1 d (.sl r off n cap 1 g e) none (some (ai j)) (some (ai j)) = some (.sl r off j j 1 g true) := by
  simp only [cutV, cutA, cutBounds, capOf, highOf, lowOf]
  rw [if_pos hc, cutBound_nat .i64 (Nat.le_trans hj hc), Option.bind_some, cutBound_nat .i64 (Nat.le_refl j)]
  simp
theorem cut_fromj {r off n j cap g : Nat} {e : Bool} (hj : j ≤ n) (hc : n ≤ cap) (d : Option Nat) : cutV 1 d (.sl r off n cap 1 g e) (some (ai j)) none none = some (.sl r (if cap = j then off else off + j) (n - j) (cap - j) 1 g e) := by
  simp only [cutV, cutA, cutBounds, capOf, highOf, lowOf]
  rw [if_pos hc]
  simp only [Option.bind_some]
  rw [cutBound_nat .i64 hj]
  simp
/-- What a row holds, piece by piece. -/
def RV1 (H : Heap) (r g : Nat) (full : List Nat) : Prop := ∀ off n cap e, off + n ≤ full.length → elems H 1 (.sl r off n cap 1 g e) = some (byteCs ((full.drop off).take n))
def InvFs (H : Heap) (r g : Nat) (full : List Nat) (zl : Bool) (l : List Nat) (bs : List Nat) (z : Nat) (σ : List AV) (G : Heap) : Prop :=
  ∃ (i off n cap : Nat) (e : Bool) (out : List Bs), i + z = l.length ∧ out.length = i ∧ n ≤ 10000 ∧ off + n ≤ full.length ∧ n ≤ cap ∧ cutF bs l = (cutF ((full.drop off).take n) (l.drop i)).map (fun r => out.map (·.2) ++ r) ∧ G = H ∧
    σ = L 51 (((((Tr.full 6).put (path 0) (.sl r off n cap 1 g e)).put (path 1) (lst zl 1 none (nvs l))).put (path 6) (lst true 1 (some 34) (bvs out))).put (path 7) (ai i))
set_option maxHeartbeats 1000000 in
theorem fields_tail_s {H : Heap} {r g : Nat} {full : List Nat} (hv : RV1 H r g full) {zl : Bool} {l bs : List Nat} (hll : l.length ≤ 23) (hsm : ∀ n ∈ l, n ≤ 2047) (hnov : (l.any fun n => decide (2047 < n)) = false) (z : Nat) (σ : List AV) (G : Heap) (hI : InvFs H r g full zl l bs z (kill (headK tsc0_amd_fields) σ) G) :
    Ends ((execW P f_amd_fields tsc0_amd_fields σ G).bind (jumpW P f_amd_fields sc0_amd_fields 0)) fun s => PostF H l bs s.e s.σ s.H := by
  refine scope_ends (InvFs H r g full zl l bs) (PostF H l bs) rfl ?_ z σ G hI
  clear hI z σ G
  rintro z σ G ⟨i, off, n0, cap, e, out, hz, ho, hb, hof, hcp, hcut, rfl, hσ⟩
  obtain ⟨B, hB⟩ : ∃ t, (full.drop off).take n0 = t := ⟨_, rfl⟩
  have hBl : B.length = n0 := by rw [← hB, List.length_take, List.length_drop]; omega
  rw [hB] at hcut
  rw [← execW_head, hσ]
  have hlen : (nvs l).length = l.length := nvs_len l
  have hR : fieldsR bs l = match cutF bs l with
    | none => (8, [])
    | some ff => (0, ff) := by rw [fieldsR, hnov]; rfl
  by_cases hi : i < l.length
  · have hi' : (i : Int) < l.length := by omega
    obtain ⟨n, hn⟩ : ∃ n, l[i]? = some n := ⟨_, List.getElem?_eq_getElem hi⟩
    have hn2 := hsm n (List.mem_of_getElem? hn)
    have q1 := nvs_at hn zl none .i64
    have hdr : l.drop i = n :: l.drop (i + 1) := by
      rw [List.drop_eq_getElem_cons hi]
      rw [List.getElem?_eq_getElem hi] at hn
      rw [Option.some.inj hn]
    rw [hdr, cutF] at hcut
    rw [hBl] at hcut
    by_cases hc : n0 < n
    · have hc' : (n : Int) > n0 := by omega
      have hc'' : (n0 : Int) < n := by omega
      rw [if_pos hc, Option.map_none] at hcut
      rw [hcut] at hR
      simp -implicitDefEqProofs [-toCells, -AV.one, -forget, c_amd_fields, tsc0_amd_fields, hlen, hi, hi', q1, hc, hc', hc'']
      exact ⟨rfl, rfl, [], by rw [hR]; rfl, by rw [hR]; simp [F_amd_fields, bvs]⟩
    · have hc' : ¬ (n : Int) > n0 := by omega
      have hc'' : ¬ (n0 : Int) < n := by omega
      rw [if_neg hc] at hcut
      have c1 := fun d => cut_to3j (r := r) (off := off) (g := g) (e := e) (show n ≤ n0 by omega) hcp d
      have c3 := fun d => cut_fromj (r := r) (off := off) (g := g) (e := e) (show n ≤ n0 by omega) hcp d
      have hel := hv off n n true (by omega)
      have e1 : (full.drop off).take n = B.take n := by rw [← hB, List.take_take, Nat.min_eq_left (by omega)]
      rw [e1] at hel
      have c2 := Clone_sl _ hel (by rw [List.length_take]; omega)
      obtain ⟨x, hx⟩ : ∃ x : Bs, (false, B.take n) = x := ⟨_, rfl⟩
      have ex : x.2 = B.take n := by rw [← hx]
      rw [← ex] at c2
      have ex1 : x.1 = false := by rw [← hx]
      rw [← ex1] at c2
      obtain ⟨off2, hoff2⟩ : ∃ t, (if cap = n then off else off + n) = t := ⟨_, rfl⟩
      rw [hoff2] at c3
      have hB2 : (full.drop off2).take (n0 - n) = B.drop n := by
        rw [← hoff2, ← hB]
        by_cases hcn : cap = n
        · rw [if_pos hcn, show n0 - n = 0 by omega, List.take_zero, List.drop_eq_nil_of_le (by rw [List.length_take]; omega)]
        · rw [if_neg hcn, List.drop_take, List.drop_drop]
      have ho2 : off2 + (n0 - n) ≤ full.length := by rw [← hoff2]; split <;> omega
      have hap := fun σ H => app1 (m := P.md f_amd_fields) (d := 34) (bytes := 24) (v := bv x) (R_amd_fields 34) (by omega) (by rw [bvs_len]; omega) (l := bvs out) (some 33) σ H
      rw [← bvs_snoc] at hap
      have w6 : IntKind.i64.wrap ((i : Int) + 1) = ((i + 1 : Nat) : Int) := by rw [wrap_i64 (by omega) (by omega)]; omega
      obtain ⟨i1, hi1⟩ : ∃ t, i + 1 = t := ⟨_, rfl⟩
      rw [hi1] at w6 hcut
      simp -implicitDefEqProofs [-toCells, -AV.one, -forget, c_amd_fields, tsc0_amd_fields, hlen, hi, hi', q1, hc, hc', hc'', c1, bvf, c2, hap, c3, w6]
      refine ⟨z - 1, by omega, i1, off2, n0 - n, cap - n, e, out ++ [x], by omega, by simp; omega, by omega, ho2, by omega, ?_, rfl, by simp⟩
      rw [hcut, hB2]
      cases cutF (B.drop n) (l.drop i1) with
      | none => rfl
      | some r => simp [ex]
  · have hi' : ¬ (i : Int) < l.length := by omega
    have hd : l.drop i = [] := List.drop_eq_nil_of_le (by omega)
    rw [hd, cutF] at hcut
    rw [hBl] at hcut
    by_cases h0 : n0 = 0
    · have h0' : (n0 : Int) = 0 := by omega
      rw [if_pos h0, Option.map_none] at hcut
      rw [hcut] at hR
      simp -implicitDefEqProofs [-toCells, -AV.one, -forget, c_amd_fields, tsc0_amd_fields, hlen, hi, hi', h0, h0']
      exact ⟨rfl, rfl, [], by rw [hR]; rfl, by rw [hR]; simp [F_amd_fields, bvs]⟩
    · have h0' : ¬ (n0 : Int) = 0 := by omega
      rw [if_neg h0] at hcut
      rw [hcut] at hR
      have hel := hv off n0 cap e hof
      rw [hB] at hel
      obtain ⟨b, hbb⟩ : ∃ x : Bs, (false, B) = x := ⟨_, rfl⟩
      have eb : b.2 = B := by rw [← hbb]
      have c2 := Clone_sl _ hel (by omega)
      rw [← eb] at c2
      have eb1 : b.1 = false := by rw [← hbb]
      rw [← eb1] at c2
      rw [← eb] at hcut hR
      have hg : ((out.length + 1) * 24 : Nat) ≤ 100000 := by omega
      obtain ⟨cs, hap⟩ := appW_c (m := P.md f_amd_fields) (d := 50) (sz := 1) (bytes := 24) (c := 34) (l := bvs out) (l' := [[bv b]]) (x := .vs 1 (some 49) [[bv b]]) (R_amd_fields 50) (fun H => elems_vs H 1 (some 49) [[bv b]]) (.inr (by simp)) (by simp [bvs_len, appBound]; omega) (by simp [bvs_len, appBound]; omega)
      rw [← bvs_snoc] at hap
      simp -implicitDefEqProofs [-toCells, -AV.one, -forget, c_amd_fields, tsc0_amd_fields, hlen, hi, hi', h0, h0', c2, bvf, hap]
      refine ⟨rfl, rfl, out ++ [b], by rw [hR]; simp, ?_⟩
      have hne : bvs (out ++ [b]) ≠ [] := by simp [bvs]
      rw [hR]
      simp [F_amd_fields, lst_ne hne]
theorem amd_fields_sl {r off cap g n0 : Nat} {e : Bool} {full : List Nat} {zl : Bool} {l : List Nat} (H : Heap) (hv : RV1 H r g full) (hof : off + n0 ≤ full.length) (hcp : n0 ≤ cap) (hb : n0 ≤ 10000) (hll : l.length ≤ 23) : ∃ out : List Bs, out.map (·.2) = (fieldsR ((full.drop off).take n0) l).2 ∧ callW P f_amd_fields [.sl r off n0 cap 1 g e, lst zl 1 none (nvs l)] H = some (.tup [lst true 1 none (bvs out), ai ((fieldsR ((full.drop off).take n0) l).1 : Nat)], H) := by
  have hov := amd_over zl l (by omega) H
  cases hany : (l.any fun n => decide (2047 < n)) with
  | true =>
    have hR : fieldsR ((full.drop off).take n0) l = (3, []) := by rw [fieldsR, if_pos hany]
    rw [hany] at hov
    refine ⟨[], by rw [hR]; rfl, ?_⟩
    rw [hR]
    rw [call_L 6 rfl (rfl : P.T f_amd_fields = some F_amd_fields) (le_ok rfl)]; simp -implicitDefEqProofs [-toCells, -AV.one, -forget, F_amd_fields, c_amd_fields, hov]
    rfl
  | false =>
    rw [hany] at hov
    have hsm : ∀ n ∈ l, n ≤ 2047 := fun n hn => by
      have := List.any_eq_false.1 hany n hn
      simpa using this
    have key : Ends (callW P f_amd_fields [.sl r off n0 cap 1 g e, lst zl 1 none (nvs l)] H) fun y => ∃ out : List Bs, out.map (·.2) = (fieldsR ((full.drop off).take n0) l).2 ∧ y = (.tup [lst true 1 none (bvs out), ai ((fieldsR ((full.drop off).take n0) l).1 : Nat)], H) := by
      refine call_post 6 51 rfl (rfl : P.T f_amd_fields = some F_amd_fields) rfl (le_ok rfl) (PostF H l ((full.drop off).take n0)) ?_ ?_
      · rintro e σ G ⟨rfl, rfl, out, h1, h2⟩
        exact ⟨rfl, _, h2, by simp, by simp; exact ⟨out, h1, rfl⟩⟩
      rw [F_amd_fields]; simp -implicitDefEqProofs [-toCells, -AV.one, -forget, c_amd_fields, hov]
      refine fields_tail_s (zl := zl) hv hll hsm hany l.length _ _ ?_
      refine ⟨0, off, n0, cap, e, [], by omega, rfl, hb, hof, hcp, ?_, rfl, by simp [tsc0_amd_fields, bvs]⟩
      simp
    obtain ⟨y, h1, out, h2, rfl⟩ := key
    exact ⟨out, h2, h1⟩
end Go.A.V.S

namespace Go.A.V.S
open Go Go.A
set_option linter.unusedSimpArgs false
set_option linter.unusedVariables false
theorem RV1_app {H : Heap} {r g : Nat} {full : List Nat} (h : RV1 H r g full) (hr : r < H.length) (X : Heap) : RV1 (H ++ X) r g full := fun off n cap e hn => by
  have := h off n cap e hn
  simp only [elems, rdRow0, rdRow] at this ⊢
  rw [List.getElem?_append_left hr]
  exact this
theorem RV1_of {H : Heap} {r : Nat} {full : List Nat} (h : H[r]? = some (.grow (full.map fun x => au x) 0)) : RV1 H r full.length full := fun off n cap e hn => by
  have e1 : rdRow0 H r off (n * 1) full.length = some (((full.drop off).take n).map fun x => au x) := by
    refine rdRow0_of (fun _ => ?_) (fun h0 => ?_)
    · simp only [rdRow, h, AObj.isRow, AObj.lo, AObj.cells]
      rw [if_pos ⟨trivial, by omega, by omega, by simp⟩, Nat.mul_one, List.map_take, List.map_drop]
    · rw [show n = 0 by omega, List.take_zero, List.map_nil]
  simp only [elems, e1]
  have hall : (((full.drop off).take n).map fun x => au x).all okCell = true := List.all_eq_true.2 fun x hx => by
    obtain ⟨y, _, rfl⟩ := List.mem_map.1 hx
    rfl
  have hc : ∀ l : List Nat, chunk 1 l.length (l.map fun x => au x) = byteCs l := by
    intro l
    induction l with
    | nil => rfl
    | cons x r ih => simp only [List.length_cons, List.map_cons, chunk, List.take_succ_cons, List.take_zero, List.drop_succ_cons, List.drop_zero, ih]; rfl
  have hl : ((full.drop off).take n).length = n := by rw [List.length_take, List.length_drop]; omega
  have := hc ((full.drop off).take n)
  rw [hl] at this
  simp only [Nat.one_ne_zero, if_false, Option.bind_some, hall, if_true, this]
theorem RV1_at {H : Heap} {r g : Nat} {full : List Nat} (h : RV1 H r g full) {x : Nat} {l : List Nat} (hf : full = x :: l) : rdRow H r 0 1 g = some [au x] := by
  have h1 := h 0 1 1 true (by rw [hf]; simp)
  rw [hf] at h1
  simp only [elems, rdRow0, List.drop_zero, List.take_succ_cons, List.take_zero, Nat.one_mul, Nat.one_ne_zero, if_false] at h1
  obtain ⟨cs, e1, e2⟩ := Option.bind_eq_some_iff.1 h1
  split at e2
  · have hl := rdRow_len e1
    obtain ⟨a, rfl⟩ := List.length_eq_one_iff.1 hl
    simp only [chunk, List.take_succ_cons, List.take_zero, Option.some.injEq] at e2
    have e3 : byteCs [x] = [[au x]] := rfl
    rw [e3] at e2
    rw [e1]
    simp at e2
    rw [e2]
  · simp at e2

set_option maxHeartbeats 2000000 in
theorem amd_Read_sl {r g cap N : Nat} {e : Bool} {full : List Nat} (hN : full.length = N) (hcap : N ≤ cap) (hb : N ≤ 8192) (hby : Bytes full) (w : Int) (H : Heap) (hv : RV1 H r g full) (hr : r < H.length) :
    ∃ (out : List Bs) (k : Nat), out.map (·.2) = (readR full w).2 ∧ callW P f_amd_Read [.sl r 0 N cap 1 g e, ai w] H = some (readV full w (lst true 1 none (bvs out)), H ++ List.replicate k .other) := by
  have h37 := fun H => amd_isWidth w H
  by_cases hw : w = 10 ∨ w = 16
  · have hwd : decide (w = 10 ∨ w = 16) = true := by simp [hw]
    rw [hwd] at h37
    obtain ⟨wn, rfl, hwn⟩ : ∃ wn : Nat, w = wn ∧ (wn = 10 ∨ wn = 16) := by
      rcases hw with rfl | rfl
      · exact ⟨10, rfl, .inl rfl⟩
      · exact ⟨16, rfl, .inr rfl⟩
    have htn : ((wn : Nat) : Int).toNat = wn := by simp
    by_cases hlong : 4000 < N
    · have hlong' : (N : Int) > 4000 := by omega
      have hlong'' : (4000 : Int) < N := by omega
      have hR : readR full wn = (2, []) := by rw [readR, if_pos hw, if_pos (by omega)]
      refine ⟨[], 0, by rw [hR]; rfl, ?_⟩
      rw [readV, hR]
      rw [call_L 7 rfl (rfl : P.T f_amd_Read = some F_amd_Read) (le_ok rfl)]; simp -implicitDefEqProofs [-toCells, -AV.one, -forget, F_amd_Read, c_amd_Read, h37, hlong, hlong', hlong'', noPkt, pktV]
    · have hlong' : ¬ (N : Int) > 4000 := by omega
      have hlong'' : ¬ (4000 : Int) < N := by omega
      by_cases h0 : N = 0
      · have h0' : (N : Int) = 0 := by omega
        have hR : readR full wn = (8, []) := by rw [readR, if_pos hw, if_neg (by omega), if_pos (by omega)]
        refine ⟨[], 0, by rw [hR]; rfl, ?_⟩
        rw [readV, hR]
        rw [call_L 7 rfl (rfl : P.T f_amd_Read = some F_amd_Read) (le_ok rfl)]; simp -implicitDefEqProofs [-toCells, -AV.one, -forget, F_amd_Read, c_amd_Read, h37, hlong, hlong', hlong'', h0, h0', noPkt, pktV]
      · have h0' : ¬ (N : Int) = 0 := by omega
        obtain ⟨b0, hb0⟩ : ∃ x, full[0]? = some x := ⟨_, List.getElem?_eq_getElem (by omega)⟩
        have hb256 := hby b0 (List.mem_of_getElem? hb0)
        obtain ⟨fl, hfl⟩ : ∃ l, full = b0 :: l := by
          cases hfu : full with
          | nil => rw [hfu] at hb0; simp at hb0
          | cons x l => rw [hfu] at hb0; simp at hb0; exact ⟨l, by rw [hb0]⟩
        have q1 := RV1_at hv hfl
        clear hfl
        have h0'' : 0 < N := by omega
        have a128 := and128 ⟨b0, hb256⟩
        have a64 := and64 ⟨b0, hb256⟩
        simp only at a128 a64
        have n0 : numAt full 0 1 = b0 / 128 % 2 := numAt_bit (a := 0) hb0
        have n1 : numAt full 1 1 = b0 / 64 % 2 := numAt_bit (a := 1) hb0
        by_cases hz : numAt full 0 1 = 0
        · have hR : readR full wn = (4, []) := by rw [readR, if_pos hw, if_neg (by omega), if_neg (by omega), if_pos hz]
          rw [if_neg (by omega)] at a128
          refine ⟨[], 0, by rw [hR]; rfl, ?_⟩
          rw [readV, hR]
          rw [call_L 7 rfl (rfl : P.T f_amd_Read = some F_amd_Read) (le_ok rfl)]; simp -implicitDefEqProofs [-toCells, -AV.one, -forget, F_amd_Read, c_amd_Read, binA_andI, h37, hlong, hlong', hlong'', h0, h0', h0'', q1, a128, noPkt, pktV]
        · rw [if_pos (by omega)] at a128
          have hpd : hPart full = decide (b0 / 64 % 2 = 1) := by rw [hPart, n1]
          have hne : decide (andI .u8 (b0 : Int) 64 ≠ 0) = hPart full := by
            rw [a64, hpd]
            by_cases hq : b0 / 64 % 2 = 1 <;> simp [hq]
          have h28 := fun H => amd_Head (hPart full) wn H
          have hvq := headV_eq (part := hPart full) hwn
          obtain ⟨n, hn⟩ : ∃ n, headV (hPart full) wn = n := ⟨_, rfl⟩
          simp only [ne_eq] at hne
          by_cases hs : N < headV (hPart full) wn
          · have hs' : (N : Int) < (headV (hPart full) wn : Nat) := by omega
            have hR : readR full wn = (8, []) := by rw [readR, if_pos hw, if_neg (by omega), if_neg (by omega), if_neg hz, if_pos (by omega)]
            refine ⟨[], 0, by rw [hR]; rfl, ?_⟩
            rw [readV, hR]
            rw [hn] at hs hs' h28
            rw [call_L 7 rfl (rfl : P.T f_amd_Read = some F_amd_Read) (le_ok rfl)]; simp -implicitDefEqProofs [-toCells, -AV.one, -forget, F_amd_Read, c_amd_Read, -decide_not, binA_andI, h37, hlong, hlong', hlong'', h0, h0', h0'', q1, a128, hne, h28, hs, hs', noPkt, pktV]
          · have hs' : ¬ (N : Int) < (headV (hPart full) wn : Nat) := by omega
            obtain ⟨t1, t2, t3, t4⟩ := head_take (bs := full) hwn (by omega)
            have hR : readR full wn = if hOk full wn = true then restR full wn else (3, []) := by rw [readR, if_pos hw, if_neg (by omega), if_neg (by omega), if_neg hz, if_neg (by omega), htn]
            have hRR : restR full wn = if hMore full = true then (if (lensR (full.drop n) (lenWd wn)).2 = 0 then fieldsR ((full.drop n).drop (lsize (lensR (full.drop n) (lenWd wn)).1 (lenWd wn))) (lvals (full.drop n) (lenWd wn) (lensR (full.drop n) (lenWd wn)).1) else ((lensR (full.drop n) (lenWd wn)).2, [])) else fieldsR (full.drop n) [] := by
              rw [← hn]; rfl
            have htk := t1
            have t4 := t4 nilS
            rw [hn] at t1 t2 t3 t4 h28 hs hs' hvq
            have hl1 : (full.take n).length = n := by rw [List.length_take]; omega
            have c1 := fun d => cut_to (r := r) (off := 0) (n := N) (g := g) (e := e) (j := n) (by omega) hcap d
            have r1 := bits_Read_sl (r := r) (off := 0) (cap := cap) (g := g) (e := e) (o := full.take n) (by omega) (by omega) H (fun cap e => by rw [hl1]; exact hv 0 n cap e (by omega))
            rw [hl1] at r1
            obtain ⟨z, hz9⟩ : ∃ t, false = t := ⟨_, rfl⟩
            rw [hz9] at r1
            obtain ⟨a, s1⟩ := readHead (M := H ++ [.row [bv (z, full.take n), ai 0]]) (rr := H.length) (b := (z, full.take n)) (by simp) (by simp; omega) (fun x hx => hby x (List.mem_of_mem_take hx)) hwn (by simp only; rw [hl1, t1, hn])
            rw [RD_new, RD_new] at s1
            simp only at s1
            rw [t2, t3, t4] at s1
            replace s1 : callW P f_amd_readHead [.ptr H.length 0 2, ai wn] (H ++ [.row [bv (z, full.take n), ai 0]]) = _ := s1
            by_cases hok : hOk full wn = true
            · rw [if_pos hok] at hR
              have d1 := fun d => cut_fromj (r := r) (off := 0) (n := N) (g := g) (e := e) (j := n) (by omega) hcap d
              obtain ⟨b', hb3⟩ : ∃ t, full.drop n = t := ⟨_, rfl⟩
              obtain ⟨o1, ho1⟩ : ∃ t, (if cap = n then 0 else 0 + n) = t := ⟨_, rfl⟩
              rw [ho1] at d1
              have hbn : b'.length = N - n := by rw [← hb3, List.length_drop, hN]
              have hod : o1 + (N - n) ≤ full.length ∧ (full.drop o1).take (N - n) = b' := by
                rw [← ho1, ← hb3]
                by_cases hcn : cap = n
                · rw [if_pos hcn, show N - n = 0 by omega, List.take_zero, List.drop_eq_nil_of_le (by omega)]
                  exact ⟨by omega, rfl⟩
                · rw [if_neg hcn, Nat.zero_add, List.take_of_length_le (by rw [List.length_drop]; omega)]
                  exact ⟨by omega, rfl⟩
              obtain ⟨hod1, hod2⟩ := hod
              obtain ⟨n1, hn1⟩ : ∃ t, N - n = t := ⟨_, rfl⟩
              obtain ⟨cap1, hcap1⟩ : ∃ t, cap - n = t := ⟨_, rfl⟩
              have hcap' : n1 ≤ cap1 := by omega
              rw [hn1] at d1 hbn hod1 hod2
              rw [hcap1] at d1
              rw [hRR, hb3] at hR
              have hbl : n1 ≤ 10000 := by omega
              by_cases hmore : hMore full = true
              · rw [if_pos hmore] at hR
                have hlw : lenWd wn = 11 ∨ lenWd wn = 15 := by rcases hwn with rfl | rfl <;> simp [lenWd]
                have h41 := fun H => amd_lenWidth wn H
                obtain ⟨lw, hlwe⟩ : ∃ x, lenWd wn = x := ⟨_, rfl⟩
                rw [hlwe] at hlw h41 hR
                obtain ⟨HL, hHL⟩ : ∃ t, H ++ [.row [bv (z, full.take n), ai a], .other] = t := ⟨_, rfl⟩
                have hvl : RV1 HL r g full := by rw [← hHL]; exact RV1_app hv hr _
                have l1 := lens_Read_sl (r := r) (off := o1) (cap := cap1) (g := g) (e := e) (o := b') (by omega) (by omega) (fun x hx => hby x (by rw [← hb3] at hx; exact List.mem_of_mem_drop hx)) hlw HL (fun j hj cap e => by
                  have := hvl o1 j cap e (by omega)
                  rw [this, ← hod2, List.take_take, Nat.min_eq_left (by omega)])
                rw [hbn] at l1
                by_cases he : (lensR b' lw).2 = 0
                · rw [if_pos he] at hR
                  have hok2 := lensR_ok he
                  obtain ⟨cn, hcn⟩ : ∃ x, (lensR b' lw).1 = x := ⟨_, rfl⟩
                  have hres : resL b' lw none = .tup [lst true 1 none (nvs (lvals b' lw cn)), ai (lsize cn lw : Nat), ai 0] := by rw [resL, if_pos he, hcn]
                  rw [hcn] at hok2 hR
                  rw [hres] at l1
                  have hsz : lsize cn lw ≤ n1 := by
                    have : lsize cn lw = (cn * (lw + 1) + 7) / 8 := by rw [lsize, if_neg (by omega)]
                    omega
                  obtain ⟨k, hk⟩ : ∃ x, lsize cn lw = x := ⟨_, rfl⟩
                  rw [hk] at hsz l1 hR
                  have f1 := fun d => cut_fromj (r := r) (off := o1) (n := n1) (g := g) (e := e) (j := k) (by omega) hcap' d
                  obtain ⟨b2, hb4⟩ : ∃ t, b'.drop k = t := ⟨_, rfl⟩
                  obtain ⟨o2, ho2⟩ : ∃ t, (if cap1 = k then o1 else o1 + k) = t := ⟨_, rfl⟩
                  rw [ho2] at f1
                  have hoe : o2 + (n1 - k) ≤ full.length ∧ (full.drop o2).take (n1 - k) = b2 := by
                    rw [← ho2, ← hb4]
                    by_cases hcn : cap1 = k
                    · rw [if_pos hcn, show n1 - k = 0 by omega, List.take_zero, List.drop_eq_nil_of_le (by omega)]
                      exact ⟨by omega, rfl⟩
                    · rw [if_neg hcn, ← hod2, List.drop_take, List.drop_drop]
                      exact ⟨by omega, rfl⟩
                  obtain ⟨hoe1, hoe2⟩ := hoe
                  obtain ⟨n2, hn2⟩ : ∃ t, n1 - k = t := ⟨_, rfl⟩
                  obtain ⟨cap2, hcap2⟩ : ∃ t, cap1 - k = t := ⟨_, rfl⟩
                  have hcap'' : n2 ≤ cap2 := by omega
                  rw [hn2] at f1 hoe1 hoe2
                  rw [hcap2] at f1
                  rw [hb4] at hR
                  have hll : (lvals b' lw cn).length ≤ 23 := by rw [lvals_len]; omega
                  obtain ⟨ls, hls⟩ : ∃ t, lvals b' lw cn = t := ⟨_, rfl⟩
                  rw [hls] at l1 hR hll
                  obtain ⟨out, g0, g1⟩ := amd_fields_sl (zl := true) (l := ls) (r := r) (g := g) (off := o2) (n0 := n2) (cap := cap2) (e := e) (HL ++ [.other]) (RV1_app hvl (by rw [← hHL]; simp; omega) _) hoe1 hcap'' (by omega) hll
                  rw [hoe2] at g0 g1
                  obtain ⟨ee, he4⟩ : ∃ x, (fieldsR b2 ls).1 = x := ⟨_, rfl⟩
                  rw [he4] at g1
                  rw [← hHL] at g1 l1
                  simp only [List.append_assoc, List.cons_append, List.nil_append] at g1 l1
                  refine ⟨out, 3, by rw [hR]; exact g0, ?_⟩
                  rw [readV, hR, he4]
                  by_cases hee : ee = 0
                  · have hee' : (ee : Int) = 0 := by omega
                    rw [call_L 7 rfl (rfl : P.T f_amd_Read = some F_amd_Read) (le_ok rfl)]; simp -implicitDefEqProofs [-toCells, -AV.one, -forget, F_amd_Read, c_amd_Read, -decide_not, binA_andI, h37, hlong, hlong', hlong'', h0, h0', h0'', q1, a128, hne, h28, hs, hs', c1, r1, s1, hok, hmore, d1, h41, l1, f1, g1, hee, hee', noPkt, pktV, hPkt]
                  · have hee' : ¬ (ee : Int) = 0 := by omega
                    rw [call_L 7 rfl (rfl : P.T f_amd_Read = some F_amd_Read) (le_ok rfl)]; simp -implicitDefEqProofs [-toCells, -AV.one, -forget, F_amd_Read, c_amd_Read, -decide_not, binA_andI, h37, hlong, hlong', hlong'', h0, h0', h0'', q1, a128, hne, h28, hs, hs', c1, r1, s1, hok, hmore, d1, h41, l1, f1, g1, hee, hee', noPkt, pktV, hPkt]
                · rw [if_neg he] at hR
                  obtain ⟨ee, hee⟩ : ∃ x, (lensR b' lw).2 = x := ⟨_, rfl⟩
                  have hres : resL b' lw none = .tup [nilS, ai 0, ai (ee : Nat)] := by rw [resL, if_neg he, hee]
                  rw [hee] at he hR
                  rw [hres] at l1
                  rw [← hHL] at l1
                  simp only [List.append_assoc, List.cons_append, List.nil_append] at l1
                  have he' : ¬ (ee : Int) = 0 := by omega
                  refine ⟨[], 3, by rw [hR]; rfl, ?_⟩
                  rw [readV, hR]
                  rw [call_L 7 rfl (rfl : P.T f_amd_Read = some F_amd_Read) (le_ok rfl)]; simp -implicitDefEqProofs [-toCells, -AV.one, -forget, F_amd_Read, c_amd_Read, -decide_not, binA_andI, h37, hlong, hlong', hlong'', h0, h0', h0'', q1, a128, hne, h28, hs, hs', c1, r1, s1, hok, hmore, d1, h41, l1, he, he', noPkt, pktV, hPkt]
              · rw [if_neg hmore] at hR
                have hmore' : hMore full = false := by simpa using hmore
                obtain ⟨out, g0, g1⟩ := amd_fields_sl (zl := true) (l := []) (r := r) (g := g) (off := o1) (n0 := n1) (cap := cap1) (e := e) (H ++ [.row [bv (z, full.take n), ai a], .other]) (RV1_app hv hr _) hod1 hcap' hbl (by simp)
                rw [hod2] at g0 g1
                rw [nvs, List.map_nil, lst_nil] at g1
                obtain ⟨ee, he4⟩ : ∃ x, (fieldsR b' []).1 = x := ⟨_, rfl⟩
                rw [he4] at g1
                refine ⟨out, 2, by rw [hR]; exact g0, ?_⟩
                rw [readV, hR, he4]
                by_cases hee : ee = 0
                · have hee' : (ee : Int) = 0 := by omega
                  rw [call_L 7 rfl (rfl : P.T f_amd_Read = some F_amd_Read) (le_ok rfl)]; simp -implicitDefEqProofs [-toCells, -AV.one, -forget, F_amd_Read, c_amd_Read, -decide_not, binA_andI, h37, hlong, hlong', hlong'', h0, h0', h0'', q1, a128, hne, h28, hs, hs', c1, r1, s1, hok, hmore, hmore', d1, g1, hee, hee', noPkt, pktV, hPkt]
                · have hee' : ¬ (ee : Int) = 0 := by omega
                  rw [call_L 7 rfl (rfl : P.T f_amd_Read = some F_amd_Read) (le_ok rfl)]; simp -implicitDefEqProofs [-toCells, -AV.one, -forget, F_amd_Read, c_amd_Read, -decide_not, binA_andI, h37, hlong, hlong', hlong'', h0, h0', h0'', q1, a128, hne, h28, hs, hs', c1, r1, s1, hok, hmore, hmore', d1, g1, hee, hee', noPkt, pktV, hPkt]
            · rw [if_neg hok] at hR
              have hok' : hOk full wn = false := by simpa using hok
              refine ⟨[], 2, by rw [hR]; rfl, ?_⟩
              rw [readV, hR]
              rw [call_L 7 rfl (rfl : P.T f_amd_Read = some F_amd_Read) (le_ok rfl)]; simp -implicitDefEqProofs [-toCells, -AV.one, -forget, F_amd_Read, c_amd_Read, -decide_not, binA_andI, h37, hlong, hlong', hlong'', h0, h0', h0'', q1, a128, hne, h28, hs, hs', c1, r1, s1, hok, hok', noPkt, pktV, hPkt]
  · have hR : readR full w = (9, []) := by rw [readR, if_neg hw]
    have hwd : decide (w = 10 ∨ w = 16) = false := by simp [hw]
    rw [hwd] at h37
    refine ⟨[], 0, by rw [hR]; rfl, ?_⟩
    rw [readV, hR]
    rw [call_L 7 rfl (rfl : P.T f_amd_Read = some F_amd_Read) (le_ok rfl)]; simp -implicitDefEqProofs [-toCells, -AV.one, -forget, F_amd_Read, c_amd_Read, h37, noPkt, pktV]
end Go.A.V.S

namespace Go.A.V.S
open Go Go.A
set_option linter.unusedSimpArgs false
set_option linter.unusedVariables false
def u8s (ys : List Int) : List AV := ys.map fun y => .c (.int .u8 y)
/-- The row r holds N bytes, whatever they are. -/
def OwR (G : Heap) (r N : Nat) : Prop := ∃ ys lo, G[r]? = some (.grow (u8s ys) lo) ∧ ys.length = N ∧ lo ≤ N
theorem OwR_rd {G : Heap} {r N i : Nat} (h : OwR G r N) (hi : i < N) : ∃ (y : Int) (G' : Int → Heap), rdRow G r i 1 N = some [.c (.int .u8 y)] ∧ (∀ x, wrRow G r i N [.c (.int .u8 x)] = some (G' x)) ∧ ∀ x, OwR (G' x) r N := by
  obtain ⟨ys, lo, h1, h2, h3⟩ := h
  have hl : (u8s ys).length = N := by simp [u8s, h2]
  have hr : r < G.length := (List.getElem?_eq_some_iff.1 h1).1
  obtain ⟨y, hy⟩ : ∃ y, ys[i]? = some y := ⟨_, List.getElem?_eq_getElem (by omega)⟩
  refine ⟨y, fun x => G.set r (.grow (u8s (ys.take i ++ [x] ++ ys.drop (i + 1))) N), ?_, fun x => ?_, fun x => ⟨ys.take i ++ [x] ++ ys.drop (i + 1), N, by simp [hr], ?_, Nat.le_refl _⟩⟩
  · simp only [rdRow, h1, AObj.isRow, AObj.lo, AObj.cells, hl]
    rw [if_pos ⟨trivial, by omega, by omega, by omega⟩]
    have : (u8s ys)[i]? = some (.c (.int .u8 y)) := by simp [u8s, hy]
    have hlt : i < (u8s ys).length := by omega
    rw [List.drop_eq_getElem_cons hlt]
    rw [List.getElem?_eq_getElem hlt] at this
    simp [Option.some.inj this]
  · simp only [wrRow, h1, hl]
    rw [if_pos ⟨trivial, by simp; omega, by simp [okCell]⟩]
    simp [u8s, List.map_take, List.map_drop]
  · simp [h2]; omega
def InvOw (r N : Nat) (e0 : Bool) (b : Bs) (w : Int) (pv : List AV) (e : Int) (z : Nat) (σ : List AV) (G : Heap) : Prop :=
  ∃ i : Nat, i + z = N ∧ (N = 0 ∨ OwR G r N) ∧ σ = L 56 (((((((Tr.full 6).put (path 0) (bv b)).put (path 1) (ai w)).put (path 5) (.sl r 0 N N 1 N e0)).put (path 6) (.lbox pv)).put (path 7) (ai e)).put (path 8) (ai i))
def PostOw (r N : Nat) (e0 : Bool) (b : Bs) (w : Int) (pv : List AV) (e : Int) (x : AExit) (σ : List AV) (G : Heap) : Prop :=
  x = .exit 0 ∧ kill [5, 8, 24, 25, 26, 27] σ = L 56 (((((Tr.full 6).put (path 0) (bv b)).put (path 1) (ai w)).put (path 6) (.lbox pv)).put (path 7) (ai e))
theorem own_loop {r N : Nat} (hN : N ≤ 100000) {e0 : Bool} {b : Bs} {w : Int} {pv : List AV} {e : Int} (z : Nat) (σ : List AV) (G : Heap) (hI : InvOw r N e0 b w pv e z (kill (headK lp0_L10_AmdReads) σ) G) :
    Ends (execW P f_L10_AmdReads (.loop lp0_L10_AmdReads) σ G) fun s => PostOw r N e0 b w pv e s.e s.σ s.H := by
  refine loop_ends (fun z σ G => InvOw r N e0 b w pv e z σ G) (PostOw r N e0 b w pv e) ?_ z σ G hI
  clear hI z σ G
  rintro z σ G ⟨i, hz, hO, rfl⟩
  by_cases hi : i < N
  · have hi' : (i : Int) < N := by omega
    obtain ⟨y, G', h1, h2, h3⟩ := OwR_rd (hO.resolve_left (by omega)) hi
    have w1 : IntKind.i64.wrap ((i : Int) + 1) = ((i + 1 : Nat) : Int) := by rw [wrap_i64 (by omega) (by omega)]; omega
    obtain ⟨i1, hi1⟩ : ∃ i1, i + 1 = i1 := ⟨_, rfl⟩
    rw [hi1] at w1
    have h2' := h2 (xorI .u8 y 255)
    have h3' := h3 (xorI .u8 y 255)
    generalize G' (xorI .u8 y 255) = G2 at h2' h3'
    simp -implicitDefEqProofs [-toCells, -AV.one, -forget, c_L10_AmdReads, binA_xorI, lp0_L10_AmdReads, storeA, hi, hi', h1, h2', w1]
    exact ⟨z - 1, by omega, i1, by omega, .inr h3', by simp⟩
  · have hi' : ¬ (i : Int) < N := by omega
    simp -implicitDefEqProofs [-toCells, -AV.one, -forget, c_L10_AmdReads, lp0_L10_AmdReads, hi, hi']
    exact ⟨rfl, by simp⟩
def PostLR (x : AExit) (σ : List AV) (G : Heap) : Prop := x = .ret ∧ resultsA F_L10_AmdReads.res σ = some (ab true)
theorem rdp_two {bs : List Nat} {w : Int} {p q : Pk} {e f : Int} (hp : RdP bs w p e) (hq : RdP bs w q f) : e = f ∧ p.eq q = true := by
  obtain ⟨p1, p2, p3⟩ := hp
  obtain ⟨q1, q2, q3⟩ := hq
  have hef : e = f := by rw [p1, q1]
  refine ⟨hef, ?_⟩
  rcases p3 with ⟨a, rfl⟩ | ⟨a, b1, b2, b3, b4, b5, b6, b7⟩
  · rcases q3 with ⟨c, rfl⟩ | ⟨c, _⟩
    · decide
    · omega
  · rcases q3 with ⟨c, rfl⟩ | ⟨c, d1, d2, d3, d4, d5, d6, d7⟩
    · omega
    · rw [b1] at d1
      have := congrArg Prod.snd d1
      simp only at this
      simp [Pk.eq, b2, b3, b4, b5, b6, b7, d2, d3, d4, d5, d6, d7, this]
theorem rdp_small {bs : List Nat} (hb : bs.length ≤ 8192) (hby : Bytes bs) {w : Int} {q : Pk} {e : Int} (h : RdP bs w q e) : q.ff.length ≤ 100000 ∧ BytesF q.ff := by
  obtain ⟨p1, p2, p3⟩ := h
  rcases p3 with ⟨a, rfl⟩ | ⟨a, b1, b2⟩
  · exact ⟨by simp [pk0], by intro b hb; simp [pk0] at hb⟩
  ·
    refine ⟨?_, bytesF_of rfl fun f hf b hb' => hby b (rdp_sub b1 f hf b hb')⟩
    obtain ⟨a1, a2, a3⟩ := put_again hby b1 b2
    obtain ⟨hok, hw, hf1, hf24, hsz, hpz⟩ := sizeR_pos (p := q) (w := w) (by omega)
    omega
set_option maxHeartbeats 2000000 in
theorem lAmdReads (b : Bs) (hby : Bytes b.2) (w : Int) (H : Heap) : ∃ H', callW P f_L10_AmdReads [bv b, ai w] H = some (ab true, H') := by
  suffices hs : Ends (callW P f_L10_AmdReads [bv b, ai w] H) fun y => y.1 = ab true by
    obtain ⟨⟨v, H'⟩, h2, rfl⟩ := hs
    exact ⟨H', h2⟩
  refine call_post 6 56 rfl (rfl : P.T f_L10_AmdReads = some F_L10_AmdReads) rfl (le_ok rfl) (PostLR) ?_ ?_
  · rintro e σ G ⟨rfl, h⟩
    exact ⟨rfl, _, h, by simp, by simp⟩
  have hlen := bv_len b
  by_cases h41 : 4100 < b.2.length
  · have h41' : (4100 : Int) < b.2.length := by omega
    have h41'' : (b.2.length : Int) > 4100 := by omega
    obtain ⟨k, hA⟩ := lAlive H
    rw [F_L10_AmdReads]; simp -implicitDefEqProofs [-toCells, -AV.one, -forget, c_L10_AmdReads, hlen, h41, h41', h41'', hA]
    exact ⟨rfl, by simp [F_L10_AmdReads]⟩
  have h41' : ¬ (4100 : Int) < b.2.length := by omega
  have h41'' : ¬ (b.2.length : Int) > 4100 := by omega
  obtain ⟨N, hN⟩ : ∃ t, b.2.length = t := ⟨_, rfl⟩
  have hap : ∃ r e0 H1, (∀ σ, appW (P.md f_L10_AmdReads) (some 17) 1 1 (.sl H.length 0 0 0 1 0 true) (bv b) σ (H ++ [.row []]) = some (.sl r 0 N N 1 N e0, σ, H1)) ∧ r < H1.length ∧ RV1 H1 r N b.2 ∧ (N = 0 ∨ OwR H1 r N) := by
    have hel : elems (H ++ [.row []]) 1 (bv b) = some (byteCs b.2) := elems_lst _ _ _ _ _
    have hfl : (byteCs b.2).flatten = b.2.map fun x => au x := by
      generalize b.2 = l
      induction l with
      | nil => rfl
      | cons x r ih => 
        have e2 : byteCs (x :: r) = [au x] :: byteCs r := rfl
        rw [e2, List.flatten_cons, ih]; rfl
    by_cases h0 : N = 0
    · have hb0 : b.2 = [] := List.length_eq_zero_iff.1 (by omega)
      subst h0
      refine ⟨H.length, true, H ++ [.row []], fun σ => ?_, by simp, fun off n cap e hn => ?_, .inl rfl⟩
      · rw [hb0] at hel
        have hel' : elems (H ++ [.row []]) 1 (bv b) = some [] := hel
        simp [appW, hel']
      · rw [hb0] at hn ⊢
        have : n = 0 := by simp at hn; omega
        subst this
        simp [elems, rdRow0, chunk, byteCs]
    · have hne : byteCs b.2 ≠ [] := fun e => by have := congrArg List.length e; rw [byteCs_len, hN] at this; exact h0 this
      have hg : (H ++ [.row []] ++ [AObj.grow (b.2.map fun x => au x) 0])[H.length + 1]? = some (.grow (b.2.map fun x => au x) 0) := by simp
      refine ⟨H.length + 1, false, H ++ [.row []] ++ [.grow (b.2.map fun x => au x) 0], fun σ => ?_, by simp, ?_, .inr ⟨b.2.map (fun x : Nat => (x : Int)), 0, ?_, by simp [hN], by omega⟩⟩
      · have hl1 : (byteCs b.2).length = N := by rw [byteCs_len, hN]
        have hwr : (P.md f_L10_AmdReads).wr = true := rfl
        have hb1 : N * 1 ≤ appBound := by simp only [appBound]; omega
        have hb2 : N ≤ appBound := by simp only [appBound]; omega
        have hb3 : ¬ (0 + N ≤ 0) := by omega
        simp only [appW, hel, Option.bind_some, hne, if_false, hl1, hwr, if_true, hb1, hb2, hb3, hfl]
        simp
      · rw [← hN]; exact RV1_of hg
      · rw [hg]; simp only [u8s, List.map_map]; rfl
  obtain ⟨r, e0, H1, ha1, ha2, ha3, ha4⟩ := hap
  obtain ⟨out, k1, o1, r1⟩ := amd_Read_sl (r := r) (g := N) (cap := N) (N := N) (e := e0) hN (Nat.le_refl _) (by omega) hby w H1 ha3 ha2
  obtain ⟨p, e, hp, hpv⟩ := rdp_of o1
  rw [hpv] at r1
  obtain ⟨hp1, hp2⟩ := rdp_small (by omega) hby hp
  have ha5 : N = 0 ∨ OwR (H1 ++ List.replicate k1 .other) r N := ha4.imp id fun ⟨ys, lo, c1, c2, c3⟩ => ⟨ys, lo, by rw [List.getElem?_append_left ha2]; exact c1, c2, c3⟩
  obtain ⟨H2, hH2⟩ : ∃ t, H1 ++ List.replicate k1 AObj.other = t := ⟨_, rfl⟩
  rw [hH2] at r1 ha5
  have hAs := fun H => lAs p H
  have hSm : ∀ q f, RdP b.2 w q f → f = e ∧ ∀ H, callW P f_R10_Same [.agg p.v, .agg q.v] H = some (ab true, H) := fun q f hq => by
    obtain ⟨c1, c2⟩ := rdp_two hp hq
    obtain ⟨c3, c4⟩ := rdp_small (by omega) hby hq
    exact ⟨c1.symm, fun H => by rw [rSame p q hp1 c3 hp2 c4 H, c2]⟩
  obtain ⟨po, fi, sn, pa, la, off, z0, ff⟩ := p
  clear hp hpv hp1 hp2 o1
  simp only [Pk.v, Pk.f, pktV] at r1 hAs hSm
  rw [F_L10_AmdReads]; simp -implicitDefEqProofs [-toCells, -AV.one, -forget, c_L10_AmdReads, hlen, h41, h41', h41'', ha1, r1]
  repeat rw [Option.bind_assoc]
  refine Ends.block (P := PostOw r N e0 b w [ab po, ai fi, ai sn, ab pa, ab la, ai off, lst z0 1 none (bvs ff)] e) (own_loop (by omega) N _ _ ⟨0, by omega, ha5, by simp [lp0_L10_AmdReads]⟩) ?_
  rintro x σ1 G1 ⟨rfl, k2⟩
  obtain ⟨out2, k3, o2, r2⟩ := rRead b (by omega) hby w G1
  obtain ⟨q, f, hq, hqv⟩ := rdp_of o2
  rw [hqv] at r2
  obtain ⟨rfl, hS⟩ := hSm q f hq
  obtain ⟨k4, hA⟩ := lAlive (G1 ++ List.replicate k3 .other)
  obtain ⟨G2, hG2⟩ : ∃ t, G1 ++ List.replicate k3 AObj.other = t := ⟨_, rfl⟩
  rw [hG2] at r2 hA
  obtain ⟨qo, qi, qn, qa, ql, qf, z1, gg⟩ := q
  simp only [Pk.v, Pk.f, pktV] at r2 hS
  simp -implicitDefEqProofs [-toCells, -AV.one, -forget, c_L10_AmdReads, keepB, goodB_L, sameV, dstNot, dstNe, SOpG.reads, SOp.slots, SX.slots, SOp.noL, rdV, selfE_lst, selfE, selfEs, eqV, -goodB, k2, r2, hA, hAs, hS]
  exact ⟨rfl, by simp [F_L10_AmdReads]⟩
end Go.A.V.S

namespace Go.A.V.S
open Go Go.A Go.A.V
theorem amdReads_all (c1 : AV) (h1 : V.CT.is (.sl [.i .u8]) c1) (w : Int) (_ : (Lit.int .i64 w).wf = true) : ∃ H', callW P f_L10_AmdReads [c1, ai w] [] = some (ab true, H') := by
  obtain ⟨b, rfl, hb⟩ := is_bytes h1
  exact lAmdReads b hb w []
end Go.A.V.S
