import Derived.Test.YtgjjmhmaomcnaaaB1
import Derived.Test.YtgjjmhmaomcnaaaG1
namespace Go.A.SeatB
open Go.A
set_option linter.unusedSimpArgs false

def X1 : Oracle := constO [(8, ab true)]
theorem X1_none {f : FuncId} (h : f ≠ 8) (args : List AV) (H : Heap) : X1 f args H = none := by
  unfold X1 constO
  split
  · rename_i v hl
    simp [List.lookup] at hl
    split at hl <;> simp_all
  · rfl

structure Cfg where
  mode : Int
  bits : Int
  window : Int
  reorder : Int
  pollRetx : Int
  prohibit : Int
  pollPDU : Int
  pollByte : Int
  maxRetx : Int
  queue : Int
def Cfg.cells (c : Cfg) : List AV := [ai c.mode, ai c.bits, ai c.window, ai c.reorder, ai c.pollRetx, ai c.prohibit, ai c.pollPDU, ai c.pollByte, ai c.maxRetx, ai c.queue]

def tri (x : Int × Int × Int) : List AV := [ai x.1, ai x.2.1, ai x.2.2]
def out (x : Int × Int × Int) : Bool := decide (x.1 < x.2.1 ∨ x.1 > x.2.2)
def outC : List AV → Bool
  | [.c (.int _ a), .c (.int _ b), .c (.int _ c)] => out (a, b, c)
  | _ => false

theorem out36 (a b c : Int) (H : Heap) : callW tbl X1 36 [.agg [ai a, ai b, ai c]] H = some (ab (out (a, b, c)), H) := by
  rw [callW_eq, X1_none (by decide)]
  simp only [tbl, Option.bind_some, fun36, code36]
  rw [slots0_L 4 15 _ (by simp)]
  by_cases h1 : a < b
  · simp -implicitDefEqProofs [h1, out]
  · simp -implicitDefEqProofs [h1, out]

theorem within18 {H : Heap} {v : AV} {l : List (Int × Int × Int)} (h : Sl H 3 v (l.map tri)) (hm : l.length ≤ 1000) : ∃ N, callW tbl X1 18 [v] H = some (ab (l.all fun x => !out x), H ++ N) := by
  obtain ⟨N, hc⟩ := cnt_call (T := tbl) (X := X1) (f0 := 67) (f1 := 35) (k := 3) (ld := some 3) rfl (X1_none (by decide)) rfl (X1_none (by decide)) (.inl rfl) h (fun cs hcs => by
      obtain ⟨x, _, rfl⟩ := List.mem_map.1 hcs
      exact ⟨rfl, rfl⟩) (by simp; omega) (f := 36) (cs := []) rfl (p := outC) (fun N a ha => by
      obtain ⟨x, _, rfl⟩ := List.mem_map.1 ha
      exact ⟨N, out36 _ _ _ _⟩)
  refine ⟨N, ?_⟩
  have he : (List.map tri l).any outC = !(l.all fun x => !out x) := by
    rw [List.any_map, List.all_eq_not_any_not, Bool.not_not]
    congr 1
    funext x
    simp [Function.comp, outC, tri]
  rw [callW_eq, X1_none (by decide)]
  simp only [tbl, Option.bind_some, fun18, code18]
  rw [slots0_L 3 6 _ (by simp)]
  rw [he] at hc
  simp -implicitDefEqProofs [h.ev, h.free, hc]

theorem is19 (a b c : Int) (H : Heap) : callW tbl X1 19 [ai a, ai b, ai c] H = some (ab (!out (a, b, c)), H) := by
  rw [callW_eq, X1_none (by decide)]
  simp only [tbl, Option.bind_some, fun19, code19]
  rw [slots0_L 4 15 _ (by simp)]
  by_cases h1 : b ≤ a
  · simp -implicitDefEqProofs [h1, out, show ¬ a < b by omega]
    by_cases h2 : a ≤ c
    · simp [h2, show ¬ c < a by omega]
    · simp [h2, show c < a by omega]
  · simp -implicitDefEqProofs [h1, out, show a < b by omega]
end Go.A.SeatB
