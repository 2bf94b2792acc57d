/-
  No cell of these rows narrows 'for every input' (looked for: loops, veiled, ifaces, maps, wideKeys, modest, calm, conditions, laid).
  DERIVED. THE GIVEN ROWS OF THIS SEAT. 7 by the template 'for every input the law returns true; each argument reads behind the call as it read before'; 0 by the template 'total and deterministic' (their statements: YtekoolanpphbfaaTotals.lean).
  GIVEN WITH THE SEED: the statements are not yours to turn. If you find one false, say at which input.
  Laid BY PROGRAM, IN A SANDBOX (cutbox-rows.mjs): the forced cells as the released guide's own fill.sh prints them over the translation cefd28c62f726747… (all of the seat's roots in one cut). By AI agents, Wed Nov 11 2026. No macro, syntax, notation, axiom, sorry.
-/
import Derived.Test.YtekoolanpphbfaaChecked
import GoSem.Claim
import GoSem.ClaimJoined
import GoSem.ClaimMapViews
import Derived.JoinedTies
import Derived.KernelRfl
namespace Go.Proofs.Ytekoolanpphbfaa
/- THE CELL 'sum', in the pinned program and in every row, IS THE sha256 OF THE DUMP (.gsa) THAT YtekoolanpphbfaaProg.lean LOADS. Nothing in Lean hashes anything: it is a label: what it is worth is what the hold of that sum in a sandbox is worth. -/
noncomputable def Try.pinned : Pinned := { name := "ytekoolanpphbfaa", sum := "cefd28c62f72674758d164d87d8debcecea8f247db2c0d49357745b6914abc66", checked := Try.checked }
namespace Rows
def none {H : Type} : Left H := { results := [], args := [] }

/-- 'bowlinelaw29.SplitShares': WHATEVER THE INPUT: true; the input reads as it did. -/
def splitSharesSpec : ChangeSpec := { name := "splitShares", fn := fun _ => fun
  | [d1, d2] => { results := [.lit (.bool true)], args := [d1, d2] }
  | _ => none }
def splitSharesRow : OpenClaim := { program := "ytekoolanpphbfaa", sum := "cefd28c62f72674758d164d87d8debcecea8f247db2c0d49357745b6914abc66", func := "bowline/bowlinelaw29.SplitShares", spec := "splitShares", unfollowed := true, recurses := true, apart := false }
def SplitSharesSaid : Prop := splitSharesRow.holds Try.pinned (OpenSpec.ofChange splitSharesSpec)

/-- ITS FALSE NEIGHBOUR: 'it returns false'. Refute it at one input. -/
def splitSharesWrong : ChangeSpec := { name := "splitShares", fn := fun _ => fun
  | [d1, d2] => { results := [.lit (.bool false)], args := [d1, d2] }
  | _ => none }
def SplitSharesWrongFalsely : Prop := splitSharesRow.holds Try.pinned (OpenSpec.ofChange splitSharesWrong)

/-- 'bowlinelaw29.SplitAll': WHATEVER THE INPUT: true; the input reads as it did. -/
def splitAllSpec : ChangeSpec := { name := "splitAll", fn := fun _ => fun
  | [d1, d2] => { results := [.lit (.bool true)], args := [d1, d2] }
  | _ => none }
def splitAllRow : OpenClaim := { program := "ytekoolanpphbfaa", sum := "cefd28c62f72674758d164d87d8debcecea8f247db2c0d49357745b6914abc66", func := "bowline/bowlinelaw29.SplitAll", spec := "splitAll", unfollowed := true, recurses := true, apart := false }
def SplitAllSaid : Prop := splitAllRow.holds Try.pinned (OpenSpec.ofChange splitAllSpec)

/-- ITS FALSE NEIGHBOUR: 'it returns false'. Refute it at one input. -/
def splitAllWrong : ChangeSpec := { name := "splitAll", fn := fun _ => fun
  | [d1, d2] => { results := [.lit (.bool false)], args := [d1, d2] }
  | _ => none }
def SplitAllWrongFalsely : Prop := splitAllRow.holds Try.pinned (OpenSpec.ofChange splitAllWrong)

/-- 'bowlinelaw29.SplitRanks': WHATEVER THE INPUT: true; the input reads as it did. -/
def splitRanksSpec : ChangeSpec := { name := "splitRanks", fn := fun _ => fun
  | [d1, d2, d3] => { results := [.lit (.bool true)], args := [d1, d2, d3] }
  | _ => none }
def splitRanksRow : OpenClaim := { program := "ytekoolanpphbfaa", sum := "cefd28c62f72674758d164d87d8debcecea8f247db2c0d49357745b6914abc66", func := "bowline/bowlinelaw29.SplitRanks", spec := "splitRanks", unfollowed := true, recurses := true, apart := false }
def SplitRanksSaid : Prop := splitRanksRow.holds Try.pinned (OpenSpec.ofChange splitRanksSpec)

/-- ITS FALSE NEIGHBOUR: 'it returns false'. Refute it at one input. -/
def splitRanksWrong : ChangeSpec := { name := "splitRanks", fn := fun _ => fun
  | [d1, d2, d3] => { results := [.lit (.bool false)], args := [d1, d2, d3] }
  | _ => none }
def SplitRanksWrongFalsely : Prop := splitRanksRow.holds Try.pinned (OpenSpec.ofChange splitRanksWrong)

/-- 'bowlinelaw10.AmdReads': WHATEVER THE INPUT: true; the input reads as it did. -/
def amdReadsSpec : ChangeSpec := { name := "amdReads", fn := fun _ => fun
  | [d1, d2] => { results := [.lit (.bool true)], args := [d1, d2] }
  | _ => none }
def amdReadsRow : OpenClaim := { program := "ytekoolanpphbfaa", sum := "cefd28c62f72674758d164d87d8debcecea8f247db2c0d49357745b6914abc66", func := "bowline/bowlinelaw10.AmdReads", spec := "amdReads", inPlace := ["internal/bytealg.MakeNoZero"], unfollowed := true, recurses := true, apart := false }
def AmdReadsSaid : Prop := amdReadsRow.holds Try.pinned (OpenSpec.ofChange amdReadsSpec)

/-- ITS FALSE NEIGHBOUR: 'it returns false'. Refute it at one input. -/
def amdReadsWrong : ChangeSpec := { name := "amdReads", fn := fun _ => fun
  | [d1, d2] => { results := [.lit (.bool false)], args := [d1, d2] }
  | _ => none }
def AmdReadsWrongFalsely : Prop := amdReadsRow.holds Try.pinned (OpenSpec.ofChange amdReadsWrong)

/-- 'bowlinelaw10.AmdBack': WHATEVER THE INPUT: true; the input reads as it did. -/
def amdBackSpec : ChangeSpec := { name := "amdBack", fn := fun _ => fun
  | [d1, d2, d3] => { results := [.lit (.bool true)], args := [d1, d2, d3] }
  | _ => none }
def amdBackRow : OpenClaim := { program := "ytekoolanpphbfaa", sum := "cefd28c62f72674758d164d87d8debcecea8f247db2c0d49357745b6914abc66", func := "bowline/bowlinelaw10.AmdBack", spec := "amdBack", inPlace := ["internal/bytealg.MakeNoZero"], unfollowed := true, recurses := true, apart := false }
def AmdBackSaid : Prop := amdBackRow.holds Try.pinned (OpenSpec.ofChange amdBackSpec)

/-- ITS FALSE NEIGHBOUR: 'it returns false'. Refute it at one input. -/
def amdBackWrong : ChangeSpec := { name := "amdBack", fn := fun _ => fun
  | [d1, d2, d3] => { results := [.lit (.bool false)], args := [d1, d2, d3] }
  | _ => none }
def AmdBackWrongFalsely : Prop := amdBackRow.holds Try.pinned (OpenSpec.ofChange amdBackWrong)

/-- 'bowlinelaw10.AmdHeads': WHATEVER THE INPUT: true; the input reads as it did. -/
def amdHeadsSpec : ChangeSpec := { name := "amdHeads", fn := fun _ => fun
  | [d1, d2, d3] => { results := [.lit (.bool true)], args := [d1, d2, d3] }
  | _ => none }
def amdHeadsRow : OpenClaim := { program := "ytekoolanpphbfaa", sum := "cefd28c62f72674758d164d87d8debcecea8f247db2c0d49357745b6914abc66", func := "bowline/bowlinelaw10.AmdHeads", spec := "amdHeads", inPlace := ["internal/bytealg.MakeNoZero"], unfollowed := true, recurses := true, apart := false }
def AmdHeadsSaid : Prop := amdHeadsRow.holds Try.pinned (OpenSpec.ofChange amdHeadsSpec)

/-- ITS FALSE NEIGHBOUR: 'it returns false'. Refute it at one input. -/
def amdHeadsWrong : ChangeSpec := { name := "amdHeads", fn := fun _ => fun
  | [d1, d2, d3] => { results := [.lit (.bool false)], args := [d1, d2, d3] }
  | _ => none }
def AmdHeadsWrongFalsely : Prop := amdHeadsRow.holds Try.pinned (OpenSpec.ofChange amdHeadsWrong)

/-- 'bowlinelaw10.AmdWrites': WHATEVER THE INPUT: true; the input reads as it did. -/
def amdWritesSpec : ChangeSpec := { name := "amdWrites", fn := fun _ => fun
  | [d1, d2, d3] => { results := [.lit (.bool true)], args := [d1, d2, d3] }
  | _ => none }
def amdWritesRow : OpenClaim := { program := "ytekoolanpphbfaa", sum := "cefd28c62f72674758d164d87d8debcecea8f247db2c0d49357745b6914abc66", func := "bowline/bowlinelaw10.AmdWrites", spec := "amdWrites", inPlace := ["internal/bytealg.MakeNoZero"], unfollowed := true, recurses := true, apart := false }
def AmdWritesSaid : Prop := amdWritesRow.holds Try.pinned (OpenSpec.ofChange amdWritesSpec)

/-- ITS FALSE NEIGHBOUR: 'it returns false'. Refute it at one input. -/
def amdWritesWrong : ChangeSpec := { name := "amdWrites", fn := fun _ => fun
  | [d1, d2, d3] => { results := [.lit (.bool false)], args := [d1, d2, d3] }
  | _ => none }
def AmdWritesWrongFalsely : Prop := amdWritesRow.holds Try.pinned (OpenSpec.ofChange amdWritesWrong)

/- THE SECOND FORM. 'bulk': how many values and letters a reading holds, each counted each time it is reached (what is shared counts as often as it is met; a slice's spare places count too). A statement '..UptoSaid' is the law's where the arguments, and the package variables that the reading takes, are together of bulk at most 1048576: NARROWER than '..Said'. Prove '..Said' where nothing that the law and all that it calls make is longer than what came in: it says more and counts as full. Else prove '..UptoSaid'. A law counts once. -/
mutual
def uptoBulk {H : Type} : DataW H → Nat
  | .lit (.string bytes) => bytes.length + 1
  | .lit _ => 1
  | .nil => 1
  | .ptr d => uptoBulk d + 1
  | .slice elems spare => uptoBulkAll elems + uptoBulkAll spare + 1
  | .agg parts => uptoBulkAll parts + 1
  | .iface _ d => uptoBulk d + 1
  | .map entries => uptoBulkEntries entries + 1
  | .held _ => 1
def uptoBulkAll {H : Type} : List (DataW H) → Nat
  | [] => 0
  | d :: r => uptoBulk d + uptoBulkAll r
def uptoBulkEntries {H : Type} : List (Lit × DataW H) → Nat
  | [] => 0
  | x :: r => uptoBulkEntry x + uptoBulkEntries r
def uptoBulkEntry {H : Type} : Lit × DataW H → Nat
  | (.string bytes, d) => bytes.length + uptoBulk d + 1
  | (_, d) => uptoBulk d + 1
 end
def uptoSmall : (H : Type) → List (DataW H) → Bool := fun _ ds => decide (uptoBulkAll ds ≤ 1048576)
def OpenSpec.upto (s : _root_.Go.ChangeSpec) : _root_.Go.OpenSpec := { _root_.Go.OpenSpec.ofChange s with cond := some uptoSmall }

/-- 'bowlinelaw29.SplitShares', WHERE WHAT IT READS IS OF BULK AT MOST 1048576: true; the input reads as it did. -/
def splitSharesUptoRow : OpenClaim := { program := "ytekoolanpphbfaa", sum := "cefd28c62f72674758d164d87d8debcecea8f247db2c0d49357745b6914abc66", func := "bowline/bowlinelaw29.SplitShares", spec := "splitShares", unfollowed := true, recurses := true, apart := false, narrowed := true }
def SplitSharesUptoSaid : Prop := splitSharesUptoRow.holds Try.pinned (OpenSpec.upto splitSharesSpec)

/-- 'bowlinelaw29.SplitAll', WHERE WHAT IT READS IS OF BULK AT MOST 1048576: true; the input reads as it did. -/
def splitAllUptoRow : OpenClaim := { program := "ytekoolanpphbfaa", sum := "cefd28c62f72674758d164d87d8debcecea8f247db2c0d49357745b6914abc66", func := "bowline/bowlinelaw29.SplitAll", spec := "splitAll", unfollowed := true, recurses := true, apart := false, narrowed := true }
def SplitAllUptoSaid : Prop := splitAllUptoRow.holds Try.pinned (OpenSpec.upto splitAllSpec)

/-- 'bowlinelaw29.SplitRanks', WHERE WHAT IT READS IS OF BULK AT MOST 1048576: true; the input reads as it did. -/
def splitRanksUptoRow : OpenClaim := { program := "ytekoolanpphbfaa", sum := "cefd28c62f72674758d164d87d8debcecea8f247db2c0d49357745b6914abc66", func := "bowline/bowlinelaw29.SplitRanks", spec := "splitRanks", unfollowed := true, recurses := true, apart := false, narrowed := true }
def SplitRanksUptoSaid : Prop := splitRanksUptoRow.holds Try.pinned (OpenSpec.upto splitRanksSpec)

/-- 'bowlinelaw10.AmdReads', WHERE WHAT IT READS IS OF BULK AT MOST 1048576: true; the input reads as it did. -/
def amdReadsUptoRow : OpenClaim := { program := "ytekoolanpphbfaa", sum := "cefd28c62f72674758d164d87d8debcecea8f247db2c0d49357745b6914abc66", func := "bowline/bowlinelaw10.AmdReads", spec := "amdReads", inPlace := ["internal/bytealg.MakeNoZero"], unfollowed := true, recurses := true, apart := false, narrowed := true }
def AmdReadsUptoSaid : Prop := amdReadsUptoRow.holds Try.pinned (OpenSpec.upto amdReadsSpec)

/-- 'bowlinelaw10.AmdBack', WHERE WHAT IT READS IS OF BULK AT MOST 1048576: true; the input reads as it did. -/
def amdBackUptoRow : OpenClaim := { program := "ytekoolanpphbfaa", sum := "cefd28c62f72674758d164d87d8debcecea8f247db2c0d49357745b6914abc66", func := "bowline/bowlinelaw10.AmdBack", spec := "amdBack", inPlace := ["internal/bytealg.MakeNoZero"], unfollowed := true, recurses := true, apart := false, narrowed := true }
def AmdBackUptoSaid : Prop := amdBackUptoRow.holds Try.pinned (OpenSpec.upto amdBackSpec)

/-- 'bowlinelaw10.AmdHeads', WHERE WHAT IT READS IS OF BULK AT MOST 1048576: true; the input reads as it did. -/
def amdHeadsUptoRow : OpenClaim := { program := "ytekoolanpphbfaa", sum := "cefd28c62f72674758d164d87d8debcecea8f247db2c0d49357745b6914abc66", func := "bowline/bowlinelaw10.AmdHeads", spec := "amdHeads", inPlace := ["internal/bytealg.MakeNoZero"], unfollowed := true, recurses := true, apart := false, narrowed := true }
def AmdHeadsUptoSaid : Prop := amdHeadsUptoRow.holds Try.pinned (OpenSpec.upto amdHeadsSpec)

/-- 'bowlinelaw10.AmdWrites', WHERE WHAT IT READS IS OF BULK AT MOST 1048576: true; the input reads as it did. -/
def amdWritesUptoRow : OpenClaim := { program := "ytekoolanpphbfaa", sum := "cefd28c62f72674758d164d87d8debcecea8f247db2c0d49357745b6914abc66", func := "bowline/bowlinelaw10.AmdWrites", spec := "amdWrites", inPlace := ["internal/bytealg.MakeNoZero"], unfollowed := true, recurses := true, apart := false, narrowed := true }
def AmdWritesUptoSaid : Prop := amdWritesUptoRow.holds Try.pinned (OpenSpec.upto amdWritesSpec)

end Rows
end Go.Proofs.Ytekoolanpphbfaa
