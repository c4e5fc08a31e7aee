/-
  No cell of these rows narrows 'for every input' (looked for: loops, veiled, ifaces, maps, wideKeys, modest, calm, conditions, laid).
  DERIVED. THE GIVEN ROWS OF THIS SEAT. 12 by the template 'for every input the law returns true; each argument reads behind the call as it read before'; 0 by the template 'total and deterministic' (their statements: YteijfoldbinghaaTotals.lean).
  GIVEN WITH THE SEED: the statements are not yours to turn. If you find one false, say at which input.
  Laid BY PROGRAM, IN A SANDBOX (cutbox-rows.mjs): the forced cells as the released guide's own fill.sh prints them over the translation e4066e552e80b8df… (all of the seat's roots in one cut). By AI agents, Wed Nov 11 2026. No macro, syntax, notation, axiom, sorry.
-/
import Derived.Test.YteijfoldbinghaaChecked
import GoSem.Claim
import GoSem.ClaimJoined
import GoSem.ClaimMapViews
import Derived.JoinedTies
import Derived.KernelRfl
namespace Go.Proofs.Yteijfoldbinghaa
/- THE CELL 'sum', in the pinned program and in every row, IS THE sha256 OF THE DUMP (.gsa) THAT YteijfoldbinghaaProg.lean LOADS. Nothing in Lean hashes anything: it is a label: what it is worth is what the hold of that sum in a sandbox is worth. -/
noncomputable def Try.pinned : Pinned := { name := "yteijfoldbinghaa", sum := "e4066e552e80b8df97bff96e61ca42158841b7f391b07e91a54adaf337eee67b", checked := Try.checked }
namespace Rows
def none {H : Type} : Left H := { results := [], args := [] }

/-- 'narrowslaw31.HistoryTells': WHATEVER THE INPUT: true; the input reads as it did. -/
def historyTellsSpec : ChangeSpec := { name := "historyTells", fn := fun _ => fun
  | [d1, d2, d3, d4] => { results := [.lit (.bool true)], args := [d1, d2, d3, d4] }
  | _ => none }
def historyTellsRow : OpenClaim := { program := "yteijfoldbinghaa", sum := "e4066e552e80b8df97bff96e61ca42158841b7f391b07e91a54adaf337eee67b", func := "narrows/narrowslaw31.HistoryTells", spec := "historyTells", inPlace := ["math/bits.Add64", "math/bits.Sub64"], apart := false }
def HistoryTellsSaid : Prop := historyTellsRow.holds Try.pinned (OpenSpec.ofChange historyTellsSpec)

/-- ITS FALSE NEIGHBOUR: 'it returns false'. Refute it at one input. -/
def historyTellsWrong : ChangeSpec := { name := "historyTells", fn := fun _ => fun
  | [d1, d2, d3, d4] => { results := [.lit (.bool false)], args := [d1, d2, d3, d4] }
  | _ => none }
def HistoryTellsWrongFalsely : Prop := historyTellsRow.holds Try.pinned (OpenSpec.ofChange historyTellsWrong)

/-- 'narrowslaw25.ScriptBack': WHATEVER THE INPUT: true; the input reads as it did. -/
def scriptBackSpec : ChangeSpec := { name := "scriptBack", fn := fun _ => fun
  | [d1, d2] => { results := [.lit (.bool true)], args := [d1, d2] }
  | _ => none }
def scriptBackRow : OpenClaim := { program := "yteijfoldbinghaa", sum := "e4066e552e80b8df97bff96e61ca42158841b7f391b07e91a54adaf337eee67b", func := "narrows/narrowslaw25.ScriptBack", spec := "scriptBack", unfollowed := true, recurses := true, apart := false }
def ScriptBackSaid : Prop := scriptBackRow.holds Try.pinned (OpenSpec.ofChange scriptBackSpec)

/-- ITS FALSE NEIGHBOUR: 'it returns false'. Refute it at one input. -/
def scriptBackWrong : ChangeSpec := { name := "scriptBack", fn := fun _ => fun
  | [d1, d2] => { results := [.lit (.bool false)], args := [d1, d2] }
  | _ => none }
def ScriptBackWrongFalsely : Prop := scriptBackRow.holds Try.pinned (OpenSpec.ofChange scriptBackWrong)

/-- 'narrowslaw28.SupplyTells': WHATEVER THE INPUT: true; the input reads as it did. -/
def supplyTellsSpec : ChangeSpec := { name := "supplyTells", fn := fun _ => fun
  | [d1, d2] => { results := [.lit (.bool true)], args := [d1, d2] }
  | _ => none }
def supplyTellsRow : OpenClaim := { program := "yteijfoldbinghaa", sum := "e4066e552e80b8df97bff96e61ca42158841b7f391b07e91a54adaf337eee67b", func := "narrows/narrowslaw28.SupplyTells", spec := "supplyTells", inPlace := ["math/bits.Add64", "math/bits.Sub64"], apart := false }
def SupplyTellsSaid : Prop := supplyTellsRow.holds Try.pinned (OpenSpec.ofChange supplyTellsSpec)

/-- ITS FALSE NEIGHBOUR: 'it returns false'. Refute it at one input. -/
def supplyTellsWrong : ChangeSpec := { name := "supplyTells", fn := fun _ => fun
  | [d1, d2] => { results := [.lit (.bool false)], args := [d1, d2] }
  | _ => none }
def SupplyTellsWrongFalsely : Prop := supplyTellsRow.holds Try.pinned (OpenSpec.ofChange supplyTellsWrong)

/-- 'narrowslaw28.SupplyFits': WHATEVER THE INPUT: true; the input reads as it did. -/
def supplyFitsSpec : ChangeSpec := { name := "supplyFits", fn := fun _ => fun
  | [d1, d2] => { results := [.lit (.bool true)], args := [d1, d2] }
  | _ => none }
def supplyFitsRow : OpenClaim := { program := "yteijfoldbinghaa", sum := "e4066e552e80b8df97bff96e61ca42158841b7f391b07e91a54adaf337eee67b", func := "narrows/narrowslaw28.SupplyFits", spec := "supplyFits", inPlace := ["math/bits.Add64", "math/bits.Sub64"], apart := false }
def SupplyFitsSaid : Prop := supplyFitsRow.holds Try.pinned (OpenSpec.ofChange supplyFitsSpec)

/-- ITS FALSE NEIGHBOUR: 'it returns false'. Refute it at one input. -/
def supplyFitsWrong : ChangeSpec := { name := "supplyFits", fn := fun _ => fun
  | [d1, d2] => { results := [.lit (.bool false)], args := [d1, d2] }
  | _ => none }
def SupplyFitsWrongFalsely : Prop := supplyFitsRow.holds Try.pinned (OpenSpec.ofChange supplyFitsWrong)

/-- 'narrowslaw36.ClockSides': WHATEVER THE INPUT: true; the input reads as it did. -/
def clockSidesSpec : ChangeSpec := { name := "clockSides", fn := fun _ => fun
  | [d1, d2, d3] => { results := [.lit (.bool true)], args := [d1, d2, d3] }
  | _ => none }
def clockSidesRow : OpenClaim := { program := "yteijfoldbinghaa", sum := "e4066e552e80b8df97bff96e61ca42158841b7f391b07e91a54adaf337eee67b", func := "narrows/narrowslaw36.ClockSides", spec := "clockSides", unfollowed := true, recurses := true, apart := false }
def ClockSidesSaid : Prop := clockSidesRow.holds Try.pinned (OpenSpec.ofChange clockSidesSpec)

/-- ITS FALSE NEIGHBOUR: 'it returns false'. Refute it at one input. -/
def clockSidesWrong : ChangeSpec := { name := "clockSides", fn := fun _ => fun
  | [d1, d2, d3] => { results := [.lit (.bool false)], args := [d1, d2, d3] }
  | _ => none }
def ClockSidesWrongFalsely : Prop := clockSidesRow.holds Try.pinned (OpenSpec.ofChange clockSidesWrong)

/-- 'narrowslaw36.ClockTells': WHATEVER THE INPUT: true; the input reads as it did. -/
def clockTellsSpec : ChangeSpec := { name := "clockTells", fn := fun _ => fun
  | [d1, d2, d3, d4, d5] => { results := [.lit (.bool true)], args := [d1, d2, d3, d4, d5] }
  | _ => none }
def clockTellsRow : OpenClaim := { program := "yteijfoldbinghaa", sum := "e4066e552e80b8df97bff96e61ca42158841b7f391b07e91a54adaf337eee67b", func := "narrows/narrowslaw36.ClockTells", spec := "clockTells", unfollowed := true, recurses := true, apart := false }
def ClockTellsSaid : Prop := clockTellsRow.holds Try.pinned (OpenSpec.ofChange clockTellsSpec)

/-- ITS FALSE NEIGHBOUR: 'it returns false'. Refute it at one input. -/
def clockTellsWrong : ChangeSpec := { name := "clockTells", fn := fun _ => fun
  | [d1, d2, d3, d4, d5] => { results := [.lit (.bool false)], args := [d1, d2, d3, d4, d5] }
  | _ => none }
def ClockTellsWrongFalsely : Prop := clockTellsRow.holds Try.pinned (OpenSpec.ofChange clockTellsWrong)

/-- 'narrowslaw38.ExposureTells': WHATEVER THE INPUT: true; the input reads as it did. -/
def exposureTellsSpec : ChangeSpec := { name := "exposureTells", fn := fun _ => fun
  | [d1, d2] => { results := [.lit (.bool true)], args := [d1, d2] }
  | _ => none }
def exposureTellsRow : OpenClaim := { program := "yteijfoldbinghaa", sum := "e4066e552e80b8df97bff96e61ca42158841b7f391b07e91a54adaf337eee67b", func := "narrows/narrowslaw38.ExposureTells", spec := "exposureTells", inPlace := ["math/bits.Add64"], unfollowed := true, recurses := true, apart := false }
def ExposureTellsSaid : Prop := exposureTellsRow.holds Try.pinned (OpenSpec.ofChange exposureTellsSpec)

/-- ITS FALSE NEIGHBOUR: 'it returns false'. Refute it at one input. -/
def exposureTellsWrong : ChangeSpec := { name := "exposureTells", fn := fun _ => fun
  | [d1, d2] => { results := [.lit (.bool false)], args := [d1, d2] }
  | _ => none }
def ExposureTellsWrongFalsely : Prop := exposureTellsRow.holds Try.pinned (OpenSpec.ofChange exposureTellsWrong)

/-- 'narrowslaw38.ExposureShares': WHATEVER THE INPUT: true; the input reads as it did. -/
def exposureSharesSpec : ChangeSpec := { name := "exposureShares", fn := fun _ => fun
  | [d1, d2, d3] => { results := [.lit (.bool true)], args := [d1, d2, d3] }
  | _ => none }
def exposureSharesRow : OpenClaim := { program := "yteijfoldbinghaa", sum := "e4066e552e80b8df97bff96e61ca42158841b7f391b07e91a54adaf337eee67b", func := "narrows/narrowslaw38.ExposureShares", spec := "exposureShares", inPlace := ["math/bits.Add64"], unfollowed := true, recurses := true, apart := false }
def ExposureSharesSaid : Prop := exposureSharesRow.holds Try.pinned (OpenSpec.ofChange exposureSharesSpec)

/-- ITS FALSE NEIGHBOUR: 'it returns false'. Refute it at one input. -/
def exposureSharesWrong : ChangeSpec := { name := "exposureShares", fn := fun _ => fun
  | [d1, d2, d3] => { results := [.lit (.bool false)], args := [d1, d2, d3] }
  | _ => none }
def ExposureSharesWrongFalsely : Prop := exposureSharesRow.holds Try.pinned (OpenSpec.ofChange exposureSharesWrong)

/-- 'narrowslaw27.AuditTells': WHATEVER THE INPUT: true; the input reads as it did. -/
def auditTellsSpec : ChangeSpec := { name := "auditTells", fn := fun _ => fun
  | [d1, d2] => { results := [.lit (.bool true)], args := [d1, d2] }
  | _ => none }
def auditTellsRow : OpenClaim := { program := "yteijfoldbinghaa", sum := "e4066e552e80b8df97bff96e61ca42158841b7f391b07e91a54adaf337eee67b", func := "narrows/narrowslaw27.AuditTells", spec := "auditTells", unfollowed := true, recurses := true, apart := false }
def AuditTellsSaid : Prop := auditTellsRow.holds Try.pinned (OpenSpec.ofChange auditTellsSpec)

/-- ITS FALSE NEIGHBOUR: 'it returns false'. Refute it at one input. -/
def auditTellsWrong : ChangeSpec := { name := "auditTells", fn := fun _ => fun
  | [d1, d2] => { results := [.lit (.bool false)], args := [d1, d2] }
  | _ => none }
def AuditTellsWrongFalsely : Prop := auditTellsRow.holds Try.pinned (OpenSpec.ofChange auditTellsWrong)

/-- 'narrowslaw39.DeadlineParts': WHATEVER THE INPUT: true; the input reads as it did. -/
def deadlinePartsSpec : ChangeSpec := { name := "deadlineParts", fn := fun _ => fun
  | [d1, d2] => { results := [.lit (.bool true)], args := [d1, d2] }
  | _ => none }
def deadlinePartsRow : OpenClaim := { program := "yteijfoldbinghaa", sum := "e4066e552e80b8df97bff96e61ca42158841b7f391b07e91a54adaf337eee67b", func := "narrows/narrowslaw39.DeadlineParts", spec := "deadlineParts", unfollowed := true, recurses := true, apart := false }
def DeadlinePartsSaid : Prop := deadlinePartsRow.holds Try.pinned (OpenSpec.ofChange deadlinePartsSpec)

/-- ITS FALSE NEIGHBOUR: 'it returns false'. Refute it at one input. -/
def deadlinePartsWrong : ChangeSpec := { name := "deadlineParts", fn := fun _ => fun
  | [d1, d2] => { results := [.lit (.bool false)], args := [d1, d2] }
  | _ => none }
def DeadlinePartsWrongFalsely : Prop := deadlinePartsRow.holds Try.pinned (OpenSpec.ofChange deadlinePartsWrong)

/-- 'narrowslaw37.ReplayTells': WHATEVER THE INPUT: true; the input reads as it did. -/
def replayTellsSpec : ChangeSpec := { name := "replayTells", fn := fun _ => fun
  | [d1, d2, d3] => { results := [.lit (.bool true)], args := [d1, d2, d3] }
  | _ => none }
def replayTellsRow : OpenClaim := { program := "yteijfoldbinghaa", sum := "e4066e552e80b8df97bff96e61ca42158841b7f391b07e91a54adaf337eee67b", func := "narrows/narrowslaw37.ReplayTells", spec := "replayTells", inPlace := ["math/bits.Sub64", "math/bits.Add64"], unfollowed := true, recurses := true, apart := false }
def ReplayTellsSaid : Prop := replayTellsRow.holds Try.pinned (OpenSpec.ofChange replayTellsSpec)

/-- ITS FALSE NEIGHBOUR: 'it returns false'. Refute it at one input. -/
def replayTellsWrong : ChangeSpec := { name := "replayTells", fn := fun _ => fun
  | [d1, d2, d3] => { results := [.lit (.bool false)], args := [d1, d2, d3] }
  | _ => none }
def ReplayTellsWrongFalsely : Prop := replayTellsRow.holds Try.pinned (OpenSpec.ofChange replayTellsWrong)

/-- 'narrowslaw37.ReplayFirst': WHATEVER THE INPUT: true; the input reads as it did. -/
def replayFirstSpec : ChangeSpec := { name := "replayFirst", fn := fun _ => fun
  | [d1, d2, d3, d4] => { results := [.lit (.bool true)], args := [d1, d2, d3, d4] }
  | _ => none }
def replayFirstRow : OpenClaim := { program := "yteijfoldbinghaa", sum := "e4066e552e80b8df97bff96e61ca42158841b7f391b07e91a54adaf337eee67b", func := "narrows/narrowslaw37.ReplayFirst", spec := "replayFirst", inPlace := ["math/bits.Sub64", "math/bits.Add64"], unfollowed := true, recurses := true, apart := false }
def ReplayFirstSaid : Prop := replayFirstRow.holds Try.pinned (OpenSpec.ofChange replayFirstSpec)

/-- ITS FALSE NEIGHBOUR: 'it returns false'. Refute it at one input. -/
def replayFirstWrong : ChangeSpec := { name := "replayFirst", fn := fun _ => fun
  | [d1, d2, d3, d4] => { results := [.lit (.bool false)], args := [d1, d2, d3, d4] }
  | _ => none }
def ReplayFirstWrongFalsely : Prop := replayFirstRow.holds Try.pinned (OpenSpec.ofChange replayFirstWrong)

/- THE SECOND FORM. 'bulk': how many values and letters a reading holds, each counted each time it is reached (what is shared counts as often as it is met; a slice's spare places count too). A statement '..UptoSaid' is the law's where the arguments, and the package variables that the reading takes, are together of bulk at most 1048576: NARROWER than '..Said'. Prove '..Said' where nothing that the law and all that it calls make is longer than what came in: it says more and counts as full. Else prove '..UptoSaid'. A law counts once. -/
mutual
def uptoBulk {H : Type} : DataW H → Nat
  | .lit (.string bytes) => bytes.length + 1
  | .lit _ => 1
  | .nil => 1
  | .ptr d => uptoBulk d + 1
  | .slice elems spare => uptoBulkAll elems + uptoBulkAll spare + 1
  | .agg parts => uptoBulkAll parts + 1
  | .iface _ d => uptoBulk d + 1
  | .map entries => uptoBulkEntries entries + 1
  | .held _ => 1
def uptoBulkAll {H : Type} : List (DataW H) → Nat
  | [] => 0
  | d :: r => uptoBulk d + uptoBulkAll r
def uptoBulkEntries {H : Type} : List (Lit × DataW H) → Nat
  | [] => 0
  | x :: r => uptoBulkEntry x + uptoBulkEntries r
def uptoBulkEntry {H : Type} : Lit × DataW H → Nat
  | (.string bytes, d) => bytes.length + uptoBulk d + 1
  | (_, d) => uptoBulk d + 1
 end
def uptoSmall : (H : Type) → List (DataW H) → Bool := fun _ ds => decide (uptoBulkAll ds ≤ 1048576)
def OpenSpec.upto (s : _root_.Go.ChangeSpec) : _root_.Go.OpenSpec := { _root_.Go.OpenSpec.ofChange s with cond := some uptoSmall }

/-- 'narrowslaw31.HistoryTells', WHERE WHAT IT READS IS OF BULK AT MOST 1048576: true; the input reads as it did. -/
def historyTellsUptoRow : OpenClaim := { program := "yteijfoldbinghaa", sum := "e4066e552e80b8df97bff96e61ca42158841b7f391b07e91a54adaf337eee67b", func := "narrows/narrowslaw31.HistoryTells", spec := "historyTells", inPlace := ["math/bits.Add64", "math/bits.Sub64"], apart := false, narrowed := true }
def HistoryTellsUptoSaid : Prop := historyTellsUptoRow.holds Try.pinned (OpenSpec.upto historyTellsSpec)

/-- 'narrowslaw25.ScriptBack', WHERE WHAT IT READS IS OF BULK AT MOST 1048576: true; the input reads as it did. -/
def scriptBackUptoRow : OpenClaim := { program := "yteijfoldbinghaa", sum := "e4066e552e80b8df97bff96e61ca42158841b7f391b07e91a54adaf337eee67b", func := "narrows/narrowslaw25.ScriptBack", spec := "scriptBack", unfollowed := true, recurses := true, apart := false, narrowed := true }
def ScriptBackUptoSaid : Prop := scriptBackUptoRow.holds Try.pinned (OpenSpec.upto scriptBackSpec)

/-- 'narrowslaw28.SupplyTells', WHERE WHAT IT READS IS OF BULK AT MOST 1048576: true; the input reads as it did. -/
def supplyTellsUptoRow : OpenClaim := { program := "yteijfoldbinghaa", sum := "e4066e552e80b8df97bff96e61ca42158841b7f391b07e91a54adaf337eee67b", func := "narrows/narrowslaw28.SupplyTells", spec := "supplyTells", inPlace := ["math/bits.Add64", "math/bits.Sub64"], apart := false, narrowed := true }
def SupplyTellsUptoSaid : Prop := supplyTellsUptoRow.holds Try.pinned (OpenSpec.upto supplyTellsSpec)

/-- 'narrowslaw28.SupplyFits', WHERE WHAT IT READS IS OF BULK AT MOST 1048576: true; the input reads as it did. -/
def supplyFitsUptoRow : OpenClaim := { program := "yteijfoldbinghaa", sum := "e4066e552e80b8df97bff96e61ca42158841b7f391b07e91a54adaf337eee67b", func := "narrows/narrowslaw28.SupplyFits", spec := "supplyFits", inPlace := ["math/bits.Add64", "math/bits.Sub64"], apart := false, narrowed := true }
def SupplyFitsUptoSaid : Prop := supplyFitsUptoRow.holds Try.pinned (OpenSpec.upto supplyFitsSpec)

/-- 'narrowslaw36.ClockSides', WHERE WHAT IT READS IS OF BULK AT MOST 1048576: true; the input reads as it did. -/
def clockSidesUptoRow : OpenClaim := { program := "yteijfoldbinghaa", sum := "e4066e552e80b8df97bff96e61ca42158841b7f391b07e91a54adaf337eee67b", func := "narrows/narrowslaw36.ClockSides", spec := "clockSides", unfollowed := true, recurses := true, apart := false, narrowed := true }
def ClockSidesUptoSaid : Prop := clockSidesUptoRow.holds Try.pinned (OpenSpec.upto clockSidesSpec)

/-- 'narrowslaw36.ClockTells', WHERE WHAT IT READS IS OF BULK AT MOST 1048576: true; the input reads as it did. -/
def clockTellsUptoRow : OpenClaim := { program := "yteijfoldbinghaa", sum := "e4066e552e80b8df97bff96e61ca42158841b7f391b07e91a54adaf337eee67b", func := "narrows/narrowslaw36.ClockTells", spec := "clockTells", unfollowed := true, recurses := true, apart := false, narrowed := true }
def ClockTellsUptoSaid : Prop := clockTellsUptoRow.holds Try.pinned (OpenSpec.upto clockTellsSpec)

/-- 'narrowslaw38.ExposureTells', WHERE WHAT IT READS IS OF BULK AT MOST 1048576: true; the input reads as it did. -/
def exposureTellsUptoRow : OpenClaim := { program := "yteijfoldbinghaa", sum := "e4066e552e80b8df97bff96e61ca42158841b7f391b07e91a54adaf337eee67b", func := "narrows/narrowslaw38.ExposureTells", spec := "exposureTells", inPlace := ["math/bits.Add64"], unfollowed := true, recurses := true, apart := false, narrowed := true }
def ExposureTellsUptoSaid : Prop := exposureTellsUptoRow.holds Try.pinned (OpenSpec.upto exposureTellsSpec)

/-- 'narrowslaw38.ExposureShares', WHERE WHAT IT READS IS OF BULK AT MOST 1048576: true; the input reads as it did. -/
def exposureSharesUptoRow : OpenClaim := { program := "yteijfoldbinghaa", sum := "e4066e552e80b8df97bff96e61ca42158841b7f391b07e91a54adaf337eee67b", func := "narrows/narrowslaw38.ExposureShares", spec := "exposureShares", inPlace := ["math/bits.Add64"], unfollowed := true, recurses := true, apart := false, narrowed := true }
def ExposureSharesUptoSaid : Prop := exposureSharesUptoRow.holds Try.pinned (OpenSpec.upto exposureSharesSpec)

/-- 'narrowslaw27.AuditTells', WHERE WHAT IT READS IS OF BULK AT MOST 1048576: true; the input reads as it did. -/
def auditTellsUptoRow : OpenClaim := { program := "yteijfoldbinghaa", sum := "e4066e552e80b8df97bff96e61ca42158841b7f391b07e91a54adaf337eee67b", func := "narrows/narrowslaw27.AuditTells", spec := "auditTells", unfollowed := true, recurses := true, apart := false, narrowed := true }
def AuditTellsUptoSaid : Prop := auditTellsUptoRow.holds Try.pinned (OpenSpec.upto auditTellsSpec)

/-- 'narrowslaw39.DeadlineParts', WHERE WHAT IT READS IS OF BULK AT MOST 1048576: true; the input reads as it did. -/
def deadlinePartsUptoRow : OpenClaim := { program := "yteijfoldbinghaa", sum := "e4066e552e80b8df97bff96e61ca42158841b7f391b07e91a54adaf337eee67b", func := "narrows/narrowslaw39.DeadlineParts", spec := "deadlineParts", unfollowed := true, recurses := true, apart := false, narrowed := true }
def DeadlinePartsUptoSaid : Prop := deadlinePartsUptoRow.holds Try.pinned (OpenSpec.upto deadlinePartsSpec)

/-- 'narrowslaw37.ReplayTells', WHERE WHAT IT READS IS OF BULK AT MOST 1048576: true; the input reads as it did. -/
def replayTellsUptoRow : OpenClaim := { program := "yteijfoldbinghaa", sum := "e4066e552e80b8df97bff96e61ca42158841b7f391b07e91a54adaf337eee67b", func := "narrows/narrowslaw37.ReplayTells", spec := "replayTells", inPlace := ["math/bits.Sub64", "math/bits.Add64"], unfollowed := true, recurses := true, apart := false, narrowed := true }
def ReplayTellsUptoSaid : Prop := replayTellsUptoRow.holds Try.pinned (OpenSpec.upto replayTellsSpec)

/-- 'narrowslaw37.ReplayFirst', WHERE WHAT IT READS IS OF BULK AT MOST 1048576: true; the input reads as it did. -/
def replayFirstUptoRow : OpenClaim := { program := "yteijfoldbinghaa", sum := "e4066e552e80b8df97bff96e61ca42158841b7f391b07e91a54adaf337eee67b", func := "narrows/narrowslaw37.ReplayFirst", spec := "replayFirst", inPlace := ["math/bits.Sub64", "math/bits.Add64"], unfollowed := true, recurses := true, apart := false, narrowed := true }
def ReplayFirstUptoSaid : Prop := replayFirstUptoRow.holds Try.pinned (OpenSpec.upto replayFirstSpec)

end Rows
end Go.Proofs.Yteijfoldbinghaa
