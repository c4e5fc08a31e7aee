/-
  No cell of these rows narrows 'for every input' (looked for: loops, veiled, ifaces, maps, wideKeys, modest, calm, conditions, laid).
  DERIVED. THE GIVEN ROWS OF THIS SEAT. 3 by the template 'for every input the law returns true; each argument reads behind the call as it read before'; 0 by the template 'total and deterministic' (their statements: YteijfoldbinghaaGreatTotals.lean).
  GIVEN WITH THE SEED: the statements are not yours to turn. If you find one false, say at which input.
  Laid BY PROGRAM, IN A SANDBOX (cutbox-rows.mjs): the forced cells as the released guide's own fill.sh prints them over the translation 521e47bdb7e120ee… (all of the seat's roots in one cut). By AI agents, Wed Nov 11 2026. No macro, syntax, notation, axiom, sorry.
-/
import Derived.Test.YteijfoldbinghaaGreatChecked
import GoSem.Claim
import GoSem.ClaimJoined
import GoSem.ClaimMapViews
import Derived.JoinedTies
import Derived.KernelRfl
namespace Go.Proofs.YteijfoldbinghaaGreat
/- THE CELL 'sum', in the pinned program and in every row, IS THE sha256 OF THE DUMP (.gsa) THAT YteijfoldbinghaaGreatProg.lean LOADS. Nothing in Lean hashes anything: it is a label: what it is worth is what the hold of that sum in a sandbox is worth. -/
noncomputable def Tryz.pinned : Pinned := { name := "yteijfoldbinghaagreat", sum := "521e47bdb7e120ee72d4d897fac473a1e14c69542ca2e3449a5e8dd95daea597", checked := Tryz.checked }
namespace Rows
def none {H : Type} : Left H := { results := [], args := [] }

/-- 'narrowslaw37.ReplayChains': WHATEVER THE INPUT: true; the input reads as it did. -/
def replayChainsSpec : ChangeSpec := { name := "replayChains", fn := fun _ => fun
  | [d1, d2, d3, d4] => { results := [.lit (.bool true)], args := [d1, d2, d3, d4] }
  | _ => none }
def replayChainsRow : OpenClaim := { program := "yteijfoldbinghaagreat", sum := "521e47bdb7e120ee72d4d897fac473a1e14c69542ca2e3449a5e8dd95daea597", func := "narrows/narrowslaw37.ReplayChains", spec := "replayChains", inPlace := ["math/bits.Sub64", "math/bits.Add64"], unfollowed := true, recurses := true, apart := false }
def ReplayChainsSaid : Prop := replayChainsRow.holds Tryz.pinned (OpenSpec.ofChange replayChainsSpec)

/-- ITS FALSE NEIGHBOUR: 'it returns false'. Refute it at one input. -/
def replayChainsWrong : ChangeSpec := { name := "replayChains", fn := fun _ => fun
  | [d1, d2, d3, d4] => { results := [.lit (.bool false)], args := [d1, d2, d3, d4] }
  | _ => none }
def ReplayChainsWrongFalsely : Prop := replayChainsRow.holds Tryz.pinned (OpenSpec.ofChange replayChainsWrong)

/-- 'narrowslaw28.SupplySolvent': WHATEVER THE INPUT: true; the input reads as it did. -/
def supplySolventSpec : ChangeSpec := { name := "supplySolvent", fn := fun _ => fun
  | [d1, d2, d3, d4] => { results := [.lit (.bool true)], args := [d1, d2, d3, d4] }
  | _ => none }
def supplySolventRow : OpenClaim := { program := "yteijfoldbinghaagreat", sum := "521e47bdb7e120ee72d4d897fac473a1e14c69542ca2e3449a5e8dd95daea597", func := "narrows/narrowslaw28.SupplySolvent", spec := "supplySolvent", inPlace := ["math/bits.Add64", "math/bits.Sub64"], unfollowed := true, recurses := true, apart := false }
def SupplySolventSaid : Prop := supplySolventRow.holds Tryz.pinned (OpenSpec.ofChange supplySolventSpec)

/-- ITS FALSE NEIGHBOUR: 'it returns false'. Refute it at one input. -/
def supplySolventWrong : ChangeSpec := { name := "supplySolvent", fn := fun _ => fun
  | [d1, d2, d3, d4] => { results := [.lit (.bool false)], args := [d1, d2, d3, d4] }
  | _ => none }
def SupplySolventWrongFalsely : Prop := supplySolventRow.holds Tryz.pinned (OpenSpec.ofChange supplySolventWrong)

/-- 'narrowslaw31.HistoryPurses': WHATEVER THE INPUT: true; the input reads as it did. -/
def historyPursesSpec : ChangeSpec := { name := "historyPurses", fn := fun _ => fun
  | [d1, d2, d3, d4] => { results := [.lit (.bool true)], args := [d1, d2, d3, d4] }
  | _ => none }
def historyPursesRow : OpenClaim := { program := "yteijfoldbinghaagreat", sum := "521e47bdb7e120ee72d4d897fac473a1e14c69542ca2e3449a5e8dd95daea597", func := "narrows/narrowslaw31.HistoryPurses", spec := "historyPurses", inPlace := ["math/bits.Add64", "math/bits.Sub64"], unfollowed := true, recurses := true, apart := false }
def HistoryPursesSaid : Prop := historyPursesRow.holds Tryz.pinned (OpenSpec.ofChange historyPursesSpec)

/-- ITS FALSE NEIGHBOUR: 'it returns false'. Refute it at one input. -/
def historyPursesWrong : ChangeSpec := { name := "historyPurses", fn := fun _ => fun
  | [d1, d2, d3, d4] => { results := [.lit (.bool false)], args := [d1, d2, d3, d4] }
  | _ => none }
def HistoryPursesWrongFalsely : Prop := historyPursesRow.holds Tryz.pinned (OpenSpec.ofChange historyPursesWrong)

/- THE SECOND FORM. 'bulk': how many values and letters a reading holds, each counted each time it is reached (what is shared counts as often as it is met; a slice's spare places count too). A statement '..UptoSaid' is the law's where the arguments, and the package variables that the reading takes, are together of bulk at most 1048576: NARROWER than '..Said'. Prove '..Said' where nothing that the law and all that it calls make is longer than what came in: it says more and counts as full. Else prove '..UptoSaid'. A law counts once. -/
mutual
def uptoBulk {H : Type} : DataW H → Nat
  | .lit (.string bytes) => bytes.length + 1
  | .lit _ => 1
  | .nil => 1
  | .ptr d => uptoBulk d + 1
  | .slice elems spare => uptoBulkAll elems + uptoBulkAll spare + 1
  | .agg parts => uptoBulkAll parts + 1
  | .iface _ d => uptoBulk d + 1
  | .map entries => uptoBulkEntries entries + 1
  | .held _ => 1
def uptoBulkAll {H : Type} : List (DataW H) → Nat
  | [] => 0
  | d :: r => uptoBulk d + uptoBulkAll r
def uptoBulkEntries {H : Type} : List (Lit × DataW H) → Nat
  | [] => 0
  | x :: r => uptoBulkEntry x + uptoBulkEntries r
def uptoBulkEntry {H : Type} : Lit × DataW H → Nat
  | (.string bytes, d) => bytes.length + uptoBulk d + 1
  | (_, d) => uptoBulk d + 1
 end
def uptoSmall : (H : Type) → List (DataW H) → Bool := fun _ ds => decide (uptoBulkAll ds ≤ 1048576)
def OpenSpec.upto (s : _root_.Go.ChangeSpec) : _root_.Go.OpenSpec := { _root_.Go.OpenSpec.ofChange s with cond := some uptoSmall }

/-- 'narrowslaw37.ReplayChains', WHERE WHAT IT READS IS OF BULK AT MOST 1048576: true; the input reads as it did. -/
def replayChainsUptoRow : OpenClaim := { program := "yteijfoldbinghaagreat", sum := "521e47bdb7e120ee72d4d897fac473a1e14c69542ca2e3449a5e8dd95daea597", func := "narrows/narrowslaw37.ReplayChains", spec := "replayChains", inPlace := ["math/bits.Sub64", "math/bits.Add64"], unfollowed := true, recurses := true, apart := false, narrowed := true }
def ReplayChainsUptoSaid : Prop := replayChainsUptoRow.holds Tryz.pinned (OpenSpec.upto replayChainsSpec)

/-- 'narrowslaw28.SupplySolvent', WHERE WHAT IT READS IS OF BULK AT MOST 1048576: true; the input reads as it did. -/
def supplySolventUptoRow : OpenClaim := { program := "yteijfoldbinghaagreat", sum := "521e47bdb7e120ee72d4d897fac473a1e14c69542ca2e3449a5e8dd95daea597", func := "narrows/narrowslaw28.SupplySolvent", spec := "supplySolvent", inPlace := ["math/bits.Add64", "math/bits.Sub64"], unfollowed := true, recurses := true, apart := false, narrowed := true }
def SupplySolventUptoSaid : Prop := supplySolventUptoRow.holds Tryz.pinned (OpenSpec.upto supplySolventSpec)

/-- 'narrowslaw31.HistoryPurses', WHERE WHAT IT READS IS OF BULK AT MOST 1048576: true; the input reads as it did. -/
def historyPursesUptoRow : OpenClaim := { program := "yteijfoldbinghaagreat", sum := "521e47bdb7e120ee72d4d897fac473a1e14c69542ca2e3449a5e8dd95daea597", func := "narrows/narrowslaw31.HistoryPurses", spec := "historyPurses", inPlace := ["math/bits.Add64", "math/bits.Sub64"], unfollowed := true, recurses := true, apart := false, narrowed := true }
def HistoryPursesUptoSaid : Prop := historyPursesUptoRow.holds Tryz.pinned (OpenSpec.upto historyPursesSpec)

end Rows
end Go.Proofs.YteijfoldbinghaaGreat
