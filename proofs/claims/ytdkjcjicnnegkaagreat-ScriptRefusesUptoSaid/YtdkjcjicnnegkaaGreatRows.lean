/-
  No cell of these rows narrows 'for every input' (looked for: loops, veiled, ifaces, maps, wideKeys, modest, calm, conditions, laid).
  DERIVED. THE GIVEN ROWS OF THIS SEAT. 6 by the template 'for every input the law returns true; each argument reads behind the call as it read before'; 0 by the template 'total and deterministic' (their statements: YtdkjcjicnnegkaaGreatTotals.lean).
  GIVEN WITH THE SEED: the statements are not yours to turn. If you find one false, say at which input.
  Laid BY PROGRAM, IN A SANDBOX (cutbox-rows.mjs): the forced cells as the released guide's own fill.sh prints them over the translation c60bf67b9af32360… (all of the seat's roots in one cut). By AI agents, Wed Nov 11 2026. No macro, syntax, notation, axiom, sorry.
-/
import Derived.Test.YtdkjcjicnnegkaaGreatChecked
import GoSem.Claim
import GoSem.ClaimJoined
import GoSem.ClaimMapViews
import Derived.JoinedTies
import Derived.KernelRfl
namespace Go.Proofs.YtdkjcjicnnegkaaGreat
/- THE CELL 'sum', in the pinned program and in every row, IS THE sha256 OF THE DUMP (.gsa) THAT YtdkjcjicnnegkaaGreatProg.lean LOADS. Nothing in Lean hashes anything: it is a label: what it is worth is what the hold of that sum in a sandbox is worth. -/
noncomputable def Tryz.pinned : Pinned := { name := "ytdkjcjicnnegkaagreat", sum := "c60bf67b9af32360986380130456cdb5630a58b2b3e76541a3eab7d21959723a", checked := Tryz.checked }
namespace Rows
def none {H : Type} : Left H := { results := [], args := [] }

/-- 'narrowslaw24.WorldSame': WHATEVER THE INPUT: true; the input reads as it did. -/
def worldSameSpec : ChangeSpec := { name := "worldSame", fn := fun _ => fun
  | [d1, d2] => { results := [.lit (.bool true)], args := [d1, d2] }
  | _ => none }
def worldSameRow : OpenClaim := { program := "ytdkjcjicnnegkaagreat", sum := "c60bf67b9af32360986380130456cdb5630a58b2b3e76541a3eab7d21959723a", func := "narrows/narrowslaw24.WorldSame", spec := "worldSame", inPlace := ["math/bits.Sub64", "math/bits.Add64"], unfollowed := true, recurses := true, named := ["math/bits.divideError", "math/bits.overflowError"], plainKeys := false, apart := false }
def WorldSameSaid : Prop := worldSameRow.holds Tryz.pinned (OpenSpec.ofChange worldSameSpec)

/-- ITS FALSE NEIGHBOUR: 'it returns false'. Refute it at one input. -/
def worldSameWrong : ChangeSpec := { name := "worldSame", fn := fun _ => fun
  | [d1, d2] => { results := [.lit (.bool false)], args := [d1, d2] }
  | _ => none }
def WorldSameWrongFalsely : Prop := worldSameRow.holds Tryz.pinned (OpenSpec.ofChange worldSameWrong)

/-- 'narrowslaw24.WorldMade': WHATEVER THE INPUT: true; the input reads as it did. -/
def worldMadeSpec : ChangeSpec := { name := "worldMade", fn := fun _ => fun
  | [d1, d2] => { results := [.lit (.bool true)], args := [d1, d2] }
  | _ => none }
def worldMadeRow : OpenClaim := { program := "ytdkjcjicnnegkaagreat", sum := "c60bf67b9af32360986380130456cdb5630a58b2b3e76541a3eab7d21959723a", func := "narrows/narrowslaw24.WorldMade", spec := "worldMade", inPlace := ["math/bits.Sub64", "math/bits.Add64"], unfollowed := true, recurses := true, named := ["math/bits.divideError", "math/bits.overflowError"], plainKeys := false, apart := false }
def WorldMadeSaid : Prop := worldMadeRow.holds Tryz.pinned (OpenSpec.ofChange worldMadeSpec)

/-- ITS FALSE NEIGHBOUR: 'it returns false'. Refute it at one input. -/
def worldMadeWrong : ChangeSpec := { name := "worldMade", fn := fun _ => fun
  | [d1, d2] => { results := [.lit (.bool false)], args := [d1, d2] }
  | _ => none }
def WorldMadeWrongFalsely : Prop := worldMadeRow.holds Tryz.pinned (OpenSpec.ofChange worldMadeWrong)

/-- 'narrowslaw24.WorldNobody': WHATEVER THE INPUT: true; the input reads as it did. -/
def worldNobodySpec : ChangeSpec := { name := "worldNobody", fn := fun _ => fun
  | [d1, d2] => { results := [.lit (.bool true)], args := [d1, d2] }
  | _ => none }
def worldNobodyRow : OpenClaim := { program := "ytdkjcjicnnegkaagreat", sum := "c60bf67b9af32360986380130456cdb5630a58b2b3e76541a3eab7d21959723a", func := "narrows/narrowslaw24.WorldNobody", spec := "worldNobody", inPlace := ["math/bits.Sub64", "math/bits.Add64"], unfollowed := true, recurses := true, named := ["math/bits.divideError", "math/bits.overflowError"], plainKeys := false, apart := false }
def WorldNobodySaid : Prop := worldNobodyRow.holds Tryz.pinned (OpenSpec.ofChange worldNobodySpec)

/-- ITS FALSE NEIGHBOUR: 'it returns false'. Refute it at one input. -/
def worldNobodyWrong : ChangeSpec := { name := "worldNobody", fn := fun _ => fun
  | [d1, d2] => { results := [.lit (.bool false)], args := [d1, d2] }
  | _ => none }
def WorldNobodyWrongFalsely : Prop := worldNobodyRow.holds Tryz.pinned (OpenSpec.ofChange worldNobodyWrong)

/-- 'narrowslaw25.ScriptRefuses': WHATEVER THE INPUT: true; the input reads as it did. -/
def scriptRefusesSpec : ChangeSpec := { name := "scriptRefuses", fn := fun _ => fun
  | [d1, d2, d3] => { results := [.lit (.bool true)], args := [d1, d2, d3] }
  | _ => none }
def scriptRefusesRow : OpenClaim := { program := "ytdkjcjicnnegkaagreat", sum := "c60bf67b9af32360986380130456cdb5630a58b2b3e76541a3eab7d21959723a", func := "narrows/narrowslaw25.ScriptRefuses", spec := "scriptRefuses", inPlace := ["math/bits.Sub64", "math/bits.Add64"], unfollowed := true, recurses := true, named := ["math/bits.divideError", "math/bits.overflowError"], plainKeys := false, apart := false }
def ScriptRefusesSaid : Prop := scriptRefusesRow.holds Tryz.pinned (OpenSpec.ofChange scriptRefusesSpec)

/-- ITS FALSE NEIGHBOUR: 'it returns false'. Refute it at one input. -/
def scriptRefusesWrong : ChangeSpec := { name := "scriptRefuses", fn := fun _ => fun
  | [d1, d2, d3] => { results := [.lit (.bool false)], args := [d1, d2, d3] }
  | _ => none }
def ScriptRefusesWrongFalsely : Prop := scriptRefusesRow.holds Tryz.pinned (OpenSpec.ofChange scriptRefusesWrong)

/-- 'narrowslaw25.ScriptNone': WHATEVER THE INPUT: true; the input reads as it did. -/
def scriptNoneSpec : ChangeSpec := { name := "scriptNone", fn := fun _ => fun
  | [d1, d2] => { results := [.lit (.bool true)], args := [d1, d2] }
  | _ => none }
def scriptNoneRow : OpenClaim := { program := "ytdkjcjicnnegkaagreat", sum := "c60bf67b9af32360986380130456cdb5630a58b2b3e76541a3eab7d21959723a", func := "narrows/narrowslaw25.ScriptNone", spec := "scriptNone", inPlace := ["math/bits.Sub64", "math/bits.Add64"], unfollowed := true, recurses := true, named := ["math/bits.divideError", "math/bits.overflowError"], plainKeys := false, apart := false }
def ScriptNoneSaid : Prop := scriptNoneRow.holds Tryz.pinned (OpenSpec.ofChange scriptNoneSpec)

/-- ITS FALSE NEIGHBOUR: 'it returns false'. Refute it at one input. -/
def scriptNoneWrong : ChangeSpec := { name := "scriptNone", fn := fun _ => fun
  | [d1, d2] => { results := [.lit (.bool false)], args := [d1, d2] }
  | _ => none }
def ScriptNoneWrongFalsely : Prop := scriptNoneRow.holds Tryz.pinned (OpenSpec.ofChange scriptNoneWrong)

/-- 'narrowslaw25.ScriptRuns': WHATEVER THE INPUT: true; the input reads as it did. -/
def scriptRunsSpec : ChangeSpec := { name := "scriptRuns", fn := fun _ => fun
  | [d1, d2] => { results := [.lit (.bool true)], args := [d1, d2] }
  | _ => none }
def scriptRunsRow : OpenClaim := { program := "ytdkjcjicnnegkaagreat", sum := "c60bf67b9af32360986380130456cdb5630a58b2b3e76541a3eab7d21959723a", func := "narrows/narrowslaw25.ScriptRuns", spec := "scriptRuns", inPlace := ["math/bits.Sub64", "math/bits.Add64"], unfollowed := true, recurses := true, named := ["math/bits.divideError", "math/bits.overflowError"], plainKeys := false, apart := false }
def ScriptRunsSaid : Prop := scriptRunsRow.holds Tryz.pinned (OpenSpec.ofChange scriptRunsSpec)

/-- ITS FALSE NEIGHBOUR: 'it returns false'. Refute it at one input. -/
def scriptRunsWrong : ChangeSpec := { name := "scriptRuns", fn := fun _ => fun
  | [d1, d2] => { results := [.lit (.bool false)], args := [d1, d2] }
  | _ => none }
def ScriptRunsWrongFalsely : Prop := scriptRunsRow.holds Tryz.pinned (OpenSpec.ofChange scriptRunsWrong)

/- THE SECOND FORM. 'bulk': how many values and letters a reading holds, each counted each time it is reached (what is shared counts as often as it is met; a slice's spare places count too). A statement '..UptoSaid' is the law's where the arguments, and the package variables that the reading takes, are together of bulk at most 1048576: NARROWER than '..Said'. Prove '..Said' where nothing that the law and all that it calls make is longer than what came in: it says more and counts as full. Else prove '..UptoSaid'. A law counts once. -/
mutual
def uptoBulk {H : Type} : DataW H → Nat
  | .lit (.string bytes) => bytes.length + 1
  | .lit _ => 1
  | .nil => 1
  | .ptr d => uptoBulk d + 1
  | .slice elems spare => uptoBulkAll elems + uptoBulkAll spare + 1
  | .agg parts => uptoBulkAll parts + 1
  | .iface _ d => uptoBulk d + 1
  | .map entries => uptoBulkEntries entries + 1
  | .held _ => 1
def uptoBulkAll {H : Type} : List (DataW H) → Nat
  | [] => 0
  | d :: r => uptoBulk d + uptoBulkAll r
def uptoBulkEntries {H : Type} : List (Lit × DataW H) → Nat
  | [] => 0
  | x :: r => uptoBulkEntry x + uptoBulkEntries r
def uptoBulkEntry {H : Type} : Lit × DataW H → Nat
  | (.string bytes, d) => bytes.length + uptoBulk d + 1
  | (_, d) => uptoBulk d + 1
 end
def uptoSmall : (H : Type) → List (DataW H) → Bool := fun _ ds => decide (uptoBulkAll ds ≤ 1048576)
def OpenSpec.upto (s : _root_.Go.ChangeSpec) : _root_.Go.OpenSpec := { _root_.Go.OpenSpec.ofChange s with cond := some uptoSmall }

/-- 'narrowslaw24.WorldSame', WHERE WHAT IT READS IS OF BULK AT MOST 1048576: true; the input reads as it did. -/
def worldSameUptoRow : OpenClaim := { program := "ytdkjcjicnnegkaagreat", sum := "c60bf67b9af32360986380130456cdb5630a58b2b3e76541a3eab7d21959723a", func := "narrows/narrowslaw24.WorldSame", spec := "worldSame", inPlace := ["math/bits.Sub64", "math/bits.Add64"], unfollowed := true, recurses := true, named := ["math/bits.divideError", "math/bits.overflowError"], plainKeys := false, apart := false, narrowed := true }
def WorldSameUptoSaid : Prop := worldSameUptoRow.holds Tryz.pinned (OpenSpec.upto worldSameSpec)

/-- 'narrowslaw24.WorldMade', WHERE WHAT IT READS IS OF BULK AT MOST 1048576: true; the input reads as it did. -/
def worldMadeUptoRow : OpenClaim := { program := "ytdkjcjicnnegkaagreat", sum := "c60bf67b9af32360986380130456cdb5630a58b2b3e76541a3eab7d21959723a", func := "narrows/narrowslaw24.WorldMade", spec := "worldMade", inPlace := ["math/bits.Sub64", "math/bits.Add64"], unfollowed := true, recurses := true, named := ["math/bits.divideError", "math/bits.overflowError"], plainKeys := false, apart := false, narrowed := true }
def WorldMadeUptoSaid : Prop := worldMadeUptoRow.holds Tryz.pinned (OpenSpec.upto worldMadeSpec)

/-- 'narrowslaw24.WorldNobody', WHERE WHAT IT READS IS OF BULK AT MOST 1048576: true; the input reads as it did. -/
def worldNobodyUptoRow : OpenClaim := { program := "ytdkjcjicnnegkaagreat", sum := "c60bf67b9af32360986380130456cdb5630a58b2b3e76541a3eab7d21959723a", func := "narrows/narrowslaw24.WorldNobody", spec := "worldNobody", inPlace := ["math/bits.Sub64", "math/bits.Add64"], unfollowed := true, recurses := true, named := ["math/bits.divideError", "math/bits.overflowError"], plainKeys := false, apart := false, narrowed := true }
def WorldNobodyUptoSaid : Prop := worldNobodyUptoRow.holds Tryz.pinned (OpenSpec.upto worldNobodySpec)

/-- 'narrowslaw25.ScriptRefuses', WHERE WHAT IT READS IS OF BULK AT MOST 1048576: true; the input reads as it did. -/
def scriptRefusesUptoRow : OpenClaim := { program := "ytdkjcjicnnegkaagreat", sum := "c60bf67b9af32360986380130456cdb5630a58b2b3e76541a3eab7d21959723a", func := "narrows/narrowslaw25.ScriptRefuses", spec := "scriptRefuses", inPlace := ["math/bits.Sub64", "math/bits.Add64"], unfollowed := true, recurses := true, named := ["math/bits.divideError", "math/bits.overflowError"], plainKeys := false, apart := false, narrowed := true }
def ScriptRefusesUptoSaid : Prop := scriptRefusesUptoRow.holds Tryz.pinned (OpenSpec.upto scriptRefusesSpec)

/-- 'narrowslaw25.ScriptNone', WHERE WHAT IT READS IS OF BULK AT MOST 1048576: true; the input reads as it did. -/
def scriptNoneUptoRow : OpenClaim := { program := "ytdkjcjicnnegkaagreat", sum := "c60bf67b9af32360986380130456cdb5630a58b2b3e76541a3eab7d21959723a", func := "narrows/narrowslaw25.ScriptNone", spec := "scriptNone", inPlace := ["math/bits.Sub64", "math/bits.Add64"], unfollowed := true, recurses := true, named := ["math/bits.divideError", "math/bits.overflowError"], plainKeys := false, apart := false, narrowed := true }
def ScriptNoneUptoSaid : Prop := scriptNoneUptoRow.holds Tryz.pinned (OpenSpec.upto scriptNoneSpec)

/-- 'narrowslaw25.ScriptRuns', WHERE WHAT IT READS IS OF BULK AT MOST 1048576: true; the input reads as it did. -/
def scriptRunsUptoRow : OpenClaim := { program := "ytdkjcjicnnegkaagreat", sum := "c60bf67b9af32360986380130456cdb5630a58b2b3e76541a3eab7d21959723a", func := "narrows/narrowslaw25.ScriptRuns", spec := "scriptRuns", inPlace := ["math/bits.Sub64", "math/bits.Add64"], unfollowed := true, recurses := true, named := ["math/bits.divideError", "math/bits.overflowError"], plainKeys := false, apart := false, narrowed := true }
def ScriptRunsUptoSaid : Prop := scriptRunsUptoRow.holds Tryz.pinned (OpenSpec.upto scriptRunsSpec)

end Rows
end Go.Proofs.YtdkjcjicnnegkaaGreat
