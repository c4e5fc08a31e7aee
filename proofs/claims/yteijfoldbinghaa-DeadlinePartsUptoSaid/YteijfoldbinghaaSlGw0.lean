/- Walked code of the program, its pure functions and their contracts. -/
import Derived.Test.YteijfoldbinghaaProg
import Derived.Test.YteijfoldbinghaaSlConv
set_option linter.unusedVariables false
set_option linter.unusedSimpArgs false
namespace Go.Sl
open Go.Proofs Go.Proofs.Try
theorem follows_mixed : Try.prog.follows .mixedOrders = true := by kernel_rfl
structure api_Wide where
  a0 : UInt64
  a1 : UInt64
  a2 : UInt64
  a3 : UInt64
  deriving DecidableEq
def api_Wide.cs (x : api_Wide) : List Value := [U x.a0, U x.a1, U x.a2, U x.a3]
def api_Wide.list (x : api_Wide) : List UInt64 := [x.a0, x.a1, x.a2, x.a3]
def api_Wide.set (x : api_Wide) (k : Nat) (v : UInt64) : api_Wide := ⟨if k = 0 then v else x.a0, if k = 1 then v else x.a1, if k = 2 then v else x.a2, if k = 3 then v else x.a3⟩
def api_Wide.z : api_Wide := ⟨0, 0, 0, 0⟩
noncomputable def wide_Of (a0 : UInt64) : api_Wide :=
  ⟨a0, 0, 0, 0⟩
set_option maxRecDepth 20000 in
set_option maxHeartbeats 1000000 in
theorem S_wide_Of (a0 : UInt64) (r : api_Wide) (h : wide_Of a0 = r) :
    SpecF Try.prog 74 [U a0] [] [] (fun _ : Unit => True) (fun z => Ag (api_Wide.cs r)) (fun z M =>  M) (fun z M =>  M) := by
  refine .of func74 rfl ntmps74 rfl fun w0 D0 G0 => ?_
  unfold wide_Of at h
  refine .seq ?_
  refine .reg rfl ?_
  refine .opx (X.alc (cs := (api_Wide.cs ⟨0, 0, 0, 0⟩)) zeroValue27 rfl) rfl fun b1 => ?_
  refine .nil ?_
  refine .then ?_
  refine .seq ?_
  refine .reg rfl ?_
  refine .opp (P.mov .t1) rfl ?_
  refine .opp (P.bld (v := Ag (api_Wide.cs ⟨a0, 0, 0, 0⟩)) (.cons .t0 .nil) (bld_runA zeroValue27 runUnderlying27 sizeOf25 (by kernel_rfl))) rfl ?_
  refine .opg (G.str .t0 .g0 .k0 (.mk (cs' := (api_Wide.cs ⟨a0, 0, 0, 0⟩)) sizeOf27 rfl rfl rfl rfl)) rfl fun _ _ => ?_
  refine .nil ?_
  refine .then ?_
  refine .ret ?_
  subst h
  exact .finw () (.r1 rfl (.cell .g0 .k0 (.agg isAgg27 sizeOf27 rfl rfl))) trivial (Ls.of .nil) .nil
attribute [irreducible] wide_Of
end Go.Sl
