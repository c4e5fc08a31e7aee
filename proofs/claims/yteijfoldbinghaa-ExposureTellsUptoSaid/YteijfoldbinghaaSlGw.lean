/- Walked code of the program, its pure functions and their contracts. -/
import Derived.Test.YteijfoldbinghaaProg
import Derived.Test.YteijfoldbinghaaSlConv
set_option linter.unusedVariables false
set_option linter.unusedSimpArgs false
namespace Go.Sl
open Go.Proofs Go.Proofs.Try
theorem follows_mixed : Try.prog.follows .mixedOrders = true := by kernel_rfl
structure api_Wide where
  a0 : UInt64
  a1 : UInt64
  a2 : UInt64
  a3 : UInt64
  deriving DecidableEq
def api_Wide.cs (x : api_Wide) : List Value := [U x.a0, U x.a1, U x.a2, U x.a3]
def api_Wide.list (x : api_Wide) : List UInt64 := [x.a0, x.a1, x.a2, x.a3]
def api_Wide.set (x : api_Wide) (k : Nat) (v : UInt64) : api_Wide := ⟨if k = 0 then v else x.a0, if k = 1 then v else x.a1, if k = 2 then v else x.a2, if k = 3 then v else x.a3⟩
def api_Wide.z : api_Wide := ⟨0, 0, 0, 0⟩
theorem fn_127 : Extern.findNext f127 = none := by kernel_rfl
theorem find_127 : Extern.find f127 = some sub64Entry := by kernel_rfl
theorem fn_140 : Extern.findNext f140 = none := by kernel_rfl
theorem find_140 : Extern.find f140 = some add64Entry := by kernel_rfl
theorem one_3 (x : Int) : oneAll ((fun x => [N x]) x) = true := rfl
noncomputable def wide_Add (a0 : api_Wide) (a1 : api_Wide) : api_Wide × Bool :=
  if (decide (((add64 a0.a3 a1.a3 ((add64 a0.a2 a1.a2 ((add64 a0.a1 a1.a1 ((add64 a0.a0 a1.a0 0).2)).2)).2)).2) ≠ 0)) = true then (⟨0, 0, 0, 0⟩, false) else ((⟨(add64 a0.a0 a1.a0 0).1, (add64 a0.a1 a1.a1 ((add64 a0.a0 a1.a0 0).2)).1, (add64 a0.a2 a1.a2 ((add64 a0.a1 a1.a1 ((add64 a0.a0 a1.a0 0).2)).2)).1, (add64 a0.a3 a1.a3 ((add64 a0.a2 a1.a2 ((add64 a0.a1 a1.a1 ((add64 a0.a0 a1.a0 0).2)).2)).2)).1⟩, true))
set_option maxRecDepth 20000 in
set_option maxHeartbeats 1000000 in
theorem S_wide_Add (a0 : api_Wide) (a1 : api_Wide) (r : api_Wide × Bool) (h : wide_Add a0 a1 = r) :
    SpecF Try.prog 92 [Ag (api_Wide.cs a0), Ag (api_Wide.cs a1)] [] [] (fun _ : Unit => True) (fun z => Tu [Ag (api_Wide.cs r.1), Bo r.2]) (fun z M =>  M) (fun z M =>  M) := by
  refine .of func92 rfl ntmps92 rfl fun w0 D0 G0 => ?_
  unfold wide_Add at h
  refine .seq ?_
  refine .reg rfl ?_
  refine .opx (X.box (cs := (api_Wide.cs a0)) .t0 rfl) rfl fun b1 => ?_
  refine .opx (X.box (cs := (api_Wide.cs a1)) .t1 rfl) rfl fun b2 => ?_
  refine .opx (X.alc (cs := (api_Wide.cs ⟨0, 0, 0, 0⟩)) zeroValue27 rfl) rfl fun b3 => ?_
  refine .op0 (OpP.toV (P.asg .k)) rfl ?_
  refine .nil ?_
  refine .then ?_
  refine .seq ?_
  refine .reg rfl ?_
  refine .opx (X.alc (cs := (api_Wide.cs ⟨0, 0, 0, 0⟩)) zeroValue27 rfl) rfl fun b4 => ?_
  refine .nil ?_
  refine .then ?_
  refine .seq ?_
  refine .reg rfl ?_
  refine .opp (P.asg .k) rfl ?_
  refine .nil ?_
  refine .then ?_
  refine .seq ?_
  refine .seq ?_
  refine .reg rfl ?_
  refine .opp (P.mov .k) rfl ?_
  refine .nil ?_
  refine .then ?_
  refine .block ?_
  refine .rounds 5 ?_
  refine .rd ?_
  refine .seq ?_
  refine .reg rfl ?_
  refine .opp (P.bin (v := Bo true) .g0 .k (BinV.lss.boolc (by decide))) rfl ?_
  refine .nil ?_
  refine .then ?_
  refine .seq ?_
  refine .condT .t0 ?_
  refine .skip ?_
  refine .then ?_
  refine .seq ?_
  refine .block ?_
  refine .seq ?_
  refine .reg rfl ?_
  refine .opp (P.mov .g0) rfl ?_
  refine .opp (P.asg .t0) rfl ?_
  refine .nil ?_
  refine .then ?_
  refine .drawl [blk b3 27 (api_Wide.cs ⟨0, 0, 0, 0⟩), blk b2 27 (api_Wide.cs a1), blk b1 27 (api_Wide.cs a0)] [] (Ls.of (.cons .k1 (.cons .k1 (.cons .k1 .nil)))) Rs.nil 15 (.on 0 .pu (.on 1 .pu (.on 2 .pu (.on 4 .pu (.on 5 .pu (.on 7 .pu (.on 3 .ld (.on 6 .ld (.on 8 .pu (.on 9 .pu (.on 10 .pu (.on 11 .pu (.on 12 .pu (.on 13 .go (.on 14 .go .nl))))))))))))))) follows_mixed (.inb (.thn (.thn (.inb (.thn .body))))) (by kernel_rfl) ?_
  refine .dpu rfl (.n rfl) (P.mov .g0) rfl rfl ?_
  refine .dpu rfl (.n rfl) (P.mov .g1) rfl rfl ?_
  refine .dpu rfl (.n rfl) (P.iac (i := 0) .t0 rfl .g7 runUnderlying27 sizeOf25 rfl rfl) rfl rfl ?_
  refine .dpu rfl (.n rfl) (P.mov .t2) rfl rfl ?_
  refine .dpu rfl (.n rfl) (P.iac (i := 0) .t0 rfl .g6 runUnderlying27 sizeOf25 rfl rfl) rfl rfl ?_
  refine .dpu rfl (.n rfl) (P.mov .g4) rfl rfl ?_
  refine .dld rfl (.n rfl) (V.ld (v := U a0.a0) .t2 .k2 (.one isAgg25 rfl)) (fun _ h => (h.imp (Ls.of (.cons .k1 (.cons .k1 (.cons .k1 .nil))))).ro Rs.nil) rfl rfl ?_
  refine .dld rfl (.n rfl) (V.ld (v := U a1.a0) .t2 .k1 (.one isAgg25 rfl)) (fun _ h => (h.imp (Ls.of (.cons .k1 (.cons .k1 (.cons .k1 .nil))))).ro Rs.nil) rfl rfl ?_
  refine .dpu rfl (.n rfl) (P.extn (.cons .t1 (.cons .t0 (.cons .t0 .nil))) func140 rfl rfl fn_140 find_140 (run_add64u _ _ 0 zero_le1)) rfl rfl ?_
  refine .dpu rfl (.n rfl) (P.mov .t0) rfl rfl ?_
  refine .dpu rfl (.n rfl) (P.ext (v := U ((add64 a0.a0 a1.a0 0).1)) .g0 rfl) rfl rfl ?_
  refine .dpu rfl (.n rfl) (P.ext (v := U ((add64 a0.a0 a1.a0 0).2)) .t1 rfl) rfl rfl ?_
  refine .dpu rfl (.n rfl) (P.iac (i := 0) .t2 rfl .g4 runUnderlying27 sizeOf25 rfl rfl) rfl rfl ?_
  refine .dgo rfl (.n rfl) (G.str .t2 .t0 .k0 (.mk (cs' := (api_Wide.cs ⟨(add64 a0.a0 a1.a0 0).1, 0, 0, 0⟩)) sizeOf25 rfl rfl rfl rfl)) (.inr fun _ _ _ h => (h.imp (Ls.of (.cons .k1 (.cons .k1 (.cons .k1 .nil))))).ro Rs.nil) fun _ _ => ?_
  refine .drop .k2 ?_
  refine .dgo rfl (.n rfl) (OpV.g (OpP.toV (P.asg .t0)) rfl) (.inr fun _ _ _ h => (h.imp (Ls.of (.cons .k1 (.cons .k1 (.cons .k1 .nil))))).ro Rs.nil) fun _ _ => ?_
  refine .dnil ?_
  refine .inn ?_
  refine .then ?_
  refine .reg rfl ?_
  refine .opp (P.bin (v := N 1) .g1 .k (.addc (by decide))) rfl ?_
  refine .drop .k2 ?_
  refine .opp (P.mov .t0) rfl ?_
  refine .nil ?_
  refine .then ?_
  refine .rd ?_
  refine .seq ?_
  refine .reg rfl ?_
  refine .opp (P.bin (v := Bo true) .g0 .k (BinV.lss.boolc (by decide))) rfl ?_
  refine .nil ?_
  refine .then ?_
  refine .seq ?_
  refine .condT .t0 ?_
  refine .skip ?_
  refine .then ?_
  refine .seq ?_
  refine .block ?_
  refine .seq ?_
  refine .reg rfl ?_
  refine .opp (P.mov .g0) rfl ?_
  refine .opp (P.asg .t0) rfl ?_
  refine .nil ?_
  refine .then ?_
  refine .drawl [blk b3 27 (api_Wide.cs ⟨0, 0, 0, 0⟩), blk b2 27 (api_Wide.cs a1), blk b1 27 (api_Wide.cs a0)] [] (Ls.of (.cons .k1 (.cons .k1 (.cons .k1 .nil)))) Rs.nil 15 (.on 0 .pu (.on 1 .pu (.on 2 .pu (.on 4 .pu (.on 5 .pu (.on 7 .pu (.on 3 .ld (.on 6 .ld (.on 8 .pu (.on 9 .pu (.on 10 .pu (.on 11 .pu (.on 12 .pu (.on 13 .go (.on 14 .go .nl))))))))))))))) follows_mixed (.inb (.thn (.thn (.inb (.thn .body))))) (by kernel_rfl) ?_
  refine .dpu rfl (.n rfl) (P.mov .g0) rfl rfl ?_
  refine .dpu rfl (.n rfl) (P.mov .g1) rfl rfl ?_
  refine .dpu rfl (.n rfl) (P.iac (i := 1) .t0 rfl .g7 runUnderlying27 sizeOf25 rfl rfl) rfl rfl ?_
  refine .dpu rfl (.n rfl) (P.mov .t2) rfl rfl ?_
  refine .dpu rfl (.n rfl) (P.iac (i := 1) .t0 rfl .g6 runUnderlying27 sizeOf25 rfl rfl) rfl rfl ?_
  refine .dpu rfl (.n rfl) (P.mov .g4) rfl rfl ?_
  refine .dld rfl (.n rfl) (V.ld (v := U a0.a1) .t2 .k2 (.one isAgg25 rfl)) (fun _ h => (h.imp (Ls.of (.cons .k1 (.cons .k1 (.cons .k1 .nil))))).ro Rs.nil) rfl rfl ?_
  refine .dld rfl (.n rfl) (V.ld (v := U a1.a1) .t2 .k1 (.one isAgg25 rfl)) (fun _ h => (h.imp (Ls.of (.cons .k1 (.cons .k1 (.cons .k1 .nil))))).ro Rs.nil) rfl rfl ?_
  refine .dpu rfl (.n rfl) (P.extn (.cons .t1 (.cons .t0 (.cons .t0 .nil))) func140 rfl rfl fn_140 find_140 (run_add64u _ _ _ add64_le)) rfl rfl ?_
  refine .dpu rfl (.n rfl) (P.mov .t0) rfl rfl ?_
  refine .dpu rfl (.n rfl) (P.ext (v := U ((add64 a0.a1 a1.a1 ((add64 a0.a0 a1.a0 0).2)).1)) .g0 rfl) rfl rfl ?_
  refine .dpu rfl (.n rfl) (P.ext (v := U ((add64 a0.a1 a1.a1 ((add64 a0.a0 a1.a0 0).2)).2)) .t1 rfl) rfl rfl ?_
  refine .dpu rfl (.n rfl) (P.iac (i := 1) .t2 rfl .g4 runUnderlying27 sizeOf25 rfl rfl) rfl rfl ?_
  refine .dgo rfl (.n rfl) (G.str .t2 .t0 .k0 (.mk (cs' := (api_Wide.cs ⟨(add64 a0.a0 a1.a0 0).1, (add64 a0.a1 a1.a1 ((add64 a0.a0 a1.a0 0).2)).1, 0, 0⟩)) sizeOf25 rfl rfl rfl rfl)) (.inr fun _ _ _ h => (h.imp (Ls.of (.cons .k1 (.cons .k1 (.cons .k1 .nil))))).ro Rs.nil) fun _ _ => ?_
  refine .drop .k2 ?_
  refine .dgo rfl (.n rfl) (OpV.g (OpP.toV (P.asg .t0)) rfl) (.inr fun _ _ _ h => (h.imp (Ls.of (.cons .k1 (.cons .k1 (.cons .k1 .nil))))).ro Rs.nil) fun _ _ => ?_
  refine .dnil ?_
  refine .inn ?_
  refine .then ?_
  refine .reg rfl ?_
  refine .opp (P.bin (v := N 2) .g1 .k (.addc (by decide))) rfl ?_
  refine .drop .k2 ?_
  refine .opp (P.mov .t0) rfl ?_
  refine .nil ?_
  refine .then ?_
  refine .rd ?_
  refine .seq ?_
  refine .reg rfl ?_
  refine .opp (P.bin (v := Bo true) .g0 .k (BinV.lss.boolc (by decide))) rfl ?_
  refine .nil ?_
  refine .then ?_
  refine .seq ?_
  refine .condT .t0 ?_
  refine .skip ?_
  refine .then ?_
  refine .seq ?_
  refine .block ?_
  refine .seq ?_
  refine .reg rfl ?_
  refine .opp (P.mov .g0) rfl ?_
  refine .opp (P.asg .t0) rfl ?_
  refine .nil ?_
  refine .then ?_
  refine .drawl [blk b3 27 (api_Wide.cs ⟨0, 0, 0, 0⟩), blk b2 27 (api_Wide.cs a1), blk b1 27 (api_Wide.cs a0)] [] (Ls.of (.cons .k1 (.cons .k1 (.cons .k1 .nil)))) Rs.nil 15 (.on 0 .pu (.on 1 .pu (.on 2 .pu (.on 4 .pu (.on 5 .pu (.on 7 .pu (.on 3 .ld (.on 6 .ld (.on 8 .pu (.on 9 .pu (.on 10 .pu (.on 11 .pu (.on 12 .pu (.on 13 .go (.on 14 .go .nl))))))))))))))) follows_mixed (.inb (.thn (.thn (.inb (.thn .body))))) (by kernel_rfl) ?_
  refine .dpu rfl (.n rfl) (P.mov .g0) rfl rfl ?_
  refine .dpu rfl (.n rfl) (P.mov .g1) rfl rfl ?_
  refine .dpu rfl (.n rfl) (P.iac (i := 2) .t0 rfl .g7 runUnderlying27 sizeOf25 rfl rfl) rfl rfl ?_
  refine .dpu rfl (.n rfl) (P.mov .t2) rfl rfl ?_
  refine .dpu rfl (.n rfl) (P.iac (i := 2) .t0 rfl .g6 runUnderlying27 sizeOf25 rfl rfl) rfl rfl ?_
  refine .dpu rfl (.n rfl) (P.mov .g4) rfl rfl ?_
  refine .dld rfl (.n rfl) (V.ld (v := U a0.a2) .t2 .k2 (.one isAgg25 rfl)) (fun _ h => (h.imp (Ls.of (.cons .k1 (.cons .k1 (.cons .k1 .nil))))).ro Rs.nil) rfl rfl ?_
  refine .dld rfl (.n rfl) (V.ld (v := U a1.a2) .t2 .k1 (.one isAgg25 rfl)) (fun _ h => (h.imp (Ls.of (.cons .k1 (.cons .k1 (.cons .k1 .nil))))).ro Rs.nil) rfl rfl ?_
  refine .dpu rfl (.n rfl) (P.extn (.cons .t1 (.cons .t0 (.cons .t0 .nil))) func140 rfl rfl fn_140 find_140 (run_add64u _ _ _ add64_le)) rfl rfl ?_
  refine .dpu rfl (.n rfl) (P.mov .t0) rfl rfl ?_
  refine .dpu rfl (.n rfl) (P.ext (v := U ((add64 a0.a2 a1.a2 ((add64 a0.a1 a1.a1 ((add64 a0.a0 a1.a0 0).2)).2)).1)) .g0 rfl) rfl rfl ?_
  refine .dpu rfl (.n rfl) (P.ext (v := U ((add64 a0.a2 a1.a2 ((add64 a0.a1 a1.a1 ((add64 a0.a0 a1.a0 0).2)).2)).2)) .t1 rfl) rfl rfl ?_
  refine .dpu rfl (.n rfl) (P.iac (i := 2) .t2 rfl .g4 runUnderlying27 sizeOf25 rfl rfl) rfl rfl ?_
  refine .dgo rfl (.n rfl) (G.str .t2 .t0 .k0 (.mk (cs' := (api_Wide.cs ⟨(add64 a0.a0 a1.a0 0).1, (add64 a0.a1 a1.a1 ((add64 a0.a0 a1.a0 0).2)).1, (add64 a0.a2 a1.a2 ((add64 a0.a1 a1.a1 ((add64 a0.a0 a1.a0 0).2)).2)).1, 0⟩)) sizeOf25 rfl rfl rfl rfl)) (.inr fun _ _ _ h => (h.imp (Ls.of (.cons .k1 (.cons .k1 (.cons .k1 .nil))))).ro Rs.nil) fun _ _ => ?_
  refine .drop .k2 ?_
  refine .dgo rfl (.n rfl) (OpV.g (OpP.toV (P.asg .t0)) rfl) (.inr fun _ _ _ h => (h.imp (Ls.of (.cons .k1 (.cons .k1 (.cons .k1 .nil))))).ro Rs.nil) fun _ _ => ?_
  refine .dnil ?_
  refine .inn ?_
  refine .then ?_
  refine .reg rfl ?_
  refine .opp (P.bin (v := N 3) .g1 .k (.addc (by decide))) rfl ?_
  refine .drop .k2 ?_
  refine .opp (P.mov .t0) rfl ?_
  refine .nil ?_
  refine .then ?_
  refine .rd ?_
  refine .seq ?_
  refine .reg rfl ?_
  refine .opp (P.bin (v := Bo true) .g0 .k (BinV.lss.boolc (by decide))) rfl ?_
  refine .nil ?_
  refine .then ?_
  refine .seq ?_
  refine .condT .t0 ?_
  refine .skip ?_
  refine .then ?_
  refine .seq ?_
  refine .block ?_
  refine .seq ?_
  refine .reg rfl ?_
  refine .opp (P.mov .g0) rfl ?_
  refine .opp (P.asg .t0) rfl ?_
  refine .nil ?_
  refine .then ?_
  refine .drawl [blk b3 27 (api_Wide.cs ⟨0, 0, 0, 0⟩), blk b2 27 (api_Wide.cs a1), blk b1 27 (api_Wide.cs a0)] [] (Ls.of (.cons .k1 (.cons .k1 (.cons .k1 .nil)))) Rs.nil 15 (.on 0 .pu (.on 1 .pu (.on 2 .pu (.on 4 .pu (.on 5 .pu (.on 7 .pu (.on 3 .ld (.on 6 .ld (.on 8 .pu (.on 9 .pu (.on 10 .pu (.on 11 .pu (.on 12 .pu (.on 13 .go (.on 14 .go .nl))))))))))))))) follows_mixed (.inb (.thn (.thn (.inb (.thn .body))))) (by kernel_rfl) ?_
  refine .dpu rfl (.n rfl) (P.mov .g0) rfl rfl ?_
  refine .dpu rfl (.n rfl) (P.mov .g1) rfl rfl ?_
  refine .dpu rfl (.n rfl) (P.iac (i := 3) .t0 rfl .g7 runUnderlying27 sizeOf25 rfl rfl) rfl rfl ?_
  refine .dpu rfl (.n rfl) (P.mov .t2) rfl rfl ?_
  refine .dpu rfl (.n rfl) (P.iac (i := 3) .t0 rfl .g6 runUnderlying27 sizeOf25 rfl rfl) rfl rfl ?_
  refine .dpu rfl (.n rfl) (P.mov .g4) rfl rfl ?_
  refine .dld rfl (.n rfl) (V.ld (v := U a0.a3) .t2 .k2 (.one isAgg25 rfl)) (fun _ h => (h.imp (Ls.of (.cons .k1 (.cons .k1 (.cons .k1 .nil))))).ro Rs.nil) rfl rfl ?_
  refine .dld rfl (.n rfl) (V.ld (v := U a1.a3) .t2 .k1 (.one isAgg25 rfl)) (fun _ h => (h.imp (Ls.of (.cons .k1 (.cons .k1 (.cons .k1 .nil))))).ro Rs.nil) rfl rfl ?_
  refine .dpu rfl (.n rfl) (P.extn (.cons .t1 (.cons .t0 (.cons .t0 .nil))) func140 rfl rfl fn_140 find_140 (run_add64u _ _ _ add64_le)) rfl rfl ?_
  refine .dpu rfl (.n rfl) (P.mov .t0) rfl rfl ?_
  refine .dpu rfl (.n rfl) (P.ext (v := U ((add64 a0.a3 a1.a3 ((add64 a0.a2 a1.a2 ((add64 a0.a1 a1.a1 ((add64 a0.a0 a1.a0 0).2)).2)).2)).1)) .g0 rfl) rfl rfl ?_
  refine .dpu rfl (.n rfl) (P.ext (v := U ((add64 a0.a3 a1.a3 ((add64 a0.a2 a1.a2 ((add64 a0.a1 a1.a1 ((add64 a0.a0 a1.a0 0).2)).2)).2)).2)) .t1 rfl) rfl rfl ?_
  refine .dpu rfl (.n rfl) (P.iac (i := 3) .t2 rfl .g4 runUnderlying27 sizeOf25 rfl rfl) rfl rfl ?_
  refine .dgo rfl (.n rfl) (G.str .t2 .t0 .k0 (.mk (cs' := (api_Wide.cs ⟨(add64 a0.a0 a1.a0 0).1, (add64 a0.a1 a1.a1 ((add64 a0.a0 a1.a0 0).2)).1, (add64 a0.a2 a1.a2 ((add64 a0.a1 a1.a1 ((add64 a0.a0 a1.a0 0).2)).2)).1, (add64 a0.a3 a1.a3 ((add64 a0.a2 a1.a2 ((add64 a0.a1 a1.a1 ((add64 a0.a0 a1.a0 0).2)).2)).2)).1⟩)) sizeOf25 rfl rfl rfl rfl)) (.inr fun _ _ _ h => (h.imp (Ls.of (.cons .k1 (.cons .k1 (.cons .k1 .nil))))).ro Rs.nil) fun _ _ => ?_
  refine .drop .k2 ?_
  refine .dgo rfl (.n rfl) (OpV.g (OpP.toV (P.asg .t0)) rfl) (.inr fun _ _ _ h => (h.imp (Ls.of (.cons .k1 (.cons .k1 (.cons .k1 .nil))))).ro Rs.nil) fun _ _ => ?_
  refine .dnil ?_
  refine .inn ?_
  refine .then ?_
  refine .reg rfl ?_
  refine .opp (P.bin (v := N 4) .g1 .k (.addc (by decide))) rfl ?_
  refine .drop .k2 ?_
  refine .opp (P.mov .t0) rfl ?_
  refine .nil ?_
  refine .then ?_
  refine .rd ?_
  refine .seq ?_
  refine .reg rfl ?_
  refine .opp (P.bin (v := Bo false) .g0 .k (BinV.lss.boolc (by decide))) rfl ?_
  refine .nil ?_
  refine .then ?_
  refine .seq ?_
  refine .condF .t0 ?_
  refine .exit ?_
  refine .thx ?_
  refine .thx ?_
  refine .inb ?_
  refine .then ?_
  refine .seq ?_
  refine .seq ?_
  refine .reg rfl ?_
  refine .opp (P.mov .t1) rfl ?_
  refine .opp (P.bin .t0 .k (BinV.neqU (x := (add64 a0.a3 a1.a3 ((add64 a0.a2 a1.a2 ((add64 a0.a1 a1.a1 ((add64 a0.a0 a1.a0 0).2)).2)).2)).2) (y := 0))) rfl ?_
  refine .nil ?_
  refine .then ?_
  refine .cond .t0 (fun c5 => ?_) (fun c5 => ?_)
  · rw [if_pos c5] at h
    refine .seq ?_
    refine .reg rfl ?_
    refine .opp (P.bld (v := Ag (api_Wide.cs ⟨0, 0, 0, 0⟩)) .nil (bld_runA zeroValue27 runUnderlying27 sizeOf25 (by kernel_rfl))) rfl ?_
    refine .opg (G.str .t0 .g2 .k1 (.mk (cs' := (api_Wide.cs ⟨0, 0, 0, 0⟩)) sizeOf27 rfl rfl rfl rfl)) rfl fun _ _ => ?_
    refine .opp (P.asg .k) rfl ?_
    refine .nil ?_
    refine .then ?_
    refine .ret ?_
    refine .thr ?_
    subst h
    exact .finw () (.r2 rfl (.cell .g3 .k0 (.agg isAgg27 sizeOf27 rfl rfl)) (.tmp .g0)) trivial (Ls.of .nil) .nil
  · rw [if_neg (ne_true_of_eq_false c5)] at h
    refine .skip ?_
    refine .then ?_
    refine .seq ?_
    refine .reg rfl ?_
    refine .op (V.ld (v := Ag (api_Wide.cs ⟨(add64 a0.a0 a1.a0 0).1, (add64 a0.a1 a1.a1 ((add64 a0.a0 a1.a0 0).2)).1, (add64 a0.a2 a1.a2 ((add64 a0.a1 a1.a1 ((add64 a0.a0 a1.a0 0).2)).2)).1, (add64 a0.a3 a1.a3 ((add64 a0.a2 a1.a2 ((add64 a0.a1 a1.a1 ((add64 a0.a0 a1.a0 0).2)).2)).2)).1⟩)) .t1 .k0 (.agg isAgg27 sizeOf27 rfl rfl)) rfl ?_
    refine .opg (G.str .t0 .g1 .k1 (.mk (cs' := (api_Wide.cs ⟨(add64 a0.a0 a1.a0 0).1, (add64 a0.a1 a1.a1 ((add64 a0.a0 a1.a0 0).2)).1, (add64 a0.a2 a1.a2 ((add64 a0.a1 a1.a1 ((add64 a0.a0 a1.a0 0).2)).2)).1, (add64 a0.a3 a1.a3 ((add64 a0.a2 a1.a2 ((add64 a0.a1 a1.a1 ((add64 a0.a0 a1.a0 0).2)).2)).2)).1⟩)) sizeOf27 rfl rfl rfl rfl)) rfl fun _ _ => ?_
    refine .opp (P.asg .k) rfl ?_
    refine .nil ?_
    refine .then ?_
    refine .ret ?_
    subst h
    exact .finw () (.r2 rfl (.cell .g2 .k0 (.agg isAgg27 sizeOf27 rfl rfl)) (.tmp .g0)) trivial (Ls.of .nil) .nil
attribute [irreducible] wide_Add
noncomputable def wide_Sub (a0 : api_Wide) (a1 : api_Wide) : api_Wide × Bool :=
  if (decide (((sub64 a0.a3 a1.a3 ((sub64 a0.a2 a1.a2 ((sub64 a0.a1 a1.a1 ((sub64 a0.a0 a1.a0 0).2)).2)).2)).2) ≠ 0)) = true then (⟨0, 0, 0, 0⟩, false) else ((⟨(sub64 a0.a0 a1.a0 0).1, (sub64 a0.a1 a1.a1 ((sub64 a0.a0 a1.a0 0).2)).1, (sub64 a0.a2 a1.a2 ((sub64 a0.a1 a1.a1 ((sub64 a0.a0 a1.a0 0).2)).2)).1, (sub64 a0.a3 a1.a3 ((sub64 a0.a2 a1.a2 ((sub64 a0.a1 a1.a1 ((sub64 a0.a0 a1.a0 0).2)).2)).2)).1⟩, true))
set_option maxRecDepth 20000 in
set_option maxHeartbeats 1000000 in
theorem S_wide_Sub (a0 : api_Wide) (a1 : api_Wide) (r : api_Wide × Bool) (h : wide_Sub a0 a1 = r) :
    SpecF Try.prog 70 [Ag (api_Wide.cs a0), Ag (api_Wide.cs a1)] [] [] (fun _ : Unit => True) (fun z => Tu [Ag (api_Wide.cs r.1), Bo r.2]) (fun z M =>  M) (fun z M =>  M) := by
  refine .of func70 rfl ntmps70 rfl fun w0 D0 G0 => ?_
  unfold wide_Sub at h
  refine .seq ?_
  refine .reg rfl ?_
  refine .opx (X.box (cs := (api_Wide.cs a0)) .t0 rfl) rfl fun b1 => ?_
  refine .opx (X.box (cs := (api_Wide.cs a1)) .t1 rfl) rfl fun b2 => ?_
  refine .opx (X.alc (cs := (api_Wide.cs ⟨0, 0, 0, 0⟩)) zeroValue27 rfl) rfl fun b3 => ?_
  refine .op0 (OpP.toV (P.asg .k)) rfl ?_
  refine .nil ?_
  refine .then ?_
  refine .seq ?_
  refine .reg rfl ?_
  refine .opx (X.alc (cs := (api_Wide.cs ⟨0, 0, 0, 0⟩)) zeroValue27 rfl) rfl fun b4 => ?_
  refine .nil ?_
  refine .then ?_
  refine .seq ?_
  refine .reg rfl ?_
  refine .opp (P.asg .k) rfl ?_
  refine .nil ?_
  refine .then ?_
  refine .seq ?_
  refine .seq ?_
  refine .reg rfl ?_
  refine .opp (P.mov .k) rfl ?_
  refine .nil ?_
  refine .then ?_
  refine .block ?_
  refine .rounds 5 ?_
  refine .rd ?_
  refine .seq ?_
  refine .reg rfl ?_
  refine .opp (P.bin (v := Bo true) .g0 .k (BinV.lss.boolc (by decide))) rfl ?_
  refine .nil ?_
  refine .then ?_
  refine .seq ?_
  refine .condT .t0 ?_
  refine .skip ?_
  refine .then ?_
  refine .seq ?_
  refine .block ?_
  refine .seq ?_
  refine .reg rfl ?_
  refine .opp (P.mov .g0) rfl ?_
  refine .opp (P.asg .t0) rfl ?_
  refine .nil ?_
  refine .then ?_
  refine .drawl [blk b3 27 (api_Wide.cs ⟨0, 0, 0, 0⟩), blk b2 27 (api_Wide.cs a1), blk b1 27 (api_Wide.cs a0)] [] (Ls.of (.cons .k1 (.cons .k1 (.cons .k1 .nil)))) Rs.nil 15 (.on 0 .pu (.on 1 .pu (.on 2 .pu (.on 4 .pu (.on 5 .pu (.on 7 .pu (.on 3 .ld (.on 6 .ld (.on 8 .pu (.on 9 .pu (.on 10 .pu (.on 11 .pu (.on 12 .pu (.on 13 .go (.on 14 .go .nl))))))))))))))) follows_mixed (.inb (.thn (.thn (.inb (.thn .body))))) (by kernel_rfl) ?_
  refine .dpu rfl (.n rfl) (P.mov .g0) rfl rfl ?_
  refine .dpu rfl (.n rfl) (P.mov .g1) rfl rfl ?_
  refine .dpu rfl (.n rfl) (P.iac (i := 0) .t0 rfl .g7 runUnderlying27 sizeOf25 rfl rfl) rfl rfl ?_
  refine .dpu rfl (.n rfl) (P.mov .t2) rfl rfl ?_
  refine .dpu rfl (.n rfl) (P.iac (i := 0) .t0 rfl .g6 runUnderlying27 sizeOf25 rfl rfl) rfl rfl ?_
  refine .dpu rfl (.n rfl) (P.mov .g4) rfl rfl ?_
  refine .dld rfl (.n rfl) (V.ld (v := U a0.a0) .t2 .k2 (.one isAgg25 rfl)) (fun _ h => (h.imp (Ls.of (.cons .k1 (.cons .k1 (.cons .k1 .nil))))).ro Rs.nil) rfl rfl ?_
  refine .dld rfl (.n rfl) (V.ld (v := U a1.a0) .t2 .k1 (.one isAgg25 rfl)) (fun _ h => (h.imp (Ls.of (.cons .k1 (.cons .k1 (.cons .k1 .nil))))).ro Rs.nil) rfl rfl ?_
  refine .dpu rfl (.n rfl) (P.extn (.cons .t1 (.cons .t0 (.cons .t0 .nil))) func127 rfl rfl fn_127 find_127 (run_sub64u _ _ 0 zero_le1)) rfl rfl ?_
  refine .dpu rfl (.n rfl) (P.mov .t0) rfl rfl ?_
  refine .dpu rfl (.n rfl) (P.ext (v := U ((sub64 a0.a0 a1.a0 0).1)) .g0 rfl) rfl rfl ?_
  refine .dpu rfl (.n rfl) (P.ext (v := U ((sub64 a0.a0 a1.a0 0).2)) .t1 rfl) rfl rfl ?_
  refine .dpu rfl (.n rfl) (P.iac (i := 0) .t2 rfl .g4 runUnderlying27 sizeOf25 rfl rfl) rfl rfl ?_
  refine .dgo rfl (.n rfl) (G.str .t2 .t0 .k0 (.mk (cs' := (api_Wide.cs ⟨(sub64 a0.a0 a1.a0 0).1, 0, 0, 0⟩)) sizeOf25 rfl rfl rfl rfl)) (.inr fun _ _ _ h => (h.imp (Ls.of (.cons .k1 (.cons .k1 (.cons .k1 .nil))))).ro Rs.nil) fun _ _ => ?_
  refine .drop .k2 ?_
  refine .dgo rfl (.n rfl) (OpV.g (OpP.toV (P.asg .t0)) rfl) (.inr fun _ _ _ h => (h.imp (Ls.of (.cons .k1 (.cons .k1 (.cons .k1 .nil))))).ro Rs.nil) fun _ _ => ?_
  refine .dnil ?_
  refine .inn ?_
  refine .then ?_
  refine .reg rfl ?_
  refine .opp (P.bin (v := N 1) .g1 .k (.addc (by decide))) rfl ?_
  refine .drop .k2 ?_
  refine .opp (P.mov .t0) rfl ?_
  refine .nil ?_
  refine .then ?_
  refine .rd ?_
  refine .seq ?_
  refine .reg rfl ?_
  refine .opp (P.bin (v := Bo true) .g0 .k (BinV.lss.boolc (by decide))) rfl ?_
  refine .nil ?_
  refine .then ?_
  refine .seq ?_
  refine .condT .t0 ?_
  refine .skip ?_
  refine .then ?_
  refine .seq ?_
  refine .block ?_
  refine .seq ?_
  refine .reg rfl ?_
  refine .opp (P.mov .g0) rfl ?_
  refine .opp (P.asg .t0) rfl ?_
  refine .nil ?_
  refine .then ?_
  refine .drawl [blk b3 27 (api_Wide.cs ⟨0, 0, 0, 0⟩), blk b2 27 (api_Wide.cs a1), blk b1 27 (api_Wide.cs a0)] [] (Ls.of (.cons .k1 (.cons .k1 (.cons .k1 .nil)))) Rs.nil 15 (.on 0 .pu (.on 1 .pu (.on 2 .pu (.on 4 .pu (.on 5 .pu (.on 7 .pu (.on 3 .ld (.on 6 .ld (.on 8 .pu (.on 9 .pu (.on 10 .pu (.on 11 .pu (.on 12 .pu (.on 13 .go (.on 14 .go .nl))))))))))))))) follows_mixed (.inb (.thn (.thn (.inb (.thn .body))))) (by kernel_rfl) ?_
  refine .dpu rfl (.n rfl) (P.mov .g0) rfl rfl ?_
  refine .dpu rfl (.n rfl) (P.mov .g1) rfl rfl ?_
  refine .dpu rfl (.n rfl) (P.iac (i := 1) .t0 rfl .g7 runUnderlying27 sizeOf25 rfl rfl) rfl rfl ?_
  refine .dpu rfl (.n rfl) (P.mov .t2) rfl rfl ?_
  refine .dpu rfl (.n rfl) (P.iac (i := 1) .t0 rfl .g6 runUnderlying27 sizeOf25 rfl rfl) rfl rfl ?_
  refine .dpu rfl (.n rfl) (P.mov .g4) rfl rfl ?_
  refine .dld rfl (.n rfl) (V.ld (v := U a0.a1) .t2 .k2 (.one isAgg25 rfl)) (fun _ h => (h.imp (Ls.of (.cons .k1 (.cons .k1 (.cons .k1 .nil))))).ro Rs.nil) rfl rfl ?_
  refine .dld rfl (.n rfl) (V.ld (v := U a1.a1) .t2 .k1 (.one isAgg25 rfl)) (fun _ h => (h.imp (Ls.of (.cons .k1 (.cons .k1 (.cons .k1 .nil))))).ro Rs.nil) rfl rfl ?_
  refine .dpu rfl (.n rfl) (P.extn (.cons .t1 (.cons .t0 (.cons .t0 .nil))) func127 rfl rfl fn_127 find_127 (run_sub64u _ _ _ sub64_le)) rfl rfl ?_
  refine .dpu rfl (.n rfl) (P.mov .t0) rfl rfl ?_
  refine .dpu rfl (.n rfl) (P.ext (v := U ((sub64 a0.a1 a1.a1 ((sub64 a0.a0 a1.a0 0).2)).1)) .g0 rfl) rfl rfl ?_
  refine .dpu rfl (.n rfl) (P.ext (v := U ((sub64 a0.a1 a1.a1 ((sub64 a0.a0 a1.a0 0).2)).2)) .t1 rfl) rfl rfl ?_
  refine .dpu rfl (.n rfl) (P.iac (i := 1) .t2 rfl .g4 runUnderlying27 sizeOf25 rfl rfl) rfl rfl ?_
  refine .dgo rfl (.n rfl) (G.str .t2 .t0 .k0 (.mk (cs' := (api_Wide.cs ⟨(sub64 a0.a0 a1.a0 0).1, (sub64 a0.a1 a1.a1 ((sub64 a0.a0 a1.a0 0).2)).1, 0, 0⟩)) sizeOf25 rfl rfl rfl rfl)) (.inr fun _ _ _ h => (h.imp (Ls.of (.cons .k1 (.cons .k1 (.cons .k1 .nil))))).ro Rs.nil) fun _ _ => ?_
  refine .drop .k2 ?_
  refine .dgo rfl (.n rfl) (OpV.g (OpP.toV (P.asg .t0)) rfl) (.inr fun _ _ _ h => (h.imp (Ls.of (.cons .k1 (.cons .k1 (.cons .k1 .nil))))).ro Rs.nil) fun _ _ => ?_
  refine .dnil ?_
  refine .inn ?_
  refine .then ?_
  refine .reg rfl ?_
  refine .opp (P.bin (v := N 2) .g1 .k (.addc (by decide))) rfl ?_
  refine .drop .k2 ?_
  refine .opp (P.mov .t0) rfl ?_
  refine .nil ?_
  refine .then ?_
  refine .rd ?_
  refine .seq ?_
  refine .reg rfl ?_
  refine .opp (P.bin (v := Bo true) .g0 .k (BinV.lss.boolc (by decide))) rfl ?_
  refine .nil ?_
  refine .then ?_
  refine .seq ?_
  refine .condT .t0 ?_
  refine .skip ?_
  refine .then ?_
  refine .seq ?_
  refine .block ?_
  refine .seq ?_
  refine .reg rfl ?_
  refine .opp (P.mov .g0) rfl ?_
  refine .opp (P.asg .t0) rfl ?_
  refine .nil ?_
  refine .then ?_
  refine .drawl [blk b3 27 (api_Wide.cs ⟨0, 0, 0, 0⟩), blk b2 27 (api_Wide.cs a1), blk b1 27 (api_Wide.cs a0)] [] (Ls.of (.cons .k1 (.cons .k1 (.cons .k1 .nil)))) Rs.nil 15 (.on 0 .pu (.on 1 .pu (.on 2 .pu (.on 4 .pu (.on 5 .pu (.on 7 .pu (.on 3 .ld (.on 6 .ld (.on 8 .pu (.on 9 .pu (.on 10 .pu (.on 11 .pu (.on 12 .pu (.on 13 .go (.on 14 .go .nl))))))))))))))) follows_mixed (.inb (.thn (.thn (.inb (.thn .body))))) (by kernel_rfl) ?_
  refine .dpu rfl (.n rfl) (P.mov .g0) rfl rfl ?_
  refine .dpu rfl (.n rfl) (P.mov .g1) rfl rfl ?_
  refine .dpu rfl (.n rfl) (P.iac (i := 2) .t0 rfl .g7 runUnderlying27 sizeOf25 rfl rfl) rfl rfl ?_
  refine .dpu rfl (.n rfl) (P.mov .t2) rfl rfl ?_
  refine .dpu rfl (.n rfl) (P.iac (i := 2) .t0 rfl .g6 runUnderlying27 sizeOf25 rfl rfl) rfl rfl ?_
  refine .dpu rfl (.n rfl) (P.mov .g4) rfl rfl ?_
  refine .dld rfl (.n rfl) (V.ld (v := U a0.a2) .t2 .k2 (.one isAgg25 rfl)) (fun _ h => (h.imp (Ls.of (.cons .k1 (.cons .k1 (.cons .k1 .nil))))).ro Rs.nil) rfl rfl ?_
  refine .dld rfl (.n rfl) (V.ld (v := U a1.a2) .t2 .k1 (.one isAgg25 rfl)) (fun _ h => (h.imp (Ls.of (.cons .k1 (.cons .k1 (.cons .k1 .nil))))).ro Rs.nil) rfl rfl ?_
  refine .dpu rfl (.n rfl) (P.extn (.cons .t1 (.cons .t0 (.cons .t0 .nil))) func127 rfl rfl fn_127 find_127 (run_sub64u _ _ _ sub64_le)) rfl rfl ?_
  refine .dpu rfl (.n rfl) (P.mov .t0) rfl rfl ?_
  refine .dpu rfl (.n rfl) (P.ext (v := U ((sub64 a0.a2 a1.a2 ((sub64 a0.a1 a1.a1 ((sub64 a0.a0 a1.a0 0).2)).2)).1)) .g0 rfl) rfl rfl ?_
  refine .dpu rfl (.n rfl) (P.ext (v := U ((sub64 a0.a2 a1.a2 ((sub64 a0.a1 a1.a1 ((sub64 a0.a0 a1.a0 0).2)).2)).2)) .t1 rfl) rfl rfl ?_
  refine .dpu rfl (.n rfl) (P.iac (i := 2) .t2 rfl .g4 runUnderlying27 sizeOf25 rfl rfl) rfl rfl ?_
  refine .dgo rfl (.n rfl) (G.str .t2 .t0 .k0 (.mk (cs' := (api_Wide.cs ⟨(sub64 a0.a0 a1.a0 0).1, (sub64 a0.a1 a1.a1 ((sub64 a0.a0 a1.a0 0).2)).1, (sub64 a0.a2 a1.a2 ((sub64 a0.a1 a1.a1 ((sub64 a0.a0 a1.a0 0).2)).2)).1, 0⟩)) sizeOf25 rfl rfl rfl rfl)) (.inr fun _ _ _ h => (h.imp (Ls.of (.cons .k1 (.cons .k1 (.cons .k1 .nil))))).ro Rs.nil) fun _ _ => ?_
  refine .drop .k2 ?_
  refine .dgo rfl (.n rfl) (OpV.g (OpP.toV (P.asg .t0)) rfl) (.inr fun _ _ _ h => (h.imp (Ls.of (.cons .k1 (.cons .k1 (.cons .k1 .nil))))).ro Rs.nil) fun _ _ => ?_
  refine .dnil ?_
  refine .inn ?_
  refine .then ?_
  refine .reg rfl ?_
  refine .opp (P.bin (v := N 3) .g1 .k (.addc (by decide))) rfl ?_
  refine .drop .k2 ?_
  refine .opp (P.mov .t0) rfl ?_
  refine .nil ?_
  refine .then ?_
  refine .rd ?_
  refine .seq ?_
  refine .reg rfl ?_
  refine .opp (P.bin (v := Bo true) .g0 .k (BinV.lss.boolc (by decide))) rfl ?_
  refine .nil ?_
  refine .then ?_
  refine .seq ?_
  refine .condT .t0 ?_
  refine .skip ?_
  refine .then ?_
  refine .seq ?_
  refine .block ?_
  refine .seq ?_
  refine .reg rfl ?_
  refine .opp (P.mov .g0) rfl ?_
  refine .opp (P.asg .t0) rfl ?_
  refine .nil ?_
  refine .then ?_
  refine .drawl [blk b3 27 (api_Wide.cs ⟨0, 0, 0, 0⟩), blk b2 27 (api_Wide.cs a1), blk b1 27 (api_Wide.cs a0)] [] (Ls.of (.cons .k1 (.cons .k1 (.cons .k1 .nil)))) Rs.nil 15 (.on 0 .pu (.on 1 .pu (.on 2 .pu (.on 4 .pu (.on 5 .pu (.on 7 .pu (.on 3 .ld (.on 6 .ld (.on 8 .pu (.on 9 .pu (.on 10 .pu (.on 11 .pu (.on 12 .pu (.on 13 .go (.on 14 .go .nl))))))))))))))) follows_mixed (.inb (.thn (.thn (.inb (.thn .body))))) (by kernel_rfl) ?_
  refine .dpu rfl (.n rfl) (P.mov .g0) rfl rfl ?_
  refine .dpu rfl (.n rfl) (P.mov .g1) rfl rfl ?_
  refine .dpu rfl (.n rfl) (P.iac (i := 3) .t0 rfl .g7 runUnderlying27 sizeOf25 rfl rfl) rfl rfl ?_
  refine .dpu rfl (.n rfl) (P.mov .t2) rfl rfl ?_
  refine .dpu rfl (.n rfl) (P.iac (i := 3) .t0 rfl .g6 runUnderlying27 sizeOf25 rfl rfl) rfl rfl ?_
  refine .dpu rfl (.n rfl) (P.mov .g4) rfl rfl ?_
  refine .dld rfl (.n rfl) (V.ld (v := U a0.a3) .t2 .k2 (.one isAgg25 rfl)) (fun _ h => (h.imp (Ls.of (.cons .k1 (.cons .k1 (.cons .k1 .nil))))).ro Rs.nil) rfl rfl ?_
  refine .dld rfl (.n rfl) (V.ld (v := U a1.a3) .t2 .k1 (.one isAgg25 rfl)) (fun _ h => (h.imp (Ls.of (.cons .k1 (.cons .k1 (.cons .k1 .nil))))).ro Rs.nil) rfl rfl ?_
  refine .dpu rfl (.n rfl) (P.extn (.cons .t1 (.cons .t0 (.cons .t0 .nil))) func127 rfl rfl fn_127 find_127 (run_sub64u _ _ _ sub64_le)) rfl rfl ?_
  refine .dpu rfl (.n rfl) (P.mov .t0) rfl rfl ?_
  refine .dpu rfl (.n rfl) (P.ext (v := U ((sub64 a0.a3 a1.a3 ((sub64 a0.a2 a1.a2 ((sub64 a0.a1 a1.a1 ((sub64 a0.a0 a1.a0 0).2)).2)).2)).1)) .g0 rfl) rfl rfl ?_
  refine .dpu rfl (.n rfl) (P.ext (v := U ((sub64 a0.a3 a1.a3 ((sub64 a0.a2 a1.a2 ((sub64 a0.a1 a1.a1 ((sub64 a0.a0 a1.a0 0).2)).2)).2)).2)) .t1 rfl) rfl rfl ?_
  refine .dpu rfl (.n rfl) (P.iac (i := 3) .t2 rfl .g4 runUnderlying27 sizeOf25 rfl rfl) rfl rfl ?_
  refine .dgo rfl (.n rfl) (G.str .t2 .t0 .k0 (.mk (cs' := (api_Wide.cs ⟨(sub64 a0.a0 a1.a0 0).1, (sub64 a0.a1 a1.a1 ((sub64 a0.a0 a1.a0 0).2)).1, (sub64 a0.a2 a1.a2 ((sub64 a0.a1 a1.a1 ((sub64 a0.a0 a1.a0 0).2)).2)).1, (sub64 a0.a3 a1.a3 ((sub64 a0.a2 a1.a2 ((sub64 a0.a1 a1.a1 ((sub64 a0.a0 a1.a0 0).2)).2)).2)).1⟩)) sizeOf25 rfl rfl rfl rfl)) (.inr fun _ _ _ h => (h.imp (Ls.of (.cons .k1 (.cons .k1 (.cons .k1 .nil))))).ro Rs.nil) fun _ _ => ?_
  refine .drop .k2 ?_
  refine .dgo rfl (.n rfl) (OpV.g (OpP.toV (P.asg .t0)) rfl) (.inr fun _ _ _ h => (h.imp (Ls.of (.cons .k1 (.cons .k1 (.cons .k1 .nil))))).ro Rs.nil) fun _ _ => ?_
  refine .dnil ?_
  refine .inn ?_
  refine .then ?_
  refine .reg rfl ?_
  refine .opp (P.bin (v := N 4) .g1 .k (.addc (by decide))) rfl ?_
  refine .drop .k2 ?_
  refine .opp (P.mov .t0) rfl ?_
  refine .nil ?_
  refine .then ?_
  refine .rd ?_
  refine .seq ?_
  refine .reg rfl ?_
  refine .opp (P.bin (v := Bo false) .g0 .k (BinV.lss.boolc (by decide))) rfl ?_
  refine .nil ?_
  refine .then ?_
  refine .seq ?_
  refine .condF .t0 ?_
  refine .exit ?_
  refine .thx ?_
  refine .thx ?_
  refine .inb ?_
  refine .then ?_
  refine .seq ?_
  refine .seq ?_
  refine .reg rfl ?_
  refine .opp (P.mov .t1) rfl ?_
  refine .opp (P.bin .t0 .k (BinV.neqU (x := (sub64 a0.a3 a1.a3 ((sub64 a0.a2 a1.a2 ((sub64 a0.a1 a1.a1 ((sub64 a0.a0 a1.a0 0).2)).2)).2)).2) (y := 0))) rfl ?_
  refine .nil ?_
  refine .then ?_
  refine .cond .t0 (fun c5 => ?_) (fun c5 => ?_)
  · rw [if_pos c5] at h
    refine .seq ?_
    refine .reg rfl ?_
    refine .opp (P.bld (v := Ag (api_Wide.cs ⟨0, 0, 0, 0⟩)) .nil (bld_runA zeroValue27 runUnderlying27 sizeOf25 (by kernel_rfl))) rfl ?_
    refine .opg (G.str .t0 .g2 .k1 (.mk (cs' := (api_Wide.cs ⟨0, 0, 0, 0⟩)) sizeOf27 rfl rfl rfl rfl)) rfl fun _ _ => ?_
    refine .opp (P.asg .k) rfl ?_
    refine .nil ?_
    refine .then ?_
    refine .ret ?_
    refine .thr ?_
    subst h
    exact .finw () (.r2 rfl (.cell .g3 .k0 (.agg isAgg27 sizeOf27 rfl rfl)) (.tmp .g0)) trivial (Ls.of .nil) .nil
  · rw [if_neg (ne_true_of_eq_false c5)] at h
    refine .skip ?_
    refine .then ?_
    refine .seq ?_
    refine .reg rfl ?_
    refine .op (V.ld (v := Ag (api_Wide.cs ⟨(sub64 a0.a0 a1.a0 0).1, (sub64 a0.a1 a1.a1 ((sub64 a0.a0 a1.a0 0).2)).1, (sub64 a0.a2 a1.a2 ((sub64 a0.a1 a1.a1 ((sub64 a0.a0 a1.a0 0).2)).2)).1, (sub64 a0.a3 a1.a3 ((sub64 a0.a2 a1.a2 ((sub64 a0.a1 a1.a1 ((sub64 a0.a0 a1.a0 0).2)).2)).2)).1⟩)) .t1 .k0 (.agg isAgg27 sizeOf27 rfl rfl)) rfl ?_
    refine .opg (G.str .t0 .g1 .k1 (.mk (cs' := (api_Wide.cs ⟨(sub64 a0.a0 a1.a0 0).1, (sub64 a0.a1 a1.a1 ((sub64 a0.a0 a1.a0 0).2)).1, (sub64 a0.a2 a1.a2 ((sub64 a0.a1 a1.a1 ((sub64 a0.a0 a1.a0 0).2)).2)).1, (sub64 a0.a3 a1.a3 ((sub64 a0.a2 a1.a2 ((sub64 a0.a1 a1.a1 ((sub64 a0.a0 a1.a0 0).2)).2)).2)).1⟩)) sizeOf27 rfl rfl rfl rfl)) rfl fun _ _ => ?_
    refine .opp (P.asg .k) rfl ?_
    refine .nil ?_
    refine .then ?_
    refine .ret ?_
    subst h
    exact .finw () (.r2 rfl (.cell .g2 .k0 (.agg isAgg27 sizeOf27 rfl rfl)) (.tmp .g0)) trivial (Ls.of .nil) .nil
attribute [irreducible] wide_Sub
noncomputable def wide_Of (a0 : UInt64) : api_Wide :=
  ⟨a0, 0, 0, 0⟩
set_option maxRecDepth 20000 in
set_option maxHeartbeats 1000000 in
theorem S_wide_Of (a0 : UInt64) (r : api_Wide) (h : wide_Of a0 = r) :
    SpecF Try.prog 74 [U a0] [] [] (fun _ : Unit => True) (fun z => Ag (api_Wide.cs r)) (fun z M =>  M) (fun z M =>  M) := by
  refine .of func74 rfl ntmps74 rfl fun w0 D0 G0 => ?_
  unfold wide_Of at h
  refine .seq ?_
  refine .reg rfl ?_
  refine .opx (X.alc (cs := (api_Wide.cs ⟨0, 0, 0, 0⟩)) zeroValue27 rfl) rfl fun b1 => ?_
  refine .nil ?_
  refine .then ?_
  refine .seq ?_
  refine .reg rfl ?_
  refine .opp (P.mov .t1) rfl ?_
  refine .opp (P.bld (v := Ag (api_Wide.cs ⟨a0, 0, 0, 0⟩)) (.cons .t0 .nil) (bld_runA zeroValue27 runUnderlying27 sizeOf25 (by kernel_rfl))) rfl ?_
  refine .opg (G.str .t0 .g0 .k0 (.mk (cs' := (api_Wide.cs ⟨a0, 0, 0, 0⟩)) sizeOf27 rfl rfl rfl rfl)) rfl fun _ _ => ?_
  refine .nil ?_
  refine .then ?_
  refine .ret ?_
  subst h
  exact .finw () (.r1 rfl (.cell .g0 .k0 (.agg isAgg27 sizeOf27 rfl rfl))) trivial (Ls.of .nil) .nil
attribute [irreducible] wide_Of
noncomputable def wide_Sum (a0 : List api_Wide) : Option (api_Wide × Bool) :=
  Option.bind (loopR (fun (i3 : Nat) (e6 : api_Wide) (s4 : api_Wide) => if (!((wide_Add s4 e6).2)) = true then (Option.map Ct.rt (some (⟨0, 0, 0, 0⟩, false))) else (some (.nx ((wide_Add s4 e6).1)))) 0 a0 ⟨0, 0, 0, 0⟩) fun o7 => Lo.on o7 fun (s4 : api_Wide) => some (s4, true)
set_option maxRecDepth 20000 in
set_option maxHeartbeats 1000000 in
theorem S_wide_Sum (v00 : Value) (a0 : List api_Wide) (r : api_Wide × Bool) (h : wide_Sum a0 = some r) :
    SpecF Try.prog 72 [v00] [] [rows 4 v00 (a0.map api_Wide.cs)] (fun _ : Unit => True) (fun z => Tu [Ag (api_Wide.cs r.1), Bo r.2]) (fun z M =>  M) (fun z M =>  M) := by
  refine .of func72 rfl ntmps72 rfl fun w0 D0 G0 => ?_
  unfold wide_Sum at h
  refine .seq ?_
  refine .reg rfl ?_
  refine .opx (X.alc (cs := (api_Wide.cs ⟨0, 0, 0, 0⟩)) zeroValue27 rfl) rfl fun b1 => ?_
  refine .op0 (OpP.toV (P.asg .k)) rfl ?_
  refine .nil ?_
  refine .then ?_
  refine .seq ?_
  refine .reg rfl ?_
  refine .opx (X.alc (cs := (api_Wide.cs ⟨0, 0, 0, 0⟩)) zeroValue27 rfl) rfl fun b2 => ?_
  refine .nil ?_
  refine .then ?_
  refine .seq ?_
  refine .seq ?_
  refine .reg rfl ?_
  refine .opp (P.mov .t2) rfl ?_
  refine .op (V.lnr (n := a0.length) .g0 Mm.m0 map_len runUnderlying135) rfl ?_
  refine .opp (P.mov .k) rfl ?_
  refine .nil ?_
  refine .then ?_
  refine .block ?_
  obtain ⟨o7, ho8, h⟩ := bnd_eq h
  refine .lenq Mm.m0 fun hl14 => ?_
  rw [map_len] at hl14
  refine .loopR (γ := Unit) (fun i3 (s4 : api_Wide) z5 => [(11, N ((i3 : Int))), (10, N ((a0.length : Int))), (9, v00), (4, pt b2 0), (2, pt b1 0)]) (fun (s4 : api_Wide) z5 => [blk b2 27 (api_Wide.cs s4), blk b1 27 (api_Wide.cs ⟨0, 0, 0, 0⟩)]) (fun (s4 : api_Wide) z5 => [rows 4 v00 (a0.map api_Wide.cs)]) () ho8 (.cons Mm.m0 (.cons Mm.m1 (.cons Mm.m2 (.cons Mm.m3 (.cons Mm.m4 .nil))))) (.of (.cons .k0 (.cons .k0 .nil))) (.cons Mm.m0 .nil) (fun i3 s4 z5 hi15 hr11 => ?_)
  refine .seq ?_
  refine .reg rfl ?_
  refine .opp (P.bin (v := Bo (decide ((i3 : Int) < (a0.length : Nat)))) .g0 .g1 .lss) rfl ?_
  refine .nil ?_
  refine .then ?_
  refine .seq ?_
  refine .cond .t0 (fun c16 => ?_) (fun c16 => ?_)
  · obtain ⟨e6, hx13⟩ := get_of c16
    obtain ⟨ct12, hc9, hn10⟩ := loopR_at hx13 hr11
    refine .skip ?_
    refine .then ?_
    refine .seq ?_
    refine .block ?_
    refine .seq ?_
    refine .reg rfl ?_
    refine .ixq Mm.m0 (map_get hx13) fun p17 q18 hq19 => ?_
    refine .opp (P.ixi (i := i3) .g0 rfl .g2 hq19 runUnderlying135 sizeOf27) rfl ?_
    refine .op (V.ldx0 (u := Ag (api_Wide.cs e6)) .t0 hq19 Mm.m0 (map_get hx13) (.agg isAgg27 sizeOf27 rfl rfl)) rfl ?_
    refine .opx (X.alc (cs := (api_Wide.cs ⟨0, 0, 0, 0⟩)) zeroValue27 rfl) rfl fun b20 => ?_
    refine .opg (G.str .t1 .g0 .k0 (.mk (cs' := (api_Wide.cs e6)) sizeOf27 rfl rfl rfl rfl)) rfl fun _ _ => ?_
    refine .nil ?_
    refine .then ?_
    refine .seq ?_
    refine .reg rfl ?_
    refine .op (V.ld (v := Ag (api_Wide.cs s4)) .g4 .k1 (.agg isAgg27 sizeOf27 rfl rfl)) rfl ?_
    refine .op (V.ld (v := Ag (api_Wide.cs e6)) .t1 .k0 (.agg isAgg27 sizeOf27 rfl rfl)) rfl ?_
    refine .opg (G.call call92 (.cons .t1 (.cons .t0 .nil)) (S_wide_Add s4 e6 _ rfl) .nil .nil (fun _ _ => rfl) (fun _ _ => rfl) rfl) rfl fun _ _ => ?_
    refine .opp (P.mov .t0) rfl ?_
    refine .opp (P.ext (v := Ag (api_Wide.cs ((wide_Add s4 e6).1))) .g0 rfl) rfl ?_
    refine .opp (P.ext (v := Bo ((wide_Add s4 e6).2)) .t1 rfl) rfl ?_
    refine .opx (X.alc (cs := (api_Wide.cs ⟨0, 0, 0, 0⟩)) zeroValue27 rfl) rfl fun b21 => ?_
    refine .opg (G.str .t2 .g0 .k0 (.mk (cs' := (api_Wide.cs ((wide_Add s4 e6).1))) sizeOf27 rfl rfl rfl rfl)) rfl fun _ _ => ?_
    refine .opp (P.asg .t1) rfl ?_
    refine .nil ?_
    refine .then ?_
    refine .seq ?_
    refine .seq ?_
    refine .reg rfl ?_
    refine .opp (P.mov .t0) rfl ?_
    refine .opp (P.not .t0) rfl ?_
    refine .nil ?_
    refine .then ?_
    refine .cond .t0 (fun c22 => ?_) (fun c22 => ?_)
    · rw [if_pos c22] at hc9
      refine .seq ?_
      refine .reg rfl ?_
      refine .opp (P.bld (v := Ag (api_Wide.cs ⟨0, 0, 0, 0⟩)) .nil (bld_runA zeroValue27 runUnderlying27 sizeOf25 (by kernel_rfl))) rfl ?_
      refine .opg (G.str .t0 .g5 .k3 (.mk (cs' := (api_Wide.cs ⟨0, 0, 0, 0⟩)) sizeOf27 rfl rfl rfl rfl)) rfl fun _ _ => ?_
      refine .opp (P.asg .k) rfl ?_
      refine .nil ?_
      refine .then ?_
      refine .ret ?_
      refine .thr ?_
      refine .inr ?_
      refine .thr ?_
      obtain ⟨x23, hx24, rfl⟩ := map_rt hc9
      obtain rfl := hn10
      obtain rfl := rt_on h
      refine .thr ?_
      refine .inr ?_
      refine .thr ?_
      cases hx24
      exact .finw () (.r2 rfl (.cell .g6 .k0 (.agg isAgg27 sizeOf27 rfl rfl)) (.tmp .g0)) trivial (Ls.of .nil) .nil
    · rw [if_neg (ne_true_of_eq_false c22)] at hc9
      refine .skip ?_
      refine .then ?_
      refine .reg rfl ?_
      refine .op (V.ld (v := Ag (api_Wide.cs ((wide_Add s4 e6).1))) .t0 .k0 (.agg isAgg27 sizeOf27 rfl rfl)) rfl ?_
      refine .opg (G.str .t0 .g3 .k2 (.mk (cs' := (api_Wide.cs ((wide_Add s4 e6).1))) sizeOf27 rfl rfl rfl rfl)) rfl fun _ _ => ?_
      refine .nil ?_
      refine .inn ?_
      refine .then ?_
      refine .reg rfl ?_
      refine .opp (P.bin .g0 .k (.addc (inc_ok (lt_of_get hx13) hl14))) rfl ?_
      refine .drop .k1 ?_
      refine .opp (P.mov .t0) rfl ?_
      refine .nil ?_
      cases hc9
      exact .rdR ((wide_Add s4 e6).1) () hn10 (lt_of_get hx13) (.cons Mm.m0 (.cons Mm.m1 (.cons Mm.m2 (.cons Mm.m3 (.cons Mm.m4 .nil))))) (.of (.cons .k0 (.cons .k2 .nil))) (.cons Mm.m0 .nil)
  · obtain rfl := loopR_end (le_of_not c16) hr11
    have h := dn_on h
    refine .exit ?_
    refine .thx ?_
    refine .thx ?_
    refine .inb ?_
    refine .then ?_
    refine .seq ?_
    refine .reg rfl ?_
    refine .op (V.ld (v := Ag (api_Wide.cs s4)) .t3 .k0 (.agg isAgg27 sizeOf27 rfl rfl)) rfl ?_
    refine .opg (G.str .t0 .g3 .k1 (.mk (cs' := (api_Wide.cs s4)) sizeOf27 rfl rfl rfl rfl)) rfl fun _ _ => ?_
    refine .opp (P.asg .k) rfl ?_
    refine .nil ?_
    refine .then ?_
    refine .ret ?_
    cases h
    exact .finw () (.r2 rfl (.cell .g4 .k0 (.agg isAgg27 sizeOf27 rfl rfl)) (.tmp .g0)) trivial (Ls.of .nil) .nil
attribute [irreducible] wide_Sum
noncomputable def narrowsref01_Digits (a0 : api_Wide) : (List Int) :=
  ([IntKind.i64.wrap ((a0.a0 % 65536).toNat : Int), IntKind.i64.wrap (((a0.a0 / 65536) % 65536).toNat : Int), IntKind.i64.wrap ((((a0.a0 / 65536) / 65536) % 65536).toNat : Int), IntKind.i64.wrap (((((a0.a0 / 65536) / 65536) / 65536) % 65536).toNat : Int), IntKind.i64.wrap ((a0.a1 % 65536).toNat : Int), IntKind.i64.wrap (((a0.a1 / 65536) % 65536).toNat : Int), IntKind.i64.wrap ((((a0.a1 / 65536) / 65536) % 65536).toNat : Int), IntKind.i64.wrap (((((a0.a1 / 65536) / 65536) / 65536) % 65536).toNat : Int), IntKind.i64.wrap ((a0.a2 % 65536).toNat : Int), IntKind.i64.wrap (((a0.a2 / 65536) % 65536).toNat : Int), IntKind.i64.wrap ((((a0.a2 / 65536) / 65536) % 65536).toNat : Int), IntKind.i64.wrap (((((a0.a2 / 65536) / 65536) / 65536) % 65536).toNat : Int), IntKind.i64.wrap ((a0.a3 % 65536).toNat : Int), IntKind.i64.wrap (((a0.a3 / 65536) % 65536).toNat : Int), IntKind.i64.wrap ((((a0.a3 / 65536) / 65536) % 65536).toNat : Int), IntKind.i64.wrap (((((a0.a3 / 65536) / 65536) / 65536) % 65536).toNat : Int)] : List Int)
set_option maxRecDepth 20000 in
set_option maxHeartbeats 1000000 in
theorem S_narrowsref01_Digits (a0 : api_Wide) (r : (List Int)) (h : narrowsref01_Digits a0 = r) :
    SpecF Try.prog 66 [Ag (api_Wide.cs a0)] [] [] (fun _ : Value => True) (fun z => z) (fun z M => lst 3 1 z (r.map (fun x => [N x])) ::  M) (fun z M =>  M) := by
  refine .of func66 rfl ntmps66 rfl fun w0 D0 G0 => ?_
  unfold narrowsref01_Digits at h
  refine .seq ?_
  refine .reg rfl ?_
  refine .opx (X.box (cs := (api_Wide.cs a0)) .t0 rfl) rfl fun b1 => ?_
  refine .op0 (OpP.toV (P.asg .k)) rfl ?_
  refine .nil ?_
  refine .then ?_
  refine .seq ?_
  refine .reg rfl ?_
  refine .opp (P.asg .k) rfl ?_
  refine .nil ?_
  refine .then ?_
  refine .seq ?_
  refine .seq ?_
  refine .reg rfl ?_
  refine .opp (P.asg .k) rfl ?_
  refine .nil ?_
  refine .then ?_
  refine .block ?_
  refine .rounds 5 ?_
  refine .rd ?_
  refine .seq ?_
  refine .seq ?_
  refine .reg rfl ?_
  refine .opp (P.mov .g0) rfl ?_
  refine .opp (P.bin (v := Bo true) .t0 .k (BinV.lss.boolc (by decide))) rfl ?_
  refine .nil ?_
  refine .then ?_
  refine .condT .t0 ?_
  refine .skip ?_
  refine .then ?_
  refine .seq ?_
  refine .block ?_
  refine .seq ?_
  refine .reg rfl ?_
  refine .opp (P.mov .g0) rfl ?_
  refine .opp (P.iac (i := 0) .t0 rfl .g2 runUnderlying27 sizeOf25 rfl rfl) rfl ?_
  refine .op (V.ld (v := U a0.a0) .t0 .k0 (.one isAgg25 rfl)) rfl ?_
  refine .opp (P.asg .t0) rfl ?_
  refine .nil ?_
  refine .then ?_
  refine .seq ?_
  refine .reg rfl ?_
  refine .opp (P.asg .k) rfl ?_
  refine .nil ?_
  refine .then ?_
  refine .block ?_
  refine .rounds 5 ?_
  refine .rd ?_
  refine .seq ?_
  refine .seq ?_
  refine .reg rfl ?_
  refine .opp (P.mov .g0) rfl ?_
  refine .opp (P.bin (v := Bo true) .t0 .k (BinV.lss.boolc (by decide))) rfl ?_
  refine .nil ?_
  refine .then ?_
  refine .condT .t0 ?_
  refine .skip ?_
  refine .then ?_
  refine .seq ?_
  refine .block ?_
  refine .seq ?_
  refine .reg rfl ?_
  refine .opp (P.mov .g3) rfl ?_
  refine .opp (P.mov .g2) rfl ?_
  refine .opp (P.bin .t0 .k (BinV.remU (x := a0.a0) (y := 65536) (by decide))) rfl ?_
  refine .opp (P.cnv (m := ((a0.a0 % 65536).toNat : Int)) .t0 runUnderlying25 runUnderlying3) rfl ?_
  refine .opg (G.bsl (cs := [N (IntKind.i64.wrap ((a0.a0 % 65536).toNat : Int))]) .t0 runUnderlying128 sizeOf3 zeroValue3 rfl rfl rfl rfl rfl) rfl fun u2 _ => ?_
  refine .lnil 3 1 ?_
  refine .opg (G.app (by_ := 8) .t1 .t0 .k0 (.inr (.inr ⟨_, Mm.m0⟩)) runUnderlying128 runUnderlying128 sizeOf3 typeInfo3 rfl rfl zeroValue3 rfl rfl (Nat.le_of_ble_eq_true rfl) rfl) rfl fun u3 _ => ?_
  refine .conseq .k0 (q := lst 3 1 u3 [[N (IntKind.i64.wrap ((a0.a0 % 65536).toNat : Int))]]) (fun _ hh => hh) ?_
  refine .drop .k4 ?_
  refine .opp (P.asg .t0) rfl ?_
  refine .nil ?_
  refine .then ?_
  refine .reg rfl ?_
  refine .opp (P.mov .g2) rfl ?_
  refine .opp (P.bin .t0 .k (BinV.quoU (x := a0.a0) (y := 65536) (by decide))) rfl ?_
  refine .drop .k3 ?_
  refine .opp (P.asg .t0) rfl ?_
  refine .nil ?_
  refine .inn ?_
  refine .then ?_
  refine .reg rfl ?_
  refine .opp (P.mov .g2) rfl ?_
  refine .opp (P.bin (v := N 1) .t0 .k (.addc (by decide))) rfl ?_
  refine .drop .k3 ?_
  refine .opp (P.asg .t0) rfl ?_
  refine .nil ?_
  refine .then ?_
  refine .rd ?_
  refine .seq ?_
  refine .seq ?_
  refine .reg rfl ?_
  refine .opp (P.mov .g0) rfl ?_
  refine .opp (P.bin (v := Bo true) .t0 .k (BinV.lss.boolc (by decide))) rfl ?_
  refine .nil ?_
  refine .then ?_
  refine .condT .t0 ?_
  refine .skip ?_
  refine .then ?_
  refine .seq ?_
  refine .block ?_
  refine .seq ?_
  refine .reg rfl ?_
  refine .opp (P.mov .g2) rfl ?_
  refine .opp (P.mov .g2) rfl ?_
  refine .opp (P.bin .t0 .k (BinV.remU (x := a0.a0 / 65536) (y := 65536) (by decide))) rfl ?_
  refine .opp (P.cnv (m := (((a0.a0 / 65536) % 65536).toNat : Int)) .t0 runUnderlying25 runUnderlying3) rfl ?_
  refine .opg (G.bsl (cs := [N (IntKind.i64.wrap (((a0.a0 / 65536) % 65536).toNat : Int))]) .t0 runUnderlying128 sizeOf3 zeroValue3 rfl rfl rfl rfl rfl) rfl fun u4 _ => ?_
  refine .opg (G.app (by_ := 8) .t1 .t0 .k1 (.inr (.inr ⟨_, Mm.m0⟩)) runUnderlying128 runUnderlying128 sizeOf3 typeInfo3 rfl rfl zeroValue3 rfl rfl (Nat.le_of_ble_eq_true rfl) rfl) rfl fun u5 _ => ?_
  refine .conseq .k0 (q := lst 3 1 u5 [[N (IntKind.i64.wrap ((a0.a0 % 65536).toNat : Int))], [N (IntKind.i64.wrap (((a0.a0 / 65536) % 65536).toNat : Int))]]) (fun _ hh => hh) ?_
  refine .drop .k3 ?_
  refine .opp (P.asg .t0) rfl ?_
  refine .nil ?_
  refine .then ?_
  refine .reg rfl ?_
  refine .opp (P.mov .g2) rfl ?_
  refine .opp (P.bin .t0 .k (BinV.quoU (x := a0.a0 / 65536) (y := 65536) (by decide))) rfl ?_
  refine .drop .k3 ?_
  refine .opp (P.asg .t0) rfl ?_
  refine .nil ?_
  refine .inn ?_
  refine .then ?_
  refine .reg rfl ?_
  refine .opp (P.mov .g2) rfl ?_
  refine .opp (P.bin (v := N 2) .t0 .k (.addc (by decide))) rfl ?_
  refine .drop .k3 ?_
  refine .opp (P.asg .t0) rfl ?_
  refine .nil ?_
  refine .then ?_
  refine .rd ?_
  refine .seq ?_
  refine .seq ?_
  refine .reg rfl ?_
  refine .opp (P.mov .g0) rfl ?_
  refine .opp (P.bin (v := Bo true) .t0 .k (BinV.lss.boolc (by decide))) rfl ?_
  refine .nil ?_
  refine .then ?_
  refine .condT .t0 ?_
  refine .skip ?_
  refine .then ?_
  refine .seq ?_
  refine .block ?_
  refine .seq ?_
  refine .reg rfl ?_
  refine .opp (P.mov .g2) rfl ?_
  refine .opp (P.mov .g2) rfl ?_
  refine .opp (P.bin .t0 .k (BinV.remU (x := (a0.a0 / 65536) / 65536) (y := 65536) (by decide))) rfl ?_
  refine .opp (P.cnv (m := ((((a0.a0 / 65536) / 65536) % 65536).toNat : Int)) .t0 runUnderlying25 runUnderlying3) rfl ?_
  refine .opg (G.bsl (cs := [N (IntKind.i64.wrap ((((a0.a0 / 65536) / 65536) % 65536).toNat : Int))]) .t0 runUnderlying128 sizeOf3 zeroValue3 rfl rfl rfl rfl rfl) rfl fun u6 _ => ?_
  refine .opg (G.app (by_ := 8) .t1 .t0 .k1 (.inr (.inr ⟨_, Mm.m0⟩)) runUnderlying128 runUnderlying128 sizeOf3 typeInfo3 rfl rfl zeroValue3 rfl rfl (Nat.le_of_ble_eq_true rfl) rfl) rfl fun u7 _ => ?_
  refine .conseq .k0 (q := lst 3 1 u7 [[N (IntKind.i64.wrap ((a0.a0 % 65536).toNat : Int))], [N (IntKind.i64.wrap (((a0.a0 / 65536) % 65536).toNat : Int))], [N (IntKind.i64.wrap ((((a0.a0 / 65536) / 65536) % 65536).toNat : Int))]]) (fun _ hh => hh) ?_
  refine .drop .k3 ?_
  refine .opp (P.asg .t0) rfl ?_
  refine .nil ?_
  refine .then ?_
  refine .reg rfl ?_
  refine .opp (P.mov .g2) rfl ?_
  refine .opp (P.bin .t0 .k (BinV.quoU (x := (a0.a0 / 65536) / 65536) (y := 65536) (by decide))) rfl ?_
  refine .drop .k3 ?_
  refine .opp (P.asg .t0) rfl ?_
  refine .nil ?_
  refine .inn ?_
  refine .then ?_
  refine .reg rfl ?_
  refine .opp (P.mov .g2) rfl ?_
  refine .opp (P.bin (v := N 3) .t0 .k (.addc (by decide))) rfl ?_
  refine .drop .k3 ?_
  refine .opp (P.asg .t0) rfl ?_
  refine .nil ?_
  refine .then ?_
  refine .rd ?_
  refine .seq ?_
  refine .seq ?_
  refine .reg rfl ?_
  refine .opp (P.mov .g0) rfl ?_
  refine .opp (P.bin (v := Bo true) .t0 .k (BinV.lss.boolc (by decide))) rfl ?_
  refine .nil ?_
  refine .then ?_
  refine .condT .t0 ?_
  refine .skip ?_
  refine .then ?_
  refine .seq ?_
  refine .block ?_
  refine .seq ?_
  refine .reg rfl ?_
  refine .opp (P.mov .g2) rfl ?_
  refine .opp (P.mov .g2) rfl ?_
  refine .opp (P.bin .t0 .k (BinV.remU (x := ((a0.a0 / 65536) / 65536) / 65536) (y := 65536) (by decide))) rfl ?_
  refine .opp (P.cnv (m := (((((a0.a0 / 65536) / 65536) / 65536) % 65536).toNat : Int)) .t0 runUnderlying25 runUnderlying3) rfl ?_
  refine .opg (G.bsl (cs := [N (IntKind.i64.wrap (((((a0.a0 / 65536) / 65536) / 65536) % 65536).toNat : Int))]) .t0 runUnderlying128 sizeOf3 zeroValue3 rfl rfl rfl rfl rfl) rfl fun u8 _ => ?_
  refine .opg (G.app (by_ := 8) .t1 .t0 .k1 (.inr (.inr ⟨_, Mm.m0⟩)) runUnderlying128 runUnderlying128 sizeOf3 typeInfo3 rfl rfl zeroValue3 rfl rfl (Nat.le_of_ble_eq_true rfl) rfl) rfl fun u9 _ => ?_
  refine .conseq .k0 (q := lst 3 1 u9 [[N (IntKind.i64.wrap ((a0.a0 % 65536).toNat : Int))], [N (IntKind.i64.wrap (((a0.a0 / 65536) % 65536).toNat : Int))], [N (IntKind.i64.wrap ((((a0.a0 / 65536) / 65536) % 65536).toNat : Int))], [N (IntKind.i64.wrap (((((a0.a0 / 65536) / 65536) / 65536) % 65536).toNat : Int))]]) (fun _ hh => hh) ?_
  refine .drop .k3 ?_
  refine .opp (P.asg .t0) rfl ?_
  refine .nil ?_
  refine .then ?_
  refine .reg rfl ?_
  refine .opp (P.mov .g2) rfl ?_
  refine .opp (P.bin .t0 .k (BinV.quoU (x := ((a0.a0 / 65536) / 65536) / 65536) (y := 65536) (by decide))) rfl ?_
  refine .drop .k3 ?_
  refine .opp (P.asg .t0) rfl ?_
  refine .nil ?_
  refine .inn ?_
  refine .then ?_
  refine .reg rfl ?_
  refine .opp (P.mov .g2) rfl ?_
  refine .opp (P.bin (v := N 4) .t0 .k (.addc (by decide))) rfl ?_
  refine .drop .k3 ?_
  refine .opp (P.asg .t0) rfl ?_
  refine .nil ?_
  refine .then ?_
  refine .rd ?_
  refine .seq ?_
  refine .seq ?_
  refine .reg rfl ?_
  refine .opp (P.mov .g0) rfl ?_
  refine .opp (P.bin (v := Bo false) .t0 .k (BinV.lss.boolc (by decide))) rfl ?_
  refine .nil ?_
  refine .then ?_
  refine .condF .t0 ?_
  refine .exit ?_
  refine .thx ?_
  refine .thx ?_
  refine .inb ?_
  refine .inn ?_
  refine .then ?_
  refine .reg rfl ?_
  refine .opp (P.mov .g3) rfl ?_
  refine .opp (P.bin (v := N 1) .t0 .k (.addc (by decide))) rfl ?_
  refine .drop .k4 ?_
  refine .opp (P.asg .t0) rfl ?_
  refine .nil ?_
  refine .then ?_
  refine .rd ?_
  refine .seq ?_
  refine .seq ?_
  refine .reg rfl ?_
  refine .opp (P.mov .g0) rfl ?_
  refine .opp (P.bin (v := Bo true) .t0 .k (BinV.lss.boolc (by decide))) rfl ?_
  refine .nil ?_
  refine .then ?_
  refine .condT .t0 ?_
  refine .skip ?_
  refine .then ?_
  refine .seq ?_
  refine .block ?_
  refine .seq ?_
  refine .reg rfl ?_
  refine .opp (P.mov .g0) rfl ?_
  refine .opp (P.iac (i := 1) .t0 rfl .g4 runUnderlying27 sizeOf25 rfl rfl) rfl ?_
  refine .op (V.ld (v := U a0.a1) .t0 .k5 (.one isAgg25 rfl)) rfl ?_
  refine .drop .k3 ?_
  refine .opp (P.asg .t0) rfl ?_
  refine .nil ?_
  refine .then ?_
  refine .seq ?_
  refine .reg rfl ?_
  refine .drop .k2 ?_
  refine .opp (P.asg .k) rfl ?_
  refine .nil ?_
  refine .then ?_
  refine .block ?_
  refine .rounds 5 ?_
  refine .rd ?_
  refine .seq ?_
  refine .seq ?_
  refine .reg rfl ?_
  refine .opp (P.mov .g0) rfl ?_
  refine .opp (P.bin (v := Bo true) .t0 .k (BinV.lss.boolc (by decide))) rfl ?_
  refine .nil ?_
  refine .then ?_
  refine .condT .t0 ?_
  refine .skip ?_
  refine .then ?_
  refine .seq ?_
  refine .block ?_
  refine .seq ?_
  refine .reg rfl ?_
  refine .opp (P.mov .g3) rfl ?_
  refine .opp (P.mov .g2) rfl ?_
  refine .opp (P.bin .t0 .k (BinV.remU (x := a0.a1) (y := 65536) (by decide))) rfl ?_
  refine .opp (P.cnv (m := ((a0.a1 % 65536).toNat : Int)) .t0 runUnderlying25 runUnderlying3) rfl ?_
  refine .opg (G.bsl (cs := [N (IntKind.i64.wrap ((a0.a1 % 65536).toNat : Int))]) .t0 runUnderlying128 sizeOf3 zeroValue3 rfl rfl rfl rfl rfl) rfl fun u10 _ => ?_
  refine .opg (G.app (by_ := 8) .t1 .t0 .k1 (.inr (.inr ⟨_, Mm.m0⟩)) runUnderlying128 runUnderlying128 sizeOf3 typeInfo3 rfl rfl zeroValue3 rfl rfl (Nat.le_of_ble_eq_true rfl) rfl) rfl fun u11 _ => ?_
  refine .conseq .k0 (q := lst 3 1 u11 [[N (IntKind.i64.wrap ((a0.a0 % 65536).toNat : Int))], [N (IntKind.i64.wrap (((a0.a0 / 65536) % 65536).toNat : Int))], [N (IntKind.i64.wrap ((((a0.a0 / 65536) / 65536) % 65536).toNat : Int))], [N (IntKind.i64.wrap (((((a0.a0 / 65536) / 65536) / 65536) % 65536).toNat : Int))], [N (IntKind.i64.wrap ((a0.a1 % 65536).toNat : Int))]]) (fun _ hh => hh) ?_
  refine .drop .k4 ?_
  refine .opp (P.asg .t0) rfl ?_
  refine .nil ?_
  refine .then ?_
  refine .reg rfl ?_
  refine .opp (P.mov .g2) rfl ?_
  refine .opp (P.bin .t0 .k (BinV.quoU (x := a0.a1) (y := 65536) (by decide))) rfl ?_
  refine .drop .k3 ?_
  refine .opp (P.asg .t0) rfl ?_
  refine .nil ?_
  refine .inn ?_
  refine .then ?_
  refine .reg rfl ?_
  refine .opp (P.mov .g2) rfl ?_
  refine .opp (P.bin (v := N 1) .t0 .k (.addc (by decide))) rfl ?_
  refine .drop .k3 ?_
  refine .opp (P.asg .t0) rfl ?_
  refine .nil ?_
  refine .then ?_
  refine .rd ?_
  refine .seq ?_
  refine .seq ?_
  refine .reg rfl ?_
  refine .opp (P.mov .g0) rfl ?_
  refine .opp (P.bin (v := Bo true) .t0 .k (BinV.lss.boolc (by decide))) rfl ?_
  refine .nil ?_
  refine .then ?_
  refine .condT .t0 ?_
  refine .skip ?_
  refine .then ?_
  refine .seq ?_
  refine .block ?_
  refine .seq ?_
  refine .reg rfl ?_
  refine .opp (P.mov .g2) rfl ?_
  refine .opp (P.mov .g2) rfl ?_
  refine .opp (P.bin .t0 .k (BinV.remU (x := a0.a1 / 65536) (y := 65536) (by decide))) rfl ?_
  refine .opp (P.cnv (m := (((a0.a1 / 65536) % 65536).toNat : Int)) .t0 runUnderlying25 runUnderlying3) rfl ?_
  refine .opg (G.bsl (cs := [N (IntKind.i64.wrap (((a0.a1 / 65536) % 65536).toNat : Int))]) .t0 runUnderlying128 sizeOf3 zeroValue3 rfl rfl rfl rfl rfl) rfl fun u12 _ => ?_
  refine .opg (G.app (by_ := 8) .t1 .t0 .k1 (.inr (.inr ⟨_, Mm.m0⟩)) runUnderlying128 runUnderlying128 sizeOf3 typeInfo3 rfl rfl zeroValue3 rfl rfl (Nat.le_of_ble_eq_true rfl) rfl) rfl fun u13 _ => ?_
  refine .conseq .k0 (q := lst 3 1 u13 [[N (IntKind.i64.wrap ((a0.a0 % 65536).toNat : Int))], [N (IntKind.i64.wrap (((a0.a0 / 65536) % 65536).toNat : Int))], [N (IntKind.i64.wrap ((((a0.a0 / 65536) / 65536) % 65536).toNat : Int))], [N (IntKind.i64.wrap (((((a0.a0 / 65536) / 65536) / 65536) % 65536).toNat : Int))], [N (IntKind.i64.wrap ((a0.a1 % 65536).toNat : Int))], [N (IntKind.i64.wrap (((a0.a1 / 65536) % 65536).toNat : Int))]]) (fun _ hh => hh) ?_
  refine .drop .k3 ?_
  refine .opp (P.asg .t0) rfl ?_
  refine .nil ?_
  refine .then ?_
  refine .reg rfl ?_
  refine .opp (P.mov .g2) rfl ?_
  refine .opp (P.bin .t0 .k (BinV.quoU (x := a0.a1 / 65536) (y := 65536) (by decide))) rfl ?_
  refine .drop .k3 ?_
  refine .opp (P.asg .t0) rfl ?_
  refine .nil ?_
  refine .inn ?_
  refine .then ?_
  refine .reg rfl ?_
  refine .opp (P.mov .g2) rfl ?_
  refine .opp (P.bin (v := N 2) .t0 .k (.addc (by decide))) rfl ?_
  refine .drop .k3 ?_
  refine .opp (P.asg .t0) rfl ?_
  refine .nil ?_
  refine .then ?_
  refine .rd ?_
  refine .seq ?_
  refine .seq ?_
  refine .reg rfl ?_
  refine .opp (P.mov .g0) rfl ?_
  refine .opp (P.bin (v := Bo true) .t0 .k (BinV.lss.boolc (by decide))) rfl ?_
  refine .nil ?_
  refine .then ?_
  refine .condT .t0 ?_
  refine .skip ?_
  refine .then ?_
  refine .seq ?_
  refine .block ?_
  refine .seq ?_
  refine .reg rfl ?_
  refine .opp (P.mov .g2) rfl ?_
  refine .opp (P.mov .g2) rfl ?_
  refine .opp (P.bin .t0 .k (BinV.remU (x := (a0.a1 / 65536) / 65536) (y := 65536) (by decide))) rfl ?_
  refine .opp (P.cnv (m := ((((a0.a1 / 65536) / 65536) % 65536).toNat : Int)) .t0 runUnderlying25 runUnderlying3) rfl ?_
  refine .opg (G.bsl (cs := [N (IntKind.i64.wrap ((((a0.a1 / 65536) / 65536) % 65536).toNat : Int))]) .t0 runUnderlying128 sizeOf3 zeroValue3 rfl rfl rfl rfl rfl) rfl fun u14 _ => ?_
  refine .opg (G.app (by_ := 8) .t1 .t0 .k1 (.inr (.inr ⟨_, Mm.m0⟩)) runUnderlying128 runUnderlying128 sizeOf3 typeInfo3 rfl rfl zeroValue3 rfl rfl (Nat.le_of_ble_eq_true rfl) rfl) rfl fun u15 _ => ?_
  refine .conseq .k0 (q := lst 3 1 u15 [[N (IntKind.i64.wrap ((a0.a0 % 65536).toNat : Int))], [N (IntKind.i64.wrap (((a0.a0 / 65536) % 65536).toNat : Int))], [N (IntKind.i64.wrap ((((a0.a0 / 65536) / 65536) % 65536).toNat : Int))], [N (IntKind.i64.wrap (((((a0.a0 / 65536) / 65536) / 65536) % 65536).toNat : Int))], [N (IntKind.i64.wrap ((a0.a1 % 65536).toNat : Int))], [N (IntKind.i64.wrap (((a0.a1 / 65536) % 65536).toNat : Int))], [N (IntKind.i64.wrap ((((a0.a1 / 65536) / 65536) % 65536).toNat : Int))]]) (fun _ hh => hh) ?_
  refine .drop .k3 ?_
  refine .opp (P.asg .t0) rfl ?_
  refine .nil ?_
  refine .then ?_
  refine .reg rfl ?_
  refine .opp (P.mov .g2) rfl ?_
  refine .opp (P.bin .t0 .k (BinV.quoU (x := (a0.a1 / 65536) / 65536) (y := 65536) (by decide))) rfl ?_
  refine .drop .k3 ?_
  refine .opp (P.asg .t0) rfl ?_
  refine .nil ?_
  refine .inn ?_
  refine .then ?_
  refine .reg rfl ?_
  refine .opp (P.mov .g2) rfl ?_
  refine .opp (P.bin (v := N 3) .t0 .k (.addc (by decide))) rfl ?_
  refine .drop .k3 ?_
  refine .opp (P.asg .t0) rfl ?_
  refine .nil ?_
  refine .then ?_
  refine .rd ?_
  refine .seq ?_
  refine .seq ?_
  refine .reg rfl ?_
  refine .opp (P.mov .g0) rfl ?_
  refine .opp (P.bin (v := Bo true) .t0 .k (BinV.lss.boolc (by decide))) rfl ?_
  refine .nil ?_
  refine .then ?_
  refine .condT .t0 ?_
  refine .skip ?_
  refine .then ?_
  refine .seq ?_
  refine .block ?_
  refine .seq ?_
  refine .reg rfl ?_
  refine .opp (P.mov .g2) rfl ?_
  refine .opp (P.mov .g2) rfl ?_
  refine .opp (P.bin .t0 .k (BinV.remU (x := ((a0.a1 / 65536) / 65536) / 65536) (y := 65536) (by decide))) rfl ?_
  refine .opp (P.cnv (m := (((((a0.a1 / 65536) / 65536) / 65536) % 65536).toNat : Int)) .t0 runUnderlying25 runUnderlying3) rfl ?_
  refine .opg (G.bsl (cs := [N (IntKind.i64.wrap (((((a0.a1 / 65536) / 65536) / 65536) % 65536).toNat : Int))]) .t0 runUnderlying128 sizeOf3 zeroValue3 rfl rfl rfl rfl rfl) rfl fun u16 _ => ?_
  refine .opg (G.app (by_ := 8) .t1 .t0 .k1 (.inr (.inr ⟨_, Mm.m0⟩)) runUnderlying128 runUnderlying128 sizeOf3 typeInfo3 rfl rfl zeroValue3 rfl rfl (Nat.le_of_ble_eq_true rfl) rfl) rfl fun u17 _ => ?_
  refine .conseq .k0 (q := lst 3 1 u17 [[N (IntKind.i64.wrap ((a0.a0 % 65536).toNat : Int))], [N (IntKind.i64.wrap (((a0.a0 / 65536) % 65536).toNat : Int))], [N (IntKind.i64.wrap ((((a0.a0 / 65536) / 65536) % 65536).toNat : Int))], [N (IntKind.i64.wrap (((((a0.a0 / 65536) / 65536) / 65536) % 65536).toNat : Int))], [N (IntKind.i64.wrap ((a0.a1 % 65536).toNat : Int))], [N (IntKind.i64.wrap (((a0.a1 / 65536) % 65536).toNat : Int))], [N (IntKind.i64.wrap ((((a0.a1 / 65536) / 65536) % 65536).toNat : Int))], [N (IntKind.i64.wrap (((((a0.a1 / 65536) / 65536) / 65536) % 65536).toNat : Int))]]) (fun _ hh => hh) ?_
  refine .drop .k3 ?_
  refine .opp (P.asg .t0) rfl ?_
  refine .nil ?_
  refine .then ?_
  refine .reg rfl ?_
  refine .opp (P.mov .g2) rfl ?_
  refine .opp (P.bin .t0 .k (BinV.quoU (x := ((a0.a1 / 65536) / 65536) / 65536) (y := 65536) (by decide))) rfl ?_
  refine .drop .k3 ?_
  refine .opp (P.asg .t0) rfl ?_
  refine .nil ?_
  refine .inn ?_
  refine .then ?_
  refine .reg rfl ?_
  refine .opp (P.mov .g2) rfl ?_
  refine .opp (P.bin (v := N 4) .t0 .k (.addc (by decide))) rfl ?_
  refine .drop .k3 ?_
  refine .opp (P.asg .t0) rfl ?_
  refine .nil ?_
  refine .then ?_
  refine .rd ?_
  refine .seq ?_
  refine .seq ?_
  refine .reg rfl ?_
  refine .opp (P.mov .g0) rfl ?_
  refine .opp (P.bin (v := Bo false) .t0 .k (BinV.lss.boolc (by decide))) rfl ?_
  refine .nil ?_
  refine .then ?_
  refine .condF .t0 ?_
  refine .exit ?_
  refine .thx ?_
  refine .thx ?_
  refine .inb ?_
  refine .inn ?_
  refine .then ?_
  refine .reg rfl ?_
  refine .opp (P.mov .g3) rfl ?_
  refine .opp (P.bin (v := N 2) .t0 .k (.addc (by decide))) rfl ?_
  refine .drop .k4 ?_
  refine .opp (P.asg .t0) rfl ?_
  refine .nil ?_
  refine .then ?_
  refine .rd ?_
  refine .seq ?_
  refine .seq ?_
  refine .reg rfl ?_
  refine .opp (P.mov .g0) rfl ?_
  refine .opp (P.bin (v := Bo true) .t0 .k (BinV.lss.boolc (by decide))) rfl ?_
  refine .nil ?_
  refine .then ?_
  refine .condT .t0 ?_
  refine .skip ?_
  refine .then ?_
  refine .seq ?_
  refine .block ?_
  refine .seq ?_
  refine .reg rfl ?_
  refine .opp (P.mov .g0) rfl ?_
  refine .opp (P.iac (i := 2) .t0 rfl .g4 runUnderlying27 sizeOf25 rfl rfl) rfl ?_
  refine .op (V.ld (v := U a0.a2) .t0 .k9 (.one isAgg25 rfl)) rfl ?_
  refine .drop .k3 ?_
  refine .opp (P.asg .t0) rfl ?_
  refine .nil ?_
  refine .then ?_
  refine .seq ?_
  refine .reg rfl ?_
  refine .drop .k2 ?_
  refine .opp (P.asg .k) rfl ?_
  refine .nil ?_
  refine .then ?_
  refine .block ?_
  refine .rounds 5 ?_
  refine .rd ?_
  refine .seq ?_
  refine .seq ?_
  refine .reg rfl ?_
  refine .opp (P.mov .g0) rfl ?_
  refine .opp (P.bin (v := Bo true) .t0 .k (BinV.lss.boolc (by decide))) rfl ?_
  refine .nil ?_
  refine .then ?_
  refine .condT .t0 ?_
  refine .skip ?_
  refine .then ?_
  refine .seq ?_
  refine .block ?_
  refine .seq ?_
  refine .reg rfl ?_
  refine .opp (P.mov .g3) rfl ?_
  refine .opp (P.mov .g2) rfl ?_
  refine .opp (P.bin .t0 .k (BinV.remU (x := a0.a2) (y := 65536) (by decide))) rfl ?_
  refine .opp (P.cnv (m := ((a0.a2 % 65536).toNat : Int)) .t0 runUnderlying25 runUnderlying3) rfl ?_
  refine .opg (G.bsl (cs := [N (IntKind.i64.wrap ((a0.a2 % 65536).toNat : Int))]) .t0 runUnderlying128 sizeOf3 zeroValue3 rfl rfl rfl rfl rfl) rfl fun u18 _ => ?_
  refine .opg (G.app (by_ := 8) .t1 .t0 .k1 (.inr (.inr ⟨_, Mm.m0⟩)) runUnderlying128 runUnderlying128 sizeOf3 typeInfo3 rfl rfl zeroValue3 rfl rfl (Nat.le_of_ble_eq_true rfl) rfl) rfl fun u19 _ => ?_
  refine .conseq .k0 (q := lst 3 1 u19 [[N (IntKind.i64.wrap ((a0.a0 % 65536).toNat : Int))], [N (IntKind.i64.wrap (((a0.a0 / 65536) % 65536).toNat : Int))], [N (IntKind.i64.wrap ((((a0.a0 / 65536) / 65536) % 65536).toNat : Int))], [N (IntKind.i64.wrap (((((a0.a0 / 65536) / 65536) / 65536) % 65536).toNat : Int))], [N (IntKind.i64.wrap ((a0.a1 % 65536).toNat : Int))], [N (IntKind.i64.wrap (((a0.a1 / 65536) % 65536).toNat : Int))], [N (IntKind.i64.wrap ((((a0.a1 / 65536) / 65536) % 65536).toNat : Int))], [N (IntKind.i64.wrap (((((a0.a1 / 65536) / 65536) / 65536) % 65536).toNat : Int))], [N (IntKind.i64.wrap ((a0.a2 % 65536).toNat : Int))]]) (fun _ hh => hh) ?_
  refine .drop .k4 ?_
  refine .opp (P.asg .t0) rfl ?_
  refine .nil ?_
  refine .then ?_
  refine .reg rfl ?_
  refine .opp (P.mov .g2) rfl ?_
  refine .opp (P.bin .t0 .k (BinV.quoU (x := a0.a2) (y := 65536) (by decide))) rfl ?_
  refine .drop .k3 ?_
  refine .opp (P.asg .t0) rfl ?_
  refine .nil ?_
  refine .inn ?_
  refine .then ?_
  refine .reg rfl ?_
  refine .opp (P.mov .g2) rfl ?_
  refine .opp (P.bin (v := N 1) .t0 .k (.addc (by decide))) rfl ?_
  refine .drop .k3 ?_
  refine .opp (P.asg .t0) rfl ?_
  refine .nil ?_
  refine .then ?_
  refine .rd ?_
  refine .seq ?_
  refine .seq ?_
  refine .reg rfl ?_
  refine .opp (P.mov .g0) rfl ?_
  refine .opp (P.bin (v := Bo true) .t0 .k (BinV.lss.boolc (by decide))) rfl ?_
  refine .nil ?_
  refine .then ?_
  refine .condT .t0 ?_
  refine .skip ?_
  refine .then ?_
  refine .seq ?_
  refine .block ?_
  refine .seq ?_
  refine .reg rfl ?_
  refine .opp (P.mov .g2) rfl ?_
  refine .opp (P.mov .g2) rfl ?_
  refine .opp (P.bin .t0 .k (BinV.remU (x := a0.a2 / 65536) (y := 65536) (by decide))) rfl ?_
  refine .opp (P.cnv (m := (((a0.a2 / 65536) % 65536).toNat : Int)) .t0 runUnderlying25 runUnderlying3) rfl ?_
  refine .opg (G.bsl (cs := [N (IntKind.i64.wrap (((a0.a2 / 65536) % 65536).toNat : Int))]) .t0 runUnderlying128 sizeOf3 zeroValue3 rfl rfl rfl rfl rfl) rfl fun u20 _ => ?_
  refine .opg (G.app (by_ := 8) .t1 .t0 .k1 (.inr (.inr ⟨_, Mm.m0⟩)) runUnderlying128 runUnderlying128 sizeOf3 typeInfo3 rfl rfl zeroValue3 rfl rfl (Nat.le_of_ble_eq_true rfl) rfl) rfl fun u21 _ => ?_
  refine .conseq .k0 (q := lst 3 1 u21 [[N (IntKind.i64.wrap ((a0.a0 % 65536).toNat : Int))], [N (IntKind.i64.wrap (((a0.a0 / 65536) % 65536).toNat : Int))], [N (IntKind.i64.wrap ((((a0.a0 / 65536) / 65536) % 65536).toNat : Int))], [N (IntKind.i64.wrap (((((a0.a0 / 65536) / 65536) / 65536) % 65536).toNat : Int))], [N (IntKind.i64.wrap ((a0.a1 % 65536).toNat : Int))], [N (IntKind.i64.wrap (((a0.a1 / 65536) % 65536).toNat : Int))], [N (IntKind.i64.wrap ((((a0.a1 / 65536) / 65536) % 65536).toNat : Int))], [N (IntKind.i64.wrap (((((a0.a1 / 65536) / 65536) / 65536) % 65536).toNat : Int))], [N (IntKind.i64.wrap ((a0.a2 % 65536).toNat : Int))], [N (IntKind.i64.wrap (((a0.a2 / 65536) % 65536).toNat : Int))]]) (fun _ hh => hh) ?_
  refine .drop .k3 ?_
  refine .opp (P.asg .t0) rfl ?_
  refine .nil ?_
  refine .then ?_
  refine .reg rfl ?_
  refine .opp (P.mov .g2) rfl ?_
  refine .opp (P.bin .t0 .k (BinV.quoU (x := a0.a2 / 65536) (y := 65536) (by decide))) rfl ?_
  refine .drop .k3 ?_
  refine .opp (P.asg .t0) rfl ?_
  refine .nil ?_
  refine .inn ?_
  refine .then ?_
  refine .reg rfl ?_
  refine .opp (P.mov .g2) rfl ?_
  refine .opp (P.bin (v := N 2) .t0 .k (.addc (by decide))) rfl ?_
  refine .drop .k3 ?_
  refine .opp (P.asg .t0) rfl ?_
  refine .nil ?_
  refine .then ?_
  refine .rd ?_
  refine .seq ?_
  refine .seq ?_
  refine .reg rfl ?_
  refine .opp (P.mov .g0) rfl ?_
  refine .opp (P.bin (v := Bo true) .t0 .k (BinV.lss.boolc (by decide))) rfl ?_
  refine .nil ?_
  refine .then ?_
  refine .condT .t0 ?_
  refine .skip ?_
  refine .then ?_
  refine .seq ?_
  refine .block ?_
  refine .seq ?_
  refine .reg rfl ?_
  refine .opp (P.mov .g2) rfl ?_
  refine .opp (P.mov .g2) rfl ?_
  refine .opp (P.bin .t0 .k (BinV.remU (x := (a0.a2 / 65536) / 65536) (y := 65536) (by decide))) rfl ?_
  refine .opp (P.cnv (m := ((((a0.a2 / 65536) / 65536) % 65536).toNat : Int)) .t0 runUnderlying25 runUnderlying3) rfl ?_
  refine .opg (G.bsl (cs := [N (IntKind.i64.wrap ((((a0.a2 / 65536) / 65536) % 65536).toNat : Int))]) .t0 runUnderlying128 sizeOf3 zeroValue3 rfl rfl rfl rfl rfl) rfl fun u22 _ => ?_
  refine .opg (G.app (by_ := 8) .t1 .t0 .k1 (.inr (.inr ⟨_, Mm.m0⟩)) runUnderlying128 runUnderlying128 sizeOf3 typeInfo3 rfl rfl zeroValue3 rfl rfl (Nat.le_of_ble_eq_true rfl) rfl) rfl fun u23 _ => ?_
  refine .conseq .k0 (q := lst 3 1 u23 [[N (IntKind.i64.wrap ((a0.a0 % 65536).toNat : Int))], [N (IntKind.i64.wrap (((a0.a0 / 65536) % 65536).toNat : Int))], [N (IntKind.i64.wrap ((((a0.a0 / 65536) / 65536) % 65536).toNat : Int))], [N (IntKind.i64.wrap (((((a0.a0 / 65536) / 65536) / 65536) % 65536).toNat : Int))], [N (IntKind.i64.wrap ((a0.a1 % 65536).toNat : Int))], [N (IntKind.i64.wrap (((a0.a1 / 65536) % 65536).toNat : Int))], [N (IntKind.i64.wrap ((((a0.a1 / 65536) / 65536) % 65536).toNat : Int))], [N (IntKind.i64.wrap (((((a0.a1 / 65536) / 65536) / 65536) % 65536).toNat : Int))], [N (IntKind.i64.wrap ((a0.a2 % 65536).toNat : Int))], [N (IntKind.i64.wrap (((a0.a2 / 65536) % 65536).toNat : Int))], [N (IntKind.i64.wrap ((((a0.a2 / 65536) / 65536) % 65536).toNat : Int))]]) (fun _ hh => hh) ?_
  refine .drop .k3 ?_
  refine .opp (P.asg .t0) rfl ?_
  refine .nil ?_
  refine .then ?_
  refine .reg rfl ?_
  refine .opp (P.mov .g2) rfl ?_
  refine .opp (P.bin .t0 .k (BinV.quoU (x := (a0.a2 / 65536) / 65536) (y := 65536) (by decide))) rfl ?_
  refine .drop .k3 ?_
  refine .opp (P.asg .t0) rfl ?_
  refine .nil ?_
  refine .inn ?_
  refine .then ?_
  refine .reg rfl ?_
  refine .opp (P.mov .g2) rfl ?_
  refine .opp (P.bin (v := N 3) .t0 .k (.addc (by decide))) rfl ?_
  refine .drop .k3 ?_
  refine .opp (P.asg .t0) rfl ?_
  refine .nil ?_
  refine .then ?_
  refine .rd ?_
  refine .seq ?_
  refine .seq ?_
  refine .reg rfl ?_
  refine .opp (P.mov .g0) rfl ?_
  refine .opp (P.bin (v := Bo true) .t0 .k (BinV.lss.boolc (by decide))) rfl ?_
  refine .nil ?_
  refine .then ?_
  refine .condT .t0 ?_
  refine .skip ?_
  refine .then ?_
  refine .seq ?_
  refine .block ?_
  refine .seq ?_
  refine .reg rfl ?_
  refine .opp (P.mov .g2) rfl ?_
  refine .opp (P.mov .g2) rfl ?_
  refine .opp (P.bin .t0 .k (BinV.remU (x := ((a0.a2 / 65536) / 65536) / 65536) (y := 65536) (by decide))) rfl ?_
  refine .opp (P.cnv (m := (((((a0.a2 / 65536) / 65536) / 65536) % 65536).toNat : Int)) .t0 runUnderlying25 runUnderlying3) rfl ?_
  refine .opg (G.bsl (cs := [N (IntKind.i64.wrap (((((a0.a2 / 65536) / 65536) / 65536) % 65536).toNat : Int))]) .t0 runUnderlying128 sizeOf3 zeroValue3 rfl rfl rfl rfl rfl) rfl fun u24 _ => ?_
  refine .opg (G.app (by_ := 8) .t1 .t0 .k1 (.inr (.inr ⟨_, Mm.m0⟩)) runUnderlying128 runUnderlying128 sizeOf3 typeInfo3 rfl rfl zeroValue3 rfl rfl (Nat.le_of_ble_eq_true rfl) rfl) rfl fun u25 _ => ?_
  refine .conseq .k0 (q := lst 3 1 u25 [[N (IntKind.i64.wrap ((a0.a0 % 65536).toNat : Int))], [N (IntKind.i64.wrap (((a0.a0 / 65536) % 65536).toNat : Int))], [N (IntKind.i64.wrap ((((a0.a0 / 65536) / 65536) % 65536).toNat : Int))], [N (IntKind.i64.wrap (((((a0.a0 / 65536) / 65536) / 65536) % 65536).toNat : Int))], [N (IntKind.i64.wrap ((a0.a1 % 65536).toNat : Int))], [N (IntKind.i64.wrap (((a0.a1 / 65536) % 65536).toNat : Int))], [N (IntKind.i64.wrap ((((a0.a1 / 65536) / 65536) % 65536).toNat : Int))], [N (IntKind.i64.wrap (((((a0.a1 / 65536) / 65536) / 65536) % 65536).toNat : Int))], [N (IntKind.i64.wrap ((a0.a2 % 65536).toNat : Int))], [N (IntKind.i64.wrap (((a0.a2 / 65536) % 65536).toNat : Int))], [N (IntKind.i64.wrap ((((a0.a2 / 65536) / 65536) % 65536).toNat : Int))], [N (IntKind.i64.wrap (((((a0.a2 / 65536) / 65536) / 65536) % 65536).toNat : Int))]]) (fun _ hh => hh) ?_
  refine .drop .k3 ?_
  refine .opp (P.asg .t0) rfl ?_
  refine .nil ?_
  refine .then ?_
  refine .reg rfl ?_
  refine .opp (P.mov .g2) rfl ?_
  refine .opp (P.bin .t0 .k (BinV.quoU (x := ((a0.a2 / 65536) / 65536) / 65536) (y := 65536) (by decide))) rfl ?_
  refine .drop .k3 ?_
  refine .opp (P.asg .t0) rfl ?_
  refine .nil ?_
  refine .inn ?_
  refine .then ?_
  refine .reg rfl ?_
  refine .opp (P.mov .g2) rfl ?_
  refine .opp (P.bin (v := N 4) .t0 .k (.addc (by decide))) rfl ?_
  refine .drop .k3 ?_
  refine .opp (P.asg .t0) rfl ?_
  refine .nil ?_
  refine .then ?_
  refine .rd ?_
  refine .seq ?_
  refine .seq ?_
  refine .reg rfl ?_
  refine .opp (P.mov .g0) rfl ?_
  refine .opp (P.bin (v := Bo false) .t0 .k (BinV.lss.boolc (by decide))) rfl ?_
  refine .nil ?_
  refine .then ?_
  refine .condF .t0 ?_
  refine .exit ?_
  refine .thx ?_
  refine .thx ?_
  refine .inb ?_
  refine .inn ?_
  refine .then ?_
  refine .reg rfl ?_
  refine .opp (P.mov .g3) rfl ?_
  refine .opp (P.bin (v := N 3) .t0 .k (.addc (by decide))) rfl ?_
  refine .drop .k4 ?_
  refine .opp (P.asg .t0) rfl ?_
  refine .nil ?_
  refine .then ?_
  refine .rd ?_
  refine .seq ?_
  refine .seq ?_
  refine .reg rfl ?_
  refine .opp (P.mov .g0) rfl ?_
  refine .opp (P.bin (v := Bo true) .t0 .k (BinV.lss.boolc (by decide))) rfl ?_
  refine .nil ?_
  refine .then ?_
  refine .condT .t0 ?_
  refine .skip ?_
  refine .then ?_
  refine .seq ?_
  refine .block ?_
  refine .seq ?_
  refine .reg rfl ?_
  refine .opp (P.mov .g0) rfl ?_
  refine .opp (P.iac (i := 3) .t0 rfl .g4 runUnderlying27 sizeOf25 rfl rfl) rfl ?_
  refine .op (V.ld (v := U a0.a3) .t0 .k13 (.one isAgg25 rfl)) rfl ?_
  refine .drop .k3 ?_
  refine .opp (P.asg .t0) rfl ?_
  refine .nil ?_
  refine .then ?_
  refine .seq ?_
  refine .reg rfl ?_
  refine .drop .k2 ?_
  refine .opp (P.asg .k) rfl ?_
  refine .nil ?_
  refine .then ?_
  refine .block ?_
  refine .rounds 5 ?_
  refine .rd ?_
  refine .seq ?_
  refine .seq ?_
  refine .reg rfl ?_
  refine .opp (P.mov .g0) rfl ?_
  refine .opp (P.bin (v := Bo true) .t0 .k (BinV.lss.boolc (by decide))) rfl ?_
  refine .nil ?_
  refine .then ?_
  refine .condT .t0 ?_
  refine .skip ?_
  refine .then ?_
  refine .seq ?_
  refine .block ?_
  refine .seq ?_
  refine .reg rfl ?_
  refine .opp (P.mov .g3) rfl ?_
  refine .opp (P.mov .g2) rfl ?_
  refine .opp (P.bin .t0 .k (BinV.remU (x := a0.a3) (y := 65536) (by decide))) rfl ?_
  refine .opp (P.cnv (m := ((a0.a3 % 65536).toNat : Int)) .t0 runUnderlying25 runUnderlying3) rfl ?_
  refine .opg (G.bsl (cs := [N (IntKind.i64.wrap ((a0.a3 % 65536).toNat : Int))]) .t0 runUnderlying128 sizeOf3 zeroValue3 rfl rfl rfl rfl rfl) rfl fun u26 _ => ?_
  refine .opg (G.app (by_ := 8) .t1 .t0 .k1 (.inr (.inr ⟨_, Mm.m0⟩)) runUnderlying128 runUnderlying128 sizeOf3 typeInfo3 rfl rfl zeroValue3 rfl rfl (Nat.le_of_ble_eq_true rfl) rfl) rfl fun u27 _ => ?_
  refine .conseq .k0 (q := lst 3 1 u27 [[N (IntKind.i64.wrap ((a0.a0 % 65536).toNat : Int))], [N (IntKind.i64.wrap (((a0.a0 / 65536) % 65536).toNat : Int))], [N (IntKind.i64.wrap ((((a0.a0 / 65536) / 65536) % 65536).toNat : Int))], [N (IntKind.i64.wrap (((((a0.a0 / 65536) / 65536) / 65536) % 65536).toNat : Int))], [N (IntKind.i64.wrap ((a0.a1 % 65536).toNat : Int))], [N (IntKind.i64.wrap (((a0.a1 / 65536) % 65536).toNat : Int))], [N (IntKind.i64.wrap ((((a0.a1 / 65536) / 65536) % 65536).toNat : Int))], [N (IntKind.i64.wrap (((((a0.a1 / 65536) / 65536) / 65536) % 65536).toNat : Int))], [N (IntKind.i64.wrap ((a0.a2 % 65536).toNat : Int))], [N (IntKind.i64.wrap (((a0.a2 / 65536) % 65536).toNat : Int))], [N (IntKind.i64.wrap ((((a0.a2 / 65536) / 65536) % 65536).toNat : Int))], [N (IntKind.i64.wrap (((((a0.a2 / 65536) / 65536) / 65536) % 65536).toNat : Int))], [N (IntKind.i64.wrap ((a0.a3 % 65536).toNat : Int))]]) (fun _ hh => hh) ?_
  refine .drop .k4 ?_
  refine .opp (P.asg .t0) rfl ?_
  refine .nil ?_
  refine .then ?_
  refine .reg rfl ?_
  refine .opp (P.mov .g2) rfl ?_
  refine .opp (P.bin .t0 .k (BinV.quoU (x := a0.a3) (y := 65536) (by decide))) rfl ?_
  refine .drop .k3 ?_
  refine .opp (P.asg .t0) rfl ?_
  refine .nil ?_
  refine .inn ?_
  refine .then ?_
  refine .reg rfl ?_
  refine .opp (P.mov .g2) rfl ?_
  refine .opp (P.bin (v := N 1) .t0 .k (.addc (by decide))) rfl ?_
  refine .drop .k3 ?_
  refine .opp (P.asg .t0) rfl ?_
  refine .nil ?_
  refine .then ?_
  refine .rd ?_
  refine .seq ?_
  refine .seq ?_
  refine .reg rfl ?_
  refine .opp (P.mov .g0) rfl ?_
  refine .opp (P.bin (v := Bo true) .t0 .k (BinV.lss.boolc (by decide))) rfl ?_
  refine .nil ?_
  refine .then ?_
  refine .condT .t0 ?_
  refine .skip ?_
  refine .then ?_
  refine .seq ?_
  refine .block ?_
  refine .seq ?_
  refine .reg rfl ?_
  refine .opp (P.mov .g2) rfl ?_
  refine .opp (P.mov .g2) rfl ?_
  refine .opp (P.bin .t0 .k (BinV.remU (x := a0.a3 / 65536) (y := 65536) (by decide))) rfl ?_
  refine .opp (P.cnv (m := (((a0.a3 / 65536) % 65536).toNat : Int)) .t0 runUnderlying25 runUnderlying3) rfl ?_
  refine .opg (G.bsl (cs := [N (IntKind.i64.wrap (((a0.a3 / 65536) % 65536).toNat : Int))]) .t0 runUnderlying128 sizeOf3 zeroValue3 rfl rfl rfl rfl rfl) rfl fun u28 _ => ?_
  refine .opg (G.app (by_ := 8) .t1 .t0 .k1 (.inr (.inr ⟨_, Mm.m0⟩)) runUnderlying128 runUnderlying128 sizeOf3 typeInfo3 rfl rfl zeroValue3 rfl rfl (Nat.le_of_ble_eq_true rfl) rfl) rfl fun u29 _ => ?_
  refine .conseq .k0 (q := lst 3 1 u29 [[N (IntKind.i64.wrap ((a0.a0 % 65536).toNat : Int))], [N (IntKind.i64.wrap (((a0.a0 / 65536) % 65536).toNat : Int))], [N (IntKind.i64.wrap ((((a0.a0 / 65536) / 65536) % 65536).toNat : Int))], [N (IntKind.i64.wrap (((((a0.a0 / 65536) / 65536) / 65536) % 65536).toNat : Int))], [N (IntKind.i64.wrap ((a0.a1 % 65536).toNat : Int))], [N (IntKind.i64.wrap (((a0.a1 / 65536) % 65536).toNat : Int))], [N (IntKind.i64.wrap ((((a0.a1 / 65536) / 65536) % 65536).toNat : Int))], [N (IntKind.i64.wrap (((((a0.a1 / 65536) / 65536) / 65536) % 65536).toNat : Int))], [N (IntKind.i64.wrap ((a0.a2 % 65536).toNat : Int))], [N (IntKind.i64.wrap (((a0.a2 / 65536) % 65536).toNat : Int))], [N (IntKind.i64.wrap ((((a0.a2 / 65536) / 65536) % 65536).toNat : Int))], [N (IntKind.i64.wrap (((((a0.a2 / 65536) / 65536) / 65536) % 65536).toNat : Int))], [N (IntKind.i64.wrap ((a0.a3 % 65536).toNat : Int))], [N (IntKind.i64.wrap (((a0.a3 / 65536) % 65536).toNat : Int))]]) (fun _ hh => hh) ?_
  refine .drop .k3 ?_
  refine .opp (P.asg .t0) rfl ?_
  refine .nil ?_
  refine .then ?_
  refine .reg rfl ?_
  refine .opp (P.mov .g2) rfl ?_
  refine .opp (P.bin .t0 .k (BinV.quoU (x := a0.a3 / 65536) (y := 65536) (by decide))) rfl ?_
  refine .drop .k3 ?_
  refine .opp (P.asg .t0) rfl ?_
  refine .nil ?_
  refine .inn ?_
  refine .then ?_
  refine .reg rfl ?_
  refine .opp (P.mov .g2) rfl ?_
  refine .opp (P.bin (v := N 2) .t0 .k (.addc (by decide))) rfl ?_
  refine .drop .k3 ?_
  refine .opp (P.asg .t0) rfl ?_
  refine .nil ?_
  refine .then ?_
  refine .rd ?_
  refine .seq ?_
  refine .seq ?_
  refine .reg rfl ?_
  refine .opp (P.mov .g0) rfl ?_
  refine .opp (P.bin (v := Bo true) .t0 .k (BinV.lss.boolc (by decide))) rfl ?_
  refine .nil ?_
  refine .then ?_
  refine .condT .t0 ?_
  refine .skip ?_
  refine .then ?_
  refine .seq ?_
  refine .block ?_
  refine .seq ?_
  refine .reg rfl ?_
  refine .opp (P.mov .g2) rfl ?_
  refine .opp (P.mov .g2) rfl ?_
  refine .opp (P.bin .t0 .k (BinV.remU (x := (a0.a3 / 65536) / 65536) (y := 65536) (by decide))) rfl ?_
  refine .opp (P.cnv (m := ((((a0.a3 / 65536) / 65536) % 65536).toNat : Int)) .t0 runUnderlying25 runUnderlying3) rfl ?_
  refine .opg (G.bsl (cs := [N (IntKind.i64.wrap ((((a0.a3 / 65536) / 65536) % 65536).toNat : Int))]) .t0 runUnderlying128 sizeOf3 zeroValue3 rfl rfl rfl rfl rfl) rfl fun u30 _ => ?_
  refine .opg (G.app (by_ := 8) .t1 .t0 .k1 (.inr (.inr ⟨_, Mm.m0⟩)) runUnderlying128 runUnderlying128 sizeOf3 typeInfo3 rfl rfl zeroValue3 rfl rfl (Nat.le_of_ble_eq_true rfl) rfl) rfl fun u31 _ => ?_
  refine .conseq .k0 (q := lst 3 1 u31 [[N (IntKind.i64.wrap ((a0.a0 % 65536).toNat : Int))], [N (IntKind.i64.wrap (((a0.a0 / 65536) % 65536).toNat : Int))], [N (IntKind.i64.wrap ((((a0.a0 / 65536) / 65536) % 65536).toNat : Int))], [N (IntKind.i64.wrap (((((a0.a0 / 65536) / 65536) / 65536) % 65536).toNat : Int))], [N (IntKind.i64.wrap ((a0.a1 % 65536).toNat : Int))], [N (IntKind.i64.wrap (((a0.a1 / 65536) % 65536).toNat : Int))], [N (IntKind.i64.wrap ((((a0.a1 / 65536) / 65536) % 65536).toNat : Int))], [N (IntKind.i64.wrap (((((a0.a1 / 65536) / 65536) / 65536) % 65536).toNat : Int))], [N (IntKind.i64.wrap ((a0.a2 % 65536).toNat : Int))], [N (IntKind.i64.wrap (((a0.a2 / 65536) % 65536).toNat : Int))], [N (IntKind.i64.wrap ((((a0.a2 / 65536) / 65536) % 65536).toNat : Int))], [N (IntKind.i64.wrap (((((a0.a2 / 65536) / 65536) / 65536) % 65536).toNat : Int))], [N (IntKind.i64.wrap ((a0.a3 % 65536).toNat : Int))], [N (IntKind.i64.wrap (((a0.a3 / 65536) % 65536).toNat : Int))], [N (IntKind.i64.wrap ((((a0.a3 / 65536) / 65536) % 65536).toNat : Int))]]) (fun _ hh => hh) ?_
  refine .drop .k3 ?_
  refine .opp (P.asg .t0) rfl ?_
  refine .nil ?_
  refine .then ?_
  refine .reg rfl ?_
  refine .opp (P.mov .g2) rfl ?_
  refine .opp (P.bin .t0 .k (BinV.quoU (x := (a0.a3 / 65536) / 65536) (y := 65536) (by decide))) rfl ?_
  refine .drop .k3 ?_
  refine .opp (P.asg .t0) rfl ?_
  refine .nil ?_
  refine .inn ?_
  refine .then ?_
  refine .reg rfl ?_
  refine .opp (P.mov .g2) rfl ?_
  refine .opp (P.bin (v := N 3) .t0 .k (.addc (by decide))) rfl ?_
  refine .drop .k3 ?_
  refine .opp (P.asg .t0) rfl ?_
  refine .nil ?_
  refine .then ?_
  refine .rd ?_
  refine .seq ?_
  refine .seq ?_
  refine .reg rfl ?_
  refine .opp (P.mov .g0) rfl ?_
  refine .opp (P.bin (v := Bo true) .t0 .k (BinV.lss.boolc (by decide))) rfl ?_
  refine .nil ?_
  refine .then ?_
  refine .condT .t0 ?_
  refine .skip ?_
  refine .then ?_
  refine .seq ?_
  refine .block ?_
  refine .seq ?_
  refine .reg rfl ?_
  refine .opp (P.mov .g2) rfl ?_
  refine .opp (P.mov .g2) rfl ?_
  refine .opp (P.bin .t0 .k (BinV.remU (x := ((a0.a3 / 65536) / 65536) / 65536) (y := 65536) (by decide))) rfl ?_
  refine .opp (P.cnv (m := (((((a0.a3 / 65536) / 65536) / 65536) % 65536).toNat : Int)) .t0 runUnderlying25 runUnderlying3) rfl ?_
  refine .opg (G.bsl (cs := [N (IntKind.i64.wrap (((((a0.a3 / 65536) / 65536) / 65536) % 65536).toNat : Int))]) .t0 runUnderlying128 sizeOf3 zeroValue3 rfl rfl rfl rfl rfl) rfl fun u32 _ => ?_
  refine .opg (G.app (by_ := 8) .t1 .t0 .k1 (.inr (.inr ⟨_, Mm.m0⟩)) runUnderlying128 runUnderlying128 sizeOf3 typeInfo3 rfl rfl zeroValue3 rfl rfl (Nat.le_of_ble_eq_true rfl) rfl) rfl fun u33 _ => ?_
  refine .conseq .k0 (q := lst 3 1 u33 [[N (IntKind.i64.wrap ((a0.a0 % 65536).toNat : Int))], [N (IntKind.i64.wrap (((a0.a0 / 65536) % 65536).toNat : Int))], [N (IntKind.i64.wrap ((((a0.a0 / 65536) / 65536) % 65536).toNat : Int))], [N (IntKind.i64.wrap (((((a0.a0 / 65536) / 65536) / 65536) % 65536).toNat : Int))], [N (IntKind.i64.wrap ((a0.a1 % 65536).toNat : Int))], [N (IntKind.i64.wrap (((a0.a1 / 65536) % 65536).toNat : Int))], [N (IntKind.i64.wrap ((((a0.a1 / 65536) / 65536) % 65536).toNat : Int))], [N (IntKind.i64.wrap (((((a0.a1 / 65536) / 65536) / 65536) % 65536).toNat : Int))], [N (IntKind.i64.wrap ((a0.a2 % 65536).toNat : Int))], [N (IntKind.i64.wrap (((a0.a2 / 65536) % 65536).toNat : Int))], [N (IntKind.i64.wrap ((((a0.a2 / 65536) / 65536) % 65536).toNat : Int))], [N (IntKind.i64.wrap (((((a0.a2 / 65536) / 65536) / 65536) % 65536).toNat : Int))], [N (IntKind.i64.wrap ((a0.a3 % 65536).toNat : Int))], [N (IntKind.i64.wrap (((a0.a3 / 65536) % 65536).toNat : Int))], [N (IntKind.i64.wrap ((((a0.a3 / 65536) / 65536) % 65536).toNat : Int))], [N (IntKind.i64.wrap (((((a0.a3 / 65536) / 65536) / 65536) % 65536).toNat : Int))]]) (fun _ hh => hh) ?_
  refine .drop .k3 ?_
  refine .opp (P.asg .t0) rfl ?_
  refine .nil ?_
  refine .then ?_
  refine .reg rfl ?_
  refine .opp (P.mov .g2) rfl ?_
  refine .opp (P.bin .t0 .k (BinV.quoU (x := ((a0.a3 / 65536) / 65536) / 65536) (y := 65536) (by decide))) rfl ?_
  refine .drop .k3 ?_
  refine .opp (P.asg .t0) rfl ?_
  refine .nil ?_
  refine .inn ?_
  refine .then ?_
  refine .reg rfl ?_
  refine .opp (P.mov .g2) rfl ?_
  refine .opp (P.bin (v := N 4) .t0 .k (.addc (by decide))) rfl ?_
  refine .drop .k3 ?_
  refine .opp (P.asg .t0) rfl ?_
  refine .nil ?_
  refine .then ?_
  refine .rd ?_
  refine .seq ?_
  refine .seq ?_
  refine .reg rfl ?_
  refine .opp (P.mov .g0) rfl ?_
  refine .opp (P.bin (v := Bo false) .t0 .k (BinV.lss.boolc (by decide))) rfl ?_
  refine .nil ?_
  refine .then ?_
  refine .condF .t0 ?_
  refine .exit ?_
  refine .thx ?_
  refine .thx ?_
  refine .inb ?_
  refine .inn ?_
  refine .then ?_
  refine .reg rfl ?_
  refine .opp (P.mov .g3) rfl ?_
  refine .opp (P.bin (v := N 4) .t0 .k (.addc (by decide))) rfl ?_
  refine .drop .k4 ?_
  refine .opp (P.asg .t0) rfl ?_
  refine .nil ?_
  refine .then ?_
  refine .rd ?_
  refine .seq ?_
  refine .seq ?_
  refine .reg rfl ?_
  refine .opp (P.mov .g0) rfl ?_
  refine .opp (P.bin (v := Bo false) .t0 .k (BinV.lss.boolc (by decide))) rfl ?_
  refine .nil ?_
  refine .then ?_
  refine .condF .t0 ?_
  refine .exit ?_
  refine .thx ?_
  refine .thx ?_
  refine .inb ?_
  refine .then ?_
  refine .seq ?_
  refine .reg rfl ?_
  refine .opp (P.mov .t3) rfl ?_
  refine .opp (P.asg .t0) rfl ?_
  refine .nil ?_
  refine .then ?_
  refine .ret ?_
  subst h
  exact .finw u33 (.r1 rfl (.tmp .g0)) trivial (Ls.of (.cons .k0 .nil)) .nil
attribute [irreducible] narrowsref01_Digits
noncomputable def narrowsref01_Made (a0 : List Int) : Option (api_Wide × Bool) :=
  Option.bind (loopW (fun (s3 : Int × api_Wide) => if (decide (s3.1 < ((a0.length : Int)))) = true then (Option.bind (if (decide (s3.1 ≥ 16)) = true then (Option.bind (at_ a0 s3.1) fun (x20 : Int) => if (decide (x20 ≠ 0)) = true then (Option.map Lo.rt (Option.map Ct.rt (some (⟨0, 0, 0, 0⟩, false)))) else (some (Lo.dn s3.2))) else (Option.bind (at_ a0 s3.1) fun (x32 : Int) => Option.bind (loopW (fun (s36 : Int × UInt64) => if (decide (s36.1 < (Int.tmod s3.1 4))) = true then (some (.nx ((IntKind.i64.wrap (s36.1 + 1), s36.2 * 65536)))) else (some (.br (s36.1, s36.2)))) (0, Ui x32)) fun o38 => Lo.on o38 fun (s36 : Int × UInt64) => Option.bind (at_ (api_Wide.list s3.2) (IntKind.i64.wrap (Int.tdiv s3.1 4))) fun (x48 : UInt64) => Option.bind (at_ (api_Wide.list s3.2) (IntKind.i64.wrap (Int.tdiv s3.1 4))) fun (x52 : UInt64) => some (Lo.dn (api_Wide.set s3.2 (IntKind.i64.wrap (Int.tdiv s3.1 4)).toNat (x48 + s36.2))))) fun o58 => Lo.on o58 fun (y13 : api_Wide) => some (.nx ((IntKind.i64.wrap (s3.1 + 1), y13)))) else (some (.br (s3.1, s3.2)))) (0, ⟨0, 0, 0, 0⟩)) fun o5 => Lo.on o5 fun (s3 : Int × api_Wide) => some (s3.2, true)
set_option maxRecDepth 20000 in
set_option maxHeartbeats 1000000 in
theorem S_narrowsref01_Made (v00 : Value) (a0 : List Int) (r : api_Wide × Bool) (h : narrowsref01_Made a0 = some r) :
    SpecF Try.prog 67 [v00] [] [rows 1 v00 (a0.map (fun x => [N x]))] (fun _ : Unit => True) (fun z => Tu [Ag (api_Wide.cs r.1), Bo r.2]) (fun z M =>  M) (fun z M =>  M) := by
  refine .of func67 rfl ntmps67 rfl fun w0 D0 G0 => ?_
  unfold narrowsref01_Made at h
  refine .seq ?_
  refine .reg rfl ?_
  refine .opx (X.alc (cs := (api_Wide.cs ⟨0, 0, 0, 0⟩)) zeroValue27 rfl) rfl fun b1 => ?_
  refine .op0 (OpP.toV (P.asg .k)) rfl ?_
  refine .nil ?_
  refine .then ?_
  refine .seq ?_
  refine .reg rfl ?_
  refine .opx (X.alc (cs := (api_Wide.cs ⟨0, 0, 0, 0⟩)) zeroValue27 rfl) rfl fun b2 => ?_
  refine .nil ?_
  refine .then ?_
  refine .seq ?_
  refine .seq ?_
  refine .reg rfl ?_
  refine .opp (P.asg .k) rfl ?_
  refine .nil ?_
  refine .then ?_
  refine .block ?_
  obtain ⟨o5, ho6, h⟩ := bnd_eq h
  refine .loopW (γ := Unit) (fun (s3 : Int × api_Wide) z4 => [(5, N s3.1), (4, pt b2 0), (2, pt b1 0), (0, v00)]) (fun (s3 : Int × api_Wide) z4 => [blk b2 27 (api_Wide.cs s3.2), blk b1 27 (api_Wide.cs ⟨0, 0, 0, 0⟩)]) (fun (s3 : Int × api_Wide) z4 => [rows 1 v00 (a0.map (fun x => [N x]))]) () ho6 (.cons Mm.m0 (.cons Mm.m1 (.cons Mm.m2 (.cons Mm.m3 .nil)))) (.of (.cons .k0 (.cons .k0 .nil))) (.cons Mm.m0 .nil) (fun n11 s3 z4 hr9 => ?_)
  obtain ⟨ct10, hc7, hn8⟩ := loopK_at hr9
  refine .seq ?_
  refine .seq ?_
  refine .reg rfl ?_
  refine .opp (P.mov .g0) rfl ?_
  refine .opp (P.mov .g4) rfl ?_
  refine .op (V.lnr (n := a0.length) .t0 Mm.m0 map_len runUnderlying128) rfl ?_
  refine .opp (P.bin .t1 .t0 .lss) rfl ?_
  refine .nil ?_
  refine .then ?_
  refine .cond .t0 (fun c12 => ?_) (fun c12 => ?_)
  · rw [if_pos c12] at hc7
    refine .skip ?_
    refine .then ?_
    obtain ⟨o58, hj15, hc7⟩ := bnd_eq hc7
    refine .cuto (γ := Unit) hc7 (E1 := fun (y13 : api_Wide) _ => [(5, N s3.1), (4, pt b2 0), (2, pt b1 0), (0, v00)]) (L1 := fun (y13 : api_Wide) _ => [blk b2 27 (api_Wide.cs y13), blk b1 27 (api_Wide.cs ⟨0, 0, 0, 0⟩)]) (R1 := fun (y13 : api_Wide) _ => [rows 1 v00 (a0.map (fun x => [N x]))]) ?_ (fun y13 _ hc7' => ?_)
    · refine .block ?_
      refine .seq ?_
      refine .seq ?_
      refine .reg rfl ?_
      refine .opp (P.mov .g0) rfl ?_
      refine .opp (P.bin .t0 .k .geq) rfl ?_
      refine .nil ?_
      refine .then ?_
      refine .cond .t0 (fun c16 => ?_) (fun c16 => ?_)
      · rw [if_pos c16] at hj15
        refine .seq ?_
        refine .seq ?_
        refine .reg rfl ?_
        refine .opp (P.mov .g3) rfl ?_
        refine .opp (P.mov .g1) rfl ?_
        obtain ⟨x20, hx21, hj15⟩ := bnd_eq hj15
        obtain ⟨i22, hi23, hx21⟩ := at_eq hx21
        have hi23_ : (s3.1).toNat = i22 := by rw [hi23]; rfl
        refine .ixq Mm.m0 (map_get hx21) fun p17 q18 hq19 => ?_
        refine .opp (P.ixi (i := i22) .t0 hi23 .t0 hq19 runUnderlying128 sizeOf3) rfl ?_
        refine .op (V.ldx0 (u := N x20) .t0 hq19 Mm.m0 (map_get hx21) (.one isAgg3 rfl)) rfl ?_
        refine .opp (P.bin .t0 .k .neq) rfl ?_
        refine .nil ?_
        refine .then ?_
        refine .cond .t0 (fun c24 => ?_) (fun c24 => ?_)
        · rw [if_pos c24] at hj15
          refine .seq ?_
          refine .reg rfl ?_
          refine .opp (P.bld (v := Ag (api_Wide.cs ⟨0, 0, 0, 0⟩)) .nil (bld_runA zeroValue27 runUnderlying27 sizeOf25 (by kernel_rfl))) rfl ?_
          refine .opg (G.str .t0 .g2 .k1 (.mk (cs' := (api_Wide.cs ⟨0, 0, 0, 0⟩)) sizeOf27 rfl rfl rfl rfl)) rfl fun _ _ => ?_
          refine .opp (P.asg .k) rfl ?_
          refine .nil ?_
          refine .then ?_
          refine .ret ?_
          refine .thr ?_
          refine .thr ?_
          refine .inr ?_
          obtain ⟨x25, hx26, rfl⟩ := map_lrt hj15
          obtain rfl := rt_on hc7
          refine .thr ?_
          obtain ⟨x27, hx28, rfl⟩ := map_rt hx26
          obtain rfl := hn8
          obtain rfl := rt_on h
          refine .thr ?_
          refine .inr ?_
          refine .thr ?_
          cases hx28
          exact .finw () (.r2 rfl (.cell .g3 .k0 (.agg isAgg27 sizeOf27 rfl rfl)) (.tmp .g0)) trivial (Ls.of .nil) .nil
        · rw [if_neg (ne_true_of_eq_false c24)] at hj15
          refine .skip ?_
          refine .then ?_
          refine .exit ?_
          refine .thx ?_
          refine .inb ?_
          cases hj15
          exact .sty s3.2 () (dn_on hc7) (.cons Mm.m0 (.cons Mm.m1 (.cons Mm.m2 (.cons Mm.m3 .nil)))) (.of (.cons .k0 (.cons .k0 .nil))) (.cons Mm.m0 .nil)
      · rw [if_neg (ne_true_of_eq_false c16)] at hj15
        refine .skip ?_
        refine .then ?_
        refine .seq ?_
        refine .reg rfl ?_
        refine .opp (P.mov .g3) rfl ?_
        refine .opp (P.mov .g1) rfl ?_
        obtain ⟨x32, hx33, hj15⟩ := bnd_eq hj15
        obtain ⟨i34, hi35, hx33⟩ := at_eq hx33
        have hi35_ : (s3.1).toNat = i34 := by rw [hi35]; rfl
        refine .ixq Mm.m0 (map_get hx33) fun p29 q30 hq31 => ?_
        refine .opp (P.ixi (i := i34) .t0 hi35 .t0 hq31 runUnderlying128 sizeOf3) rfl ?_
        refine .op (V.ldx0 (u := N x32) .t0 hq31 Mm.m0 (map_get hx33) (.one isAgg3 rfl)) rfl ?_
        refine .opp (P.cnvU (m := x32) .t0 runUnderlying3 runUnderlying25) rfl ?_
        refine .opp (P.asg .t0) rfl ?_
        refine .nil ?_
        refine .then ?_
        refine .seq ?_
        refine .seq ?_
        refine .reg rfl ?_
        refine .opp (P.asg .k) rfl ?_
        refine .nil ?_
        refine .then ?_
        refine .block ?_
        obtain ⟨o38, ho39, hj15⟩ := bnd_eq hj15
        refine .loopW (γ := Unit) (fun (s36 : Int × UInt64) z37 => [(7, N s36.1), (6, U s36.2), (5, N s3.1), (4, pt b2 0), (2, pt b1 0), (0, v00)]) (fun (s36 : Int × UInt64) z37 => [blk b2 27 (api_Wide.cs s3.2), blk b1 27 (api_Wide.cs ⟨0, 0, 0, 0⟩)]) (fun (s36 : Int × UInt64) z37 => [rows 1 v00 (a0.map (fun x => [N x]))]) () ho39 (.cons Mm.m0 (.cons Mm.m1 (.cons Mm.m2 (.cons Mm.m3 (.cons Mm.m4 (.cons Mm.m5 .nil)))))) (.of (.cons .k0 (.cons .k0 .nil))) (.cons Mm.m0 .nil) (fun n44 s36 z37 hr42 => ?_)
        obtain ⟨ct43, hc40, hn41⟩ := loopK_at hr42
        refine .seq ?_
        refine .seq ?_
        refine .reg rfl ?_
        refine .opp (P.mov .g0) rfl ?_
        refine .opp (P.mov .g3) rfl ?_
        refine .opp (P.bin .t0 .k (.rem (by decide))) rfl ?_
        refine .opp (P.bin .t1 .t0 .lss) rfl ?_
        refine .nil ?_
        refine .then ?_
        refine .cond .t0 (fun c45 => ?_) (fun c45 => ?_)
        · rw [if_pos c45] at hc40
          refine .skip ?_
          refine .then ?_
          refine .seq ?_
          refine .block ?_
          refine .reg rfl ?_
          refine .opp (P.mov .g1) rfl ?_
          refine .opp (P.bin .t0 .k (BinV.mulU (x := s36.2) (y := 65536))) rfl ?_
          refine .drop .k2 ?_
          refine .opp (P.asg .t0) rfl ?_
          refine .nil ?_
          refine .inn ?_
          refine .then ?_
          refine .reg rfl ?_
          refine .opp (P.mov .g1) rfl ?_
          refine .opp (P.bin .t0 .k .add) rfl ?_
          refine .drop .k2 ?_
          refine .opp (P.asg .t0) rfl ?_
          refine .nil ?_
          cases hc40
          obtain ⟨m46, hm47, hn41⟩ := hn41
          exact .rdW ((IntKind.i64.wrap (s36.1 + 1), s36.2 * 65536)) () hm47 hn41 (.cons Mm.m0 (.cons Mm.m1 (.cons Mm.m2 (.cons Mm.m3 (.cons Mm.m4 (.cons Mm.m5 .nil)))))) (.of (.cons .k0 (.cons .k0 .nil))) (.cons Mm.m0 .nil)
        · rw [if_neg (ne_true_of_eq_false c45)] at hc40
          refine .exit ?_
          refine .thx ?_
          cases hc40
          refine .told (γ := Unit) hj15 hn41 (fun (s36 : Int × UInt64) _ => [(7, N s36.1), (6, U s36.2), (5, N s3.1), (4, pt b2 0), (2, pt b1 0), (0, v00)]) (fun (s36 : Int × UInt64) _ => [blk b2 27 (api_Wide.cs s3.2), blk b1 27 (api_Wide.cs ⟨0, 0, 0, 0⟩)]) (fun (s36 : Int × UInt64) _ => [rows 1 v00 (a0.map (fun x => [N x]))]) () (.cons Mm.m0 (.cons Mm.m1 (.cons Mm.m2 (.cons Mm.m3 (.cons Mm.m4 (.cons Mm.m5 .nil)))))) (.of (.cons .k0 (.cons .k0 .nil))) (.cons Mm.m0 .nil) (fun s36 _ hj15' => ?_)
          replace hj15 := hj15'
          refine .thx ?_
          refine .inb ?_
          refine .then ?_
          refine .reg rfl ?_
          refine .opp (P.mov .g2) rfl ?_
          refine .opp (P.bin .t0 .k (.quo (by decide))) rfl ?_
          refine .opp (P.mov .g3) rfl ?_
          refine .opp (P.bin .t0 .k (.quo (by decide))) rfl ?_
          obtain ⟨x48, hx49, hj15⟩ := bnd_eq hj15
          obtain ⟨i50, hi51, hx49⟩ := at_eq hx49
          have hi51_ : (IntKind.i64.wrap (Int.tdiv s3.1 4)).toNat = i50 := by rw [hi51]; rfl
          refine .opp (P.iad (i := i50) (off' := (0 + i50 * 1)) .t0 hi51 .g4 runUnderlying27 sizeOf25 (lt_of_get hx49) rfl) rfl ?_
          refine .op (V.ld (v := U x48) .t0 .k0 (by rcases i50 with _ | _ | _ | _ | _ <;> first | (obtain rfl := Option.some.inj hx49; exact LdV.one isAgg25 rfl) | (cases hx49; done))) rfl ?_
          refine .opp (P.mov .t3) rfl ?_
          refine .opp (P.bin .t1 .t0 (BinV.addU (x := x48) (y := s36.2))) rfl ?_
          obtain ⟨x52, hx53, hj15⟩ := bnd_eq hj15
          obtain ⟨i54, hi55, hx53⟩ := at_eq hx53
          have hi55_ : (IntKind.i64.wrap (Int.tdiv s3.1 4)).toNat = i54 := by rw [hi55]; rfl
          refine .opp (P.iad (i := i54) (off' := (0 + i54 * 1)) .t1 hi55 .g3 runUnderlying27 sizeOf25 (lt_of_get hx53) rfl) rfl ?_
          refine .opg (G.str (cs' := (api_Wide.cs (api_Wide.set s3.2 i54 (x48 + s36.2)))) .t1 .t0 .k0 (by rcases i54 with _ | _ | _ | _ | _ <;> first | (obtain rfl := Option.some.inj hx53; exact StV.mk sizeOf25 rfl rfl rfl rfl) | (cases hx53; done))) rfl fun _ _ => ?_
          refine .conseq .k0 (q := blk b2 27 (api_Wide.cs (api_Wide.set s3.2 (IntKind.i64.wrap (Int.tdiv s3.1 4)).toNat (x48 + s36.2)))) (fun _ h_ => by rw [hi55_]; exact h_) ?_
          refine .nil ?_
          refine .inn ?_
          cases hj15
          exact .sty (api_Wide.set s3.2 (IntKind.i64.wrap (Int.tdiv s3.1 4)).toNat (x48 + s36.2)) () (dn_on hc7) (.cons Mm.m1 (.cons Mm.m2 (.cons Mm.m3 (.cons Mm.m4 .nil)))) (.of (.cons .k0 (.cons .k0 .nil))) (.cons Mm.m0 .nil)
    · replace hc7 := hc7'
      refine .reg rfl ?_
      refine .opp (P.mov .g0) rfl ?_
      refine .opp (P.bin .t0 .k .add) rfl ?_
      refine .drop .k1 ?_
      refine .opp (P.asg .t0) rfl ?_
      refine .nil ?_
      cases hc7
      obtain ⟨m56, hm57, hn8⟩ := hn8
      exact .rdW ((IntKind.i64.wrap (s3.1 + 1), y13)) () hm57 hn8 (.cons Mm.m0 (.cons Mm.m1 (.cons Mm.m2 (.cons Mm.m3 .nil)))) (.of (.cons .k0 (.cons .k0 .nil))) (.cons Mm.m0 .nil)
  · rw [if_neg (ne_true_of_eq_false c12)] at hc7
    refine .exit ?_
    refine .thx ?_
    cases hc7
    refine .told (γ := Unit) h hn8 (fun (s3 : Int × api_Wide) _ => [(5, N s3.1), (4, pt b2 0), (2, pt b1 0), (0, v00)]) (fun (s3 : Int × api_Wide) _ => [blk b2 27 (api_Wide.cs s3.2), blk b1 27 (api_Wide.cs ⟨0, 0, 0, 0⟩)]) (fun (s3 : Int × api_Wide) _ => [rows 1 v00 (a0.map (fun x => [N x]))]) () (.cons Mm.m0 (.cons Mm.m1 (.cons Mm.m2 (.cons Mm.m3 .nil)))) (.of (.cons .k0 (.cons .k0 .nil))) (.cons Mm.m0 .nil) (fun s3 _ h' => ?_)
    replace h := h'
    refine .thx ?_
    refine .inb ?_
    refine .then ?_
    refine .seq ?_
    refine .reg rfl ?_
    refine .op (V.ld (v := Ag (api_Wide.cs s3.2)) .t1 .k0 (.agg isAgg27 sizeOf27 rfl rfl)) rfl ?_
    refine .opg (G.str .t0 .g1 .k1 (.mk (cs' := (api_Wide.cs s3.2)) sizeOf27 rfl rfl rfl rfl)) rfl fun _ _ => ?_
    refine .opp (P.asg .k) rfl ?_
    refine .nil ?_
    refine .then ?_
    refine .ret ?_
    cases h
    exact .finw () (.r2 rfl (.cell .g2 .k0 (.agg isAgg27 sizeOf27 rfl rfl)) (.tmp .g0)) trivial (Ls.of .nil) .nil
attribute [irreducible] narrowsref01_Made
noncomputable def narrowsref01_Cmp (a0 : api_Wide) (a1 : api_Wide) : Option (Int) :=
  Option.bind (loopW (fun (s5 : Int) => if (decide (s5 ≥ 0)) = true then (Option.bind (at_ ((narrowsref01_Digits a0)) s5) fun (x18 : Int) => Option.bind (at_ ((narrowsref01_Digits a1)) s5) fun (x25 : Int) => if (decide (x18 < x25)) = true then (Option.map Ct.rt (some (-1))) else (Option.bind (at_ ((narrowsref01_Digits a0)) s5) fun (x35 : Int) => Option.bind (at_ ((narrowsref01_Digits a1)) s5) fun (x42 : Int) => if (decide (x35 > x42)) = true then (Option.map Ct.rt (some 1)) else (some (.nx (IntKind.i64.wrap (s5 - 1)))))) else (some (.br s5))) 15) fun o7 => Lo.on o7 fun (s5 : Int) => some 0
set_option maxRecDepth 20000 in
set_option maxHeartbeats 1000000 in
theorem S_narrowsref01_Cmp (a0 : api_Wide) (a1 : api_Wide) (r : Int) (h : narrowsref01_Cmp a0 a1 = some r) :
    SpecF Try.prog 40 [Ag (api_Wide.cs a0), Ag (api_Wide.cs a1)] [] [] (fun _ : Unit => True) (fun z => N r) (fun z M =>  M) (fun z M =>  M) := by
  refine .of func40 rfl ntmps40 rfl fun w0 D0 G0 => ?_
  unfold narrowsref01_Cmp at h
  refine .seq ?_
  refine .reg rfl ?_
  refine .opx (X.box (cs := (api_Wide.cs a0)) .t0 rfl) rfl fun b1 => ?_
  refine .opx (X.box (cs := (api_Wide.cs a1)) .t1 rfl) rfl fun b2 => ?_
  refine .op0 (OpP.toV (P.asg .k)) rfl ?_
  refine .nil ?_
  refine .then ?_
  refine .seq ?_
  refine .draw 6 (.on 0 .ld (.on 2 .ld (.on 1 .go (.on 3 .go (.on 4 .go (.on 5 .go .nl)))))) follows_mixed (.thn .body) (by kernel_rfl) ?_
  refine .dld rfl (.n rfl) (V.ld (v := Ag (api_Wide.cs a0)) .t1 .k1 (.agg isAgg27 sizeOf27 rfl rfl)) (fun _ h => h) rfl rfl ?_
  refine .dld rfl (.n rfl) (V.ld (v := Ag (api_Wide.cs a1)) .t1 .k0 (.agg isAgg27 sizeOf27 rfl rfl)) (fun _ h => h) rfl rfl ?_
  refine .dgo rfl (.n rfl) (G.call call66 (.cons .t1 .nil) (S_narrowsref01_Digits a0 _ rfl) .nil .nil (fun _ _ => rfl) (fun _ _ => rfl) rfl) (.inr fun _ _ _ h => (h.imp (Ls.of (.cons .k1 (.cons .k1 .nil)))).ro Rs.nil) fun u3 _ => ?_
  refine .dgo rfl (.n rfl) (G.call call66 (.cons .t1 .nil) (S_narrowsref01_Digits a1 _ rfl) .nil .nil (fun _ _ => rfl) (fun _ _ => rfl) rfl) (.inr fun _ _ _ h => (h.imp (Ls.of (.cons .k2 (.cons .k2 .nil)))).ro Rs.nil) fun u4 _ => ?_
  refine .dgo rfl (.n rfl) (OpV.g (OpP.toV (P.asg .t1)) rfl) (.inr fun _ _ _ h => (h.imp (Ls.of (.cons .k2 (.cons .k2 .nil)))).ro Rs.nil) fun _ _ => ?_
  refine .dgo rfl (.n rfl) (OpV.g (OpP.toV (P.asg .t1)) rfl) (.inr fun _ _ _ h => (h.imp (Ls.of (.cons .k2 (.cons .k2 .nil)))).ro Rs.nil) fun _ _ => ?_
  refine .dnil ?_
  refine .then ?_
  refine .seq ?_
  refine .seq ?_
  refine .reg rfl ?_
  refine .opp (P.asg .k) rfl ?_
  refine .nil ?_
  refine .then ?_
  refine .block ?_
  obtain ⟨o7, ho8, h⟩ := bnd_eq h
  refine .loopW (γ := Unit) (fun (s5 : Int) z6 => [(7, N s5), (6, u4), (5, u3)]) (fun (s5 : Int) z6 => [lst 3 1 u4 (((narrowsref01_Digits a1)).map (fun x => [N x])), lst 3 1 u3 (((narrowsref01_Digits a0)).map (fun x => [N x]))]) (fun (s5 : Int) z6 => []) () ho8 (.cons Mm.m0 (.cons Mm.m1 (.cons Mm.m2 .nil))) (.of (.cons .k0 (.cons .k0 .nil))) .nil (fun n13 s5 z6 hr11 => ?_)
  obtain ⟨ct12, hc9, hn10⟩ := loopK_at hr11
  refine .seq ?_
  refine .seq ?_
  refine .reg rfl ?_
  refine .opp (P.mov .g0) rfl ?_
  refine .opp (P.bin .t0 .k .geq) rfl ?_
  refine .nil ?_
  refine .then ?_
  refine .cond .t0 (fun c14 => ?_) (fun c14 => ?_)
  · rw [if_pos c14] at hc9
    refine .skip ?_
    refine .then ?_
    refine .seq ?_
    refine .block ?_
    refine .seq ?_
    refine .seq ?_
    refine .draw 9 (.on 0 .pu (.on 1 .pu (.on 2 .pu (.on 4 .pu (.on 5 .pu (.on 6 .pu (.on 3 .ld (.on 7 .ld (.on 8 .pu .nl))))))))) follows_mixed (.thn (.thn (.inb (.thn (.thn (.inb (.thn .body))))))) (by kernel_rfl) ?_
    refine .dpu rfl (.n rfl) (P.mov .g2) rfl rfl ?_
    refine .dpu rfl (.n rfl) (P.mov .g1) rfl rfl ?_
    obtain ⟨x18, hx19, hc9⟩ := bnd_eq hc9
    obtain ⟨i20, hi21, hx19⟩ := at_eq hx19
    have hi21_ : (s5).toNat = i20 := by rw [hi21]; rfl
    refine .ixql .k1 (map_get hx19) fun p15 q16 hq17 => ?_
    refine .dpu rfl (.n rfl) (P.ixi (i := i20) .t0 hi21 .t0 hq17 runUnderlying128 sizeOf3) rfl rfl ?_
    refine .dpu rfl (.n rfl) (P.mov .g2) rfl rfl ?_
    refine .dpu rfl (.n rfl) (P.mov .g2) rfl rfl ?_
    obtain ⟨x25, hx26, hc9⟩ := bnd_eq hc9
    obtain ⟨i27, hi28, hx26⟩ := at_eq hx26
    have hi28_ : (s5).toNat = i27 := by rw [hi28]; rfl
    refine .ixql .k0 (map_get hx26) fun p22 q23 hq24 => ?_
    refine .dpu rfl (.n rfl) (P.ixi (i := i27) .t0 hi28 .t0 hq24 runUnderlying128 sizeOf3) rfl rfl ?_
    refine .dld rfl (.n rfl) (V.ldxl0 (u := N x18) .t1 hq17 .k1 (map_get hx19) (.one isAgg3 rfl)) (fun _ h => h) rfl rfl ?_
    refine .dld rfl (.n rfl) (V.ldxl0 (u := N x25) .t1 hq24 .k0 (map_get hx26) (.one isAgg3 rfl)) (fun _ h => h) rfl rfl ?_
    refine .dpu rfl (.n rfl) (P.bin .t1 .t0 .lss) rfl rfl ?_
    refine .dnil ?_
    refine .then ?_
    refine .cond .t0 (fun c29 => ?_) (fun c29 => ?_)
    · rw [if_pos c29] at hc9
      refine .seq ?_
      refine .reg rfl ?_
      refine .opp (P.asg .k) rfl ?_
      refine .nil ?_
      refine .then ?_
      refine .ret ?_
      refine .thr ?_
      refine .inr ?_
      refine .thr ?_
      obtain ⟨x30, hx31, rfl⟩ := map_rt hc9
      obtain rfl := hn10
      obtain rfl := rt_on h
      refine .thr ?_
      refine .inr ?_
      refine .thr ?_
      cases hx31
      exact .finw () (.r1 rfl (.tmp .g0)) trivial (Ls.of .nil) .nil
    · rw [if_neg (ne_true_of_eq_false c29)] at hc9
      refine .skip ?_
      refine .then ?_
      refine .seq ?_
      refine .draw 9 (.on 0 .pu (.on 1 .pu (.on 2 .pu (.on 4 .pu (.on 5 .pu (.on 6 .pu (.on 3 .ld (.on 7 .ld (.on 8 .pu .nl))))))))) follows_mixed (.thn (.inb (.thn (.thn (.inb (.thn .body)))))) (by kernel_rfl) ?_
      refine .dpu rfl (.n rfl) (P.mov .g2) rfl rfl ?_
      refine .dpu rfl (.n rfl) (P.mov .g1) rfl rfl ?_
      obtain ⟨x35, hx36, hc9⟩ := bnd_eq hc9
      obtain ⟨i37, hi38, hx36⟩ := at_eq hx36
      have hi38_ : (s5).toNat = i37 := by rw [hi38]; rfl
      refine .ixql .k1 (map_get hx36) fun p32 q33 hq34 => ?_
      refine .dpu rfl (.n rfl) (P.ixi (i := i37) .t0 hi38 .t0 hq34 runUnderlying128 sizeOf3) rfl rfl ?_
      refine .dpu rfl (.n rfl) (P.mov .g2) rfl rfl ?_
      refine .dpu rfl (.n rfl) (P.mov .g2) rfl rfl ?_
      obtain ⟨x42, hx43, hc9⟩ := bnd_eq hc9
      obtain ⟨i44, hi45, hx43⟩ := at_eq hx43
      have hi45_ : (s5).toNat = i44 := by rw [hi45]; rfl
      refine .ixql .k0 (map_get hx43) fun p39 q40 hq41 => ?_
      refine .dpu rfl (.n rfl) (P.ixi (i := i44) .t0 hi45 .t0 hq41 runUnderlying128 sizeOf3) rfl rfl ?_
      refine .dld rfl (.n rfl) (V.ldxl0 (u := N x35) .t1 hq34 .k1 (map_get hx36) (.one isAgg3 rfl)) (fun _ h => h) rfl rfl ?_
      refine .dld rfl (.n rfl) (V.ldxl0 (u := N x42) .t1 hq41 .k0 (map_get hx43) (.one isAgg3 rfl)) (fun _ h => h) rfl rfl ?_
      refine .dpu rfl (.n rfl) (P.bin .t1 .t0 .gtr) rfl rfl ?_
      refine .dnil ?_
      refine .then ?_
      refine .cond .t0 (fun c46 => ?_) (fun c46 => ?_)
      · rw [if_pos c46] at hc9
        refine .seq ?_
        refine .reg rfl ?_
        refine .opp (P.asg .k) rfl ?_
        refine .nil ?_
        refine .then ?_
        refine .ret ?_
        refine .inr ?_
        refine .thr ?_
        obtain ⟨x47, hx48, rfl⟩ := map_rt hc9
        obtain rfl := hn10
        obtain rfl := rt_on h
        refine .thr ?_
        refine .inr ?_
        refine .thr ?_
        cases hx48
        exact .finw () (.r1 rfl (.tmp .g0)) trivial (Ls.of .nil) .nil
      · rw [if_neg (ne_true_of_eq_false c46)] at hc9
        refine .skip ?_
        refine .inn ?_
        refine .then ?_
        refine .reg rfl ?_
        refine .opp (P.mov .g0) rfl ?_
        refine .opp (P.bin .t0 .k .sub) rfl ?_
        refine .drop .k1 ?_
        refine .opp (P.asg .t0) rfl ?_
        refine .nil ?_
        cases hc9
        obtain ⟨m49, hm50, hn10⟩ := hn10
        exact .rdW (IntKind.i64.wrap (s5 - 1)) () hm50 hn10 (.cons Mm.m0 (.cons Mm.m1 (.cons Mm.m2 .nil))) (.of (.cons .k0 (.cons .k0 .nil))) .nil
  · rw [if_neg (ne_true_of_eq_false c14)] at hc9
    refine .exit ?_
    refine .thx ?_
    cases hc9
    refine .told (γ := Unit) h hn10 (fun (s5 : Int) _ => [(7, N s5), (6, u4), (5, u3)]) (fun (s5 : Int) _ => [lst 3 1 u4 (((narrowsref01_Digits a1)).map (fun x => [N x])), lst 3 1 u3 (((narrowsref01_Digits a0)).map (fun x => [N x]))]) (fun (s5 : Int) _ => []) () (.cons Mm.m0 (.cons Mm.m1 (.cons Mm.m2 .nil))) (.of (.cons .k0 (.cons .k0 .nil))) .nil (fun s5 _ h' => ?_)
    replace h := h'
    refine .thx ?_
    refine .inb ?_
    refine .then ?_
    refine .seq ?_
    refine .reg rfl ?_
    refine .opp (P.asg .k) rfl ?_
    refine .nil ?_
    refine .then ?_
    refine .ret ?_
    cases h
    exact .finw () (.r1 rfl (.tmp .g0)) trivial (Ls.of .nil) .nil
attribute [irreducible] narrowsref01_Cmp
noncomputable def narrowsref01_Add (a0 : api_Wide) (a1 : api_Wide) : Option (api_Wide × Bool) :=
  Option.bind (loopW (fun (s6 : Int × Int × (List Int)) => if (decide (s6.1 < 16)) = true then (Option.bind (at_ ((narrowsref01_Digits a0)) s6.1) fun (x19 : Int) => Option.bind (at_ ((narrowsref01_Digits a1)) s6.1) fun (x26 : Int) => grd ((s6.2.2.length + ([Int.tmod (IntKind.i64.wrap ((IntKind.i64.wrap (s6.2.1 + x19)) + x26)) 65536] : List Int).length) * 8 ≤ 140737488355328) <| some (.nx ((IntKind.i64.wrap (s6.1 + 1), IntKind.i64.wrap (Int.tdiv (IntKind.i64.wrap ((IntKind.i64.wrap (s6.2.1 + x19)) + x26)) 65536), (s6.2.2 ++ ([Int.tmod (IntKind.i64.wrap ((IntKind.i64.wrap (s6.2.1 + x19)) + x26)) 65536] : List Int)))))) else (some (.br (s6.1, s6.2.1, s6.2.2)))) (0, 0, [])) fun o8 => Lo.on o8 fun (s6 : Int × Int × (List Int)) => grd ((s6.2.2.length + ([s6.2.1] : List Int).length) * 8 ≤ 140737488355328) <| Option.bind (narrowsref01_Made ((s6.2.2 ++ ([s6.2.1] : List Int)))) fun r38 => some (r38.1, r38.2)
set_option maxRecDepth 20000 in
set_option maxHeartbeats 1000000 in
theorem S_narrowsref01_Add (a0 : api_Wide) (a1 : api_Wide) (r : api_Wide × Bool) (h : narrowsref01_Add a0 a1 = some r) :
    SpecF Try.prog 23 [Ag (api_Wide.cs a0), Ag (api_Wide.cs a1)] [] [] (fun _ : Unit => True) (fun z => Tu [Ag (api_Wide.cs r.1), Bo r.2]) (fun z M =>  M) (fun z M =>  M) := by
  refine .of func23 rfl ntmps23 rfl fun w0 D0 G0 => ?_
  unfold narrowsref01_Add at h
  refine .seq ?_
  refine .reg rfl ?_
  refine .opx (X.box (cs := (api_Wide.cs a0)) .t0 rfl) rfl fun b1 => ?_
  refine .opx (X.box (cs := (api_Wide.cs a1)) .t1 rfl) rfl fun b2 => ?_
  refine .opx (X.alc (cs := (api_Wide.cs ⟨0, 0, 0, 0⟩)) zeroValue27 rfl) rfl fun b3 => ?_
  refine .op0 (OpP.toV (P.asg .k)) rfl ?_
  refine .nil ?_
  refine .then ?_
  refine .seq ?_
  refine .draw 6 (.on 0 .ld (.on 2 .ld (.on 1 .go (.on 3 .go (.on 4 .go (.on 5 .go .nl)))))) follows_mixed (.thn .body) (by kernel_rfl) ?_
  refine .dld rfl (.n rfl) (V.ld (v := Ag (api_Wide.cs a0)) .t2 .k2 (.agg isAgg27 sizeOf27 rfl rfl)) (fun _ h => h) rfl rfl ?_
  refine .dld rfl (.n rfl) (V.ld (v := Ag (api_Wide.cs a1)) .t2 .k1 (.agg isAgg27 sizeOf27 rfl rfl)) (fun _ h => h) rfl rfl ?_
  refine .dgo rfl (.n rfl) (G.call call66 (.cons .t1 .nil) (S_narrowsref01_Digits a0 _ rfl) .nil .nil (fun _ _ => rfl) (fun _ _ => rfl) rfl) (.inr fun _ _ _ h => (h.imp (Ls.of (.cons .k1 (.cons .k1 (.cons .k1 .nil))))).ro Rs.nil) fun u4 _ => ?_
  refine .dgo rfl (.n rfl) (G.call call66 (.cons .t1 .nil) (S_narrowsref01_Digits a1 _ rfl) .nil .nil (fun _ _ => rfl) (fun _ _ => rfl) rfl) (.inr fun _ _ _ h => (h.imp (Ls.of (.cons .k2 (.cons .k2 (.cons .k2 .nil))))).ro Rs.nil) fun u5 _ => ?_
  refine .dgo rfl (.n rfl) (OpV.g (OpP.toV (P.asg .t1)) rfl) (.inr fun _ _ _ h => (h.imp (Ls.of (.cons .k2 (.cons .k2 (.cons .k2 .nil))))).ro Rs.nil) fun _ _ => ?_
  refine .dgo rfl (.n rfl) (OpV.g (OpP.toV (P.asg .t1)) rfl) (.inr fun _ _ _ h => (h.imp (Ls.of (.cons .k2 (.cons .k2 (.cons .k2 .nil))))).ro Rs.nil) fun _ _ => ?_
  refine .dnil ?_
  refine .then ?_
  refine .seq ?_
  refine .reg rfl ?_
  refine .opp (P.asg .k) rfl ?_
  refine .nil ?_
  refine .then ?_
  refine .seq ?_
  refine .reg rfl ?_
  refine .opp (P.asg .k) rfl ?_
  refine .nil ?_
  refine .then ?_
  refine .seq ?_
  refine .seq ?_
  refine .reg rfl ?_
  refine .opp (P.asg .k) rfl ?_
  refine .nil ?_
  refine .then ?_
  refine .block ?_
  refine .lnil 3 1 ?_
  obtain ⟨o8, ho9, h⟩ := bnd_eq h
  refine .loopW (γ := Value) (fun (s6 : Int × Int × (List Int)) z7 => [(10, N s6.1), (9, N s6.2.1), (8, z7), (7, u5), (6, u4), (4, pt b3 0)]) (fun (s6 : Int × Int × (List Int)) z7 => [blk b3 27 (api_Wide.cs ⟨0, 0, 0, 0⟩), lst 3 1 z7 (s6.2.2.map (fun x => [N x])), lst 3 1 u5 (((narrowsref01_Digits a1)).map (fun x => [N x])), lst 3 1 u4 (((narrowsref01_Digits a0)).map (fun x => [N x]))]) (fun (s6 : Int × Int × (List Int)) z7 => []) nilSl ho9 (.cons Mm.m0 (.cons Mm.m1 (.cons Mm.m2 (.cons Mm.m3 (.cons Mm.m4 (.cons Mm.m5 .nil)))))) (.of (.cons .k3 (.cons .k0 (.cons .k0 (.cons .k0 .nil))))) .nil (fun n14 s6 z7 hr12 => ?_)
  obtain ⟨ct13, hc10, hn11⟩ := loopK_at hr12
  refine .seq ?_
  refine .seq ?_
  refine .reg rfl ?_
  refine .opp (P.mov .g0) rfl ?_
  refine .opp (P.bin .t0 .k .lss) rfl ?_
  refine .nil ?_
  refine .then ?_
  refine .cond .t0 (fun c15 => ?_) (fun c15 => ?_)
  · rw [if_pos c15] at hc10
    refine .skip ?_
    refine .then ?_
    refine .seq ?_
    refine .block ?_
    refine .seq ?_
    refine .draw 12 (.on 0 .pu (.on 1 .pu (.on 2 .pu (.on 3 .pu (.on 6 .pu (.on 7 .pu (.on 8 .pu (.on 4 .ld (.on 5 .pu (.on 9 .ld (.on 10 .pu (.on 11 .go .nl)))))))))))) follows_mixed (.thn (.inb (.thn (.thn (.inb (.thn .body)))))) (by kernel_rfl) ?_
    refine .dpu rfl (.n rfl) (P.mov .g1) rfl rfl ?_
    refine .dpu rfl (.n rfl) (P.mov .g5) rfl rfl ?_
    refine .dpu rfl (.n rfl) (P.mov .g2) rfl rfl ?_
    obtain ⟨x19, hx20, hc10⟩ := bnd_eq hc10
    obtain ⟨i21, hi22, hx20⟩ := at_eq hx20
    have hi22_ : (s6.1).toNat = i21 := by rw [hi22]; rfl
    refine .ixql .k3 (map_get hx20) fun p16 q17 hq18 => ?_
    refine .dpu rfl (.n rfl) (P.ixi (i := i21) .t0 hi22 .t0 hq18 runUnderlying128 sizeOf3) rfl rfl ?_
    refine .dpu rfl (.n rfl) (P.mov .g5) rfl rfl ?_
    refine .dpu rfl (.n rfl) (P.mov .g3) rfl rfl ?_
    obtain ⟨x26, hx27, hc10⟩ := bnd_eq hc10
    obtain ⟨i28, hi29, hx27⟩ := at_eq hx27
    have hi29_ : (s6.1).toNat = i28 := by rw [hi29]; rfl
    refine .ixql .k2 (map_get hx27) fun p23 q24 hq25 => ?_
    refine .dpu rfl (.n rfl) (P.ixi (i := i28) .t0 hi29 .t0 hq25 runUnderlying128 sizeOf3) rfl rfl ?_
    refine .dld rfl (.n rfl) (V.ldxl0 (u := N x19) .t1 hq18 .k3 (map_get hx20) (.one isAgg3 rfl)) (fun _ h => h) rfl rfl ?_
    refine .dpu rfl (.n rfl) (P.bin .t2 .t0 .add) rfl rfl ?_
    refine .dld rfl (.n rfl) (V.ldxl0 (u := N x26) .t1 hq25 .k2 (map_get hx27) (.one isAgg3 rfl)) (fun _ h => h) rfl rfl ?_
    refine .dpu rfl (.n rfl) (P.bin .t1 .t0 .add) rfl rfl ?_
    refine .drop .k2 ?_
    refine .dgo rfl (.n rfl) (OpV.g (OpP.toV (P.asg .t0)) rfl) (.inr fun _ _ _ h => h) fun _ _ => ?_
    refine .dnil ?_
    refine .then ?_
    refine .seq ?_
    refine .reg rfl ?_
    refine .opp (P.mov .g2) rfl ?_
    refine .opp (P.mov .g1) rfl ?_
    refine .opp (P.bin .t0 .k (.rem (by decide))) rfl ?_
    refine .opg (G.bsl (cs := [N (Int.tmod (IntKind.i64.wrap ((IntKind.i64.wrap (s6.2.1 + x19)) + x26)) 65536)]) .t0 runUnderlying128 sizeOf3 zeroValue3 rfl rfl rfl rfl rfl) rfl fun u30 _ => ?_
    obtain ⟨hb32, hc10⟩ := grd_eq hc10
    refine .opg (G.app (by_ := 8) .t1 .t0 .k2 (.inr (.inr ⟨_, Mm.m0⟩)) runUnderlying128 runUnderlying128 sizeOf3 typeInfo3 rfl rfl zeroValue3 rfl rfl (by simpa using hb32) rfl) rfl fun u31 _ => ?_
    refine .conseq .k0 (q := lst 3 1 u31 (((s6.2.2 ++ ([Int.tmod (IntKind.i64.wrap ((IntKind.i64.wrap (s6.2.1 + x19)) + x26)) 65536] : List Int))).map (fun x => [N x]))) (fun _ hh => by simpa [List.map_append] using hh) ?_
    refine .drop .k3 ?_
    refine .opp (P.asg .t0) rfl ?_
    refine .nil ?_
    refine .then ?_
    refine .reg rfl ?_
    refine .opp (P.mov .g1) rfl ?_
    refine .opp (P.bin .t0 .k (.quo (by decide))) rfl ?_
    refine .drop .k2 ?_
    refine .opp (P.asg .t0) rfl ?_
    refine .nil ?_
    refine .inn ?_
    refine .then ?_
    refine .reg rfl ?_
    refine .opp (P.mov .g2) rfl ?_
    refine .opp (P.bin .t0 .k .add) rfl ?_
    refine .drop .k3 ?_
    refine .opp (P.asg .t0) rfl ?_
    refine .nil ?_
    cases hc10
    obtain ⟨m33, hm34, hn11⟩ := hn11
    exact .rdW ((IntKind.i64.wrap (s6.1 + 1), IntKind.i64.wrap (Int.tdiv (IntKind.i64.wrap ((IntKind.i64.wrap (s6.2.1 + x19)) + x26)) 65536), (s6.2.2 ++ ([Int.tmod (IntKind.i64.wrap ((IntKind.i64.wrap (s6.2.1 + x19)) + x26)) 65536] : List Int)))) u31 hm34 hn11 (.cons Mm.m0 (.cons Mm.m1 (.cons Mm.m2 (.cons Mm.m3 (.cons Mm.m4 (.cons Mm.m5 .nil)))))) (.of (.cons .k2 (.cons .k0 (.cons .k1 (.cons .k1 .nil))))) .nil
  · rw [if_neg (ne_true_of_eq_false c15)] at hc10
    refine .exit ?_
    refine .thx ?_
    cases hc10
    refine .told (γ := Value) h hn11 (fun (s6 : Int × Int × (List Int)) z7 => [(10, N s6.1), (9, N s6.2.1), (8, z7), (7, u5), (6, u4), (4, pt b3 0)]) (fun (s6 : Int × Int × (List Int)) z7 => [blk b3 27 (api_Wide.cs ⟨0, 0, 0, 0⟩), lst 3 1 z7 (s6.2.2.map (fun x => [N x])), lst 3 1 u5 (((narrowsref01_Digits a1)).map (fun x => [N x])), lst 3 1 u4 (((narrowsref01_Digits a0)).map (fun x => [N x]))]) (fun (s6 : Int × Int × (List Int)) z7 => []) z7 (.cons Mm.m0 (.cons Mm.m1 (.cons Mm.m2 (.cons Mm.m3 (.cons Mm.m4 (.cons Mm.m5 .nil)))))) (.of (.cons .k0 (.cons .k0 (.cons .k0 (.cons .k0 .nil))))) .nil (fun s6 z7 h' => ?_)
    replace h := h'
    refine .thx ?_
    refine .inb ?_
    refine .then ?_
    refine .seq ?_
    refine .reg rfl ?_
    refine .opp (P.mov .t2) rfl ?_
    refine .opp (P.mov .t2) rfl ?_
    refine .opg (G.bsl (cs := [N s6.2.1]) .t0 runUnderlying128 sizeOf3 zeroValue3 rfl rfl rfl rfl rfl) rfl fun u35 _ => ?_
    obtain ⟨hb37, h⟩ := grd_eq h
    refine .opg (G.app (by_ := 8) .t1 .t0 .k2 (.inr (.inr ⟨_, Mm.m0⟩)) runUnderlying128 runUnderlying128 sizeOf3 typeInfo3 rfl rfl zeroValue3 rfl rfl (by simpa using hb37) rfl) rfl fun u36 _ => ?_
    refine .conseq .k0 (q := lst 3 1 u36 (((s6.2.2 ++ ([s6.2.1] : List Int))).map (fun x => [N x]))) (fun _ hh => by simpa [List.map_append] using hh) ?_
    refine .frz .k0 ?_
    obtain ⟨r38, hr39, h⟩ := bnd_eq h
    refine .opg (G.call call67 (.cons .t0 .nil) (S_narrowsref01_Made u36 ((s6.2.2 ++ ([s6.2.1] : List Int))) r38 hr39) .nil (.cons Mm.m0 .nil) (fun _ _ => rfl) (fun _ _ => rfl) rfl) rfl fun _ _ => ?_
    refine .opp (P.ext (v := Ag (api_Wide.cs r38.1)) .g0 rfl) rfl ?_
    refine .opp (P.ext (v := Bo r38.2) .t1 rfl) rfl ?_
    refine .opg (G.str .t1 .g4 .k1 (.mk (cs' := (api_Wide.cs r38.1)) sizeOf27 rfl rfl rfl rfl)) rfl fun _ _ => ?_
    refine .opp (P.asg .t0) rfl ?_
    refine .nil ?_
    refine .then ?_
    refine .ret ?_
    cases h
    exact .finw () (.r2 rfl (.cell .g4 .k0 (.agg isAgg27 sizeOf27 rfl rfl)) (.tmp .g0)) trivial (Ls.of .nil) .nil
attribute [irreducible] narrowsref01_Add
noncomputable def narrowsref01_Sub (a0 : api_Wide) (a1 : api_Wide) : Option (api_Wide × Bool) :=
  Option.bind (narrowsref01_Cmp a0 a1) fun r4 => if (decide (r4 < 0)) = true then (some (⟨0, 0, 0, 0⟩, false)) else (Option.bind (loopW (fun (s9 : Int × Int × (List Int)) => if (decide (s9.1 < 16)) = true then (Option.bind (at_ ((narrowsref01_Digits a0)) s9.1) fun (x22 : Int) => Option.bind (at_ ((narrowsref01_Digits a1)) s9.1) fun (x29 : Int) => thn (if (decide ((IntKind.i64.wrap ((IntKind.i64.wrap (x22 - x29)) - s9.2.1)) < 0)) = true then ((1, IntKind.i64.wrap ((IntKind.i64.wrap ((IntKind.i64.wrap (x22 - x29)) - s9.2.1)) + 65536))) else ((0, IntKind.i64.wrap ((IntKind.i64.wrap (x22 - x29)) - s9.2.1)))) fun (y33 : Int × Int) => grd ((s9.2.2.length + ([y33.2] : List Int).length) * 8 ≤ 140737488355328) <| some (.nx ((IntKind.i64.wrap (s9.1 + 1), y33.1, (s9.2.2 ++ ([y33.2] : List Int)))))) else (some (.br (s9.1, s9.2.1, s9.2.2)))) (0, 0, [])) fun o11 => Lo.on o11 fun (s9 : Int × Int × (List Int)) => Option.bind (narrowsref01_Made s9.2.2) fun r42 => some (r42.1, r42.2))
set_option maxRecDepth 20000 in
set_option maxHeartbeats 1000000 in
theorem S_narrowsref01_Sub (a0 : api_Wide) (a1 : api_Wide) (r : api_Wide × Bool) (h : narrowsref01_Sub a0 a1 = some r) :
    SpecF Try.prog 25 [Ag (api_Wide.cs a0), Ag (api_Wide.cs a1)] [] [] (fun _ : Unit => True) (fun z => Tu [Ag (api_Wide.cs r.1), Bo r.2]) (fun z M =>  M) (fun z M =>  M) := by
  refine .of func25 rfl ntmps25 rfl fun w0 D0 G0 => ?_
  unfold narrowsref01_Sub at h
  refine .seq ?_
  refine .reg rfl ?_
  refine .opx (X.box (cs := (api_Wide.cs a0)) .t0 rfl) rfl fun b1 => ?_
  refine .opx (X.box (cs := (api_Wide.cs a1)) .t1 rfl) rfl fun b2 => ?_
  refine .opx (X.alc (cs := (api_Wide.cs ⟨0, 0, 0, 0⟩)) zeroValue27 rfl) rfl fun b3 => ?_
  refine .op0 (OpP.toV (P.asg .k)) rfl ?_
  refine .nil ?_
  refine .then ?_
  refine .seq ?_
  refine .seq ?_
  refine .reg rfl ?_
  refine .op (V.ld (v := Ag (api_Wide.cs a0)) .g2 .k2 (.agg isAgg27 sizeOf27 rfl rfl)) rfl ?_
  refine .op (V.ld (v := Ag (api_Wide.cs a1)) .g2 .k1 (.agg isAgg27 sizeOf27 rfl rfl)) rfl ?_
  obtain ⟨r4, hr5, h⟩ := bnd_eq h
  refine .opg (G.call call40 (.cons .t1 (.cons .t0 .nil)) (S_narrowsref01_Cmp a0 a1 r4 hr5) .nil .nil (fun _ _ => rfl) (fun _ _ => rfl) rfl) rfl fun _ _ => ?_
  refine .opp (P.bin .t0 .k .lss) rfl ?_
  refine .nil ?_
  refine .then ?_
  refine .cond .t0 (fun c6 => ?_) (fun c6 => ?_)
  · rw [if_pos c6] at h
    refine .seq ?_
    refine .reg rfl ?_
    refine .opp (P.bld (v := Ag (api_Wide.cs ⟨0, 0, 0, 0⟩)) .nil (bld_runA zeroValue27 runUnderlying27 sizeOf25 (by kernel_rfl))) rfl ?_
    refine .opg (G.str .t0 .g0 .k0 (.mk (cs' := (api_Wide.cs ⟨0, 0, 0, 0⟩)) sizeOf27 rfl rfl rfl rfl)) rfl fun _ _ => ?_
    refine .opp (P.asg .k) rfl ?_
    refine .nil ?_
    refine .then ?_
    refine .ret ?_
    refine .thr ?_
    cases h
    exact .finw () (.r2 rfl (.cell .g1 .k0 (.agg isAgg27 sizeOf27 rfl rfl)) (.tmp .g0)) trivial (Ls.of .nil) .nil
  · rw [if_neg (ne_true_of_eq_false c6)] at h
    refine .skip ?_
    refine .then ?_
    refine .seq ?_
    refine .draw 6 (.on 0 .ld (.on 2 .ld (.on 1 .go (.on 3 .go (.on 4 .go (.on 5 .go .nl)))))) follows_mixed (.thn .body) (by kernel_rfl) ?_
    refine .dld rfl (.n rfl) (V.ld (v := Ag (api_Wide.cs a0)) .t2 .k2 (.agg isAgg27 sizeOf27 rfl rfl)) (fun _ h => h) rfl rfl ?_
    refine .dld rfl (.n rfl) (V.ld (v := Ag (api_Wide.cs a1)) .t2 .k1 (.agg isAgg27 sizeOf27 rfl rfl)) (fun _ h => h) rfl rfl ?_
    refine .dgo rfl (.n rfl) (G.call call66 (.cons .t1 .nil) (S_narrowsref01_Digits a0 _ rfl) .nil .nil (fun _ _ => rfl) (fun _ _ => rfl) rfl) (.inr fun _ _ _ h => (h.imp (Ls.of (.cons .k1 (.cons .k1 (.cons .k1 .nil))))).ro Rs.nil) fun u7 _ => ?_
    refine .dgo rfl (.n rfl) (G.call call66 (.cons .t1 .nil) (S_narrowsref01_Digits a1 _ rfl) .nil .nil (fun _ _ => rfl) (fun _ _ => rfl) rfl) (.inr fun _ _ _ h => (h.imp (Ls.of (.cons .k2 (.cons .k2 (.cons .k2 .nil))))).ro Rs.nil) fun u8 _ => ?_
    refine .dgo rfl (.n rfl) (OpV.g (OpP.toV (P.asg .t1)) rfl) (.inr fun _ _ _ h => (h.imp (Ls.of (.cons .k2 (.cons .k2 (.cons .k2 .nil))))).ro Rs.nil) fun _ _ => ?_
    refine .dgo rfl (.n rfl) (OpV.g (OpP.toV (P.asg .t1)) rfl) (.inr fun _ _ _ h => (h.imp (Ls.of (.cons .k2 (.cons .k2 (.cons .k2 .nil))))).ro Rs.nil) fun _ _ => ?_
    refine .dnil ?_
    refine .then ?_
    refine .seq ?_
    refine .reg rfl ?_
    refine .opp (P.asg .k) rfl ?_
    refine .nil ?_
    refine .then ?_
    refine .seq ?_
    refine .reg rfl ?_
    refine .opp (P.asg .k) rfl ?_
    refine .nil ?_
    refine .then ?_
    refine .seq ?_
    refine .seq ?_
    refine .reg rfl ?_
    refine .opp (P.asg .k) rfl ?_
    refine .nil ?_
    refine .then ?_
    refine .block ?_
    refine .lnil 3 1 ?_
    obtain ⟨o11, ho12, h⟩ := bnd_eq h
    refine .loopW (γ := Value) (fun (s9 : Int × Int × (List Int)) z10 => [(10, N s9.1), (9, N s9.2.1), (8, z10), (7, u8), (6, u7), (4, pt b3 0)]) (fun (s9 : Int × Int × (List Int)) z10 => [blk b3 27 (api_Wide.cs ⟨0, 0, 0, 0⟩), lst 3 1 z10 (s9.2.2.map (fun x => [N x])), lst 3 1 u8 (((narrowsref01_Digits a1)).map (fun x => [N x])), lst 3 1 u7 (((narrowsref01_Digits a0)).map (fun x => [N x]))]) (fun (s9 : Int × Int × (List Int)) z10 => []) nilSl ho12 (.cons Mm.m0 (.cons Mm.m1 (.cons Mm.m2 (.cons Mm.m3 (.cons Mm.m4 (.cons Mm.m5 .nil)))))) (.of (.cons .k3 (.cons .k0 (.cons .k0 (.cons .k0 .nil))))) .nil (fun n17 s9 z10 hr15 => ?_)
    obtain ⟨ct16, hc13, hn14⟩ := loopK_at hr15
    refine .seq ?_
    refine .seq ?_
    refine .reg rfl ?_
    refine .opp (P.mov .g0) rfl ?_
    refine .opp (P.bin .t0 .k .lss) rfl ?_
    refine .nil ?_
    refine .then ?_
    refine .cond .t0 (fun c18 => ?_) (fun c18 => ?_)
    · rw [if_pos c18] at hc13
      refine .skip ?_
      refine .then ?_
      refine .seq ?_
      refine .block ?_
      refine .seq ?_
      refine .draw 12 (.on 0 .pu (.on 1 .pu (.on 2 .pu (.on 4 .pu (.on 5 .pu (.on 6 .pu (.on 9 .pu (.on 3 .ld (.on 7 .ld (.on 8 .pu (.on 10 .pu (.on 11 .go .nl)))))))))))) follows_mixed (.thn (.inb (.thn (.thn (.inb (.thn .body)))))) (by kernel_rfl) ?_
      refine .dpu rfl (.n rfl) (P.mov .g4) rfl rfl ?_
      refine .dpu rfl (.n rfl) (P.mov .g1) rfl rfl ?_
      obtain ⟨x22, hx23, hc13⟩ := bnd_eq hc13
      obtain ⟨i24, hi25, hx23⟩ := at_eq hx23
      have hi25_ : (s9.1).toNat = i24 := by rw [hi25]; rfl
      refine .ixql .k3 (map_get hx23) fun p19 q20 hq21 => ?_
      refine .dpu rfl (.n rfl) (P.ixi (i := i24) .t0 hi25 .t0 hq21 runUnderlying128 sizeOf3) rfl rfl ?_
      refine .dpu rfl (.n rfl) (P.mov .g4) rfl rfl ?_
      refine .dpu rfl (.n rfl) (P.mov .g2) rfl rfl ?_
      obtain ⟨x29, hx30, hc13⟩ := bnd_eq hc13
      obtain ⟨i31, hi32, hx30⟩ := at_eq hx30
      have hi32_ : (s9.1).toNat = i31 := by rw [hi32]; rfl
      refine .ixql .k2 (map_get hx30) fun p26 q27 hq28 => ?_
      refine .dpu rfl (.n rfl) (P.ixi (i := i31) .t0 hi32 .t0 hq28 runUnderlying128 sizeOf3) rfl rfl ?_
      refine .dpu rfl (.n rfl) (P.mov .t3) rfl rfl ?_
      refine .dld rfl (.n rfl) (V.ldxl0 (u := N x22) .t2 hq21 .k3 (map_get hx23) (.one isAgg3 rfl)) (fun _ h => h) rfl rfl ?_
      refine .dld rfl (.n rfl) (V.ldxl0 (u := N x29) .t2 hq28 .k2 (map_get hx30) (.one isAgg3 rfl)) (fun _ h => h) rfl rfl ?_
      refine .dpu rfl (.n rfl) (P.bin .t1 .t0 .sub) rfl rfl ?_
      refine .dpu rfl (.n rfl) (P.bin .t0 .t0 .sub) rfl rfl ?_
      refine .dgo rfl (.n rfl) (OpV.g (OpP.toV (P.asg .t0)) rfl) (.inr fun _ _ _ h => h) fun _ _ => ?_
      refine .dnil ?_
      refine .then ?_
      refine .seq ?_
      refine .reg rfl ?_
      refine .opp (P.asg .k) rfl ?_
      refine .nil ?_
      refine .then ?_
      obtain ⟨y33, hj35, hc13⟩ := thn_eq hc13
      refine .cutx (γ := Unit) (E1 := fun z34 => [(9, N y33.1), (11, N y33.2), (10, N s9.1), (8, z10), (7, u8), (6, u7), (4, pt b3 0)]) (L1 := fun z34 => [blk b3 27 (api_Wide.cs ⟨0, 0, 0, 0⟩), lst 3 1 z10 (s9.2.2.map (fun x => [N x])), lst 3 1 u8 (((narrowsref01_Digits a1)).map (fun x => [N x])), lst 3 1 u7 (((narrowsref01_Digits a0)).map (fun x => [N x]))]) (R1 := fun z34 => []) ?_ (fun z34 => ?_)
      · clear hc13
        refine .seq ?_
        refine .reg rfl ?_
        refine .opp (P.mov .g1) rfl ?_
        refine .opp (P.bin .t0 .k .lss) rfl ?_
        refine .nil ?_
        refine .then ?_
        refine .cond .t0 (fun c36 => ?_) (fun c36 => ?_)
        · rw [if_pos c36] at hj35
          refine .reg rfl ?_
          refine .opp (P.mov .g1) rfl ?_
          refine .opp (P.bin .t0 .k .add) rfl ?_
          refine .drop .k2 ?_
          refine .opp (P.asg .t0) rfl ?_
          refine .drop .k1 ?_
          refine .opp (P.asg .k) rfl ?_
          refine .nil ?_
          subst hj35
          exact .stj () (.cons Mm.m0 (.cons Mm.m1 (.cons Mm.m2 (.cons Mm.m3 (.cons Mm.m4 (.cons Mm.m5 (.cons Mm.m6 .nil))))))) (.of (.cons .k0 (.cons .k0 (.cons .k0 (.cons .k0 .nil))))) .nil
        · rw [if_neg (ne_true_of_eq_false c36)] at hj35
          refine .skip ?_
          subst hj35
          exact .stj () (.cons Mm.m0 (.cons Mm.m1 (.cons Mm.m2 (.cons Mm.m3 (.cons Mm.m4 (.cons Mm.m5 (.cons Mm.m6 .nil))))))) (.of (.cons .k0 (.cons .k0 (.cons .k0 (.cons .k0 .nil))))) .nil
      · clear hj35
        refine .reg rfl ?_
        refine .opp (P.mov .g3) rfl ?_
        refine .opp (P.mov .t2) rfl ?_
        refine .opg (G.bsl (cs := [N y33.2]) .t0 runUnderlying128 sizeOf3 zeroValue3 rfl rfl rfl rfl rfl) rfl fun u37 _ => ?_
        obtain ⟨hb39, hc13⟩ := grd_eq hc13
        refine .opg (G.app (by_ := 8) .t1 .t0 .k2 (.inr (.inr ⟨_, Mm.m0⟩)) runUnderlying128 runUnderlying128 sizeOf3 typeInfo3 rfl rfl zeroValue3 rfl rfl (by simpa using hb39) rfl) rfl fun u38 _ => ?_
        refine .conseq .k0 (q := lst 3 1 u38 (((s9.2.2 ++ ([y33.2] : List Int))).map (fun x => [N x]))) (fun _ hh => by simpa [List.map_append] using hh) ?_
        refine .drop .k3 ?_
        refine .opp (P.asg .t0) rfl ?_
        refine .nil ?_
        refine .inn ?_
        refine .then ?_
        refine .reg rfl ?_
        refine .opp (P.mov .g2) rfl ?_
        refine .opp (P.bin .t0 .k .add) rfl ?_
        refine .drop .k3 ?_
        refine .opp (P.asg .t0) rfl ?_
        refine .nil ?_
        cases hc13
        obtain ⟨m40, hm41, hn14⟩ := hn14
        exact .rdW ((IntKind.i64.wrap (s9.1 + 1), y33.1, (s9.2.2 ++ ([y33.2] : List Int)))) u38 hm41 hn14 (.cons Mm.m0 (.cons Mm.m2 (.cons Mm.m1 (.cons Mm.m3 (.cons Mm.m4 (.cons Mm.m5 .nil)))))) (.of (.cons .k2 (.cons .k0 (.cons .k1 (.cons .k1 .nil))))) .nil
    · rw [if_neg (ne_true_of_eq_false c18)] at hc13
      refine .exit ?_
      refine .thx ?_
      cases hc13
      refine .told (γ := Value) h hn14 (fun (s9 : Int × Int × (List Int)) z10 => [(10, N s9.1), (9, N s9.2.1), (8, z10), (7, u8), (6, u7), (4, pt b3 0)]) (fun (s9 : Int × Int × (List Int)) z10 => [blk b3 27 (api_Wide.cs ⟨0, 0, 0, 0⟩), lst 3 1 z10 (s9.2.2.map (fun x => [N x])), lst 3 1 u8 (((narrowsref01_Digits a1)).map (fun x => [N x])), lst 3 1 u7 (((narrowsref01_Digits a0)).map (fun x => [N x]))]) (fun (s9 : Int × Int × (List Int)) z10 => []) z10 (.cons Mm.m0 (.cons Mm.m1 (.cons Mm.m2 (.cons Mm.m3 (.cons Mm.m4 (.cons Mm.m5 .nil)))))) (.of (.cons .k0 (.cons .k0 (.cons .k0 (.cons .k0 .nil))))) .nil (fun s9 z10 h' => ?_)
      replace h := h'
      refine .thx ?_
      refine .inb ?_
      refine .then ?_
      refine .seq ?_
      refine .reg rfl ?_
      refine .opp (P.mov .t2) rfl ?_
      refine .frz .k1 ?_
      obtain ⟨r42, hr43, h⟩ := bnd_eq h
      refine .opg (G.call call67 (.cons .t0 .nil) (S_narrowsref01_Made z10 s9.2.2 r42 hr43) .nil (.cons Mm.m0 .nil) (fun _ _ => rfl) (fun _ _ => rfl) rfl) rfl fun _ _ => ?_
      refine .opp (P.ext (v := Ag (api_Wide.cs r42.1)) .g0 rfl) rfl ?_
      refine .opp (P.ext (v := Bo r42.2) .t1 rfl) rfl ?_
      refine .opg (G.str .t1 .g5 .k0 (.mk (cs' := (api_Wide.cs r42.1)) sizeOf27 rfl rfl rfl rfl)) rfl fun _ _ => ?_
      refine .opp (P.asg .t0) rfl ?_
      refine .nil ?_
      refine .then ?_
      refine .ret ?_
      cases h
      exact .finw () (.r2 rfl (.cell .g5 .k0 (.agg isAgg27 sizeOf27 rfl rfl)) (.tmp .g0)) trivial (Ls.of .nil) .nil
attribute [irreducible] narrowsref01_Sub
end Go.Sl
