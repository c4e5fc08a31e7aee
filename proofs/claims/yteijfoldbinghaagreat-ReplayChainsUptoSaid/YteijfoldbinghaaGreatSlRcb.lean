/- Walked code of the program, its pure functions and their contracts. -/
import Derived.Test.YteijfoldbinghaaGreatSlRca
set_option linter.unusedVariables false
set_option linter.unusedSimpArgs false
namespace Go.Sl
open Go.Proofs Go.Proofs.Tryz
structure escrow_must where
  e_ : Int
  deriving DecidableEq
def escrow_must.cs (x : escrow_must) : List Value := [N x.e_]
def escrow_must.z : escrow_must := ⟨0⟩
structure field_Out where
  b : List UInt8
  e_ : Int
  made : Bool
  deriving DecidableEq
def field_Out.cs (x : field_Out) (z0 : Value) : List Value := [z0, N x.e_, .bool x.made]
def field_Out.g (x : field_Out) (z : Value) : Asn := rows 1 z (x.b.map (fun x => [B8 x]))
def field_Out.z : field_Out := ⟨[], 0, false⟩
theorem fa_45_3 : FaV Tryz.prog 45 3 66 := .mk runUnderlying45 rfl sizeOf41 rfl rfl
theorem fa_45_5 : FaV Tryz.prog 45 5 138 := .mk runUnderlying45 rfl sizeOf39 rfl rfl
theorem fa_45_6 : FaV Tryz.prog 45 6 146 := .mk runUnderlying45 rfl sizeOf30 rfl rfl
theorem fa_111_0 : FaV Tryz.prog 111 0 0 := .mk runUnderlying111 rfl sizeOf63 rfl rfl
theorem fa_143_0 : FaV Tryz.prog 143 0 0 := .mk runUnderlying143 rfl sizeOf131 rfl rfl
theorem fa_143_1 : FaV Tryz.prog 143 1 1 := .mk runUnderlying143 rfl sizeOf63 rfl rfl
theorem fa_143_2 : FaV Tryz.prog 143 2 2 := .mk runUnderlying143 rfl sizeOf4 rfl rfl
theorem fn_55 : Extern.findNext f55 = none := by kernel_rfl
theorem find_55 : Extern.find f55 = some add64Entry := by kernel_rfl
theorem pl_111 : ∀ w, ((#[{ name := "e", type := 63, offset := 0, embedded := false, tag := "", pkgPath := "narrows/escrow", byteOffset := 0 }] : Array Field).mapM fun f => do pure (f.offset, ← sizeOf f.type) : Sem (Array (Nat × Nat))).run Tryz.prog w = .ok #[(0, 1)] w := fun w => by simp [sizeOf63]
theorem pl_143 : ∀ w, ((#[{ name := "b", type := 131, offset := 0, embedded := false, tag := "", pkgPath := "narrows/field", byteOffset := 0 }, { name := "e", type := 63, offset := 1, embedded := false, tag := "", pkgPath := "narrows/field", byteOffset := 24 }, { name := "made", type := 4, offset := 2, embedded := false, tag := "", pkgPath := "narrows/field", byteOffset := 32 }] : Array Field).mapM fun f => do pure (f.offset, ← sizeOf f.type) : Sem (Array (Nat × Nat))).run Tryz.prog w = .ok #[(0, 1), (1, 1), (2, 1)] w := fun w => by simp [sizeOf4, sizeOf63, sizeOf131]
theorem one_5 (x : UInt8) : oneAll ((fun x => [B8 x]) x) = true := rfl
noncomputable def wide_Add (a0 : api_Wide) (a1 : api_Wide) : api_Wide × Bool :=
  if (decide ((add64 a0.a3 a1.a3 (add64 a0.a2 a1.a2 (add64 a0.a1 a1.a1 (add64 a0.a0 a1.a0 0).2).2).2).2 ≠ 0)) = true then (⟨0, 0, 0, 0⟩, false) else ((⟨(add64 a0.a0 a1.a0 0).1, (add64 a0.a1 a1.a1 (add64 a0.a0 a1.a0 0).2).1, (add64 a0.a2 a1.a2 (add64 a0.a1 a1.a1 (add64 a0.a0 a1.a0 0).2).2).1, (add64 a0.a3 a1.a3 (add64 a0.a2 a1.a2 (add64 a0.a1 a1.a1 (add64 a0.a0 a1.a0 0).2).2).2).1⟩, true))
set_option maxRecDepth 20000 in
set_option maxHeartbeats 1000000 in
theorem S_wide_Add (a0 : api_Wide) (a1 : api_Wide) (r : api_Wide × Bool) (h : wide_Add a0 a1 = r) :
    SpecF Tryz.prog 47 [Ag (api_Wide.cs a0), Ag (api_Wide.cs a1)] [] [] (fun z : Unit => True) (fun z => Tu [Ag (api_Wide.cs r.1), Bo r.2]) (fun z M =>  M) (fun z M =>  M) := by
  refine .of func47 rfl ntmps47 rfl fun w0 D0 G0 => ?_
  unfold wide_Add at h
  refine .seq ?_
  refine .reg rfl ?_
  refine .opx (X.box (cs := (api_Wide.cs a0)) .t0 rfl) rfl fun b1 => ?_
  refine .opx (X.box (cs := (api_Wide.cs a1)) .t1 rfl) rfl fun b2 => ?_
  refine .opx (X.alc (cs := (api_Wide.cs ⟨0, 0, 0, 0⟩)) zeroValue30 rfl) rfl fun b3 => ?_
  refine .op0 (OpP.toV (P.asg .k)) rfl ?_
  refine .nil ?_
  refine .then ?_
  refine .seq ?_
  refine .reg rfl ?_
  refine .opx (X.alc (cs := (api_Wide.cs ⟨0, 0, 0, 0⟩)) zeroValue30 rfl) rfl fun b4 => ?_
  refine .nil ?_
  refine .then ?_
  refine .seq ?_
  refine .reg rfl ?_
  refine .opp (P.asg .k) rfl ?_
  refine .nil ?_
  refine .then ?_
  refine .seq ?_
  refine .seq ?_
  refine .reg rfl ?_
  refine .opp (P.mov .k) rfl ?_
  refine .nil ?_
  refine .then ?_
  refine .block ?_
  refine .rounds 5 ?_
  refine .rd ?_
  refine .seq ?_
  refine .reg rfl ?_
  refine .opp (P.bin (v := Bo true) .g0 .k (BinV.lss.boolc (by decide))) rfl ?_
  refine .nil ?_
  refine .then ?_
  refine .seq ?_
  refine .condT .t0 ?_
  refine .skip ?_
  refine .then ?_
  refine .seq ?_
  refine .block ?_
  refine .seq ?_
  refine .reg rfl ?_
  refine .opp (P.mov .g0) rfl ?_
  refine .opp (P.asg .t0) rfl ?_
  refine .nil ?_
  refine .then ?_
  refine .drawl [blk b3 30 (api_Wide.cs ⟨0, 0, 0, 0⟩), blk b2 30 (api_Wide.cs a1), blk b1 30 (api_Wide.cs a0)] [] (Ls.of (.cons .k1 (.cons .k1 (.cons .k1 .nil)))) Rs.nil 15 (.on 0 .pu (.on 1 .pu (.on 2 .pu (.on 4 .pu (.on 5 .pu (.on 7 .pu (.on 3 .ld (.on 6 .ld (.on 8 .pu (.on 9 .pu (.on 10 .pu (.on 11 .pu (.on 12 .pu (.on 13 .go (.on 14 .go .nl))))))))))))))) follows_mixed (.inb (.thn (.thn (.inb (.thn .body))))) (by kernel_rfl) ?_
  refine .dpu rfl (.n rfl) (P.mov .g0) rfl rfl ?_
  refine .dpu rfl (.n rfl) (P.mov .g1) rfl rfl ?_
  refine .dpu rfl (.n rfl) (P.iac (i := 0) .t0 rfl .g7 runUnderlying30 sizeOf28 rfl rfl) rfl rfl ?_
  refine .dpu rfl (.n rfl) (P.mov .t2) rfl rfl ?_
  refine .dpu rfl (.n rfl) (P.iac (i := 0) .t0 rfl .g6 runUnderlying30 sizeOf28 rfl rfl) rfl rfl ?_
  refine .dpu rfl (.n rfl) (P.mov .g4) rfl rfl ?_
  refine .dld rfl (.n rfl) (V.ld (v := U a0.a0) .t2 .k2 (.one isAgg28 rfl)) (fun _ h => (h.imp (Ls.of (.cons .k1 (.cons .k1 (.cons .k1 .nil))))).ro Rs.nil) rfl rfl ?_
  refine .dld rfl (.n rfl) (V.ld (v := U a1.a0) .t2 .k1 (.one isAgg28 rfl)) (fun _ h => (h.imp (Ls.of (.cons .k1 (.cons .k1 (.cons .k1 .nil))))).ro Rs.nil) rfl rfl ?_
  refine .dpu rfl (.n rfl) (P.extn (.cons .t1 (.cons .t0 (.cons .t0 .nil))) func55 rfl rfl fn_55 find_55 (run_add64u _ _ 0 zero_le1)) rfl rfl ?_
  refine .dpu rfl (.n rfl) (P.mov .t0) rfl rfl ?_
  refine .dpu rfl (.n rfl) (P.ext (v := U (add64 a0.a0 a1.a0 0).1) .g0 rfl) rfl rfl ?_
  refine .dpu rfl (.n rfl) (P.ext (v := U (add64 a0.a0 a1.a0 0).2) .t1 rfl) rfl rfl ?_
  refine .dpu rfl (.n rfl) (P.iac (i := 0) .t2 rfl .g4 runUnderlying30 sizeOf28 rfl rfl) rfl rfl ?_
  refine .dgo rfl (.n rfl) (G.str .t2 .t0 .k0 (.mk (cs' := (api_Wide.cs ⟨(add64 a0.a0 a1.a0 0).1, 0, 0, 0⟩)) sizeOf28 rfl rfl rfl rfl)) (.inr fun _ _ _ h => (h.imp (Ls.of (.cons .k1 (.cons .k1 (.cons .k1 .nil))))).ro Rs.nil) fun _ _ => ?_
  refine .drop .k2 ?_
  refine .dgo rfl (.n rfl) (OpV.g (OpP.toV (P.asg .t0)) rfl) (.inr fun _ _ _ h => (h.imp (Ls.of (.cons .k1 (.cons .k1 (.cons .k1 .nil))))).ro Rs.nil) fun _ _ => ?_
  refine .dnil ?_
  refine .inn ?_
  refine .then ?_
  refine .reg rfl ?_
  refine .opp (P.bin (v := N 1) .g1 .k (.addc (by decide))) rfl ?_
  refine .drop .k2 ?_
  refine .opp (P.mov .t0) rfl ?_
  refine .nil ?_
  refine .then ?_
  refine .rd ?_
  refine .seq ?_
  refine .reg rfl ?_
  refine .opp (P.bin (v := Bo true) .g0 .k (BinV.lss.boolc (by decide))) rfl ?_
  refine .nil ?_
  refine .then ?_
  refine .seq ?_
  refine .condT .t0 ?_
  refine .skip ?_
  refine .then ?_
  refine .seq ?_
  refine .block ?_
  refine .seq ?_
  refine .reg rfl ?_
  refine .opp (P.mov .g0) rfl ?_
  refine .opp (P.asg .t0) rfl ?_
  refine .nil ?_
  refine .then ?_
  refine .drawl [blk b3 30 (api_Wide.cs ⟨0, 0, 0, 0⟩), blk b2 30 (api_Wide.cs a1), blk b1 30 (api_Wide.cs a0)] [] (Ls.of (.cons .k1 (.cons .k1 (.cons .k1 .nil)))) Rs.nil 15 (.on 0 .pu (.on 1 .pu (.on 2 .pu (.on 4 .pu (.on 5 .pu (.on 7 .pu (.on 3 .ld (.on 6 .ld (.on 8 .pu (.on 9 .pu (.on 10 .pu (.on 11 .pu (.on 12 .pu (.on 13 .go (.on 14 .go .nl))))))))))))))) follows_mixed (.inb (.thn (.thn (.inb (.thn .body))))) (by kernel_rfl) ?_
  refine .dpu rfl (.n rfl) (P.mov .g0) rfl rfl ?_
  refine .dpu rfl (.n rfl) (P.mov .g1) rfl rfl ?_
  refine .dpu rfl (.n rfl) (P.iac (i := 1) .t0 rfl .g7 runUnderlying30 sizeOf28 rfl rfl) rfl rfl ?_
  refine .dpu rfl (.n rfl) (P.mov .t2) rfl rfl ?_
  refine .dpu rfl (.n rfl) (P.iac (i := 1) .t0 rfl .g6 runUnderlying30 sizeOf28 rfl rfl) rfl rfl ?_
  refine .dpu rfl (.n rfl) (P.mov .g4) rfl rfl ?_
  refine .dld rfl (.n rfl) (V.ld (v := U a0.a1) .t2 .k2 (.one isAgg28 rfl)) (fun _ h => (h.imp (Ls.of (.cons .k1 (.cons .k1 (.cons .k1 .nil))))).ro Rs.nil) rfl rfl ?_
  refine .dld rfl (.n rfl) (V.ld (v := U a1.a1) .t2 .k1 (.one isAgg28 rfl)) (fun _ h => (h.imp (Ls.of (.cons .k1 (.cons .k1 (.cons .k1 .nil))))).ro Rs.nil) rfl rfl ?_
  refine .dpu rfl (.n rfl) (P.extn (.cons .t1 (.cons .t0 (.cons .t0 .nil))) func55 rfl rfl fn_55 find_55 (run_add64u _ _ _ add64_le)) rfl rfl ?_
  refine .dpu rfl (.n rfl) (P.mov .t0) rfl rfl ?_
  refine .dpu rfl (.n rfl) (P.ext (v := U (add64 a0.a1 a1.a1 (add64 a0.a0 a1.a0 0).2).1) .g0 rfl) rfl rfl ?_
  refine .dpu rfl (.n rfl) (P.ext (v := U (add64 a0.a1 a1.a1 (add64 a0.a0 a1.a0 0).2).2) .t1 rfl) rfl rfl ?_
  refine .dpu rfl (.n rfl) (P.iac (i := 1) .t2 rfl .g4 runUnderlying30 sizeOf28 rfl rfl) rfl rfl ?_
  refine .dgo rfl (.n rfl) (G.str .t2 .t0 .k0 (.mk (cs' := (api_Wide.cs ⟨(add64 a0.a0 a1.a0 0).1, (add64 a0.a1 a1.a1 (add64 a0.a0 a1.a0 0).2).1, 0, 0⟩)) sizeOf28 rfl rfl rfl rfl)) (.inr fun _ _ _ h => (h.imp (Ls.of (.cons .k1 (.cons .k1 (.cons .k1 .nil))))).ro Rs.nil) fun _ _ => ?_
  refine .drop .k2 ?_
  refine .dgo rfl (.n rfl) (OpV.g (OpP.toV (P.asg .t0)) rfl) (.inr fun _ _ _ h => (h.imp (Ls.of (.cons .k1 (.cons .k1 (.cons .k1 .nil))))).ro Rs.nil) fun _ _ => ?_
  refine .dnil ?_
  refine .inn ?_
  refine .then ?_
  refine .reg rfl ?_
  refine .opp (P.bin (v := N 2) .g1 .k (.addc (by decide))) rfl ?_
  refine .drop .k2 ?_
  refine .opp (P.mov .t0) rfl ?_
  refine .nil ?_
  refine .then ?_
  refine .rd ?_
  refine .seq ?_
  refine .reg rfl ?_
  refine .opp (P.bin (v := Bo true) .g0 .k (BinV.lss.boolc (by decide))) rfl ?_
  refine .nil ?_
  refine .then ?_
  refine .seq ?_
  refine .condT .t0 ?_
  refine .skip ?_
  refine .then ?_
  refine .seq ?_
  refine .block ?_
  refine .seq ?_
  refine .reg rfl ?_
  refine .opp (P.mov .g0) rfl ?_
  refine .opp (P.asg .t0) rfl ?_
  refine .nil ?_
  refine .then ?_
  refine .drawl [blk b3 30 (api_Wide.cs ⟨0, 0, 0, 0⟩), blk b2 30 (api_Wide.cs a1), blk b1 30 (api_Wide.cs a0)] [] (Ls.of (.cons .k1 (.cons .k1 (.cons .k1 .nil)))) Rs.nil 15 (.on 0 .pu (.on 1 .pu (.on 2 .pu (.on 4 .pu (.on 5 .pu (.on 7 .pu (.on 3 .ld (.on 6 .ld (.on 8 .pu (.on 9 .pu (.on 10 .pu (.on 11 .pu (.on 12 .pu (.on 13 .go (.on 14 .go .nl))))))))))))))) follows_mixed (.inb (.thn (.thn (.inb (.thn .body))))) (by kernel_rfl) ?_
  refine .dpu rfl (.n rfl) (P.mov .g0) rfl rfl ?_
  refine .dpu rfl (.n rfl) (P.mov .g1) rfl rfl ?_
  refine .dpu rfl (.n rfl) (P.iac (i := 2) .t0 rfl .g7 runUnderlying30 sizeOf28 rfl rfl) rfl rfl ?_
  refine .dpu rfl (.n rfl) (P.mov .t2) rfl rfl ?_
  refine .dpu rfl (.n rfl) (P.iac (i := 2) .t0 rfl .g6 runUnderlying30 sizeOf28 rfl rfl) rfl rfl ?_
  refine .dpu rfl (.n rfl) (P.mov .g4) rfl rfl ?_
  refine .dld rfl (.n rfl) (V.ld (v := U a0.a2) .t2 .k2 (.one isAgg28 rfl)) (fun _ h => (h.imp (Ls.of (.cons .k1 (.cons .k1 (.cons .k1 .nil))))).ro Rs.nil) rfl rfl ?_
  refine .dld rfl (.n rfl) (V.ld (v := U a1.a2) .t2 .k1 (.one isAgg28 rfl)) (fun _ h => (h.imp (Ls.of (.cons .k1 (.cons .k1 (.cons .k1 .nil))))).ro Rs.nil) rfl rfl ?_
  refine .dpu rfl (.n rfl) (P.extn (.cons .t1 (.cons .t0 (.cons .t0 .nil))) func55 rfl rfl fn_55 find_55 (run_add64u _ _ _ add64_le)) rfl rfl ?_
  refine .dpu rfl (.n rfl) (P.mov .t0) rfl rfl ?_
  refine .dpu rfl (.n rfl) (P.ext (v := U (add64 a0.a2 a1.a2 (add64 a0.a1 a1.a1 (add64 a0.a0 a1.a0 0).2).2).1) .g0 rfl) rfl rfl ?_
  refine .dpu rfl (.n rfl) (P.ext (v := U (add64 a0.a2 a1.a2 (add64 a0.a1 a1.a1 (add64 a0.a0 a1.a0 0).2).2).2) .t1 rfl) rfl rfl ?_
  refine .dpu rfl (.n rfl) (P.iac (i := 2) .t2 rfl .g4 runUnderlying30 sizeOf28 rfl rfl) rfl rfl ?_
  refine .dgo rfl (.n rfl) (G.str .t2 .t0 .k0 (.mk (cs' := (api_Wide.cs ⟨(add64 a0.a0 a1.a0 0).1, (add64 a0.a1 a1.a1 (add64 a0.a0 a1.a0 0).2).1, (add64 a0.a2 a1.a2 (add64 a0.a1 a1.a1 (add64 a0.a0 a1.a0 0).2).2).1, 0⟩)) sizeOf28 rfl rfl rfl rfl)) (.inr fun _ _ _ h => (h.imp (Ls.of (.cons .k1 (.cons .k1 (.cons .k1 .nil))))).ro Rs.nil) fun _ _ => ?_
  refine .drop .k2 ?_
  refine .dgo rfl (.n rfl) (OpV.g (OpP.toV (P.asg .t0)) rfl) (.inr fun _ _ _ h => (h.imp (Ls.of (.cons .k1 (.cons .k1 (.cons .k1 .nil))))).ro Rs.nil) fun _ _ => ?_
  refine .dnil ?_
  refine .inn ?_
  refine .then ?_
  refine .reg rfl ?_
  refine .opp (P.bin (v := N 3) .g1 .k (.addc (by decide))) rfl ?_
  refine .drop .k2 ?_
  refine .opp (P.mov .t0) rfl ?_
  refine .nil ?_
  refine .then ?_
  refine .rd ?_
  refine .seq ?_
  refine .reg rfl ?_
  refine .opp (P.bin (v := Bo true) .g0 .k (BinV.lss.boolc (by decide))) rfl ?_
  refine .nil ?_
  refine .then ?_
  refine .seq ?_
  refine .condT .t0 ?_
  refine .skip ?_
  refine .then ?_
  refine .seq ?_
  refine .block ?_
  refine .seq ?_
  refine .reg rfl ?_
  refine .opp (P.mov .g0) rfl ?_
  refine .opp (P.asg .t0) rfl ?_
  refine .nil ?_
  refine .then ?_
  refine .drawl [blk b3 30 (api_Wide.cs ⟨0, 0, 0, 0⟩), blk b2 30 (api_Wide.cs a1), blk b1 30 (api_Wide.cs a0)] [] (Ls.of (.cons .k1 (.cons .k1 (.cons .k1 .nil)))) Rs.nil 15 (.on 0 .pu (.on 1 .pu (.on 2 .pu (.on 4 .pu (.on 5 .pu (.on 7 .pu (.on 3 .ld (.on 6 .ld (.on 8 .pu (.on 9 .pu (.on 10 .pu (.on 11 .pu (.on 12 .pu (.on 13 .go (.on 14 .go .nl))))))))))))))) follows_mixed (.inb (.thn (.thn (.inb (.thn .body))))) (by kernel_rfl) ?_
  refine .dpu rfl (.n rfl) (P.mov .g0) rfl rfl ?_
  refine .dpu rfl (.n rfl) (P.mov .g1) rfl rfl ?_
  refine .dpu rfl (.n rfl) (P.iac (i := 3) .t0 rfl .g7 runUnderlying30 sizeOf28 rfl rfl) rfl rfl ?_
  refine .dpu rfl (.n rfl) (P.mov .t2) rfl rfl ?_
  refine .dpu rfl (.n rfl) (P.iac (i := 3) .t0 rfl .g6 runUnderlying30 sizeOf28 rfl rfl) rfl rfl ?_
  refine .dpu rfl (.n rfl) (P.mov .g4) rfl rfl ?_
  refine .dld rfl (.n rfl) (V.ld (v := U a0.a3) .t2 .k2 (.one isAgg28 rfl)) (fun _ h => (h.imp (Ls.of (.cons .k1 (.cons .k1 (.cons .k1 .nil))))).ro Rs.nil) rfl rfl ?_
  refine .dld rfl (.n rfl) (V.ld (v := U a1.a3) .t2 .k1 (.one isAgg28 rfl)) (fun _ h => (h.imp (Ls.of (.cons .k1 (.cons .k1 (.cons .k1 .nil))))).ro Rs.nil) rfl rfl ?_
  refine .dpu rfl (.n rfl) (P.extn (.cons .t1 (.cons .t0 (.cons .t0 .nil))) func55 rfl rfl fn_55 find_55 (run_add64u _ _ _ add64_le)) rfl rfl ?_
  refine .dpu rfl (.n rfl) (P.mov .t0) rfl rfl ?_
  refine .dpu rfl (.n rfl) (P.ext (v := U (add64 a0.a3 a1.a3 (add64 a0.a2 a1.a2 (add64 a0.a1 a1.a1 (add64 a0.a0 a1.a0 0).2).2).2).1) .g0 rfl) rfl rfl ?_
  refine .dpu rfl (.n rfl) (P.ext (v := U (add64 a0.a3 a1.a3 (add64 a0.a2 a1.a2 (add64 a0.a1 a1.a1 (add64 a0.a0 a1.a0 0).2).2).2).2) .t1 rfl) rfl rfl ?_
  refine .dpu rfl (.n rfl) (P.iac (i := 3) .t2 rfl .g4 runUnderlying30 sizeOf28 rfl rfl) rfl rfl ?_
  refine .dgo rfl (.n rfl) (G.str .t2 .t0 .k0 (.mk (cs' := (api_Wide.cs ⟨(add64 a0.a0 a1.a0 0).1, (add64 a0.a1 a1.a1 (add64 a0.a0 a1.a0 0).2).1, (add64 a0.a2 a1.a2 (add64 a0.a1 a1.a1 (add64 a0.a0 a1.a0 0).2).2).1, (add64 a0.a3 a1.a3 (add64 a0.a2 a1.a2 (add64 a0.a1 a1.a1 (add64 a0.a0 a1.a0 0).2).2).2).1⟩)) sizeOf28 rfl rfl rfl rfl)) (.inr fun _ _ _ h => (h.imp (Ls.of (.cons .k1 (.cons .k1 (.cons .k1 .nil))))).ro Rs.nil) fun _ _ => ?_
  refine .drop .k2 ?_
  refine .dgo rfl (.n rfl) (OpV.g (OpP.toV (P.asg .t0)) rfl) (.inr fun _ _ _ h => (h.imp (Ls.of (.cons .k1 (.cons .k1 (.cons .k1 .nil))))).ro Rs.nil) fun _ _ => ?_
  refine .dnil ?_
  refine .inn ?_
  refine .then ?_
  refine .reg rfl ?_
  refine .opp (P.bin (v := N 4) .g1 .k (.addc (by decide))) rfl ?_
  refine .drop .k2 ?_
  refine .opp (P.mov .t0) rfl ?_
  refine .nil ?_
  refine .then ?_
  refine .rd ?_
  refine .seq ?_
  refine .reg rfl ?_
  refine .opp (P.bin (v := Bo false) .g0 .k (BinV.lss.boolc (by decide))) rfl ?_
  refine .nil ?_
  refine .then ?_
  refine .seq ?_
  refine .condF .t0 ?_
  refine .exit ?_
  refine .thx ?_
  refine .thx ?_
  refine .inb ?_
  refine .then ?_
  refine .seq ?_
  refine .seq ?_
  refine .reg rfl ?_
  refine .opp (P.mov .t1) rfl ?_
  refine .opp (P.bin .t0 .k (BinV.neqU (x := (add64 a0.a3 a1.a3 (add64 a0.a2 a1.a2 (add64 a0.a1 a1.a1 (add64 a0.a0 a1.a0 0).2).2).2).2) (y := 0))) rfl ?_
  refine .nil ?_
  refine .then ?_
  refine .cond .t0 (fun c5 => ?_) (fun c5 => ?_)
  · rw [if_pos c5] at h
    refine .seq ?_
    refine .reg rfl ?_
    refine .opp (P.bld (v := Ag (api_Wide.cs ⟨0, 0, 0, 0⟩)) .nil (bld_runA zeroValue30 runUnderlying30 sizeOf28 (by kernel_rfl))) rfl ?_
    refine .opg (G.str .t0 .g2 .k1 (.mk (cs' := (api_Wide.cs ⟨0, 0, 0, 0⟩)) sizeOf30 rfl rfl rfl rfl)) rfl fun _ _ => ?_
    refine .opp (P.asg .k) rfl ?_
    refine .nil ?_
    refine .then ?_
    refine .ret ?_
    refine .thr ?_
    subst h
    exact .finw () (.r2 rfl (.cell .g3 .k0 (.agg isAgg30 sizeOf30 rfl rfl)) (.tmp .g0)) trivial (Ls.of .nil) .nil
  · rw [if_neg (ne_true_of_eq_false c5)] at h
    refine .skip ?_
    refine .then ?_
    refine .seq ?_
    refine .reg rfl ?_
    refine .op (V.ld (v := Ag (api_Wide.cs ⟨(add64 a0.a0 a1.a0 0).1, (add64 a0.a1 a1.a1 (add64 a0.a0 a1.a0 0).2).1, (add64 a0.a2 a1.a2 (add64 a0.a1 a1.a1 (add64 a0.a0 a1.a0 0).2).2).1, (add64 a0.a3 a1.a3 (add64 a0.a2 a1.a2 (add64 a0.a1 a1.a1 (add64 a0.a0 a1.a0 0).2).2).2).1⟩)) .t1 .k0 (.agg isAgg30 sizeOf30 rfl rfl)) rfl ?_
    refine .opg (G.str .t0 .g1 .k1 (.mk (cs' := (api_Wide.cs ⟨(add64 a0.a0 a1.a0 0).1, (add64 a0.a1 a1.a1 (add64 a0.a0 a1.a0 0).2).1, (add64 a0.a2 a1.a2 (add64 a0.a1 a1.a1 (add64 a0.a0 a1.a0 0).2).2).1, (add64 a0.a3 a1.a3 (add64 a0.a2 a1.a2 (add64 a0.a1 a1.a1 (add64 a0.a0 a1.a0 0).2).2).2).1⟩)) sizeOf30 rfl rfl rfl rfl)) rfl fun _ _ => ?_
    refine .opp (P.asg .k) rfl ?_
    refine .nil ?_
    refine .then ?_
    refine .ret ?_
    subst h
    exact .finw () (.r2 rfl (.cell .g2 .k0 (.agg isAgg30 sizeOf30 rfl rfl)) (.tmp .g0)) trivial (Ls.of .nil) .nil
attribute [irreducible] wide_Add
set_option maxRecDepth 20000 in
set_option maxHeartbeats 1000000 in
theorem S_tryp (b2 b4 b5 : Nat) (s o : escrow_State) (zs zo : Value) (x e : Int) (hz : IsSl zs) : SpecD Tryz.prog 56 [pt b2 0, pt b4 0, pt b5 0] (.panicking (mustCh e)) (.panicking [{ v := .iface 111 (Ag [N e]), recovered := true }]) [blk b2 45 (escrow_State.cs s zs), blk b4 45 (escrow_State.cs o zo), blk b5 63 [N x]] [] [blk b2 45 (escrow_State.cs s zs), blk b4 45 (escrow_State.cs s zs), blk b5 63 [N e]] := by
  refine .of func56 rfl ntmps56 rfl rfl fun w0 D0 G0 c₀ cs W hm hW => ?_
  refine .srec (v := .iface 111 (Ag [N e])) (cs' := { c₀ with mode := .panicking [{ v := .iface 111 (Ag [N e]), recovered := true }] } :: cs) rfl rfl rfl (fun _ _ => rfl) (by simp [recoverD, hm]) rfl ?_
  refine .sop rfl rfl rfl (OpP.toV (P.tas .t0 runUnderlying111 (fun _ h => by cases h))) rfl ?_
  refine .sop rfl rfl rfl (OpP.toV (P.mov .t0)) rfl ?_
  refine .sop rfl rfl rfl (OpP.toV (P.ext (v := Ag [N e]) .g0 rfl)) rfl ?_
  refine .sop rfl rfl rfl (OpP.toV (P.ext (v := Bo true) .t1 rfl)) rfl ?_
  refine .sopx rfl rfl rfl (X.alc (cs := [N 0]) zeroValue111 rfl) rfl fun b6 => ?_
  refine .sst rfl (G.str .t2 .g0 .k0 (.mk (cs' := [N e]) sizeOf111 rfl rfl rfl rfl)) fun _ _ => ?_
  refine .sop rfl rfl rfl (OpP.toV (P.asg .t1)) rfl ?_
  refine .snil ?_
  refine .scode ?_
  refine .seq ?_
  refine .reg rfl ?_
  refine .opp (P.mov .t0) rfl ?_
  refine .nil ?_
  refine .then ?_
  refine .condT .t0 ?_
  refine .drawl [blk b6 111 (escrow_must.cs ⟨e⟩), blk b2 45 (escrow_State.cs s zs)] [] (Ls.of (.cons .k0 (.cons .k0 .nil))) Rs.nil 5 (.on 1 .pu (.on 0 .ld (.on 2 .ld (.on 3 .go (.on 4 .go .nl))))) follows_mixed (.bods fun u w h => by obtain ⟨⟨_, h⟩, _⟩ := (hW _ _ _).1 h; cases h) (by kernel_rfl) ?_
  refine .dpu rfl (.n rfl) (P.fa .t0 fa_111_0 rfl) rfl rfl ?_
  refine .dld rfl (.n rfl) (V.ld (v := Ag (escrow_State.cs s zs)) .t1 .k1 (.agg isAgg45 sizeOf45 rfl rfl)) (fun _ h => (h.imp (Ls.of (.cons .k0 (.cons .k0 .nil)))).ro Rs.nil) rfl rfl ?_
  refine .dld rfl (.n rfl) (V.ld (v := N e) .t1 .k0 (.one isAgg63 rfl)) (fun _ h => (h.imp (Ls.of (.cons .k0 (.cons .k0 .nil)))).ro Rs.nil) rfl rfl ?_
  refine .dgo rfl (.n rfl) (G.str .t1 .t1 .k2 (.mk (cs' := (escrow_State.cs s zs)) sizeOf45 rfl (onez_45 _ (onec hz)) rfl rfl)) (.inr fun _ _ _ h => (h.imp (Ls.of (.cons .k1 (.cons .k1 .nil)))).ro Rs.nil) fun _ _ => ?_
  refine .dgo rfl (.n rfl) (G.str .t0 .t0 .k3 (.mk (cs' := [N e]) sizeOf63 rfl rfl rfl rfl)) (.inr fun _ _ _ h => (h.imp (Ls.of (.cons .k2 (.cons .k2 .nil)))).ro Rs.nil) fun _ _ => ?_
  refine .dnil ?_
  exact .sfin rfl hW rfl (Ls.of (.cons .k3 (.cons .k1 (.cons .k0 .nil))))
set_option maxRecDepth 20000 in
set_option maxHeartbeats 1000000 in
theorem S_tryr (b2 b4 b5 : Nat) (s o : escrow_State) (zs zo : Value) (x e : Int) (hz : IsSl zs) : SpecD Tryz.prog 56 [pt b2 0, pt b4 0, pt b5 0] .returning .returning [blk b2 45 (escrow_State.cs s zs), blk b4 45 (escrow_State.cs o zo), blk b5 63 [N x]] [] [blk b2 45 (escrow_State.cs s zs), blk b4 45 (escrow_State.cs o zo), blk b5 63 [N x]] := by
  refine .of func56 rfl ntmps56 rfl rfl fun w0 D0 G0 c₀ cs W hm hW => ?_
  refine .srecn rfl rfl rfl (fun _ _ => rfl) (by simp [recoverD, hm]) rfl ?_
  refine .sop rfl rfl rfl (OpP.toV (P.tasn .t0 runUnderlying111 (fun _ h => by cases h) zeroValue111)) rfl ?_
  refine .sop rfl rfl rfl (OpP.toV (P.mov .t0)) rfl ?_
  refine .sop rfl rfl rfl (OpP.toV (P.ext (v := Ag [N 0]) .g0 rfl)) rfl ?_
  refine .sop rfl rfl rfl (OpP.toV (P.ext (v := Bo false) .t1 rfl)) rfl ?_
  refine .sopx rfl rfl rfl (X.alc (cs := [N 0]) zeroValue111 rfl) rfl fun b6 => ?_
  refine .sst rfl (G.str .t2 .g0 .k0 (.mk (cs' := [N 0]) sizeOf111 rfl rfl rfl rfl)) fun _ _ => ?_
  refine .sop rfl rfl rfl (OpP.toV (P.asg .t1)) rfl ?_
  refine .snil ?_
  refine .scode ?_
  refine .seq ?_
  refine .reg rfl ?_
  refine .opp (P.mov .t0) rfl ?_
  refine .nil ?_
  refine .then ?_
  refine .condF .t0 ?_
  refine .skip ?_
  exact .sfin rfl hW (by cases c₀; simp at hm; simp [hm]) (Ls.of (.cons .k1 (.cons .k1 (.cons .k1 .nil))))
noncomputable def purse_Book_Give (a0 : purse_Book) (a1 : Int) (a2 : Int) (a3 : api_Wide) : Option (purse_Book × Int) :=
  if (!(purse_at a1 a2)) = true then (some (a0, 4)) else (Option.bind (at_ (purse_Book.list a0) a1) fun (x5 : A2_api_Wide) => Option.bind (at_ (A2_api_Wide.list x5) a2) fun (x9 : api_Wide) => if (!(wide_Add x9 a3).2) = true then (some (a0, 38)) else (Option.bind (at_ (purse_Book.list a0) a1) fun (x15 : A2_api_Wide) => Option.bind (at_ (A2_api_Wide.list x15) a2) fun (x19 : api_Wide) => some ((purse_Book.set a0 (a1).toNat (A2_api_Wide.set x15 (a2).toNat (wide_Add x9 a3).1), 0))))
set_option maxRecDepth 20000 in
set_option maxHeartbeats 1000000 in
theorem S_purse_Book_Give (a0 : purse_Book) (a1 : Int) (a2 : Int) (a3 : api_Wide) (r : purse_Book × Int) (h : purse_Book_Give a0 a1 a2 a3 = some r) :
    SpecF Tryz.prog 68 [Ag (purse_Book.cs a0), N a1, N a2, Ag (api_Wide.cs a3)] [] [] (fun z : Unit => True) (fun z => Tu [Ag (purse_Book.cs r.1), N r.2]) (fun z M =>  M) (fun z M =>  M) := by
  refine .of func68 rfl ntmps68 rfl fun w0 D0 G0 => ?_
  unfold purse_Book_Give at h
  refine .seq ?_
  refine .reg rfl ?_
  refine .opx (X.box (cs := (purse_Book.cs a0)) .t0 rfl) rfl fun b1 => ?_
  refine .opx (X.box (cs := (api_Wide.cs a3)) .t3 rfl) rfl fun b2 => ?_
  refine .opx (X.alc (cs := (purse_Book.cs ⟨⟨⟨0, 0, 0, 0⟩, ⟨0, 0, 0, 0⟩⟩, ⟨⟨0, 0, 0, 0⟩, ⟨0, 0, 0, 0⟩⟩, ⟨⟨0, 0, 0, 0⟩, ⟨0, 0, 0, 0⟩⟩, ⟨⟨0, 0, 0, 0⟩, ⟨0, 0, 0, 0⟩⟩, ⟨⟨0, 0, 0, 0⟩, ⟨0, 0, 0, 0⟩⟩, ⟨⟨0, 0, 0, 0⟩, ⟨0, 0, 0, 0⟩⟩, ⟨⟨0, 0, 0, 0⟩, ⟨0, 0, 0, 0⟩⟩, ⟨⟨0, 0, 0, 0⟩, ⟨0, 0, 0, 0⟩⟩⟩)) zeroValue41 rfl) rfl fun b3 => ?_
  refine .op0 (OpP.toV (P.asg .k)) rfl ?_
  refine .nil ?_
  refine .then ?_
  refine .seq ?_
  refine .seq ?_
  refine .reg rfl ?_
  refine .opp (P.mov .g3) rfl ?_
  refine .opp (P.mov .g5) rfl ?_
  refine .opg (G.call call40 (.cons .t1 (.cons .t0 .nil)) (S_purse_at a1 a2 _ rfl) .nil .nil (fun _ _ => rfl) (fun _ _ => rfl) rfl) rfl fun _ _ => ?_
  refine .opp (P.not .t0) rfl ?_
  refine .nil ?_
  refine .then ?_
  refine .cond .t0 (fun c4 => ?_) (fun c4 => ?_)
  · rw [if_pos c4] at h
    refine .seq ?_
    refine .reg rfl ?_
    refine .op (V.ld (v := Ag (purse_Book.cs a0)) .t2 .k2 (.agg isAgg41 sizeOf41 rfl rfl)) rfl ?_
    refine .opg (G.str .t0 .g0 .k0 (.mk (cs' := (purse_Book.cs a0)) sizeOf41 rfl rfl rfl rfl)) rfl fun _ _ => ?_
    refine .opp (P.asg .k) rfl ?_
    refine .nil ?_
    refine .then ?_
    refine .ret ?_
    refine .thr ?_
    cases h
    exact .finw () (.r2 rfl (.cell .g1 .k0 (.agg isAgg41 sizeOf41 rfl rfl)) (.tmp .g0)) trivial (Ls.of .nil) .nil
  · rw [if_neg (ne_true_of_eq_false c4)] at h
    refine .skip ?_
    refine .then ?_
    refine .seq ?_
    obtain ⟨x5, hx6, h⟩ := bnd_eq h
    obtain ⟨i7, hi8, hx6⟩ := at_eq hx6
    have hi8_ : (a1).toNat = i7 := by rw [hi8]; rfl
    obtain ⟨x9, hx10, h⟩ := bnd_eq h
    obtain ⟨i11, hi12, hx10⟩ := at_eq hx10
    have hi12_ : (a2).toNat = i11 := by rw [hi12]; rfl
    refine .dcut (γ := Nat) (φ := fun _ => True) (E1 := fun x_ => [(11, Bo (wide_Add x9 a3).2), (10, pt x_ 0), (8, pt b3 0), (4, pt b1 0), (1, N a1), (2, N a2)]) (L1 := fun x_ => [blk x_ 30 (api_Wide.cs (wide_Add x9 a3).1), blk b3 41 (purse_Book.cs ⟨⟨⟨0, 0, 0, 0⟩, ⟨0, 0, 0, 0⟩⟩, ⟨⟨0, 0, 0, 0⟩, ⟨0, 0, 0, 0⟩⟩, ⟨⟨0, 0, 0, 0⟩, ⟨0, 0, 0, 0⟩⟩, ⟨⟨0, 0, 0, 0⟩, ⟨0, 0, 0, 0⟩⟩, ⟨⟨0, 0, 0, 0⟩, ⟨0, 0, 0, 0⟩⟩, ⟨⟨0, 0, 0, 0⟩, ⟨0, 0, 0, 0⟩⟩, ⟨⟨0, 0, 0, 0⟩, ⟨0, 0, 0, 0⟩⟩, ⟨⟨0, 0, 0, 0⟩, ⟨0, 0, 0, 0⟩⟩⟩), blk b2 30 (api_Wide.cs a3), blk b1 41 (purse_Book.cs a0)]) (R1 := fun x_ => []) ?_ (fun b13 _ => ?_)
    · refine .draw 13 (.on 0 .pu (.on 1 .pu (.on 2 .pu (.on 3 .pu (.on 4 .ld (.on 5 .ld (.fk 6 10 (.on 7 .pu (.on 8 .pu (.on 9 .pu (.on 10 .go (.on 11 .go (.on 12 .go .nl)))))) (.on 6 .go (.on 7 .pu (.on 8 .pu (.on 9 .pu (.on 11 .go (.on 12 .go .nl))))))))))))) follows_mixed (.thn (.thn .body)) (by kernel_rfl) ?_
      refine .dpu rfl (.n rfl) (P.mov .g3) rfl rfl ?_
      refine .dpu rfl (.n rfl) (P.mov .g5) rfl rfl ?_
      refine .dpu rfl (.n rfl) (P.iad (i := i7) (off' := (0 + i7 * 8)) .t1 hi8 .g3 runUnderlying41 sizeOf39 (lt_of_get hx6) rfl) rfl rfl ?_
      refine .dpu rfl (.n rfl) (P.iad (i := i11) (off' := ((0 + i7 * 8) + i11 * 4)) .t1 hi12 .t0 runUnderlying39 sizeOf30 (lt_of_get hx10) rfl) rfl rfl ?_
      refine .dld rfl (.n rfl) (V.ld (v := Ag (api_Wide.cs x9)) .t0 .k2 (by rcases i7 with _ | _ | _ | _ | _ | _ | _ | _ | _ <;> first | (obtain rfl := Option.some.inj hx6; rcases i11 with _ | _ | _ <;> first | (obtain rfl := Option.some.inj hx10; exact LdV.agg isAgg30 sizeOf30 rfl rfl) | (cases hx10; done)) | (cases hx6; done))) (fun _ h => h) rfl rfl ?_
      refine .dld rfl (.n rfl) (V.ld (v := Ag (api_Wide.cs a3)) .t2 .k1 (.agg isAgg30 sizeOf30 rfl rfl)) (fun _ h => h) rfl rfl ?_
      refine .dfk ?_ ?_
      · refine .dgo rfl (.n rfl) (G.call call47 (.cons .t1 (.cons .t0 .nil)) (S_wide_Add x9 a3 _ rfl) .nil .nil (fun _ _ => rfl) (fun _ _ => rfl) rfl) (.inr fun _ _ _ h => h) fun _ _ => ?_
        refine .dpu rfl (.n rfl) (P.mov .t0) rfl rfl ?_
        refine .dpu rfl (.n rfl) (P.ext (v := Ag (api_Wide.cs (wide_Add x9 a3).1)) .g0 rfl) rfl rfl ?_
        refine .dpu rfl (.n rfl) (P.ext (v := Bo (wide_Add x9 a3).2) .t1 rfl) rfl rfl ?_
        refine .dgo rfl (.n rfl) (OpX.g (X.alc (cs := (api_Wide.cs ⟨0, 0, 0, 0⟩)) zeroValue30 rfl) rfl) (.inr fun _ _ _ h => (h.imp (Ls.of (.cons .k1 (.cons .k1 (.cons .k1 .nil))))).ro Rs.nil) fun b13 _ => ?_
        refine .dgo rfl (.n rfl) (G.str .t2 .g0 .k0 (.mk (cs' := (api_Wide.cs (wide_Add x9 a3).1)) sizeOf30 rfl rfl rfl rfl)) (.inr fun _ _ _ h => (h.imp (Ls.of (.cons .k1 (.cons .k1 (.cons .k1 .nil))))).ro Rs.nil) fun _ _ => ?_
        refine .dgo rfl (.n rfl) (OpV.g (OpP.toV (P.asg .t1)) rfl) (.inr fun _ _ _ h => (h.imp (Ls.of (.cons .k1 (.cons .k1 (.cons .k1 .nil))))).ro Rs.nil) fun _ _ => ?_
        refine .dnil ?_
        exact .dst b13 trivial (.cons Mm.m0 (.cons Mm.m1 (.cons Mm.m2 (.cons Mm.m3 (.cons Mm.m4 (.cons Mm.m5 .nil)))))) (Ls.of (.cons .k0 (.cons .k0 (.cons .k0 (.cons .k0 .nil))))) .nil
      · refine .dgo rfl (.n rfl) (OpX.g (X.alc (cs := (api_Wide.cs ⟨0, 0, 0, 0⟩)) zeroValue30 rfl) rfl) (.inr fun _ _ _ h => (h.imp (Ls.of (.cons .k1 (.cons .k1 (.cons .k1 .nil))))).ro Rs.nil) fun b13 _ => ?_
        refine .dgo rfl (.n rfl) (G.call call47 (.cons .t2 (.cons .t1 .nil)) (S_wide_Add x9 a3 _ rfl) .nil .nil (fun _ _ => rfl) (fun _ _ => rfl) rfl) (.inr fun _ _ _ h => (h.imp (Ls.of (.cons .k1 (.cons .k1 (.cons .k1 .nil))))).ro Rs.nil) fun _ _ => ?_
        refine .dpu rfl (.n rfl) (P.mov .t0) rfl rfl ?_
        refine .dpu rfl (.n rfl) (P.ext (v := Ag (api_Wide.cs (wide_Add x9 a3).1)) .g0 rfl) rfl rfl ?_
        refine .dpu rfl (.n rfl) (P.ext (v := Bo (wide_Add x9 a3).2) .t1 rfl) rfl rfl ?_
        refine .dgo rfl (.n rfl) (G.str .t1 .g1 .k0 (.mk (cs' := (api_Wide.cs (wide_Add x9 a3).1)) sizeOf30 rfl rfl rfl rfl)) (.inr fun _ _ _ h => (h.imp (Ls.of (.cons .k1 (.cons .k1 (.cons .k1 .nil))))).ro Rs.nil) fun _ _ => ?_
        refine .dgo rfl (.n rfl) (OpV.g (OpP.toV (P.asg .t0)) rfl) (.inr fun _ _ _ h => (h.imp (Ls.of (.cons .k1 (.cons .k1 (.cons .k1 .nil))))).ro Rs.nil) fun _ _ => ?_
        refine .dnil ?_
        exact .dst b13 trivial (.cons Mm.m0 (.cons Mm.m1 (.cons Mm.m2 (.cons Mm.m3 (.cons Mm.m4 (.cons Mm.m5 .nil)))))) (Ls.of (.cons .k0 (.cons .k0 (.cons .k0 (.cons .k0 .nil))))) .nil
    · refine .then ?_
      refine .seq ?_
      refine .seq ?_
      refine .reg rfl ?_
      refine .opp (P.mov .t0) rfl ?_
      refine .opp (P.not .t0) rfl ?_
      refine .nil ?_
      refine .then ?_
      refine .cond .t0 (fun c14 => ?_) (fun c14 => ?_)
      · rw [if_pos c14] at h
        refine .seq ?_
        refine .reg rfl ?_
        refine .op (V.ld (v := Ag (purse_Book.cs a0)) .t2 .k3 (.agg isAgg41 sizeOf41 rfl rfl)) rfl ?_
        refine .opg (G.str .t0 .g1 .k1 (.mk (cs' := (purse_Book.cs a0)) sizeOf41 rfl rfl rfl rfl)) rfl fun _ _ => ?_
        refine .opp (P.asg .k) rfl ?_
        refine .nil ?_
        refine .then ?_
        refine .ret ?_
        refine .thr ?_
        cases h
        exact .finw () (.r2 rfl (.cell .g2 .k0 (.agg isAgg41 sizeOf41 rfl rfl)) (.tmp .g0)) trivial (Ls.of .nil) .nil
      · rw [if_neg (ne_true_of_eq_false c14)] at h
        refine .skip ?_
        refine .then ?_
        refine .seq ?_
        refine .drawl [blk b13 30 (api_Wide.cs (wide_Add x9 a3).1), blk b3 41 (purse_Book.cs ⟨⟨⟨0, 0, 0, 0⟩, ⟨0, 0, 0, 0⟩⟩, ⟨⟨0, 0, 0, 0⟩, ⟨0, 0, 0, 0⟩⟩, ⟨⟨0, 0, 0, 0⟩, ⟨0, 0, 0, 0⟩⟩, ⟨⟨0, 0, 0, 0⟩, ⟨0, 0, 0, 0⟩⟩, ⟨⟨0, 0, 0, 0⟩, ⟨0, 0, 0, 0⟩⟩, ⟨⟨0, 0, 0, 0⟩, ⟨0, 0, 0, 0⟩⟩, ⟨⟨0, 0, 0, 0⟩, ⟨0, 0, 0, 0⟩⟩, ⟨⟨0, 0, 0, 0⟩, ⟨0, 0, 0, 0⟩⟩⟩), blk b2 30 (api_Wide.cs a3)] [] (Ls.of (.cons .k0 (.cons .k0 (.cons .k0 .nil)))) Rs.nil 6 (.on 0 .pu (.on 1 .pu (.on 3 .pu (.on 2 .ld (.on 4 .pu (.on 5 .go .nl)))))) follows_mixed (.thn .body) (by kernel_rfl) ?_
        refine .dpu rfl (.n rfl) (P.mov .t3) rfl rfl ?_
        refine .dpu rfl (.n rfl) (P.mov .t4) rfl rfl ?_
        obtain ⟨x15, hx16, h⟩ := bnd_eq h
        obtain ⟨i17, hi18, hx16⟩ := at_eq hx16
        have hi18_ : (a1).toNat = i17 := by rw [hi18]; rfl
        refine .dpu rfl (.n rfl) (P.iad (i := i17) (off' := (0 + i17 * 8)) .t1 hi18 .g3 runUnderlying41 sizeOf39 (lt_of_get hx16) rfl) rfl rfl ?_
        refine .dld rfl (.n rfl) (V.ld (v := Ag (api_Wide.cs (wide_Add x9 a3).1)) .t2 .k0 (.agg isAgg30 sizeOf30 rfl rfl)) (fun _ h => (h.imp (Ls.of (.cons .k0 (.cons .k0 (.cons .k0 .nil))))).ro Rs.nil) rfl rfl ?_
        obtain ⟨x19, hx20, h⟩ := bnd_eq h
        obtain ⟨i21, hi22, hx20⟩ := at_eq hx20
        have hi22_ : (a2).toNat = i21 := by rw [hi22]; rfl
        refine .dpu rfl (.n rfl) (P.iad (i := i21) (off' := ((0 + i17 * 8) + i21 * 4)) .t2 hi22 .t1 runUnderlying39 sizeOf30 (lt_of_get hx20) rfl) rfl rfl ?_
        refine .dgo rfl (.n rfl) (G.str (cs' := (purse_Book.cs (purse_Book.set a0 i17 (A2_api_Wide.set x15 i21 (wide_Add x9 a3).1)))) .t1 .t0 .k3 (by rcases i17 with _ | _ | _ | _ | _ | _ | _ | _ | _ <;> first | (obtain rfl := Option.some.inj hx16; rcases i21 with _ | _ | _ <;> first | (obtain rfl := Option.some.inj hx20; exact StV.mk sizeOf30 rfl rfl rfl rfl) | (cases hx20; done)) | (cases hx16; done))) (.inr fun _ _ _ h => (h.imp (Ls.of (.cons .k1 (.cons .k1 (.cons .k1 .nil))))).ro Rs.nil) fun _ _ => ?_
        refine .conseq .k0 (q := blk b1 41 (purse_Book.cs (purse_Book.set a0 (a1).toNat (A2_api_Wide.set x15 (a2).toNat (wide_Add x9 a3).1)))) (fun _ h_ => by rw [hi18_, hi22_]; exact h_) ?_
        refine .dnil ?_
        refine .then ?_
        refine .seq ?_
        refine .reg rfl ?_
        refine .op (V.ld (v := Ag (purse_Book.cs (purse_Book.set a0 (a1).toNat (A2_api_Wide.set x15 (a2).toNat (wide_Add x9 a3).1)))) .t1 .k0 (.agg isAgg41 sizeOf41 rfl rfl)) rfl ?_
        refine .opg (G.str .t0 .g0 .k2 (.mk (cs' := (purse_Book.cs (purse_Book.set a0 (a1).toNat (A2_api_Wide.set x15 (a2).toNat (wide_Add x9 a3).1)))) sizeOf41 rfl rfl rfl rfl)) rfl fun _ _ => ?_
        refine .opp (P.asg .k) rfl ?_
        refine .nil ?_
        refine .then ?_
        refine .ret ?_
        cases h
        exact .finw () (.r2 rfl (.cell .g1 .k0 (.agg isAgg41 sizeOf41 rfl rfl)) (.tmp .g0)) trivial (Ls.of .nil) .nil
attribute [irreducible] purse_Book_Give
noncomputable def purse_Book_Move (a0 : purse_Book) (a1 : Int) (a2 : Int) (a3 : Int) (a4 : api_Wide) : Option (purse_Book × Int) :=
  Option.bind (purse_Book_Take a0 a1 a3 a4) fun r4 => if (decide (r4.2 ≠ 0)) = true then (some (a0, r4.2)) else (Option.bind (purse_Book_Give r4.1 a2 a3 a4) fun r8 => if (decide (r8.2 ≠ 0)) = true then (some (a0, r8.2)) else (some (r8.1, 0)))
set_option maxRecDepth 20000 in
set_option maxHeartbeats 1000000 in
theorem S_purse_Book_Move (a0 : purse_Book) (a1 : Int) (a2 : Int) (a3 : Int) (a4 : api_Wide) (r : purse_Book × Int) (h : purse_Book_Move a0 a1 a2 a3 a4 = some r) :
    SpecF Tryz.prog 61 [Ag (purse_Book.cs a0), N a1, N a2, N a3, Ag (api_Wide.cs a4)] [] [] (fun z : Unit => True) (fun z => Tu [Ag (purse_Book.cs r.1), N r.2]) (fun z M =>  M) (fun z M =>  M) := by
  refine .of func61 rfl ntmps61 rfl fun w0 D0 G0 => ?_
  unfold purse_Book_Move at h
  refine .seq ?_
  refine .reg rfl ?_
  refine .opx (X.box (cs := (purse_Book.cs a0)) .t0 rfl) rfl fun b1 => ?_
  refine .opx (X.box (cs := (api_Wide.cs a4)) .t4 rfl) rfl fun b2 => ?_
  refine .opx (X.alc (cs := (purse_Book.cs ⟨⟨⟨0, 0, 0, 0⟩, ⟨0, 0, 0, 0⟩⟩, ⟨⟨0, 0, 0, 0⟩, ⟨0, 0, 0, 0⟩⟩, ⟨⟨0, 0, 0, 0⟩, ⟨0, 0, 0, 0⟩⟩, ⟨⟨0, 0, 0, 0⟩, ⟨0, 0, 0, 0⟩⟩, ⟨⟨0, 0, 0, 0⟩, ⟨0, 0, 0, 0⟩⟩, ⟨⟨0, 0, 0, 0⟩, ⟨0, 0, 0, 0⟩⟩, ⟨⟨0, 0, 0, 0⟩, ⟨0, 0, 0, 0⟩⟩, ⟨⟨0, 0, 0, 0⟩, ⟨0, 0, 0, 0⟩⟩⟩)) zeroValue41 rfl) rfl fun b3 => ?_
  refine .op0 (OpP.toV (P.asg .k)) rfl ?_
  refine .nil ?_
  refine .then ?_
  refine .seq ?_
  refine .reg rfl ?_
  refine .op (V.ld (v := Ag (purse_Book.cs a0)) .g2 .k2 (.agg isAgg41 sizeOf41 rfl rfl)) rfl ?_
  refine .opp (P.mov .t4) rfl ?_
  refine .opp (P.mov .g6) rfl ?_
  refine .op (V.ld (v := Ag (api_Wide.cs a4)) .g4 .k1 (.agg isAgg30 sizeOf30 rfl rfl)) rfl ?_
  obtain ⟨r4, hr5, h⟩ := bnd_eq h
  refine .opg (G.call call46 (.cons .t3 (.cons .t2 (.cons .t1 (.cons .t0 .nil)))) (S_purse_Book_Take a0 a1 a3 a4 r4 hr5) .nil .nil (fun _ _ => rfl) (fun _ _ => rfl) rfl) rfl fun _ _ => ?_
  refine .opp (P.mov .t0) rfl ?_
  refine .opp (P.ext (v := Ag (purse_Book.cs r4.1)) .g0 rfl) rfl ?_
  refine .opp (P.ext (v := N r4.2) .t1 rfl) rfl ?_
  refine .opx (X.alc (cs := (purse_Book.cs ⟨⟨⟨0, 0, 0, 0⟩, ⟨0, 0, 0, 0⟩⟩, ⟨⟨0, 0, 0, 0⟩, ⟨0, 0, 0, 0⟩⟩, ⟨⟨0, 0, 0, 0⟩, ⟨0, 0, 0, 0⟩⟩, ⟨⟨0, 0, 0, 0⟩, ⟨0, 0, 0, 0⟩⟩, ⟨⟨0, 0, 0, 0⟩, ⟨0, 0, 0, 0⟩⟩, ⟨⟨0, 0, 0, 0⟩, ⟨0, 0, 0, 0⟩⟩, ⟨⟨0, 0, 0, 0⟩, ⟨0, 0, 0, 0⟩⟩, ⟨⟨0, 0, 0, 0⟩, ⟨0, 0, 0, 0⟩⟩⟩)) zeroValue41 rfl) rfl fun b6 => ?_
  refine .opg (G.str .t2 .g0 .k0 (.mk (cs' := (purse_Book.cs r4.1)) sizeOf41 rfl rfl rfl rfl)) rfl fun _ _ => ?_
  refine .opp (P.asg .t1) rfl ?_
  refine .nil ?_
  refine .then ?_
  refine .seq ?_
  refine .seq ?_
  refine .reg rfl ?_
  refine .opp (P.mov .g0) rfl ?_
  refine .opp (P.bin .t0 .k .neq) rfl ?_
  refine .nil ?_
  refine .then ?_
  refine .cond .t0 (fun c7 => ?_) (fun c7 => ?_)
  · rw [if_pos c7] at h
    refine .seq ?_
    refine .reg rfl ?_
    refine .op (V.ld (v := Ag (purse_Book.cs a0)) .t4 .k3 (.agg isAgg41 sizeOf41 rfl rfl)) rfl ?_
    refine .opp (P.mov .t1) rfl ?_
    refine .opg (G.str .t1 .g2 .k1 (.mk (cs' := (purse_Book.cs a0)) sizeOf41 rfl rfl rfl rfl)) rfl fun _ _ => ?_
    refine .opp (P.asg .t0) rfl ?_
    refine .nil ?_
    refine .then ?_
    refine .ret ?_
    refine .thr ?_
    cases h
    exact .finw () (.r2 rfl (.cell .g2 .k0 (.agg isAgg41 sizeOf41 rfl rfl)) (.tmp .g0)) trivial (Ls.of .nil) .nil
  · rw [if_neg (ne_true_of_eq_false c7)] at h
    refine .skip ?_
    refine .then ?_
    refine .seq ?_
    refine .reg rfl ?_
    refine .op (V.ld (v := Ag (purse_Book.cs r4.1)) .g1 .k0 (.agg isAgg41 sizeOf41 rfl rfl)) rfl ?_
    refine .opp (P.mov .t6) rfl ?_
    refine .opp (P.mov .t7) rfl ?_
    refine .op (V.ld (v := Ag (api_Wide.cs a4)) .t6 .k2 (.agg isAgg30 sizeOf30 rfl rfl)) rfl ?_
    obtain ⟨r8, hr9, h⟩ := bnd_eq h
    refine .opg (G.call call68 (.cons .t3 (.cons .t2 (.cons .t1 (.cons .t0 .nil)))) (S_purse_Book_Give r4.1 a2 a3 a4 r8 hr9) .nil .nil (fun _ _ => rfl) (fun _ _ => rfl) rfl) rfl fun _ _ => ?_
    refine .opp (P.mov .t0) rfl ?_
    refine .opp (P.ext (v := Ag (purse_Book.cs r8.1)) .g0 rfl) rfl ?_
    refine .opp (P.ext (v := N r8.2) .t1 rfl) rfl ?_
    refine .opg (G.str .t1 .g2 .k0 (.mk (cs' := (purse_Book.cs r8.1)) sizeOf41 rfl rfl rfl rfl)) rfl fun _ _ => ?_
    refine .drop .k1 ?_
    refine .opp (P.asg .t0) rfl ?_
    refine .nil ?_
    refine .then ?_
    refine .seq ?_
    refine .seq ?_
    refine .reg rfl ?_
    refine .opp (P.mov .g0) rfl ?_
    refine .opp (P.bin .t0 .k .neq) rfl ?_
    refine .nil ?_
    refine .then ?_
    refine .cond .t0 (fun c10 => ?_) (fun c10 => ?_)
    · rw [if_pos c10] at h
      refine .seq ?_
      refine .reg rfl ?_
      refine .op (V.ld (v := Ag (purse_Book.cs a0)) .t3 .k3 (.agg isAgg41 sizeOf41 rfl rfl)) rfl ?_
      refine .opp (P.mov .t1) rfl ?_
      refine .opg (G.str .t1 .g2 .k1 (.mk (cs' := (purse_Book.cs a0)) sizeOf41 rfl rfl rfl rfl)) rfl fun _ _ => ?_
      refine .opp (P.asg .t0) rfl ?_
      refine .nil ?_
      refine .then ?_
      refine .ret ?_
      refine .thr ?_
      cases h
      exact .finw () (.r2 rfl (.cell .g2 .k0 (.agg isAgg41 sizeOf41 rfl rfl)) (.tmp .g0)) trivial (Ls.of .nil) .nil
    · rw [if_neg (ne_true_of_eq_false c10)] at h
      refine .skip ?_
      refine .then ?_
      refine .seq ?_
      refine .reg rfl ?_
      refine .op (V.ld (v := Ag (purse_Book.cs r8.1)) .t1 .k0 (.agg isAgg41 sizeOf41 rfl rfl)) rfl ?_
      refine .opg (G.str .t0 .g1 .k1 (.mk (cs' := (purse_Book.cs r8.1)) sizeOf41 rfl rfl rfl rfl)) rfl fun _ _ => ?_
      refine .opp (P.asg .k) rfl ?_
      refine .nil ?_
      refine .then ?_
      refine .ret ?_
      cases h
      exact .finw () (.r2 rfl (.cell .g2 .k0 (.agg isAgg41 sizeOf41 rfl rfl)) (.tmp .g0)) trivial (Ls.of .nil) .nil
attribute [irreducible] purse_Book_Move
noncomputable def escrow_check (a0 : Int) : Option (Px (Unit)) :=
  if (decide (a0 ≠ 0)) = true then (some (.er a0)) else (some ((.ok ())))
set_option maxRecDepth 20000 in
set_option maxHeartbeats 1000000 in
theorem S_escrow_check (a0 : Int) (r : Px (Unit)) (h : escrow_check a0 = some r) :
    SpecX Tryz.prog 62 [N a0] [] [] (fun (r : Unit) (z : Unit) => True) mustCh r (fun r z => Tu []) (fun r z M =>  M) (fun r z M =>  M) := by
  refine .of func62 rfl ntmps62 rfl fun w0 D0 G0 => ?_
  unfold escrow_check at h
  refine .seq ?_
  refine .reg rfl ?_
  refine .opp (P.mov .g0) rfl ?_
  refine .opp (P.bin .t0 .k .neq) rfl ?_
  refine .nil ?_
  refine .then ?_
  refine .cond .t0 (fun c1 => ?_) (fun c1 => ?_)
  · rw [if_pos c1] at h
    refine .reg rfl ?_
    refine .opp (P.mov .t0) rfl ?_
    refine .opp (P.bld (v := Ag (escrow_must.cs ⟨a0⟩)) (.cons .t0 .nil) (bld_run zeroValue111 runUnderlying111 pl_111 (by kernel_rfl))) rfl ?_
    refine .opp (P.mki .t0 runUnderlying111) rfl ?_
    refine .opg (G.pan .t0 ?_) rfl fun _ h_ => h_.elim
    cases h
    exact .xer rfl
  · rw [if_neg (ne_true_of_eq_false c1)] at h
    refine .skip ?_
    cases h
    refine .xokn ?_
    exact .finwn () (.r0 rfl) trivial (Ls.of .nil) .nil
attribute [irreducible] escrow_check
noncomputable def escrow_take_int (a0 : purse_Book) (a1 : Int) (a2 : Int) (a3 : api_Wide) : Option (Px (purse_Book)) :=
  Option.bind (purse_Book_Take a0 a1 a2 a3) fun r2 => pxe (escrow_check r2.2) (fun e7 => some (.er e7)) fun r5 => some (.ok r2.1)
set_option maxRecDepth 20000 in
set_option maxHeartbeats 1000000 in
theorem S_escrow_take_int (b00 o00 : Nat) (T00 : TypeId) (pre00 post00 : List Value) (ho00 : pre00.length = o00) (a0 : purse_Book) (a1 : Int) (a2 : Int) (a3 : api_Wide) (r : Px (purse_Book)) (h : escrow_take_int a0 a1 a2 a3 = some r) :
    SpecX Tryz.prog 69 [pt b00 o00, N a1, N a2, Ag (api_Wide.cs a3)] [blk b00 T00 (pre00 ++ (purse_Book.cs a0) ++ post00)] [] (fun (r : purse_Book) (z : Unit) => True) mustCh r (fun r z => Tu []) (fun r z M => blk b00 T00 (pre00 ++ (purse_Book.cs r) ++ post00) ::  M) (fun r z M =>  M) := by
  refine .of func69 rfl ntmps69 rfl fun w0 D0 G0 => ?_
  unfold escrow_take_int at h
  refine .seq ?_
  refine .reg rfl ?_
  refine .opx (X.box (cs := (api_Wide.cs a3)) .t3 rfl) rfl fun b1 => ?_
  refine .nil ?_
  refine .then ?_
  refine .seq ?_
  obtain ⟨r2, hr3, h⟩ := bnd_eq h
  refine .dcut (γ := Nat) (φ := fun _ => True) (E1 := fun x_ => [(9, N r2.2), (8, pt x_ 0), (0, pt b00 o00)]) (L1 := fun x_ => [blk x_ 41 (purse_Book.cs r2.1), blk b1 30 (api_Wide.cs a3), blk b00 T00 (pre00 ++ (purse_Book.cs a0) ++ post00)]) (R1 := fun x_ => []) ?_ (fun b4 _ => ?_)
  · refine .draw 13 (.on 0 .pu (.on 1 .pu (.on 3 .pu (.on 4 .pu (.on 2 .ld (.on 5 .ld (.fk 6 10 (.on 7 .pu (.on 8 .pu (.on 9 .pu (.on 10 .go (.on 11 .go (.on 12 .go .nl)))))) (.on 6 .go (.on 7 .pu (.on 8 .pu (.on 9 .pu (.on 11 .go (.on 12 .go .nl))))))))))))) follows_mixed (.thn (.thn .bodx)) (by kernel_rfl) ?_
    refine .dpu rfl (.n rfl) (P.mov .g1) rfl rfl ?_
    refine .dpu rfl (.n rfl) (P.nilc .t0) rfl rfl ?_
    refine .dpu rfl (.n rfl) (P.mov .t3) rfl rfl ?_
    refine .dpu rfl (.n rfl) (P.mov .t4) rfl rfl ?_
    refine .dld rfl (.n rfl) (V.ld (v := Ag (purse_Book.cs a0)) .t2 .k1 (LdV.mid0 ho00 (.agg isAgg41 sizeOf41 rfl rfl))) (fun _ h => h) rfl rfl ?_
    refine .dld rfl (.n rfl) (V.ld (v := Ag (api_Wide.cs a3)) .t3 .k0 (.agg isAgg30 sizeOf30 rfl rfl)) (fun _ h => h) rfl rfl ?_
    refine .dfk ?_ ?_
    · refine .dgo rfl (.n rfl) (G.call call46 (.cons .t1 (.cons .t2 (.cons .t1 (.cons .t0 .nil)))) (S_purse_Book_Take a0 a1 a2 a3 r2 hr3) .nil .nil (fun _ _ => rfl) (fun _ _ => rfl) rfl) (.inr fun _ _ _ h => h) fun _ _ => ?_
      refine .dpu rfl (.n rfl) (P.mov .t0) rfl rfl ?_
      refine .dpu rfl (.n rfl) (P.ext (v := Ag (purse_Book.cs r2.1)) .g0 rfl) rfl rfl ?_
      refine .dpu rfl (.n rfl) (P.ext (v := N r2.2) .t1 rfl) rfl rfl ?_
      refine .dgo rfl (.n rfl) (OpX.g (X.alc (cs := (purse_Book.cs ⟨⟨⟨0, 0, 0, 0⟩, ⟨0, 0, 0, 0⟩⟩, ⟨⟨0, 0, 0, 0⟩, ⟨0, 0, 0, 0⟩⟩, ⟨⟨0, 0, 0, 0⟩, ⟨0, 0, 0, 0⟩⟩, ⟨⟨0, 0, 0, 0⟩, ⟨0, 0, 0, 0⟩⟩, ⟨⟨0, 0, 0, 0⟩, ⟨0, 0, 0, 0⟩⟩, ⟨⟨0, 0, 0, 0⟩, ⟨0, 0, 0, 0⟩⟩, ⟨⟨0, 0, 0, 0⟩, ⟨0, 0, 0, 0⟩⟩, ⟨⟨0, 0, 0, 0⟩, ⟨0, 0, 0, 0⟩⟩⟩)) zeroValue41 rfl) rfl) (.inr fun _ _ _ h => (h.imp (Ls.of (.cons .k1 (.cons .k1 .nil)))).ro Rs.nil) fun b4 _ => ?_
      refine .dgo rfl (.n rfl) (G.str .t2 .g0 .k0 (.mk (cs' := (purse_Book.cs r2.1)) sizeOf41 rfl rfl rfl rfl)) (.inr fun _ _ _ h => (h.imp (Ls.of (.cons .k1 (.cons .k1 .nil)))).ro Rs.nil) fun _ _ => ?_
      refine .dgo rfl (.n rfl) (OpV.g (OpP.toV (P.asg .t1)) rfl) (.inr fun _ _ _ h => (h.imp (Ls.of (.cons .k1 (.cons .k1 .nil)))).ro Rs.nil) fun _ _ => ?_
      refine .dnil ?_
      exact .dst b4 trivial (.cons Mm.m0 (.cons Mm.m1 (.cons Mm.m2 .nil))) (Ls.of (.cons .k0 (.cons .k0 (.cons .k0 .nil)))) .nil
    · refine .dgo rfl (.n rfl) (OpX.g (X.alc (cs := (purse_Book.cs ⟨⟨⟨0, 0, 0, 0⟩, ⟨0, 0, 0, 0⟩⟩, ⟨⟨0, 0, 0, 0⟩, ⟨0, 0, 0, 0⟩⟩, ⟨⟨0, 0, 0, 0⟩, ⟨0, 0, 0, 0⟩⟩, ⟨⟨0, 0, 0, 0⟩, ⟨0, 0, 0, 0⟩⟩, ⟨⟨0, 0, 0, 0⟩, ⟨0, 0, 0, 0⟩⟩, ⟨⟨0, 0, 0, 0⟩, ⟨0, 0, 0, 0⟩⟩, ⟨⟨0, 0, 0, 0⟩, ⟨0, 0, 0, 0⟩⟩, ⟨⟨0, 0, 0, 0⟩, ⟨0, 0, 0, 0⟩⟩⟩)) zeroValue41 rfl) rfl) (.inr fun _ _ _ h => (h.imp (Ls.of (.cons .k1 (.cons .k1 .nil)))).ro Rs.nil) fun b4 _ => ?_
      refine .dgo rfl (.n rfl) (G.call call46 (.cons .t2 (.cons .t3 (.cons .t2 (.cons .t1 .nil)))) (S_purse_Book_Take a0 a1 a2 a3 r2 hr3) .nil .nil (fun _ _ => rfl) (fun _ _ => rfl) rfl) (.inr fun _ _ _ h => (h.imp (Ls.of (.cons .k1 (.cons .k1 .nil)))).ro Rs.nil) fun _ _ => ?_
      refine .dpu rfl (.n rfl) (P.mov .t0) rfl rfl ?_
      refine .dpu rfl (.n rfl) (P.ext (v := Ag (purse_Book.cs r2.1)) .g0 rfl) rfl rfl ?_
      refine .dpu rfl (.n rfl) (P.ext (v := N r2.2) .t1 rfl) rfl rfl ?_
      refine .dgo rfl (.n rfl) (G.str .t1 .g1 .k0 (.mk (cs' := (purse_Book.cs r2.1)) sizeOf41 rfl rfl rfl rfl)) (.inr fun _ _ _ h => (h.imp (Ls.of (.cons .k1 (.cons .k1 .nil)))).ro Rs.nil) fun _ _ => ?_
      refine .dgo rfl (.n rfl) (OpV.g (OpP.toV (P.asg .t0)) rfl) (.inr fun _ _ _ h => (h.imp (Ls.of (.cons .k1 (.cons .k1 .nil)))).ro Rs.nil) fun _ _ => ?_
      refine .dnil ?_
      exact .dst b4 trivial (.cons Mm.m0 (.cons Mm.m1 (.cons Mm.m2 .nil))) (Ls.of (.cons .k0 (.cons .k0 (.cons .k0 .nil)))) .nil
  · refine .then ?_
    refine .seq ?_
    refine .reg rfl ?_
    refine .opp (P.mov .t0) rfl ?_
    rcases pxe_eq h with ⟨e7, hr6, h⟩ | ⟨r5, hr6, h⟩
    · refine .opg (G.callx call62 (.cons .t0 .nil) (S_escrow_check r2.2 (.er e7) hr6).er .nil .nil ?_) rfl fun _ h_ => h_.elim
      refine .thp ?_
      cases h
      exact .xer rfl
    · refine .opg (G.call call62 (.cons .t0 .nil) (S_escrow_check r2.2 (.ok r5) hr6).ok .nil .nil (fun _ _ => rfl) (fun _ _ => rfl) rfl) rfl fun _ _ => ?_
      refine .drop .k0 ?_
      refine .nil ?_
      refine .then ?_
      refine .reg rfl ?_
      refine .opp (P.mov .t1) rfl ?_
      refine .op (V.ld (v := Ag (purse_Book.cs r2.1)) .t1 .k0 (.agg isAgg41 sizeOf41 rfl rfl)) rfl ?_
      refine .opp (P.nilc .t1) rfl ?_
      refine .opg (G.str .t1 .t0 .k2 (StV.mid0 ho00 (.mk (cs' := (purse_Book.cs r2.1)) sizeOf41 rfl rfl rfl rfl))) rfl fun _ _ => ?_
      refine .nil ?_
      cases h
      refine .xokn ?_
      exact .finwn () (.r0 rfl) trivial (Ls.of (.cons .k0 .nil)) .nil
attribute [irreducible] escrow_take_int
noncomputable def escrow_put_int (a0 : purse_Book) (a1 : Int) (a2 : Int) (a3 : api_Wide) : Option (Px (purse_Book)) :=
  Option.bind (purse_Book_Give a0 a1 a2 a3) fun r2 => pxe (escrow_check r2.2) (fun e7 => some (.er e7)) fun r5 => some (.ok r2.1)
set_option maxRecDepth 20000 in
set_option maxHeartbeats 1000000 in
theorem S_escrow_put_int (b00 o00 : Nat) (T00 : TypeId) (pre00 post00 : List Value) (ho00 : pre00.length = o00) (a0 : purse_Book) (a1 : Int) (a2 : Int) (a3 : api_Wide) (r : Px (purse_Book)) (h : escrow_put_int a0 a1 a2 a3 = some r) :
    SpecX Tryz.prog 70 [pt b00 o00, N a1, N a2, Ag (api_Wide.cs a3)] [blk b00 T00 (pre00 ++ (purse_Book.cs a0) ++ post00)] [] (fun (r : purse_Book) (z : Unit) => True) mustCh r (fun r z => Tu []) (fun r z M => blk b00 T00 (pre00 ++ (purse_Book.cs r) ++ post00) ::  M) (fun r z M =>  M) := by
  refine .of func70 rfl ntmps70 rfl fun w0 D0 G0 => ?_
  unfold escrow_put_int at h
  refine .seq ?_
  refine .reg rfl ?_
  refine .opx (X.box (cs := (api_Wide.cs a3)) .t3 rfl) rfl fun b1 => ?_
  refine .nil ?_
  refine .then ?_
  refine .seq ?_
  obtain ⟨r2, hr3, h⟩ := bnd_eq h
  refine .dcut (γ := Nat) (φ := fun _ => True) (E1 := fun x_ => [(9, N r2.2), (8, pt x_ 0), (0, pt b00 o00)]) (L1 := fun x_ => [blk x_ 41 (purse_Book.cs r2.1), blk b1 30 (api_Wide.cs a3), blk b00 T00 (pre00 ++ (purse_Book.cs a0) ++ post00)]) (R1 := fun x_ => []) ?_ (fun b4 _ => ?_)
  · refine .draw 13 (.on 0 .pu (.on 1 .pu (.on 3 .pu (.on 4 .pu (.on 2 .ld (.on 5 .ld (.fk 6 10 (.on 7 .pu (.on 8 .pu (.on 9 .pu (.on 10 .go (.on 11 .go (.on 12 .go .nl)))))) (.on 6 .go (.on 7 .pu (.on 8 .pu (.on 9 .pu (.on 11 .go (.on 12 .go .nl))))))))))))) follows_mixed (.thn (.thn .bodx)) (by kernel_rfl) ?_
    refine .dpu rfl (.n rfl) (P.mov .g1) rfl rfl ?_
    refine .dpu rfl (.n rfl) (P.nilc .t0) rfl rfl ?_
    refine .dpu rfl (.n rfl) (P.mov .t3) rfl rfl ?_
    refine .dpu rfl (.n rfl) (P.mov .t4) rfl rfl ?_
    refine .dld rfl (.n rfl) (V.ld (v := Ag (purse_Book.cs a0)) .t2 .k1 (LdV.mid0 ho00 (.agg isAgg41 sizeOf41 rfl rfl))) (fun _ h => h) rfl rfl ?_
    refine .dld rfl (.n rfl) (V.ld (v := Ag (api_Wide.cs a3)) .t3 .k0 (.agg isAgg30 sizeOf30 rfl rfl)) (fun _ h => h) rfl rfl ?_
    refine .dfk ?_ ?_
    · refine .dgo rfl (.n rfl) (G.call call68 (.cons .t1 (.cons .t2 (.cons .t1 (.cons .t0 .nil)))) (S_purse_Book_Give a0 a1 a2 a3 r2 hr3) .nil .nil (fun _ _ => rfl) (fun _ _ => rfl) rfl) (.inr fun _ _ _ h => h) fun _ _ => ?_
      refine .dpu rfl (.n rfl) (P.mov .t0) rfl rfl ?_
      refine .dpu rfl (.n rfl) (P.ext (v := Ag (purse_Book.cs r2.1)) .g0 rfl) rfl rfl ?_
      refine .dpu rfl (.n rfl) (P.ext (v := N r2.2) .t1 rfl) rfl rfl ?_
      refine .dgo rfl (.n rfl) (OpX.g (X.alc (cs := (purse_Book.cs ⟨⟨⟨0, 0, 0, 0⟩, ⟨0, 0, 0, 0⟩⟩, ⟨⟨0, 0, 0, 0⟩, ⟨0, 0, 0, 0⟩⟩, ⟨⟨0, 0, 0, 0⟩, ⟨0, 0, 0, 0⟩⟩, ⟨⟨0, 0, 0, 0⟩, ⟨0, 0, 0, 0⟩⟩, ⟨⟨0, 0, 0, 0⟩, ⟨0, 0, 0, 0⟩⟩, ⟨⟨0, 0, 0, 0⟩, ⟨0, 0, 0, 0⟩⟩, ⟨⟨0, 0, 0, 0⟩, ⟨0, 0, 0, 0⟩⟩, ⟨⟨0, 0, 0, 0⟩, ⟨0, 0, 0, 0⟩⟩⟩)) zeroValue41 rfl) rfl) (.inr fun _ _ _ h => (h.imp (Ls.of (.cons .k1 (.cons .k1 .nil)))).ro Rs.nil) fun b4 _ => ?_
      refine .dgo rfl (.n rfl) (G.str .t2 .g0 .k0 (.mk (cs' := (purse_Book.cs r2.1)) sizeOf41 rfl rfl rfl rfl)) (.inr fun _ _ _ h => (h.imp (Ls.of (.cons .k1 (.cons .k1 .nil)))).ro Rs.nil) fun _ _ => ?_
      refine .dgo rfl (.n rfl) (OpV.g (OpP.toV (P.asg .t1)) rfl) (.inr fun _ _ _ h => (h.imp (Ls.of (.cons .k1 (.cons .k1 .nil)))).ro Rs.nil) fun _ _ => ?_
      refine .dnil ?_
      exact .dst b4 trivial (.cons Mm.m0 (.cons Mm.m1 (.cons Mm.m2 .nil))) (Ls.of (.cons .k0 (.cons .k0 (.cons .k0 .nil)))) .nil
    · refine .dgo rfl (.n rfl) (OpX.g (X.alc (cs := (purse_Book.cs ⟨⟨⟨0, 0, 0, 0⟩, ⟨0, 0, 0, 0⟩⟩, ⟨⟨0, 0, 0, 0⟩, ⟨0, 0, 0, 0⟩⟩, ⟨⟨0, 0, 0, 0⟩, ⟨0, 0, 0, 0⟩⟩, ⟨⟨0, 0, 0, 0⟩, ⟨0, 0, 0, 0⟩⟩, ⟨⟨0, 0, 0, 0⟩, ⟨0, 0, 0, 0⟩⟩, ⟨⟨0, 0, 0, 0⟩, ⟨0, 0, 0, 0⟩⟩, ⟨⟨0, 0, 0, 0⟩, ⟨0, 0, 0, 0⟩⟩, ⟨⟨0, 0, 0, 0⟩, ⟨0, 0, 0, 0⟩⟩⟩)) zeroValue41 rfl) rfl) (.inr fun _ _ _ h => (h.imp (Ls.of (.cons .k1 (.cons .k1 .nil)))).ro Rs.nil) fun b4 _ => ?_
      refine .dgo rfl (.n rfl) (G.call call68 (.cons .t2 (.cons .t3 (.cons .t2 (.cons .t1 .nil)))) (S_purse_Book_Give a0 a1 a2 a3 r2 hr3) .nil .nil (fun _ _ => rfl) (fun _ _ => rfl) rfl) (.inr fun _ _ _ h => (h.imp (Ls.of (.cons .k1 (.cons .k1 .nil)))).ro Rs.nil) fun _ _ => ?_
      refine .dpu rfl (.n rfl) (P.mov .t0) rfl rfl ?_
      refine .dpu rfl (.n rfl) (P.ext (v := Ag (purse_Book.cs r2.1)) .g0 rfl) rfl rfl ?_
      refine .dpu rfl (.n rfl) (P.ext (v := N r2.2) .t1 rfl) rfl rfl ?_
      refine .dgo rfl (.n rfl) (G.str .t1 .g1 .k0 (.mk (cs' := (purse_Book.cs r2.1)) sizeOf41 rfl rfl rfl rfl)) (.inr fun _ _ _ h => (h.imp (Ls.of (.cons .k1 (.cons .k1 .nil)))).ro Rs.nil) fun _ _ => ?_
      refine .dgo rfl (.n rfl) (OpV.g (OpP.toV (P.asg .t0)) rfl) (.inr fun _ _ _ h => (h.imp (Ls.of (.cons .k1 (.cons .k1 .nil)))).ro Rs.nil) fun _ _ => ?_
      refine .dnil ?_
      exact .dst b4 trivial (.cons Mm.m0 (.cons Mm.m1 (.cons Mm.m2 .nil))) (Ls.of (.cons .k0 (.cons .k0 (.cons .k0 .nil)))) .nil
  · refine .then ?_
    refine .seq ?_
    refine .reg rfl ?_
    refine .opp (P.mov .t0) rfl ?_
    rcases pxe_eq h with ⟨e7, hr6, h⟩ | ⟨r5, hr6, h⟩
    · refine .opg (G.callx call62 (.cons .t0 .nil) (S_escrow_check r2.2 (.er e7) hr6).er .nil .nil ?_) rfl fun _ h_ => h_.elim
      refine .thp ?_
      cases h
      exact .xer rfl
    · refine .opg (G.call call62 (.cons .t0 .nil) (S_escrow_check r2.2 (.ok r5) hr6).ok .nil .nil (fun _ _ => rfl) (fun _ _ => rfl) rfl) rfl fun _ _ => ?_
      refine .drop .k0 ?_
      refine .nil ?_
      refine .then ?_
      refine .reg rfl ?_
      refine .opp (P.mov .t1) rfl ?_
      refine .op (V.ld (v := Ag (purse_Book.cs r2.1)) .t1 .k0 (.agg isAgg41 sizeOf41 rfl rfl)) rfl ?_
      refine .opp (P.nilc .t1) rfl ?_
      refine .opg (G.str .t1 .t0 .k2 (StV.mid0 ho00 (.mk (cs' := (purse_Book.cs r2.1)) sizeOf41 rfl rfl rfl rfl))) rfl fun _ _ => ?_
      refine .nil ?_
      cases h
      refine .xokn ?_
      exact .finwn () (.r0 rfl) trivial (Ls.of (.cons .k0 .nil)) .nil
attribute [irreducible] escrow_put_int
noncomputable def escrow_need (a0 : Bool) (a1 : Int) : Option (Px (Unit)) :=
  if (!a0) = true then (some (.er a1)) else (some ((.ok ())))
set_option maxRecDepth 20000 in
set_option maxHeartbeats 1000000 in
theorem S_escrow_need (a0 : Bool) (a1 : Int) (r : Px (Unit)) (h : escrow_need a0 a1 = some r) :
    SpecX Tryz.prog 72 [Bo a0, N a1] [] [] (fun (r : Unit) (z : Unit) => True) mustCh r (fun r z => Tu []) (fun r z M =>  M) (fun r z M =>  M) := by
  refine .of func72 rfl ntmps72 rfl fun w0 D0 G0 => ?_
  unfold escrow_need at h
  refine .seq ?_
  refine .reg rfl ?_
  refine .opp (P.mov .t0) rfl ?_
  refine .opp (P.not .t0) rfl ?_
  refine .nil ?_
  refine .then ?_
  refine .cond .t0 (fun c1 => ?_) (fun c1 => ?_)
  · rw [if_pos c1] at h
    refine .reg rfl ?_
    refine .opp (P.mov .t0) rfl ?_
    refine .opp (P.bld (v := Ag (escrow_must.cs ⟨a1⟩)) (.cons .t0 .nil) (bld_run zeroValue111 runUnderlying111 pl_111 (by kernel_rfl))) rfl ?_
    refine .opp (P.mki .t0 runUnderlying111) rfl ?_
    refine .opg (G.pan .t0 ?_) rfl fun _ h_ => h_.elim
    cases h
    exact .xer rfl
  · rw [if_neg (ne_true_of_eq_false c1)] at h
    refine .skip ?_
    cases h
    refine .xokn ?_
    exact .finwn () (.r0 rfl) trivial (Ls.of .nil) .nil
attribute [irreducible] escrow_need
noncomputable def escrow_State_hold (a0 : escrow_State) (a1 : Int) (a2 : api_Wide) : Option (Px (escrow_State)) :=
  Option.bind (at_ (A2_api_Wide.list a0.Held) a1) fun (x2 : api_Wide) => pxe (escrow_need (wide_Add x2 a2).2 38) (fun e9 => some (.er e9)) fun r7 => Option.bind (at_ (A2_api_Wide.list a0.Held) a1) fun (x10 : api_Wide) => some ((.ok ((⟨a0.Side, a0.Time, a0.Purse, a0.Vault, a0.Nonces, A2_api_Wide.set a0.Held (a1).toNat (wide_Add x2 a2).1, a0.Burnt, a0.Locks⟩ : escrow_State))))
set_option maxRecDepth 20000 in
set_option maxHeartbeats 1000000 in
theorem S_escrow_State_hold (b00 : Nat) (a0 : escrow_State) (z00a : Value) (a1 : Int) (a2 : api_Wide) (r : Px (escrow_State)) (h : escrow_State_hold a0 a1 a2 = some r) :
    SpecX Tryz.prog 71 [pt b00 0, N a1, Ag (api_Wide.cs a2)] [blk b00 45 (escrow_State.cs a0 z00a), lst 76 3 z00a (a0.Locks.map escrow_Lock.cs)] [] (fun (r : escrow_State) (z : Unit) => True) mustCh r (fun r z => Tu []) (fun r z M => blk b00 45 (escrow_State.cs r z00a) :: lst 76 3 z00a (r.Locks.map escrow_Lock.cs) ::  M) (fun r z M =>  M) := by
  refine .of func71 rfl ntmps71 rfl fun w0 D0 G0 => ?_
  unfold escrow_State_hold at h
  refine .seq ?_
  refine .reg rfl ?_
  refine .opx (X.box (cs := (api_Wide.cs a2)) .t2 rfl) rfl fun b1 => ?_
  refine .nil ?_
  refine .then ?_
  refine .seq ?_
  obtain ⟨x2, hx3, h⟩ := bnd_eq h
  obtain ⟨i4, hi5, hx3⟩ := at_eq hx3
  have hi5_ : (a1).toNat = i4 := by rw [hi5]; rfl
  refine .dcut (γ := Nat) (φ := fun _ => True) (E1 := fun x_ => [(7, Bo (wide_Add x2 a2).2), (6, pt x_ 0), (0, pt b00 0), (1, N a1)]) (L1 := fun x_ => [blk x_ 30 (api_Wide.cs (wide_Add x2 a2).1), blk b1 30 (api_Wide.cs a2), blk b00 45 (escrow_State.cs a0 z00a), lst 76 3 z00a (a0.Locks.map escrow_Lock.cs)]) (R1 := fun x_ => []) ?_ (fun b6 _ => ?_)
  · refine .draw 14 (.on 0 .pu (.on 1 .pu (.on 2 .pu (.on 3 .pu (.on 4 .pu (.on 5 .ld (.on 6 .ld (.fk 7 11 (.on 8 .pu (.on 9 .pu (.on 10 .pu (.on 11 .go (.on 12 .go (.on 13 .go .nl)))))) (.on 7 .go (.on 8 .pu (.on 9 .pu (.on 10 .pu (.on 12 .go (.on 13 .go .nl)))))))))))))) follows_mixed (.thn (.thn .bodx)) (by kernel_rfl) ?_
    refine .dpu rfl (.n rfl) (P.mov .g1) rfl rfl ?_
    refine .dpu rfl (.n rfl) (P.mov .g3) rfl rfl ?_
    refine .dpu rfl (.n rfl) (P.nilc .t1) rfl rfl ?_
    refine .dpu rfl (.n rfl) (P.fa .t0 fa_45_5 rfl) rfl rfl ?_
    refine .dpu rfl (.n rfl) (P.iad (i := i4) (off' := (138 + i4 * 4)) .t1 hi5 .t0 runUnderlying39 sizeOf30 (lt_of_get hx3) rfl) rfl rfl ?_
    refine .dld rfl (.n rfl) (V.ld (v := Ag (api_Wide.cs x2)) .t0 .k1 (by rcases i4 with _ | _ | _ <;> first | (obtain rfl := Option.some.inj hx3; exact LdV.agg isAgg30 sizeOf30 rfl rfl) | (cases hx3; done))) (fun _ h => h) rfl rfl ?_
    refine .dld rfl (.n rfl) (V.ld (v := Ag (api_Wide.cs a2)) .t1 .k0 (.agg isAgg30 sizeOf30 rfl rfl)) (fun _ h => h) rfl rfl ?_
    refine .dfk ?_ ?_
    · refine .dgo rfl (.n rfl) (G.call call47 (.cons .t1 (.cons .t0 .nil)) (S_wide_Add x2 a2 _ rfl) .nil .nil (fun _ _ => rfl) (fun _ _ => rfl) rfl) (.inr fun _ _ _ h => h) fun _ _ => ?_
      refine .dpu rfl (.n rfl) (P.mov .t0) rfl rfl ?_
      refine .dpu rfl (.n rfl) (P.ext (v := Ag (api_Wide.cs (wide_Add x2 a2).1)) .g0 rfl) rfl rfl ?_
      refine .dpu rfl (.n rfl) (P.ext (v := Bo (wide_Add x2 a2).2) .t1 rfl) rfl rfl ?_
      refine .dgo rfl (.n rfl) (OpX.g (X.alc (cs := (api_Wide.cs ⟨0, 0, 0, 0⟩)) zeroValue30 rfl) rfl) (.inr fun _ _ _ h => (h.imp (Ls.of (.cons .k1 (.cons .k1 (.cons .k1 .nil))))).ro Rs.nil) fun b6 _ => ?_
      refine .dgo rfl (.n rfl) (G.str .t2 .g0 .k0 (.mk (cs' := (api_Wide.cs (wide_Add x2 a2).1)) sizeOf30 rfl rfl rfl rfl)) (.inr fun _ _ _ h => (h.imp (Ls.of (.cons .k1 (.cons .k1 (.cons .k1 .nil))))).ro Rs.nil) fun _ _ => ?_
      refine .dgo rfl (.n rfl) (OpV.g (OpP.toV (P.asg .t1)) rfl) (.inr fun _ _ _ h => (h.imp (Ls.of (.cons .k1 (.cons .k1 (.cons .k1 .nil))))).ro Rs.nil) fun _ _ => ?_
      refine .dnil ?_
      exact .dst b6 trivial (.cons Mm.m0 (.cons Mm.m1 (.cons Mm.m2 (.cons Mm.m3 .nil)))) (Ls.of (.cons .k0 (.cons .k0 (.cons .k0 (.cons .k0 .nil))))) .nil
    · refine .dgo rfl (.n rfl) (OpX.g (X.alc (cs := (api_Wide.cs ⟨0, 0, 0, 0⟩)) zeroValue30 rfl) rfl) (.inr fun _ _ _ h => (h.imp (Ls.of (.cons .k1 (.cons .k1 (.cons .k1 .nil))))).ro Rs.nil) fun b6 _ => ?_
      refine .dgo rfl (.n rfl) (G.call call47 (.cons .t2 (.cons .t1 .nil)) (S_wide_Add x2 a2 _ rfl) .nil .nil (fun _ _ => rfl) (fun _ _ => rfl) rfl) (.inr fun _ _ _ h => (h.imp (Ls.of (.cons .k1 (.cons .k1 (.cons .k1 .nil))))).ro Rs.nil) fun _ _ => ?_
      refine .dpu rfl (.n rfl) (P.mov .t0) rfl rfl ?_
      refine .dpu rfl (.n rfl) (P.ext (v := Ag (api_Wide.cs (wide_Add x2 a2).1)) .g0 rfl) rfl rfl ?_
      refine .dpu rfl (.n rfl) (P.ext (v := Bo (wide_Add x2 a2).2) .t1 rfl) rfl rfl ?_
      refine .dgo rfl (.n rfl) (G.str .t1 .g1 .k0 (.mk (cs' := (api_Wide.cs (wide_Add x2 a2).1)) sizeOf30 rfl rfl rfl rfl)) (.inr fun _ _ _ h => (h.imp (Ls.of (.cons .k1 (.cons .k1 (.cons .k1 .nil))))).ro Rs.nil) fun _ _ => ?_
      refine .dgo rfl (.n rfl) (OpV.g (OpP.toV (P.asg .t0)) rfl) (.inr fun _ _ _ h => (h.imp (Ls.of (.cons .k1 (.cons .k1 (.cons .k1 .nil))))).ro Rs.nil) fun _ _ => ?_
      refine .dnil ?_
      exact .dst b6 trivial (.cons Mm.m0 (.cons Mm.m1 (.cons Mm.m2 (.cons Mm.m3 .nil)))) (Ls.of (.cons .k0 (.cons .k0 (.cons .k0 (.cons .k0 .nil))))) .nil
  · refine .then ?_
    refine .seq ?_
    refine .reg rfl ?_
    refine .opp (P.mov .t0) rfl ?_
    rcases pxe_eq h with ⟨e9, hr8, h⟩ | ⟨r7, hr8, h⟩
    · refine .opg (G.callx call72 (.cons .t0 (.cons .k .nil)) (S_escrow_need (wide_Add x2 a2).2 38 (.er e9) hr8).er .nil .nil ?_) rfl fun _ h_ => h_.elim
      refine .thp ?_
      cases h
      exact .xer rfl
    · refine .opg (G.call call72 (.cons .t0 (.cons .k .nil)) (S_escrow_need (wide_Add x2 a2).2 38 (.ok r7) hr8).ok .nil .nil (fun _ _ => rfl) (fun _ _ => rfl) rfl) rfl fun _ _ => ?_
      refine .drop .k0 ?_
      refine .nil ?_
      refine .then ?_
      refine .drawl [blk b6 30 (api_Wide.cs (wide_Add x2 a2).1), blk b1 30 (api_Wide.cs a2), lst 76 3 z00a (a0.Locks.map escrow_Lock.cs)] [] (Ls.of (.cons .k0 (.cons .k0 (.cons .k1 .nil)))) Rs.nil 7 (.on 0 .pu (.on 1 .pu (.on 3 .pu (.on 4 .pu (.on 2 .ld (.on 5 .pu (.on 6 .go .nl))))))) follows_mixed .bodx (by kernel_rfl) ?_
      refine .dpu rfl (.n rfl) (P.mov .t1) rfl rfl ?_
      refine .dpu rfl (.n rfl) (P.mov .t2) rfl rfl ?_
      refine .dpu rfl (.n rfl) (P.nilc .t1) rfl rfl ?_
      refine .dpu rfl (.n rfl) (P.fa .t0 fa_45_5 rfl) rfl rfl ?_
      refine .dld rfl (.n rfl) (V.ld (v := Ag (api_Wide.cs (wide_Add x2 a2).1)) .t2 .k0 (.agg isAgg30 sizeOf30 rfl rfl)) (fun _ h => (h.imp (Ls.of (.cons .k0 (.cons .k0 (.cons .k1 .nil))))).ro Rs.nil) rfl rfl ?_
      obtain ⟨x10, hx11, h⟩ := bnd_eq h
      obtain ⟨i12, hi13, hx11⟩ := at_eq hx11
      have hi13_ : (a1).toNat = i12 := by rw [hi13]; rfl
      refine .dpu rfl (.n rfl) (P.iad (i := i12) (off' := (138 + i12 * 4)) .t2 hi13 .t1 runUnderlying39 sizeOf30 (lt_of_get hx11) rfl) rfl rfl ?_
      refine .dgo rfl (.n rfl) (G.str (cs' := (escrow_State.cs ⟨a0.Side, a0.Time, a0.Purse, a0.Vault, a0.Nonces, A2_api_Wide.set a0.Held i12 (wide_Add x2 a2).1, a0.Burnt, a0.Locks⟩ z00a)) .t1 .t0 .k2 (by rcases i12 with _ | _ | _ <;> first | (obtain rfl := Option.some.inj hx11; exact StV.mk sizeOf30 rfl rfl rfl rfl) | (cases hx11; done))) (.inr fun _ _ _ h => (h.imp (Ls.of (.cons .k1 (.cons .k1 (.cons .k1 .nil))))).ro Rs.nil) fun _ _ => ?_
      refine .conseq .k0 (q := blk b00 45 (escrow_State.cs ⟨a0.Side, a0.Time, a0.Purse, a0.Vault, a0.Nonces, A2_api_Wide.set a0.Held (a1).toNat (wide_Add x2 a2).1, a0.Burnt, a0.Locks⟩ z00a)) (fun _ h_ => by rw [hi13_]; exact h_) ?_
      refine .dnil ?_
      cases h
      refine .xokn ?_
      exact .finwn () (.r0 rfl) trivial (Ls.of (.cons .k0 (.cons .k2 .nil))) .nil
attribute [irreducible] escrow_State_hold
noncomputable def escrow_State_store (a0 : escrow_State) (a1 : api_Tx) : Option (Px (escrow_State)) :=
  pxe (escrow_take_int a0.Purse a1.From a1.Asset a1.Amount) (fun e4 => some (.er e4)) fun r2 => pxe (escrow_put_int a0.Vault a1.Inv.Router a1.Asset a1.Amount) (fun e7 => some (.er e7)) fun r5 => pxe (escrow_State_hold (⟨a0.Side, a0.Time, r2, r5, a0.Nonces, a0.Held, a0.Burnt, a0.Locks⟩ : escrow_State) a1.Asset a1.Amount) (fun e10 => some (.er e10)) fun r8 => some (.ok r8)
set_option maxRecDepth 20000 in
set_option maxHeartbeats 1000000 in
theorem S_escrow_State_store (b00 : Nat) (a0 : escrow_State) (z00a : Value) (a1 : api_Tx) (r : Px (escrow_State)) (h : escrow_State_store a0 a1 = some r) :
    SpecX Tryz.prog 63 [pt b00 0, Ag (api_Tx.cs a1)] [blk b00 45 (escrow_State.cs a0 z00a), lst 76 3 z00a (a0.Locks.map escrow_Lock.cs)] [] (fun (r : escrow_State) (z : Unit) => True) mustCh r (fun r z => Tu []) (fun r z M => blk b00 45 (escrow_State.cs r z00a) :: lst 76 3 z00a (r.Locks.map escrow_Lock.cs) ::  M) (fun r z M =>  M) := by
  refine .of func63 rfl ntmps63 rfl fun w0 D0 G0 => ?_
  unfold escrow_State_store at h
  refine .seq ?_
  refine .reg rfl ?_
  refine .opx (X.box (cs := (api_Tx.cs a1)) .t1 rfl) rfl fun b1 => ?_
  refine .nil ?_
  refine .then ?_
  refine .seq ?_
  refine .drawl [blk b1 36 (api_Tx.cs a1), lst 76 3 z00a (a0.Locks.map escrow_Lock.cs)] [] (Ls.of (.cons .k0 (.cons .k1 .nil))) Rs.nil 10 (.on 0 .pu (.on 1 .pu (.on 2 .pu (.on 3 .pu (.on 5 .pu (.on 7 .pu (.on 4 .ld (.on 6 .ld (.on 8 .ld (.on 9 .go .nl)))))))))) follows_mixed (.thn .bodx) (by kernel_rfl) ?_
  refine .dpu rfl (.n rfl) (P.mov .g1) rfl rfl ?_
  refine .dpu rfl (.n rfl) (P.nilc .t0) rfl rfl ?_
  refine .dpu rfl (.n rfl) (P.fa .t0 fa_45_2 rfl) rfl rfl ?_
  refine .dpu rfl (.n rfl) (P.fa .g1 fa_36_0 rfl) rfl rfl ?_
  refine .dpu rfl (.n rfl) (P.fa .g2 fa_36_3 rfl) rfl rfl ?_
  refine .dpu rfl (.n rfl) (P.fa .g3 fa_36_4 rfl) rfl rfl ?_
  refine .dld rfl (.n rfl) (V.ld (v := N a1.From) .t2 .k0 (.one isAgg3 rfl)) (fun _ h => (h.imp (Ls.of (.cons .k0 (.cons .k1 .nil)))).ro Rs.nil) rfl rfl ?_
  refine .dld rfl (.n rfl) (V.ld (v := N a1.Asset) .t2 .k0 (.one isAgg3 rfl)) (fun _ h => (h.imp (Ls.of (.cons .k0 (.cons .k1 .nil)))).ro Rs.nil) rfl rfl ?_
  refine .dld rfl (.n rfl) (V.ld (v := Ag (api_Wide.cs a1.Amount)) .t2 .k0 (.agg isAgg30 sizeOf30 rfl rfl)) (fun _ h => (h.imp (Ls.of (.cons .k0 (.cons .k1 .nil)))).ro Rs.nil) rfl rfl ?_
  refine .conseq .k1 (q := blk b00 45 ((List.take 2 (escrow_State.cs a0 z00a)) ++ (purse_Book.cs a0.Purse) ++ (List.drop (2 + 64) (escrow_State.cs a0 z00a)))) (fun _ h_ => by exact h_) ?_
  rcases pxe_eq h with ⟨e4, hr3, h⟩ | ⟨r2, hr3, h⟩
  · refine .dgo rfl (.n rfl) (G.callx call69 (.cons .t3 (.cons .t2 (.cons .t1 (.cons .t0 .nil)))) (S_escrow_take_int b00 2 45 (List.take 2 (escrow_State.cs a0 z00a)) (List.drop (2 + 64) (escrow_State.cs a0 z00a)) (by rfl) a0.Purse a1.From a1.Asset a1.Amount (.er e4) hr3).er (.cons .k0 .nil) .nil ?_) (.inr fun _ _ h_ _ => h_.elim) fun _ h_ => h_.elim
    refine .thp ?_
    cases h
    exact .xer rfl
  · refine .dgo rfl (.n rfl) (G.call call69 (.cons .t3 (.cons .t2 (.cons .t1 (.cons .t0 .nil)))) (S_escrow_take_int b00 2 45 (List.take 2 (escrow_State.cs a0 z00a)) (List.drop (2 + 64) (escrow_State.cs a0 z00a)) (by rfl) a0.Purse a1.From a1.Asset a1.Amount (.ok r2) hr3).ok (.cons .k0 .nil) .nil (fun _ _ => rfl) (fun _ _ => rfl) rfl) (.inr fun _ _ _ h => (h.imp (Ls.of (.cons .k1 (.cons .k1 .nil)))).ro Rs.nil) fun _ _ => ?_
    refine .conseq .k0 (q := blk b00 45 (escrow_State.cs ⟨a0.Side, a0.Time, r2, a0.Vault, a0.Nonces, a0.Held, a0.Burnt, a0.Locks⟩ z00a)) (fun _ h_ => by exact h_) ?_
    refine .drop .k0 ?_
    refine .dnil ?_
    refine .then ?_
    refine .seq ?_
    refine .drawl [blk b1 36 (api_Tx.cs a1), lst 76 3 z00a (a0.Locks.map escrow_Lock.cs)] [] (Ls.of (.cons .k1 (.cons .k1 .nil))) Rs.nil 11 (.on 0 .pu (.on 1 .pu (.on 2 .pu (.on 3 .pu (.on 4 .pu (.on 6 .pu (.on 8 .pu (.on 5 .ld (.on 7 .ld (.on 9 .ld (.on 10 .go .nl))))))))))) follows_mixed (.thn .bodx) (by kernel_rfl) ?_
    refine .dpu rfl (.n rfl) (P.mov .g1) rfl rfl ?_
    refine .dpu rfl (.n rfl) (P.nilc .t0) rfl rfl ?_
    refine .dpu rfl (.n rfl) (P.fa .t0 fa_45_3 rfl) rfl rfl ?_
    refine .dpu rfl (.n rfl) (P.fa .g1 fa_36_5 rfl) rfl rfl ?_
    refine .dpu rfl (.n rfl) (P.fa .t0 fa_32_2 rfl) rfl rfl ?_
    refine .dpu rfl (.n rfl) (P.fa .g2 fa_36_3 rfl) rfl rfl ?_
    refine .dpu rfl (.n rfl) (P.fa .g3 fa_36_4 rfl) rfl rfl ?_
    refine .dld rfl (.n rfl) (V.ld (v := N a1.Inv.Router) .t2 .k0 (.one isAgg3 rfl)) (fun _ h => (h.imp (Ls.of (.cons .k1 (.cons .k1 .nil)))).ro Rs.nil) rfl rfl ?_
    refine .dld rfl (.n rfl) (V.ld (v := N a1.Asset) .t2 .k0 (.one isAgg3 rfl)) (fun _ h => (h.imp (Ls.of (.cons .k1 (.cons .k1 .nil)))).ro Rs.nil) rfl rfl ?_
    refine .dld rfl (.n rfl) (V.ld (v := Ag (api_Wide.cs a1.Amount)) .t2 .k0 (.agg isAgg30 sizeOf30 rfl rfl)) (fun _ h => (h.imp (Ls.of (.cons .k1 (.cons .k1 .nil)))).ro Rs.nil) rfl rfl ?_
    refine .conseq .k0 (q := blk b00 45 ((List.take 66 (escrow_State.cs ⟨a0.Side, a0.Time, r2, a0.Vault, a0.Nonces, a0.Held, a0.Burnt, a0.Locks⟩ z00a)) ++ (purse_Book.cs a0.Vault) ++ (List.drop (66 + 64) (escrow_State.cs ⟨a0.Side, a0.Time, r2, a0.Vault, a0.Nonces, a0.Held, a0.Burnt, a0.Locks⟩ z00a)))) (fun _ h_ => by exact h_) ?_
    rcases pxe_eq h with ⟨e7, hr6, h⟩ | ⟨r5, hr6, h⟩
    · refine .dgo rfl (.n rfl) (G.callx call70 (.cons .t3 (.cons .t2 (.cons .t1 (.cons .t0 .nil)))) (S_escrow_put_int b00 66 45 (List.take 66 (escrow_State.cs ⟨a0.Side, a0.Time, r2, a0.Vault, a0.Nonces, a0.Held, a0.Burnt, a0.Locks⟩ z00a)) (List.drop (66 + 64) (escrow_State.cs ⟨a0.Side, a0.Time, r2, a0.Vault, a0.Nonces, a0.Held, a0.Burnt, a0.Locks⟩ z00a)) (by rfl) a0.Vault a1.Inv.Router a1.Asset a1.Amount (.er e7) hr6).er (.cons .k0 .nil) .nil ?_) (.inr fun _ _ h_ _ => h_.elim) fun _ h_ => h_.elim
      refine .thp ?_
      cases h
      exact .xer rfl
    · refine .dgo rfl (.n rfl) (G.call call70 (.cons .t3 (.cons .t2 (.cons .t1 (.cons .t0 .nil)))) (S_escrow_put_int b00 66 45 (List.take 66 (escrow_State.cs ⟨a0.Side, a0.Time, r2, a0.Vault, a0.Nonces, a0.Held, a0.Burnt, a0.Locks⟩ z00a)) (List.drop (66 + 64) (escrow_State.cs ⟨a0.Side, a0.Time, r2, a0.Vault, a0.Nonces, a0.Held, a0.Burnt, a0.Locks⟩ z00a)) (by rfl) a0.Vault a1.Inv.Router a1.Asset a1.Amount (.ok r5) hr6).ok (.cons .k0 .nil) .nil (fun _ _ => rfl) (fun _ _ => rfl) rfl) (.inr fun _ _ _ h => (h.imp (Ls.of (.cons .k1 (.cons .k1 .nil)))).ro Rs.nil) fun _ _ => ?_
      refine .conseq .k0 (q := blk b00 45 (escrow_State.cs ⟨a0.Side, a0.Time, r2, r5, a0.Nonces, a0.Held, a0.Burnt, a0.Locks⟩ z00a)) (fun _ h_ => by exact h_) ?_
      refine .drop .k0 ?_
      refine .dnil ?_
      refine .then ?_
      refine .reg rfl ?_
      refine .opp (P.mov .t1) rfl ?_
      refine .opp (P.fa .g1 fa_36_3 rfl) rfl ?_
      refine .op (V.ld (v := N a1.Asset) .t0 .k1 (.one isAgg3 rfl)) rfl ?_
      refine .opp (P.fa .t2 fa_36_4 rfl) rfl ?_
      refine .op (V.ld (v := Ag (api_Wide.cs a1.Amount)) .t0 .k1 (.agg isAgg30 sizeOf30 rfl rfl)) rfl ?_
      rcases pxe_eq h with ⟨e10, hr9, h⟩ | ⟨r8, hr9, h⟩
      · refine .opg (G.callx call71 (.cons .t2 (.cons .t1 (.cons .t0 .nil))) (S_escrow_State_hold b00 (⟨a0.Side, a0.Time, r2, r5, a0.Nonces, a0.Held, a0.Burnt, a0.Locks⟩ : escrow_State) z00a a1.Asset a1.Amount (.er e10) hr9).er (.cons .k0 (.cons .k1 .nil)) .nil ?_) rfl fun _ h_ => h_.elim
        cases h
        exact .xer rfl
      · refine .opg (G.call call71 (.cons .t2 (.cons .t1 (.cons .t0 .nil))) (S_escrow_State_hold b00 (⟨a0.Side, a0.Time, r2, r5, a0.Nonces, a0.Held, a0.Burnt, a0.Locks⟩ : escrow_State) z00a a1.Asset a1.Amount (.ok r8) hr9).ok (.cons .k0 (.cons .k1 .nil)) .nil (fun _ _ => rfl) (fun _ _ => rfl) rfl) rfl fun _ _ => ?_
        refine .drop .k0 ?_
        refine .nil ?_
        cases h
        refine .xokn ?_
        exact .finwn () (.r0 rfl) trivial (Ls.of (.cons .k0 (.cons .k0 .nil))) .nil
attribute [irreducible] escrow_State_store
noncomputable def escrow_State_vault (a0 : escrow_State) (a1 : Int) (a2 : Int) (a3 : api_Wide) : Option (Px (escrow_State)) :=
  Option.bind (purse_Book_Take a0.Vault a1 a2 a3) fun r2 => pxe (escrow_need (decide (r2.2 = 0)) 31) (fun e7 => some (.er e7)) fun r5 => some ((.ok (⟨a0.Side, a0.Time, a0.Purse, r2.1, a0.Nonces, a0.Held, a0.Burnt, a0.Locks⟩ : escrow_State)))
set_option maxRecDepth 20000 in
set_option maxHeartbeats 1000000 in
theorem S_escrow_State_vault (b00 : Nat) (a0 : escrow_State) (z00a : Value) (a1 : Int) (a2 : Int) (a3 : api_Wide) (r : Px (escrow_State)) (h : escrow_State_vault a0 a1 a2 a3 = some r) :
    SpecX Tryz.prog 73 [pt b00 0, N a1, N a2, Ag (api_Wide.cs a3)] [blk b00 45 (escrow_State.cs a0 z00a), lst 76 3 z00a (a0.Locks.map escrow_Lock.cs)] [] (fun (r : escrow_State) (z : Unit) => True) mustCh r (fun r z => Tu []) (fun r z M => blk b00 45 (escrow_State.cs r z00a) :: lst 76 3 z00a (r.Locks.map escrow_Lock.cs) ::  M) (fun r z M =>  M) := by
  refine .of func73 rfl ntmps73 rfl fun w0 D0 G0 => ?_
  unfold escrow_State_vault at h
  refine .seq ?_
  refine .reg rfl ?_
  refine .opx (X.box (cs := (api_Wide.cs a3)) .t3 rfl) rfl fun b1 => ?_
  refine .nil ?_
  refine .then ?_
  refine .seq ?_
  obtain ⟨r2, hr3, h⟩ := bnd_eq h
  refine .dcut (γ := Nat) (φ := fun _ => True) (E1 := fun x_ => [(9, N r2.2), (8, pt x_ 0), (0, pt b00 0)]) (L1 := fun x_ => [blk x_ 41 (purse_Book.cs r2.1), blk b1 30 (api_Wide.cs a3), blk b00 45 (escrow_State.cs a0 z00a), lst 76 3 z00a (a0.Locks.map escrow_Lock.cs)]) (R1 := fun x_ => []) ?_ (fun b4 _ => ?_)
  · refine .draw 14 (.on 0 .pu (.on 1 .pu (.on 2 .pu (.on 4 .pu (.on 5 .pu (.on 3 .ld (.on 6 .ld (.fk 7 11 (.on 8 .pu (.on 9 .pu (.on 10 .pu (.on 11 .go (.on 12 .go (.on 13 .go .nl)))))) (.on 7 .go (.on 8 .pu (.on 9 .pu (.on 10 .pu (.on 12 .go (.on 13 .go .nl)))))))))))))) follows_mixed (.thn (.thn .bodx)) (by kernel_rfl) ?_
    refine .dpu rfl (.n rfl) (P.mov .g1) rfl rfl ?_
    refine .dpu rfl (.n rfl) (P.nilc .t0) rfl rfl ?_
    refine .dpu rfl (.n rfl) (P.fa .t0 fa_45_3 rfl) rfl rfl ?_
    refine .dpu rfl (.n rfl) (P.mov .t3) rfl rfl ?_
    refine .dpu rfl (.n rfl) (P.mov .t4) rfl rfl ?_
    refine .dld rfl (.n rfl) (V.ld (v := Ag (purse_Book.cs a0.Vault)) .t2 .k1 (.agg isAgg41 sizeOf41 rfl rfl)) (fun _ h => h) rfl rfl ?_
    refine .dld rfl (.n rfl) (V.ld (v := Ag (api_Wide.cs a3)) .t3 .k0 (.agg isAgg30 sizeOf30 rfl rfl)) (fun _ h => h) rfl rfl ?_
    refine .dfk ?_ ?_
    · refine .dgo rfl (.n rfl) (G.call call46 (.cons .t1 (.cons .t2 (.cons .t1 (.cons .t0 .nil)))) (S_purse_Book_Take a0.Vault a1 a2 a3 r2 hr3) .nil .nil (fun _ _ => rfl) (fun _ _ => rfl) rfl) (.inr fun _ _ _ h => h) fun _ _ => ?_
      refine .dpu rfl (.n rfl) (P.mov .t0) rfl rfl ?_
      refine .dpu rfl (.n rfl) (P.ext (v := Ag (purse_Book.cs r2.1)) .g0 rfl) rfl rfl ?_
      refine .dpu rfl (.n rfl) (P.ext (v := N r2.2) .t1 rfl) rfl rfl ?_
      refine .dgo rfl (.n rfl) (OpX.g (X.alc (cs := (purse_Book.cs ⟨⟨⟨0, 0, 0, 0⟩, ⟨0, 0, 0, 0⟩⟩, ⟨⟨0, 0, 0, 0⟩, ⟨0, 0, 0, 0⟩⟩, ⟨⟨0, 0, 0, 0⟩, ⟨0, 0, 0, 0⟩⟩, ⟨⟨0, 0, 0, 0⟩, ⟨0, 0, 0, 0⟩⟩, ⟨⟨0, 0, 0, 0⟩, ⟨0, 0, 0, 0⟩⟩, ⟨⟨0, 0, 0, 0⟩, ⟨0, 0, 0, 0⟩⟩, ⟨⟨0, 0, 0, 0⟩, ⟨0, 0, 0, 0⟩⟩, ⟨⟨0, 0, 0, 0⟩, ⟨0, 0, 0, 0⟩⟩⟩)) zeroValue41 rfl) rfl) (.inr fun _ _ _ h => (h.imp (Ls.of (.cons .k1 (.cons .k1 (.cons .k1 .nil))))).ro Rs.nil) fun b4 _ => ?_
      refine .dgo rfl (.n rfl) (G.str .t2 .g0 .k0 (.mk (cs' := (purse_Book.cs r2.1)) sizeOf41 rfl rfl rfl rfl)) (.inr fun _ _ _ h => (h.imp (Ls.of (.cons .k1 (.cons .k1 (.cons .k1 .nil))))).ro Rs.nil) fun _ _ => ?_
      refine .dgo rfl (.n rfl) (OpV.g (OpP.toV (P.asg .t1)) rfl) (.inr fun _ _ _ h => (h.imp (Ls.of (.cons .k1 (.cons .k1 (.cons .k1 .nil))))).ro Rs.nil) fun _ _ => ?_
      refine .dnil ?_
      exact .dst b4 trivial (.cons Mm.m0 (.cons Mm.m1 (.cons Mm.m2 .nil))) (Ls.of (.cons .k0 (.cons .k0 (.cons .k0 (.cons .k0 .nil))))) .nil
    · refine .dgo rfl (.n rfl) (OpX.g (X.alc (cs := (purse_Book.cs ⟨⟨⟨0, 0, 0, 0⟩, ⟨0, 0, 0, 0⟩⟩, ⟨⟨0, 0, 0, 0⟩, ⟨0, 0, 0, 0⟩⟩, ⟨⟨0, 0, 0, 0⟩, ⟨0, 0, 0, 0⟩⟩, ⟨⟨0, 0, 0, 0⟩, ⟨0, 0, 0, 0⟩⟩, ⟨⟨0, 0, 0, 0⟩, ⟨0, 0, 0, 0⟩⟩, ⟨⟨0, 0, 0, 0⟩, ⟨0, 0, 0, 0⟩⟩, ⟨⟨0, 0, 0, 0⟩, ⟨0, 0, 0, 0⟩⟩, ⟨⟨0, 0, 0, 0⟩, ⟨0, 0, 0, 0⟩⟩⟩)) zeroValue41 rfl) rfl) (.inr fun _ _ _ h => (h.imp (Ls.of (.cons .k1 (.cons .k1 (.cons .k1 .nil))))).ro Rs.nil) fun b4 _ => ?_
      refine .dgo rfl (.n rfl) (G.call call46 (.cons .t2 (.cons .t3 (.cons .t2 (.cons .t1 .nil)))) (S_purse_Book_Take a0.Vault a1 a2 a3 r2 hr3) .nil .nil (fun _ _ => rfl) (fun _ _ => rfl) rfl) (.inr fun _ _ _ h => (h.imp (Ls.of (.cons .k1 (.cons .k1 (.cons .k1 .nil))))).ro Rs.nil) fun _ _ => ?_
      refine .dpu rfl (.n rfl) (P.mov .t0) rfl rfl ?_
      refine .dpu rfl (.n rfl) (P.ext (v := Ag (purse_Book.cs r2.1)) .g0 rfl) rfl rfl ?_
      refine .dpu rfl (.n rfl) (P.ext (v := N r2.2) .t1 rfl) rfl rfl ?_
      refine .dgo rfl (.n rfl) (G.str .t1 .g1 .k0 (.mk (cs' := (purse_Book.cs r2.1)) sizeOf41 rfl rfl rfl rfl)) (.inr fun _ _ _ h => (h.imp (Ls.of (.cons .k1 (.cons .k1 (.cons .k1 .nil))))).ro Rs.nil) fun _ _ => ?_
      refine .dgo rfl (.n rfl) (OpV.g (OpP.toV (P.asg .t0)) rfl) (.inr fun _ _ _ h => (h.imp (Ls.of (.cons .k1 (.cons .k1 (.cons .k1 .nil))))).ro Rs.nil) fun _ _ => ?_
      refine .dnil ?_
      exact .dst b4 trivial (.cons Mm.m0 (.cons Mm.m1 (.cons Mm.m2 .nil))) (Ls.of (.cons .k0 (.cons .k0 (.cons .k0 (.cons .k0 .nil))))) .nil
  · refine .then ?_
    refine .seq ?_
    refine .reg rfl ?_
    refine .opp (P.mov .t0) rfl ?_
    refine .opp (P.bin .t0 .k .eql) rfl ?_
    rcases pxe_eq h with ⟨e7, hr6, h⟩ | ⟨r5, hr6, h⟩
    · refine .opg (G.callx call72 (.cons .t0 (.cons .k .nil)) (S_escrow_need (decide (r2.2 = 0)) 31 (.er e7) hr6).er .nil .nil ?_) rfl fun _ h_ => h_.elim
      refine .thp ?_
      cases h
      exact .xer rfl
    · refine .opg (G.call call72 (.cons .t0 (.cons .k .nil)) (S_escrow_need (decide (r2.2 = 0)) 31 (.ok r5) hr6).ok .nil .nil (fun _ _ => rfl) (fun _ _ => rfl) rfl) rfl fun _ _ => ?_
      refine .drop .k0 ?_
      refine .nil ?_
      refine .then ?_
      refine .reg rfl ?_
      refine .opp (P.mov .t1) rfl ?_
      refine .op (V.ld (v := Ag (purse_Book.cs r2.1)) .t1 .k0 (.agg isAgg41 sizeOf41 rfl rfl)) rfl ?_
      refine .opp (P.nilc .t1) rfl ?_
      refine .opp (P.fa .t0 fa_45_3 rfl) rfl ?_
      refine .opg (G.str .t1 .t0 .k2 (.mk (cs' := (escrow_State.cs ⟨a0.Side, a0.Time, a0.Purse, r2.1, a0.Nonces, a0.Held, a0.Burnt, a0.Locks⟩ z00a)) sizeOf41 rfl rfl rfl rfl)) rfl fun _ _ => ?_
      refine .nil ?_
      cases h
      refine .xokn ?_
      exact .finwn () (.r0 rfl) trivial (Ls.of (.cons .k0 (.cons .k2 .nil))) .nil
attribute [irreducible] escrow_State_vault
noncomputable def escrow_State_free (a0 : escrow_State) (a1 : Int) (a2 : api_Wide) : Option (Px (escrow_State)) :=
  Option.bind (at_ (A2_api_Wide.list a0.Held) a1) fun (x2 : api_Wide) => pxe (escrow_need (wide_Sub x2 a2).2 38) (fun e9 => some (.er e9)) fun r7 => Option.bind (at_ (A2_api_Wide.list a0.Held) a1) fun (x10 : api_Wide) => some ((.ok ((⟨a0.Side, a0.Time, a0.Purse, a0.Vault, a0.Nonces, A2_api_Wide.set a0.Held (a1).toNat (wide_Sub x2 a2).1, a0.Burnt, a0.Locks⟩ : escrow_State))))
set_option maxRecDepth 20000 in
set_option maxHeartbeats 1000000 in
theorem S_escrow_State_free (b00 : Nat) (a0 : escrow_State) (z00a : Value) (a1 : Int) (a2 : api_Wide) (r : Px (escrow_State)) (h : escrow_State_free a0 a1 a2 = some r) :
    SpecX Tryz.prog 74 [pt b00 0, N a1, Ag (api_Wide.cs a2)] [blk b00 45 (escrow_State.cs a0 z00a), lst 76 3 z00a (a0.Locks.map escrow_Lock.cs)] [] (fun (r : escrow_State) (z : Unit) => True) mustCh r (fun r z => Tu []) (fun r z M => blk b00 45 (escrow_State.cs r z00a) :: lst 76 3 z00a (r.Locks.map escrow_Lock.cs) ::  M) (fun r z M =>  M) := by
  refine .of func74 rfl ntmps74 rfl fun w0 D0 G0 => ?_
  unfold escrow_State_free at h
  refine .seq ?_
  refine .reg rfl ?_
  refine .opx (X.box (cs := (api_Wide.cs a2)) .t2 rfl) rfl fun b1 => ?_
  refine .nil ?_
  refine .then ?_
  refine .seq ?_
  obtain ⟨x2, hx3, h⟩ := bnd_eq h
  obtain ⟨i4, hi5, hx3⟩ := at_eq hx3
  have hi5_ : (a1).toNat = i4 := by rw [hi5]; rfl
  refine .dcut (γ := Nat) (φ := fun _ => True) (E1 := fun x_ => [(7, Bo (wide_Sub x2 a2).2), (6, pt x_ 0), (0, pt b00 0), (1, N a1)]) (L1 := fun x_ => [blk x_ 30 (api_Wide.cs (wide_Sub x2 a2).1), blk b1 30 (api_Wide.cs a2), blk b00 45 (escrow_State.cs a0 z00a), lst 76 3 z00a (a0.Locks.map escrow_Lock.cs)]) (R1 := fun x_ => []) ?_ (fun b6 _ => ?_)
  · refine .draw 14 (.on 0 .pu (.on 1 .pu (.on 2 .pu (.on 3 .pu (.on 4 .pu (.on 5 .ld (.on 6 .ld (.fk 7 11 (.on 8 .pu (.on 9 .pu (.on 10 .pu (.on 11 .go (.on 12 .go (.on 13 .go .nl)))))) (.on 7 .go (.on 8 .pu (.on 9 .pu (.on 10 .pu (.on 12 .go (.on 13 .go .nl)))))))))))))) follows_mixed (.thn (.thn .bodx)) (by kernel_rfl) ?_
    refine .dpu rfl (.n rfl) (P.mov .g1) rfl rfl ?_
    refine .dpu rfl (.n rfl) (P.mov .g3) rfl rfl ?_
    refine .dpu rfl (.n rfl) (P.nilc .t1) rfl rfl ?_
    refine .dpu rfl (.n rfl) (P.fa .t0 fa_45_5 rfl) rfl rfl ?_
    refine .dpu rfl (.n rfl) (P.iad (i := i4) (off' := (138 + i4 * 4)) .t1 hi5 .t0 runUnderlying39 sizeOf30 (lt_of_get hx3) rfl) rfl rfl ?_
    refine .dld rfl (.n rfl) (V.ld (v := Ag (api_Wide.cs x2)) .t0 .k1 (by rcases i4 with _ | _ | _ <;> first | (obtain rfl := Option.some.inj hx3; exact LdV.agg isAgg30 sizeOf30 rfl rfl) | (cases hx3; done))) (fun _ h => h) rfl rfl ?_
    refine .dld rfl (.n rfl) (V.ld (v := Ag (api_Wide.cs a2)) .t1 .k0 (.agg isAgg30 sizeOf30 rfl rfl)) (fun _ h => h) rfl rfl ?_
    refine .dfk ?_ ?_
    · refine .dgo rfl (.n rfl) (G.call call39 (.cons .t1 (.cons .t0 .nil)) (S_wide_Sub x2 a2 _ rfl) .nil .nil (fun _ _ => rfl) (fun _ _ => rfl) rfl) (.inr fun _ _ _ h => h) fun _ _ => ?_
      refine .dpu rfl (.n rfl) (P.mov .t0) rfl rfl ?_
      refine .dpu rfl (.n rfl) (P.ext (v := Ag (api_Wide.cs (wide_Sub x2 a2).1)) .g0 rfl) rfl rfl ?_
      refine .dpu rfl (.n rfl) (P.ext (v := Bo (wide_Sub x2 a2).2) .t1 rfl) rfl rfl ?_
      refine .dgo rfl (.n rfl) (OpX.g (X.alc (cs := (api_Wide.cs ⟨0, 0, 0, 0⟩)) zeroValue30 rfl) rfl) (.inr fun _ _ _ h => (h.imp (Ls.of (.cons .k1 (.cons .k1 (.cons .k1 .nil))))).ro Rs.nil) fun b6 _ => ?_
      refine .dgo rfl (.n rfl) (G.str .t2 .g0 .k0 (.mk (cs' := (api_Wide.cs (wide_Sub x2 a2).1)) sizeOf30 rfl rfl rfl rfl)) (.inr fun _ _ _ h => (h.imp (Ls.of (.cons .k1 (.cons .k1 (.cons .k1 .nil))))).ro Rs.nil) fun _ _ => ?_
      refine .dgo rfl (.n rfl) (OpV.g (OpP.toV (P.asg .t1)) rfl) (.inr fun _ _ _ h => (h.imp (Ls.of (.cons .k1 (.cons .k1 (.cons .k1 .nil))))).ro Rs.nil) fun _ _ => ?_
      refine .dnil ?_
      exact .dst b6 trivial (.cons Mm.m0 (.cons Mm.m1 (.cons Mm.m2 (.cons Mm.m3 .nil)))) (Ls.of (.cons .k0 (.cons .k0 (.cons .k0 (.cons .k0 .nil))))) .nil
    · refine .dgo rfl (.n rfl) (OpX.g (X.alc (cs := (api_Wide.cs ⟨0, 0, 0, 0⟩)) zeroValue30 rfl) rfl) (.inr fun _ _ _ h => (h.imp (Ls.of (.cons .k1 (.cons .k1 (.cons .k1 .nil))))).ro Rs.nil) fun b6 _ => ?_
      refine .dgo rfl (.n rfl) (G.call call39 (.cons .t2 (.cons .t1 .nil)) (S_wide_Sub x2 a2 _ rfl) .nil .nil (fun _ _ => rfl) (fun _ _ => rfl) rfl) (.inr fun _ _ _ h => (h.imp (Ls.of (.cons .k1 (.cons .k1 (.cons .k1 .nil))))).ro Rs.nil) fun _ _ => ?_
      refine .dpu rfl (.n rfl) (P.mov .t0) rfl rfl ?_
      refine .dpu rfl (.n rfl) (P.ext (v := Ag (api_Wide.cs (wide_Sub x2 a2).1)) .g0 rfl) rfl rfl ?_
      refine .dpu rfl (.n rfl) (P.ext (v := Bo (wide_Sub x2 a2).2) .t1 rfl) rfl rfl ?_
      refine .dgo rfl (.n rfl) (G.str .t1 .g1 .k0 (.mk (cs' := (api_Wide.cs (wide_Sub x2 a2).1)) sizeOf30 rfl rfl rfl rfl)) (.inr fun _ _ _ h => (h.imp (Ls.of (.cons .k1 (.cons .k1 (.cons .k1 .nil))))).ro Rs.nil) fun _ _ => ?_
      refine .dgo rfl (.n rfl) (OpV.g (OpP.toV (P.asg .t0)) rfl) (.inr fun _ _ _ h => (h.imp (Ls.of (.cons .k1 (.cons .k1 (.cons .k1 .nil))))).ro Rs.nil) fun _ _ => ?_
      refine .dnil ?_
      exact .dst b6 trivial (.cons Mm.m0 (.cons Mm.m1 (.cons Mm.m2 (.cons Mm.m3 .nil)))) (Ls.of (.cons .k0 (.cons .k0 (.cons .k0 (.cons .k0 .nil))))) .nil
  · refine .then ?_
    refine .seq ?_
    refine .reg rfl ?_
    refine .opp (P.mov .t0) rfl ?_
    rcases pxe_eq h with ⟨e9, hr8, h⟩ | ⟨r7, hr8, h⟩
    · refine .opg (G.callx call72 (.cons .t0 (.cons .k .nil)) (S_escrow_need (wide_Sub x2 a2).2 38 (.er e9) hr8).er .nil .nil ?_) rfl fun _ h_ => h_.elim
      refine .thp ?_
      cases h
      exact .xer rfl
    · refine .opg (G.call call72 (.cons .t0 (.cons .k .nil)) (S_escrow_need (wide_Sub x2 a2).2 38 (.ok r7) hr8).ok .nil .nil (fun _ _ => rfl) (fun _ _ => rfl) rfl) rfl fun _ _ => ?_
      refine .drop .k0 ?_
      refine .nil ?_
      refine .then ?_
      refine .drawl [blk b6 30 (api_Wide.cs (wide_Sub x2 a2).1), blk b1 30 (api_Wide.cs a2), lst 76 3 z00a (a0.Locks.map escrow_Lock.cs)] [] (Ls.of (.cons .k0 (.cons .k0 (.cons .k1 .nil)))) Rs.nil 7 (.on 0 .pu (.on 1 .pu (.on 3 .pu (.on 4 .pu (.on 2 .ld (.on 5 .pu (.on 6 .go .nl))))))) follows_mixed .bodx (by kernel_rfl) ?_
      refine .dpu rfl (.n rfl) (P.mov .t1) rfl rfl ?_
      refine .dpu rfl (.n rfl) (P.mov .t2) rfl rfl ?_
      refine .dpu rfl (.n rfl) (P.nilc .t1) rfl rfl ?_
      refine .dpu rfl (.n rfl) (P.fa .t0 fa_45_5 rfl) rfl rfl ?_
      refine .dld rfl (.n rfl) (V.ld (v := Ag (api_Wide.cs (wide_Sub x2 a2).1)) .t2 .k0 (.agg isAgg30 sizeOf30 rfl rfl)) (fun _ h => (h.imp (Ls.of (.cons .k0 (.cons .k0 (.cons .k1 .nil))))).ro Rs.nil) rfl rfl ?_
      obtain ⟨x10, hx11, h⟩ := bnd_eq h
      obtain ⟨i12, hi13, hx11⟩ := at_eq hx11
      have hi13_ : (a1).toNat = i12 := by rw [hi13]; rfl
      refine .dpu rfl (.n rfl) (P.iad (i := i12) (off' := (138 + i12 * 4)) .t2 hi13 .t1 runUnderlying39 sizeOf30 (lt_of_get hx11) rfl) rfl rfl ?_
      refine .dgo rfl (.n rfl) (G.str (cs' := (escrow_State.cs ⟨a0.Side, a0.Time, a0.Purse, a0.Vault, a0.Nonces, A2_api_Wide.set a0.Held i12 (wide_Sub x2 a2).1, a0.Burnt, a0.Locks⟩ z00a)) .t1 .t0 .k2 (by rcases i12 with _ | _ | _ <;> first | (obtain rfl := Option.some.inj hx11; exact StV.mk sizeOf30 rfl rfl rfl rfl) | (cases hx11; done))) (.inr fun _ _ _ h => (h.imp (Ls.of (.cons .k1 (.cons .k1 (.cons .k1 .nil))))).ro Rs.nil) fun _ _ => ?_
      refine .conseq .k0 (q := blk b00 45 (escrow_State.cs ⟨a0.Side, a0.Time, a0.Purse, a0.Vault, a0.Nonces, A2_api_Wide.set a0.Held (a1).toNat (wide_Sub x2 a2).1, a0.Burnt, a0.Locks⟩ z00a)) (fun _ h_ => by rw [hi13_]; exact h_) ?_
      refine .dnil ?_
      cases h
      refine .xokn ?_
      exact .finwn () (.r0 rfl) trivial (Ls.of (.cons .k0 (.cons .k2 .nil))) .nil
attribute [irreducible] escrow_State_free
noncomputable def escrow_State_draw (a0 : escrow_State) (a1 : api_Tx) : Option (Px (escrow_State)) :=
  Option.bind (if (decide (a1.From ≥ 2)) = true then (pxe (escrow_need (decide (a1.From < 4)) 37) (fun e8 => Option.map Lo.rt (some (.er e8))) fun r6 => some (Lo.dn ())) else (pxe (escrow_need false 37) (fun e13 => Option.map Lo.rt (some (.er e13))) fun r11 => some (Lo.dn ()))) fun o25 => Lo.on o25 fun (_ : Unit) => pxe (escrow_State_vault a0 a1.From a1.Asset a1.Amount) (fun e18 => some (.er e18)) fun r16 => pxe (escrow_put_int r16.Purse a1.From a1.Asset a1.Amount) (fun e21 => some (.er e21)) fun r19 => pxe (escrow_State_free (⟨r16.Side, r16.Time, r19, r16.Vault, r16.Nonces, r16.Held, r16.Burnt, r16.Locks⟩ : escrow_State) a1.Asset a1.Amount) (fun e24 => some (.er e24)) fun r22 => some (.ok r22)
set_option maxRecDepth 20000 in
set_option maxHeartbeats 1000000 in
theorem S_escrow_State_draw (b00 : Nat) (a0 : escrow_State) (z00a : Value) (a1 : api_Tx) (r : Px (escrow_State)) (h : escrow_State_draw a0 a1 = some r) :
    SpecX Tryz.prog 64 [pt b00 0, Ag (api_Tx.cs a1)] [blk b00 45 (escrow_State.cs a0 z00a), lst 76 3 z00a (a0.Locks.map escrow_Lock.cs)] [] (fun (r : escrow_State) (z : Unit) => True) mustCh r (fun r z => Tu []) (fun r z M => blk b00 45 (escrow_State.cs r z00a) :: lst 76 3 z00a (r.Locks.map escrow_Lock.cs) ::  M) (fun r z M =>  M) := by
  refine .of func64 rfl ntmps64 rfl fun w0 D0 G0 => ?_
  unfold escrow_State_draw at h
  refine .seq ?_
  refine .reg rfl ?_
  refine .opx (X.box (cs := (api_Tx.cs a1)) .t1 rfl) rfl fun b1 => ?_
  refine .nil ?_
  refine .then ?_
  obtain ⟨o25, hj4, h⟩ := bnd_eq h
  refine .cuto (γ := Unit) h (E1 := fun (_ : Unit) _ => [(3, pt b1 0), (0, pt b00 0)]) (L1 := fun (_ : Unit) _ => [blk b1 36 (api_Tx.cs a1), blk b00 45 (escrow_State.cs a0 z00a), lst 76 3 z00a (a0.Locks.map escrow_Lock.cs)]) (R1 := fun (_ : Unit) _ => []) ?_ (fun _ _ h' => ?_)
  · refine .reg rfl ?_
    refine .opp (P.fa .g0 fa_36_0 rfl) rfl ?_
    refine .op (V.ld (v := N a1.From) .t0 .k0 (.one isAgg3 rfl)) rfl ?_
    refine .opp (P.bin .t0 .k .geq) rfl ?_
    refine .opp (P.mov .t0) rfl ?_
    refine .split .k0 (fun c5 => ?_) (fun c5 => ?_)
    · rw [if_pos c5] at hj4
      refine .gyes rfl .g0 ?_
      refine .opp (P.fa .g1 fa_36_0 rfl) rfl ?_
      refine .gyes rfl .g1 ?_
      refine .op (V.ld (v := N a1.From) .t0 .k0 (.one isAgg3 rfl)) rfl ?_
      refine .gyes rfl .g1 ?_
      refine .opp (P.bin .t0 .k .lss) rfl ?_
      refine .opp (P.pickT .t1 .t0) rfl ?_
      rcases pxe_eq hj4 with ⟨e8, hr7, hj4⟩ | ⟨r6, hr7, hj4⟩
      · refine .opg (G.callx call72 (.cons .t0 (.cons .k .nil)) (S_escrow_need (decide (a1.From < 4)) 37 (.er e8) hr7).er .nil .nil ?_) rfl fun _ h_ => h_.elim
        obtain ⟨x9, hx10, rfl⟩ := map_lrt hj4
        obtain rfl := rt_on h
        refine .thp ?_
        cases hx10
        exact .xer rfl
      · refine .opg (G.call call72 (.cons .t0 (.cons .k .nil)) (S_escrow_need (decide (a1.From < 4)) 37 (.ok r6) hr7).ok .nil .nil (fun _ _ => rfl) (fun _ _ => rfl) rfl) rfl fun _ _ => ?_
        refine .drop .k0 ?_
        refine .nil ?_
        cases hj4
        exact .sty () () (dn_on h) (.cons Mm.m0 (.cons Mm.m1 .nil)) (.of (.cons .k0 (.cons .k0 (.cons .k0 .nil)))) .nil
    · rw [if_neg (ne_true_of_eq_false c5)] at hj4
      refine .gno rfl .g0 rfl rfl ?_
      refine .gno rfl .g0 rfl rfl ?_
      refine .gno rfl .g0 rfl rfl ?_
      refine .opp (P.pickF .t0 .k) rfl ?_
      rcases pxe_eq hj4 with ⟨e13, hr12, hj4⟩ | ⟨r11, hr12, hj4⟩
      · refine .opg (G.callx call72 (.cons .t0 (.cons .k .nil)) (S_escrow_need false 37 (.er e13) hr12).er .nil .nil ?_) rfl fun _ h_ => h_.elim
        obtain ⟨x14, hx15, rfl⟩ := map_lrt hj4
        obtain rfl := rt_on h
        refine .thp ?_
        cases hx15
        exact .xer rfl
      · refine .opg (G.call call72 (.cons .t0 (.cons .k .nil)) (S_escrow_need false 37 (.ok r11) hr12).ok .nil .nil (fun _ _ => rfl) (fun _ _ => rfl) rfl) rfl fun _ _ => ?_
        refine .drop .k0 ?_
        refine .nil ?_
        cases hj4
        exact .sty () () (dn_on h) (.cons Mm.m0 (.cons Mm.m1 .nil)) (.of (.cons .k0 (.cons .k0 (.cons .k0 .nil)))) .nil
  · replace h := h'
    refine .seq ?_
    refine .reg rfl ?_
    refine .opp (P.mov .g1) rfl ?_
    refine .opp (P.fa .g1 fa_36_0 rfl) rfl ?_
    refine .op (V.ld (v := N a1.From) .t0 .k0 (.one isAgg3 rfl)) rfl ?_
    refine .opp (P.fa .g2 fa_36_3 rfl) rfl ?_
    refine .op (V.ld (v := N a1.Asset) .t0 .k0 (.one isAgg3 rfl)) rfl ?_
    refine .opp (P.fa .g3 fa_36_4 rfl) rfl ?_
    refine .op (V.ld (v := Ag (api_Wide.cs a1.Amount)) .t0 .k0 (.agg isAgg30 sizeOf30 rfl rfl)) rfl ?_
    rcases pxe_eq h with ⟨e18, hr17, h⟩ | ⟨r16, hr17, h⟩
    · refine .opg (G.callx call73 (.cons .t3 (.cons .t2 (.cons .t1 (.cons .t0 .nil)))) (S_escrow_State_vault b00 a0 z00a a1.From a1.Asset a1.Amount (.er e18) hr17).er (.cons .k1 (.cons .k1 .nil)) .nil ?_) rfl fun _ h_ => h_.elim
      refine .thp ?_
      cases h
      exact .xer rfl
    · refine .opg (G.call call73 (.cons .t3 (.cons .t2 (.cons .t1 (.cons .t0 .nil)))) (S_escrow_State_vault b00 a0 z00a a1.From a1.Asset a1.Amount (.ok r16) hr17).ok (.cons .k1 (.cons .k1 .nil)) .nil (fun _ _ => rfl) (fun _ _ => rfl) rfl) rfl fun _ _ => ?_
      refine .drop .k0 ?_
      refine .nil ?_
      refine .then ?_
      refine .seq ?_
      refine .drawl [lst 76 3 z00a (r16.Locks.map escrow_Lock.cs), blk b1 36 (api_Tx.cs a1)] [] (Ls.of (.cons .k1 (.cons .k1 .nil))) Rs.nil 10 (.on 0 .pu (.on 1 .pu (.on 2 .pu (.on 3 .pu (.on 5 .pu (.on 7 .pu (.on 4 .ld (.on 6 .ld (.on 8 .ld (.on 9 .go .nl)))))))))) follows_mixed (.thn .bodx) (by kernel_rfl) ?_
      refine .dpu rfl (.n rfl) (P.mov .g1) rfl rfl ?_
      refine .dpu rfl (.n rfl) (P.nilc .t0) rfl rfl ?_
      refine .dpu rfl (.n rfl) (P.fa .t0 fa_45_2 rfl) rfl rfl ?_
      refine .dpu rfl (.n rfl) (P.fa .g1 fa_36_0 rfl) rfl rfl ?_
      refine .dpu rfl (.n rfl) (P.fa .g2 fa_36_3 rfl) rfl rfl ?_
      refine .dpu rfl (.n rfl) (P.fa .g3 fa_36_4 rfl) rfl rfl ?_
      refine .dld rfl (.n rfl) (V.ld (v := N a1.From) .t2 .k1 (.one isAgg3 rfl)) (fun _ h => (h.imp (Ls.of (.cons .k1 (.cons .k1 .nil)))).ro Rs.nil) rfl rfl ?_
      refine .dld rfl (.n rfl) (V.ld (v := N a1.Asset) .t2 .k1 (.one isAgg3 rfl)) (fun _ h => (h.imp (Ls.of (.cons .k1 (.cons .k1 .nil)))).ro Rs.nil) rfl rfl ?_
      refine .dld rfl (.n rfl) (V.ld (v := Ag (api_Wide.cs a1.Amount)) .t2 .k1 (.agg isAgg30 sizeOf30 rfl rfl)) (fun _ h => (h.imp (Ls.of (.cons .k1 (.cons .k1 .nil)))).ro Rs.nil) rfl rfl ?_
      refine .conseq .k0 (q := blk b00 45 ((List.take 2 (escrow_State.cs r16 z00a)) ++ (purse_Book.cs r16.Purse) ++ (List.drop (2 + 64) (escrow_State.cs r16 z00a)))) (fun _ h_ => by exact h_) ?_
      rcases pxe_eq h with ⟨e21, hr20, h⟩ | ⟨r19, hr20, h⟩
      · refine .dgo rfl (.n rfl) (G.callx call70 (.cons .t3 (.cons .t2 (.cons .t1 (.cons .t0 .nil)))) (S_escrow_put_int b00 2 45 (List.take 2 (escrow_State.cs r16 z00a)) (List.drop (2 + 64) (escrow_State.cs r16 z00a)) (by rfl) r16.Purse a1.From a1.Asset a1.Amount (.er e21) hr20).er (.cons .k0 .nil) .nil ?_) (.inr fun _ _ h_ _ => h_.elim) fun _ h_ => h_.elim
        refine .thp ?_
        cases h
        exact .xer rfl
      · refine .dgo rfl (.n rfl) (G.call call70 (.cons .t3 (.cons .t2 (.cons .t1 (.cons .t0 .nil)))) (S_escrow_put_int b00 2 45 (List.take 2 (escrow_State.cs r16 z00a)) (List.drop (2 + 64) (escrow_State.cs r16 z00a)) (by rfl) r16.Purse a1.From a1.Asset a1.Amount (.ok r19) hr20).ok (.cons .k0 .nil) .nil (fun _ _ => rfl) (fun _ _ => rfl) rfl) (.inr fun _ _ _ h => (h.imp (Ls.of (.cons .k1 (.cons .k1 .nil)))).ro Rs.nil) fun _ _ => ?_
        refine .conseq .k0 (q := blk b00 45 (escrow_State.cs ⟨r16.Side, r16.Time, r19, r16.Vault, r16.Nonces, r16.Held, r16.Burnt, r16.Locks⟩ z00a)) (fun _ h_ => by exact h_) ?_
        refine .drop .k0 ?_
        refine .dnil ?_
        refine .then ?_
        refine .reg rfl ?_
        refine .opp (P.mov .t1) rfl ?_
        refine .opp (P.fa .g1 fa_36_3 rfl) rfl ?_
        refine .op (V.ld (v := N a1.Asset) .t0 .k2 (.one isAgg3 rfl)) rfl ?_
        refine .opp (P.fa .t2 fa_36_4 rfl) rfl ?_
        refine .op (V.ld (v := Ag (api_Wide.cs a1.Amount)) .t0 .k2 (.agg isAgg30 sizeOf30 rfl rfl)) rfl ?_
        rcases pxe_eq h with ⟨e24, hr23, h⟩ | ⟨r22, hr23, h⟩
        · refine .opg (G.callx call74 (.cons .t2 (.cons .t1 (.cons .t0 .nil))) (S_escrow_State_free b00 (⟨r16.Side, r16.Time, r19, r16.Vault, r16.Nonces, r16.Held, r16.Burnt, r16.Locks⟩ : escrow_State) z00a a1.Asset a1.Amount (.er e24) hr23).er (.cons .k0 (.cons .k0 .nil)) .nil ?_) rfl fun _ h_ => h_.elim
          cases h
          exact .xer rfl
        · refine .opg (G.call call74 (.cons .t2 (.cons .t1 (.cons .t0 .nil))) (S_escrow_State_free b00 (⟨r16.Side, r16.Time, r19, r16.Vault, r16.Nonces, r16.Held, r16.Burnt, r16.Locks⟩ : escrow_State) z00a a1.Asset a1.Amount (.ok r22) hr23).ok (.cons .k0 (.cons .k0 .nil)) .nil (fun _ _ => rfl) (fun _ _ => rfl) rfl) rfl fun _ _ => ?_
          refine .drop .k0 ?_
          refine .nil ?_
          cases h
          refine .xokn ?_
          exact .finwn () (.r0 rfl) trivial (Ls.of (.cons .k0 (.cons .k0 .nil))) .nil
attribute [irreducible] escrow_State_draw
noncomputable def field_New  : field_Out :=
  (⟨[], 0, true⟩ : field_Out)
set_option maxRecDepth 20000 in
set_option maxHeartbeats 1000000 in
theorem S_field_New  (r : field_Out) (h : field_New  = r) :
    SpecF Tryz.prog 80 [] [] [] (fun z : Nat × Value => True) (fun z => pt z.1 0) (fun z M => blk z.1 143 (field_Out.cs r z.2) :: lst 5 1 z.2 (r.b.map (fun x => [B8 x])) ::  M) (fun z M =>  M) := by
  refine .of func80 rfl ntmps80 rfl fun w0 D0 G0 => ?_
  unfold field_New at h
  refine .seq ?_
  refine .reg rfl ?_
  refine .op0 (OpP.toV (P.asg .k)) rfl ?_
  refine .nil ?_
  refine .then ?_
  refine .seq ?_
  refine .reg rfl ?_
  refine .opp (P.bld (v := Ag (field_Out.cs ⟨[], 0, true⟩ nilSl)) (.cons .k .nil) (bld_run zeroValue143 runUnderlying143 pl_143 (by kernel_rfl))) rfl ?_
  refine .opx (X.box (cs := (field_Out.cs ⟨[], 0, true⟩ nilSl)) .t0 rfl) rfl fun b1 => ?_
  refine .opp (P.asg .t0) rfl ?_
  refine .nil ?_
  refine .then ?_
  refine .ret ?_
  subst h
  refine .lnil 5 1 ?_
  exact .finw ⟨b1, nilSl⟩ (.r1 rfl (.tmp .g0)) trivial (Ls.of (.cons .k1 (.cons .k0 .nil))) .nil
attribute [irreducible] field_New
noncomputable def slices_Backward_byte  : Unit :=
  ()
set_option maxRecDepth 20000 in
set_option maxHeartbeats 1000000 in
theorem S_slices_Backward_byte (v00 : Value) (hv00 : IsSl v00) (r : Unit) (h : slices_Backward_byte  = r) :
    SpecF Tryz.prog 107 [v00] [] [] (fun z : Nat => True) (fun z => fnv 119 [pt z 0]) (fun z M => blk z 131 [v00] ::  M) (fun z M =>  M) := by
  refine .of func107 rfl ntmps107 rfl fun w0 D0 G0 => ?_
  unfold slices_Backward_byte at h
  refine .seq ?_
  refine .reg rfl ?_
  refine .opx (X.box (cs := [v00]) .t0 hv00.cells) rfl fun b1 => ?_
  refine .op0 (OpP.toV (P.asg .k)) rfl ?_
  refine .nil ?_
  refine .then ?_
  refine .seq ?_
  refine .reg rfl ?_
  refine .opp (P.mkf (.cons .t0 .nil)) rfl ?_
  refine .opp (P.asg .t0) rfl ?_
  refine .nil ?_
  refine .then ?_
  refine .ret ?_
  subst h
  exact .finw b1 (.r1 rfl (.tmp .g0)) trivial (Ls.of (.cons .k0 .nil)) .nil
attribute [irreducible] slices_Backward_byte
noncomputable def blob_Num (a0 : Int) (a1 : Int) : Option ((List UInt8)) :=
  grd (0 ≤ (if 8 < (if 0 > a1 then 0 else a1) then 8 else if 0 > a1 then 0 else a1) ∧ (if 8 < (if 0 > a1 then 0 else a1) then 8 else if 0 > a1 then 0 else a1) * 1 ≤ 140737488355328) <| Option.bind (loopW (fun (s14 : Int × (List UInt8) × (List UInt8) × Int) => if (decide (s14.1 ≥ 0)) = true then (Option.bind (at_ s14.2.1 s14.1) fun (x27 : UInt8) => Option.bind (at_ s14.2.1 s14.1) fun (x36 : UInt8) => some (.nx ((IntKind.i64.wrap (s14.1 - 1), (s14.2.1.set (s14.1).toNat (B8i s14.2.2.2 : UInt8)), (s14.2.1.set (s14.1).toNat (B8i s14.2.2.2 : UInt8)), shrK .i64 s14.2.2.2 8)))) else (some (.br (s14.1, s14.2.1, s14.2.1, s14.2.2.2)))) ((IntKind.i64.wrap (((List.replicate (if 8 < (if 0 > a1 then 0 else a1) then 8 else if 0 > a1 then 0 else a1).toNat (0 : UInt8)).length : Int) - 1), (List.replicate (if 8 < (if 0 > a1 then 0 else a1) then 8 else if 0 > a1 then 0 else a1).toNat (0 : UInt8)), (List.replicate (if 8 < (if 0 > a1 then 0 else a1) then 8 else if 0 > a1 then 0 else a1).toNat (0 : UInt8)), a0))) fun o16 => Lo.on o16 fun (s14 : Int × (List UInt8) × (List UInt8) × Int) => some s14.2.1
set_option maxRecDepth 20000 in
set_option maxHeartbeats 1000000 in
theorem S_blob_Num (a0 : Int) (a1 : Int) (r : (List UInt8)) (h : blob_Num a0 a1 = some r) :
    SpecF Tryz.prog 94 [N a0, N a1] [] [] (fun z : Value => True) (fun z => z) (fun z M => lst 5 1 z (r.map (fun x => [B8 x])) ::  M) (fun z M =>  M) := by
  refine .of func94 rfl ntmps94 rfl fun w0 D0 G0 => ?_
  unfold blob_Num at h
  refine .seq ?_
  refine .reg rfl ?_
  refine .opx (X.box (cs := [N a0]) .t0 rfl) rfl fun b1 => ?_
  refine .op0 (OpP.toV (P.asg .k)) rfl ?_
  refine .nil ?_
  refine .then ?_
  refine .seq ?_
  refine .reg rfl ?_
  refine .opp (P.mov .t1) rfl ?_
  refine .opp (P.max2 .t0 .k) rfl ?_
  refine .opp (P.min2 .t0 .k) rfl ?_
  obtain ⟨hb3, h⟩ := grd_eq h
  refine .opg (G.mks (by_ := 1) (cs := [B8 0]) .g0 .t0 runUnderlying131 sizeOf5 typeInfo5 rfl zeroValue5 rfl rfl rfl rfl hb3.1 hb3.2 rfl) rfl fun u2 _ => ?_
  refine .conseq .k0 (q := lst 5 1 u2 ((List.replicate (if 8 < (if 0 > a1 then 0 else a1) then 8 else if 0 > a1 then 0 else a1).toNat (0 : UInt8)).map (fun x => [B8 x]))) (fun _ hh => by simpa [List.map_replicate] using hh) ?_
  refine .opx (X.alc (cs := [nilSl]) zeroValue131 rfl) rfl fun b4 => ?_
  refine .onel .k1 fun ho5 => ?_
  refine .opg (G.str .t1 .g0 .k0 (.mk1 (cs' := [u2]) sizeOf131 rfl ho5 rfl rfl)) rfl fun _ _ => ?_
  refine .nil ?_
  refine .then ?_
  refine .seq ?_
  refine .seq ?_
  refine .reg rfl ?_
  refine .op (V.ld (v := u2) .g0 .k0 (.one isAgg131 rfl)) rfl ?_
  refine .cell .k1 fun hv6 => ?_
  refine .opg (G.call call107 (.cons .t0 .nil) (S_slices_Backward_byte u2 hv6 _ rfl) .nil .nil (fun _ _ => rfl) (fun _ _ => rfl) rfl) rfl fun b7 _ => ?_
  refine .nil ?_
  refine .then ?_
  refine .block ?_
  refine .rangeF rfl .t0 call119 func119 rfl ntmps119 rfl fun a8 O9 D10 l11 ha12 hO13 => ?_
  refine .seq ?_
  refine .reg rfl ?_
  refine .op (V.ld (v := u2) .g1 .k2 (.one isAgg131 rfl)) rfl ?_
  refine .op (V.lnl (n := (List.replicate (if 8 < (if 0 > a1 then 0 else a1) then 8 else if 0 > a1 then 0 else a1).toNat (0 : UInt8)).length) .t0 .k4 map_len runUnderlying131) rfl ?_
  refine .opp (P.bin .t0 .k .sub) rfl ?_
  refine .opp (P.asg .t0) rfl ?_
  refine .nil ?_
  refine .then ?_
  refine .block ?_
  obtain ⟨o16, ho17, h⟩ := bnd_eq h
  refine .loopW (γ := Unit) (fun (s14 : Int × (List UInt8) × (List UInt8) × Int) z15 => [(3, N s14.1), (0, yv l11), (1, pt b7 0)]) (fun (s14 : Int × (List UInt8) × (List UInt8) × Int) z15 => [blk b7 131 [u2], blk b4 131 [u2], blk b1 3 [N s14.2.2.2], lst 5 1 u2 (s14.2.1.map (fun x => [B8 x])), obj l11 (O9 .ready none), obj D10 (.deferred (some []))]) (fun (s14 : Int × (List UInt8) × (List UInt8) × Int) z15 => []) () ho17 (.cons Mm.m0 (.cons Mm.m1 (.cons Mm.m2 .nil))) (.of (.cons .k2 (.cons .k2 (.cons .k3 (.cons .k2 (.cons .k0 (.cons .k0 .nil))))))) .nil (fun n22 s14 z15 hr20 => ?_)
  obtain ⟨ct21, hc18, hn19⟩ := loopK_at hr20
  refine .seq ?_
  refine .seq ?_
  refine .reg rfl ?_
  refine .opp (P.mov .g0) rfl ?_
  refine .opp (P.bin .t0 .k .geq) rfl ?_
  refine .nil ?_
  refine .then ?_
  refine .cond .t0 (fun c23 => ?_) (fun c23 => ?_)
  · rw [if_pos c23] at hc18
    refine .skip ?_
    refine .then ?_
    refine .seq ?_
    refine .block ?_
    refine .seq ?_
    refine .regY 6 rfl ?_
    refine .opp (P.mov .g1) rfl ?_
    refine .opp (P.mov .g1) rfl ?_
    refine .op (V.ld (v := u2) .g4 .k0 (.one isAgg131 rfl)) rfl ?_
    refine .opp (P.mov .g3) rfl ?_
    obtain ⟨x27, hx28, hc18⟩ := bnd_eq hc18
    obtain ⟨i29, hi30, hx28⟩ := at_eq hx28
    have hi30_ : (s14.1).toNat = i29 := by rw [hi30]; rfl
    refine .ixql .k3 (map_get hx28) fun p24 q25 hq26 => ?_
    refine .opp (P.ixi (i := i29) .t0 hi30 .t0 hq26 runUnderlying131 sizeOf5) rfl ?_
    refine .op (V.ldxl0 (u := B8 x27) .t0 hq26 .k3 (map_get hx28) (.one isAgg5 rfl)) rfl ?_
    refine .nil ?_
    refine .then ?_
    refine .yield (ps := [13, 14]) .t2 (.cons .t1 (.cons .t0 .nil)) hO13 .k4 rfl rfl (by decide) fun a31 ha32 => ?_
    refine .reg rfl ?_
    refine .opp (P.asg .t0) rfl ?_
    refine .nil ?_
    refine .then ?_
    refine .bg rfl hO13 .k0 ?_
    refine .block ?_
    refine .seq ?_
    refine .reg rfl ?_
    refine .op (V.ld (v := u2) .t2 .k2 (.one isAgg131 rfl)) rfl ?_
    refine .opp (P.mov .t1) rfl ?_
    refine .op (V.ld (v := N s14.2.2.2) .g3 .k3 (.one isAgg3 rfl)) rfl ?_
    refine .opp (P.cnvB8 (m := s14.2.2.2) .t0 runUnderlying3 runUnderlying5) rfl ?_
    obtain ⟨x36, hx37, hc18⟩ := bnd_eq hc18
    obtain ⟨i38, hi39, hx37⟩ := at_eq hx37
    have hi39_ : (s14.1).toNat = i38 := by rw [hi39]; rfl
    refine .ixql .k4 (map_get hx37) fun p33 q34 hq35 => ?_
    refine .opp (P.ixi (i := i38) .t1 hi39 .t1 hq35 runUnderlying131 sizeOf5) rfl ?_
    refine .opg (G.stx (off := q34) (k := 0) (cs' := [B8 (B8i s14.2.2.2)]) .t1 .t0 hq35 .k4 (map_get hx37) (.mk sizeOf5 rfl rfl rfl rfl)) rfl fun _ _ => ?_
    refine .conseq .k0 (q := lst 5 1 u2 ((s14.2.1.set (s14.1).toNat (B8i s14.2.2.2 : UInt8)).map (fun x => [B8 x]))) (fun _ h_ => by rw [hi39_]; simpa [List.map_set] using h_) ?_
    refine .nil ?_
    refine .then ?_
    refine .reg rfl ?_
    refine .op (V.ld (v := N s14.2.2.2) .g1 .k4 (.one isAgg3 rfl)) rfl ?_
    refine .opp (P.bin .t0 .k (.shr (by decide))) rfl ?_
    refine .opg (G.str .t0 .t1 .k4 (.mk (cs' := [N (shrK .i64 s14.2.2.2 8)]) sizeOf3 rfl rfl rfl rfl)) rfl fun _ _ => ?_
    refine .nil ?_
    refine .inn ?_
    refine .rnorm rfl ⟨rfl, rfl, rfl⟩ ha32 hO13 .k2 rfl ?_
    refine .inL rfl ?_
    refine .opp (P.not .t0) rfl ?_
    refine .nil ?_
    refine .then ?_
    refine .condF .t0 ?_
    refine .skip ?_
    refine .inn ?_
    refine .then ?_
    refine .reg rfl ?_
    refine .opp (P.mov .g0) rfl ?_
    refine .opp (P.bin .t0 .k .sub) rfl ?_
    refine .drop .k1 ?_
    refine .opp (P.asg .t0) rfl ?_
    refine .nil ?_
    cases hc18
    obtain ⟨m40, hm41, hn19⟩ := hn19
    exact .rdW ((IntKind.i64.wrap (s14.1 - 1), (s14.2.1.set (s14.1).toNat (B8i s14.2.2.2 : UInt8)), (s14.2.1.set (s14.1).toNat (B8i s14.2.2.2 : UInt8)), shrK .i64 s14.2.2.2 8)) () hm41 hn19 (.cons Mm.m0 (.cons Mm.m1 (.cons Mm.m2 .nil))) (.of (.cons .k3 (.cons .k3 (.cons .k1 (.cons .k1 (.cons .k0 (.cons .k0 .nil))))))) .nil
  · rw [if_neg (ne_true_of_eq_false c23)] at hc18
    refine .exit ?_
    refine .thx ?_
    cases hc18
    refine .told (γ := Unit) h hn19 (fun (s14 : Int × (List UInt8) × (List UInt8) × Int) _ => [(3, N s14.1), (0, yv l11), (1, pt b7 0)]) (fun (s14 : Int × (List UInt8) × (List UInt8) × Int) _ => [blk b7 131 [u2], blk b4 131 [u2], blk b1 3 [N s14.2.2.2], lst 5 1 u2 (s14.2.1.map (fun x => [B8 x])), obj l11 (O9 .ready none), obj D10 (.deferred (some []))]) (fun (s14 : Int × (List UInt8) × (List UInt8) × Int) _ => []) () (.cons Mm.m0 (.cons Mm.m1 (.cons Mm.m2 .nil))) (.of (.cons .k0 (.cons .k0 (.cons .k0 (.cons .k0 (.cons .k0 (.cons .k0 .nil))))))) .nil (fun s14 _ h' => ?_)
    replace h := h'
    refine .thx ?_
    refine .inb ?_
    refine .rfinn ha12 hO13 .k4 rfl ?_
    refine .inn ?_
    refine .then ?_
    refine .seq ?_
    refine .reg rfl ?_
    refine .op (V.ld (v := u2) .t0 .k1 (.one isAgg131 rfl)) rfl ?_
    refine .opp (P.asg .t0) rfl ?_
    refine .nil ?_
    refine .then ?_
    refine .ret ?_
    cases h
    exact .finm u2 .k4 (.r1 rfl (.tmp .g0)) trivial (Ls.of (.cons .k3 .nil)) .nil
attribute [irreducible] blob_Num
noncomputable def slices_Grow_byte_nil (a1 : Int) : Option ((List UInt8)) :=
  if (decide (a1 < 0)) = true then none else (Option.bind (if (decide ((IntKind.i64.wrap (a1 - 0)) > 0)) = true then (grd (0 ≤ (IntKind.i64.wrap (a1 - 0)) ∧ (IntKind.i64.wrap (a1 - 0)) * 1 ≤ 70368744177664) <| some ()) else (some ())) fun (y2 : Unit) => some ([] : List UInt8))
set_option maxRecDepth 20000 in
set_option maxHeartbeats 1000000 in
theorem S_slices_Grow_byte_nil (a1 : Int) (r : (List UInt8)) (h : slices_Grow_byte_nil a1 = some r) :
    SpecF Tryz.prog 115 [nilSl, N a1] [] [] (fun z : Value => True) (fun z => z) (fun z M => lst 5 1 z (r.map (fun x => [B8 x])) ::  M) (fun z M =>  M) := by
  refine .of func115 rfl ntmps115 rfl fun w0 D0 G0 => ?_
  unfold slices_Grow_byte_nil at h
  refine .seq ?_
  refine .reg rfl ?_
  refine .op0 (OpP.toV (P.asg .k)) rfl ?_
  refine .nil ?_
  refine .then ?_
  refine .seq ?_
  refine .seq ?_
  refine .reg rfl ?_
  refine .opp (P.mov .g1) rfl ?_
  refine .opp (P.bin .t0 .k .lss) rfl ?_
  refine .nil ?_
  refine .then ?_
  refine .cond .t0 (fun c1 => ?_) (fun c1 => ?_)
  · rw [if_pos c1] at h
    refine .reg rfl ?_
    cases h
  · rw [if_neg (ne_true_of_eq_false c1)] at h
    refine .skip ?_
    refine .then ?_
    obtain ⟨y2, hj4, h⟩ := bnd_eq h
    refine .cutx (γ := Value) (E1 := fun z3 => [(0, z3)]) (L1 := fun z3 => [lst 5 1 z3 []]) (R1 := fun z3 => []) ?_ (fun z3 => ?_)
    · clear h
      refine .seq ?_
      refine .reg rfl ?_
      refine .opp (P.mov .g1) rfl ?_
      refine .opp (P.mov .g1) rfl ?_
      refine .opp (P.capn .t0 runUnderlying131) rfl ?_
      refine .opp (P.mov .g2) rfl ?_
      refine .opp (P.lenn .t0 runUnderlying131) rfl ?_
      refine .opp (P.bin (v := N 0) .t1 .t0 (.subc (by decide))) rfl ?_
      refine .opp (P.bin .t1 .t0 .sub) rfl ?_
      refine .drop .k2 ?_
      refine .opp (P.asg .t0) rfl ?_
      refine .nil ?_
      refine .then ?_
      refine .seq ?_
      refine .reg rfl ?_
      refine .opp (P.mov .g0) rfl ?_
      refine .opp (P.bin .t0 .k .gtr) rfl ?_
      refine .nil ?_
      refine .then ?_
      refine .cond .t0 (fun c5 => ?_) (fun c5 => ?_)
      · rw [if_pos c5] at hj4
        refine .reg rfl ?_
        refine .opp (P.mov .g1) rfl ?_
        refine .opp (P.mov .g2) rfl ?_
        refine .opp (P.capn .t0 runUnderlying131) rfl ?_
        refine .opp (P.sln .t1 .t0 runUnderlying131 sizeOf5) rfl ?_
        refine .opp (P.mov .t1) rfl ?_
        obtain ⟨hb7, hj4⟩ := grd_eq hj4
        refine .opg (G.appn (by_ := 1) (cs := [B8 0]) (m := IntKind.i64.wrap (a1 - 0)) .t1 .t0 runUnderlying131 runUnderlying3 sizeOf5 typeInfo5 rfl rfl zeroValue5 rfl rfl rfl hb7.1 hb7.2 rfl) rfl fun u6 _ => ?_
        refine .conseq .k0 (q := lst 5 1 u6 ((List.replicate (IntKind.i64.wrap (a1 - 0)).toNat (0 : UInt8)).map (fun x => [B8 x]))) (fun _ hh => by simpa [List.map_replicate] using hh) ?_
        refine .opp (P.mov .g1) rfl ?_
        refine .opp (P.lenn .t0 runUnderlying131) rfl ?_
        refine .opg (G.sll (m := 0) .t1 .t0 .k0 runUnderlying131 sizeOf5 (by decide) (Int.natCast_nonneg _) rfl) rfl fun u8 _ => ?_
        refine .conseq .k0 (q := lst 5 1 u8 []) (fun _ hh => by simpa using hh) ?_
        refine .drop .k1 ?_
        refine .opp (P.asg .t0) rfl ?_
        refine .nil ?_
        cases hj4
        exact .stj u8 (.cons Mm.m0 .nil) (.of (.cons .k0 .nil)) .nil
      · rw [if_neg (ne_true_of_eq_false c5)] at hj4
        refine .skip ?_
        cases hj4
        refine .lnil 5 1 ?_
        exact .stj nilSl (.cons Mm.m1 .nil) (.of (.cons .k0 .nil)) .nil
    · clear hj4
      refine .seq ?_
      refine .reg rfl ?_
      refine .opp (P.mov .t0) rfl ?_
      refine .opp (P.asg .t0) rfl ?_
      refine .nil ?_
      refine .then ?_
      refine .ret ?_
      cases h
      exact .finw z3 (.r1 rfl (.tmp .g0)) trivial (Ls.of (.cons .k0 .nil)) .nil
attribute [irreducible] slices_Grow_byte_nil
noncomputable def slices_Concat_byte_n2 (a0a : List UInt8) (a0b : List UInt8) : Option ((List UInt8)) :=
  if (decide ((IntKind.i64.wrap (0 + (a0a.length : Int))) < 0)) = true then none else (if (decide ((IntKind.i64.wrap ((IntKind.i64.wrap (0 + (a0a.length : Int))) + (a0b.length : Int))) < 0)) = true then none else (Option.bind (slices_Grow_byte_nil (IntKind.i64.wrap ((IntKind.i64.wrap (0 + (a0a.length : Int))) + (a0b.length : Int)))) fun r9 => grd ((r9.length + a0a.length) * 1 ≤ 140737488355328) <| grd (((r9 ++ a0a).length + a0b.length) * 1 ≤ 140737488355328) <| some (((r9 ++ a0a) ++ a0b))))
set_option maxRecDepth 20000 in
set_option maxHeartbeats 1000000 in
theorem S_slices_Concat_byte_n2 (v00 : Value) (z00a : Value) (a0a : List UInt8) (z00b : Value) (a0b : List UInt8) (r : (List UInt8)) (h : slices_Concat_byte_n2 a0a a0b = some r) :
    SpecF Tryz.prog 100 [v00] [] [rows 1 v00 [[z00a], [z00b]], rows 1 z00a (a0a.map (fun x => [B8 x])), rows 1 z00b (a0b.map (fun x => [B8 x]))] (fun z : Value => True) (fun z => z) (fun z M => lst 5 1 z (r.map (fun x => [B8 x])) ::  M) (fun z M =>  M) := by
  refine .of func100 rfl ntmps100 rfl fun w0 D0 G0 => ?_
  unfold slices_Concat_byte_n2 at h
  refine .seq ?_
  refine .reg rfl ?_
  refine .op0 (OpP.toV (P.asg .k)) rfl ?_
  refine .nil ?_
  refine .then ?_
  refine .seq ?_
  refine .reg rfl ?_
  refine .opp (P.asg .k) rfl ?_
  refine .nil ?_
  refine .then ?_
  refine .seq ?_
  refine .seq ?_
  refine .reg rfl ?_
  refine .opp (P.mov .g1) rfl ?_
  refine .op (V.lnr (n := 2) .g0 Mm.m0 rfl runUnderlying146) rfl ?_
  refine .opp (P.mov .k) rfl ?_
  refine .nil ?_
  refine .then ?_
  refine .block ?_
  refine .rounds 3 ?_
  refine .rd ?_
  refine .seq ?_
  refine .reg rfl ?_
  refine .opp (P.bin (v := Bo true) .g0 .g1 (BinV.lss.boolc (by decide))) rfl ?_
  refine .nil ?_
  refine .then ?_
  refine .seq ?_
  refine .condT .t0 ?_
  refine .skip ?_
  refine .then ?_
  refine .seq ?_
  refine .block ?_
  refine .seq ?_
  refine .reg rfl ?_
  refine .ixq Mm.m0 (show [[z00a], [z00b]][0]? = some [z00a] from rfl) fun p1 q2 hq3 => ?_
  refine .opp (P.ixi (i := 0) .g0 rfl .g2 hq3 runUnderlying146 sizeOf131) rfl ?_
  refine .op (V.ldx0 (u := z00a) .t0 hq3 Mm.m0 (show [[z00a], [z00b]][0]? = some [z00a] from rfl) (.one isAgg131 rfl)) rfl ?_
  refine .opp (P.asg .t0) rfl ?_
  refine .nil ?_
  refine .then ?_
  refine .seq ?_
  refine .reg rfl ?_
  refine .opp (P.mov .g4) rfl ?_
  refine .opp (P.mov .t1) rfl ?_
  refine .op (V.lnr (n := a0a.length) .t0 Mm.m1 map_len runUnderlying131) rfl ?_
  refine .opp (P.bin .t1 .t0 .add) rfl ?_
  refine .drop .k4 ?_
  refine .opp (P.asg .t0) rfl ?_
  refine .nil ?_
  refine .then ?_
  refine .seq ?_
  refine .reg rfl ?_
  refine .opp (P.mov .g0) rfl ?_
  refine .opp (P.bin .t0 .k .lss) rfl ?_
  refine .nil ?_
  refine .then ?_
  refine .cond .t0 (fun c4 => ?_) (fun c4 => ?_)
  · rw [if_pos c4] at h
    refine .reg rfl ?_
    cases h
  · rw [if_neg (ne_true_of_eq_false c4)] at h
    refine .skip ?_
    refine .inn ?_
    refine .then ?_
    refine .reg rfl ?_
    refine .opp (P.bin (v := N 1) .g1 .k (.addc (by decide))) rfl ?_
    refine .drop .k2 ?_
    refine .opp (P.mov .t0) rfl ?_
    refine .nil ?_
    refine .then ?_
    refine .rd ?_
    refine .seq ?_
    refine .reg rfl ?_
    refine .opp (P.bin (v := Bo true) .g0 .g2 (BinV.lss.boolc (by decide))) rfl ?_
    refine .nil ?_
    refine .then ?_
    refine .seq ?_
    refine .condT .t0 ?_
    refine .skip ?_
    refine .then ?_
    refine .seq ?_
    refine .block ?_
    refine .seq ?_
    refine .reg rfl ?_
    refine .ixq Mm.m0 (show [[z00a], [z00b]][1]? = some [z00b] from rfl) fun p5 q6 hq7 => ?_
    refine .opp (P.ixi (i := 1) .g0 rfl .g3 hq7 runUnderlying146 sizeOf131) rfl ?_
    refine .op (V.ldx0 (u := z00b) .t0 hq7 Mm.m0 (show [[z00a], [z00b]][1]? = some [z00b] from rfl) (.one isAgg131 rfl)) rfl ?_
    refine .opp (P.asg .t0) rfl ?_
    refine .nil ?_
    refine .then ?_
    refine .seq ?_
    refine .reg rfl ?_
    refine .opp (P.mov .g2) rfl ?_
    refine .opp (P.mov .t1) rfl ?_
    refine .op (V.lnr (n := a0b.length) .t0 Mm.m2 map_len runUnderlying131) rfl ?_
    refine .opp (P.bin .t1 .t0 .add) rfl ?_
    refine .drop .k2 ?_
    refine .opp (P.asg .t0) rfl ?_
    refine .nil ?_
    refine .then ?_
    refine .seq ?_
    refine .reg rfl ?_
    refine .opp (P.mov .g0) rfl ?_
    refine .opp (P.bin .t0 .k .lss) rfl ?_
    refine .nil ?_
    refine .then ?_
    refine .cond .t0 (fun c8 => ?_) (fun c8 => ?_)
    · rw [if_pos c8] at h
      refine .reg rfl ?_
      cases h
    · rw [if_neg (ne_true_of_eq_false c8)] at h
      refine .skip ?_
      refine .inn ?_
      refine .then ?_
      refine .reg rfl ?_
      refine .opp (P.bin (v := N 2) .g1 .k (.addc (by decide))) rfl ?_
      refine .drop .k2 ?_
      refine .opp (P.mov .t0) rfl ?_
      refine .nil ?_
      refine .then ?_
      refine .rd ?_
      refine .seq ?_
      refine .reg rfl ?_
      refine .opp (P.bin (v := Bo false) .g0 .g2 (BinV.lss.boolc (by decide))) rfl ?_
      refine .nil ?_
      refine .then ?_
      refine .seq ?_
      refine .condF .t0 ?_
      refine .exit ?_
      refine .thx ?_
      refine .thx ?_
      refine .inb ?_
      refine .then ?_
      refine .seq ?_
      refine .reg rfl ?_
      refine .opp (P.mov .t1) rfl ?_
      obtain ⟨r9, hr10, h⟩ := bnd_eq h
      refine .opg (G.call call115 (.cons .k (.cons .t0 .nil)) (S_slices_Grow_byte_nil (IntKind.i64.wrap ((IntKind.i64.wrap (0 + (a0a.length : Int))) + (a0b.length : Int))) r9 hr10) .nil .nil (fun _ _ => rfl) (fun _ _ => rfl) rfl) rfl fun u11 _ => ?_
      refine .opp (P.asg .t0) rfl ?_
      refine .nil ?_
      refine .then ?_
      refine .seq ?_
      refine .seq ?_
      refine .reg rfl ?_
      refine .opp (P.mov .t4) rfl ?_
      refine .op (V.lnr (n := 2) .g0 Mm.m0 rfl runUnderlying146) rfl ?_
      refine .opp (P.mov .k) rfl ?_
      refine .nil ?_
      refine .then ?_
      refine .block ?_
      refine .rounds 3 ?_
      refine .rd ?_
      refine .seq ?_
      refine .reg rfl ?_
      refine .opp (P.bin (v := Bo true) .g0 .g1 (BinV.lss.boolc (by decide))) rfl ?_
      refine .nil ?_
      refine .then ?_
      refine .seq ?_
      refine .condT .t0 ?_
      refine .skip ?_
      refine .then ?_
      refine .seq ?_
      refine .block ?_
      refine .seq ?_
      refine .reg rfl ?_
      refine .ixq Mm.m0 (show [[z00a], [z00b]][0]? = some [z00a] from rfl) fun p12 q13 hq14 => ?_
      refine .opp (P.ixi (i := 0) .g0 rfl .g2 hq14 runUnderlying146 sizeOf131) rfl ?_
      refine .op (V.ldx0 (u := z00a) .t0 hq14 Mm.m0 (show [[z00a], [z00b]][0]? = some [z00a] from rfl) (.one isAgg131 rfl)) rfl ?_
      refine .opp (P.asg .t0) rfl ?_
      refine .nil ?_
      refine .then ?_
      refine .reg rfl ?_
      refine .opp (P.mov .g4) rfl ?_
      refine .opp (P.mov .t1) rfl ?_
      obtain ⟨hb16, h⟩ := grd_eq h
      refine .opg (G.app (by_ := 1) .t1 .t0 .k0 (.inl Mm.m1) runUnderlying131 runUnderlying131 sizeOf5 typeInfo5 rfl rfl zeroValue5 rfl (one_map one_5 _) (by simpa using hb16) rfl) rfl fun u15 _ => ?_
      refine .conseq .k0 (q := lst 5 1 u15 ((r9 ++ a0a).map (fun x => [B8 x]))) (fun _ hh => by simpa [List.map_append] using hh) ?_
      refine .drop .k4 ?_
      refine .opp (P.asg .t0) rfl ?_
      refine .nil ?_
      refine .inn ?_
      refine .then ?_
      refine .reg rfl ?_
      refine .opp (P.bin (v := N 1) .g1 .k (.addc (by decide))) rfl ?_
      refine .drop .k2 ?_
      refine .opp (P.mov .t0) rfl ?_
      refine .nil ?_
      refine .then ?_
      refine .rd ?_
      refine .seq ?_
      refine .reg rfl ?_
      refine .opp (P.bin (v := Bo true) .g0 .g2 (BinV.lss.boolc (by decide))) rfl ?_
      refine .nil ?_
      refine .then ?_
      refine .seq ?_
      refine .condT .t0 ?_
      refine .skip ?_
      refine .then ?_
      refine .seq ?_
      refine .block ?_
      refine .seq ?_
      refine .reg rfl ?_
      refine .ixq Mm.m0 (show [[z00a], [z00b]][1]? = some [z00b] from rfl) fun p17 q18 hq19 => ?_
      refine .opp (P.ixi (i := 1) .g0 rfl .g3 hq19 runUnderlying146 sizeOf131) rfl ?_
      refine .op (V.ldx0 (u := z00b) .t0 hq19 Mm.m0 (show [[z00a], [z00b]][1]? = some [z00b] from rfl) (.one isAgg131 rfl)) rfl ?_
      refine .opp (P.asg .t0) rfl ?_
      refine .nil ?_
      refine .then ?_
      refine .reg rfl ?_
      refine .opp (P.mov .g2) rfl ?_
      refine .opp (P.mov .t1) rfl ?_
      obtain ⟨hb21, h⟩ := grd_eq h
      refine .opg (G.app (by_ := 1) .t1 .t0 .k0 (.inl Mm.m2) runUnderlying131 runUnderlying131 sizeOf5 typeInfo5 rfl rfl zeroValue5 rfl (one_map one_5 _) (by simpa using hb21) rfl) rfl fun u20 _ => ?_
      refine .conseq .k0 (q := lst 5 1 u20 (((r9 ++ a0a) ++ a0b).map (fun x => [B8 x]))) (fun _ hh => by simpa [List.map_append] using hh) ?_
      refine .drop .k2 ?_
      refine .opp (P.asg .t0) rfl ?_
      refine .nil ?_
      refine .inn ?_
      refine .then ?_
      refine .reg rfl ?_
      refine .opp (P.bin (v := N 2) .g1 .k (.addc (by decide))) rfl ?_
      refine .drop .k2 ?_
      refine .opp (P.mov .t0) rfl ?_
      refine .nil ?_
      refine .then ?_
      refine .rd ?_
      refine .seq ?_
      refine .reg rfl ?_
      refine .opp (P.bin (v := Bo false) .g0 .g2 (BinV.lss.boolc (by decide))) rfl ?_
      refine .nil ?_
      refine .then ?_
      refine .seq ?_
      refine .condF .t0 ?_
      refine .exit ?_
      refine .thx ?_
      refine .thx ?_
      refine .inb ?_
      refine .then ?_
      refine .seq ?_
      refine .reg rfl ?_
      refine .opp (P.mov .t1) rfl ?_
      refine .opp (P.asg .t0) rfl ?_
      refine .nil ?_
      refine .then ?_
      refine .ret ?_
      cases h
      exact .finw u20 (.r1 rfl (.tmp .g0)) trivial (Ls.of (.cons .k0 .nil)) .nil
attribute [irreducible] slices_Concat_byte_n2
noncomputable def blob_Cat_n2 (a0a : List UInt8) (a0b : List UInt8) : Option ((List UInt8)) :=
  Option.bind (slices_Concat_byte_n2 a0a a0b) fun r1 => some r1
set_option maxRecDepth 20000 in
set_option maxHeartbeats 1000000 in
theorem S_blob_Cat_n2 (v00 : Value) (z00a : Value) (a0a : List UInt8) (z00b : Value) (a0b : List UInt8) (r : (List UInt8)) (h : blob_Cat_n2 a0a a0b = some r) :
    SpecF Tryz.prog 91 [v00] [] [rows 1 v00 [[z00a], [z00b]], rows 1 z00a (a0a.map (fun x => [B8 x])), rows 1 z00b (a0b.map (fun x => [B8 x]))] (fun z : Value => True) (fun z => z) (fun z M => lst 5 1 z (r.map (fun x => [B8 x])) ::  M) (fun z M =>  M) := by
  refine .of func91 rfl ntmps91 rfl fun w0 D0 G0 => ?_
  unfold blob_Cat_n2 at h
  refine .seq ?_
  refine .reg rfl ?_
  refine .op0 (OpP.toV (P.asg .k)) rfl ?_
  refine .nil ?_
  refine .then ?_
  refine .seq ?_
  refine .reg rfl ?_
  refine .opp (P.mov .t0) rfl ?_
  obtain ⟨r1, hr2, h⟩ := bnd_eq h
  refine .opg (G.call call100 (.cons .t0 .nil) (S_slices_Concat_byte_n2 v00 z00a a0a z00b a0b r1 hr2) .nil (.cons Mm.m0 (.cons Mm.m1 (.cons Mm.m2 .nil))) (fun _ _ => rfl) (fun _ _ => rfl) rfl) rfl fun u3 _ => ?_
  refine .opp (P.asg .t0) rfl ?_
  refine .nil ?_
  refine .then ?_
  refine .ret ?_
  cases h
  exact .finw u3 (.r1 rfl (.tmp .g0)) trivial (Ls.of (.cons .k0 .nil)) .nil
attribute [irreducible] blob_Cat_n2
noncomputable def field_Out_put (a0 : field_Out) (a1 : List UInt8) (a2 : Int) : Option (field_Out) :=
  thn (if (!a0.made) = true then true else (decide (a0.e_ ≠ 0))) fun (y1 : Bool) => if y1 = true then (some a0) else (if (decide (a2 ≠ 0)) = true then (some (⟨a0.b, a2, a0.made⟩ : field_Out)) else (if (decide ((IntKind.i64.wrap ((a0.b.length : Int) + (a1.length : Int))) > 8192)) = true then (some (⟨a0.b, 5, a0.made⟩ : field_Out)) else (grd ((a0.b.length + a1.length) * 1 ≤ 140737488355328) <| some ((⟨(a0.b ++ a1), a0.e_, a0.made⟩ : field_Out)))))
set_option maxRecDepth 20000 in
set_option maxHeartbeats 1000000 in
theorem S_field_Out_put (b00 : Nat) (a0 : field_Out) (z00a : Value) (v01 : Value) (a1 : List UInt8) (a2 : Int) (r : field_Out) (h : field_Out_put a0 a1 a2 = some r) :
    SpecF Tryz.prog 93 [pt b00 0, v01, N a2] [blk b00 143 (field_Out.cs a0 z00a), lst 5 1 z00a (a0.b.map (fun x => [B8 x]))] [rows 1 v01 (a1.map (fun x => [B8 x]))] (fun z : Value => True) (fun z => Tu []) (fun z M => blk b00 143 (field_Out.cs r z) :: lst 5 1 z (r.b.map (fun x => [B8 x])) ::  M) (fun z M =>  M) := by
  refine .of func93 rfl ntmps93 rfl fun w0 D0 G0 => ?_
  unfold field_Out_put at h
  refine .block ?_
  obtain ⟨y1, hj3, h⟩ := thn_eq h
  refine .cutx (γ := Unit) (E1 := fun z2 => [(15, Bo y1), (0, pt b00 0), (1, v01), (2, N a2)]) (L1 := fun z2 => [blk b00 143 (field_Out.cs a0 z00a), lst 5 1 z00a (a0.b.map (fun x => [B8 x]))]) (R1 := fun z2 => [rows 1 v01 (a1.map (fun x => [B8 x]))]) ?_ (fun z2 => ?_)
  · clear h
    refine .reg rfl ?_
    refine .opp (P.mov .g0) rfl ?_
    refine .opp (P.bin .t0 .k (.ptr_eql (e := 143) (by kernel_rfl))) rfl ?_
    refine .opp (P.mov .t0) rfl ?_
    refine .gyes rfl .g0 ?_
    refine .opp (P.mov .g1) rfl ?_
    refine .gyes rfl .g1 ?_
    refine .opp (P.nilc .t0) rfl ?_
    refine .gyes rfl .g1 ?_
    refine .opp (P.fa .t0 fa_143_2 rfl) rfl ?_
    refine .gyes rfl .g1 ?_
    refine .op (V.ld (v := Bo a0.made) .t0 .k0 (.one isAgg4 rfl)) rfl ?_
    refine .gyes rfl .g1 ?_
    refine .opp (P.not .t0) rfl ?_
    refine .opp (P.pickF .t1 .t0) rfl ?_
    refine .opp (P.mov .t0) rfl ?_
    refine .split .k0 (fun c4 => ?_) (fun c4 => ?_)
    · rw [if_pos c4] at hj3
      refine .gno rfl .g0 rfl rfl ?_
      refine .gno rfl .g0 rfl rfl ?_
      refine .gno rfl .g0 rfl rfl ?_
      refine .gno rfl .g0 rfl rfl ?_
      refine .gno rfl .g0 rfl rfl ?_
      refine .opp (P.pickT .t0 .k) rfl ?_
      refine .opp (P.asg .t0) rfl ?_
      refine .nil ?_
      subst hj3
      exact .stj () (.cons Mm.m0 (.cons Mm.m1 (.cons Mm.m2 (.cons Mm.m3 .nil)))) (.of (.cons .k0 (.cons .k0 .nil))) (.cons Mm.m0 .nil)
    · rw [if_neg (ne_true_of_eq_false c4)] at hj3
      refine .gyes rfl .g0 ?_
      refine .opp (P.mov .g1) rfl ?_
      refine .gyes rfl .g1 ?_
      refine .opp (P.nilc .t0) rfl ?_
      refine .gyes rfl .g1 ?_
      refine .opp (P.fa .t0 fa_143_1 rfl) rfl ?_
      refine .gyes rfl .g1 ?_
      refine .op (V.ld (v := N a0.e_) .t0 .k0 (.one isAgg63 rfl)) rfl ?_
      refine .gyes rfl .g1 ?_
      refine .opp (P.bin .t0 .k .neq) rfl ?_
      refine .opp (P.pickF .t1 .t0) rfl ?_
      refine .opp (P.asg .t0) rfl ?_
      refine .nil ?_
      subst hj3
      exact .stj () (.cons Mm.m0 (.cons Mm.m1 (.cons Mm.m2 (.cons Mm.m3 .nil)))) (.of (.cons .k0 (.cons .k0 .nil))) (.cons Mm.m0 .nil)
  · clear hj3
    refine .cond .t0 (fun c5 => ?_) (fun c5 => ?_)
    · rw [if_pos c5] at h
      refine .skip ?_
      refine .inn ?_
      cases h
      exact .finwn z00a (.r0 rfl) trivial (Ls.of (.cons .k0 (.cons .k0 .nil))) .nil
    · rw [if_neg (ne_true_of_eq_false c5)] at h
      refine .seq ?_
      refine .reg rfl ?_
      refine .opp (P.mov .g2) rfl ?_
      refine .opp (P.bin .t0 .k .neq) rfl ?_
      refine .opp (P.asg .t0) rfl ?_
      refine .nil ?_
      refine .then ?_
      refine .cond .t0 (fun c6 => ?_) (fun c6 => ?_)
      · rw [if_pos c6] at h
        refine .reg rfl ?_
        refine .opp (P.mov .t0) rfl ?_
        refine .opp (P.mov .t2) rfl ?_
        refine .opp (P.nilc .t1) rfl ?_
        refine .opp (P.fa .t0 fa_143_1 rfl) rfl ?_
        refine .opg (G.str .t1 .t0 .k0 (.mk (cs' := (field_Out.cs ⟨a0.b, a2, a0.made⟩ z00a)) sizeOf63 rfl rfl rfl rfl)) rfl fun _ _ => ?_
        refine .nil ?_
        refine .inn ?_
        cases h
        exact .finwn z00a (.r0 rfl) trivial (Ls.of (.cons .k0 (.cons .k0 .nil))) .nil
      · rw [if_neg (ne_true_of_eq_false c6)] at h
        refine .seq ?_
        refine .reg rfl ?_
        refine .opp (P.mov .g0) rfl ?_
        refine .opp (P.nilc .t0) rfl ?_
        refine .opp (P.fa .t0 fa_143_0 rfl) rfl ?_
        refine .op (V.ld (v := z00a) .t0 .k0 (.one isAgg131 rfl)) rfl ?_
        refine .op (V.lnl (n := a0.b.length) .t0 .k1 map_len runUnderlying131) rfl ?_
        refine .opp (P.mov .g2) rfl ?_
        refine .op (V.lnr (n := a1.length) .t0 Mm.m0 map_len runUnderlying131) rfl ?_
        refine .opp (P.bin .t1 .t0 .add) rfl ?_
        refine .opp (P.bin .t0 .k .gtr) rfl ?_
        refine .opp (P.asg .t0) rfl ?_
        refine .nil ?_
        refine .then ?_
        refine .cond .t0 (fun c7 => ?_) (fun c7 => ?_)
        · rw [if_pos c7] at h
          refine .reg rfl ?_
          refine .opp (P.mov .t0) rfl ?_
          refine .opp (P.nilc .t0) rfl ?_
          refine .opp (P.fa .t0 fa_143_1 rfl) rfl ?_
          refine .opg (G.str .k .t0 .k0 (.mk (cs' := (field_Out.cs ⟨a0.b, 5, a0.made⟩ z00a)) sizeOf63 rfl rfl rfl rfl)) rfl fun _ _ => ?_
          refine .nil ?_
          refine .inn ?_
          cases h
          exact .finwn z00a (.r0 rfl) trivial (Ls.of (.cons .k0 (.cons .k0 .nil))) .nil
        · rw [if_neg (ne_true_of_eq_false c7)] at h
          refine .reg rfl ?_
          refine .opp (P.mov .g0) rfl ?_
          refine .opp (P.mov .t1) rfl ?_
          refine .opp (P.nilc .t0) rfl ?_
          refine .opp (P.fa .t0 fa_143_0 rfl) rfl ?_
          refine .op (V.ld (v := z00a) .t0 .k0 (.one isAgg131 rfl)) rfl ?_
          refine .opp (P.mov .t2) rfl ?_
          obtain ⟨hb9, h⟩ := grd_eq h
          refine .opg (G.app (by_ := 1) .t1 .t0 .k1 (.inl Mm.m0) runUnderlying131 runUnderlying131 sizeOf5 typeInfo5 rfl rfl zeroValue5 rfl (one_map one_5 _) (by simpa using hb9) rfl) rfl fun u8 _ => ?_
          refine .conseq .k0 (q := lst 5 1 u8 ((a0.b ++ a1).map (fun x => [B8 x]))) (fun _ hh => by simpa [List.map_append] using hh) ?_
          refine .opp (P.nilc .t1) rfl ?_
          refine .opp (P.fa .t0 fa_143_0 rfl) rfl ?_
          refine .onel .k0 fun ho10 => ?_
          refine .opg (G.str .t1 .t0 .k1 (.mk1 (cs' := (field_Out.cs ⟨[], a0.e_, a0.made⟩ u8)) sizeOf131 rfl ho10 rfl rfl)) rfl fun _ _ => ?_
          refine .nil ?_
          refine .inn ?_
          cases h
          exact .finwn u8 (.r0 rfl) trivial (Ls.of (.cons .k0 (.cons .k0 .nil))) .nil
attribute [irreducible] field_Out_put
end Go.Sl
