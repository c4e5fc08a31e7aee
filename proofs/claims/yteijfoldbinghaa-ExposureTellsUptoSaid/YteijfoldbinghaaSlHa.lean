/- Walked code of the program, its pure functions and their contracts. -/
import Derived.Test.YteijfoldbinghaaSlGw
set_option linter.unusedVariables false
set_option linter.unusedSimpArgs false
namespace Go.Sl
open Go.Proofs Go.Proofs.Try
structure api_Inv where
  User : Int
  Root : ByteArray
  Router : Int
  Send : Int
  Recv : Int
  To : Int
  Id : ByteArray
  deriving DecidableEq
def api_Inv.cs (x : api_Inv) : List Value := [N x.User, .string x.Root, N x.Router, N x.Send, N x.Recv, N x.To, .string x.Id]
def api_Inv.z : api_Inv := ⟨0, ⟨#[]⟩, 0, 0, 0, 0, ⟨#[]⟩⟩
structure field_Out where
  b : List UInt8
  e_ : Int
  made : Bool
  deriving DecidableEq
def field_Out.cs (x : field_Out) (z0 : Value) : List Value := [z0, N x.e_, .bool x.made]
def field_Out.z : field_Out := ⟨[], 0, false⟩
structure A4_i64 where
  a0 : Int
  a1 : Int
  a2 : Int
  a3 : Int
  deriving DecidableEq
def A4_i64.cs (x : A4_i64) : List Value := [N x.a0, N x.a1, N x.a2, N x.a3]
def A4_i64.list (x : A4_i64) : List Int := [x.a0, x.a1, x.a2, x.a3]
def A4_i64.set (x : A4_i64) (k : Nat) (v : Int) : A4_i64 := ⟨if k = 0 then v else x.a0, if k = 1 then v else x.a1, if k = 2 then v else x.a2, if k = 3 then v else x.a3⟩
def A4_i64.z : A4_i64 := ⟨0, 0, 0, 0⟩
theorem fa_32_0 : FaV Try.prog 32 0 0 := .mk runUnderlying32 rfl sizeOf3 rfl rfl
theorem fa_32_1 : FaV Try.prog 32 1 1 := .mk runUnderlying32 rfl sizeOf9 rfl rfl
theorem fa_32_2 : FaV Try.prog 32 2 2 := .mk runUnderlying32 rfl sizeOf3 rfl rfl
theorem fa_32_3 : FaV Try.prog 32 3 3 := .mk runUnderlying32 rfl sizeOf3 rfl rfl
theorem fa_32_4 : FaV Try.prog 32 4 4 := .mk runUnderlying32 rfl sizeOf3 rfl rfl
theorem fa_32_5 : FaV Try.prog 32 5 5 := .mk runUnderlying32 rfl sizeOf3 rfl rfl
theorem fa_32_6 : FaV Try.prog 32 6 6 := .mk runUnderlying32 rfl sizeOf9 rfl rfl
theorem fa_208_0 : FaV Try.prog 208 0 0 := .mk runUnderlying208 rfl sizeOf44 rfl rfl
theorem fa_208_1 : FaV Try.prog 208 1 1 := .mk runUnderlying208 rfl sizeOf30 rfl rfl
theorem fa_208_2 : FaV Try.prog 208 2 2 := .mk runUnderlying208 rfl sizeOf4 rfl rfl
theorem pl_208 : ∀ w, ((#[{ name := "b", type := 44, offset := 0, embedded := false, tag := "", pkgPath := "narrows/field", byteOffset := 0 }, { name := "e", type := 30, offset := 1, embedded := false, tag := "", pkgPath := "narrows/field", byteOffset := 24 }, { name := "made", type := 4, offset := 2, embedded := false, tag := "", pkgPath := "narrows/field", byteOffset := 32 }] : Array Field).mapM fun f => do pure (f.offset, ← sizeOf f.type) : Sem (Array (Nat × Nat))).run Try.prog w = .ok #[(0, 1), (1, 1), (2, 1)] w := fun w => by simp [sizeOf4, sizeOf30, sizeOf44]
theorem one_5 (x : UInt8) : oneAll ((fun x => [B8 x]) x) = true := rfl
noncomputable def deal_in (a0 : Int) (a1 : Int) (a2 : Int) : Bool :=
  thn (if (decide (a0 ≥ a1)) = true then (decide (a0 ≤ a2)) else false) fun (y1 : Bool) => y1
set_option maxRecDepth 20000 in
set_option maxHeartbeats 1000000 in
theorem S_deal_in (a0 : Int) (a1 : Int) (a2 : Int) (r : Bool) (h : deal_in a0 a1 a2 = r) :
    SpecF Try.prog 135 [N a0, N a1, N a2] [] [] (fun _ : Unit => True) (fun z => Bo r) (fun z M =>  M) (fun z M =>  M) := by
  refine .of func135 rfl ntmps135 rfl fun w0 D0 G0 => ?_
  unfold deal_in at h
  refine .seq ?_
  refine .reg rfl ?_
  refine .op0 (OpP.toV (P.asg .k)) rfl ?_
  refine .nil ?_
  refine .then ?_
  obtain ⟨y1, hj3, h⟩ := thn_eq h
  refine .cutx (γ := Unit) (E1 := fun z2 => [(6, Bo y1)]) (L1 := fun z2 => []) (R1 := fun z2 => []) ?_ (fun z2 => ?_)
  · clear h
    refine .reg rfl ?_
    refine .opp (P.mov .g0) rfl ?_
    refine .opp (P.mov .t2) rfl ?_
    refine .opp (P.bin .t1 .t0 .geq) rfl ?_
    refine .opp (P.mov .t0) rfl ?_
    refine .split .k0 (fun c4 => ?_) (fun c4 => ?_)
    · rw [if_pos c4] at hj3
      refine .gyes rfl .g0 ?_
      refine .opp (P.mov .t1) rfl ?_
      refine .gyes rfl .g1 ?_
      refine .opp (P.mov .t2) rfl ?_
      refine .gyes rfl .g2 ?_
      refine .opp (P.bin .t1 .t0 .leq) rfl ?_
      refine .opp (P.pickT .t1 .t0) rfl ?_
      refine .opp (P.asg .t0) rfl ?_
      refine .nil ?_
      subst hj3
      exact .stj () (.cons Mm.m0 .nil) (.of .nil) .nil
    · rw [if_neg (ne_true_of_eq_false c4)] at hj3
      refine .gno rfl .g0 rfl rfl ?_
      refine .gno rfl .g0 rfl rfl ?_
      refine .gno rfl .g0 rfl rfl ?_
      refine .opp (P.pickF .t0 .k) rfl ?_
      refine .opp (P.asg .t0) rfl ?_
      refine .nil ?_
      subst hj3
      exact .stj () (.cons Mm.m0 .nil) (.of .nil) .nil
  · clear hj3
    refine .ret ?_
    subst h
    exact .finw () (.r1 rfl (.tmp .g0)) trivial (Ls.of .nil) .nil
attribute [irreducible] deal_in
noncomputable def deal_Check (a0 : api_Inv) : Int :=
  thn (if ((deal_in a0.User 0 1)) = true then (if ((deal_in a0.Router 2 3)) = true then (if ((deal_in a0.Send 0 1)) = true then (deal_in a0.Recv 0 1) else false) else false) else false) fun (y2 : Bool) => thn (if (!y2) = true then true else (if (!((deal_in a0.To 0 7))) = true then true else (if (decide (((a0.Root.size : Int)) ≠ 8)) = true then true else (!((deal_in ((a0.Id.size : Int)) 1 16)))))) fun (y8 : Bool) => if y8 = true then 39 else 0
set_option maxRecDepth 20000 in
set_option maxHeartbeats 1000000 in
theorem S_deal_Check (a0 : api_Inv) (r : Int) (h : deal_Check a0 = r) :
    SpecF Try.prog 85 [Ag (api_Inv.cs a0)] [] [] (fun _ : Unit => True) (fun z => N r) (fun z M =>  M) (fun z M =>  M) := by
  refine .of func85 rfl ntmps85 rfl fun w0 D0 G0 => ?_
  unfold deal_Check at h
  refine .seq ?_
  refine .reg rfl ?_
  refine .opx (X.box (cs := (api_Inv.cs a0)) .t0 rfl) rfl fun b1 => ?_
  refine .op0 (OpP.toV (P.asg .k)) rfl ?_
  refine .nil ?_
  refine .then ?_
  obtain ⟨y2, hj4, h⟩ := thn_eq h
  refine .cutx (γ := Unit) (E1 := fun z3 => [(3, Bo y2), (1, pt b1 0)]) (L1 := fun z3 => [blk b1 32 (api_Inv.cs a0)]) (R1 := fun z3 => []) ?_ (fun z3 => ?_)
  · clear h
    refine .reg rfl ?_
    refine .opp (P.fa .g0 fa_32_0 rfl) rfl ?_
    refine .op (V.ld (v := N a0.User) .t0 .k0 (.one isAgg3 rfl)) rfl ?_
    refine .opg (G.call call135 (.cons .t0 (.cons .k (.cons .k .nil))) (S_deal_in a0.User 0 1 _ rfl) .nil .nil (fun _ _ => rfl) (fun _ _ => rfl) rfl) rfl fun _ _ => ?_
    refine .opp (P.mov .t0) rfl ?_
    refine .split .k0 (fun c5 => ?_) (fun c5 => ?_)
    · rw [if_pos c5] at hj4
      refine .gyes rfl .g0 ?_
      refine .opp (P.fa .g1 fa_32_2 rfl) rfl ?_
      refine .gyes rfl .g1 ?_
      refine .op (V.ld (v := N a0.Router) .t0 .k0 (.one isAgg3 rfl)) rfl ?_
      refine .gyes rfl .g1 ?_
      refine .opg (G.call call135 (.cons .t0 (.cons .k (.cons .k .nil))) (S_deal_in a0.Router 2 3 _ rfl) .nil .nil (fun _ _ => rfl) (fun _ _ => rfl) rfl) rfl fun _ _ => ?_
      refine .opp (P.pickT .t1 .t0) rfl ?_
      refine .opp (P.mov .t0) rfl ?_
      refine .split .k0 (fun c6 => ?_) (fun c6 => ?_)
      · rw [if_pos c6] at hj4
        refine .gyes rfl .g0 ?_
        refine .opp (P.fa .g1 fa_32_3 rfl) rfl ?_
        refine .gyes rfl .g1 ?_
        refine .op (V.ld (v := N a0.Send) .t0 .k0 (.one isAgg3 rfl)) rfl ?_
        refine .gyes rfl .g1 ?_
        refine .opg (G.call call135 (.cons .t0 (.cons .k (.cons .k .nil))) (S_deal_in a0.Send 0 1 _ rfl) .nil .nil (fun _ _ => rfl) (fun _ _ => rfl) rfl) rfl fun _ _ => ?_
        refine .opp (P.pickT .t1 .t0) rfl ?_
        refine .opp (P.mov .t0) rfl ?_
        refine .split .k0 (fun c7 => ?_) (fun c7 => ?_)
        · rw [if_pos c7] at hj4
          refine .gyes rfl .g0 ?_
          refine .opp (P.fa .g1 fa_32_4 rfl) rfl ?_
          refine .gyes rfl .g1 ?_
          refine .op (V.ld (v := N a0.Recv) .t0 .k0 (.one isAgg3 rfl)) rfl ?_
          refine .gyes rfl .g1 ?_
          refine .opg (G.call call135 (.cons .t0 (.cons .k (.cons .k .nil))) (S_deal_in a0.Recv 0 1 _ rfl) .nil .nil (fun _ _ => rfl) (fun _ _ => rfl) rfl) rfl fun _ _ => ?_
          refine .opp (P.pickT .t1 .t0) rfl ?_
          refine .opp (P.asg .t0) rfl ?_
          refine .nil ?_
          subst hj4
          exact .stj () (.cons Mm.m0 (.cons Mm.m1 .nil)) (.of (.cons .k0 .nil)) .nil
        · rw [if_neg (ne_true_of_eq_false c7)] at hj4
          refine .gno rfl .g0 rfl rfl ?_
          refine .gno rfl .g0 rfl rfl ?_
          refine .gno rfl .g0 rfl rfl ?_
          refine .opp (P.pickF .t0 .k) rfl ?_
          refine .opp (P.asg .t0) rfl ?_
          refine .nil ?_
          subst hj4
          exact .stj () (.cons Mm.m0 (.cons Mm.m1 .nil)) (.of (.cons .k0 .nil)) .nil
      · rw [if_neg (ne_true_of_eq_false c6)] at hj4
        refine .gno rfl .g0 rfl rfl ?_
        refine .gno rfl .g0 rfl rfl ?_
        refine .gno rfl .g0 rfl rfl ?_
        refine .opp (P.pickF .t0 .k) rfl ?_
        refine .opp (P.mov .t0) rfl ?_
        refine .gno rfl .g0 rfl rfl ?_
        refine .gno rfl .g0 rfl rfl ?_
        refine .gno rfl .g0 rfl rfl ?_
        refine .opp (P.pickF .t0 .k) rfl ?_
        refine .opp (P.asg .t0) rfl ?_
        refine .nil ?_
        subst hj4
        exact .stj () (.cons Mm.m0 (.cons Mm.m1 .nil)) (.of (.cons .k0 .nil)) .nil
    · rw [if_neg (ne_true_of_eq_false c5)] at hj4
      refine .gno rfl .g0 rfl rfl ?_
      refine .gno rfl .g0 rfl rfl ?_
      refine .gno rfl .g0 rfl rfl ?_
      refine .opp (P.pickF .t0 .k) rfl ?_
      refine .opp (P.mov .t0) rfl ?_
      refine .gno rfl .g0 rfl rfl ?_
      refine .gno rfl .g0 rfl rfl ?_
      refine .gno rfl .g0 rfl rfl ?_
      refine .opp (P.pickF .t0 .k) rfl ?_
      refine .opp (P.mov .t0) rfl ?_
      refine .gno rfl .g0 rfl rfl ?_
      refine .gno rfl .g0 rfl rfl ?_
      refine .gno rfl .g0 rfl rfl ?_
      refine .opp (P.pickF .t0 .k) rfl ?_
      refine .opp (P.asg .t0) rfl ?_
      refine .nil ?_
      subst hj4
      exact .stj () (.cons Mm.m0 (.cons Mm.m1 .nil)) (.of (.cons .k0 .nil)) .nil
  · clear hj4
    refine .seq ?_
    obtain ⟨y8, hj10, h⟩ := thn_eq h
    refine .cutx (γ := Unit) (E1 := fun z9 => [(42, Bo y8)]) (L1 := fun z9 => []) (R1 := fun z9 => []) ?_ (fun z9 => ?_)
    · clear h
      refine .reg rfl ?_
      refine .opp (P.mov .t0) rfl ?_
      refine .opp (P.not .t0) rfl ?_
      refine .opp (P.mov .t0) rfl ?_
      refine .split .k0 (fun c11 => ?_) (fun c11 => ?_)
      · rw [if_pos c11] at hj10
        refine .gno rfl .g0 rfl rfl ?_
        refine .gno rfl .g0 rfl rfl ?_
        refine .gno rfl .g0 rfl rfl ?_
        refine .gno rfl .g0 rfl rfl ?_
        refine .opp (P.pickT .t0 .k) rfl ?_
        refine .opp (P.mov .t0) rfl ?_
        refine .gno rfl .g0 rfl rfl ?_
        refine .gno rfl .g0 rfl rfl ?_
        refine .gno rfl .g0 rfl rfl ?_
        refine .gno rfl .g0 rfl rfl ?_
        refine .opp (P.pickT .t0 .k) rfl ?_
        refine .opp (P.mov .t0) rfl ?_
        refine .gno rfl .g0 rfl rfl ?_
        refine .gno rfl .g0 rfl rfl ?_
        refine .gno rfl .g0 rfl rfl ?_
        refine .gno rfl .g0 rfl rfl ?_
        refine .gno rfl .g0 rfl rfl ?_
        refine .opp (P.pickT .t0 .k) rfl ?_
        refine .nil ?_
        subst hj10
        exact .stj () (.cons Mm.m0 .nil) (.of .nil) .nil
      · rw [if_neg (ne_true_of_eq_false c11)] at hj10
        refine .gyes rfl .g0 ?_
        refine .opp (P.fa .g1 fa_32_5 rfl) rfl ?_
        refine .gyes rfl .g1 ?_
        refine .op (V.ld (v := N a0.To) .t0 .k0 (.one isAgg3 rfl)) rfl ?_
        refine .gyes rfl .g1 ?_
        refine .opg (G.call call135 (.cons .t0 (.cons .k (.cons .k .nil))) (S_deal_in a0.To 0 7 _ rfl) .nil .nil (fun _ _ => rfl) (fun _ _ => rfl) rfl) rfl fun _ _ => ?_
        refine .gyes rfl .g1 ?_
        refine .opp (P.not .t0) rfl ?_
        refine .opp (P.pickF .t1 .t0) rfl ?_
        refine .opp (P.mov .t0) rfl ?_
        refine .split .k0 (fun c12 => ?_) (fun c12 => ?_)
        · rw [if_pos c12] at hj10
          refine .gno rfl .g0 rfl rfl ?_
          refine .gno rfl .g0 rfl rfl ?_
          refine .gno rfl .g0 rfl rfl ?_
          refine .gno rfl .g0 rfl rfl ?_
          refine .opp (P.pickT .t0 .k) rfl ?_
          refine .opp (P.mov .t0) rfl ?_
          refine .gno rfl .g0 rfl rfl ?_
          refine .gno rfl .g0 rfl rfl ?_
          refine .gno rfl .g0 rfl rfl ?_
          refine .gno rfl .g0 rfl rfl ?_
          refine .gno rfl .g0 rfl rfl ?_
          refine .opp (P.pickT .t0 .k) rfl ?_
          refine .nil ?_
          subst hj10
          exact .stj () (.cons Mm.m0 .nil) (.of .nil) .nil
        · rw [if_neg (ne_true_of_eq_false c12)] at hj10
          refine .gyes rfl .g0 ?_
          refine .opp (P.fa .g1 fa_32_1 rfl) rfl ?_
          refine .gyes rfl .g1 ?_
          refine .op (V.ld (v := .string a0.Root) .t0 .k0 (.one isAgg9 rfl)) rfl ?_
          refine .gyes rfl .g1 ?_
          refine .opp (P.lens .t0 runUnderlying9) rfl ?_
          refine .gyes rfl .g1 ?_
          refine .opp (P.bin .t0 .k .neq) rfl ?_
          refine .opp (P.pickF .t1 .t0) rfl ?_
          refine .opp (P.mov .t0) rfl ?_
          refine .split .k0 (fun c13 => ?_) (fun c13 => ?_)
          · rw [if_pos c13] at hj10
            refine .gno rfl .g0 rfl rfl ?_
            refine .gno rfl .g0 rfl rfl ?_
            refine .gno rfl .g0 rfl rfl ?_
            refine .gno rfl .g0 rfl rfl ?_
            refine .gno rfl .g0 rfl rfl ?_
            refine .opp (P.pickT .t0 .k) rfl ?_
            refine .nil ?_
            subst hj10
            exact .stj () (.cons Mm.m0 .nil) (.of .nil) .nil
          · rw [if_neg (ne_true_of_eq_false c13)] at hj10
            refine .gyes rfl .g0 ?_
            refine .opp (P.fa .t1 fa_32_6 rfl) rfl ?_
            refine .gyes rfl .g1 ?_
            refine .op (V.ld (v := .string a0.Id) .t0 .k0 (.one isAgg9 rfl)) rfl ?_
            refine .gyes rfl .g1 ?_
            refine .opp (P.lens .t0 runUnderlying9) rfl ?_
            refine .gyes rfl .g1 ?_
            refine .opg (G.call call135 (.cons .t0 (.cons .k (.cons .k .nil))) (S_deal_in ((a0.Id.size : Int)) 1 16 _ rfl) .nil .nil (fun _ _ => rfl) (fun _ _ => rfl) rfl) rfl fun _ _ => ?_
            refine .gyes rfl .g1 ?_
            refine .opp (P.not .t0) rfl ?_
            refine .opp (P.pickF .t1 .t0) rfl ?_
            refine .nil ?_
            subst hj10
            exact .stj () (.cons Mm.m0 .nil) (.of .nil) .nil
    · clear hj10
      refine .cond .t0 (fun c14 => ?_) (fun c14 => ?_)
      · rw [if_pos c14] at h
        refine .seq ?_
        refine .reg rfl ?_
        refine .opp (P.asg .k) rfl ?_
        refine .nil ?_
        refine .then ?_
        refine .ret ?_
        refine .thr ?_
        subst h
        exact .finw () (.r1 rfl (.tmp .g0)) trivial (Ls.of .nil) .nil
      · rw [if_neg (ne_true_of_eq_false c14)] at h
        refine .skip ?_
        refine .then ?_
        refine .seq ?_
        refine .reg rfl ?_
        refine .opp (P.asg .k) rfl ?_
        refine .nil ?_
        refine .then ?_
        refine .ret ?_
        subst h
        exact .finw () (.r1 rfl (.tmp .g0)) trivial (Ls.of .nil) .nil
attribute [irreducible] deal_Check
noncomputable def field_New  : field_Out :=
  (⟨[], 0, true⟩ : field_Out)
set_option maxRecDepth 20000 in
set_option maxHeartbeats 1000000 in
theorem S_field_New  (r : field_Out) (h : field_New  = r) :
    SpecF Try.prog 86 [] [] [] (fun _ : Nat × Value => True) (fun z => pt z.1 0) (fun z M => blk z.1 208 (field_Out.cs r z.2) :: lst 5 1 z.2 (r.b.map (fun x => [B8 x])) ::  M) (fun z M =>  M) := by
  refine .of func86 rfl ntmps86 rfl fun w0 D0 G0 => ?_
  unfold field_New at h
  refine .seq ?_
  refine .reg rfl ?_
  refine .op0 (OpP.toV (P.asg .k)) rfl ?_
  refine .nil ?_
  refine .then ?_
  refine .seq ?_
  refine .reg rfl ?_
  refine .opp (P.bld (v := Ag (field_Out.cs ⟨[], 0, true⟩ nilSl)) (.cons .k .nil) (bld_run zeroValue208 runUnderlying208 pl_208 (by kernel_rfl))) rfl ?_
  refine .opx (X.box (cs := (field_Out.cs ⟨[], 0, true⟩ nilSl)) .t0 rfl) rfl fun b1 => ?_
  refine .opp (P.asg .t0) rfl ?_
  refine .nil ?_
  refine .then ?_
  refine .ret ?_
  subst h
  refine .lnil 5 1 ?_
  exact .finw ⟨b1, nilSl⟩ (.r1 rfl (.tmp .g0)) trivial (Ls.of (.cons .k1 (.cons .k0 .nil))) .nil
attribute [irreducible] field_New
noncomputable def slices_Backward_i165  : Unit :=
  ()
set_option maxRecDepth 20000 in
set_option maxHeartbeats 1000000 in
theorem S_slices_Backward_i165 (v00 : Value) (hv00 : IsSl v00) (r : Unit) (h : slices_Backward_i165  = r) :
    SpecF Try.prog 165 [v00] [] [] (fun _ : Nat => True) (fun z => fnv 194 [pt z 0]) (fun z M => blk z 44 [v00] ::  M) (fun z M =>  M) := by
  refine .of func165 rfl ntmps165 rfl fun w0 D0 G0 => ?_
  unfold slices_Backward_i165 at h
  refine .seq ?_
  refine .reg rfl ?_
  refine .opx (X.box (cs := [v00]) .t0 hv00.cells) rfl fun b1 => ?_
  refine .op0 (OpP.toV (P.asg .k)) rfl ?_
  refine .nil ?_
  refine .then ?_
  refine .seq ?_
  refine .reg rfl ?_
  refine .opp (P.mkf (.cons .t0 .nil)) rfl ?_
  refine .opp (P.asg .t0) rfl ?_
  refine .nil ?_
  refine .then ?_
  refine .ret ?_
  subst h
  exact .finw b1 (.r1 rfl (.tmp .g0)) trivial (Ls.of (.cons .k0 .nil)) .nil
attribute [irreducible] slices_Backward_i165
noncomputable def blob_Num (a0 : Int) (a1 : Int) : Option ((List UInt8)) :=
  grd (0 ≤ (if 8 < if 0 > a1 then 0 else a1 then 8 else if 0 > a1 then 0 else a1) ∧ (if 8 < if 0 > a1 then 0 else a1 then 8 else if 0 > a1 then 0 else a1) * 1 ≤ 140737488355328) <| Option.bind (loopW (fun (s14 : Int × Int × (List UInt8)) => if (decide (s14.1 ≥ 0)) = true then (Option.bind (at_ s14.2.2 s14.1) fun (x27 : UInt8) => Option.bind (at_ s14.2.2 s14.1) fun (x36 : UInt8) => some (.nx ((IntKind.i64.wrap (s14.1 - 1), shrK .i64 s14.2.1 8, (s14.2.2.set ((s14.1).toNat) (B8i s14.2.1 : UInt8)))))) else (some (.br (s14.1, s14.2.1, s14.2.2)))) ((IntKind.i64.wrap (((((List.replicate (if 8 < if 0 > a1 then 0 else a1 then 8 else if 0 > a1 then 0 else a1).toNat (0 : UInt8))).length : Int)) - 1), a0, (List.replicate (if 8 < if 0 > a1 then 0 else a1 then 8 else if 0 > a1 then 0 else a1).toNat (0 : UInt8))))) fun o16 => Lo.on o16 fun (s14 : Int × Int × (List UInt8)) => some s14.2.2
set_option maxRecDepth 20000 in
set_option maxHeartbeats 1000000 in
theorem S_blob_Num (a0 : Int) (a1 : Int) (r : (List UInt8)) (h : blob_Num a0 a1 = some r) :
    SpecF Try.prog 124 [N a0, N a1] [] [] (fun _ : Value => True) (fun z => z) (fun z M => lst 5 1 z (r.map (fun x => [B8 x])) ::  M) (fun z M =>  M) := by
  refine .of func124 rfl ntmps124 rfl fun w0 D0 G0 => ?_
  unfold blob_Num at h
  refine .seq ?_
  refine .reg rfl ?_
  refine .opx (X.box (cs := [N a0]) .t0 rfl) rfl fun b1 => ?_
  refine .op0 (OpP.toV (P.asg .k)) rfl ?_
  refine .nil ?_
  refine .then ?_
  refine .seq ?_
  refine .reg rfl ?_
  refine .opp (P.mov .t1) rfl ?_
  refine .opp (P.max2 .t0 .k) rfl ?_
  refine .opp (P.min2 .t0 .k) rfl ?_
  obtain ⟨hb3, h⟩ := grd_eq h
  refine .opg (G.mks (by_ := 1) (cs := [B8 0]) .g0 .t0 runUnderlying44 sizeOf5 typeInfo5 rfl zeroValue5 rfl rfl rfl rfl hb3.1 hb3.2 rfl) rfl fun u2 _ => ?_
  refine .conseq .k0 (q := lst 5 1 u2 (((List.replicate (if 8 < if 0 > a1 then 0 else a1 then 8 else if 0 > a1 then 0 else a1).toNat (0 : UInt8))).map (fun x => [B8 x]))) (fun _ hh => by simpa [List.map_replicate] using hh) ?_
  refine .opx (X.alc (cs := [nilSl]) zeroValue44 rfl) rfl fun b4 => ?_
  refine .onel .k1 fun ho5 => ?_
  refine .opg (G.str .t1 .g0 .k0 (.mk1 (cs' := [u2]) sizeOf44 rfl ho5 rfl rfl)) rfl fun _ _ => ?_
  refine .nil ?_
  refine .then ?_
  refine .seq ?_
  refine .seq ?_
  refine .reg rfl ?_
  refine .op (V.ld (v := u2) .g0 .k0 (.one isAgg44 rfl)) rfl ?_
  refine .cell .k1 fun hv6 => ?_
  refine .opg (G.call call165 (.cons .t0 .nil) (S_slices_Backward_i165 u2 hv6 _ rfl) .nil .nil (fun _ _ => rfl) (fun _ _ => rfl) rfl) rfl fun b7 _ => ?_
  refine .nil ?_
  refine .then ?_
  refine .block ?_
  refine .rangeF rfl .t0 call194 func194 rfl ntmps194 rfl fun a8 O9 D10 l11 ha12 hO13 => ?_
  refine .seq ?_
  refine .reg rfl ?_
  refine .op (V.ld (v := u2) .g1 .k2 (.one isAgg44 rfl)) rfl ?_
  refine .op (V.lnl (n := ((List.replicate (if 8 < if 0 > a1 then 0 else a1 then 8 else if 0 > a1 then 0 else a1).toNat (0 : UInt8))).length) .t0 .k4 map_len runUnderlying44) rfl ?_
  refine .opp (P.bin .t0 .k .sub) rfl ?_
  refine .opp (P.asg .t0) rfl ?_
  refine .nil ?_
  refine .then ?_
  refine .block ?_
  obtain ⟨o16, ho17, h⟩ := bnd_eq h
  refine .loopW (γ := Unit) (fun (s14 : Int × Int × (List UInt8)) z15 => [(3, N s14.1), (0, yv l11), (1, pt b7 0)]) (fun (s14 : Int × Int × (List UInt8)) z15 => [blk b7 44 [u2], blk b4 44 [u2], blk b1 3 [N s14.2.1], lst 5 1 u2 (s14.2.2.map (fun x => [B8 x])), obj l11 (O9 .ready none), obj D10 (.deferred (some []))]) (fun (s14 : Int × Int × (List UInt8)) z15 => []) () ho17 (.cons Mm.m0 (.cons Mm.m1 (.cons Mm.m2 .nil))) (.of (.cons .k2 (.cons .k2 (.cons .k3 (.cons .k2 (.cons .k0 (.cons .k0 .nil))))))) .nil (fun n22 s14 z15 hr20 => ?_)
  obtain ⟨ct21, hc18, hn19⟩ := loopK_at hr20
  refine .seq ?_
  refine .seq ?_
  refine .reg rfl ?_
  refine .opp (P.mov .g0) rfl ?_
  refine .opp (P.bin .t0 .k .geq) rfl ?_
  refine .nil ?_
  refine .then ?_
  refine .cond .t0 (fun c23 => ?_) (fun c23 => ?_)
  · rw [if_pos c23] at hc18
    refine .skip ?_
    refine .then ?_
    refine .seq ?_
    refine .block ?_
    refine .seq ?_
    refine .regY 6 rfl ?_
    refine .opp (P.mov .g1) rfl ?_
    refine .opp (P.mov .g1) rfl ?_
    refine .op (V.ld (v := u2) .g4 .k0 (.one isAgg44 rfl)) rfl ?_
    refine .opp (P.mov .g3) rfl ?_
    obtain ⟨x27, hx28, hc18⟩ := bnd_eq hc18
    obtain ⟨i29, hi30, hx28⟩ := at_eq hx28
    have hi30_ : (s14.1).toNat = i29 := by rw [hi30]; rfl
    refine .ixql .k3 (map_get hx28) fun p24 q25 hq26 => ?_
    refine .opp (P.ixi (i := i29) .t0 hi30 .t0 hq26 runUnderlying44 sizeOf5) rfl ?_
    refine .op (V.ldxl0 (u := B8 x27) .t0 hq26 .k3 (map_get hx28) (.one isAgg5 rfl)) rfl ?_
    refine .nil ?_
    refine .then ?_
    refine .yield (ps := [13, 14]) .t2 (.cons .t1 (.cons .t0 .nil)) hO13 .k4 rfl rfl (by decide) fun a31 ha32 => ?_
    refine .reg rfl ?_
    refine .opp (P.asg .t0) rfl ?_
    refine .nil ?_
    refine .then ?_
    refine .bg rfl hO13 .k0 ?_
    refine .block ?_
    refine .seq ?_
    refine .reg rfl ?_
    refine .op (V.ld (v := u2) .t2 .k2 (.one isAgg44 rfl)) rfl ?_
    refine .opp (P.mov .t1) rfl ?_
    refine .op (V.ld (v := N s14.2.1) .g3 .k3 (.one isAgg3 rfl)) rfl ?_
    refine .opp (P.cnvB8 (m := s14.2.1) .t0 runUnderlying3 runUnderlying5) rfl ?_
    obtain ⟨x36, hx37, hc18⟩ := bnd_eq hc18
    obtain ⟨i38, hi39, hx37⟩ := at_eq hx37
    have hi39_ : (s14.1).toNat = i38 := by rw [hi39]; rfl
    refine .ixql .k4 (map_get hx37) fun p33 q34 hq35 => ?_
    refine .opp (P.ixi (i := i38) .t1 hi39 .t1 hq35 runUnderlying44 sizeOf5) rfl ?_
    refine .opg (G.stx (off := q34) (k := 0) (cs' := [B8 (B8i s14.2.1)]) .t1 .t0 hq35 .k4 (map_get hx37) (.mk sizeOf5 rfl rfl rfl rfl)) rfl fun _ _ => ?_
    refine .conseq .k0 (q := lst 5 1 u2 (((s14.2.2.set ((s14.1).toNat) (B8i s14.2.1 : UInt8))).map (fun x => [B8 x]))) (fun _ h_ => by rw [hi39_]; simpa [List.map_set] using h_) ?_
    refine .nil ?_
    refine .then ?_
    refine .reg rfl ?_
    refine .op (V.ld (v := N s14.2.1) .g1 .k4 (.one isAgg3 rfl)) rfl ?_
    refine .opp (P.bin .t0 .k (.shr (by decide))) rfl ?_
    refine .opg (G.str .t0 .t1 .k4 (.mk (cs' := [N (shrK .i64 s14.2.1 8)]) sizeOf3 rfl rfl rfl rfl)) rfl fun _ _ => ?_
    refine .nil ?_
    refine .inn ?_
    refine .rnorm rfl ⟨rfl, rfl, rfl⟩ ha32 hO13 .k2 rfl ?_
    refine .inL rfl ?_
    refine .opp (P.not .t0) rfl ?_
    refine .nil ?_
    refine .then ?_
    refine .condF .t0 ?_
    refine .skip ?_
    refine .inn ?_
    refine .then ?_
    refine .reg rfl ?_
    refine .opp (P.mov .g0) rfl ?_
    refine .opp (P.bin .t0 .k .sub) rfl ?_
    refine .drop .k1 ?_
    refine .opp (P.asg .t0) rfl ?_
    refine .nil ?_
    cases hc18
    obtain ⟨m40, hm41, hn19⟩ := hn19
    exact .rdW ((IntKind.i64.wrap (s14.1 - 1), shrK .i64 s14.2.1 8, (s14.2.2.set ((s14.1).toNat) (B8i s14.2.1 : UInt8)))) () hm41 hn19 (.cons Mm.m0 (.cons Mm.m1 (.cons Mm.m2 .nil))) (.of (.cons .k3 (.cons .k3 (.cons .k1 (.cons .k1 (.cons .k0 (.cons .k0 .nil))))))) .nil
  · rw [if_neg (ne_true_of_eq_false c23)] at hc18
    refine .exit ?_
    refine .thx ?_
    cases hc18
    refine .told (γ := Unit) h hn19 (fun (s14 : Int × Int × (List UInt8)) _ => [(3, N s14.1), (0, yv l11), (1, pt b7 0)]) (fun (s14 : Int × Int × (List UInt8)) _ => [blk b7 44 [u2], blk b4 44 [u2], blk b1 3 [N s14.2.1], lst 5 1 u2 (s14.2.2.map (fun x => [B8 x])), obj l11 (O9 .ready none), obj D10 (.deferred (some []))]) (fun (s14 : Int × Int × (List UInt8)) _ => []) () (.cons Mm.m0 (.cons Mm.m1 (.cons Mm.m2 .nil))) (.of (.cons .k0 (.cons .k0 (.cons .k0 (.cons .k0 (.cons .k0 (.cons .k0 .nil))))))) .nil (fun s14 _ h' => ?_)
    replace h := h'
    refine .thx ?_
    refine .inb ?_
    refine .rfinn ha12 hO13 .k4 rfl ?_
    refine .inn ?_
    refine .then ?_
    refine .seq ?_
    refine .reg rfl ?_
    refine .op (V.ld (v := u2) .t0 .k1 (.one isAgg44 rfl)) rfl ?_
    refine .opp (P.asg .t0) rfl ?_
    refine .nil ?_
    refine .then ?_
    refine .ret ?_
    cases h
    exact .finm u2 .k4 (.r1 rfl (.tmp .g0)) trivial (Ls.of (.cons .k3 .nil)) .nil
attribute [irreducible] blob_Num
noncomputable def field_Out_put (a0 : field_Out) (a1 : List UInt8) (a2 : Int) : Option (field_Out) :=
  thn (if (!a0.made) = true then true else (decide (a0.e_ ≠ 0))) fun (y1 : Bool) => if y1 = true then (some a0) else (if (decide (a2 ≠ 0)) = true then (some (⟨a0.b, a2, a0.made⟩ : field_Out)) else (if (decide ((IntKind.i64.wrap (((a0.b.length : Int)) + ((a1.length : Int)))) > 8192)) = true then (some (⟨a0.b, 5, a0.made⟩ : field_Out)) else (grd ((a0.b.length + a1.length) * 1 ≤ 140737488355328) <| some ((⟨(a0.b ++ a1), a0.e_, a0.made⟩ : field_Out)))))
set_option maxRecDepth 20000 in
set_option maxHeartbeats 1000000 in
theorem S_field_Out_put (b00 : Nat) (a0 : field_Out) (z00a : Value) (v01 : Value) (a1 : List UInt8) (a2 : Int) (r : field_Out) (h : field_Out_put a0 a1 a2 = some r) :
    SpecF Try.prog 169 [pt b00 0, v01, N a2] [blk b00 208 (field_Out.cs a0 z00a), lst 5 1 z00a (a0.b.map (fun x => [B8 x]))] [rows 1 v01 (a1.map (fun x => [B8 x]))] (fun _ : Value => True) (fun z => Tu []) (fun z M => blk b00 208 (field_Out.cs r z) :: lst 5 1 z (r.b.map (fun x => [B8 x])) ::  M) (fun z M =>  M) := by
  refine .of func169 rfl ntmps169 rfl fun w0 D0 G0 => ?_
  unfold field_Out_put at h
  refine .block ?_
  obtain ⟨y1, hj3, h⟩ := thn_eq h
  refine .cutx (γ := Unit) (E1 := fun z2 => [(15, Bo y1), (0, pt b00 0), (1, v01), (2, N a2)]) (L1 := fun z2 => [blk b00 208 (field_Out.cs a0 z00a), lst 5 1 z00a (a0.b.map (fun x => [B8 x]))]) (R1 := fun z2 => [rows 1 v01 (a1.map (fun x => [B8 x]))]) ?_ (fun z2 => ?_)
  · clear h
    refine .reg rfl ?_
    refine .opp (P.mov .g0) rfl ?_
    refine .opp (P.bin .t0 .k (.ptr_eql (e := 208) (by kernel_rfl))) rfl ?_
    refine .opp (P.mov .t0) rfl ?_
    refine .gyes rfl .g0 ?_
    refine .opp (P.mov .g1) rfl ?_
    refine .gyes rfl .g1 ?_
    refine .opp (P.nilc .t0) rfl ?_
    refine .gyes rfl .g1 ?_
    refine .opp (P.fa .t0 fa_208_2 rfl) rfl ?_
    refine .gyes rfl .g1 ?_
    refine .op (V.ld (v := Bo a0.made) .t0 .k0 (.one isAgg4 rfl)) rfl ?_
    refine .gyes rfl .g1 ?_
    refine .opp (P.not .t0) rfl ?_
    refine .opp (P.pickF .t1 .t0) rfl ?_
    refine .opp (P.mov .t0) rfl ?_
    refine .split .k0 (fun c4 => ?_) (fun c4 => ?_)
    · rw [if_pos c4] at hj3
      refine .gno rfl .g0 rfl rfl ?_
      refine .gno rfl .g0 rfl rfl ?_
      refine .gno rfl .g0 rfl rfl ?_
      refine .gno rfl .g0 rfl rfl ?_
      refine .gno rfl .g0 rfl rfl ?_
      refine .opp (P.pickT .t0 .k) rfl ?_
      refine .opp (P.asg .t0) rfl ?_
      refine .nil ?_
      subst hj3
      exact .stj () (.cons Mm.m0 (.cons Mm.m1 (.cons Mm.m2 (.cons Mm.m3 .nil)))) (.of (.cons .k0 (.cons .k0 .nil))) (.cons Mm.m0 .nil)
    · rw [if_neg (ne_true_of_eq_false c4)] at hj3
      refine .gyes rfl .g0 ?_
      refine .opp (P.mov .g1) rfl ?_
      refine .gyes rfl .g1 ?_
      refine .opp (P.nilc .t0) rfl ?_
      refine .gyes rfl .g1 ?_
      refine .opp (P.fa .t0 fa_208_1 rfl) rfl ?_
      refine .gyes rfl .g1 ?_
      refine .op (V.ld (v := N a0.e_) .t0 .k0 (.one isAgg30 rfl)) rfl ?_
      refine .gyes rfl .g1 ?_
      refine .opp (P.bin .t0 .k .neq) rfl ?_
      refine .opp (P.pickF .t1 .t0) rfl ?_
      refine .opp (P.asg .t0) rfl ?_
      refine .nil ?_
      subst hj3
      exact .stj () (.cons Mm.m0 (.cons Mm.m1 (.cons Mm.m2 (.cons Mm.m3 .nil)))) (.of (.cons .k0 (.cons .k0 .nil))) (.cons Mm.m0 .nil)
  · clear hj3
    refine .cond .t0 (fun c5 => ?_) (fun c5 => ?_)
    · rw [if_pos c5] at h
      refine .skip ?_
      refine .inn ?_
      cases h
      exact .finwn z00a (.r0 rfl) trivial (Ls.of (.cons .k0 (.cons .k0 .nil))) .nil
    · rw [if_neg (ne_true_of_eq_false c5)] at h
      refine .seq ?_
      refine .reg rfl ?_
      refine .opp (P.mov .g2) rfl ?_
      refine .opp (P.bin .t0 .k .neq) rfl ?_
      refine .opp (P.asg .t0) rfl ?_
      refine .nil ?_
      refine .then ?_
      refine .cond .t0 (fun c6 => ?_) (fun c6 => ?_)
      · rw [if_pos c6] at h
        refine .reg rfl ?_
        refine .opp (P.mov .t0) rfl ?_
        refine .opp (P.mov .t2) rfl ?_
        refine .opp (P.nilc .t1) rfl ?_
        refine .opp (P.fa .t0 fa_208_1 rfl) rfl ?_
        refine .opg (G.str .t1 .t0 .k0 (.mk (cs' := (field_Out.cs ⟨a0.b, a2, a0.made⟩ z00a)) sizeOf30 rfl rfl rfl rfl)) rfl fun _ _ => ?_
        refine .nil ?_
        refine .inn ?_
        cases h
        exact .finwn z00a (.r0 rfl) trivial (Ls.of (.cons .k0 (.cons .k0 .nil))) .nil
      · rw [if_neg (ne_true_of_eq_false c6)] at h
        refine .seq ?_
        refine .reg rfl ?_
        refine .opp (P.mov .g0) rfl ?_
        refine .opp (P.nilc .t0) rfl ?_
        refine .opp (P.fa .t0 fa_208_0 rfl) rfl ?_
        refine .op (V.ld (v := z00a) .t0 .k0 (.one isAgg44 rfl)) rfl ?_
        refine .op (V.lnl (n := a0.b.length) .t0 .k1 map_len runUnderlying44) rfl ?_
        refine .opp (P.mov .g2) rfl ?_
        refine .op (V.lnr (n := a1.length) .t0 Mm.m0 map_len runUnderlying44) rfl ?_
        refine .opp (P.bin .t1 .t0 .add) rfl ?_
        refine .opp (P.bin .t0 .k .gtr) rfl ?_
        refine .opp (P.asg .t0) rfl ?_
        refine .nil ?_
        refine .then ?_
        refine .cond .t0 (fun c7 => ?_) (fun c7 => ?_)
        · rw [if_pos c7] at h
          refine .reg rfl ?_
          refine .opp (P.mov .t0) rfl ?_
          refine .opp (P.nilc .t0) rfl ?_
          refine .opp (P.fa .t0 fa_208_1 rfl) rfl ?_
          refine .opg (G.str .k .t0 .k0 (.mk (cs' := (field_Out.cs ⟨a0.b, 5, a0.made⟩ z00a)) sizeOf30 rfl rfl rfl rfl)) rfl fun _ _ => ?_
          refine .nil ?_
          refine .inn ?_
          cases h
          exact .finwn z00a (.r0 rfl) trivial (Ls.of (.cons .k0 (.cons .k0 .nil))) .nil
        · rw [if_neg (ne_true_of_eq_false c7)] at h
          refine .reg rfl ?_
          refine .opp (P.mov .g0) rfl ?_
          refine .opp (P.mov .t1) rfl ?_
          refine .opp (P.nilc .t0) rfl ?_
          refine .opp (P.fa .t0 fa_208_0 rfl) rfl ?_
          refine .op (V.ld (v := z00a) .t0 .k0 (.one isAgg44 rfl)) rfl ?_
          refine .opp (P.mov .t2) rfl ?_
          obtain ⟨hb9, h⟩ := grd_eq h
          refine .opg (G.app (by_ := 1) .t1 .t0 .k1 (.inl Mm.m0) runUnderlying44 runUnderlying44 sizeOf5 typeInfo5 rfl rfl zeroValue5 rfl (one_map one_5 _) (by simpa using hb9) rfl) rfl fun u8 _ => ?_
          refine .conseq .k0 (q := lst 5 1 u8 (((a0.b ++ a1)).map (fun x => [B8 x]))) (fun _ hh => by simpa [List.map_append] using hh) ?_
          refine .opp (P.nilc .t1) rfl ?_
          refine .opp (P.fa .t0 fa_208_0 rfl) rfl ?_
          refine .onel .k0 fun ho10 => ?_
          refine .opg (G.str .t1 .t0 .k1 (.mk1 (cs' := (field_Out.cs ⟨[], a0.e_, a0.made⟩ u8)) sizeOf44 rfl ho10 rfl rfl)) rfl fun _ _ => ?_
          refine .nil ?_
          refine .inn ?_
          cases h
          exact .finwn u8 (.r0 rfl) trivial (Ls.of (.cons .k0 (.cons .k0 .nil))) .nil
attribute [irreducible] field_Out_put
noncomputable def slices_Grow_i195_nil (a1 : Int) : Option ((List UInt8)) :=
  if (decide (a1 < 0)) = true then none else (Option.bind (if (decide ((IntKind.i64.wrap (a1 - 0)) > 0)) = true then (grd (0 ≤ (IntKind.i64.wrap (a1 - 0)) ∧ (IntKind.i64.wrap (a1 - 0)) * 1 ≤ 70368744177664) <| some ()) else (some ())) fun (y2 : Unit) => some ([] : List UInt8))
set_option maxRecDepth 20000 in
set_option maxHeartbeats 1000000 in
theorem S_slices_Grow_i195_nil (a1 : Int) (r : (List UInt8)) (h : slices_Grow_i195_nil a1 = some r) :
    SpecF Try.prog 195 [nilSl, N a1] [] [] (fun _ : Value => True) (fun z => z) (fun z M => lst 5 1 z (r.map (fun x => [B8 x])) ::  M) (fun z M =>  M) := by
  refine .of func195 rfl ntmps195 rfl fun w0 D0 G0 => ?_
  unfold slices_Grow_i195_nil at h
  refine .seq ?_
  refine .reg rfl ?_
  refine .op0 (OpP.toV (P.asg .k)) rfl ?_
  refine .nil ?_
  refine .then ?_
  refine .seq ?_
  refine .seq ?_
  refine .reg rfl ?_
  refine .opp (P.mov .g1) rfl ?_
  refine .opp (P.bin .t0 .k .lss) rfl ?_
  refine .nil ?_
  refine .then ?_
  refine .cond .t0 (fun c1 => ?_) (fun c1 => ?_)
  · rw [if_pos c1] at h
    refine .reg rfl ?_
    cases h
  · rw [if_neg (ne_true_of_eq_false c1)] at h
    refine .skip ?_
    refine .then ?_
    obtain ⟨y2, hj4, h⟩ := bnd_eq h
    refine .cutx (γ := Value) (E1 := fun z3 => [(0, z3)]) (L1 := fun z3 => [lst 5 1 z3 []]) (R1 := fun z3 => []) ?_ (fun z3 => ?_)
    · clear h
      refine .seq ?_
      refine .reg rfl ?_
      refine .opp (P.mov .g1) rfl ?_
      refine .opp (P.mov .g1) rfl ?_
      refine .opp (P.capn .t0 runUnderlying44) rfl ?_
      refine .opp (P.mov .g2) rfl ?_
      refine .opp (P.lenn .t0 runUnderlying44) rfl ?_
      refine .opp (P.bin (v := N 0) .t1 .t0 (.subc (by decide))) rfl ?_
      refine .opp (P.bin .t1 .t0 .sub) rfl ?_
      refine .drop .k2 ?_
      refine .opp (P.asg .t0) rfl ?_
      refine .nil ?_
      refine .then ?_
      refine .seq ?_
      refine .reg rfl ?_
      refine .opp (P.mov .g0) rfl ?_
      refine .opp (P.bin .t0 .k .gtr) rfl ?_
      refine .nil ?_
      refine .then ?_
      refine .cond .t0 (fun c5 => ?_) (fun c5 => ?_)
      · rw [if_pos c5] at hj4
        refine .reg rfl ?_
        refine .opp (P.mov .g1) rfl ?_
        refine .opp (P.mov .g2) rfl ?_
        refine .opp (P.capn .t0 runUnderlying44) rfl ?_
        refine .opp (P.sln .t1 .t0 runUnderlying44 sizeOf5) rfl ?_
        refine .opp (P.mov .t1) rfl ?_
        obtain ⟨hb7, hj4⟩ := grd_eq hj4
        refine .opg (G.appn (by_ := 1) (cs := [B8 0]) (m := IntKind.i64.wrap (a1 - 0)) .t1 .t0 runUnderlying44 runUnderlying3 sizeOf5 typeInfo5 rfl rfl zeroValue5 rfl rfl rfl hb7.1 hb7.2 rfl) rfl fun u6 _ => ?_
        refine .conseq .k0 (q := lst 5 1 u6 (((List.replicate (IntKind.i64.wrap (a1 - 0)).toNat (0 : UInt8))).map (fun x => [B8 x]))) (fun _ hh => by simpa [List.map_replicate] using hh) ?_
        refine .opp (P.mov .g1) rfl ?_
        refine .opp (P.lenn .t0 runUnderlying44) rfl ?_
        refine .opg (G.sll (m := 0) .t1 .t0 .k0 runUnderlying44 sizeOf5 (by decide) (Int.natCast_nonneg _) rfl) rfl fun u8 _ => ?_
        refine .conseq .k0 (q := lst 5 1 u8 []) (fun _ hh => by simpa using hh) ?_
        refine .drop .k1 ?_
        refine .opp (P.asg .t0) rfl ?_
        refine .nil ?_
        cases hj4
        exact .stj u8 (.cons Mm.m0 .nil) (.of (.cons .k0 .nil)) .nil
      · rw [if_neg (ne_true_of_eq_false c5)] at hj4
        refine .skip ?_
        cases hj4
        refine .lnil 5 1 ?_
        exact .stj nilSl (.cons Mm.m1 .nil) (.of (.cons .k0 .nil)) .nil
    · clear hj4
      refine .seq ?_
      refine .reg rfl ?_
      refine .opp (P.mov .t0) rfl ?_
      refine .opp (P.asg .t0) rfl ?_
      refine .nil ?_
      refine .then ?_
      refine .ret ?_
      cases h
      exact .finw z3 (.r1 rfl (.tmp .g0)) trivial (Ls.of (.cons .k0 .nil)) .nil
attribute [irreducible] slices_Grow_i195_nil
noncomputable def slices_Concat_i166_n2 (a0a : List UInt8) (a0b : List UInt8) : Option ((List UInt8)) :=
  if (decide ((IntKind.i64.wrap (0 + ((a0a.length : Int)))) < 0)) = true then none else (if (decide ((IntKind.i64.wrap ((IntKind.i64.wrap (0 + ((a0a.length : Int)))) + ((a0b.length : Int)))) < 0)) = true then none else (Option.bind (slices_Grow_i195_nil (IntKind.i64.wrap ((IntKind.i64.wrap (0 + ((a0a.length : Int)))) + ((a0b.length : Int))))) fun r9 => grd ((r9.length + a0a.length) * 1 ≤ 140737488355328) <| grd ((((r9 ++ a0a)).length + a0b.length) * 1 ≤ 140737488355328) <| some (((((r9 ++ a0a)) ++ a0b)))))
set_option maxRecDepth 20000 in
set_option maxHeartbeats 1000000 in
theorem S_slices_Concat_i166_n2 (v00 : Value) (z00a : Value) (a0a : List UInt8) (z00b : Value) (a0b : List UInt8) (r : (List UInt8)) (h : slices_Concat_i166_n2 a0a a0b = some r) :
    SpecF Try.prog 166 [v00] [] [rows 1 v00 [[z00a], [z00b]], rows 1 z00a (a0a.map (fun x => [B8 x])), rows 1 z00b (a0b.map (fun x => [B8 x]))] (fun _ : Value => True) (fun z => z) (fun z M => lst 5 1 z (r.map (fun x => [B8 x])) ::  M) (fun z M =>  M) := by
  refine .of func166 rfl ntmps166 rfl fun w0 D0 G0 => ?_
  unfold slices_Concat_i166_n2 at h
  refine .seq ?_
  refine .reg rfl ?_
  refine .op0 (OpP.toV (P.asg .k)) rfl ?_
  refine .nil ?_
  refine .then ?_
  refine .seq ?_
  refine .reg rfl ?_
  refine .opp (P.asg .k) rfl ?_
  refine .nil ?_
  refine .then ?_
  refine .seq ?_
  refine .seq ?_
  refine .reg rfl ?_
  refine .opp (P.mov .g1) rfl ?_
  refine .op (V.lnr (n := 2) .g0 Mm.m0 rfl runUnderlying212) rfl ?_
  refine .opp (P.mov .k) rfl ?_
  refine .nil ?_
  refine .then ?_
  refine .block ?_
  refine .rounds 3 ?_
  refine .rd ?_
  refine .seq ?_
  refine .reg rfl ?_
  refine .opp (P.bin (v := Bo true) .g0 .g1 (BinV.lss.boolc (by decide))) rfl ?_
  refine .nil ?_
  refine .then ?_
  refine .seq ?_
  refine .condT .t0 ?_
  refine .skip ?_
  refine .then ?_
  refine .seq ?_
  refine .block ?_
  refine .seq ?_
  refine .reg rfl ?_
  refine .ixq Mm.m0 (show [[z00a], [z00b]][0]? = some [z00a] from rfl) fun p1 q2 hq3 => ?_
  refine .opp (P.ixi (i := 0) .g0 rfl .g2 hq3 runUnderlying212 sizeOf44) rfl ?_
  refine .op (V.ldx0 (u := z00a) .t0 hq3 Mm.m0 (show [[z00a], [z00b]][0]? = some [z00a] from rfl) (.one isAgg44 rfl)) rfl ?_
  refine .opp (P.asg .t0) rfl ?_
  refine .nil ?_
  refine .then ?_
  refine .seq ?_
  refine .reg rfl ?_
  refine .opp (P.mov .g4) rfl ?_
  refine .opp (P.mov .t1) rfl ?_
  refine .op (V.lnr (n := a0a.length) .t0 Mm.m1 map_len runUnderlying44) rfl ?_
  refine .opp (P.bin .t1 .t0 .add) rfl ?_
  refine .drop .k4 ?_
  refine .opp (P.asg .t0) rfl ?_
  refine .nil ?_
  refine .then ?_
  refine .seq ?_
  refine .reg rfl ?_
  refine .opp (P.mov .g0) rfl ?_
  refine .opp (P.bin .t0 .k .lss) rfl ?_
  refine .nil ?_
  refine .then ?_
  refine .cond .t0 (fun c4 => ?_) (fun c4 => ?_)
  · rw [if_pos c4] at h
    refine .reg rfl ?_
    cases h
  · rw [if_neg (ne_true_of_eq_false c4)] at h
    refine .skip ?_
    refine .inn ?_
    refine .then ?_
    refine .reg rfl ?_
    refine .opp (P.bin (v := N 1) .g1 .k (.addc (by decide))) rfl ?_
    refine .drop .k2 ?_
    refine .opp (P.mov .t0) rfl ?_
    refine .nil ?_
    refine .then ?_
    refine .rd ?_
    refine .seq ?_
    refine .reg rfl ?_
    refine .opp (P.bin (v := Bo true) .g0 .g2 (BinV.lss.boolc (by decide))) rfl ?_
    refine .nil ?_
    refine .then ?_
    refine .seq ?_
    refine .condT .t0 ?_
    refine .skip ?_
    refine .then ?_
    refine .seq ?_
    refine .block ?_
    refine .seq ?_
    refine .reg rfl ?_
    refine .ixq Mm.m0 (show [[z00a], [z00b]][1]? = some [z00b] from rfl) fun p5 q6 hq7 => ?_
    refine .opp (P.ixi (i := 1) .g0 rfl .g3 hq7 runUnderlying212 sizeOf44) rfl ?_
    refine .op (V.ldx0 (u := z00b) .t0 hq7 Mm.m0 (show [[z00a], [z00b]][1]? = some [z00b] from rfl) (.one isAgg44 rfl)) rfl ?_
    refine .opp (P.asg .t0) rfl ?_
    refine .nil ?_
    refine .then ?_
    refine .seq ?_
    refine .reg rfl ?_
    refine .opp (P.mov .g2) rfl ?_
    refine .opp (P.mov .t1) rfl ?_
    refine .op (V.lnr (n := a0b.length) .t0 Mm.m2 map_len runUnderlying44) rfl ?_
    refine .opp (P.bin .t1 .t0 .add) rfl ?_
    refine .drop .k2 ?_
    refine .opp (P.asg .t0) rfl ?_
    refine .nil ?_
    refine .then ?_
    refine .seq ?_
    refine .reg rfl ?_
    refine .opp (P.mov .g0) rfl ?_
    refine .opp (P.bin .t0 .k .lss) rfl ?_
    refine .nil ?_
    refine .then ?_
    refine .cond .t0 (fun c8 => ?_) (fun c8 => ?_)
    · rw [if_pos c8] at h
      refine .reg rfl ?_
      cases h
    · rw [if_neg (ne_true_of_eq_false c8)] at h
      refine .skip ?_
      refine .inn ?_
      refine .then ?_
      refine .reg rfl ?_
      refine .opp (P.bin (v := N 2) .g1 .k (.addc (by decide))) rfl ?_
      refine .drop .k2 ?_
      refine .opp (P.mov .t0) rfl ?_
      refine .nil ?_
      refine .then ?_
      refine .rd ?_
      refine .seq ?_
      refine .reg rfl ?_
      refine .opp (P.bin (v := Bo false) .g0 .g2 (BinV.lss.boolc (by decide))) rfl ?_
      refine .nil ?_
      refine .then ?_
      refine .seq ?_
      refine .condF .t0 ?_
      refine .exit ?_
      refine .thx ?_
      refine .thx ?_
      refine .inb ?_
      refine .then ?_
      refine .seq ?_
      refine .reg rfl ?_
      refine .opp (P.mov .t1) rfl ?_
      obtain ⟨r9, hr10, h⟩ := bnd_eq h
      refine .opg (G.call call195 (.cons .k (.cons .t0 .nil)) (S_slices_Grow_i195_nil (IntKind.i64.wrap ((IntKind.i64.wrap (0 + ((a0a.length : Int)))) + ((a0b.length : Int)))) r9 hr10) .nil .nil (fun _ _ => rfl) (fun _ _ => rfl) rfl) rfl fun u11 _ => ?_
      refine .opp (P.asg .t0) rfl ?_
      refine .nil ?_
      refine .then ?_
      refine .seq ?_
      refine .seq ?_
      refine .reg rfl ?_
      refine .opp (P.mov .t4) rfl ?_
      refine .op (V.lnr (n := 2) .g0 Mm.m0 rfl runUnderlying212) rfl ?_
      refine .opp (P.mov .k) rfl ?_
      refine .nil ?_
      refine .then ?_
      refine .block ?_
      refine .rounds 3 ?_
      refine .rd ?_
      refine .seq ?_
      refine .reg rfl ?_
      refine .opp (P.bin (v := Bo true) .g0 .g1 (BinV.lss.boolc (by decide))) rfl ?_
      refine .nil ?_
      refine .then ?_
      refine .seq ?_
      refine .condT .t0 ?_
      refine .skip ?_
      refine .then ?_
      refine .seq ?_
      refine .block ?_
      refine .seq ?_
      refine .reg rfl ?_
      refine .ixq Mm.m0 (show [[z00a], [z00b]][0]? = some [z00a] from rfl) fun p12 q13 hq14 => ?_
      refine .opp (P.ixi (i := 0) .g0 rfl .g2 hq14 runUnderlying212 sizeOf44) rfl ?_
      refine .op (V.ldx0 (u := z00a) .t0 hq14 Mm.m0 (show [[z00a], [z00b]][0]? = some [z00a] from rfl) (.one isAgg44 rfl)) rfl ?_
      refine .opp (P.asg .t0) rfl ?_
      refine .nil ?_
      refine .then ?_
      refine .reg rfl ?_
      refine .opp (P.mov .g4) rfl ?_
      refine .opp (P.mov .t1) rfl ?_
      obtain ⟨hb16, h⟩ := grd_eq h
      refine .opg (G.app (by_ := 1) .t1 .t0 .k0 (.inl Mm.m1) runUnderlying44 runUnderlying44 sizeOf5 typeInfo5 rfl rfl zeroValue5 rfl (one_map one_5 _) (by simpa using hb16) rfl) rfl fun u15 _ => ?_
      refine .conseq .k0 (q := lst 5 1 u15 (((r9 ++ a0a)).map (fun x => [B8 x]))) (fun _ hh => by simpa [List.map_append] using hh) ?_
      refine .drop .k4 ?_
      refine .opp (P.asg .t0) rfl ?_
      refine .nil ?_
      refine .inn ?_
      refine .then ?_
      refine .reg rfl ?_
      refine .opp (P.bin (v := N 1) .g1 .k (.addc (by decide))) rfl ?_
      refine .drop .k2 ?_
      refine .opp (P.mov .t0) rfl ?_
      refine .nil ?_
      refine .then ?_
      refine .rd ?_
      refine .seq ?_
      refine .reg rfl ?_
      refine .opp (P.bin (v := Bo true) .g0 .g2 (BinV.lss.boolc (by decide))) rfl ?_
      refine .nil ?_
      refine .then ?_
      refine .seq ?_
      refine .condT .t0 ?_
      refine .skip ?_
      refine .then ?_
      refine .seq ?_
      refine .block ?_
      refine .seq ?_
      refine .reg rfl ?_
      refine .ixq Mm.m0 (show [[z00a], [z00b]][1]? = some [z00b] from rfl) fun p17 q18 hq19 => ?_
      refine .opp (P.ixi (i := 1) .g0 rfl .g3 hq19 runUnderlying212 sizeOf44) rfl ?_
      refine .op (V.ldx0 (u := z00b) .t0 hq19 Mm.m0 (show [[z00a], [z00b]][1]? = some [z00b] from rfl) (.one isAgg44 rfl)) rfl ?_
      refine .opp (P.asg .t0) rfl ?_
      refine .nil ?_
      refine .then ?_
      refine .reg rfl ?_
      refine .opp (P.mov .g2) rfl ?_
      refine .opp (P.mov .t1) rfl ?_
      obtain ⟨hb21, h⟩ := grd_eq h
      refine .opg (G.app (by_ := 1) .t1 .t0 .k0 (.inl Mm.m2) runUnderlying44 runUnderlying44 sizeOf5 typeInfo5 rfl rfl zeroValue5 rfl (one_map one_5 _) (by simpa using hb21) rfl) rfl fun u20 _ => ?_
      refine .conseq .k0 (q := lst 5 1 u20 (((((r9 ++ a0a)) ++ a0b)).map (fun x => [B8 x]))) (fun _ hh => by simpa [List.map_append] using hh) ?_
      refine .drop .k2 ?_
      refine .opp (P.asg .t0) rfl ?_
      refine .nil ?_
      refine .inn ?_
      refine .then ?_
      refine .reg rfl ?_
      refine .opp (P.bin (v := N 2) .g1 .k (.addc (by decide))) rfl ?_
      refine .drop .k2 ?_
      refine .opp (P.mov .t0) rfl ?_
      refine .nil ?_
      refine .then ?_
      refine .rd ?_
      refine .seq ?_
      refine .reg rfl ?_
      refine .opp (P.bin (v := Bo false) .g0 .g2 (BinV.lss.boolc (by decide))) rfl ?_
      refine .nil ?_
      refine .then ?_
      refine .seq ?_
      refine .condF .t0 ?_
      refine .exit ?_
      refine .thx ?_
      refine .thx ?_
      refine .inb ?_
      refine .then ?_
      refine .seq ?_
      refine .reg rfl ?_
      refine .opp (P.mov .t1) rfl ?_
      refine .opp (P.asg .t0) rfl ?_
      refine .nil ?_
      refine .then ?_
      refine .ret ?_
      cases h
      exact .finw u20 (.r1 rfl (.tmp .g0)) trivial (Ls.of (.cons .k0 .nil)) .nil
attribute [irreducible] slices_Concat_i166_n2
noncomputable def blob_Cat_n2 (a0a : List UInt8) (a0b : List UInt8) : Option ((List UInt8)) :=
  Option.bind (slices_Concat_i166_n2 a0a a0b) fun r1 => some r1
set_option maxRecDepth 20000 in
set_option maxHeartbeats 1000000 in
theorem S_blob_Cat_n2 (v00 : Value) (z00a : Value) (a0a : List UInt8) (z00b : Value) (a0b : List UInt8) (r : (List UInt8)) (h : blob_Cat_n2 a0a a0b = some r) :
    SpecF Try.prog 125 [v00] [] [rows 1 v00 [[z00a], [z00b]], rows 1 z00a (a0a.map (fun x => [B8 x])), rows 1 z00b (a0b.map (fun x => [B8 x]))] (fun _ : Value => True) (fun z => z) (fun z M => lst 5 1 z (r.map (fun x => [B8 x])) ::  M) (fun z M =>  M) := by
  refine .of func125 rfl ntmps125 rfl fun w0 D0 G0 => ?_
  unfold blob_Cat_n2 at h
  refine .seq ?_
  refine .reg rfl ?_
  refine .op0 (OpP.toV (P.asg .k)) rfl ?_
  refine .nil ?_
  refine .then ?_
  refine .seq ?_
  refine .reg rfl ?_
  refine .opp (P.mov .t0) rfl ?_
  obtain ⟨r1, hr2, h⟩ := bnd_eq h
  refine .opg (G.call call166 (.cons .t0 .nil) (S_slices_Concat_i166_n2 v00 z00a a0a z00b a0b r1 hr2) .nil (.cons Mm.m0 (.cons Mm.m1 (.cons Mm.m2 .nil))) (fun _ _ => rfl) (fun _ _ => rfl) rfl) rfl fun u3 _ => ?_
  refine .opp (P.asg .t0) rfl ?_
  refine .nil ?_
  refine .then ?_
  refine .ret ?_
  cases h
  exact .finw u3 (.r1 rfl (.tmp .g0)) trivial (Ls.of (.cons .k0 .nil)) .nil
attribute [irreducible] blob_Cat_n2
noncomputable def field_Out_Text (a0 : field_Out) (a1 : ByteArray) : Option (field_Out) :=
  thn (if (decide (((a1.size : Int)) > 1024)) = true then 5 else 0) fun (y1 : Int) => Option.bind (blob_Num ((a1.size : Int)) 2) fun r5 => grd (a1.size ≤ 140737488355328) <| Option.bind (blob_Cat_n2 r5 ((a1.data.toList))) fun r13 => Option.bind (field_Out_put a0 r13 y1) fun r16 => some r16
set_option maxRecDepth 20000 in
set_option maxHeartbeats 1000000 in
theorem S_field_Out_Text (b00 : Nat) (a0 : field_Out) (z00a : Value) (a1 : ByteArray) (r : field_Out) (h : field_Out_Text a0 a1 = some r) :
    SpecF Try.prog 136 [pt b00 0, .string a1] [blk b00 208 (field_Out.cs a0 z00a), lst 5 1 z00a (a0.b.map (fun x => [B8 x]))] [] (fun _ : Value => True) (fun z => Tu []) (fun z M => blk b00 208 (field_Out.cs r z) :: lst 5 1 z (r.b.map (fun x => [B8 x])) ::  M) (fun z M =>  M) := by
  refine .of func136 rfl ntmps136 rfl fun w0 D0 G0 => ?_
  unfold field_Out_Text at h
  refine .seq ?_
  refine .reg rfl ?_
  refine .opp (P.asg .k) rfl ?_
  refine .nil ?_
  refine .then ?_
  obtain ⟨y1, hj3, h⟩ := thn_eq h
  refine .cutx (γ := Unit) (E1 := fun z2 => [(4, N y1), (0, pt b00 0), (1, .string a1)]) (L1 := fun z2 => [blk b00 208 (field_Out.cs a0 z00a), lst 5 1 z00a (a0.b.map (fun x => [B8 x]))]) (R1 := fun z2 => []) ?_ (fun z2 => ?_)
  · clear h
    refine .seq ?_
    refine .reg rfl ?_
    refine .opp (P.mov .g2) rfl ?_
    refine .opp (P.lens .t0 runUnderlying9) rfl ?_
    refine .opp (P.bin .t0 .k .gtr) rfl ?_
    refine .nil ?_
    refine .then ?_
    refine .cond .t0 (fun c4 => ?_) (fun c4 => ?_)
    · rw [if_pos c4] at hj3
      refine .reg rfl ?_
      refine .drop .k0 ?_
      refine .opp (P.asg .k) rfl ?_
      refine .nil ?_
      subst hj3
      exact .stj () (.cons Mm.m0 (.cons Mm.m1 (.cons Mm.m2 .nil))) (.of (.cons .k0 (.cons .k0 .nil))) .nil
    · rw [if_neg (ne_true_of_eq_false c4)] at hj3
      refine .skip ?_
      subst hj3
      exact .stj () (.cons Mm.m0 (.cons Mm.m1 (.cons Mm.m2 .nil))) (.of (.cons .k0 (.cons .k0 .nil))) .nil
  · clear hj3
    refine .reg rfl ?_
    refine .opp (P.mov .t1) rfl ?_
    refine .opp (P.mov .g2) rfl ?_
    refine .opp (P.lens .t0 runUnderlying9) rfl ?_
    obtain ⟨r5, hr6, h⟩ := bnd_eq h
    refine .opg (G.call call124 (.cons .t0 (.cons .k .nil)) (S_blob_Num ((a1.size : Int)) 2 r5 hr6) .nil .nil (fun _ _ => rfl) (fun _ _ => rfl) rfl) rfl fun u7 _ => ?_
    refine .opp (P.mov .t3) rfl ?_
    obtain ⟨hb9, h⟩ := grd_eq h
    refine .opg (G.s2b (e := 5) .t0 (by kernel_rfl) (by kernel_rfl) (by kernel_rfl) hb9 rfl) rfl fun u8 _ => ?_
    refine .onel .k0 fun ho11 => ?_
    refine .oner Mm.m0 fun ho12 => ?_
    refine .opg (G.bsln (xs := [[u7], [u8]]) (.cons .t1 (.cons .t0 .nil)) runUnderlying212 sizeOf44 zeroValue44 (fill2 ho11 ho12) rfl rfl rfl rfl rfl) rfl fun u10 _ => ?_
    refine .frz .k0 ?_
    refine .frz .k0 ?_
    obtain ⟨r13, hr14, h⟩ := bnd_eq h
    refine .opg (G.call call125 (.cons .t0 .nil) (S_blob_Cat_n2 u10 u7 r5 u8 ((a1.data.toList)) r13 hr14) .nil (.cons Mm.m1 (.cons Mm.m0 (.cons Mm.m2 .nil))) (fun _ _ => rfl) (fun _ _ => rfl) rfl) rfl fun u15 _ => ?_
    refine .opp (P.mov .t2) rfl ?_
    refine .frz .k0 ?_
    obtain ⟨r16, hr17, h⟩ := bnd_eq h
    refine .opg (G.call call169 (.cons .t2 (.cons .t1 (.cons .t0 .nil))) (S_field_Out_put b00 a0 z00a u15 r13 y1 r16 hr17) (.cons .k0 (.cons .k0 .nil)) (.cons Mm.m0 .nil) (fun _ _ => rfl) (fun _ _ => rfl) rfl) rfl fun u18 _ => ?_
    refine .drop .k0 ?_
    refine .nil ?_
    cases h
    exact .finwn u18 (.r0 rfl) trivial (Ls.of (.cons .k0 (.cons .k0 .nil))) .nil
attribute [irreducible] field_Out_Text
noncomputable def field_Out_Num (a0 : field_Out) (a1 : Int) : Option (field_Out) :=
  thn (thn (if (decide (a1 < 0)) = true then true else (decide (a1 > 1099511627776))) fun (y4 : Bool) => if y4 = true then 4 else 0) fun (y1 : Int) => Option.bind (blob_Num a1 6) fun r9 => Option.bind (field_Out_put a0 r9 y1) fun r12 => some r12
set_option maxRecDepth 20000 in
set_option maxHeartbeats 1000000 in
theorem S_field_Out_Num (b00 : Nat) (a0 : field_Out) (z00a : Value) (a1 : Int) (r : field_Out) (h : field_Out_Num a0 a1 = some r) :
    SpecF Try.prog 137 [pt b00 0, N a1] [blk b00 208 (field_Out.cs a0 z00a), lst 5 1 z00a (a0.b.map (fun x => [B8 x]))] [] (fun _ : Value => True) (fun z => Tu []) (fun z M => blk b00 208 (field_Out.cs r z) :: lst 5 1 z (r.b.map (fun x => [B8 x])) ::  M) (fun z M =>  M) := by
  refine .of func137 rfl ntmps137 rfl fun w0 D0 G0 => ?_
  unfold field_Out_Num at h
  refine .seq ?_
  refine .reg rfl ?_
  refine .opp (P.asg .k) rfl ?_
  refine .nil ?_
  refine .then ?_
  obtain ⟨y1, hj3, h⟩ := thn_eq h
  refine .cutx (γ := Unit) (E1 := fun z2 => [(4, N y1), (0, pt b00 0), (1, N a1)]) (L1 := fun z2 => [blk b00 208 (field_Out.cs a0 z00a), lst 5 1 z00a (a0.b.map (fun x => [B8 x]))]) (R1 := fun z2 => []) ?_ (fun z2 => ?_)
  · clear h
    obtain ⟨y4, hj6, hj3⟩ := thn_eq hj3
    refine .cutx (γ := Unit) (E1 := fun z5 => [(10, Bo y4), (4, N 0), (0, pt b00 0), (1, N a1)]) (L1 := fun z5 => [blk b00 208 (field_Out.cs a0 z00a), lst 5 1 z00a (a0.b.map (fun x => [B8 x]))]) (R1 := fun z5 => []) ?_ (fun z5 => ?_)
    · clear hj3
      refine .reg rfl ?_
      refine .opp (P.mov .g2) rfl ?_
      refine .opp (P.bin .t0 .k .lss) rfl ?_
      refine .opp (P.mov .t0) rfl ?_
      refine .split .k0 (fun c7 => ?_) (fun c7 => ?_)
      · rw [if_pos c7] at hj6
        refine .gno rfl .g0 rfl rfl ?_
        refine .gno rfl .g0 rfl rfl ?_
        refine .opp (P.pickT .t0 .k) rfl ?_
        refine .nil ?_
        subst hj6
        exact .stj () (.cons Mm.m0 (.cons Mm.m1 (.cons Mm.m2 (.cons Mm.m3 .nil)))) (.of (.cons .k0 (.cons .k0 .nil))) .nil
      · rw [if_neg (ne_true_of_eq_false c7)] at hj6
        refine .gyes rfl .g0 ?_
        refine .opp (P.mov .g3) rfl ?_
        refine .gyes rfl .g1 ?_
        refine .opp (P.bin .t0 .k .gtr) rfl ?_
        refine .opp (P.pickF .t1 .t0) rfl ?_
        refine .nil ?_
        subst hj6
        exact .stj () (.cons Mm.m0 (.cons Mm.m1 (.cons Mm.m2 (.cons Mm.m3 .nil)))) (.of (.cons .k0 (.cons .k0 .nil))) .nil
    · clear hj6
      refine .cond .t0 (fun c8 => ?_) (fun c8 => ?_)
      · rw [if_pos c8] at hj3
        refine .reg rfl ?_
        refine .drop .k0 ?_
        refine .opp (P.asg .k) rfl ?_
        refine .nil ?_
        subst hj3
        exact .stj () (.cons Mm.m0 (.cons Mm.m1 (.cons Mm.m2 .nil))) (.of (.cons .k0 (.cons .k0 .nil))) .nil
      · rw [if_neg (ne_true_of_eq_false c8)] at hj3
        refine .skip ?_
        subst hj3
        exact .stj () (.cons Mm.m0 (.cons Mm.m1 (.cons Mm.m2 .nil))) (.of (.cons .k0 (.cons .k0 .nil))) .nil
  · clear hj3
    refine .reg rfl ?_
    refine .opp (P.mov .t1) rfl ?_
    refine .opp (P.mov .t2) rfl ?_
    obtain ⟨r9, hr10, h⟩ := bnd_eq h
    refine .opg (G.call call124 (.cons .t0 (.cons .k .nil)) (S_blob_Num a1 6 r9 hr10) .nil .nil (fun _ _ => rfl) (fun _ _ => rfl) rfl) rfl fun u11 _ => ?_
    refine .opp (P.mov .t2) rfl ?_
    refine .frz .k0 ?_
    obtain ⟨r12, hr13, h⟩ := bnd_eq h
    refine .opg (G.call call169 (.cons .t2 (.cons .t1 (.cons .t0 .nil))) (S_field_Out_put b00 a0 z00a u11 r9 y1 r12 hr13) (.cons .k0 (.cons .k0 .nil)) (.cons Mm.m0 .nil) (fun _ _ => rfl) (fun _ _ => rfl) rfl) rfl fun u14 _ => ?_
    refine .drop .k0 ?_
    refine .nil ?_
    cases h
    exact .finwn u14 (.r0 rfl) trivial (Ls.of (.cons .k0 (.cons .k0 .nil))) .nil
attribute [irreducible] field_Out_Num
noncomputable def deal_Put (a0 : field_Out) (a1 : api_Inv) : Option (field_Out) :=
  Option.bind (field_Out_Text a0 (⟨#[105, 110, 118]⟩)) fun r2 => Option.bind (field_Out_Num r2 a1.User) fun r5 => Option.bind (field_Out_Text r5 a1.Root) fun r8 => Option.bind (field_Out_Num r8 a1.Router) fun r11 => Option.bind (field_Out_Num r11 a1.Send) fun r14 => Option.bind (field_Out_Num r14 a1.Recv) fun r17 => Option.bind (field_Out_Num r17 a1.To) fun r20 => Option.bind (field_Out_Text r20 a1.Id) fun r23 => some r23
set_option maxRecDepth 20000 in
set_option maxHeartbeats 1000000 in
theorem S_deal_Put (b00 : Nat) (a0 : field_Out) (z00a : Value) (a1 : api_Inv) (r : field_Out) (h : deal_Put a0 a1 = some r) :
    SpecF Try.prog 87 [pt b00 0, Ag (api_Inv.cs a1)] [blk b00 208 (field_Out.cs a0 z00a), lst 5 1 z00a (a0.b.map (fun x => [B8 x]))] [] (fun _ : Value => True) (fun z => Tu []) (fun z M => blk b00 208 (field_Out.cs r z) :: lst 5 1 z (r.b.map (fun x => [B8 x])) ::  M) (fun z M =>  M) := by
  refine .of func87 rfl ntmps87 rfl fun w0 D0 G0 => ?_
  unfold deal_Put at h
  refine .seq ?_
  refine .reg rfl ?_
  refine .opx (X.box (cs := (api_Inv.cs a1)) .t1 rfl) rfl fun b1 => ?_
  refine .nil ?_
  refine .then ?_
  refine .seq ?_
  refine .reg rfl ?_
  refine .opp (P.mov .g1) rfl ?_
  obtain ⟨r2, hr3, h⟩ := bnd_eq h
  refine .opg (G.call call136 (.cons .t0 (.cons .k .nil)) (S_field_Out_Text b00 a0 z00a (⟨#[105, 110, 118]⟩) r2 hr3) (.cons .k1 (.cons .k1 .nil)) .nil (fun _ _ => rfl) (fun _ _ => rfl) rfl) rfl fun u4 _ => ?_
  refine .drop .k0 ?_
  refine .nil ?_
  refine .then ?_
  refine .seq ?_
  refine .reg rfl ?_
  refine .opp (P.mov .g1) rfl ?_
  refine .opp (P.fa .g1 fa_32_0 rfl) rfl ?_
  refine .op (V.ld (v := N a1.User) .t0 .k2 (.one isAgg3 rfl)) rfl ?_
  obtain ⟨r5, hr6, h⟩ := bnd_eq h
  refine .opg (G.call call137 (.cons .t1 (.cons .t0 .nil)) (S_field_Out_Num b00 r2 u4 a1.User r5 hr6) (.cons .k0 (.cons .k0 .nil)) .nil (fun _ _ => rfl) (fun _ _ => rfl) rfl) rfl fun u7 _ => ?_
  refine .drop .k0 ?_
  refine .nil ?_
  refine .then ?_
  refine .seq ?_
  refine .reg rfl ?_
  refine .opp (P.mov .g1) rfl ?_
  refine .opp (P.fa .g1 fa_32_1 rfl) rfl ?_
  refine .op (V.ld (v := .string a1.Root) .t0 .k2 (.one isAgg9 rfl)) rfl ?_
  obtain ⟨r8, hr9, h⟩ := bnd_eq h
  refine .opg (G.call call136 (.cons .t1 (.cons .t0 .nil)) (S_field_Out_Text b00 r5 u7 a1.Root r8 hr9) (.cons .k0 (.cons .k0 .nil)) .nil (fun _ _ => rfl) (fun _ _ => rfl) rfl) rfl fun u10 _ => ?_
  refine .drop .k0 ?_
  refine .nil ?_
  refine .then ?_
  refine .seq ?_
  refine .seq ?_
  refine .reg rfl ?_
  refine .opp (P.fa .g0 fa_32_2 rfl) rfl ?_
  refine .op (V.ld (v := N a1.Router) .t0 .k2 (.one isAgg3 rfl)) rfl ?_
  refine .opp (P.fa .g1 fa_32_3 rfl) rfl ?_
  refine .op (V.ld (v := N a1.Send) .t0 .k2 (.one isAgg3 rfl)) rfl ?_
  refine .opp (P.fa .g2 fa_32_4 rfl) rfl ?_
  refine .op (V.ld (v := N a1.Recv) .t0 .k2 (.one isAgg3 rfl)) rfl ?_
  refine .opp (P.fa .g3 fa_32_5 rfl) rfl ?_
  refine .op (V.ld (v := N a1.To) .t0 .k2 (.one isAgg3 rfl)) rfl ?_
  refine .opp (P.bld (v := Ag (A4_i64.cs ⟨a1.Router, a1.Send, a1.Recv, a1.To⟩)) (.cons .t3 (.cons .t2 (.cons .t1 (.cons .t0 .nil)))) (bld_runA zeroValue211 runUnderlying211 sizeOf3 (by kernel_rfl))) rfl ?_
  refine .opp (P.mov .k) rfl ?_
  refine .nil ?_
  refine .then ?_
  refine .block ?_
  refine .rounds 5 ?_
  refine .rd ?_
  refine .seq ?_
  refine .reg rfl ?_
  refine .opp (P.bin (v := Bo true) .g0 .k (BinV.lss.boolc (by decide))) rfl ?_
  refine .nil ?_
  refine .then ?_
  refine .seq ?_
  refine .condT .t0 ?_
  refine .skip ?_
  refine .then ?_
  refine .seq ?_
  refine .block ?_
  refine .seq ?_
  refine .reg rfl ?_
  refine .opp (P.idx (i := 0) (v := N a1.Router) .g1 .g0 rfl runUnderlying211 sizeOf3 (by decide) (.one isAgg3 rfl)) rfl ?_
  refine .opp (P.asg .t0) rfl ?_
  refine .nil ?_
  refine .then ?_
  refine .reg rfl ?_
  refine .opp (P.mov .g4) rfl ?_
  refine .opp (P.mov .t1) rfl ?_
  obtain ⟨r11, hr12, h⟩ := bnd_eq h
  refine .opg (G.call call137 (.cons .t1 (.cons .t0 .nil)) (S_field_Out_Num b00 r8 u10 a1.Router r11 hr12) (.cons .k0 (.cons .k0 .nil)) .nil (fun _ _ => rfl) (fun _ _ => rfl) rfl) rfl fun u13 _ => ?_
  refine .drop .k0 ?_
  refine .nil ?_
  refine .inn ?_
  refine .then ?_
  refine .reg rfl ?_
  refine .opp (P.bin (v := N 1) .g0 .k (.addc (by decide))) rfl ?_
  refine .drop .k1 ?_
  refine .opp (P.mov .t0) rfl ?_
  refine .nil ?_
  refine .then ?_
  refine .rd ?_
  refine .seq ?_
  refine .reg rfl ?_
  refine .opp (P.bin (v := Bo true) .g0 .k (BinV.lss.boolc (by decide))) rfl ?_
  refine .nil ?_
  refine .then ?_
  refine .seq ?_
  refine .condT .t0 ?_
  refine .skip ?_
  refine .then ?_
  refine .seq ?_
  refine .block ?_
  refine .seq ?_
  refine .reg rfl ?_
  refine .opp (P.idx (i := 1) (v := N a1.Send) .g1 .g0 rfl runUnderlying211 sizeOf3 (by decide) (.one isAgg3 rfl)) rfl ?_
  refine .opp (P.asg .t0) rfl ?_
  refine .nil ?_
  refine .then ?_
  refine .reg rfl ?_
  refine .opp (P.mov .g4) rfl ?_
  refine .opp (P.mov .t1) rfl ?_
  obtain ⟨r14, hr15, h⟩ := bnd_eq h
  refine .opg (G.call call137 (.cons .t1 (.cons .t0 .nil)) (S_field_Out_Num b00 r11 u13 a1.Send r14 hr15) (.cons .k0 (.cons .k0 .nil)) .nil (fun _ _ => rfl) (fun _ _ => rfl) rfl) rfl fun u16 _ => ?_
  refine .drop .k0 ?_
  refine .nil ?_
  refine .inn ?_
  refine .then ?_
  refine .reg rfl ?_
  refine .opp (P.bin (v := N 2) .g0 .k (.addc (by decide))) rfl ?_
  refine .drop .k1 ?_
  refine .opp (P.mov .t0) rfl ?_
  refine .nil ?_
  refine .then ?_
  refine .rd ?_
  refine .seq ?_
  refine .reg rfl ?_
  refine .opp (P.bin (v := Bo true) .g0 .k (BinV.lss.boolc (by decide))) rfl ?_
  refine .nil ?_
  refine .then ?_
  refine .seq ?_
  refine .condT .t0 ?_
  refine .skip ?_
  refine .then ?_
  refine .seq ?_
  refine .block ?_
  refine .seq ?_
  refine .reg rfl ?_
  refine .opp (P.idx (i := 2) (v := N a1.Recv) .g1 .g0 rfl runUnderlying211 sizeOf3 (by decide) (.one isAgg3 rfl)) rfl ?_
  refine .opp (P.asg .t0) rfl ?_
  refine .nil ?_
  refine .then ?_
  refine .reg rfl ?_
  refine .opp (P.mov .g4) rfl ?_
  refine .opp (P.mov .t1) rfl ?_
  obtain ⟨r17, hr18, h⟩ := bnd_eq h
  refine .opg (G.call call137 (.cons .t1 (.cons .t0 .nil)) (S_field_Out_Num b00 r14 u16 a1.Recv r17 hr18) (.cons .k0 (.cons .k0 .nil)) .nil (fun _ _ => rfl) (fun _ _ => rfl) rfl) rfl fun u19 _ => ?_
  refine .drop .k0 ?_
  refine .nil ?_
  refine .inn ?_
  refine .then ?_
  refine .reg rfl ?_
  refine .opp (P.bin (v := N 3) .g0 .k (.addc (by decide))) rfl ?_
  refine .drop .k1 ?_
  refine .opp (P.mov .t0) rfl ?_
  refine .nil ?_
  refine .then ?_
  refine .rd ?_
  refine .seq ?_
  refine .reg rfl ?_
  refine .opp (P.bin (v := Bo true) .g0 .k (BinV.lss.boolc (by decide))) rfl ?_
  refine .nil ?_
  refine .then ?_
  refine .seq ?_
  refine .condT .t0 ?_
  refine .skip ?_
  refine .then ?_
  refine .seq ?_
  refine .block ?_
  refine .seq ?_
  refine .reg rfl ?_
  refine .opp (P.idx (i := 3) (v := N a1.To) .g1 .g0 rfl runUnderlying211 sizeOf3 (by decide) (.one isAgg3 rfl)) rfl ?_
  refine .opp (P.asg .t0) rfl ?_
  refine .nil ?_
  refine .then ?_
  refine .reg rfl ?_
  refine .opp (P.mov .g4) rfl ?_
  refine .opp (P.mov .t1) rfl ?_
  obtain ⟨r20, hr21, h⟩ := bnd_eq h
  refine .opg (G.call call137 (.cons .t1 (.cons .t0 .nil)) (S_field_Out_Num b00 r17 u19 a1.To r20 hr21) (.cons .k0 (.cons .k0 .nil)) .nil (fun _ _ => rfl) (fun _ _ => rfl) rfl) rfl fun u22 _ => ?_
  refine .drop .k0 ?_
  refine .nil ?_
  refine .inn ?_
  refine .then ?_
  refine .reg rfl ?_
  refine .opp (P.bin (v := N 4) .g0 .k (.addc (by decide))) rfl ?_
  refine .drop .k1 ?_
  refine .opp (P.mov .t0) rfl ?_
  refine .nil ?_
  refine .then ?_
  refine .rd ?_
  refine .seq ?_
  refine .reg rfl ?_
  refine .opp (P.bin (v := Bo false) .g0 .k (BinV.lss.boolc (by decide))) rfl ?_
  refine .nil ?_
  refine .then ?_
  refine .seq ?_
  refine .condF .t0 ?_
  refine .exit ?_
  refine .thx ?_
  refine .thx ?_
  refine .inb ?_
  refine .then ?_
  refine .reg rfl ?_
  refine .opp (P.mov .t3) rfl ?_
  refine .opp (P.fa .t3 fa_32_6 rfl) rfl ?_
  refine .op (V.ld (v := .string a1.Id) .t0 .k2 (.one isAgg9 rfl)) rfl ?_
  obtain ⟨r23, hr24, h⟩ := bnd_eq h
  refine .opg (G.call call136 (.cons .t1 (.cons .t0 .nil)) (S_field_Out_Text b00 r20 u22 a1.Id r23 hr24) (.cons .k0 (.cons .k0 .nil)) .nil (fun _ _ => rfl) (fun _ _ => rfl) rfl) rfl fun u25 _ => ?_
  refine .drop .k0 ?_
  refine .nil ?_
  cases h
  exact .finwn u25 (.r0 rfl) trivial (Ls.of (.cons .k0 (.cons .k0 .nil))) .nil
attribute [irreducible] deal_Put
noncomputable def slices_Concat_i166_n1 (a0a : List UInt8) : Option ((List UInt8)) :=
  if (decide ((IntKind.i64.wrap (0 + ((a0a.length : Int)))) < 0)) = true then none else (Option.bind (slices_Grow_i195_nil (IntKind.i64.wrap (0 + ((a0a.length : Int))))) fun r5 => grd ((r5.length + a0a.length) * 1 ≤ 140737488355328) <| some (((r5 ++ a0a))))
set_option maxRecDepth 20000 in
set_option maxHeartbeats 1000000 in
theorem S_slices_Concat_i166_n1 (v00 : Value) (z00a : Value) (a0a : List UInt8) (r : (List UInt8)) (h : slices_Concat_i166_n1 a0a = some r) :
    SpecF Try.prog 166 [v00] [] [rows 1 v00 [[z00a]], rows 1 z00a (a0a.map (fun x => [B8 x]))] (fun _ : Value => True) (fun z => z) (fun z M => lst 5 1 z (r.map (fun x => [B8 x])) ::  M) (fun z M =>  M) := by
  refine .of func166 rfl ntmps166 rfl fun w0 D0 G0 => ?_
  unfold slices_Concat_i166_n1 at h
  refine .seq ?_
  refine .reg rfl ?_
  refine .op0 (OpP.toV (P.asg .k)) rfl ?_
  refine .nil ?_
  refine .then ?_
  refine .seq ?_
  refine .reg rfl ?_
  refine .opp (P.asg .k) rfl ?_
  refine .nil ?_
  refine .then ?_
  refine .seq ?_
  refine .seq ?_
  refine .reg rfl ?_
  refine .opp (P.mov .g1) rfl ?_
  refine .op (V.lnr (n := 1) .g0 Mm.m0 rfl runUnderlying212) rfl ?_
  refine .opp (P.mov .k) rfl ?_
  refine .nil ?_
  refine .then ?_
  refine .block ?_
  refine .rounds 2 ?_
  refine .rd ?_
  refine .seq ?_
  refine .reg rfl ?_
  refine .opp (P.bin (v := Bo true) .g0 .g1 (BinV.lss.boolc (by decide))) rfl ?_
  refine .nil ?_
  refine .then ?_
  refine .seq ?_
  refine .condT .t0 ?_
  refine .skip ?_
  refine .then ?_
  refine .seq ?_
  refine .block ?_
  refine .seq ?_
  refine .reg rfl ?_
  refine .ixq Mm.m0 (show [[z00a]][0]? = some [z00a] from rfl) fun p1 q2 hq3 => ?_
  refine .opp (P.ixi (i := 0) .g0 rfl .g2 hq3 runUnderlying212 sizeOf44) rfl ?_
  refine .op (V.ldx0 (u := z00a) .t0 hq3 Mm.m0 (show [[z00a]][0]? = some [z00a] from rfl) (.one isAgg44 rfl)) rfl ?_
  refine .opp (P.asg .t0) rfl ?_
  refine .nil ?_
  refine .then ?_
  refine .seq ?_
  refine .reg rfl ?_
  refine .opp (P.mov .g4) rfl ?_
  refine .opp (P.mov .t1) rfl ?_
  refine .op (V.lnr (n := a0a.length) .t0 Mm.m1 map_len runUnderlying44) rfl ?_
  refine .opp (P.bin .t1 .t0 .add) rfl ?_
  refine .drop .k4 ?_
  refine .opp (P.asg .t0) rfl ?_
  refine .nil ?_
  refine .then ?_
  refine .seq ?_
  refine .reg rfl ?_
  refine .opp (P.mov .g0) rfl ?_
  refine .opp (P.bin .t0 .k .lss) rfl ?_
  refine .nil ?_
  refine .then ?_
  refine .cond .t0 (fun c4 => ?_) (fun c4 => ?_)
  · rw [if_pos c4] at h
    refine .reg rfl ?_
    cases h
  · rw [if_neg (ne_true_of_eq_false c4)] at h
    refine .skip ?_
    refine .inn ?_
    refine .then ?_
    refine .reg rfl ?_
    refine .opp (P.bin (v := N 1) .g1 .k (.addc (by decide))) rfl ?_
    refine .drop .k2 ?_
    refine .opp (P.mov .t0) rfl ?_
    refine .nil ?_
    refine .then ?_
    refine .rd ?_
    refine .seq ?_
    refine .reg rfl ?_
    refine .opp (P.bin (v := Bo false) .g0 .g2 (BinV.lss.boolc (by decide))) rfl ?_
    refine .nil ?_
    refine .then ?_
    refine .seq ?_
    refine .condF .t0 ?_
    refine .exit ?_
    refine .thx ?_
    refine .thx ?_
    refine .inb ?_
    refine .then ?_
    refine .seq ?_
    refine .reg rfl ?_
    refine .opp (P.mov .t1) rfl ?_
    obtain ⟨r5, hr6, h⟩ := bnd_eq h
    refine .opg (G.call call195 (.cons .k (.cons .t0 .nil)) (S_slices_Grow_i195_nil (IntKind.i64.wrap (0 + ((a0a.length : Int)))) r5 hr6) .nil .nil (fun _ _ => rfl) (fun _ _ => rfl) rfl) rfl fun u7 _ => ?_
    refine .opp (P.asg .t0) rfl ?_
    refine .nil ?_
    refine .then ?_
    refine .seq ?_
    refine .seq ?_
    refine .reg rfl ?_
    refine .opp (P.mov .t4) rfl ?_
    refine .op (V.lnr (n := 1) .g0 Mm.m0 rfl runUnderlying212) rfl ?_
    refine .opp (P.mov .k) rfl ?_
    refine .nil ?_
    refine .then ?_
    refine .block ?_
    refine .rounds 2 ?_
    refine .rd ?_
    refine .seq ?_
    refine .reg rfl ?_
    refine .opp (P.bin (v := Bo true) .g0 .g1 (BinV.lss.boolc (by decide))) rfl ?_
    refine .nil ?_
    refine .then ?_
    refine .seq ?_
    refine .condT .t0 ?_
    refine .skip ?_
    refine .then ?_
    refine .seq ?_
    refine .block ?_
    refine .seq ?_
    refine .reg rfl ?_
    refine .ixq Mm.m0 (show [[z00a]][0]? = some [z00a] from rfl) fun p8 q9 hq10 => ?_
    refine .opp (P.ixi (i := 0) .g0 rfl .g2 hq10 runUnderlying212 sizeOf44) rfl ?_
    refine .op (V.ldx0 (u := z00a) .t0 hq10 Mm.m0 (show [[z00a]][0]? = some [z00a] from rfl) (.one isAgg44 rfl)) rfl ?_
    refine .opp (P.asg .t0) rfl ?_
    refine .nil ?_
    refine .then ?_
    refine .reg rfl ?_
    refine .opp (P.mov .g4) rfl ?_
    refine .opp (P.mov .t1) rfl ?_
    obtain ⟨hb12, h⟩ := grd_eq h
    refine .opg (G.app (by_ := 1) .t1 .t0 .k0 (.inl Mm.m1) runUnderlying44 runUnderlying44 sizeOf5 typeInfo5 rfl rfl zeroValue5 rfl (one_map one_5 _) (by simpa using hb12) rfl) rfl fun u11 _ => ?_
    refine .conseq .k0 (q := lst 5 1 u11 (((r5 ++ a0a)).map (fun x => [B8 x]))) (fun _ hh => by simpa [List.map_append] using hh) ?_
    refine .drop .k4 ?_
    refine .opp (P.asg .t0) rfl ?_
    refine .nil ?_
    refine .inn ?_
    refine .then ?_
    refine .reg rfl ?_
    refine .opp (P.bin (v := N 1) .g1 .k (.addc (by decide))) rfl ?_
    refine .drop .k2 ?_
    refine .opp (P.mov .t0) rfl ?_
    refine .nil ?_
    refine .then ?_
    refine .rd ?_
    refine .seq ?_
    refine .reg rfl ?_
    refine .opp (P.bin (v := Bo false) .g0 .g2 (BinV.lss.boolc (by decide))) rfl ?_
    refine .nil ?_
    refine .then ?_
    refine .seq ?_
    refine .condF .t0 ?_
    refine .exit ?_
    refine .thx ?_
    refine .thx ?_
    refine .inb ?_
    refine .then ?_
    refine .seq ?_
    refine .reg rfl ?_
    refine .opp (P.mov .t1) rfl ?_
    refine .opp (P.asg .t0) rfl ?_
    refine .nil ?_
    refine .then ?_
    refine .ret ?_
    cases h
    exact .finw u11 (.r1 rfl (.tmp .g0)) trivial (Ls.of (.cons .k0 .nil)) .nil
attribute [irreducible] slices_Concat_i166_n1
noncomputable def blob_Cat_n1 (a0a : List UInt8) : Option ((List UInt8)) :=
  Option.bind (slices_Concat_i166_n1 a0a) fun r1 => some r1
set_option maxRecDepth 20000 in
set_option maxHeartbeats 1000000 in
theorem S_blob_Cat_n1 (v00 : Value) (z00a : Value) (a0a : List UInt8) (r : (List UInt8)) (h : blob_Cat_n1 a0a = some r) :
    SpecF Try.prog 125 [v00] [] [rows 1 v00 [[z00a]], rows 1 z00a (a0a.map (fun x => [B8 x]))] (fun _ : Value => True) (fun z => z) (fun z M => lst 5 1 z (r.map (fun x => [B8 x])) ::  M) (fun z M =>  M) := by
  refine .of func125 rfl ntmps125 rfl fun w0 D0 G0 => ?_
  unfold blob_Cat_n1 at h
  refine .seq ?_
  refine .reg rfl ?_
  refine .op0 (OpP.toV (P.asg .k)) rfl ?_
  refine .nil ?_
  refine .then ?_
  refine .seq ?_
  refine .reg rfl ?_
  refine .opp (P.mov .t0) rfl ?_
  obtain ⟨r1, hr2, h⟩ := bnd_eq h
  refine .opg (G.call call166 (.cons .t0 .nil) (S_slices_Concat_i166_n1 v00 z00a a0a r1 hr2) .nil (.cons Mm.m0 (.cons Mm.m1 .nil)) (fun _ _ => rfl) (fun _ _ => rfl) rfl) rfl fun u3 _ => ?_
  refine .opp (P.asg .t0) rfl ?_
  refine .nil ?_
  refine .then ?_
  refine .ret ?_
  cases h
  exact .finw u3 (.r1 rfl (.tmp .g0)) trivial (Ls.of (.cons .k0 .nil)) .nil
attribute [irreducible] blob_Cat_n1
noncomputable def field_Out_Done (a0 : field_Out) : Option ((List UInt8) × Int) :=
  if (!a0.made) = true then (some ((([] : List UInt8), 9))) else (if (decide (a0.e_ ≠ 0)) = true then (some ((([] : List UInt8), a0.e_))) else (Option.bind (blob_Cat_n1 a0.b) fun r5 => some (r5, 0)))
set_option maxRecDepth 20000 in
set_option maxHeartbeats 1000000 in
theorem S_field_Out_Done (b00 : Nat) (a0 : field_Out) (z00a : Value) (r : (List UInt8) × Int) (h : field_Out_Done a0 = some r) :
    SpecF Try.prog 88 [pt b00 0] [blk b00 208 (field_Out.cs a0 z00a), lst 5 1 z00a (a0.b.map (fun x => [B8 x]))] [] (fun _ : Value × Value => True) (fun z => Tu [z.1, N r.2]) (fun z M => blk b00 208 (field_Out.cs a0 z.2) :: lst 5 1 z.2 (a0.b.map (fun x => [B8 x])) :: lst 5 1 z.1 (r.1.map (fun x => [B8 x])) ::  M) (fun z M =>  M) := by
  refine .of func88 rfl ntmps88 rfl fun w0 D0 G0 => ?_
  unfold field_Out_Done at h
  refine .seq ?_
  refine .reg rfl ?_
  refine .op0 (OpP.toV (P.asg .k)) rfl ?_
  refine .op0 (OpP.toV (P.asg .k)) rfl ?_
  refine .nil ?_
  refine .then ?_
  refine .seq ?_
  refine .block ?_
  refine .seq ?_
  refine .reg rfl ?_
  refine .opp (P.mov .g0) rfl ?_
  refine .opp (P.bin .t0 .k (.ptr_eql (e := 208) (by kernel_rfl))) rfl ?_
  refine .opp (P.mov .t0) rfl ?_
  refine .gyes rfl .g0 ?_
  refine .opp (P.mov .g1) rfl ?_
  refine .gyes rfl .g1 ?_
  refine .opp (P.nilc .t0) rfl ?_
  refine .gyes rfl .g1 ?_
  refine .opp (P.fa .t0 fa_208_2 rfl) rfl ?_
  refine .gyes rfl .g1 ?_
  refine .op (V.ld (v := Bo a0.made) .t0 .k0 (.one isAgg4 rfl)) rfl ?_
  refine .gyes rfl .g1 ?_
  refine .opp (P.not .t0) rfl ?_
  refine .opp (P.pickF .t1 .t0) rfl ?_
  refine .opp (P.asg .t0) rfl ?_
  refine .nil ?_
  refine .then ?_
  refine .cond .t0 (fun c1 => ?_) (fun c1 => ?_)
  · rw [if_pos c1] at h
    refine .seq ?_
    refine .reg rfl ?_
    refine .opp (P.asg .k) rfl ?_
    refine .opp (P.asg .k) rfl ?_
    refine .nil ?_
    refine .then ?_
    refine .ret ?_
    refine .inr ?_
    refine .thr ?_
    cases h
    refine .lnil 5 1 ?_
    exact .finw ⟨nilSl, z00a⟩ (.r2 rfl (.tmp .g1) (.tmp .g0)) trivial (Ls.of (.cons .k1 (.cons .k1 (.cons .k0 .nil)))) .nil
  · rw [if_neg (ne_true_of_eq_false c1)] at h
    refine .seq ?_
    refine .reg rfl ?_
    refine .opp (P.mov .g0) rfl ?_
    refine .opp (P.nilc .t0) rfl ?_
    refine .opp (P.fa .t0 fa_208_1 rfl) rfl ?_
    refine .op (V.ld (v := N a0.e_) .t0 .k0 (.one isAgg30 rfl)) rfl ?_
    refine .opp (P.bin .t0 .k .neq) rfl ?_
    refine .opp (P.asg .t0) rfl ?_
    refine .nil ?_
    refine .then ?_
    refine .cond .t0 (fun c2 => ?_) (fun c2 => ?_)
    · rw [if_pos c2] at h
      refine .seq ?_
      refine .draw 6 (.on 0 .pu (.on 1 .pu (.on 2 .pu (.on 3 .ld (.on 4 .go (.on 5 .go .nl)))))) follows_mixed (.thn (.inb (.thn .body))) (by kernel_rfl) ?_
      refine .dpu rfl (.n rfl) (P.mov .t0) rfl rfl ?_
      refine .dpu rfl (.n rfl) (P.nilc .t0) rfl rfl ?_
      refine .dpu rfl (.n rfl) (P.fa .t0 fa_208_1 rfl) rfl rfl ?_
      refine .dld rfl (.n rfl) (V.ld (v := N a0.e_) .t0 .k0 (.one isAgg30 rfl)) (fun _ h => h) rfl rfl ?_
      refine .dgo rfl (.n rfl) (OpV.g (OpP.toV (P.asg .k)) rfl) (.inr fun _ _ _ h => h) fun _ _ => ?_
      refine .dgo rfl (.n rfl) (OpV.g (OpP.toV (P.asg .t1)) rfl) (.inr fun _ _ _ h => h) fun _ _ => ?_
      refine .dnil ?_
      refine .then ?_
      refine .ret ?_
      refine .inr ?_
      refine .thr ?_
      cases h
      refine .lnil 5 1 ?_
      exact .finw ⟨nilSl, z00a⟩ (.r2 rfl (.tmp .g1) (.tmp .g0)) trivial (Ls.of (.cons .k1 (.cons .k1 (.cons .k0 .nil)))) .nil
    · rw [if_neg (ne_true_of_eq_false c2)] at h
      refine .skip ?_
      refine .inn ?_
      refine .then ?_
      refine .seq ?_
      refine .reg rfl ?_
      refine .opp (P.mov .t0) rfl ?_
      refine .opp (P.nilc .t0) rfl ?_
      refine .opp (P.fa .t0 fa_208_0 rfl) rfl ?_
      refine .op (V.ld (v := z00a) .t0 .k0 (.one isAgg44 rfl)) rfl ?_
      refine .onel .k1 fun ho4 => ?_
      refine .opg (G.bsl (cs := [z00a]) .t0 runUnderlying212 sizeOf44 zeroValue44 (cells1 ho4) rfl rfl rfl rfl) rfl fun u3 _ => ?_
      refine .frz .k0 ?_
      obtain ⟨r5, hr6, h⟩ := bnd_eq h
      refine .opg (G.calll call125 (.cons .t0 .nil) (S_blob_Cat_n1 u3 z00a a0.b r5 hr6) .nil (.cons (List.mem_append_left _ Mm.m0) (.imp (List.mem_append_right _ Mm.m1) (fun _ => lst_rows) .nil)) (fun _ _ => rfl) rfl) rfl fun u7 _ => ?_
      refine .opp (P.asg .t0) rfl ?_
      refine .opp (P.asg .k) rfl ?_
      refine .nil ?_
      refine .then ?_
      refine .ret ?_
      cases h
      exact .finw ⟨u7, z00a⟩ (.r2 rfl (.tmp .g1) (.tmp .g0)) trivial (Ls.of (.cons .k1 (.cons .k1 (.cons .k0 .nil)))) .nil
attribute [irreducible] field_Out_Done
end Go.Sl
