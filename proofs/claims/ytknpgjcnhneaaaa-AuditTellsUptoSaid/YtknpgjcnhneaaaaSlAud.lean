/- Walked code of the program, its pure functions and their contracts. -/
import Derived.Test.YtknpgjcnhneaaaaSlAuc
set_option linter.unusedVariables false
set_option linter.unusedSimpArgs false
namespace Go.Sl
open Go.Proofs Go.Proofs.Try
structure A4_i64 where
  a0 : Int
  a1 : Int
  a2 : Int
  a3 : Int
  deriving DecidableEq
def A4_i64.cs (x : A4_i64) : List Value := [N x.a0, N x.a1, N x.a2, N x.a3]
def A4_i64.list (x : A4_i64) : List Int := [x.a0, x.a1, x.a2, x.a3]
def A4_i64.set (x : A4_i64) (k : Nat) (v : Int) : A4_i64 := ⟨if k = 0 then v else x.a0, if k = 1 then v else x.a1, if k = 2 then v else x.a2, if k = 3 then v else x.a3⟩
def A4_i64.z : A4_i64 := ⟨0, 0, 0, 0⟩
structure hash_eight where
  a0 : UInt32
  a1 : UInt32
  a2 : UInt32
  a3 : UInt32
  a4 : UInt32
  a5 : UInt32
  a6 : UInt32
  a7 : UInt32
  deriving DecidableEq
def hash_eight.cs (x : hash_eight) : List Value := [W4 x.a0, W4 x.a1, W4 x.a2, W4 x.a3, W4 x.a4, W4 x.a5, W4 x.a6, W4 x.a7]
def hash_eight.list (x : hash_eight) : List UInt32 := [x.a0, x.a1, x.a2, x.a3, x.a4, x.a5, x.a6, x.a7]
def hash_eight.set (x : hash_eight) (k : Nat) (v : UInt32) : hash_eight := ⟨if k = 0 then v else x.a0, if k = 1 then v else x.a1, if k = 2 then v else x.a2, if k = 3 then v else x.a3, if k = 4 then v else x.a4, if k = 5 then v else x.a5, if k = 6 then v else x.a6, if k = 7 then v else x.a7⟩
def hash_eight.z : hash_eight := ⟨0, 0, 0, 0, 0, 0, 0, 0⟩
noncomputable def field_Out_Text (a0 : field_Out) (a1 : ByteArray) : Option (field_Out) :=
  thn (if (decide ((a1.size : Int) > 1024)) = true then 5 else 0) fun (y1 : Int) => Option.bind (blob_Num (a1.size : Int) 2) fun r5 => grd (a1.size ≤ 140737488355328) <| Option.bind (blob_Cat_n2 r5 (a1.data.toList)) fun r13 => Option.bind (field_Out_put a0 r13 y1) fun r16 => some r16
set_option maxRecDepth 20000 in
set_option maxHeartbeats 1000000 in
theorem S_field_Out_Text (b00 : Nat) (a0 : field_Out) (z00a : Value) (a1 : ByteArray) (r : field_Out) (h : field_Out_Text a0 a1 = some r) :
    SpecF Try.prog 53 [pt b00 0, .string a1] [blk b00 105 (field_Out.cs a0 z00a), lst 5 1 z00a (a0.b.map (fun x => [B8 x]))] [] (fun z : Value => True) (fun z => Tu []) (fun z M => blk b00 105 (field_Out.cs r z) :: lst 5 1 z (r.b.map (fun x => [B8 x])) ::  M) (fun z M =>  M) := by
  refine .of func53 rfl ntmps53 rfl fun w0 D0 G0 => ?_
  unfold field_Out_Text at h
  refine .seq ?_
  refine .reg rfl ?_
  refine .opp (P.asg .k) rfl ?_
  refine .nil ?_
  refine .then ?_
  obtain ⟨y1, hj3, h⟩ := thn_eq h
  refine .cutx (γ := Unit) (E1 := fun z2 => [(4, N y1), (0, pt b00 0), (1, .string a1)]) (L1 := fun z2 => [blk b00 105 (field_Out.cs a0 z00a), lst 5 1 z00a (a0.b.map (fun x => [B8 x]))]) (R1 := fun z2 => []) ?_ (fun z2 => ?_)
  · clear h
    refine .seq ?_
    refine .reg rfl ?_
    refine .opp (P.mov .g2) rfl ?_
    refine .opp (P.lens .t0 runUnderlying9) rfl ?_
    refine .opp (P.bin .t0 .k .gtr) rfl ?_
    refine .nil ?_
    refine .then ?_
    refine .cond .t0 (fun c4 => ?_) (fun c4 => ?_)
    · rw [if_pos c4] at hj3
      refine .reg rfl ?_
      refine .drop .k0 ?_
      refine .opp (P.asg .k) rfl ?_
      refine .nil ?_
      subst hj3
      exact .stj () (.cons Mm.m0 (.cons Mm.m1 (.cons Mm.m2 .nil))) (.of (.cons .k0 (.cons .k0 .nil))) .nil
    · rw [if_neg (ne_true_of_eq_false c4)] at hj3
      refine .skip ?_
      subst hj3
      exact .stj () (.cons Mm.m0 (.cons Mm.m1 (.cons Mm.m2 .nil))) (.of (.cons .k0 (.cons .k0 .nil))) .nil
  · clear hj3
    refine .reg rfl ?_
    refine .opp (P.mov .t1) rfl ?_
    refine .opp (P.mov .g2) rfl ?_
    refine .opp (P.lens .t0 runUnderlying9) rfl ?_
    obtain ⟨r5, hr6, h⟩ := bnd_eq h
    refine .opg (G.call call68 (.cons .t0 (.cons .k .nil)) (S_blob_Num (a1.size : Int) 2 r5 hr6) .nil .nil (fun _ _ => rfl) (fun _ _ => rfl) rfl) rfl fun u7 _ => ?_
    refine .opp (P.mov .t3) rfl ?_
    obtain ⟨hb9, h⟩ := grd_eq h
    refine .opg (G.s2b (e := 5) .t0 (by kernel_rfl) (by kernel_rfl) (by kernel_rfl) hb9 rfl) rfl fun u8 _ => ?_
    refine .onel .k0 fun ho11 => ?_
    refine .oner Mm.m0 fun ho12 => ?_
    refine .opg (G.bsln (xs := [[u7], [u8]]) (.cons .t1 (.cons .t0 .nil)) runUnderlying94 sizeOf40 zeroValue40 (fill2 ho11 ho12) rfl rfl rfl rfl rfl) rfl fun u10 _ => ?_
    refine .frz .k0 ?_
    refine .frz .k0 ?_
    obtain ⟨r13, hr14, h⟩ := bnd_eq h
    refine .opg (G.call call58 (.cons .t0 .nil) (S_blob_Cat_n2 u10 u7 r5 u8 (a1.data.toList) r13 hr14) .nil (.cons Mm.m1 (.cons Mm.m0 (.cons Mm.m2 .nil))) (fun _ _ => rfl) (fun _ _ => rfl) rfl) rfl fun u15 _ => ?_
    refine .opp (P.mov .t2) rfl ?_
    refine .frz .k0 ?_
    obtain ⟨r16, hr17, h⟩ := bnd_eq h
    refine .opg (G.call call67 (.cons .t2 (.cons .t1 (.cons .t0 .nil))) (S_field_Out_put b00 a0 z00a u15 r13 y1 r16 hr17) (.cons .k0 (.cons .k0 .nil)) (.cons Mm.m0 .nil) (fun _ _ => rfl) (fun _ _ => rfl) rfl) rfl fun u18 _ => ?_
    refine .drop .k0 ?_
    refine .nil ?_
    cases h
    exact .finwn u18 (.r0 rfl) trivial (Ls.of (.cons .k0 (.cons .k0 .nil))) .nil
attribute [irreducible] field_Out_Text
noncomputable def field_Out_Num (a0 : field_Out) (a1 : Int) : Option (field_Out) :=
  thn (thn (if (decide (a1 < 0)) = true then true else (decide (a1 > 1099511627776))) fun (y4 : Bool) => if y4 = true then 4 else 0) fun (y1 : Int) => Option.bind (blob_Num a1 6) fun r9 => Option.bind (field_Out_put a0 r9 y1) fun r12 => some r12
set_option maxRecDepth 20000 in
set_option maxHeartbeats 1000000 in
theorem S_field_Out_Num (b00 : Nat) (a0 : field_Out) (z00a : Value) (a1 : Int) (r : field_Out) (h : field_Out_Num a0 a1 = some r) :
    SpecF Try.prog 54 [pt b00 0, N a1] [blk b00 105 (field_Out.cs a0 z00a), lst 5 1 z00a (a0.b.map (fun x => [B8 x]))] [] (fun z : Value => True) (fun z => Tu []) (fun z M => blk b00 105 (field_Out.cs r z) :: lst 5 1 z (r.b.map (fun x => [B8 x])) ::  M) (fun z M =>  M) := by
  refine .of func54 rfl ntmps54 rfl fun w0 D0 G0 => ?_
  unfold field_Out_Num at h
  refine .seq ?_
  refine .reg rfl ?_
  refine .opp (P.asg .k) rfl ?_
  refine .nil ?_
  refine .then ?_
  obtain ⟨y1, hj3, h⟩ := thn_eq h
  refine .cutx (γ := Unit) (E1 := fun z2 => [(4, N y1), (0, pt b00 0), (1, N a1)]) (L1 := fun z2 => [blk b00 105 (field_Out.cs a0 z00a), lst 5 1 z00a (a0.b.map (fun x => [B8 x]))]) (R1 := fun z2 => []) ?_ (fun z2 => ?_)
  · clear h
    obtain ⟨y4, hj6, hj3⟩ := thn_eq hj3
    refine .cutx (γ := Unit) (E1 := fun z5 => [(10, Bo y4), (4, N 0), (0, pt b00 0), (1, N a1)]) (L1 := fun z5 => [blk b00 105 (field_Out.cs a0 z00a), lst 5 1 z00a (a0.b.map (fun x => [B8 x]))]) (R1 := fun z5 => []) ?_ (fun z5 => ?_)
    · clear hj3
      refine .reg rfl ?_
      refine .opp (P.mov .g2) rfl ?_
      refine .opp (P.bin .t0 .k .lss) rfl ?_
      refine .opp (P.mov .t0) rfl ?_
      refine .split .k0 (fun c7 => ?_) (fun c7 => ?_)
      · rw [if_pos c7] at hj6
        refine .gno rfl .g0 rfl rfl ?_
        refine .gno rfl .g0 rfl rfl ?_
        refine .opp (P.pickT .t0 .k) rfl ?_
        refine .nil ?_
        subst hj6
        exact .stj () (.cons Mm.m0 (.cons Mm.m1 (.cons Mm.m2 (.cons Mm.m3 .nil)))) (.of (.cons .k0 (.cons .k0 .nil))) .nil
      · rw [if_neg (ne_true_of_eq_false c7)] at hj6
        refine .gyes rfl .g0 ?_
        refine .opp (P.mov .g3) rfl ?_
        refine .gyes rfl .g1 ?_
        refine .opp (P.bin .t0 .k .gtr) rfl ?_
        refine .opp (P.pickF .t1 .t0) rfl ?_
        refine .nil ?_
        subst hj6
        exact .stj () (.cons Mm.m0 (.cons Mm.m1 (.cons Mm.m2 (.cons Mm.m3 .nil)))) (.of (.cons .k0 (.cons .k0 .nil))) .nil
    · clear hj6
      refine .cond .t0 (fun c8 => ?_) (fun c8 => ?_)
      · rw [if_pos c8] at hj3
        refine .reg rfl ?_
        refine .drop .k0 ?_
        refine .opp (P.asg .k) rfl ?_
        refine .nil ?_
        subst hj3
        exact .stj () (.cons Mm.m0 (.cons Mm.m1 (.cons Mm.m2 .nil))) (.of (.cons .k0 (.cons .k0 .nil))) .nil
      · rw [if_neg (ne_true_of_eq_false c8)] at hj3
        refine .skip ?_
        subst hj3
        exact .stj () (.cons Mm.m0 (.cons Mm.m1 (.cons Mm.m2 .nil))) (.of (.cons .k0 (.cons .k0 .nil))) .nil
  · clear hj3
    refine .reg rfl ?_
    refine .opp (P.mov .t1) rfl ?_
    refine .opp (P.mov .t2) rfl ?_
    obtain ⟨r9, hr10, h⟩ := bnd_eq h
    refine .opg (G.call call68 (.cons .t0 (.cons .k .nil)) (S_blob_Num a1 6 r9 hr10) .nil .nil (fun _ _ => rfl) (fun _ _ => rfl) rfl) rfl fun u11 _ => ?_
    refine .opp (P.mov .t2) rfl ?_
    refine .frz .k0 ?_
    obtain ⟨r12, hr13, h⟩ := bnd_eq h
    refine .opg (G.call call67 (.cons .t2 (.cons .t1 (.cons .t0 .nil))) (S_field_Out_put b00 a0 z00a u11 r9 y1 r12 hr13) (.cons .k0 (.cons .k0 .nil)) (.cons Mm.m0 .nil) (fun _ _ => rfl) (fun _ _ => rfl) rfl) rfl fun u14 _ => ?_
    refine .drop .k0 ?_
    refine .nil ?_
    cases h
    exact .finwn u14 (.r0 rfl) trivial (Ls.of (.cons .k0 (.cons .k0 .nil))) .nil
attribute [irreducible] field_Out_Num
noncomputable def deal_Put (a0 : field_Out) (a1 : api_Inv) : Option (field_Out) :=
  Option.bind (field_Out_Text a0 ⟨#[105, 110, 118]⟩) fun r2 => Option.bind (field_Out_Num r2 a1.User) fun r5 => Option.bind (field_Out_Text r5 a1.Root) fun r8 => Option.bind (field_Out_Num r8 a1.Router) fun r11 => Option.bind (field_Out_Num r11 a1.Send) fun r14 => Option.bind (field_Out_Num r14 a1.Recv) fun r17 => Option.bind (field_Out_Num r17 a1.To) fun r20 => Option.bind (field_Out_Text r20 a1.Id) fun r23 => some r23
set_option maxRecDepth 20000 in
set_option maxHeartbeats 1000000 in
theorem S_deal_Put (b00 : Nat) (a0 : field_Out) (z00a : Value) (a1 : api_Inv) (r : field_Out) (h : deal_Put a0 a1 = some r) :
    SpecF Try.prog 45 [pt b00 0, Ag (api_Inv.cs a1)] [blk b00 105 (field_Out.cs a0 z00a), lst 5 1 z00a (a0.b.map (fun x => [B8 x]))] [] (fun z : Value => True) (fun z => Tu []) (fun z M => blk b00 105 (field_Out.cs r z) :: lst 5 1 z (r.b.map (fun x => [B8 x])) ::  M) (fun z M =>  M) := by
  refine .of func45 rfl ntmps45 rfl fun w0 D0 G0 => ?_
  unfold deal_Put at h
  refine .seq ?_
  refine .reg rfl ?_
  refine .opx (X.box (cs := (api_Inv.cs a1)) .t1 rfl) rfl fun b1 => ?_
  refine .nil ?_
  refine .then ?_
  refine .seq ?_
  refine .reg rfl ?_
  refine .opp (P.mov .g1) rfl ?_
  obtain ⟨r2, hr3, h⟩ := bnd_eq h
  refine .opg (G.call call53 (.cons .t0 (.cons .k .nil)) (S_field_Out_Text b00 a0 z00a ⟨#[105, 110, 118]⟩ r2 hr3) (.cons .k1 (.cons .k1 .nil)) .nil (fun _ _ => rfl) (fun _ _ => rfl) rfl) rfl fun u4 _ => ?_
  refine .drop .k0 ?_
  refine .nil ?_
  refine .then ?_
  refine .seq ?_
  refine .reg rfl ?_
  refine .opp (P.mov .g1) rfl ?_
  refine .opp (P.fa .g1 fa_30_0 rfl) rfl ?_
  refine .op (V.ld (v := N a1.User) .t0 .k2 (.one isAgg3 rfl)) rfl ?_
  obtain ⟨r5, hr6, h⟩ := bnd_eq h
  refine .opg (G.call call54 (.cons .t1 (.cons .t0 .nil)) (S_field_Out_Num b00 r2 u4 a1.User r5 hr6) (.cons .k0 (.cons .k0 .nil)) .nil (fun _ _ => rfl) (fun _ _ => rfl) rfl) rfl fun u7 _ => ?_
  refine .drop .k0 ?_
  refine .nil ?_
  refine .then ?_
  refine .seq ?_
  refine .reg rfl ?_
  refine .opp (P.mov .g1) rfl ?_
  refine .opp (P.fa .g1 fa_30_1 rfl) rfl ?_
  refine .op (V.ld (v := .string a1.Root) .t0 .k2 (.one isAgg9 rfl)) rfl ?_
  obtain ⟨r8, hr9, h⟩ := bnd_eq h
  refine .opg (G.call call53 (.cons .t1 (.cons .t0 .nil)) (S_field_Out_Text b00 r5 u7 a1.Root r8 hr9) (.cons .k0 (.cons .k0 .nil)) .nil (fun _ _ => rfl) (fun _ _ => rfl) rfl) rfl fun u10 _ => ?_
  refine .drop .k0 ?_
  refine .nil ?_
  refine .then ?_
  refine .seq ?_
  refine .seq ?_
  refine .reg rfl ?_
  refine .opp (P.fa .g0 fa_30_2 rfl) rfl ?_
  refine .op (V.ld (v := N a1.Router) .t0 .k2 (.one isAgg3 rfl)) rfl ?_
  refine .opp (P.fa .g1 fa_30_3 rfl) rfl ?_
  refine .op (V.ld (v := N a1.Send) .t0 .k2 (.one isAgg3 rfl)) rfl ?_
  refine .opp (P.fa .g2 fa_30_4 rfl) rfl ?_
  refine .op (V.ld (v := N a1.Recv) .t0 .k2 (.one isAgg3 rfl)) rfl ?_
  refine .opp (P.fa .g3 fa_30_5 rfl) rfl ?_
  refine .op (V.ld (v := N a1.To) .t0 .k2 (.one isAgg3 rfl)) rfl ?_
  refine .opp (P.bld (v := Ag (A4_i64.cs ⟨a1.Router, a1.Send, a1.Recv, a1.To⟩)) (.cons .t3 (.cons .t2 (.cons .t1 (.cons .t0 .nil)))) (bld_runA zeroValue106 runUnderlying106 sizeOf3 (by kernel_rfl))) rfl ?_
  refine .opp (P.mov .k) rfl ?_
  refine .nil ?_
  refine .then ?_
  refine .block ?_
  refine .rounds 5 ?_
  refine .rd ?_
  refine .seq ?_
  refine .reg rfl ?_
  refine .opp (P.bin (v := Bo true) .g0 .k (BinV.lss.boolc (by decide))) rfl ?_
  refine .nil ?_
  refine .then ?_
  refine .seq ?_
  refine .condT .t0 ?_
  refine .skip ?_
  refine .then ?_
  refine .seq ?_
  refine .block ?_
  refine .seq ?_
  refine .reg rfl ?_
  refine .opp (P.idx (i := 0) (v := N a1.Router) .g1 .g0 rfl runUnderlying106 sizeOf3 (by decide) (.one isAgg3 rfl)) rfl ?_
  refine .opp (P.asg .t0) rfl ?_
  refine .nil ?_
  refine .then ?_
  refine .reg rfl ?_
  refine .opp (P.mov .g4) rfl ?_
  refine .opp (P.mov .t1) rfl ?_
  obtain ⟨r11, hr12, h⟩ := bnd_eq h
  refine .opg (G.call call54 (.cons .t1 (.cons .t0 .nil)) (S_field_Out_Num b00 r8 u10 a1.Router r11 hr12) (.cons .k0 (.cons .k0 .nil)) .nil (fun _ _ => rfl) (fun _ _ => rfl) rfl) rfl fun u13 _ => ?_
  refine .drop .k0 ?_
  refine .nil ?_
  refine .inn ?_
  refine .then ?_
  refine .reg rfl ?_
  refine .opp (P.bin (v := N 1) .g0 .k (.addc (by decide))) rfl ?_
  refine .drop .k1 ?_
  refine .opp (P.mov .t0) rfl ?_
  refine .nil ?_
  refine .then ?_
  refine .rd ?_
  refine .seq ?_
  refine .reg rfl ?_
  refine .opp (P.bin (v := Bo true) .g0 .k (BinV.lss.boolc (by decide))) rfl ?_
  refine .nil ?_
  refine .then ?_
  refine .seq ?_
  refine .condT .t0 ?_
  refine .skip ?_
  refine .then ?_
  refine .seq ?_
  refine .block ?_
  refine .seq ?_
  refine .reg rfl ?_
  refine .opp (P.idx (i := 1) (v := N a1.Send) .g1 .g0 rfl runUnderlying106 sizeOf3 (by decide) (.one isAgg3 rfl)) rfl ?_
  refine .opp (P.asg .t0) rfl ?_
  refine .nil ?_
  refine .then ?_
  refine .reg rfl ?_
  refine .opp (P.mov .g4) rfl ?_
  refine .opp (P.mov .t1) rfl ?_
  obtain ⟨r14, hr15, h⟩ := bnd_eq h
  refine .opg (G.call call54 (.cons .t1 (.cons .t0 .nil)) (S_field_Out_Num b00 r11 u13 a1.Send r14 hr15) (.cons .k0 (.cons .k0 .nil)) .nil (fun _ _ => rfl) (fun _ _ => rfl) rfl) rfl fun u16 _ => ?_
  refine .drop .k0 ?_
  refine .nil ?_
  refine .inn ?_
  refine .then ?_
  refine .reg rfl ?_
  refine .opp (P.bin (v := N 2) .g0 .k (.addc (by decide))) rfl ?_
  refine .drop .k1 ?_
  refine .opp (P.mov .t0) rfl ?_
  refine .nil ?_
  refine .then ?_
  refine .rd ?_
  refine .seq ?_
  refine .reg rfl ?_
  refine .opp (P.bin (v := Bo true) .g0 .k (BinV.lss.boolc (by decide))) rfl ?_
  refine .nil ?_
  refine .then ?_
  refine .seq ?_
  refine .condT .t0 ?_
  refine .skip ?_
  refine .then ?_
  refine .seq ?_
  refine .block ?_
  refine .seq ?_
  refine .reg rfl ?_
  refine .opp (P.idx (i := 2) (v := N a1.Recv) .g1 .g0 rfl runUnderlying106 sizeOf3 (by decide) (.one isAgg3 rfl)) rfl ?_
  refine .opp (P.asg .t0) rfl ?_
  refine .nil ?_
  refine .then ?_
  refine .reg rfl ?_
  refine .opp (P.mov .g4) rfl ?_
  refine .opp (P.mov .t1) rfl ?_
  obtain ⟨r17, hr18, h⟩ := bnd_eq h
  refine .opg (G.call call54 (.cons .t1 (.cons .t0 .nil)) (S_field_Out_Num b00 r14 u16 a1.Recv r17 hr18) (.cons .k0 (.cons .k0 .nil)) .nil (fun _ _ => rfl) (fun _ _ => rfl) rfl) rfl fun u19 _ => ?_
  refine .drop .k0 ?_
  refine .nil ?_
  refine .inn ?_
  refine .then ?_
  refine .reg rfl ?_
  refine .opp (P.bin (v := N 3) .g0 .k (.addc (by decide))) rfl ?_
  refine .drop .k1 ?_
  refine .opp (P.mov .t0) rfl ?_
  refine .nil ?_
  refine .then ?_
  refine .rd ?_
  refine .seq ?_
  refine .reg rfl ?_
  refine .opp (P.bin (v := Bo true) .g0 .k (BinV.lss.boolc (by decide))) rfl ?_
  refine .nil ?_
  refine .then ?_
  refine .seq ?_
  refine .condT .t0 ?_
  refine .skip ?_
  refine .then ?_
  refine .seq ?_
  refine .block ?_
  refine .seq ?_
  refine .reg rfl ?_
  refine .opp (P.idx (i := 3) (v := N a1.To) .g1 .g0 rfl runUnderlying106 sizeOf3 (by decide) (.one isAgg3 rfl)) rfl ?_
  refine .opp (P.asg .t0) rfl ?_
  refine .nil ?_
  refine .then ?_
  refine .reg rfl ?_
  refine .opp (P.mov .g4) rfl ?_
  refine .opp (P.mov .t1) rfl ?_
  obtain ⟨r20, hr21, h⟩ := bnd_eq h
  refine .opg (G.call call54 (.cons .t1 (.cons .t0 .nil)) (S_field_Out_Num b00 r17 u19 a1.To r20 hr21) (.cons .k0 (.cons .k0 .nil)) .nil (fun _ _ => rfl) (fun _ _ => rfl) rfl) rfl fun u22 _ => ?_
  refine .drop .k0 ?_
  refine .nil ?_
  refine .inn ?_
  refine .then ?_
  refine .reg rfl ?_
  refine .opp (P.bin (v := N 4) .g0 .k (.addc (by decide))) rfl ?_
  refine .drop .k1 ?_
  refine .opp (P.mov .t0) rfl ?_
  refine .nil ?_
  refine .then ?_
  refine .rd ?_
  refine .seq ?_
  refine .reg rfl ?_
  refine .opp (P.bin (v := Bo false) .g0 .k (BinV.lss.boolc (by decide))) rfl ?_
  refine .nil ?_
  refine .then ?_
  refine .seq ?_
  refine .condF .t0 ?_
  refine .exit ?_
  refine .thx ?_
  refine .thx ?_
  refine .inb ?_
  refine .then ?_
  refine .reg rfl ?_
  refine .opp (P.mov .t3) rfl ?_
  refine .opp (P.fa .t3 fa_30_6 rfl) rfl ?_
  refine .op (V.ld (v := .string a1.Id) .t0 .k2 (.one isAgg9 rfl)) rfl ?_
  obtain ⟨r23, hr24, h⟩ := bnd_eq h
  refine .opg (G.call call53 (.cons .t1 (.cons .t0 .nil)) (S_field_Out_Text b00 r20 u22 a1.Id r23 hr24) (.cons .k0 (.cons .k0 .nil)) .nil (fun _ _ => rfl) (fun _ _ => rfl) rfl) rfl fun u25 _ => ?_
  refine .drop .k0 ?_
  refine .nil ?_
  cases h
  exact .finwn u25 (.r0 rfl) trivial (Ls.of (.cons .k0 (.cons .k0 .nil))) .nil
attribute [irreducible] deal_Put
noncomputable def slices_Concat_byte_n1 (a0a : List UInt8) : Option ((List UInt8)) :=
  if (decide ((IntKind.i64.wrap (0 + (a0a.length : Int))) < 0)) = true then none else (Option.bind (slices_Grow_byte_nil (IntKind.i64.wrap (0 + (a0a.length : Int)))) fun r5 => grd ((r5.length + a0a.length) * 1 ≤ 140737488355328) <| some (r5 ++ a0a))
set_option maxRecDepth 20000 in
set_option maxHeartbeats 1000000 in
theorem S_slices_Concat_byte_n1 (v00 : Value) (z00a : Value) (a0a : List UInt8) (r : (List UInt8)) (h : slices_Concat_byte_n1 a0a = some r) :
    SpecF Try.prog 70 [v00] [] [rows 1 v00 [[z00a]], rows 1 z00a (a0a.map (fun x => [B8 x]))] (fun z : Value => True) (fun z => z) (fun z M => lst 5 1 z (r.map (fun x => [B8 x])) ::  M) (fun z M =>  M) := by
  refine .of func70 rfl ntmps70 rfl fun w0 D0 G0 => ?_
  unfold slices_Concat_byte_n1 at h
  refine .seq ?_
  refine .reg rfl ?_
  refine .op0 (OpP.toV (P.asg .k)) rfl ?_
  refine .nil ?_
  refine .then ?_
  refine .seq ?_
  refine .reg rfl ?_
  refine .opp (P.asg .k) rfl ?_
  refine .nil ?_
  refine .then ?_
  refine .seq ?_
  refine .seq ?_
  refine .reg rfl ?_
  refine .opp (P.mov .g1) rfl ?_
  refine .op (V.lnr (n := 1) .g0 Mm.m0 rfl runUnderlying94) rfl ?_
  refine .opp (P.mov .k) rfl ?_
  refine .nil ?_
  refine .then ?_
  refine .block ?_
  refine .rounds 2 ?_
  refine .rd ?_
  refine .seq ?_
  refine .reg rfl ?_
  refine .opp (P.bin (v := Bo true) .g0 .g1 (BinV.lss.boolc (by decide))) rfl ?_
  refine .nil ?_
  refine .then ?_
  refine .seq ?_
  refine .condT .t0 ?_
  refine .skip ?_
  refine .then ?_
  refine .seq ?_
  refine .block ?_
  refine .seq ?_
  refine .reg rfl ?_
  refine .ixq Mm.m0 (show [[z00a]][0]? = some [z00a] from rfl) fun p1 q2 hq3 => ?_
  refine .opp (P.ixi (i := 0) .g0 rfl .g2 hq3 runUnderlying94 sizeOf40) rfl ?_
  refine .op (V.ldx0 (u := z00a) .t0 hq3 Mm.m0 (show [[z00a]][0]? = some [z00a] from rfl) (.one isAgg40 rfl)) rfl ?_
  refine .opp (P.asg .t0) rfl ?_
  refine .nil ?_
  refine .then ?_
  refine .seq ?_
  refine .reg rfl ?_
  refine .opp (P.mov .g4) rfl ?_
  refine .opp (P.mov .t1) rfl ?_
  refine .op (V.lnr (n := a0a.length) .t0 Mm.m1 map_len runUnderlying40) rfl ?_
  refine .opp (P.bin .t1 .t0 .add) rfl ?_
  refine .drop .k4 ?_
  refine .opp (P.asg .t0) rfl ?_
  refine .nil ?_
  refine .then ?_
  refine .seq ?_
  refine .reg rfl ?_
  refine .opp (P.mov .g0) rfl ?_
  refine .opp (P.bin .t0 .k .lss) rfl ?_
  refine .nil ?_
  refine .then ?_
  refine .cond .t0 (fun c4 => ?_) (fun c4 => ?_)
  · rw [if_pos c4] at h
    refine .reg rfl ?_
    cases h
  · rw [if_neg (ne_true_of_eq_false c4)] at h
    refine .skip ?_
    refine .inn ?_
    refine .then ?_
    refine .reg rfl ?_
    refine .opp (P.bin (v := N 1) .g1 .k (.addc (by decide))) rfl ?_
    refine .drop .k2 ?_
    refine .opp (P.mov .t0) rfl ?_
    refine .nil ?_
    refine .then ?_
    refine .rd ?_
    refine .seq ?_
    refine .reg rfl ?_
    refine .opp (P.bin (v := Bo false) .g0 .g2 (BinV.lss.boolc (by decide))) rfl ?_
    refine .nil ?_
    refine .then ?_
    refine .seq ?_
    refine .condF .t0 ?_
    refine .exit ?_
    refine .thx ?_
    refine .thx ?_
    refine .inb ?_
    refine .then ?_
    refine .seq ?_
    refine .reg rfl ?_
    refine .opp (P.mov .t1) rfl ?_
    obtain ⟨r5, hr6, h⟩ := bnd_eq h
    refine .opg (G.call call84 (.cons .k (.cons .t0 .nil)) (S_slices_Grow_byte_nil (IntKind.i64.wrap (0 + (a0a.length : Int))) r5 hr6) .nil .nil (fun _ _ => rfl) (fun _ _ => rfl) rfl) rfl fun u7 _ => ?_
    refine .opp (P.asg .t0) rfl ?_
    refine .nil ?_
    refine .then ?_
    refine .seq ?_
    refine .seq ?_
    refine .reg rfl ?_
    refine .opp (P.mov .t4) rfl ?_
    refine .op (V.lnr (n := 1) .g0 Mm.m0 rfl runUnderlying94) rfl ?_
    refine .opp (P.mov .k) rfl ?_
    refine .nil ?_
    refine .then ?_
    refine .block ?_
    refine .rounds 2 ?_
    refine .rd ?_
    refine .seq ?_
    refine .reg rfl ?_
    refine .opp (P.bin (v := Bo true) .g0 .g1 (BinV.lss.boolc (by decide))) rfl ?_
    refine .nil ?_
    refine .then ?_
    refine .seq ?_
    refine .condT .t0 ?_
    refine .skip ?_
    refine .then ?_
    refine .seq ?_
    refine .block ?_
    refine .seq ?_
    refine .reg rfl ?_
    refine .ixq Mm.m0 (show [[z00a]][0]? = some [z00a] from rfl) fun p8 q9 hq10 => ?_
    refine .opp (P.ixi (i := 0) .g0 rfl .g2 hq10 runUnderlying94 sizeOf40) rfl ?_
    refine .op (V.ldx0 (u := z00a) .t0 hq10 Mm.m0 (show [[z00a]][0]? = some [z00a] from rfl) (.one isAgg40 rfl)) rfl ?_
    refine .opp (P.asg .t0) rfl ?_
    refine .nil ?_
    refine .then ?_
    refine .reg rfl ?_
    refine .opp (P.mov .g4) rfl ?_
    refine .opp (P.mov .t1) rfl ?_
    obtain ⟨hb12, h⟩ := grd_eq h
    refine .opg (G.app (by_ := 1) .t1 .t0 .k0 (.inl Mm.m1) runUnderlying40 runUnderlying40 sizeOf5 typeInfo5 rfl rfl zeroValue5 rfl (one_map one_5 _) (by simpa using hb12) rfl) rfl fun u11 _ => ?_
    refine .conseq .k0 (q := lst 5 1 u11 ((r5 ++ a0a).map (fun x => [B8 x]))) (fun _ hh => by simpa [List.map_append] using hh) ?_
    refine .drop .k4 ?_
    refine .opp (P.asg .t0) rfl ?_
    refine .nil ?_
    refine .inn ?_
    refine .then ?_
    refine .reg rfl ?_
    refine .opp (P.bin (v := N 1) .g1 .k (.addc (by decide))) rfl ?_
    refine .drop .k2 ?_
    refine .opp (P.mov .t0) rfl ?_
    refine .nil ?_
    refine .then ?_
    refine .rd ?_
    refine .seq ?_
    refine .reg rfl ?_
    refine .opp (P.bin (v := Bo false) .g0 .g2 (BinV.lss.boolc (by decide))) rfl ?_
    refine .nil ?_
    refine .then ?_
    refine .seq ?_
    refine .condF .t0 ?_
    refine .exit ?_
    refine .thx ?_
    refine .thx ?_
    refine .inb ?_
    refine .then ?_
    refine .seq ?_
    refine .reg rfl ?_
    refine .opp (P.mov .t1) rfl ?_
    refine .opp (P.asg .t0) rfl ?_
    refine .nil ?_
    refine .then ?_
    refine .ret ?_
    cases h
    exact .finw u11 (.r1 rfl (.tmp .g0)) trivial (Ls.of (.cons .k0 .nil)) .nil
attribute [irreducible] slices_Concat_byte_n1
noncomputable def blob_Cat_n1 (a0a : List UInt8) : Option ((List UInt8)) :=
  Option.bind (slices_Concat_byte_n1 a0a) fun r1 => some r1
set_option maxRecDepth 20000 in
set_option maxHeartbeats 1000000 in
theorem S_blob_Cat_n1 (v00 : Value) (z00a : Value) (a0a : List UInt8) (r : (List UInt8)) (h : blob_Cat_n1 a0a = some r) :
    SpecF Try.prog 58 [v00] [] [rows 1 v00 [[z00a]], rows 1 z00a (a0a.map (fun x => [B8 x]))] (fun z : Value => True) (fun z => z) (fun z M => lst 5 1 z (r.map (fun x => [B8 x])) ::  M) (fun z M =>  M) := by
  refine .of func58 rfl ntmps58 rfl fun w0 D0 G0 => ?_
  unfold blob_Cat_n1 at h
  refine .seq ?_
  refine .reg rfl ?_
  refine .op0 (OpP.toV (P.asg .k)) rfl ?_
  refine .nil ?_
  refine .then ?_
  refine .seq ?_
  refine .reg rfl ?_
  refine .opp (P.mov .t0) rfl ?_
  obtain ⟨r1, hr2, h⟩ := bnd_eq h
  refine .opg (G.call call70 (.cons .t0 .nil) (S_slices_Concat_byte_n1 v00 z00a a0a r1 hr2) .nil (.cons Mm.m0 (.cons Mm.m1 .nil)) (fun _ _ => rfl) (fun _ _ => rfl) rfl) rfl fun u3 _ => ?_
  refine .opp (P.asg .t0) rfl ?_
  refine .nil ?_
  refine .then ?_
  refine .ret ?_
  cases h
  exact .finw u3 (.r1 rfl (.tmp .g0)) trivial (Ls.of (.cons .k0 .nil)) .nil
attribute [irreducible] blob_Cat_n1
noncomputable def field_Out_Done (a0 : field_Out) : Option ((List UInt8) × Int) :=
  if (!a0.made) = true then (some ((([] : List UInt8), 9))) else (if (decide (a0.e_ ≠ 0)) = true then (some ((([] : List UInt8), a0.e_))) else (Option.bind (blob_Cat_n1 a0.b) fun r5 => some (r5, 0)))
set_option maxRecDepth 20000 in
set_option maxHeartbeats 1000000 in
theorem S_field_Out_Done (b00 : Nat) (a0 : field_Out) (z00a : Value) (r : (List UInt8) × Int) (h : field_Out_Done a0 = some r) :
    SpecF Try.prog 46 [pt b00 0] [blk b00 105 (field_Out.cs a0 z00a), lst 5 1 z00a (a0.b.map (fun x => [B8 x]))] [] (fun z : Value => True) (fun z => Tu [z, N r.2]) (fun z M => blk b00 105 (field_Out.cs a0 z00a) :: lst 5 1 z00a (a0.b.map (fun x => [B8 x])) :: lst 5 1 z (r.1.map (fun x => [B8 x])) ::  M) (fun z M =>  M) := by
  refine .of func46 rfl ntmps46 rfl fun w0 D0 G0 => ?_
  unfold field_Out_Done at h
  refine .seq ?_
  refine .reg rfl ?_
  refine .op0 (OpP.toV (P.asg .k)) rfl ?_
  refine .op0 (OpP.toV (P.asg .k)) rfl ?_
  refine .nil ?_
  refine .then ?_
  refine .seq ?_
  refine .block ?_
  refine .seq ?_
  refine .reg rfl ?_
  refine .opp (P.mov .g0) rfl ?_
  refine .opp (P.bin .t0 .k (.ptr_eql (e := 105) (by kernel_rfl))) rfl ?_
  refine .opp (P.mov .t0) rfl ?_
  refine .gyes rfl .g0 ?_
  refine .opp (P.mov .g1) rfl ?_
  refine .gyes rfl .g1 ?_
  refine .opp (P.nilc .t0) rfl ?_
  refine .gyes rfl .g1 ?_
  refine .opp (P.fa .t0 fa_105_2 rfl) rfl ?_
  refine .gyes rfl .g1 ?_
  refine .op (V.ld (v := Bo a0.made) .t0 .k0 (.one isAgg4 rfl)) rfl ?_
  refine .gyes rfl .g1 ?_
  refine .opp (P.not .t0) rfl ?_
  refine .opp (P.pickF .t1 .t0) rfl ?_
  refine .opp (P.asg .t0) rfl ?_
  refine .nil ?_
  refine .then ?_
  refine .cond .t0 (fun c1 => ?_) (fun c1 => ?_)
  · rw [if_pos c1] at h
    refine .seq ?_
    refine .reg rfl ?_
    refine .opp (P.asg .k) rfl ?_
    refine .opp (P.asg .k) rfl ?_
    refine .nil ?_
    refine .then ?_
    refine .ret ?_
    refine .inr ?_
    refine .thr ?_
    cases h
    refine .lnil 5 1 ?_
    exact .finw nilSl (.r2 rfl (.tmp .g1) (.tmp .g0)) trivial (Ls.of (.cons .k1 (.cons .k1 (.cons .k0 .nil)))) .nil
  · rw [if_neg (ne_true_of_eq_false c1)] at h
    refine .seq ?_
    refine .reg rfl ?_
    refine .opp (P.mov .g0) rfl ?_
    refine .opp (P.nilc .t0) rfl ?_
    refine .opp (P.fa .t0 fa_105_1 rfl) rfl ?_
    refine .op (V.ld (v := N a0.e_) .t0 .k0 (.one isAgg25 rfl)) rfl ?_
    refine .opp (P.bin .t0 .k .neq) rfl ?_
    refine .opp (P.asg .t0) rfl ?_
    refine .nil ?_
    refine .then ?_
    refine .cond .t0 (fun c2 => ?_) (fun c2 => ?_)
    · rw [if_pos c2] at h
      refine .seq ?_
      refine .draw 6 (.on 0 .pu (.on 1 .pu (.on 2 .pu (.on 3 .ld (.on 4 .go (.on 5 .go .nl)))))) follows_mixed (.thn (.inb (.thn .body))) (by kernel_rfl) ?_
      refine .dpu rfl (.n rfl) (P.mov .t0) rfl rfl ?_
      refine .dpu rfl (.n rfl) (P.nilc .t0) rfl rfl ?_
      refine .dpu rfl (.n rfl) (P.fa .t0 fa_105_1 rfl) rfl rfl ?_
      refine .dld rfl (.n rfl) (V.ld (v := N a0.e_) .t0 .k0 (.one isAgg25 rfl)) (fun _ h => h) rfl rfl ?_
      refine .dgo rfl (.n rfl) (OpV.g (OpP.toV (P.asg .k)) rfl) (.inr fun _ _ _ h => h) fun _ _ => ?_
      refine .dgo rfl (.n rfl) (OpV.g (OpP.toV (P.asg .t1)) rfl) (.inr fun _ _ _ h => h) fun _ _ => ?_
      refine .dnil ?_
      refine .then ?_
      refine .ret ?_
      refine .inr ?_
      refine .thr ?_
      cases h
      refine .lnil 5 1 ?_
      exact .finw nilSl (.r2 rfl (.tmp .g1) (.tmp .g0)) trivial (Ls.of (.cons .k1 (.cons .k1 (.cons .k0 .nil)))) .nil
    · rw [if_neg (ne_true_of_eq_false c2)] at h
      refine .skip ?_
      refine .inn ?_
      refine .then ?_
      refine .seq ?_
      refine .reg rfl ?_
      refine .opp (P.mov .t0) rfl ?_
      refine .opp (P.nilc .t0) rfl ?_
      refine .opp (P.fa .t0 fa_105_0 rfl) rfl ?_
      refine .op (V.ld (v := z00a) .t0 .k0 (.one isAgg40 rfl)) rfl ?_
      refine .onel .k1 fun ho4 => ?_
      refine .opg (G.bsl (cs := [z00a]) .t0 runUnderlying94 sizeOf40 zeroValue40 (cells1 ho4) rfl rfl rfl rfl) rfl fun u3 _ => ?_
      refine .frz .k0 ?_
      obtain ⟨r5, hr6, h⟩ := bnd_eq h
      refine .opg (G.calll call58 (.cons .t0 .nil) (S_blob_Cat_n1 u3 z00a a0.b r5 hr6) .nil (.cons (List.mem_append_left _ Mm.m0) (.imp (List.mem_append_right _ Mm.m1) (fun _ => lst_rows) .nil)) (fun _ _ => rfl) rfl) rfl fun u7 _ => ?_
      refine .opp (P.asg .t0) rfl ?_
      refine .opp (P.asg .k) rfl ?_
      refine .nil ?_
      refine .then ?_
      refine .ret ?_
      cases h
      exact .finw u7 (.r2 rfl (.tmp .g1) (.tmp .g0)) trivial (Ls.of (.cons .k1 (.cons .k1 (.cons .k0 .nil)))) .nil
attribute [irreducible] field_Out_Done
noncomputable def hash_begin  : hash_eight :=
  ⟨1779033703, 3144134277, 1013904242, 2773480762, 1359893119, 2600822924, 528734635, 1541459225⟩
set_option maxRecDepth 20000 in
set_option maxHeartbeats 1000000 in
theorem S_hash_begin  (r : hash_eight) (h : hash_begin  = r) :
    SpecF Try.prog 71 [] [] [] (fun z : Unit => True) (fun z => Ag (hash_eight.cs r)) (fun z M =>  M) (fun z M =>  M) := by
  refine .of func71 rfl ntmps71 rfl fun w0 D0 G0 => ?_
  unfold hash_begin at h
  refine .seq ?_
  refine .reg rfl ?_
  refine .opx (X.alc (cs := (hash_eight.cs ⟨0, 0, 0, 0, 0, 0, 0, 0⟩)) zeroValue116 rfl) rfl fun b1 => ?_
  refine .nil ?_
  refine .then ?_
  refine .seq ?_
  refine .reg rfl ?_
  refine .opp (P.bld (v := Ag (hash_eight.cs ⟨1779033703, 3144134277, 1013904242, 2773480762, 1359893119, 2600822924, 528734635, 1541459225⟩)) (.cons .k (.cons .k (.cons .k (.cons .k (.cons .k (.cons .k (.cons .k (.cons .k .nil)))))))) (bld_runA zeroValue116 runUnderlying116 sizeOf70 (by kernel_rfl))) rfl ?_
  refine .opg (G.str .t0 .g0 .k0 (.mk (cs' := (hash_eight.cs ⟨1779033703, 3144134277, 1013904242, 2773480762, 1359893119, 2600822924, 528734635, 1541459225⟩)) sizeOf116 rfl rfl rfl rfl)) rfl fun _ _ => ?_
  refine .nil ?_
  refine .then ?_
  refine .ret ?_
  subst h
  exact .finw () (.r1 rfl (.cell .g0 .k0 (.agg isAgg116 sizeOf116 rfl rfl))) trivial (Ls.of .nil) .nil
attribute [irreducible] hash_begin
noncomputable def hash_keys  : A64_u32 :=
  ⟨1116352408, 1899447441, 3049323471, 3921009573, 961987163, 1508970993, 2453635748, 2870763221, 3624381080, 310598401, 607225278, 1426881987, 1925078388, 2162078206, 2614888103, 3248222580, 3835390401, 4022224774, 264347078, 604807628, 770255983, 1249150122, 1555081692, 1996064986, 2554220882, 2821834349, 2952996808, 3210313671, 3336571891, 3584528711, 113926993, 338241895, 666307205, 773529912, 1294757372, 1396182291, 1695183700, 1986661051, 2177026350, 2456956037, 2730485921, 2820302411, 3259730800, 3345764771, 3516065817, 3600352804, 4094571909, 275423344, 430227734, 506948616, 659060556, 883997877, 958139571, 1322822218, 1537002063, 1747873779, 1955562222, 2024104815, 2227730452, 2361852424, 2428436474, 2756734187, 3204031479, 3329325298⟩
set_option maxRecDepth 20000 in
set_option maxHeartbeats 1000000 in
theorem S_hash_keys  (r : A64_u32) (h : hash_keys  = r) :
    SpecF Try.prog 72 [] [] [] (fun z : Unit => True) (fun z => Ag (A64_u32.cs r)) (fun z M =>  M) (fun z M =>  M) := by
  refine .of func72 rfl ntmps72 rfl fun w0 D0 G0 => ?_
  unfold hash_keys at h
  refine .seq ?_
  refine .reg rfl ?_
  refine .opx (X.alc (cs := (A64_u32.cs ⟨0, 0, 0, 0, 0, 0, 0, 0, 0, 0, 0, 0, 0, 0, 0, 0, 0, 0, 0, 0, 0, 0, 0, 0, 0, 0, 0, 0, 0, 0, 0, 0, 0, 0, 0, 0, 0, 0, 0, 0, 0, 0, 0, 0, 0, 0, 0, 0, 0, 0, 0, 0, 0, 0, 0, 0, 0, 0, 0, 0, 0, 0, 0, 0⟩)) zeroValue72 rfl) rfl fun b1 => ?_
  refine .nil ?_
  refine .then ?_
  refine .seq ?_
  refine .reg rfl ?_
  refine .opp (P.bld (v := Ag (A64_u32.cs ⟨1116352408, 1899447441, 3049323471, 3921009573, 961987163, 1508970993, 2453635748, 2870763221, 3624381080, 310598401, 607225278, 1426881987, 1925078388, 2162078206, 2614888103, 3248222580, 3835390401, 4022224774, 264347078, 604807628, 770255983, 1249150122, 1555081692, 1996064986, 2554220882, 2821834349, 2952996808, 3210313671, 3336571891, 3584528711, 113926993, 338241895, 666307205, 773529912, 1294757372, 1396182291, 1695183700, 1986661051, 2177026350, 2456956037, 2730485921, 2820302411, 3259730800, 3345764771, 3516065817, 3600352804, 4094571909, 275423344, 430227734, 506948616, 659060556, 883997877, 958139571, 1322822218, 1537002063, 1747873779, 1955562222, 2024104815, 2227730452, 2361852424, 2428436474, 2756734187, 3204031479, 3329325298⟩)) (.cons .k (.cons .k (.cons .k (.cons .k (.cons .k (.cons .k (.cons .k (.cons .k (.cons .k (.cons .k (.cons .k (.cons .k (.cons .k (.cons .k (.cons .k (.cons .k (.cons .k (.cons .k (.cons .k (.cons .k (.cons .k (.cons .k (.cons .k (.cons .k (.cons .k (.cons .k (.cons .k (.cons .k (.cons .k (.cons .k (.cons .k (.cons .k (.cons .k (.cons .k (.cons .k (.cons .k (.cons .k (.cons .k (.cons .k (.cons .k (.cons .k (.cons .k (.cons .k (.cons .k (.cons .k (.cons .k (.cons .k (.cons .k (.cons .k (.cons .k (.cons .k (.cons .k (.cons .k (.cons .k (.cons .k (.cons .k (.cons .k (.cons .k (.cons .k (.cons .k (.cons .k (.cons .k (.cons .k (.cons .k .nil)))))))))))))))))))))))))))))))))))))))))))))))))))))))))))))))) (bld_runA zeroValue72 runUnderlying72 sizeOf70 (by kernel_rfl))) rfl ?_
  refine .opg (G.str .t0 .g0 .k0 (.mk (cs' := (A64_u32.cs ⟨1116352408, 1899447441, 3049323471, 3921009573, 961987163, 1508970993, 2453635748, 2870763221, 3624381080, 310598401, 607225278, 1426881987, 1925078388, 2162078206, 2614888103, 3248222580, 3835390401, 4022224774, 264347078, 604807628, 770255983, 1249150122, 1555081692, 1996064986, 2554220882, 2821834349, 2952996808, 3210313671, 3336571891, 3584528711, 113926993, 338241895, 666307205, 773529912, 1294757372, 1396182291, 1695183700, 1986661051, 2177026350, 2456956037, 2730485921, 2820302411, 3259730800, 3345764771, 3516065817, 3600352804, 4094571909, 275423344, 430227734, 506948616, 659060556, 883997877, 958139571, 1322822218, 1537002063, 1747873779, 1955562222, 2024104815, 2227730452, 2361852424, 2428436474, 2756734187, 3204031479, 3329325298⟩)) sizeOf72 rfl rfl rfl rfl)) rfl fun _ _ => ?_
  refine .nil ?_
  refine .then ?_
  refine .ret ?_
  subst h
  exact .finw () (.r1 rfl (.cell .g0 .k0 (.agg isAgg72 sizeOf72 rfl rfl))) trivial (Ls.of .nil) .nil
attribute [irreducible] hash_keys
noncomputable def slices_Clone_byte (a0 : List UInt8) : Option ((List UInt8)) :=
  grd ((([] : List UInt8).length + a0.length) * 1 ≤ 140737488355328) <| some ((([] : List UInt8) ++ a0))
set_option maxRecDepth 20000 in
set_option maxHeartbeats 1000000 in
theorem S_slices_Clone_byte (v00 : Value) (a0 : List UInt8) (r : (List UInt8)) (h : slices_Clone_byte a0 = some r) :
    SpecF Try.prog 61 [v00] [] [rows 1 v00 (a0.map (fun x => [B8 x]))] (fun z : Value => True) (fun z => z) (fun z M => lst 5 1 z (r.map (fun x => [B8 x])) ::  M) (fun z M =>  M) := by
  refine .of func61 rfl ntmps61 rfl fun w0 D0 G0 => ?_
  unfold slices_Clone_byte at h
  refine .seq ?_
  refine .reg rfl ?_
  refine .op0 (OpP.toV (P.asg .k)) rfl ?_
  refine .nil ?_
  refine .then ?_
  refine .seq ?_
  refine .seq ?_
  refine .reg rfl ?_
  refine .opp (P.mov .g0) rfl ?_
  refine .opg (G.nilr (e := 5) .t0 Mm.m0 (by kernel_rfl) rfl) rfl fun n1 hz2 => ?_
  refine .nil ?_
  refine .then ?_
  refine .cond .t0 (fun c3 => ?_) (fun c3 => ?_)
  · have hx7 : a0 = [] := by simpa using hz2 c3
    replace h : some ([] : List UInt8) = some r := by rw [hx7] at h; simpa [grd] using h
    refine .seq ?_
    refine .reg rfl ?_
    refine .opp (P.asg .k) rfl ?_
    refine .nil ?_
    refine .then ?_
    refine .ret ?_
    refine .thr ?_
    cases h
    refine .lnil 5 1 ?_
    exact .finw nilSl (.r1 rfl (.tmp .g0)) trivial (Ls.of (.cons .k0 .nil)) .nil
  · refine .skip ?_
    refine .then ?_
    refine .seq ?_
    refine .reg rfl ?_
    refine .opg (G.bsl0 runUnderlying40 sizeOf5 rfl) rfl fun u4 _ => ?_
    refine .opp (P.mov .t1) rfl ?_
    obtain ⟨hb6, h⟩ := grd_eq h
    refine .opg (G.app (by_ := 1) .t1 .t0 .k0 (.inl Mm.m0) runUnderlying40 runUnderlying40 sizeOf5 typeInfo5 rfl rfl zeroValue5 rfl (one_map one_5 _) (by simpa using hb6) rfl) rfl fun u5 _ => ?_
    refine .conseq .k0 (q := lst 5 1 u5 ((([] : List UInt8) ++ a0).map (fun x => [B8 x]))) (fun _ hh => by simpa [List.map_append] using hh) ?_
    refine .opp (P.asg .t0) rfl ?_
    refine .nil ?_
    refine .then ?_
    refine .ret ?_
    cases h
    exact .finw u5 (.r1 rfl (.tmp .g0)) trivial (Ls.of (.cons .k0 .nil)) .nil
attribute [irreducible] slices_Clone_byte
noncomputable def hash_Pad (a0 : List UInt8) : Option ((List UInt8)) :=
  Option.bind (slices_Clone_byte a0) fun r1 => grd ((r1.length + ([128] : List UInt8).length) * 1 ≤ 140737488355328) <| Option.bind (loopW (fun (s7 : (List UInt8)) => if (decide ((Int.tmod (s7.length : Int) 64) ≠ 56)) = true then (grd ((s7.length + ([0] : List UInt8).length) * 1 ≤ 140737488355328) <| some (.nx ((s7 ++ ([0] : List UInt8))))) else (some (.br s7))) ((r1 ++ ([128] : List UInt8)))) fun o9 => Lo.on o9 fun (s7 : (List UInt8)) => Option.bind (blob_Num (IntKind.i64.wrap (8 * (a0.length : Int))) 8) fun r22 => grd ((s7.length + r22.length) * 1 ≤ 140737488355328) <| some (s7 ++ r22)
set_option maxRecDepth 20000 in
set_option maxHeartbeats 1000000 in
theorem S_hash_Pad (v00 : Value) (a0 : List UInt8) (r : (List UInt8)) (h : hash_Pad a0 = some r) :
    SpecF Try.prog 73 [v00] [] [rows 1 v00 (a0.map (fun x => [B8 x]))] (fun z : Value => True) (fun z => z) (fun z M => lst 5 1 z (r.map (fun x => [B8 x])) ::  M) (fun z M =>  M) := by
  refine .of func73 rfl ntmps73 rfl fun w0 D0 G0 => ?_
  unfold hash_Pad at h
  refine .seq ?_
  refine .reg rfl ?_
  refine .op0 (OpP.toV (P.asg .k)) rfl ?_
  refine .nil ?_
  refine .then ?_
  refine .seq ?_
  refine .reg rfl ?_
  refine .opp (P.mov .g0) rfl ?_
  obtain ⟨r1, hr2, h⟩ := bnd_eq h
  refine .opg (G.call call61 (.cons .t0 .nil) (S_slices_Clone_byte v00 a0 r1 hr2) .nil (.cons Mm.m0 .nil) (fun _ _ => rfl) (fun _ _ => rfl) rfl) rfl fun u3 _ => ?_
  refine .opg (G.bsl (cs := [B8 128]) .k runUnderlying40 sizeOf5 zeroValue5 rfl rfl rfl rfl rfl) rfl fun u4 _ => ?_
  obtain ⟨hb6, h⟩ := grd_eq h
  refine .opg (G.app (by_ := 1) .t1 .t0 .k1 (.inr (.inr ⟨_, Mm.m0⟩)) runUnderlying40 runUnderlying40 sizeOf5 typeInfo5 rfl rfl zeroValue5 rfl rfl (by simpa using hb6) rfl) rfl fun u5 _ => ?_
  refine .conseq .k0 (q := lst 5 1 u5 ((r1 ++ ([128] : List UInt8)).map (fun x => [B8 x]))) (fun _ hh => by simpa [List.map_append] using hh) ?_
  refine .opp (P.asg .t0) rfl ?_
  refine .nil ?_
  refine .then ?_
  refine .seq ?_
  refine .block ?_
  obtain ⟨o9, ho10, h⟩ := bnd_eq h
  refine .loopW (γ := Value) (fun (s7 : (List UInt8)) z8 => [(3, z8), (0, v00)]) (fun (s7 : (List UInt8)) z8 => [lst 5 1 z8 (s7.map (fun x => [B8 x]))]) (fun (s7 : (List UInt8)) z8 => [rows 1 v00 (a0.map (fun x => [B8 x]))]) u5 ho10 (.cons Mm.m0 (.cons Mm.m1 .nil)) (.of (.cons .k0 .nil)) (.cons Mm.m0 .nil) (fun n15 s7 z8 hr13 => ?_)
  obtain ⟨ct14, hc11, hn12⟩ := loopK_at hr13
  refine .seq ?_
  refine .seq ?_
  refine .reg rfl ?_
  refine .opp (P.mov .g0) rfl ?_
  refine .op (V.lnl (n := s7.length) .t0 .k0 map_len runUnderlying40) rfl ?_
  refine .opp (P.bin .t0 .k (.rem (by decide))) rfl ?_
  refine .opp (P.bin .t0 .k .neq) rfl ?_
  refine .nil ?_
  refine .then ?_
  refine .cond .t0 (fun c16 => ?_) (fun c16 => ?_)
  · rw [if_pos c16] at hc11
    refine .skip ?_
    refine .then ?_
    refine .block ?_
    refine .reg rfl ?_
    refine .opp (P.mov .g0) rfl ?_
    refine .opg (G.bsl (cs := [B8 0]) .k runUnderlying40 sizeOf5 zeroValue5 rfl rfl rfl rfl rfl) rfl fun u17 _ => ?_
    obtain ⟨hb19, hc11⟩ := grd_eq hc11
    refine .opg (G.app (by_ := 1) .t1 .t0 .k1 (.inr (.inr ⟨_, Mm.m0⟩)) runUnderlying40 runUnderlying40 sizeOf5 typeInfo5 rfl rfl zeroValue5 rfl rfl (by simpa using hb19) rfl) rfl fun u18 _ => ?_
    refine .conseq .k0 (q := lst 5 1 u18 ((s7 ++ ([0] : List UInt8)).map (fun x => [B8 x]))) (fun _ hh => by simpa [List.map_append] using hh) ?_
    refine .drop .k1 ?_
    refine .opp (P.asg .t0) rfl ?_
    refine .nil ?_
    refine .inn ?_
    cases hc11
    obtain ⟨m20, hm21, hn12⟩ := hn12
    exact .rdW ((s7 ++ ([0] : List UInt8))) u18 hm21 hn12 (.cons Mm.m0 (.cons Mm.m1 .nil)) (.of (.cons .k0 .nil)) (.cons Mm.m0 .nil)
  · rw [if_neg (ne_true_of_eq_false c16)] at hc11
    refine .exit ?_
    refine .thx ?_
    cases hc11
    refine .told (γ := Value) h hn12 (fun (s7 : (List UInt8)) z8 => [(3, z8), (0, v00)]) (fun (s7 : (List UInt8)) z8 => [lst 5 1 z8 (s7.map (fun x => [B8 x]))]) (fun (s7 : (List UInt8)) z8 => [rows 1 v00 (a0.map (fun x => [B8 x]))]) z8 (.cons Mm.m0 (.cons Mm.m1 .nil)) (.of (.cons .k0 .nil)) (.cons Mm.m0 .nil) (fun s7 z8 h' => ?_)
    replace h := h'
    refine .thx ?_
    refine .inb ?_
    refine .then ?_
    refine .seq ?_
    refine .reg rfl ?_
    refine .opp (P.mov .t0) rfl ?_
    refine .opp (P.mov .t1) rfl ?_
    refine .op (V.lnr (n := a0.length) .t0 Mm.m0 map_len runUnderlying40) rfl ?_
    refine .opp (P.bin .k .t0 .mul) rfl ?_
    obtain ⟨r22, hr23, h⟩ := bnd_eq h
    refine .opg (G.call call68 (.cons .t0 (.cons .k .nil)) (S_blob_Num (IntKind.i64.wrap (8 * (a0.length : Int))) 8 r22 hr23) .nil .nil (fun _ _ => rfl) (fun _ _ => rfl) rfl) rfl fun u24 _ => ?_
    obtain ⟨hb26, h⟩ := grd_eq h
    refine .opg (G.app (by_ := 1) .t1 .t0 .k1 (.inr (.inr ⟨_, Mm.m0⟩)) runUnderlying40 runUnderlying40 sizeOf5 typeInfo5 rfl rfl zeroValue5 rfl (one_map one_5 _) (by simpa using hb26) rfl) rfl fun u25 _ => ?_
    refine .conseq .k0 (q := lst 5 1 u25 ((s7 ++ r22).map (fun x => [B8 x]))) (fun _ hh => by simpa [List.map_append] using hh) ?_
    refine .opp (P.asg .t0) rfl ?_
    refine .nil ?_
    refine .then ?_
    refine .ret ?_
    cases h
    exact .finw u25 (.r1 rfl (.tmp .g0)) trivial (Ls.of (.cons .k0 .nil)) .nil
attribute [irreducible] hash_Pad
noncomputable def slices_Chunk_byte (a1 : Int) : Option (Unit) :=
  if (decide (a1 < 1)) = true then none else (some ())
set_option maxRecDepth 20000 in
set_option maxHeartbeats 1000000 in
theorem S_slices_Chunk_byte (v00 : Value) (hv00 : IsSl v00) (a1 : Int) (r : Unit) (h : slices_Chunk_byte a1 = some r) :
    SpecF Try.prog 60 [v00, N a1] [] [] (fun z : Nat × Nat => True) (fun z => fnv 76 [pt z.1 0, pt z.2 0]) (fun z M => blk z.1 40 [v00] :: blk z.2 3 [N a1] ::  M) (fun z M =>  M) := by
  refine .of func60 rfl ntmps60 rfl fun w0 D0 G0 => ?_
  unfold slices_Chunk_byte at h
  refine .seq ?_
  refine .reg rfl ?_
  refine .opx (X.box (cs := [v00]) .t0 hv00.cells) rfl fun b1 => ?_
  refine .opx (X.box (cs := [N a1]) .t1 rfl) rfl fun b2 => ?_
  refine .op0 (OpP.toV (P.asg .k)) rfl ?_
  refine .nil ?_
  refine .then ?_
  refine .seq ?_
  refine .seq ?_
  refine .reg rfl ?_
  refine .op (V.ld (v := N a1) .g0 .k0 (.one isAgg3 rfl)) rfl ?_
  refine .opp (P.bin .t0 .k .lss) rfl ?_
  refine .nil ?_
  refine .then ?_
  refine .cond .t0 (fun c3 => ?_) (fun c3 => ?_)
  · rw [if_pos c3] at h
    refine .reg rfl ?_
    cases h
  · rw [if_neg (ne_true_of_eq_false c3)] at h
    refine .skip ?_
    refine .then ?_
    refine .seq ?_
    refine .reg rfl ?_
    refine .opp (P.mkf (.cons .t1 (.cons .t0 .nil))) rfl ?_
    refine .opp (P.asg .t0) rfl ?_
    refine .nil ?_
    refine .then ?_
    refine .ret ?_
    cases h
    exact .finw ⟨b1, b2⟩ (.r1 rfl (.tmp .g0)) trivial (Ls.of (.cons .k1 (.cons .k0 .nil))) .nil
attribute [irreducible] slices_Chunk_byte
noncomputable def blob_Int (a0 : List UInt8) : Option (Int) :=
  grd (okS a0.length none (some (if 7 < (a0.length : Int) then 7 else (a0.length : Int))) none) <| Option.bind (loopR (fun (i5 : Nat) (e8 : UInt8) (s6 : Int) => some (.nx (borK .i64 (shlK .i64 s6 8) (e8.toNat : Int)))) 0 (slc a0 0 (if 7 < (a0.length : Int) then 7 else (a0.length : Int)).toNat) 0) fun o9 => Lo.on o9 fun (s6 : Int) => some s6
set_option maxRecDepth 20000 in
set_option maxHeartbeats 1000000 in
theorem S_blob_Int (v00 : Value) (a0 : List UInt8) (r : Int) (h : blob_Int a0 = some r) :
    SpecF Try.prog 81 [v00] [] [rows 1 v00 (a0.map (fun x => [B8 x]))] (fun z : Unit => True) (fun z => N r) (fun z M =>  M) (fun z M =>  M) := by
  refine .of func81 rfl ntmps81 rfl fun w0 D0 G0 => ?_
  unfold blob_Int at h
  refine .seq ?_
  refine .reg rfl ?_
  refine .op0 (OpP.toV (P.asg .k)) rfl ?_
  refine .nil ?_
  refine .then ?_
  refine .seq ?_
  refine .reg rfl ?_
  refine .opp (P.asg .k) rfl ?_
  refine .nil ?_
  refine .then ?_
  refine .seq ?_
  refine .seq ?_
  refine .reg rfl ?_
  refine .opp (P.mov .g1) rfl ?_
  refine .opp (P.mov .t2) rfl ?_
  refine .op (V.lnr (n := a0.length) .t0 Mm.m0 map_len runUnderlying40) rfl ?_
  refine .opp (P.min2 .t0 .k) rfl ?_
  obtain ⟨hb1, h⟩ := grd_eq h
  refine .capq Mm.m0 fun hc3 => ?_
  refine .opg (G.slr (li := none) (hj := (some (if 7 < (a0.length : Int) then 7 else (a0.length : Int)))) (mk := none) .t1 .none (.some .t0) .none Mm.m0 hc3 runUnderlying40 sizeOf5 (by simpa using hb1) rfl) rfl fun u2 hu4 => ?_
  refine .rhead (q := rows 1 u2 ((slc a0 0 (if 7 < (a0.length : Int) then 7 else (a0.length : Int)).toNat).map (fun x => [B8 x]))) (fun _ hh => by simpa [slc_map] using hh) ?_
  refine .op (V.lnr (n := (slc a0 0 (if 7 < (a0.length : Int) then 7 else (a0.length : Int)).toNat).length) .g0 Mm.m0 map_len runUnderlying40) rfl ?_
  refine .opp (P.mov .k) rfl ?_
  refine .nil ?_
  refine .then ?_
  refine .block ?_
  obtain ⟨o9, ho10, h⟩ := bnd_eq h
  refine .lenq Mm.m0 fun hl16 => ?_
  rw [map_len] at hl16
  refine .loopR (γ := Unit) (fun i5 (s6 : Int) z7 => [(12, N (i5 : Int)), (11, N ((slc a0 0 (if 7 < (a0.length : Int) then 7 else (a0.length : Int)).toNat).length : Int)), (10, u2), (3, N s6)]) (fun (s6 : Int) z7 => []) (fun (s6 : Int) z7 => [rows 1 u2 ((slc a0 0 (if 7 < (a0.length : Int) then 7 else (a0.length : Int)).toNat).map (fun x => [B8 x])), rows 1 v00 (a0.map (fun x => [B8 x]))]) () ho10 (.cons Mm.m0 (.cons Mm.m1 (.cons Mm.m2 (.cons Mm.m3 .nil)))) (.of .nil) (.cons Mm.m0 (.cons Mm.m1 .nil)) (fun i5 s6 z7 hi17 hr13 => ?_)
  refine .seq ?_
  refine .reg rfl ?_
  refine .opp (P.bin (v := Bo (decide ((i5 : Int) < ((slc a0 0 (if 7 < (a0.length : Int) then 7 else (a0.length : Int)).toNat).length : Nat)))) .g0 .g1 .lss) rfl ?_
  refine .nil ?_
  refine .then ?_
  refine .seq ?_
  refine .cond .t0 (fun c18 => ?_) (fun c18 => ?_)
  · obtain ⟨e8, hx15⟩ := get_of c18
    obtain ⟨ct14, hc11, hn12⟩ := loopR_at hx15 hr13
    refine .skip ?_
    refine .then ?_
    refine .seq ?_
    refine .block ?_
    refine .seq ?_
    refine .reg rfl ?_
    refine .ixq Mm.m0 (map_get hx15) fun p19 q20 hq21 => ?_
    refine .opp (P.ixi (i := i5) .g0 rfl .g2 hq21 runUnderlying40 sizeOf5) rfl ?_
    refine .op (V.ldx0 (u := B8 e8) .t0 hq21 Mm.m0 (map_get hx15) (.one isAgg5 rfl)) rfl ?_
    refine .opp (P.asg .t0) rfl ?_
    refine .nil ?_
    refine .then ?_
    refine .reg rfl ?_
    refine .opp (P.mov .g4) rfl ?_
    refine .opp (P.bin .t0 .k (.shl (by decide))) rfl ?_
    refine .opp (P.mov .t1) rfl ?_
    refine .opp (P.cnvIB8 (x := e8) .t0 runUnderlying5 runUnderlying3) rfl ?_
    refine .opp (P.bin .t1 .t0 .or) rfl ?_
    refine .drop .k4 ?_
    refine .opp (P.asg .t0) rfl ?_
    refine .nil ?_
    refine .inn ?_
    refine .then ?_
    refine .reg rfl ?_
    refine .opp (P.bin .g1 .k (.addc (inc_ok (lt_of_get hx15) hl16))) rfl ?_
    refine .drop .k2 ?_
    refine .opp (P.mov .t0) rfl ?_
    refine .nil ?_
    cases hc11
    exact .rdR (borK .i64 (shlK .i64 s6 8) (e8.toNat : Int)) () hn12 (lt_of_get hx15) (.cons Mm.m0 (.cons Mm.m2 (.cons Mm.m3 (.cons Mm.m1 .nil)))) (.of .nil) (.cons Mm.m0 (.cons Mm.m1 .nil))
  · obtain rfl := loopR_end (le_of_not c18) hr13
    have h := dn_on h
    refine .exit ?_
    refine .thx ?_
    refine .thx ?_
    refine .inb ?_
    refine .then ?_
    refine .seq ?_
    refine .reg rfl ?_
    refine .opp (P.mov .t3) rfl ?_
    refine .opp (P.asg .t0) rfl ?_
    refine .nil ?_
    refine .then ?_
    refine .ret ?_
    cases h
    exact .finw () (.r1 rfl (.tmp .g0)) trivial (Ls.of .nil) .nil
attribute [irreducible] blob_Int
noncomputable def bits_RotateLeft32 (a0 : UInt32) (a1 : Int) : UInt32 :=
  (lshW4 a0 (((Ui a1) &&& 31).toNat : Int)) ||| (rshW4 a0 ((32 - ((Ui a1) &&& 31)).toNat : Int))
set_option maxRecDepth 20000 in
set_option maxHeartbeats 1000000 in
theorem S_bits_RotateLeft32 (a0 : UInt32) (a1 : Int) (r : UInt32) (h : bits_RotateLeft32 a0 a1 = r) :
    SpecF Try.prog 91 [W4 a0, N a1] [] [] (fun z : Unit => True) (fun z => W4 r) (fun z M =>  M) (fun z M =>  M) := by
  refine .of func91 rfl ntmps91 rfl fun w0 D0 G0 => ?_
  unfold bits_RotateLeft32 at h
  refine .seq ?_
  refine .reg rfl ?_
  refine .op0 (OpP.toV (P.asg .k)) rfl ?_
  refine .nil ?_
  refine .then ?_
  refine .seq ?_
  refine .reg rfl ?_
  refine .opp (P.mov .t1) rfl ?_
  refine .opp (P.cnvU (m := a1) .t0 runUnderlying3 runUnderlying103) rfl ?_
  refine .opp (P.bin .t0 .k (BinV.andU (x := Ui a1) (y := 31))) rfl ?_
  refine .opp (P.asg .t0) rfl ?_
  refine .nil ?_
  refine .then ?_
  refine .seq ?_
  refine .reg rfl ?_
  refine .opp (P.mov .g1) rfl ?_
  refine .opp (P.mov .g1) rfl ?_
  refine .opp (P.bin .t1 .t0 (BinV.shlW4 (x := a0) (n := (((Ui a1) &&& 31).toNat : Int)) (Int.natCast_nonneg _))) rfl ?_
  refine .opp (P.mov .t2) rfl ?_
  refine .opp (P.mov .t2) rfl ?_
  refine .opp (P.bin .k .t0 (BinV.subU (x := 32) (y := (Ui a1) &&& 31))) rfl ?_
  refine .opp (P.bin .t1 .t0 (BinV.shrW4 (x := a0) (n := ((32 - ((Ui a1) &&& 31)).toNat : Int)) (Int.natCast_nonneg _))) rfl ?_
  refine .opp (P.bin .t1 .t0 (BinV.orW4 (x := lshW4 a0 (((Ui a1) &&& 31).toNat : Int)) (y := rshW4 a0 ((32 - ((Ui a1) &&& 31)).toNat : Int)))) rfl ?_
  refine .opp (P.asg .t0) rfl ?_
  refine .nil ?_
  refine .then ?_
  refine .ret ?_
  subst h
  exact .finw () (.r1 rfl (.tmp .g0)) trivial (Ls.of .nil) .nil
attribute [irreducible] bits_RotateLeft32
noncomputable def hash_rotr (a0 : UInt32) (a1 : Int) : UInt32 :=
  (bits_RotateLeft32 a0 (IntKind.i64.wrap (0 - a1)))
set_option maxRecDepth 20000 in
set_option maxHeartbeats 1000000 in
theorem S_hash_rotr (a0 : UInt32) (a1 : Int) (r : UInt32) (h : hash_rotr a0 a1 = r) :
    SpecF Try.prog 89 [W4 a0, N a1] [] [] (fun z : Unit => True) (fun z => W4 r) (fun z M =>  M) (fun z M =>  M) := by
  refine .of func89 rfl ntmps89 rfl fun w0 D0 G0 => ?_
  unfold hash_rotr at h
  refine .seq ?_
  refine .reg rfl ?_
  refine .op0 (OpP.toV (P.asg .k)) rfl ?_
  refine .nil ?_
  refine .then ?_
  refine .seq ?_
  refine .reg rfl ?_
  refine .opp (P.mov .t0) rfl ?_
  refine .opp (P.mov .t1) rfl ?_
  refine .opp (P.neg .t0) rfl ?_
  refine .opg (G.call call91 (.cons .t1 (.cons .t0 .nil)) (S_bits_RotateLeft32 a0 (IntKind.i64.wrap (0 - a1)) _ rfl) .nil .nil (fun _ _ => rfl) (fun _ _ => rfl) rfl) rfl fun _ _ => ?_
  refine .opp (P.asg .t0) rfl ?_
  refine .nil ?_
  refine .then ?_
  refine .ret ?_
  subst h
  exact .finw () (.r1 rfl (.tmp .g0)) trivial (Ls.of .nil) .nil
attribute [irreducible] hash_rotr
noncomputable def hash_three (a0 : UInt32) (a1 : Int) (a2 : Int) (a3 : Int) (a4 : Bool) : Option (UInt32) :=
  if a4 = true then (grd (0 ≤ a3) <| some (((hash_rotr a0 a1) ^^^ (hash_rotr a0 a2)) ^^^ (rshW4 a0 a3))) else (some (((hash_rotr a0 a1) ^^^ (hash_rotr a0 a2)) ^^^ (hash_rotr a0 a3)))
set_option maxRecDepth 20000 in
set_option maxHeartbeats 1000000 in
theorem S_hash_three (a0 : UInt32) (a1 : Int) (a2 : Int) (a3 : Int) (a4 : Bool) (r : UInt32) (h : hash_three a0 a1 a2 a3 a4 = some r) :
    SpecF Try.prog 85 [W4 a0, N a1, N a2, N a3, Bo a4] [] [] (fun z : Unit => True) (fun z => W4 r) (fun z M =>  M) (fun z M =>  M) := by
  refine .of func85 rfl ntmps85 rfl fun w0 D0 G0 => ?_
  unfold hash_three at h
  refine .seq ?_
  refine .reg rfl ?_
  refine .op0 (OpP.toV (P.asg .k)) rfl ?_
  refine .nil ?_
  refine .then ?_
  refine .seq ?_
  refine .seq ?_
  refine .reg rfl ?_
  refine .opp (P.mov .t4) rfl ?_
  refine .nil ?_
  refine .then ?_
  refine .cond .t0 (fun c1 => ?_) (fun c1 => ?_)
  · rw [if_pos c1] at h
    refine .seq ?_
    refine .draw 12 (.on 0 .pu (.on 1 .pu (.on 3 .pu (.on 4 .pu (.on 7 .pu (.on 8 .pu (.on 9 .pu (.on 2 .go (.on 5 .go (.on 6 .pu (.on 10 .pu (.on 11 .go .nl)))))))))))) follows_mixed (.thn (.thn .body)) (by kernel_rfl) ?_
    refine .dpu rfl (.n rfl) (P.mov .g0) rfl rfl ?_
    refine .dpu rfl (.n rfl) (P.mov .t2) rfl rfl ?_
    refine .dpu rfl (.n rfl) (P.mov .g2) rfl rfl ?_
    refine .dpu rfl (.n rfl) (P.mov .t4) rfl rfl ?_
    refine .dpu rfl (.n rfl) (P.mov .t4) rfl rfl ?_
    refine .dpu rfl (.n rfl) (P.mov .t5) rfl rfl ?_
    obtain ⟨hb2, h⟩ := grd_eq h
    refine .dpu rfl (.n rfl) (P.bin .t1 .t0 (BinV.shrW4 (x := a0) (n := a3) hb2)) rfl rfl ?_
    refine .dgo rfl (.n rfl) (G.call call89 (.cons .t4 (.cons .t3 .nil)) (S_hash_rotr a0 a1 _ rfl) .nil .nil (fun _ _ => rfl) (fun _ _ => rfl) rfl) (.inr fun _ _ _ h => h) fun _ _ => ?_
    refine .dgo rfl (.n rfl) (G.call call89 (.cons .t3 (.cons .t2 .nil)) (S_hash_rotr a0 a2 _ rfl) .nil .nil (fun _ _ => rfl) (fun _ _ => rfl) rfl) (.inr fun _ _ _ h => h) fun _ _ => ?_
    refine .dpu rfl (.n rfl) (P.bin .t1 .t0 (BinV.xorW4 (x := (hash_rotr a0 a1)) (y := (hash_rotr a0 a2)))) rfl rfl ?_
    refine .dpu rfl (.n rfl) (P.bin .t0 .t0 (BinV.xorW4 (x := (hash_rotr a0 a1) ^^^ (hash_rotr a0 a2)) (y := rshW4 a0 a3))) rfl rfl ?_
    refine .dgo rfl (.n rfl) (OpV.g (OpP.toV (P.asg .t0)) rfl) (.inr fun _ _ _ h => h) fun _ _ => ?_
    refine .dnil ?_
    refine .then ?_
    refine .ret ?_
    refine .thr ?_
    cases h
    exact .finw () (.r1 rfl (.tmp .g0)) trivial (Ls.of .nil) .nil
  · rw [if_neg (ne_true_of_eq_false c1)] at h
    refine .skip ?_
    refine .then ?_
    refine .seq ?_
    refine .reg rfl ?_
    refine .opp (P.mov .g0) rfl ?_
    refine .opp (P.mov .t2) rfl ?_
    refine .opg (G.call call89 (.cons .t1 (.cons .t0 .nil)) (S_hash_rotr a0 a1 _ rfl) .nil .nil (fun _ _ => rfl) (fun _ _ => rfl) rfl) rfl fun _ _ => ?_
    refine .opp (P.mov .g1) rfl ?_
    refine .opp (P.mov .t3) rfl ?_
    refine .opg (G.call call89 (.cons .t1 (.cons .t0 .nil)) (S_hash_rotr a0 a2 _ rfl) .nil .nil (fun _ _ => rfl) (fun _ _ => rfl) rfl) rfl fun _ _ => ?_
    refine .opp (P.bin .t1 .t0 (BinV.xorW4 (x := (hash_rotr a0 a1)) (y := (hash_rotr a0 a2)))) rfl ?_
    refine .opp (P.mov .t1) rfl ?_
    refine .opp (P.mov .t2) rfl ?_
    refine .opg (G.call call89 (.cons .t1 (.cons .t0 .nil)) (S_hash_rotr a0 a3 _ rfl) .nil .nil (fun _ _ => rfl) (fun _ _ => rfl) rfl) rfl fun _ _ => ?_
    refine .opp (P.bin .t1 .t0 (BinV.xorW4 (x := (hash_rotr a0 a1) ^^^ (hash_rotr a0 a2)) (y := (hash_rotr a0 a3)))) rfl ?_
    refine .opp (P.asg .t0) rfl ?_
    refine .nil ?_
    refine .then ?_
    refine .ret ?_
    cases h
    exact .finw () (.r1 rfl (.tmp .g0)) trivial (Ls.of .nil) .nil
attribute [irreducible] hash_three
noncomputable def hash_schedule (a0 : List UInt8) : Option (A64_u32) :=
  Option.bind (loopW (fun (s3 : Int × A64_u32) => if (decide (s3.1 < 16)) = true then (grd (okS a0.length (some (IntKind.i64.wrap (4 * s3.1))) (some (IntKind.i64.wrap ((IntKind.i64.wrap (4 * s3.1)) + 4))) none) <| Option.bind (blob_Int (slc a0 (IntKind.i64.wrap (4 * s3.1)).toNat (IntKind.i64.wrap ((IntKind.i64.wrap (4 * s3.1)) + 4)).toNat)) fun r17 => Option.bind (at_ (A64_u32.list s3.2) s3.1) fun (x19 : UInt32) => some (.nx ((IntKind.i64.wrap (s3.1 + 1), A64_u32.set s3.2 (s3.1).toNat (W4i r17))))) else (some (.br (s3.1, s3.2)))) (0, ⟨0, 0, 0, 0, 0, 0, 0, 0, 0, 0, 0, 0, 0, 0, 0, 0, 0, 0, 0, 0, 0, 0, 0, 0, 0, 0, 0, 0, 0, 0, 0, 0, 0, 0, 0, 0, 0, 0, 0, 0, 0, 0, 0, 0, 0, 0, 0, 0, 0, 0, 0, 0, 0, 0, 0, 0, 0, 0, 0, 0, 0, 0, 0, 0⟩)) fun o5 => Lo.on o5 fun (s3 : Int × A64_u32) => Option.bind (loopW (fun (s25 : Int × A64_u32) => if (decide (s25.1 < 64)) = true then (Option.bind (at_ (A64_u32.list s25.2) (IntKind.i64.wrap (s25.1 - 2))) fun (x35 : UInt32) => Option.bind (at_ (A64_u32.list s25.2) (IntKind.i64.wrap (s25.1 - 7))) fun (x39 : UInt32) => Option.bind (at_ (A64_u32.list s25.2) (IntKind.i64.wrap (s25.1 - 15))) fun (x43 : UInt32) => Option.bind (at_ (A64_u32.list s25.2) (IntKind.i64.wrap (s25.1 - 16))) fun (x47 : UInt32) => Option.bind (hash_three x35 17 19 10 true) fun r51 => Option.bind (hash_three x43 7 18 3 true) fun r53 => Option.bind (at_ (A64_u32.list s25.2) s25.1) fun (x55 : UInt32) => some (.nx ((IntKind.i64.wrap (s25.1 + 1), A64_u32.set s25.2 (s25.1).toNat (((r51 + x39) + r53) + x47))))) else (some (.br (s25.1, s25.2)))) (16, s3.2)) fun o27 => Lo.on o27 fun (s25 : Int × A64_u32) => some s25.2
set_option maxRecDepth 20000 in
set_option maxHeartbeats 1000000 in
theorem S_hash_schedule (v00 : Value) (a0 : List UInt8) (r : A64_u32) (h : hash_schedule a0 = some r) :
    SpecF Try.prog 74 [v00] [] [rows 1 v00 (a0.map (fun x => [B8 x]))] (fun z : Unit => True) (fun z => Ag (A64_u32.cs r)) (fun z M =>  M) (fun z M =>  M) := by
  refine .of func74 rfl ntmps74 rfl fun w0 D0 G0 => ?_
  unfold hash_schedule at h
  refine .seq ?_
  refine .reg rfl ?_
  refine .opx (X.alc (cs := (A64_u32.cs ⟨0, 0, 0, 0, 0, 0, 0, 0, 0, 0, 0, 0, 0, 0, 0, 0, 0, 0, 0, 0, 0, 0, 0, 0, 0, 0, 0, 0, 0, 0, 0, 0, 0, 0, 0, 0, 0, 0, 0, 0, 0, 0, 0, 0, 0, 0, 0, 0, 0, 0, 0, 0, 0, 0, 0, 0, 0, 0, 0, 0, 0, 0, 0, 0⟩)) zeroValue72 rfl) rfl fun b1 => ?_
  refine .nil ?_
  refine .then ?_
  refine .seq ?_
  refine .reg rfl ?_
  refine .opx (X.alc (cs := (A64_u32.cs ⟨0, 0, 0, 0, 0, 0, 0, 0, 0, 0, 0, 0, 0, 0, 0, 0, 0, 0, 0, 0, 0, 0, 0, 0, 0, 0, 0, 0, 0, 0, 0, 0, 0, 0, 0, 0, 0, 0, 0, 0, 0, 0, 0, 0, 0, 0, 0, 0, 0, 0, 0, 0, 0, 0, 0, 0, 0, 0, 0, 0, 0, 0, 0, 0⟩)) zeroValue72 rfl) rfl fun b2 => ?_
  refine .nil ?_
  refine .then ?_
  refine .seq ?_
  refine .seq ?_
  refine .reg rfl ?_
  refine .opp (P.mov .k) rfl ?_
  refine .nil ?_
  refine .then ?_
  refine .block ?_
  obtain ⟨o5, ho6, h⟩ := bnd_eq h
  refine .loopW (γ := Unit) (fun (s3 : Int × A64_u32) z4 => [(6, N s3.1), (3, pt b2 0), (2, pt b1 0), (0, v00)]) (fun (s3 : Int × A64_u32) z4 => [blk b2 72 (A64_u32.cs s3.2), blk b1 72 (A64_u32.cs ⟨0, 0, 0, 0, 0, 0, 0, 0, 0, 0, 0, 0, 0, 0, 0, 0, 0, 0, 0, 0, 0, 0, 0, 0, 0, 0, 0, 0, 0, 0, 0, 0, 0, 0, 0, 0, 0, 0, 0, 0, 0, 0, 0, 0, 0, 0, 0, 0, 0, 0, 0, 0, 0, 0, 0, 0, 0, 0, 0, 0, 0, 0, 0, 0⟩)]) (fun (s3 : Int × A64_u32) z4 => [rows 1 v00 (a0.map (fun x => [B8 x]))]) () ho6 (.cons Mm.m0 (.cons Mm.m1 (.cons Mm.m2 (.cons Mm.m3 .nil)))) (.of (.cons .k0 (.cons .k0 .nil))) (.cons Mm.m0 .nil) (fun n11 s3 z4 hr9 => ?_)
  obtain ⟨ct10, hc7, hn8⟩ := loopK_at hr9
  refine .seq ?_
  refine .reg rfl ?_
  refine .opp (P.bin .g0 .k .lss) rfl ?_
  refine .nil ?_
  refine .then ?_
  refine .seq ?_
  refine .cond .t0 (fun c12 => ?_) (fun c12 => ?_)
  · rw [if_pos c12] at hc7
    refine .skip ?_
    refine .then ?_
    refine .seq ?_
    refine .block ?_
    refine .seq ?_
    refine .reg rfl ?_
    refine .opp (P.mov .g0) rfl ?_
    refine .opp (P.asg .t0) rfl ?_
    refine .nil ?_
    refine .then ?_
    refine .reg rfl ?_
    refine .opp (P.mov .g0) rfl ?_
    refine .opp (P.mov .g5) rfl ?_
    refine .opp (P.mov .g2) rfl ?_
    refine .opp (P.bin .k .t0 .mul) rfl ?_
    refine .opp (P.mov .t3) rfl ?_
    refine .opp (P.bin .k .t0 .mul) rfl ?_
    refine .opp (P.bin .t0 .k .add) rfl ?_
    obtain ⟨hb13, hc7⟩ := grd_eq hc7
    refine .capq Mm.m0 fun hc15 => ?_
    refine .opg (G.slr (li := (some (IntKind.i64.wrap (4 * s3.1)))) (hj := (some (IntKind.i64.wrap ((IntKind.i64.wrap (4 * s3.1)) + 4)))) (mk := none) .t2 (.some .t1) (.some .t0) .none Mm.m0 hc15 runUnderlying40 sizeOf5 (by simpa using hb13) rfl) rfl fun u14 hu16 => ?_
    refine .rhead (q := rows 1 u14 ((slc a0 (IntKind.i64.wrap (4 * s3.1)).toNat (IntKind.i64.wrap ((IntKind.i64.wrap (4 * s3.1)) + 4)).toNat).map (fun x => [B8 x]))) (fun _ hh => by simpa [slc_map] using hh) ?_
    obtain ⟨r17, hr18, hc7⟩ := bnd_eq hc7
    refine .opg (G.call call81 (.cons .t0 .nil) (S_blob_Int u14 (slc a0 (IntKind.i64.wrap (4 * s3.1)).toNat (IntKind.i64.wrap ((IntKind.i64.wrap (4 * s3.1)) + 4)).toNat) r17 hr18) .nil (.cons Mm.m0 .nil) (fun _ _ => rfl) (fun _ _ => rfl) rfl) rfl fun _ _ => ?_
    refine .opp (P.cnvW4 (m := r17) .t0 runUnderlying3 runUnderlying70) rfl ?_
    obtain ⟨x19, hx20, hc7⟩ := bnd_eq hc7
    obtain ⟨i21, hi22, hx20⟩ := at_eq hx20
    have hi22_ : (s3.1).toNat = i21 := by rw [hi22]; rfl
    refine .opp (P.iad (i := i21) (off' := (0 + i21 * 1)) .t1 hi22 .g2 runUnderlying72 sizeOf70 (lt_of_get hx20) rfl) rfl ?_
    refine .opg (G.str (cs' := (A64_u32.cs (A64_u32.set s3.2 i21 (W4i r17)))) .t1 .t0 .k0 (by rcases i21 with _ | _ | _ | _ | _ | _ | _ | _ | _ | _ | _ | _ | _ | _ | _ | _ | _ | _ | _ | _ | _ | _ | _ | _ | _ | _ | _ | _ | _ | _ | _ | _ | _ | _ | _ | _ | _ | _ | _ | _ | _ | _ | _ | _ | _ | _ | _ | _ | _ | _ | _ | _ | _ | _ | _ | _ | _ | _ | _ | _ | _ | _ | _ | _ | _ <;> first | (obtain rfl := Option.some.inj hx20; exact StV.mk sizeOf70 rfl rfl rfl rfl) | (cases hx20; done))) rfl fun _ _ => ?_
    refine .conseq .k0 (q := blk b2 72 (A64_u32.cs (A64_u32.set s3.2 (s3.1).toNat (W4i r17)))) (fun _ h_ => by rw [hi22_]; exact h_) ?_
    refine .nil ?_
    refine .inn ?_
    refine .then ?_
    refine .reg rfl ?_
    refine .opp (P.bin .g0 .k .add) rfl ?_
    refine .drop .k1 ?_
    refine .opp (P.mov .t0) rfl ?_
    refine .nil ?_
    cases hc7
    obtain ⟨m23, hm24, hn8⟩ := hn8
    exact .rdW ((IntKind.i64.wrap (s3.1 + 1), A64_u32.set s3.2 (s3.1).toNat (W4i r17))) () hm24 hn8 (.cons Mm.m0 (.cons Mm.m1 (.cons Mm.m2 (.cons Mm.m3 .nil)))) (.of (.cons .k0 (.cons .k0 .nil))) (.cons Mm.m1 .nil)
  · rw [if_neg (ne_true_of_eq_false c12)] at hc7
    refine .exit ?_
    refine .thx ?_
    cases hc7
    refine .told (γ := Unit) h hn8 (fun (s3 : Int × A64_u32) _ => [(6, N s3.1), (3, pt b2 0), (2, pt b1 0), (0, v00)]) (fun (s3 : Int × A64_u32) _ => [blk b2 72 (A64_u32.cs s3.2), blk b1 72 (A64_u32.cs ⟨0, 0, 0, 0, 0, 0, 0, 0, 0, 0, 0, 0, 0, 0, 0, 0, 0, 0, 0, 0, 0, 0, 0, 0, 0, 0, 0, 0, 0, 0, 0, 0, 0, 0, 0, 0, 0, 0, 0, 0, 0, 0, 0, 0, 0, 0, 0, 0, 0, 0, 0, 0, 0, 0, 0, 0, 0, 0, 0, 0, 0, 0, 0, 0⟩)]) (fun (s3 : Int × A64_u32) _ => [rows 1 v00 (a0.map (fun x => [B8 x]))]) () (.cons Mm.m0 (.cons Mm.m1 (.cons Mm.m2 (.cons Mm.m3 .nil)))) (.of (.cons .k0 (.cons .k0 .nil))) (.cons Mm.m0 .nil) (fun s3 _ h' => ?_)
    replace h := h'
    refine .thx ?_
    refine .inb ?_
    refine .then ?_
    refine .seq ?_
    refine .seq ?_
    refine .reg rfl ?_
    refine .opp (P.asg .k) rfl ?_
    refine .nil ?_
    refine .then ?_
    refine .block ?_
    obtain ⟨o27, ho28, h⟩ := bnd_eq h
    refine .loopW (γ := Unit) (fun (s25 : Int × A64_u32) z26 => [(5, N s25.1), (3, pt b2 0), (2, pt b1 0)]) (fun (s25 : Int × A64_u32) z26 => [blk b2 72 (A64_u32.cs s25.2), blk b1 72 (A64_u32.cs ⟨0, 0, 0, 0, 0, 0, 0, 0, 0, 0, 0, 0, 0, 0, 0, 0, 0, 0, 0, 0, 0, 0, 0, 0, 0, 0, 0, 0, 0, 0, 0, 0, 0, 0, 0, 0, 0, 0, 0, 0, 0, 0, 0, 0, 0, 0, 0, 0, 0, 0, 0, 0, 0, 0, 0, 0, 0, 0, 0, 0, 0, 0, 0, 0⟩)]) (fun (s25 : Int × A64_u32) z26 => [rows 1 v00 (a0.map (fun x => [B8 x]))]) () ho28 (.cons Mm.m0 (.cons Mm.m2 (.cons Mm.m3 .nil))) (.of (.cons .k0 (.cons .k0 .nil))) (.cons Mm.m0 .nil) (fun n33 s25 z26 hr31 => ?_)
    obtain ⟨ct32, hc29, hn30⟩ := loopK_at hr31
    refine .seq ?_
    refine .seq ?_
    refine .reg rfl ?_
    refine .opp (P.mov .g0) rfl ?_
    refine .opp (P.bin .t0 .k .lss) rfl ?_
    refine .nil ?_
    refine .then ?_
    refine .cond .t0 (fun c34 => ?_) (fun c34 => ?_)
    · rw [if_pos c34] at hc29
      refine .skip ?_
      refine .then ?_
      refine .seq ?_
      refine .block ?_
      refine .draw 23 (.on 0 .pu (.on 1 .pu (.on 2 .pu (.on 3 .pu (.on 6 .pu (.on 7 .pu (.on 8 .pu (.on 11 .pu (.on 12 .pu (.on 13 .pu (.on 17 .pu (.on 18 .pu (.on 19 .pu (.on 4 .ld (.on 9 .ld (.on 14 .ld (.on 20 .ld (.on 5 .go (.on 10 .pu (.on 15 .go (.on 16 .pu (.on 21 .pu (.on 22 .pu (.on 23 .go .nl)))))))))))))))))))))))) follows_mixed (.inb (.thn (.thn (.inb (.thn .body))))) (by kernel_rfl) ?_
      refine .dpu rfl (.n rfl) (P.mov .g0) rfl rfl ?_
      refine .dpu rfl (.n rfl) (P.mov .g1) rfl rfl ?_
      refine .dpu rfl (.n rfl) (P.bin .t0 .k .sub) rfl rfl ?_
      obtain ⟨x35, hx36, hc29⟩ := bnd_eq hc29
      obtain ⟨i37, hi38, hx36⟩ := at_eq hx36
      have hi38_ : (IntKind.i64.wrap (s25.1 - 2)).toNat = i37 := by rw [hi38]; rfl
      refine .dpu rfl (.n rfl) (P.iad (i := i37) (off' := (0 + i37 * 1)) .t0 hi38 .g2 runUnderlying72 sizeOf70 (lt_of_get hx36) rfl) rfl rfl ?_
      refine .dpu rfl (.n rfl) (P.mov .g2) rfl rfl ?_
      refine .dpu rfl (.n rfl) (P.bin .t0 .k .sub) rfl rfl ?_
      obtain ⟨x39, hx40, hc29⟩ := bnd_eq hc29
      obtain ⟨i41, hi42, hx40⟩ := at_eq hx40
      have hi42_ : (IntKind.i64.wrap (s25.1 - 7)).toNat = i41 := by rw [hi42]; rfl
      refine .dpu rfl (.n rfl) (P.iad (i := i41) (off' := (0 + i41 * 1)) .t0 hi42 .g3 runUnderlying72 sizeOf70 (lt_of_get hx40) rfl) rfl rfl ?_
      refine .dpu rfl (.n rfl) (P.mov .g3) rfl rfl ?_
      refine .dpu rfl (.n rfl) (P.bin .t0 .k .sub) rfl rfl ?_
      obtain ⟨x43, hx44, hc29⟩ := bnd_eq hc29
      obtain ⟨i45, hi46, hx44⟩ := at_eq hx44
      have hi46_ : (IntKind.i64.wrap (s25.1 - 15)).toNat = i45 := by rw [hi46]; rfl
      refine .dpu rfl (.n rfl) (P.iad (i := i45) (off' := (0 + i45 * 1)) .t0 hi46 .g4 runUnderlying72 sizeOf70 (lt_of_get hx44) rfl) rfl rfl ?_
      refine .dpu rfl (.n rfl) (P.mov .g4) rfl rfl ?_
      refine .dpu rfl (.n rfl) (P.bin .t0 .k .sub) rfl rfl ?_
      obtain ⟨x47, hx48, hc29⟩ := bnd_eq hc29
      obtain ⟨i49, hi50, hx48⟩ := at_eq hx48
      have hi50_ : (IntKind.i64.wrap (s25.1 - 16)).toNat = i49 := by rw [hi50]; rfl
      refine .dpu rfl (.n rfl) (P.iad (i := i49) (off' := (0 + i49 * 1)) .t0 hi50 .g5 runUnderlying72 sizeOf70 (lt_of_get hx48) rfl) rfl rfl ?_
      refine .dld rfl (.n rfl) (V.ld (v := W4 x35) .t3 .k0 (by rcases i37 with _ | _ | _ | _ | _ | _ | _ | _ | _ | _ | _ | _ | _ | _ | _ | _ | _ | _ | _ | _ | _ | _ | _ | _ | _ | _ | _ | _ | _ | _ | _ | _ | _ | _ | _ | _ | _ | _ | _ | _ | _ | _ | _ | _ | _ | _ | _ | _ | _ | _ | _ | _ | _ | _ | _ | _ | _ | _ | _ | _ | _ | _ | _ | _ | _ <;> first | (obtain rfl := Option.some.inj hx36; exact LdV.one isAgg70 rfl) | (cases hx36; done))) (fun _ h => h) rfl rfl ?_
      refine .dld rfl (.n rfl) (V.ld (v := W4 x39) .t3 .k0 (by rcases i41 with _ | _ | _ | _ | _ | _ | _ | _ | _ | _ | _ | _ | _ | _ | _ | _ | _ | _ | _ | _ | _ | _ | _ | _ | _ | _ | _ | _ | _ | _ | _ | _ | _ | _ | _ | _ | _ | _ | _ | _ | _ | _ | _ | _ | _ | _ | _ | _ | _ | _ | _ | _ | _ | _ | _ | _ | _ | _ | _ | _ | _ | _ | _ | _ | _ <;> first | (obtain rfl := Option.some.inj hx40; exact LdV.one isAgg70 rfl) | (cases hx40; done))) (fun _ h => h) rfl rfl ?_
      refine .dld rfl (.n rfl) (V.ld (v := W4 x43) .t3 .k0 (by rcases i45 with _ | _ | _ | _ | _ | _ | _ | _ | _ | _ | _ | _ | _ | _ | _ | _ | _ | _ | _ | _ | _ | _ | _ | _ | _ | _ | _ | _ | _ | _ | _ | _ | _ | _ | _ | _ | _ | _ | _ | _ | _ | _ | _ | _ | _ | _ | _ | _ | _ | _ | _ | _ | _ | _ | _ | _ | _ | _ | _ | _ | _ | _ | _ | _ | _ <;> first | (obtain rfl := Option.some.inj hx44; exact LdV.one isAgg70 rfl) | (cases hx44; done))) (fun _ h => h) rfl rfl ?_
      refine .dld rfl (.n rfl) (V.ld (v := W4 x47) .t3 .k0 (by rcases i49 with _ | _ | _ | _ | _ | _ | _ | _ | _ | _ | _ | _ | _ | _ | _ | _ | _ | _ | _ | _ | _ | _ | _ | _ | _ | _ | _ | _ | _ | _ | _ | _ | _ | _ | _ | _ | _ | _ | _ | _ | _ | _ | _ | _ | _ | _ | _ | _ | _ | _ | _ | _ | _ | _ | _ | _ | _ | _ | _ | _ | _ | _ | _ | _ | _ <;> first | (obtain rfl := Option.some.inj hx48; exact LdV.one isAgg70 rfl) | (cases hx48; done))) (fun _ h => h) rfl rfl ?_
      obtain ⟨r51, hr52, hc29⟩ := bnd_eq hc29
      refine .dgo rfl (.n rfl) (G.call call85 (.cons .t3 (.cons .k (.cons .k (.cons .k (.cons .k .nil))))) (S_hash_three x35 17 19 10 true r51 hr52) .nil .nil (fun _ _ => rfl) (fun _ _ => rfl) rfl) (.inr fun _ _ _ h => h) fun _ _ => ?_
      refine .dpu rfl (.n rfl) (P.bin .t0 .t2 (BinV.addW4 (x := r51) (y := x39))) rfl rfl ?_
      obtain ⟨r53, hr54, hc29⟩ := bnd_eq hc29
      refine .dgo rfl (.n rfl) (G.call call85 (.cons .t2 (.cons .k (.cons .k (.cons .k (.cons .k .nil))))) (S_hash_three x43 7 18 3 true r53 hr54) .nil .nil (fun _ _ => rfl) (fun _ _ => rfl) rfl) (.inr fun _ _ _ h => h) fun _ _ => ?_
      refine .dpu rfl (.n rfl) (P.bin .t1 .t0 (BinV.addW4 (x := r51 + x39) (y := r53))) rfl rfl ?_
      refine .dpu rfl (.n rfl) (P.bin .t0 .t0 (BinV.addW4 (x := (r51 + x39) + r53) (y := x47))) rfl rfl ?_
      obtain ⟨x55, hx56, hc29⟩ := bnd_eq hc29
      obtain ⟨i57, hi58, hx56⟩ := at_eq hx56
      have hi58_ : (s25.1).toNat = i57 := by rw [hi58]; rfl
      refine .dpu rfl (.n rfl) (P.iad (i := i57) (off' := (0 + i57 * 1)) .t1 hi58 .g2 runUnderlying72 sizeOf70 (lt_of_get hx56) rfl) rfl rfl ?_
      refine .dgo rfl (.n rfl) (G.str (cs' := (A64_u32.cs (A64_u32.set s25.2 i57 (((r51 + x39) + r53) + x47)))) .t1 .t0 .k0 (by rcases i57 with _ | _ | _ | _ | _ | _ | _ | _ | _ | _ | _ | _ | _ | _ | _ | _ | _ | _ | _ | _ | _ | _ | _ | _ | _ | _ | _ | _ | _ | _ | _ | _ | _ | _ | _ | _ | _ | _ | _ | _ | _ | _ | _ | _ | _ | _ | _ | _ | _ | _ | _ | _ | _ | _ | _ | _ | _ | _ | _ | _ | _ | _ | _ | _ | _ <;> first | (obtain rfl := Option.some.inj hx56; exact StV.mk sizeOf70 rfl rfl rfl rfl) | (cases hx56; done))) (.inl rfl) fun _ _ => ?_
      refine .conseq .k0 (q := blk b2 72 (A64_u32.cs (A64_u32.set s25.2 (s25.1).toNat (((r51 + x39) + r53) + x47)))) (fun _ h_ => by rw [hi58_]; exact h_) ?_
      refine .dnil ?_
      refine .inn ?_
      refine .then ?_
      refine .reg rfl ?_
      refine .opp (P.mov .g0) rfl ?_
      refine .opp (P.bin .t0 .k .add) rfl ?_
      refine .drop .k1 ?_
      refine .opp (P.asg .t0) rfl ?_
      refine .nil ?_
      cases hc29
      obtain ⟨m59, hm60, hn30⟩ := hn30
      exact .rdW ((IntKind.i64.wrap (s25.1 + 1), A64_u32.set s25.2 (s25.1).toNat (((r51 + x39) + r53) + x47))) () hm60 hn30 (.cons Mm.m0 (.cons Mm.m1 (.cons Mm.m2 .nil))) (.of (.cons .k0 (.cons .k0 .nil))) (.cons Mm.m0 .nil)
    · rw [if_neg (ne_true_of_eq_false c34)] at hc29
      refine .exit ?_
      refine .thx ?_
      cases hc29
      refine .told (γ := Unit) h hn30 (fun (s25 : Int × A64_u32) _ => [(5, N s25.1), (3, pt b2 0), (2, pt b1 0)]) (fun (s25 : Int × A64_u32) _ => [blk b2 72 (A64_u32.cs s25.2), blk b1 72 (A64_u32.cs ⟨0, 0, 0, 0, 0, 0, 0, 0, 0, 0, 0, 0, 0, 0, 0, 0, 0, 0, 0, 0, 0, 0, 0, 0, 0, 0, 0, 0, 0, 0, 0, 0, 0, 0, 0, 0, 0, 0, 0, 0, 0, 0, 0, 0, 0, 0, 0, 0, 0, 0, 0, 0, 0, 0, 0, 0, 0, 0, 0, 0, 0, 0, 0, 0⟩)]) (fun (s25 : Int × A64_u32) _ => [rows 1 v00 (a0.map (fun x => [B8 x]))]) () (.cons Mm.m0 (.cons Mm.m1 (.cons Mm.m2 .nil))) (.of (.cons .k0 (.cons .k0 .nil))) (.cons Mm.m0 .nil) (fun s25 _ h' => ?_)
      replace h := h'
      refine .thx ?_
      refine .inb ?_
      refine .then ?_
      refine .seq ?_
      refine .reg rfl ?_
      refine .op (V.ld (v := Ag (A64_u32.cs s25.2)) .t1 .k0 (.agg isAgg72 sizeOf72 rfl rfl)) rfl ?_
      refine .opg (G.str .t0 .g1 .k1 (.mk (cs' := (A64_u32.cs s25.2)) sizeOf72 rfl rfl rfl rfl)) rfl fun _ _ => ?_
      refine .nil ?_
      refine .then ?_
      refine .ret ?_
      cases h
      exact .finw () (.r1 rfl (.cell .g1 .k0 (.agg isAgg72 sizeOf72 rfl rfl))) trivial (Ls.of .nil) .nil
attribute [irreducible] hash_schedule
noncomputable def hash_eight_round (a0 : hash_eight) (a1 : UInt32) : Option (hash_eight) :=
  Option.bind (hash_three a0.a4 6 11 25 false) fun r3 => Option.bind (hash_three a0.a0 2 13 22 false) fun r5 => some ⟨(((a0.a7 + r3) + ((a0.a4 &&& a0.a5) ^^^ ((4294967295 ^^^ a0.a4) &&& a0.a6))) + a1) + (r5 + (((a0.a0 &&& a0.a1) ^^^ (a0.a0 &&& a0.a2)) ^^^ (a0.a1 &&& a0.a2))), a0.a0, a0.a1, a0.a2, a0.a3 + (((a0.a7 + r3) + ((a0.a4 &&& a0.a5) ^^^ ((4294967295 ^^^ a0.a4) &&& a0.a6))) + a1), a0.a4, a0.a5, a0.a6⟩
set_option maxRecDepth 20000 in
set_option maxHeartbeats 1000000 in
theorem S_hash_eight_round (a0 : hash_eight) (a1 : UInt32) (r : hash_eight) (h : hash_eight_round a0 a1 = some r) :
    SpecF Try.prog 75 [Ag (hash_eight.cs a0), W4 a1] [] [] (fun z : Unit => True) (fun z => Ag (hash_eight.cs r)) (fun z M =>  M) (fun z M =>  M) := by
  refine .of func75 rfl ntmps75 rfl fun w0 D0 G0 => ?_
  unfold hash_eight_round at h
  refine .seq ?_
  refine .reg rfl ?_
  refine .opx (X.box (cs := (hash_eight.cs a0)) .t0 rfl) rfl fun b1 => ?_
  refine .opx (X.alc (cs := (hash_eight.cs ⟨0, 0, 0, 0, 0, 0, 0, 0⟩)) zeroValue116 rfl) rfl fun b2 => ?_
  refine .nil ?_
  refine .then ?_
  refine .seq ?_
  refine .reg rfl ?_
  refine .opp (P.iac (i := 4) .k rfl .g1 runUnderlying116 sizeOf70 rfl rfl) rfl ?_
  refine .op (V.ld (v := W4 a0.a4) .t0 .k1 (.one isAgg70 rfl)) rfl ?_
  refine .opp (P.asg .t0) rfl ?_
  refine .nil ?_
  refine .then ?_
  refine .seq ?_
  refine .draw 19 (.on 0 .pu (.on 2 .pu (.on 5 .pu (.on 6 .pu (.on 9 .pu (.on 10 .pu (.on 11 .pu (.on 16 .pu (.on 1 .ld (.on 7 .ld (.on 8 .pu (.on 12 .ld (.on 13 .pu (.on 14 .pu (.on 3 .go (.on 4 .pu (.on 15 .pu (.on 17 .pu (.on 18 .go .nl))))))))))))))))))) follows_mixed (.thn .body) (by kernel_rfl) ?_
  refine .dpu rfl (.n rfl) (P.iac (i := 7) .k rfl .g2 runUnderlying116 sizeOf70 rfl rfl) rfl rfl ?_
  refine .dpu rfl (.n rfl) (P.mov .g1) rfl rfl ?_
  refine .dpu rfl (.n rfl) (P.mov .g2) rfl rfl ?_
  refine .dpu rfl (.n rfl) (P.iac (i := 5) .k rfl .g5 runUnderlying116 sizeOf70 rfl rfl) rfl rfl ?_
  refine .dpu rfl (.n rfl) (P.mov .t4) rfl rfl ?_
  refine .dpu rfl (.n rfl) (P.xorW4 .t0) rfl rfl ?_
  refine .dpu rfl (.n rfl) (P.iac (i := 6) .k rfl .g6 runUnderlying116 sizeOf70 rfl rfl) rfl rfl ?_
  refine .dpu rfl (.n rfl) (P.mov .t8) rfl rfl ?_
  refine .dld rfl (.n rfl) (V.ld (v := W4 a0.a7) .t6 .k1 (.one isAgg70 rfl)) (fun _ h => h) rfl rfl ?_
  refine .dld rfl (.n rfl) (V.ld (v := W4 a0.a5) .t4 .k1 (.one isAgg70 rfl)) (fun _ h => h) rfl rfl ?_
  refine .dpu rfl (.n rfl) (P.bin .t5 .t0 (BinV.andW4 (x := a0.a4) (y := a0.a5))) rfl rfl ?_
  refine .dld rfl (.n rfl) (V.ld (v := W4 a0.a6) .t3 .k1 (.one isAgg70 rfl)) (fun _ h => h) rfl rfl ?_
  refine .dpu rfl (.n rfl) (P.bin .t4 .t0 (BinV.andW4 (x := 4294967295 ^^^ a0.a4) (y := a0.a6))) rfl rfl ?_
  refine .dpu rfl (.n rfl) (P.bin .t1 .t0 (BinV.xorW4 (x := a0.a4 &&& a0.a5) (y := (4294967295 ^^^ a0.a4) &&& a0.a6))) rfl rfl ?_
  obtain ⟨r3, hr4, h⟩ := bnd_eq h
  refine .dgo rfl (.n rfl) (G.call call85 (.cons .t3 (.cons .k (.cons .k (.cons .k (.cons .k .nil))))) (S_hash_three a0.a4 6 11 25 false r3 hr4) .nil .nil (fun _ _ => rfl) (fun _ _ => rfl) rfl) (.inr fun _ _ _ h => h) fun _ _ => ?_
  refine .dpu rfl (.n rfl) (P.bin .t2 .t0 (BinV.addW4 (x := a0.a7) (y := r3))) rfl rfl ?_
  refine .dpu rfl (.n rfl) (P.bin .t0 .t0 (BinV.addW4 (x := a0.a7 + r3) (y := (a0.a4 &&& a0.a5) ^^^ ((4294967295 ^^^ a0.a4) &&& a0.a6)))) rfl rfl ?_
  refine .dpu rfl (.n rfl) (P.bin .t0 .t0 (BinV.addW4 (x := (a0.a7 + r3) + ((a0.a4 &&& a0.a5) ^^^ ((4294967295 ^^^ a0.a4) &&& a0.a6))) (y := a1))) rfl rfl ?_
  refine .dgo rfl (.n rfl) (OpV.g (OpP.toV (P.asg .t0)) rfl) (.inr fun _ _ _ h => h) fun _ _ => ?_
  refine .dnil ?_
  refine .then ?_
  refine .seq ?_
  refine .draw 22 (.on 0 .pu (.on 3 .pu (.on 5 .pu (.on 8 .pu (.on 10 .pu (.on 14 .pu (.on 16 .pu (.on 1 .ld (.on 4 .ld (.on 6 .ld (.on 7 .pu (.on 9 .ld (.on 11 .ld (.on 12 .pu (.on 13 .pu (.on 15 .ld (.on 17 .ld (.on 18 .pu (.on 19 .pu (.on 2 .go (.on 20 .pu (.on 21 .go .nl)))))))))))))))))))))) follows_mixed (.thn .body) (by kernel_rfl) ?_
  refine .dpu rfl (.n rfl) (P.iac (i := 0) .k rfl .g2 runUnderlying116 sizeOf70 rfl rfl) rfl rfl ?_
  refine .dpu rfl (.n rfl) (P.iac (i := 0) .k rfl .g3 runUnderlying116 sizeOf70 rfl rfl) rfl rfl ?_
  refine .dpu rfl (.n rfl) (P.iac (i := 1) .k rfl .g4 runUnderlying116 sizeOf70 rfl rfl) rfl rfl ?_
  refine .dpu rfl (.n rfl) (P.iac (i := 0) .k rfl .g5 runUnderlying116 sizeOf70 rfl rfl) rfl rfl ?_
  refine .dpu rfl (.n rfl) (P.iac (i := 2) .k rfl .g6 runUnderlying116 sizeOf70 rfl rfl) rfl rfl ?_
  refine .dpu rfl (.n rfl) (P.iac (i := 1) .k rfl .g7 runUnderlying116 sizeOf70 rfl rfl) rfl rfl ?_
  refine .dpu rfl (.n rfl) (P.iac (i := 2) .k rfl .g8 runUnderlying116 sizeOf70 rfl rfl) rfl rfl ?_
  refine .dld rfl (.n rfl) (V.ld (v := W4 a0.a0) .t6 .k1 (.one isAgg70 rfl)) (fun _ h => h) rfl rfl ?_
  refine .dld rfl (.n rfl) (V.ld (v := W4 a0.a0) .t6 .k1 (.one isAgg70 rfl)) (fun _ h => h) rfl rfl ?_
  refine .dld rfl (.n rfl) (V.ld (v := W4 a0.a1) .t6 .k1 (.one isAgg70 rfl)) (fun _ h => h) rfl rfl ?_
  refine .dpu rfl (.n rfl) (P.bin .t1 .t0 (BinV.andW4 (x := a0.a0) (y := a0.a1))) rfl rfl ?_
  refine .dld rfl (.n rfl) (V.ld (v := W4 a0.a0) .t5 .k1 (.one isAgg70 rfl)) (fun _ h => h) rfl rfl ?_
  refine .dld rfl (.n rfl) (V.ld (v := W4 a0.a2) .t5 .k1 (.one isAgg70 rfl)) (fun _ h => h) rfl rfl ?_
  refine .dpu rfl (.n rfl) (P.bin .t1 .t0 (BinV.andW4 (x := a0.a0) (y := a0.a2))) rfl rfl ?_
  refine .dpu rfl (.n rfl) (P.bin .t1 .t0 (BinV.xorW4 (x := a0.a0 &&& a0.a1) (y := a0.a0 &&& a0.a2))) rfl rfl ?_
  refine .dld rfl (.n rfl) (V.ld (v := W4 a0.a1) .t3 .k1 (.one isAgg70 rfl)) (fun _ h => h) rfl rfl ?_
  refine .dld rfl (.n rfl) (V.ld (v := W4 a0.a2) .t3 .k1 (.one isAgg70 rfl)) (fun _ h => h) rfl rfl ?_
  refine .dpu rfl (.n rfl) (P.bin .t1 .t0 (BinV.andW4 (x := a0.a1) (y := a0.a2))) rfl rfl ?_
  refine .dpu rfl (.n rfl) (P.bin .t1 .t0 (BinV.xorW4 (x := (a0.a0 &&& a0.a1) ^^^ (a0.a0 &&& a0.a2)) (y := a0.a1 &&& a0.a2))) rfl rfl ?_
  obtain ⟨r5, hr6, h⟩ := bnd_eq h
  refine .dgo rfl (.n rfl) (G.call call85 (.cons .t1 (.cons .k (.cons .k (.cons .k (.cons .k .nil))))) (S_hash_three a0.a0 2 13 22 false r5 hr6) .nil .nil (fun _ _ => rfl) (fun _ _ => rfl) rfl) (.inr fun _ _ _ h => h) fun _ _ => ?_
  refine .dpu rfl (.n rfl) (P.bin .t0 .t0 (BinV.addW4 (x := r5) (y := ((a0.a0 &&& a0.a1) ^^^ (a0.a0 &&& a0.a2)) ^^^ (a0.a1 &&& a0.a2)))) rfl rfl ?_
  refine .dgo rfl (.n rfl) (OpV.g (OpP.toV (P.asg .t0)) rfl) (.inr fun _ _ _ h => h) fun _ _ => ?_
  refine .dnil ?_
  refine .then ?_
  refine .seq ?_
  refine .reg rfl ?_
  refine .opp (P.mov .g1) rfl ?_
  refine .opp (P.mov .t1) rfl ?_
  refine .opp (P.bin .t1 .t0 (BinV.addW4 (x := ((a0.a7 + r3) + ((a0.a4 &&& a0.a5) ^^^ ((4294967295 ^^^ a0.a4) &&& a0.a6))) + a1) (y := r5 + (((a0.a0 &&& a0.a1) ^^^ (a0.a0 &&& a0.a2)) ^^^ (a0.a1 &&& a0.a2))))) rfl ?_
  refine .opp (P.iac (i := 0) .k rfl .g3 runUnderlying116 sizeOf70 rfl rfl) rfl ?_
  refine .op (V.ld (v := W4 a0.a0) .t0 .k1 (.one isAgg70 rfl)) rfl ?_
  refine .opp (P.iac (i := 1) .k rfl .g4 runUnderlying116 sizeOf70 rfl rfl) rfl ?_
  refine .op (V.ld (v := W4 a0.a1) .t0 .k1 (.one isAgg70 rfl)) rfl ?_
  refine .opp (P.iac (i := 2) .k rfl .g5 runUnderlying116 sizeOf70 rfl rfl) rfl ?_
  refine .op (V.ld (v := W4 a0.a2) .t0 .k1 (.one isAgg70 rfl)) rfl ?_
  refine .opp (P.iac (i := 3) .k rfl .g6 runUnderlying116 sizeOf70 rfl rfl) rfl ?_
  refine .op (V.ld (v := W4 a0.a3) .t0 .k1 (.one isAgg70 rfl)) rfl ?_
  refine .opp (P.mov .t5) rfl ?_
  refine .opp (P.bin .t1 .t0 (BinV.addW4 (x := a0.a3) (y := ((a0.a7 + r3) + ((a0.a4 &&& a0.a5) ^^^ ((4294967295 ^^^ a0.a4) &&& a0.a6))) + a1))) rfl ?_
  refine .opp (P.iac (i := 4) .k rfl .g6 runUnderlying116 sizeOf70 rfl rfl) rfl ?_
  refine .op (V.ld (v := W4 a0.a4) .t0 .k1 (.one isAgg70 rfl)) rfl ?_
  refine .opp (P.iac (i := 5) .k rfl .g7 runUnderlying116 sizeOf70 rfl rfl) rfl ?_
  refine .op (V.ld (v := W4 a0.a5) .t0 .k1 (.one isAgg70 rfl)) rfl ?_
  refine .opp (P.iac (i := 6) .k rfl .t8 runUnderlying116 sizeOf70 rfl rfl) rfl ?_
  refine .op (V.ld (v := W4 a0.a6) .t0 .k1 (.one isAgg70 rfl)) rfl ?_
  refine .opp (P.bld (v := Ag (hash_eight.cs ⟨(((a0.a7 + r3) + ((a0.a4 &&& a0.a5) ^^^ ((4294967295 ^^^ a0.a4) &&& a0.a6))) + a1) + (r5 + (((a0.a0 &&& a0.a1) ^^^ (a0.a0 &&& a0.a2)) ^^^ (a0.a1 &&& a0.a2))), a0.a0, a0.a1, a0.a2, a0.a3 + (((a0.a7 + r3) + ((a0.a4 &&& a0.a5) ^^^ ((4294967295 ^^^ a0.a4) &&& a0.a6))) + a1), a0.a4, a0.a5, a0.a6⟩)) (.cons .t7 (.cons .t6 (.cons .t5 (.cons .t4 (.cons .t3 (.cons .t2 (.cons .t1 (.cons .t0 .nil)))))))) (bld_runA zeroValue116 runUnderlying116 sizeOf70 (by kernel_rfl))) rfl ?_
  refine .opg (G.str .t0 .g0 .k0 (.mk (cs' := (hash_eight.cs ⟨(((a0.a7 + r3) + ((a0.a4 &&& a0.a5) ^^^ ((4294967295 ^^^ a0.a4) &&& a0.a6))) + a1) + (r5 + (((a0.a0 &&& a0.a1) ^^^ (a0.a0 &&& a0.a2)) ^^^ (a0.a1 &&& a0.a2))), a0.a0, a0.a1, a0.a2, a0.a3 + (((a0.a7 + r3) + ((a0.a4 &&& a0.a5) ^^^ ((4294967295 ^^^ a0.a4) &&& a0.a6))) + a1), a0.a4, a0.a5, a0.a6⟩)) sizeOf116 rfl rfl rfl rfl)) rfl fun _ _ => ?_
  refine .nil ?_
  refine .then ?_
  refine .ret ?_
  cases h
  exact .finw () (.r1 rfl (.cell .g0 .k0 (.agg isAgg116 sizeOf116 rfl rfl))) trivial (Ls.of .nil) .nil
attribute [irreducible] hash_eight_round
noncomputable def hash_Sum (a0 : List UInt8) : Option ((List UInt8)) :=
  Option.bind (hash_Pad a0) fun r3 => Option.bind (slices_Chunk_byte 64) fun r7 => Option.bind (loopW (fun (s17 : Int × hash_eight) => if (decide (s17.1 < (r3.length : Int))) = true then (grd (okS r3.length (some s17.1) none none) <| grd (okS r3.length (some s17.1) (some (IntKind.i64.wrap (s17.1 + (if ((slc r3 (s17.1).toNat r3.length).length : Int) < 64 then ((slc r3 (s17.1).toNat r3.length).length : Int) else 64)))) (some (IntKind.i64.wrap (s17.1 + (if ((slc r3 (s17.1).toNat r3.length).length : Int) < 64 then ((slc r3 (s17.1).toNat r3.length).length : Int) else 64))))) <| Option.bind (hash_schedule (slc r3 (s17.1).toNat (IntKind.i64.wrap (s17.1 + (if ((slc r3 (s17.1).toNat r3.length).length : Int) < 64 then ((slc r3 (s17.1).toNat r3.length).length : Int) else 64))).toNat)) fun r39 => Option.bind (loopW (fun (s43 : Int × hash_eight) => if (decide (s43.1 < 64)) = true then (Option.bind (at_ (A64_u32.list r39) s43.1) fun (x53 : UInt32) => Option.bind (at_ (A64_u32.list hash_keys) s43.1) fun (x57 : UInt32) => Option.bind (hash_eight_round s43.2 (x57 + x53)) fun r61 => some (.nx ((IntKind.i64.wrap (s43.1 + 1), r61)))) else (some (.br (s43.1, s43.2)))) (0, s17.2)) fun o45 => Lo.on o45 fun (s43 : Int × hash_eight) => some (.nx ((IntKind.i64.wrap (s17.1 + 64), ⟨s17.2.a0 + s43.2.a0, s17.2.a1 + s43.2.a1, s17.2.a2 + s43.2.a2, s17.2.a3 + s43.2.a3, s17.2.a4 + s43.2.a4, s17.2.a5 + s43.2.a5, s17.2.a6 + s43.2.a6, s17.2.a7 + s43.2.a7⟩)))) else (some (.br (s17.1, s17.2)))) (0, hash_begin)) fun o19 => Lo.on o19 fun (s17 : Int × hash_eight) => Option.bind (blob_Num (s17.2.a0.toNat : Int) 4) fun r67 => grd ((([] : List UInt8).length + r67.length) * 1 ≤ 140737488355328) <| Option.bind (blob_Num (s17.2.a1.toNat : Int) 4) fun r72 => grd (((([] : List UInt8) ++ r67).length + r72.length) * 1 ≤ 140737488355328) <| Option.bind (blob_Num (s17.2.a2.toNat : Int) 4) fun r77 => grd ((((([] : List UInt8) ++ r67) ++ r72).length + r77.length) * 1 ≤ 140737488355328) <| Option.bind (blob_Num (s17.2.a3.toNat : Int) 4) fun r82 => grd (((((([] : List UInt8) ++ r67) ++ r72) ++ r77).length + r82.length) * 1 ≤ 140737488355328) <| Option.bind (blob_Num (s17.2.a4.toNat : Int) 4) fun r87 => grd ((((((([] : List UInt8) ++ r67) ++ r72) ++ r77) ++ r82).length + r87.length) * 1 ≤ 140737488355328) <| Option.bind (blob_Num (s17.2.a5.toNat : Int) 4) fun r92 => grd (((((((([] : List UInt8) ++ r67) ++ r72) ++ r77) ++ r82) ++ r87).length + r92.length) * 1 ≤ 140737488355328) <| Option.bind (blob_Num (s17.2.a6.toNat : Int) 4) fun r97 => grd ((((((((([] : List UInt8) ++ r67) ++ r72) ++ r77) ++ r82) ++ r87) ++ r92).length + r97.length) * 1 ≤ 140737488355328) <| Option.bind (blob_Num (s17.2.a7.toNat : Int) 4) fun r102 => grd (((((((((([] : List UInt8) ++ r67) ++ r72) ++ r77) ++ r82) ++ r87) ++ r92) ++ r97).length + r102.length) * 1 ≤ 140737488355328) <| some (((((((((([] : List UInt8) ++ r67) ++ r72) ++ r77) ++ r82) ++ r87) ++ r92) ++ r97) ++ r102))
set_option maxRecDepth 20000 in
set_option maxHeartbeats 1000000 in
theorem S_hash_Sum (v00 : Value) (a0 : List UInt8) (r : (List UInt8)) (h : hash_Sum a0 = some r) :
    SpecF Try.prog 59 [v00] [] [rows 1 v00 (a0.map (fun x => [B8 x]))] (fun z : Value => True) (fun z => z) (fun z M => lst 5 1 z (r.map (fun x => [B8 x])) ::  M) (fun z M =>  M) := by
  refine .of func59 rfl ntmps59 rfl fun w0 D0 G0 => ?_
  unfold hash_Sum at h
  refine .seq ?_
  refine .reg rfl ?_
  refine .op0 (OpP.toV (P.asg .k)) rfl ?_
  refine .nil ?_
  refine .then ?_
  refine .seq ?_
  refine .reg rfl ?_
  refine .opg (G.call call71 .nil (S_hash_begin  _ rfl) .nil .nil (fun _ _ => rfl) (fun _ _ => rfl) rfl) rfl fun _ _ => ?_
  refine .opg (G.call call72 .nil (S_hash_keys  _ rfl) .nil .nil (fun _ _ => rfl) (fun _ _ => rfl) rfl) rfl fun _ _ => ?_
  refine .opx (X.alc (cs := (hash_eight.cs ⟨0, 0, 0, 0, 0, 0, 0, 0⟩)) zeroValue116 rfl) rfl fun b1 => ?_
  refine .opx (X.alc (cs := (A64_u32.cs ⟨0, 0, 0, 0, 0, 0, 0, 0, 0, 0, 0, 0, 0, 0, 0, 0, 0, 0, 0, 0, 0, 0, 0, 0, 0, 0, 0, 0, 0, 0, 0, 0, 0, 0, 0, 0, 0, 0, 0, 0, 0, 0, 0, 0, 0, 0, 0, 0, 0, 0, 0, 0, 0, 0, 0, 0, 0, 0, 0, 0, 0, 0, 0, 0⟩)) zeroValue72 rfl) rfl fun b2 => ?_
  refine .opg (G.str .t3 .g1 .k1 (.mk (cs' := (hash_eight.cs hash_begin)) sizeOf116 rfl rfl rfl rfl)) rfl fun _ _ => ?_
  refine .opg (G.str .t2 .g0 .k1 (.mk (cs' := (A64_u32.cs hash_keys)) sizeOf72 rfl rfl rfl rfl)) rfl fun _ _ => ?_
  refine .nil ?_
  refine .then ?_
  refine .seq ?_
  refine .seq ?_
  refine .reg rfl ?_
  refine .opp (P.mov .t2) rfl ?_
  obtain ⟨r3, hr4, h⟩ := bnd_eq h
  refine .opg (G.call call73 (.cons .t0 .nil) (S_hash_Pad v00 a0 r3 hr4) .nil (.cons Mm.m0 .nil) (fun _ _ => rfl) (fun _ _ => rfl) rfl) rfl fun u5 _ => ?_
  refine .cell .k0 fun hv6 => ?_
  obtain ⟨r7, hr8, h⟩ := bnd_eq h
  refine .opg (G.call call60 (.cons .t0 (.cons .k .nil)) (S_slices_Chunk_byte u5 hv6 64 r7 hr8) .nil .nil (fun _ _ => rfl) (fun _ _ => rfl) rfl) rfl fun ⟨b9, b10⟩ _ => ?_
  refine .nil ?_
  refine .then ?_
  refine .block ?_
  refine .rangeF rfl .t0 call76 func76 rfl ntmps76 rfl fun a11 O12 D13 l14 ha15 hO16 => ?_
  refine .seq ?_
  refine .reg rfl ?_
  refine .opp (P.asg .k) rfl ?_
  refine .nil ?_
  refine .then ?_
  refine .block ?_
  refine .frz .k4 ?_
  obtain ⟨o19, ho20, h⟩ := bnd_eq h
  refine .loopW (γ := Unit) (fun (s17 : Int × hash_eight) z18 => [(4, N s17.1), (0, yv l14), (1, pt b9 0), (2, pt b10 0)]) (fun (s17 : Int × hash_eight) z18 => [blk b9 40 [u5], blk b10 3 [N 64], blk b2 72 (A64_u32.cs hash_keys), blk b1 116 (hash_eight.cs s17.2), obj l14 (O12 .ready none), obj D13 (.deferred (some []))]) (fun (s17 : Int × hash_eight) z18 => [rows 1 u5 (r3.map (fun x => [B8 x])), rows 1 v00 (a0.map (fun x => [B8 x]))]) () ho20 (.cons Mm.m0 (.cons Mm.m1 (.cons Mm.m2 (.cons Mm.m3 .nil)))) (.of (.cons .k2 (.cons .k2 (.cons .k2 (.cons .k2 (.cons .k0 (.cons .k0 .nil))))))) (.cons Mm.m0 (.cons Mm.m1 .nil)) (fun n25 s17 z18 hr23 => ?_)
  obtain ⟨ct24, hc21, hn22⟩ := loopK_at hr23
  refine .seq ?_
  refine .seq ?_
  refine .reg rfl ?_
  refine .opp (P.mov .g0) rfl ?_
  refine .op (V.ld (v := u5) .g3 .k0 (.one isAgg40 rfl)) rfl ?_
  refine .op (V.lnr (n := r3.length) .t0 Mm.m0 map_len runUnderlying40) rfl ?_
  refine .opp (P.bin .t1 .t0 .lss) rfl ?_
  refine .nil ?_
  refine .then ?_
  refine .cond .t0 (fun c26 => ?_) (fun c26 => ?_)
  · rw [if_pos c26] at hc21
    refine .skip ?_
    refine .then ?_
    refine .seq ?_
    refine .block ?_
    refine .seq ?_
    refine .draw 7 (.on 2 .pu (.on 0 .ld (.on 1 .ld (.on 3 .pu (.on 4 .ld (.on 5 .pu (.on 6 .go .nl))))))) follows_mixed (.thn (.inb (.thn (.thn (.inb .body))))) (by kernel_rfl) ?_
    refine .dpu rfl (.n rfl) (P.mov .g0) rfl rfl ?_
    refine .dld rfl (.n rfl) (V.ld (v := N 64) .g4 .k1 (.one isAgg3 rfl)) (fun _ h => h) rfl rfl ?_
    refine .dld rfl (.n rfl) (V.ld (v := u5) .g4 .k0 (.one isAgg40 rfl)) (fun _ h => h) rfl rfl ?_
    obtain ⟨hb27, hc21⟩ := grd_eq hc21
    refine .slnq Mm.m0 fun hq31 => ?_
    simp only [List.length_map] at hq31
    refine .dpu rfl (.n rfl) (P.slp (li := (some s17.1)) (hj := none) (mk := none) .t0 (.some .t1) .none .none hq31 runUnderlying40 sizeOf5 (by simpa using hb27)) rfl rfl ?_
    refine .slgen Mm.m0 (by simpa using hb27) fun u28 => ?_
    refine .rhead (q := rows 1 u28 ((slc r3 (s17.1).toNat r3.length).map (fun x => [B8 x]))) (fun _ hh => by simpa [slc_map] using hh) ?_
    refine .rfact Mm.m0 (fun _ r => rows_shape r) fun hs32 => ?_
    rw [List.length_map] at hs32
    refine .dld rfl (.n rfl) (OpP.toV (P.lnh (n := (slc r3 (s17.1).toNat r3.length).length) .t0 hs32 runUnderlying40)) (fun _ h => (h.imp (Ls.of (.cons .k0 (.cons .k0 (.cons .k0 (.cons .k0 (.cons .k0 (.cons .k0 .nil)))))))).ro (Rs.cons Mm.m1 (Rs.cons Mm.m2 Rs.nil))) rfl rfl ?_
    refine .dpu rfl (.n rfl) (P.min2 .t1 .t0) rfl rfl ?_
    refine .dgo rfl (.n rfl) (OpV.g (OpP.toV (P.asg .t0)) rfl) (.inr fun _ _ _ h => (h.imp (Ls.of (.cons .k0 (.cons .k0 (.cons .k0 (.cons .k0 (.cons .k0 (.cons .k0 .nil)))))))).ro (Rs.cons Mm.m1 (Rs.cons Mm.m2 Rs.nil))) fun _ _ => ?_
    refine .dnil ?_
    refine .then ?_
    refine .seq ?_
    refine .regY 10 rfl ?_
    refine .opp (P.mov .g2) rfl ?_
    refine .op (V.ld (v := u5) .g4 .k0 (.one isAgg40 rfl)) rfl ?_
    refine .opp (P.mov .g3) rfl ?_
    refine .opp (P.mov .g4) rfl ?_
    refine .opp (P.mov .g4) rfl ?_
    refine .opp (P.bin .t1 .t0 .add) rfl ?_
    refine .opp (P.mov .g5) rfl ?_
    refine .opp (P.mov .t5) rfl ?_
    refine .opp (P.bin .t1 .t0 .add) rfl ?_
    obtain ⟨hb33, hc21⟩ := grd_eq hc21
    refine .capq Mm.m1 fun hc35 => ?_
    refine .opg (G.slr (li := (some s17.1)) (hj := (some (IntKind.i64.wrap (s17.1 + (if ((slc r3 (s17.1).toNat r3.length).length : Int) < 64 then ((slc r3 (s17.1).toNat r3.length).length : Int) else 64))))) (mk := (some (IntKind.i64.wrap (s17.1 + (if ((slc r3 (s17.1).toNat r3.length).length : Int) < 64 then ((slc r3 (s17.1).toNat r3.length).length : Int) else 64))))) .t3 (.some .t2) (.some .t1) (.some .t0) Mm.m1 hc35 runUnderlying40 sizeOf5 (by simpa using hb33) rfl) rfl fun u34 hu36 => ?_
    refine .rhead (q := rows 1 u34 ((slc r3 (s17.1).toNat (IntKind.i64.wrap (s17.1 + (if ((slc r3 (s17.1).toNat r3.length).length : Int) < 64 then ((slc r3 (s17.1).toNat r3.length).length : Int) else 64))).toNat).map (fun x => [B8 x]))) (fun _ hh => by simpa [slc_map] using hh) ?_
    refine .nil ?_
    refine .then ?_
    refine .yield (ps := [19]) .t1 (.cons .t0 .nil) hO16 .k4 rfl rfl (by decide) fun a37 ha38 => ?_
    refine .reg rfl ?_
    refine .opp (P.asg .t0) rfl ?_
    refine .nil ?_
    refine .then ?_
    refine .bg rfl hO16 .k0 ?_
    refine .block ?_
    refine .seq ?_
    refine .reg rfl ?_
    refine .opp (P.mov .t0) rfl ?_
    obtain ⟨r39, hr40, hc21⟩ := bnd_eq hc21
    refine .opg (G.call call74 (.cons .t0 .nil) (S_hash_schedule u34 (slc r3 (s17.1).toNat (IntKind.i64.wrap (s17.1 + (if ((slc r3 (s17.1).toNat r3.length).length : Int) < 64 then ((slc r3 (s17.1).toNat r3.length).length : Int) else 64))).toNat) r39 hr40) .nil (.cons Mm.m0 .nil) (fun _ _ => rfl) (fun _ _ => rfl) rfl) rfl fun _ _ => ?_
    refine .opx (X.alc (cs := (A64_u32.cs ⟨0, 0, 0, 0, 0, 0, 0, 0, 0, 0, 0, 0, 0, 0, 0, 0, 0, 0, 0, 0, 0, 0, 0, 0, 0, 0, 0, 0, 0, 0, 0, 0, 0, 0, 0, 0, 0, 0, 0, 0, 0, 0, 0, 0, 0, 0, 0, 0, 0, 0, 0, 0, 0, 0, 0, 0, 0, 0, 0, 0, 0, 0, 0, 0⟩)) zeroValue72 rfl) rfl fun b41 => ?_
    refine .opg (G.str .t1 .g0 .k0 (.mk (cs' := (A64_u32.cs r39)) sizeOf72 rfl rfl rfl rfl)) rfl fun _ _ => ?_
    refine .nil ?_
    refine .then ?_
    refine .seq ?_
    refine .reg rfl ?_
    refine .op (V.ld (v := Ag (hash_eight.cs s17.2)) .g2 .k5 (.agg isAgg116 sizeOf116 rfl rfl)) rfl ?_
    refine .opx (X.alc (cs := (hash_eight.cs ⟨0, 0, 0, 0, 0, 0, 0, 0⟩)) zeroValue116 rfl) rfl fun b42 => ?_
    refine .opg (G.str .t1 .g0 .k0 (.mk (cs' := (hash_eight.cs s17.2)) sizeOf116 rfl rfl rfl rfl)) rfl fun _ _ => ?_
    refine .nil ?_
    refine .then ?_
    refine .seq ?_
    refine .seq ?_
    refine .reg rfl ?_
    refine .op (V.ld (v := Ag (A64_u32.cs r39)) .t1 .k1 (.agg isAgg72 sizeOf72 rfl rfl)) rfl ?_
    refine .opp (P.mov .k) rfl ?_
    refine .nil ?_
    refine .then ?_
    refine .block ?_
    obtain ⟨o45, ho46, hc21⟩ := bnd_eq hc21
    refine .loopW (γ := Unit) (fun (s43 : Int × hash_eight) z44 => [(24, N s43.1), (23, Ag (A64_u32.cs r39)), (7, pt b42 0), (4, pt b2 0), (3, pt b1 0)]) (fun (s43 : Int × hash_eight) z44 => [blk b42 116 (hash_eight.cs s43.2), blk b2 72 (A64_u32.cs hash_keys), blk b1 116 (hash_eight.cs s17.2), blk b9 40 [u5], blk b10 3 [N 64], obj l14 (O12 .busy none), obj D13 (.deferred (some []))]) (fun (s43 : Int × hash_eight) z44 => [rows 1 u5 (r3.map (fun x => [B8 x])), rows 1 v00 (a0.map (fun x => [B8 x]))]) () ho46 (.cons Mm.m0 (.cons Mm.m1 (.cons Mm.m2 (.cons Mm.m3 (.cons Mm.m4 .nil))))) (.of (.cons .k0 (.cons .k4 (.cons .k4 (.cons .k2 (.cons .k2 (.cons .k1 (.cons .k1 .nil)))))))) (.cons Mm.m2 (.cons Mm.m3 .nil)) (fun n51 s43 z44 hr49 => ?_)
    obtain ⟨ct50, hc47, hn48⟩ := loopK_at hr49
    refine .seq ?_
    refine .reg rfl ?_
    refine .opp (P.bin .g0 .k .lss) rfl ?_
    refine .nil ?_
    refine .then ?_
    refine .seq ?_
    refine .cond .t0 (fun c52 => ?_) (fun c52 => ?_)
    · rw [if_pos c52] at hc47
      refine .skip ?_
      refine .then ?_
      refine .seq ?_
      refine .block ?_
      refine .seq ?_
      refine .reg rfl ?_
      refine .opp (P.mov .g0) rfl ?_
      obtain ⟨x53, hx54, hc47⟩ := bnd_eq hc47
      obtain ⟨i55, hi56, hx54⟩ := at_eq hx54
      refine .opp (P.idx (i := i55) (v := W4 x53) .g2 .g1 hi56 runUnderlying72 sizeOf70 (lt_of_get hx54) (by rcases i55 with _ | _ | _ | _ | _ | _ | _ | _ | _ | _ | _ | _ | _ | _ | _ | _ | _ | _ | _ | _ | _ | _ | _ | _ | _ | _ | _ | _ | _ | _ | _ | _ | _ | _ | _ | _ | _ | _ | _ | _ | _ | _ | _ | _ | _ | _ | _ | _ | _ | _ | _ | _ | _ | _ | _ | _ | _ | _ | _ | _ | _ | _ | _ | _ | _ <;> first | (obtain rfl := Option.some.inj hx54; exact PartV.one isAgg70 rfl) | (cases hx54; done))) rfl ?_
      refine .opp (P.asg .t1) rfl ?_
      refine .opp (P.asg .t1) rfl ?_
      refine .nil ?_
      refine .then ?_
      refine .draw 6 (.on 1 .pu (.on 2 .pu (.on 4 .pu (.on 0 .ld (.on 3 .go (.on 5 .pu (.on 6 .go (.on 7 .go .nl)))))))) follows_mixed (.inb (.thn (.thn (.inb (.thn (.inb .rnd)))))) (by kernel_rfl) ?_
      refine .dpu rfl (.n rfl) (P.mov .t1) rfl rfl ?_
      obtain ⟨x57, hx58, hc47⟩ := bnd_eq hc47
      obtain ⟨i59, hi60, hx58⟩ := at_eq hx58
      have hi60_ : (s43.1).toNat = i59 := by rw [hi60]; rfl
      refine .dpu rfl (.n rfl) (P.iad (i := i59) (off' := (0 + i59 * 1)) .t0 hi60 .g4 runUnderlying72 sizeOf70 (lt_of_get hx58) rfl) rfl rfl ?_
      refine .dpu rfl (.n rfl) (P.mov .t1) rfl rfl ?_
      refine .dld rfl (.n rfl) (V.ld (v := Ag (hash_eight.cs s43.2)) .g4 .k0 (.agg isAgg116 sizeOf116 rfl rfl)) (fun _ h => h) rfl rfl ?_
      refine .dgo rfl (.n rfl) (OpV.g (V.ld (v := W4 x57) .t2 .k1 (by rcases i59 with _ | _ | _ | _ | _ | _ | _ | _ | _ | _ | _ | _ | _ | _ | _ | _ | _ | _ | _ | _ | _ | _ | _ | _ | _ | _ | _ | _ | _ | _ | _ | _ | _ | _ | _ | _ | _ | _ | _ | _ | _ | _ | _ | _ | _ | _ | _ | _ | _ | _ | _ | _ | _ | _ | _ | _ | _ | _ | _ | _ | _ | _ | _ | _ | _ <;> first | (obtain rfl := Option.some.inj hx58; exact LdV.one isAgg70 rfl) | (cases hx58; done))) rfl) (.inr fun _ _ _ h => h) fun _ _ => ?_
      refine .dpu rfl (.n rfl) (P.bin .t0 .t1 (BinV.addW4 (x := x57) (y := x53))) rfl rfl ?_
      obtain ⟨r61, hr62, hc47⟩ := bnd_eq hc47
      refine .dgo rfl (.n rfl) (G.call call75 (.cons .t1 (.cons .t0 .nil)) (S_hash_eight_round s43.2 (x57 + x53) r61 hr62) .nil .nil (fun _ _ => rfl) (fun _ _ => rfl) rfl) (.inl rfl) fun _ _ => ?_
      refine .dgo rfl (.n rfl) (G.str .t0 .g2 .k0 (.mk (cs' := (hash_eight.cs r61)) sizeOf116 rfl rfl rfl rfl)) (.inl rfl) fun _ _ => ?_
      refine .dnil ?_
      refine .inn ?_
      refine .then ?_
      refine .reg rfl ?_
      refine .opp (P.bin .g0 .k .add) rfl ?_
      refine .drop .k1 ?_
      refine .opp (P.mov .t0) rfl ?_
      refine .nil ?_
      cases hc47
      obtain ⟨m63, hm64, hn48⟩ := hn48
      exact .rdW ((IntKind.i64.wrap (s43.1 + 1), r61)) () hm64 hn48 (.cons Mm.m0 (.cons Mm.m1 (.cons Mm.m2 (.cons Mm.m3 (.cons Mm.m4 .nil))))) (.of (.cons .k0 (.cons .k0 (.cons .k0 (.cons .k0 (.cons .k0 (.cons .k0 (.cons .k0 .nil)))))))) (.cons Mm.m0 (.cons Mm.m1 .nil))
    · rw [if_neg (ne_true_of_eq_false c52)] at hc47
      refine .exit ?_
      refine .thx ?_
      cases hc47
      refine .told (γ := Unit) hc21 hn48 (fun (s43 : Int × hash_eight) _ => [(24, N s43.1), (23, Ag (A64_u32.cs r39)), (7, pt b42 0), (4, pt b2 0), (3, pt b1 0)]) (fun (s43 : Int × hash_eight) _ => [blk b42 116 (hash_eight.cs s43.2), blk b2 72 (A64_u32.cs hash_keys), blk b1 116 (hash_eight.cs s17.2), blk b9 40 [u5], blk b10 3 [N 64], obj l14 (O12 .busy none), obj D13 (.deferred (some []))]) (fun (s43 : Int × hash_eight) _ => [rows 1 u5 (r3.map (fun x => [B8 x])), rows 1 v00 (a0.map (fun x => [B8 x]))]) () (.cons Mm.m0 (.cons Mm.m1 (.cons Mm.m2 (.cons Mm.m3 (.cons Mm.m4 .nil))))) (.of (.cons .k0 (.cons .k0 (.cons .k0 (.cons .k0 (.cons .k0 (.cons .k0 (.cons .k0 .nil)))))))) (.cons Mm.m0 (.cons Mm.m1 .nil)) (fun s43 _ hc21' => ?_)
      replace hc21 := hc21'
      refine .thx ?_
      refine .inb ?_
      refine .then ?_
      refine .seq ?_
      refine .reg rfl ?_
      refine .opp (P.mov .k) rfl ?_
      refine .nil ?_
      refine .then ?_
      refine .block ?_
      refine .rounds 9 ?_
      refine .rd ?_
      refine .seq ?_
      refine .reg rfl ?_
      refine .opp (P.bin (v := Bo true) .g0 .k (BinV.lss.boolc (by decide))) rfl ?_
      refine .nil ?_
      refine .then ?_
      refine .seq ?_
      refine .condT .t0 ?_
      refine .skip ?_
      refine .then ?_
      refine .seq ?_
      refine .block ?_
      refine .seq ?_
      refine .reg rfl ?_
      refine .opp (P.mov .g0) rfl ?_
      refine .opp (P.asg .t0) rfl ?_
      refine .nil ?_
      refine .then ?_
      refine .draw 8 (.on 0 .pu (.on 1 .pu (.on 3 .pu (.on 4 .pu (.on 2 .ld (.on 5 .ld (.on 6 .pu (.on 7 .pu (.on 8 .go .nl))))))))) follows_mixed (.inb (.thn (.thn (.inb (.inb .rnd))))) (by kernel_rfl) ?_
      refine .dpu rfl (.n rfl) (P.mov .g0) rfl rfl ?_
      refine .dpu rfl (.n rfl) (P.iac (i := 0) .g0 rfl .g7 runUnderlying116 sizeOf70 rfl rfl) rfl rfl ?_
      refine .dpu rfl (.n rfl) (P.mov .t2) rfl rfl ?_
      refine .dpu rfl (.n rfl) (P.iac (i := 0) .t0 rfl .g5 runUnderlying116 sizeOf70 rfl rfl) rfl rfl ?_
      refine .dld rfl (.n rfl) (V.ld (v := W4 s17.2.a0) .t1 .k2 (.one isAgg70 rfl)) (fun _ h => h) rfl rfl ?_
      refine .dld rfl (.n rfl) (V.ld (v := W4 s43.2.a0) .t1 .k0 (.one isAgg70 rfl)) (fun _ h => h) rfl rfl ?_
      refine .dpu rfl (.n rfl) (P.bin .t1 .t0 (BinV.addW4 (x := s17.2.a0) (y := s43.2.a0))) rfl rfl ?_
      refine .dpu rfl (.n rfl) (P.iac (i := 0) .t1 rfl .g6 runUnderlying116 sizeOf70 rfl rfl) rfl rfl ?_
      refine .dgo rfl (.n rfl) (G.str .t1 .t0 .k2 (.mk (cs' := (hash_eight.cs ⟨s17.2.a0 + s43.2.a0, s17.2.a1, s17.2.a2, s17.2.a3, s17.2.a4, s17.2.a5, s17.2.a6, s17.2.a7⟩)) sizeOf70 rfl rfl rfl rfl)) (.inl rfl) fun _ _ => ?_
      refine .dnil ?_
      refine .inn ?_
      refine .then ?_
      refine .reg rfl ?_
      refine .opp (P.bin (v := N 1) .g0 .k (.addc (by decide))) rfl ?_
      refine .drop .k1 ?_
      refine .opp (P.mov .t0) rfl ?_
      refine .nil ?_
      refine .then ?_
      refine .rd ?_
      refine .seq ?_
      refine .reg rfl ?_
      refine .opp (P.bin (v := Bo true) .g0 .k (BinV.lss.boolc (by decide))) rfl ?_
      refine .nil ?_
      refine .then ?_
      refine .seq ?_
      refine .condT .t0 ?_
      refine .skip ?_
      refine .then ?_
      refine .seq ?_
      refine .block ?_
      refine .seq ?_
      refine .reg rfl ?_
      refine .opp (P.mov .g0) rfl ?_
      refine .opp (P.asg .t0) rfl ?_
      refine .nil ?_
      refine .then ?_
      refine .draw 8 (.on 0 .pu (.on 1 .pu (.on 3 .pu (.on 4 .pu (.on 2 .ld (.on 5 .ld (.on 6 .pu (.on 7 .pu (.on 8 .go .nl))))))))) follows_mixed (.inb (.thn (.thn (.inb (.inb .rnd))))) (by kernel_rfl) ?_
      refine .dpu rfl (.n rfl) (P.mov .g0) rfl rfl ?_
      refine .dpu rfl (.n rfl) (P.iac (i := 1) .g0 rfl .g7 runUnderlying116 sizeOf70 rfl rfl) rfl rfl ?_
      refine .dpu rfl (.n rfl) (P.mov .t2) rfl rfl ?_
      refine .dpu rfl (.n rfl) (P.iac (i := 1) .t0 rfl .g5 runUnderlying116 sizeOf70 rfl rfl) rfl rfl ?_
      refine .dld rfl (.n rfl) (V.ld (v := W4 s17.2.a1) .t1 .k0 (.one isAgg70 rfl)) (fun _ h => h) rfl rfl ?_
      refine .dld rfl (.n rfl) (V.ld (v := W4 s43.2.a1) .t1 .k1 (.one isAgg70 rfl)) (fun _ h => h) rfl rfl ?_
      refine .dpu rfl (.n rfl) (P.bin .t1 .t0 (BinV.addW4 (x := s17.2.a1) (y := s43.2.a1))) rfl rfl ?_
      refine .dpu rfl (.n rfl) (P.iac (i := 1) .t1 rfl .g6 runUnderlying116 sizeOf70 rfl rfl) rfl rfl ?_
      refine .dgo rfl (.n rfl) (G.str .t1 .t0 .k0 (.mk (cs' := (hash_eight.cs ⟨s17.2.a0 + s43.2.a0, s17.2.a1 + s43.2.a1, s17.2.a2, s17.2.a3, s17.2.a4, s17.2.a5, s17.2.a6, s17.2.a7⟩)) sizeOf70 rfl rfl rfl rfl)) (.inl rfl) fun _ _ => ?_
      refine .dnil ?_
      refine .inn ?_
      refine .then ?_
      refine .reg rfl ?_
      refine .opp (P.bin (v := N 2) .g0 .k (.addc (by decide))) rfl ?_
      refine .drop .k1 ?_
      refine .opp (P.mov .t0) rfl ?_
      refine .nil ?_
      refine .then ?_
      refine .rd ?_
      refine .seq ?_
      refine .reg rfl ?_
      refine .opp (P.bin (v := Bo true) .g0 .k (BinV.lss.boolc (by decide))) rfl ?_
      refine .nil ?_
      refine .then ?_
      refine .seq ?_
      refine .condT .t0 ?_
      refine .skip ?_
      refine .then ?_
      refine .seq ?_
      refine .block ?_
      refine .seq ?_
      refine .reg rfl ?_
      refine .opp (P.mov .g0) rfl ?_
      refine .opp (P.asg .t0) rfl ?_
      refine .nil ?_
      refine .then ?_
      refine .draw 8 (.on 0 .pu (.on 1 .pu (.on 3 .pu (.on 4 .pu (.on 2 .ld (.on 5 .ld (.on 6 .pu (.on 7 .pu (.on 8 .go .nl))))))))) follows_mixed (.inb (.thn (.thn (.inb (.inb .rnd))))) (by kernel_rfl) ?_
      refine .dpu rfl (.n rfl) (P.mov .g0) rfl rfl ?_
      refine .dpu rfl (.n rfl) (P.iac (i := 2) .g0 rfl .g7 runUnderlying116 sizeOf70 rfl rfl) rfl rfl ?_
      refine .dpu rfl (.n rfl) (P.mov .t2) rfl rfl ?_
      refine .dpu rfl (.n rfl) (P.iac (i := 2) .t0 rfl .g5 runUnderlying116 sizeOf70 rfl rfl) rfl rfl ?_
      refine .dld rfl (.n rfl) (V.ld (v := W4 s17.2.a2) .t1 .k0 (.one isAgg70 rfl)) (fun _ h => h) rfl rfl ?_
      refine .dld rfl (.n rfl) (V.ld (v := W4 s43.2.a2) .t1 .k1 (.one isAgg70 rfl)) (fun _ h => h) rfl rfl ?_
      refine .dpu rfl (.n rfl) (P.bin .t1 .t0 (BinV.addW4 (x := s17.2.a2) (y := s43.2.a2))) rfl rfl ?_
      refine .dpu rfl (.n rfl) (P.iac (i := 2) .t1 rfl .g6 runUnderlying116 sizeOf70 rfl rfl) rfl rfl ?_
      refine .dgo rfl (.n rfl) (G.str .t1 .t0 .k0 (.mk (cs' := (hash_eight.cs ⟨s17.2.a0 + s43.2.a0, s17.2.a1 + s43.2.a1, s17.2.a2 + s43.2.a2, s17.2.a3, s17.2.a4, s17.2.a5, s17.2.a6, s17.2.a7⟩)) sizeOf70 rfl rfl rfl rfl)) (.inl rfl) fun _ _ => ?_
      refine .dnil ?_
      refine .inn ?_
      refine .then ?_
      refine .reg rfl ?_
      refine .opp (P.bin (v := N 3) .g0 .k (.addc (by decide))) rfl ?_
      refine .drop .k1 ?_
      refine .opp (P.mov .t0) rfl ?_
      refine .nil ?_
      refine .then ?_
      refine .rd ?_
      refine .seq ?_
      refine .reg rfl ?_
      refine .opp (P.bin (v := Bo true) .g0 .k (BinV.lss.boolc (by decide))) rfl ?_
      refine .nil ?_
      refine .then ?_
      refine .seq ?_
      refine .condT .t0 ?_
      refine .skip ?_
      refine .then ?_
      refine .seq ?_
      refine .block ?_
      refine .seq ?_
      refine .reg rfl ?_
      refine .opp (P.mov .g0) rfl ?_
      refine .opp (P.asg .t0) rfl ?_
      refine .nil ?_
      refine .then ?_
      refine .draw 8 (.on 0 .pu (.on 1 .pu (.on 3 .pu (.on 4 .pu (.on 2 .ld (.on 5 .ld (.on 6 .pu (.on 7 .pu (.on 8 .go .nl))))))))) follows_mixed (.inb (.thn (.thn (.inb (.inb .rnd))))) (by kernel_rfl) ?_
      refine .dpu rfl (.n rfl) (P.mov .g0) rfl rfl ?_
      refine .dpu rfl (.n rfl) (P.iac (i := 3) .g0 rfl .g7 runUnderlying116 sizeOf70 rfl rfl) rfl rfl ?_
      refine .dpu rfl (.n rfl) (P.mov .t2) rfl rfl ?_
      refine .dpu rfl (.n rfl) (P.iac (i := 3) .t0 rfl .g5 runUnderlying116 sizeOf70 rfl rfl) rfl rfl ?_
      refine .dld rfl (.n rfl) (V.ld (v := W4 s17.2.a3) .t1 .k0 (.one isAgg70 rfl)) (fun _ h => h) rfl rfl ?_
      refine .dld rfl (.n rfl) (V.ld (v := W4 s43.2.a3) .t1 .k1 (.one isAgg70 rfl)) (fun _ h => h) rfl rfl ?_
      refine .dpu rfl (.n rfl) (P.bin .t1 .t0 (BinV.addW4 (x := s17.2.a3) (y := s43.2.a3))) rfl rfl ?_
      refine .dpu rfl (.n rfl) (P.iac (i := 3) .t1 rfl .g6 runUnderlying116 sizeOf70 rfl rfl) rfl rfl ?_
      refine .dgo rfl (.n rfl) (G.str .t1 .t0 .k0 (.mk (cs' := (hash_eight.cs ⟨s17.2.a0 + s43.2.a0, s17.2.a1 + s43.2.a1, s17.2.a2 + s43.2.a2, s17.2.a3 + s43.2.a3, s17.2.a4, s17.2.a5, s17.2.a6, s17.2.a7⟩)) sizeOf70 rfl rfl rfl rfl)) (.inl rfl) fun _ _ => ?_
      refine .dnil ?_
      refine .inn ?_
      refine .then ?_
      refine .reg rfl ?_
      refine .opp (P.bin (v := N 4) .g0 .k (.addc (by decide))) rfl ?_
      refine .drop .k1 ?_
      refine .opp (P.mov .t0) rfl ?_
      refine .nil ?_
      refine .then ?_
      refine .rd ?_
      refine .seq ?_
      refine .reg rfl ?_
      refine .opp (P.bin (v := Bo true) .g0 .k (BinV.lss.boolc (by decide))) rfl ?_
      refine .nil ?_
      refine .then ?_
      refine .seq ?_
      refine .condT .t0 ?_
      refine .skip ?_
      refine .then ?_
      refine .seq ?_
      refine .block ?_
      refine .seq ?_
      refine .reg rfl ?_
      refine .opp (P.mov .g0) rfl ?_
      refine .opp (P.asg .t0) rfl ?_
      refine .nil ?_
      refine .then ?_
      refine .draw 8 (.on 0 .pu (.on 1 .pu (.on 3 .pu (.on 4 .pu (.on 2 .ld (.on 5 .ld (.on 6 .pu (.on 7 .pu (.on 8 .go .nl))))))))) follows_mixed (.inb (.thn (.thn (.inb (.inb .rnd))))) (by kernel_rfl) ?_
      refine .dpu rfl (.n rfl) (P.mov .g0) rfl rfl ?_
      refine .dpu rfl (.n rfl) (P.iac (i := 4) .g0 rfl .g7 runUnderlying116 sizeOf70 rfl rfl) rfl rfl ?_
      refine .dpu rfl (.n rfl) (P.mov .t2) rfl rfl ?_
      refine .dpu rfl (.n rfl) (P.iac (i := 4) .t0 rfl .g5 runUnderlying116 sizeOf70 rfl rfl) rfl rfl ?_
      refine .dld rfl (.n rfl) (V.ld (v := W4 s17.2.a4) .t1 .k0 (.one isAgg70 rfl)) (fun _ h => h) rfl rfl ?_
      refine .dld rfl (.n rfl) (V.ld (v := W4 s43.2.a4) .t1 .k1 (.one isAgg70 rfl)) (fun _ h => h) rfl rfl ?_
      refine .dpu rfl (.n rfl) (P.bin .t1 .t0 (BinV.addW4 (x := s17.2.a4) (y := s43.2.a4))) rfl rfl ?_
      refine .dpu rfl (.n rfl) (P.iac (i := 4) .t1 rfl .g6 runUnderlying116 sizeOf70 rfl rfl) rfl rfl ?_
      refine .dgo rfl (.n rfl) (G.str .t1 .t0 .k0 (.mk (cs' := (hash_eight.cs ⟨s17.2.a0 + s43.2.a0, s17.2.a1 + s43.2.a1, s17.2.a2 + s43.2.a2, s17.2.a3 + s43.2.a3, s17.2.a4 + s43.2.a4, s17.2.a5, s17.2.a6, s17.2.a7⟩)) sizeOf70 rfl rfl rfl rfl)) (.inl rfl) fun _ _ => ?_
      refine .dnil ?_
      refine .inn ?_
      refine .then ?_
      refine .reg rfl ?_
      refine .opp (P.bin (v := N 5) .g0 .k (.addc (by decide))) rfl ?_
      refine .drop .k1 ?_
      refine .opp (P.mov .t0) rfl ?_
      refine .nil ?_
      refine .then ?_
      refine .rd ?_
      refine .seq ?_
      refine .reg rfl ?_
      refine .opp (P.bin (v := Bo true) .g0 .k (BinV.lss.boolc (by decide))) rfl ?_
      refine .nil ?_
      refine .then ?_
      refine .seq ?_
      refine .condT .t0 ?_
      refine .skip ?_
      refine .then ?_
      refine .seq ?_
      refine .block ?_
      refine .seq ?_
      refine .reg rfl ?_
      refine .opp (P.mov .g0) rfl ?_
      refine .opp (P.asg .t0) rfl ?_
      refine .nil ?_
      refine .then ?_
      refine .draw 8 (.on 0 .pu (.on 1 .pu (.on 3 .pu (.on 4 .pu (.on 2 .ld (.on 5 .ld (.on 6 .pu (.on 7 .pu (.on 8 .go .nl))))))))) follows_mixed (.inb (.thn (.thn (.inb (.inb .rnd))))) (by kernel_rfl) ?_
      refine .dpu rfl (.n rfl) (P.mov .g0) rfl rfl ?_
      refine .dpu rfl (.n rfl) (P.iac (i := 5) .g0 rfl .g7 runUnderlying116 sizeOf70 rfl rfl) rfl rfl ?_
      refine .dpu rfl (.n rfl) (P.mov .t2) rfl rfl ?_
      refine .dpu rfl (.n rfl) (P.iac (i := 5) .t0 rfl .g5 runUnderlying116 sizeOf70 rfl rfl) rfl rfl ?_
      refine .dld rfl (.n rfl) (V.ld (v := W4 s17.2.a5) .t1 .k0 (.one isAgg70 rfl)) (fun _ h => h) rfl rfl ?_
      refine .dld rfl (.n rfl) (V.ld (v := W4 s43.2.a5) .t1 .k1 (.one isAgg70 rfl)) (fun _ h => h) rfl rfl ?_
      refine .dpu rfl (.n rfl) (P.bin .t1 .t0 (BinV.addW4 (x := s17.2.a5) (y := s43.2.a5))) rfl rfl ?_
      refine .dpu rfl (.n rfl) (P.iac (i := 5) .t1 rfl .g6 runUnderlying116 sizeOf70 rfl rfl) rfl rfl ?_
      refine .dgo rfl (.n rfl) (G.str .t1 .t0 .k0 (.mk (cs' := (hash_eight.cs ⟨s17.2.a0 + s43.2.a0, s17.2.a1 + s43.2.a1, s17.2.a2 + s43.2.a2, s17.2.a3 + s43.2.a3, s17.2.a4 + s43.2.a4, s17.2.a5 + s43.2.a5, s17.2.a6, s17.2.a7⟩)) sizeOf70 rfl rfl rfl rfl)) (.inl rfl) fun _ _ => ?_
      refine .dnil ?_
      refine .inn ?_
      refine .then ?_
      refine .reg rfl ?_
      refine .opp (P.bin (v := N 6) .g0 .k (.addc (by decide))) rfl ?_
      refine .drop .k1 ?_
      refine .opp (P.mov .t0) rfl ?_
      refine .nil ?_
      refine .then ?_
      refine .rd ?_
      refine .seq ?_
      refine .reg rfl ?_
      refine .opp (P.bin (v := Bo true) .g0 .k (BinV.lss.boolc (by decide))) rfl ?_
      refine .nil ?_
      refine .then ?_
      refine .seq ?_
      refine .condT .t0 ?_
      refine .skip ?_
      refine .then ?_
      refine .seq ?_
      refine .block ?_
      refine .seq ?_
      refine .reg rfl ?_
      refine .opp (P.mov .g0) rfl ?_
      refine .opp (P.asg .t0) rfl ?_
      refine .nil ?_
      refine .then ?_
      refine .draw 8 (.on 0 .pu (.on 1 .pu (.on 3 .pu (.on 4 .pu (.on 2 .ld (.on 5 .ld (.on 6 .pu (.on 7 .pu (.on 8 .go .nl))))))))) follows_mixed (.inb (.thn (.thn (.inb (.inb .rnd))))) (by kernel_rfl) ?_
      refine .dpu rfl (.n rfl) (P.mov .g0) rfl rfl ?_
      refine .dpu rfl (.n rfl) (P.iac (i := 6) .g0 rfl .g7 runUnderlying116 sizeOf70 rfl rfl) rfl rfl ?_
      refine .dpu rfl (.n rfl) (P.mov .t2) rfl rfl ?_
      refine .dpu rfl (.n rfl) (P.iac (i := 6) .t0 rfl .g5 runUnderlying116 sizeOf70 rfl rfl) rfl rfl ?_
      refine .dld rfl (.n rfl) (V.ld (v := W4 s17.2.a6) .t1 .k0 (.one isAgg70 rfl)) (fun _ h => h) rfl rfl ?_
      refine .dld rfl (.n rfl) (V.ld (v := W4 s43.2.a6) .t1 .k1 (.one isAgg70 rfl)) (fun _ h => h) rfl rfl ?_
      refine .dpu rfl (.n rfl) (P.bin .t1 .t0 (BinV.addW4 (x := s17.2.a6) (y := s43.2.a6))) rfl rfl ?_
      refine .dpu rfl (.n rfl) (P.iac (i := 6) .t1 rfl .g6 runUnderlying116 sizeOf70 rfl rfl) rfl rfl ?_
      refine .dgo rfl (.n rfl) (G.str .t1 .t0 .k0 (.mk (cs' := (hash_eight.cs ⟨s17.2.a0 + s43.2.a0, s17.2.a1 + s43.2.a1, s17.2.a2 + s43.2.a2, s17.2.a3 + s43.2.a3, s17.2.a4 + s43.2.a4, s17.2.a5 + s43.2.a5, s17.2.a6 + s43.2.a6, s17.2.a7⟩)) sizeOf70 rfl rfl rfl rfl)) (.inl rfl) fun _ _ => ?_
      refine .dnil ?_
      refine .inn ?_
      refine .then ?_
      refine .reg rfl ?_
      refine .opp (P.bin (v := N 7) .g0 .k (.addc (by decide))) rfl ?_
      refine .drop .k1 ?_
      refine .opp (P.mov .t0) rfl ?_
      refine .nil ?_
      refine .then ?_
      refine .rd ?_
      refine .seq ?_
      refine .reg rfl ?_
      refine .opp (P.bin (v := Bo true) .g0 .k (BinV.lss.boolc (by decide))) rfl ?_
      refine .nil ?_
      refine .then ?_
      refine .seq ?_
      refine .condT .t0 ?_
      refine .skip ?_
      refine .then ?_
      refine .seq ?_
      refine .block ?_
      refine .seq ?_
      refine .reg rfl ?_
      refine .opp (P.mov .g0) rfl ?_
      refine .opp (P.asg .t0) rfl ?_
      refine .nil ?_
      refine .then ?_
      refine .draw 8 (.on 0 .pu (.on 1 .pu (.on 3 .pu (.on 4 .pu (.on 2 .ld (.on 5 .ld (.on 6 .pu (.on 7 .pu (.on 8 .go .nl))))))))) follows_mixed (.inb (.thn (.thn (.inb (.inb .rnd))))) (by kernel_rfl) ?_
      refine .dpu rfl (.n rfl) (P.mov .g0) rfl rfl ?_
      refine .dpu rfl (.n rfl) (P.iac (i := 7) .g0 rfl .g7 runUnderlying116 sizeOf70 rfl rfl) rfl rfl ?_
      refine .dpu rfl (.n rfl) (P.mov .t2) rfl rfl ?_
      refine .dpu rfl (.n rfl) (P.iac (i := 7) .t0 rfl .g5 runUnderlying116 sizeOf70 rfl rfl) rfl rfl ?_
      refine .dld rfl (.n rfl) (V.ld (v := W4 s17.2.a7) .t1 .k0 (.one isAgg70 rfl)) (fun _ h => h) rfl rfl ?_
      refine .dld rfl (.n rfl) (V.ld (v := W4 s43.2.a7) .t1 .k1 (.one isAgg70 rfl)) (fun _ h => h) rfl rfl ?_
      refine .dpu rfl (.n rfl) (P.bin .t1 .t0 (BinV.addW4 (x := s17.2.a7) (y := s43.2.a7))) rfl rfl ?_
      refine .dpu rfl (.n rfl) (P.iac (i := 7) .t1 rfl .g6 runUnderlying116 sizeOf70 rfl rfl) rfl rfl ?_
      refine .dgo rfl (.n rfl) (G.str .t1 .t0 .k0 (.mk (cs' := (hash_eight.cs ⟨s17.2.a0 + s43.2.a0, s17.2.a1 + s43.2.a1, s17.2.a2 + s43.2.a2, s17.2.a3 + s43.2.a3, s17.2.a4 + s43.2.a4, s17.2.a5 + s43.2.a5, s17.2.a6 + s43.2.a6, s17.2.a7 + s43.2.a7⟩)) sizeOf70 rfl rfl rfl rfl)) (.inl rfl) fun _ _ => ?_
      refine .dnil ?_
      refine .inn ?_
      refine .then ?_
      refine .reg rfl ?_
      refine .opp (P.bin (v := N 8) .g0 .k (.addc (by decide))) rfl ?_
      refine .drop .k1 ?_
      refine .opp (P.mov .t0) rfl ?_
      refine .nil ?_
      refine .then ?_
      refine .rd ?_
      refine .seq ?_
      refine .reg rfl ?_
      refine .opp (P.bin (v := Bo false) .g0 .k (BinV.lss.boolc (by decide))) rfl ?_
      refine .nil ?_
      refine .then ?_
      refine .seq ?_
      refine .condF .t0 ?_
      refine .exit ?_
      refine .thx ?_
      refine .thx ?_
      refine .inb ?_
      refine .inn ?_
      refine .rnorm rfl ⟨rfl, rfl, rfl⟩ ha38 hO16 .k5 rfl ?_
      refine .inL rfl ?_
      refine .opp (P.not .t0) rfl ?_
      refine .nil ?_
      refine .then ?_
      refine .condF .t0 ?_
      refine .skip ?_
      refine .inn ?_
      refine .then ?_
      refine .reg rfl ?_
      refine .opp (P.mov .g0) rfl ?_
      refine .op (V.ld (v := N 64) .g4 .k5 (.one isAgg3 rfl)) rfl ?_
      refine .opp (P.bin .t1 .t0 .add) rfl ?_
      refine .drop .k1 ?_
      refine .opp (P.asg .t0) rfl ?_
      refine .nil ?_
      cases hc21
      obtain ⟨m65, hm66, hn22⟩ := hn22
      exact .rdW ((IntKind.i64.wrap (s17.1 + 64), ⟨s17.2.a0 + s43.2.a0, s17.2.a1 + s43.2.a1, s17.2.a2 + s43.2.a2, s17.2.a3 + s43.2.a3, s17.2.a4 + s43.2.a4, s17.2.a5 + s43.2.a5, s17.2.a6 + s43.2.a6, s17.2.a7 + s43.2.a7⟩)) () hm66 hn22 (.cons Mm.m0 (.cons Mm.m1 (.cons Mm.m2 (.cons Mm.m3 .nil)))) (.of (.cons .k4 (.cons .k4 (.cons .k3 (.cons .k1 (.cons .k0 (.cons .k1 .nil))))))) (.cons Mm.m0 (.cons Mm.m1 .nil))
  · rw [if_neg (ne_true_of_eq_false c26)] at hc21
    refine .exit ?_
    refine .thx ?_
    cases hc21
    refine .told (γ := Unit) h hn22 (fun (s17 : Int × hash_eight) _ => [(4, N s17.1), (0, yv l14), (1, pt b9 0), (2, pt b10 0)]) (fun (s17 : Int × hash_eight) _ => [blk b9 40 [u5], blk b10 3 [N 64], blk b2 72 (A64_u32.cs hash_keys), blk b1 116 (hash_eight.cs s17.2), obj l14 (O12 .ready none), obj D13 (.deferred (some []))]) (fun (s17 : Int × hash_eight) _ => [rows 1 u5 (r3.map (fun x => [B8 x])), rows 1 v00 (a0.map (fun x => [B8 x]))]) () (.cons Mm.m0 (.cons Mm.m1 (.cons Mm.m2 (.cons Mm.m3 .nil)))) (.of (.cons .k0 (.cons .k0 (.cons .k0 (.cons .k0 (.cons .k0 (.cons .k0 .nil))))))) (.cons Mm.m0 (.cons Mm.m1 .nil)) (fun s17 _ h' => ?_)
    replace h := h'
    refine .thx ?_
    refine .inb ?_
    refine .rfinn ha15 hO16 .k4 rfl ?_
    refine .inn ?_
    refine .then ?_
    refine .seq ?_
    refine .reg rfl ?_
    refine .opp (P.asg .k) rfl ?_
    refine .nil ?_
    refine .then ?_
    refine .seq ?_
    refine .seq ?_
    refine .reg rfl ?_
    refine .op (V.ld (v := Ag (hash_eight.cs s17.2)) .t2 .k3 (.agg isAgg116 sizeOf116 rfl rfl)) rfl ?_
    refine .opp (P.mov .k) rfl ?_
    refine .nil ?_
    refine .then ?_
    refine .block ?_
    refine .rounds 9 ?_
    refine .rd ?_
    refine .seq ?_
    refine .reg rfl ?_
    refine .opp (P.bin (v := Bo true) .g0 .k (BinV.lss.boolc (by decide))) rfl ?_
    refine .nil ?_
    refine .then ?_
    refine .seq ?_
    refine .condT .t0 ?_
    refine .skip ?_
    refine .then ?_
    refine .seq ?_
    refine .block ?_
    refine .seq ?_
    refine .reg rfl ?_
    refine .opp (P.idx (i := 0) (v := W4 s17.2.a0) .g1 .g0 rfl runUnderlying116 sizeOf70 (by decide) (.one isAgg70 rfl)) rfl ?_
    refine .opp (P.asg .t0) rfl ?_
    refine .nil ?_
    refine .then ?_
    refine .reg rfl ?_
    refine .opp (P.mov .g3) rfl ?_
    refine .opp (P.mov .t1) rfl ?_
    refine .opp (P.cnvIW4 (x := s17.2.a0) .t0 runUnderlying70 runUnderlying3) rfl ?_
    obtain ⟨r67, hr68, h⟩ := bnd_eq h
    refine .opg (G.call call68 (.cons .t0 (.cons .k .nil)) (S_blob_Num (s17.2.a0.toNat : Int) 4 r67 hr68) .nil .nil (fun _ _ => rfl) (fun _ _ => rfl) rfl) rfl fun u69 _ => ?_
    refine .lnil 5 1 ?_
    obtain ⟨hb71, h⟩ := grd_eq h
    refine .opg (G.app (by_ := 1) .t1 .t0 .k0 (.inr (.inr ⟨_, Mm.m0⟩)) runUnderlying40 runUnderlying40 sizeOf5 typeInfo5 rfl rfl zeroValue5 rfl (one_map one_5 _) (by simpa using hb71) rfl) rfl fun u70 _ => ?_
    refine .conseq .k0 (q := lst 5 1 u70 ((([] : List UInt8) ++ r67).map (fun x => [B8 x]))) (fun _ hh => by simpa [List.map_append] using hh) ?_
    refine .drop .k3 ?_
    refine .opp (P.asg .t0) rfl ?_
    refine .nil ?_
    refine .inn ?_
    refine .then ?_
    refine .reg rfl ?_
    refine .opp (P.bin (v := N 1) .g1 .k (.addc (by decide))) rfl ?_
    refine .drop .k2 ?_
    refine .opp (P.mov .t0) rfl ?_
    refine .nil ?_
    refine .then ?_
    refine .rd ?_
    refine .seq ?_
    refine .reg rfl ?_
    refine .opp (P.bin (v := Bo true) .g0 .k (BinV.lss.boolc (by decide))) rfl ?_
    refine .nil ?_
    refine .then ?_
    refine .seq ?_
    refine .condT .t0 ?_
    refine .skip ?_
    refine .then ?_
    refine .seq ?_
    refine .block ?_
    refine .seq ?_
    refine .reg rfl ?_
    refine .opp (P.idx (i := 1) (v := W4 s17.2.a1) .g2 .g0 rfl runUnderlying116 sizeOf70 (by decide) (.one isAgg70 rfl)) rfl ?_
    refine .opp (P.asg .t0) rfl ?_
    refine .nil ?_
    refine .then ?_
    refine .reg rfl ?_
    refine .opp (P.mov .g2) rfl ?_
    refine .opp (P.mov .t1) rfl ?_
    refine .opp (P.cnvIW4 (x := s17.2.a1) .t0 runUnderlying70 runUnderlying3) rfl ?_
    obtain ⟨r72, hr73, h⟩ := bnd_eq h
    refine .opg (G.call call68 (.cons .t0 (.cons .k .nil)) (S_blob_Num (s17.2.a1.toNat : Int) 4 r72 hr73) .nil .nil (fun _ _ => rfl) (fun _ _ => rfl) rfl) rfl fun u74 _ => ?_
    obtain ⟨hb76, h⟩ := grd_eq h
    refine .opg (G.app (by_ := 1) .t1 .t0 .k1 (.inr (.inr ⟨_, Mm.m0⟩)) runUnderlying40 runUnderlying40 sizeOf5 typeInfo5 rfl rfl zeroValue5 rfl (one_map one_5 _) (by simpa using hb76) rfl) rfl fun u75 _ => ?_
    refine .conseq .k0 (q := lst 5 1 u75 (((([] : List UInt8) ++ r67) ++ r72).map (fun x => [B8 x]))) (fun _ hh => by simpa [List.map_append] using hh) ?_
    refine .drop .k2 ?_
    refine .opp (P.asg .t0) rfl ?_
    refine .nil ?_
    refine .inn ?_
    refine .then ?_
    refine .reg rfl ?_
    refine .opp (P.bin (v := N 2) .g1 .k (.addc (by decide))) rfl ?_
    refine .drop .k2 ?_
    refine .opp (P.mov .t0) rfl ?_
    refine .nil ?_
    refine .then ?_
    refine .rd ?_
    refine .seq ?_
    refine .reg rfl ?_
    refine .opp (P.bin (v := Bo true) .g0 .k (BinV.lss.boolc (by decide))) rfl ?_
    refine .nil ?_
    refine .then ?_
    refine .seq ?_
    refine .condT .t0 ?_
    refine .skip ?_
    refine .then ?_
    refine .seq ?_
    refine .block ?_
    refine .seq ?_
    refine .reg rfl ?_
    refine .opp (P.idx (i := 2) (v := W4 s17.2.a2) .g2 .g0 rfl runUnderlying116 sizeOf70 (by decide) (.one isAgg70 rfl)) rfl ?_
    refine .opp (P.asg .t0) rfl ?_
    refine .nil ?_
    refine .then ?_
    refine .reg rfl ?_
    refine .opp (P.mov .g2) rfl ?_
    refine .opp (P.mov .t1) rfl ?_
    refine .opp (P.cnvIW4 (x := s17.2.a2) .t0 runUnderlying70 runUnderlying3) rfl ?_
    obtain ⟨r77, hr78, h⟩ := bnd_eq h
    refine .opg (G.call call68 (.cons .t0 (.cons .k .nil)) (S_blob_Num (s17.2.a2.toNat : Int) 4 r77 hr78) .nil .nil (fun _ _ => rfl) (fun _ _ => rfl) rfl) rfl fun u79 _ => ?_
    obtain ⟨hb81, h⟩ := grd_eq h
    refine .opg (G.app (by_ := 1) .t1 .t0 .k1 (.inr (.inr ⟨_, Mm.m0⟩)) runUnderlying40 runUnderlying40 sizeOf5 typeInfo5 rfl rfl zeroValue5 rfl (one_map one_5 _) (by simpa using hb81) rfl) rfl fun u80 _ => ?_
    refine .conseq .k0 (q := lst 5 1 u80 ((((([] : List UInt8) ++ r67) ++ r72) ++ r77).map (fun x => [B8 x]))) (fun _ hh => by simpa [List.map_append] using hh) ?_
    refine .drop .k2 ?_
    refine .opp (P.asg .t0) rfl ?_
    refine .nil ?_
    refine .inn ?_
    refine .then ?_
    refine .reg rfl ?_
    refine .opp (P.bin (v := N 3) .g1 .k (.addc (by decide))) rfl ?_
    refine .drop .k2 ?_
    refine .opp (P.mov .t0) rfl ?_
    refine .nil ?_
    refine .then ?_
    refine .rd ?_
    refine .seq ?_
    refine .reg rfl ?_
    refine .opp (P.bin (v := Bo true) .g0 .k (BinV.lss.boolc (by decide))) rfl ?_
    refine .nil ?_
    refine .then ?_
    refine .seq ?_
    refine .condT .t0 ?_
    refine .skip ?_
    refine .then ?_
    refine .seq ?_
    refine .block ?_
    refine .seq ?_
    refine .reg rfl ?_
    refine .opp (P.idx (i := 3) (v := W4 s17.2.a3) .g2 .g0 rfl runUnderlying116 sizeOf70 (by decide) (.one isAgg70 rfl)) rfl ?_
    refine .opp (P.asg .t0) rfl ?_
    refine .nil ?_
    refine .then ?_
    refine .reg rfl ?_
    refine .opp (P.mov .g2) rfl ?_
    refine .opp (P.mov .t1) rfl ?_
    refine .opp (P.cnvIW4 (x := s17.2.a3) .t0 runUnderlying70 runUnderlying3) rfl ?_
    obtain ⟨r82, hr83, h⟩ := bnd_eq h
    refine .opg (G.call call68 (.cons .t0 (.cons .k .nil)) (S_blob_Num (s17.2.a3.toNat : Int) 4 r82 hr83) .nil .nil (fun _ _ => rfl) (fun _ _ => rfl) rfl) rfl fun u84 _ => ?_
    obtain ⟨hb86, h⟩ := grd_eq h
    refine .opg (G.app (by_ := 1) .t1 .t0 .k1 (.inr (.inr ⟨_, Mm.m0⟩)) runUnderlying40 runUnderlying40 sizeOf5 typeInfo5 rfl rfl zeroValue5 rfl (one_map one_5 _) (by simpa using hb86) rfl) rfl fun u85 _ => ?_
    refine .conseq .k0 (q := lst 5 1 u85 (((((([] : List UInt8) ++ r67) ++ r72) ++ r77) ++ r82).map (fun x => [B8 x]))) (fun _ hh => by simpa [List.map_append] using hh) ?_
    refine .drop .k2 ?_
    refine .opp (P.asg .t0) rfl ?_
    refine .nil ?_
    refine .inn ?_
    refine .then ?_
    refine .reg rfl ?_
    refine .opp (P.bin (v := N 4) .g1 .k (.addc (by decide))) rfl ?_
    refine .drop .k2 ?_
    refine .opp (P.mov .t0) rfl ?_
    refine .nil ?_
    refine .then ?_
    refine .rd ?_
    refine .seq ?_
    refine .reg rfl ?_
    refine .opp (P.bin (v := Bo true) .g0 .k (BinV.lss.boolc (by decide))) rfl ?_
    refine .nil ?_
    refine .then ?_
    refine .seq ?_
    refine .condT .t0 ?_
    refine .skip ?_
    refine .then ?_
    refine .seq ?_
    refine .block ?_
    refine .seq ?_
    refine .reg rfl ?_
    refine .opp (P.idx (i := 4) (v := W4 s17.2.a4) .g2 .g0 rfl runUnderlying116 sizeOf70 (by decide) (.one isAgg70 rfl)) rfl ?_
    refine .opp (P.asg .t0) rfl ?_
    refine .nil ?_
    refine .then ?_
    refine .reg rfl ?_
    refine .opp (P.mov .g2) rfl ?_
    refine .opp (P.mov .t1) rfl ?_
    refine .opp (P.cnvIW4 (x := s17.2.a4) .t0 runUnderlying70 runUnderlying3) rfl ?_
    obtain ⟨r87, hr88, h⟩ := bnd_eq h
    refine .opg (G.call call68 (.cons .t0 (.cons .k .nil)) (S_blob_Num (s17.2.a4.toNat : Int) 4 r87 hr88) .nil .nil (fun _ _ => rfl) (fun _ _ => rfl) rfl) rfl fun u89 _ => ?_
    obtain ⟨hb91, h⟩ := grd_eq h
    refine .opg (G.app (by_ := 1) .t1 .t0 .k1 (.inr (.inr ⟨_, Mm.m0⟩)) runUnderlying40 runUnderlying40 sizeOf5 typeInfo5 rfl rfl zeroValue5 rfl (one_map one_5 _) (by simpa using hb91) rfl) rfl fun u90 _ => ?_
    refine .conseq .k0 (q := lst 5 1 u90 ((((((([] : List UInt8) ++ r67) ++ r72) ++ r77) ++ r82) ++ r87).map (fun x => [B8 x]))) (fun _ hh => by simpa [List.map_append] using hh) ?_
    refine .drop .k2 ?_
    refine .opp (P.asg .t0) rfl ?_
    refine .nil ?_
    refine .inn ?_
    refine .then ?_
    refine .reg rfl ?_
    refine .opp (P.bin (v := N 5) .g1 .k (.addc (by decide))) rfl ?_
    refine .drop .k2 ?_
    refine .opp (P.mov .t0) rfl ?_
    refine .nil ?_
    refine .then ?_
    refine .rd ?_
    refine .seq ?_
    refine .reg rfl ?_
    refine .opp (P.bin (v := Bo true) .g0 .k (BinV.lss.boolc (by decide))) rfl ?_
    refine .nil ?_
    refine .then ?_
    refine .seq ?_
    refine .condT .t0 ?_
    refine .skip ?_
    refine .then ?_
    refine .seq ?_
    refine .block ?_
    refine .seq ?_
    refine .reg rfl ?_
    refine .opp (P.idx (i := 5) (v := W4 s17.2.a5) .g2 .g0 rfl runUnderlying116 sizeOf70 (by decide) (.one isAgg70 rfl)) rfl ?_
    refine .opp (P.asg .t0) rfl ?_
    refine .nil ?_
    refine .then ?_
    refine .reg rfl ?_
    refine .opp (P.mov .g2) rfl ?_
    refine .opp (P.mov .t1) rfl ?_
    refine .opp (P.cnvIW4 (x := s17.2.a5) .t0 runUnderlying70 runUnderlying3) rfl ?_
    obtain ⟨r92, hr93, h⟩ := bnd_eq h
    refine .opg (G.call call68 (.cons .t0 (.cons .k .nil)) (S_blob_Num (s17.2.a5.toNat : Int) 4 r92 hr93) .nil .nil (fun _ _ => rfl) (fun _ _ => rfl) rfl) rfl fun u94 _ => ?_
    obtain ⟨hb96, h⟩ := grd_eq h
    refine .opg (G.app (by_ := 1) .t1 .t0 .k1 (.inr (.inr ⟨_, Mm.m0⟩)) runUnderlying40 runUnderlying40 sizeOf5 typeInfo5 rfl rfl zeroValue5 rfl (one_map one_5 _) (by simpa using hb96) rfl) rfl fun u95 _ => ?_
    refine .conseq .k0 (q := lst 5 1 u95 (((((((([] : List UInt8) ++ r67) ++ r72) ++ r77) ++ r82) ++ r87) ++ r92).map (fun x => [B8 x]))) (fun _ hh => by simpa [List.map_append] using hh) ?_
    refine .drop .k2 ?_
    refine .opp (P.asg .t0) rfl ?_
    refine .nil ?_
    refine .inn ?_
    refine .then ?_
    refine .reg rfl ?_
    refine .opp (P.bin (v := N 6) .g1 .k (.addc (by decide))) rfl ?_
    refine .drop .k2 ?_
    refine .opp (P.mov .t0) rfl ?_
    refine .nil ?_
    refine .then ?_
    refine .rd ?_
    refine .seq ?_
    refine .reg rfl ?_
    refine .opp (P.bin (v := Bo true) .g0 .k (BinV.lss.boolc (by decide))) rfl ?_
    refine .nil ?_
    refine .then ?_
    refine .seq ?_
    refine .condT .t0 ?_
    refine .skip ?_
    refine .then ?_
    refine .seq ?_
    refine .block ?_
    refine .seq ?_
    refine .reg rfl ?_
    refine .opp (P.idx (i := 6) (v := W4 s17.2.a6) .g2 .g0 rfl runUnderlying116 sizeOf70 (by decide) (.one isAgg70 rfl)) rfl ?_
    refine .opp (P.asg .t0) rfl ?_
    refine .nil ?_
    refine .then ?_
    refine .reg rfl ?_
    refine .opp (P.mov .g2) rfl ?_
    refine .opp (P.mov .t1) rfl ?_
    refine .opp (P.cnvIW4 (x := s17.2.a6) .t0 runUnderlying70 runUnderlying3) rfl ?_
    obtain ⟨r97, hr98, h⟩ := bnd_eq h
    refine .opg (G.call call68 (.cons .t0 (.cons .k .nil)) (S_blob_Num (s17.2.a6.toNat : Int) 4 r97 hr98) .nil .nil (fun _ _ => rfl) (fun _ _ => rfl) rfl) rfl fun u99 _ => ?_
    obtain ⟨hb101, h⟩ := grd_eq h
    refine .opg (G.app (by_ := 1) .t1 .t0 .k1 (.inr (.inr ⟨_, Mm.m0⟩)) runUnderlying40 runUnderlying40 sizeOf5 typeInfo5 rfl rfl zeroValue5 rfl (one_map one_5 _) (by simpa using hb101) rfl) rfl fun u100 _ => ?_
    refine .conseq .k0 (q := lst 5 1 u100 ((((((((([] : List UInt8) ++ r67) ++ r72) ++ r77) ++ r82) ++ r87) ++ r92) ++ r97).map (fun x => [B8 x]))) (fun _ hh => by simpa [List.map_append] using hh) ?_
    refine .drop .k2 ?_
    refine .opp (P.asg .t0) rfl ?_
    refine .nil ?_
    refine .inn ?_
    refine .then ?_
    refine .reg rfl ?_
    refine .opp (P.bin (v := N 7) .g1 .k (.addc (by decide))) rfl ?_
    refine .drop .k2 ?_
    refine .opp (P.mov .t0) rfl ?_
    refine .nil ?_
    refine .then ?_
    refine .rd ?_
    refine .seq ?_
    refine .reg rfl ?_
    refine .opp (P.bin (v := Bo true) .g0 .k (BinV.lss.boolc (by decide))) rfl ?_
    refine .nil ?_
    refine .then ?_
    refine .seq ?_
    refine .condT .t0 ?_
    refine .skip ?_
    refine .then ?_
    refine .seq ?_
    refine .block ?_
    refine .seq ?_
    refine .reg rfl ?_
    refine .opp (P.idx (i := 7) (v := W4 s17.2.a7) .g2 .g0 rfl runUnderlying116 sizeOf70 (by decide) (.one isAgg70 rfl)) rfl ?_
    refine .opp (P.asg .t0) rfl ?_
    refine .nil ?_
    refine .then ?_
    refine .reg rfl ?_
    refine .opp (P.mov .g2) rfl ?_
    refine .opp (P.mov .t1) rfl ?_
    refine .opp (P.cnvIW4 (x := s17.2.a7) .t0 runUnderlying70 runUnderlying3) rfl ?_
    obtain ⟨r102, hr103, h⟩ := bnd_eq h
    refine .opg (G.call call68 (.cons .t0 (.cons .k .nil)) (S_blob_Num (s17.2.a7.toNat : Int) 4 r102 hr103) .nil .nil (fun _ _ => rfl) (fun _ _ => rfl) rfl) rfl fun u104 _ => ?_
    obtain ⟨hb106, h⟩ := grd_eq h
    refine .opg (G.app (by_ := 1) .t1 .t0 .k1 (.inr (.inr ⟨_, Mm.m0⟩)) runUnderlying40 runUnderlying40 sizeOf5 typeInfo5 rfl rfl zeroValue5 rfl (one_map one_5 _) (by simpa using hb106) rfl) rfl fun u105 _ => ?_
    refine .conseq .k0 (q := lst 5 1 u105 (((((((((([] : List UInt8) ++ r67) ++ r72) ++ r77) ++ r82) ++ r87) ++ r92) ++ r97) ++ r102).map (fun x => [B8 x]))) (fun _ hh => by simpa [List.map_append] using hh) ?_
    refine .drop .k2 ?_
    refine .opp (P.asg .t0) rfl ?_
    refine .nil ?_
    refine .inn ?_
    refine .then ?_
    refine .reg rfl ?_
    refine .opp (P.bin (v := N 8) .g1 .k (.addc (by decide))) rfl ?_
    refine .drop .k2 ?_
    refine .opp (P.mov .t0) rfl ?_
    refine .nil ?_
    refine .then ?_
    refine .rd ?_
    refine .seq ?_
    refine .reg rfl ?_
    refine .opp (P.bin (v := Bo false) .g0 .k (BinV.lss.boolc (by decide))) rfl ?_
    refine .nil ?_
    refine .then ?_
    refine .seq ?_
    refine .condF .t0 ?_
    refine .exit ?_
    refine .thx ?_
    refine .thx ?_
    refine .inb ?_
    refine .then ?_
    refine .seq ?_
    refine .reg rfl ?_
    refine .opp (P.mov .t1) rfl ?_
    refine .opp (P.asg .t0) rfl ?_
    refine .nil ?_
    refine .then ?_
    refine .ret ?_
    cases h
    exact .finm u105 .k13 (.r1 rfl (.tmp .g0)) trivial (Ls.of (.cons .k0 .nil)) .nil
attribute [irreducible] hash_Sum
end Go.Sl
