/- Walked code of the program, its pure functions and their contracts. -/
import Derived.Test.YteijfoldbinghaaProg
import Derived.Test.YteijfoldbinghaaSlDel
set_option linter.unusedVariables false
set_option linter.unusedSimpArgs false
namespace Go.Sl
open Go.Proofs Go.Proofs.Try
theorem follows_mixed : Try.prog.follows .mixedOrders = true := by kernel_rfl
abbrev mustCh (e : Int) : List PanicEntry := [{ v := .iface 240 (Ag [N e]), recovered := false }]
structure api_Step where
  Kind : Int
  A : Int
  B : Int
  C : Int
  Data : List UInt8
  deriving DecidableEq
def api_Step.cs (x : api_Step) (z0 : Value) : List Value := [N x.Kind, N x.A, N x.B, N x.C, z0]
def api_Step.g (x : api_Step) (z : Value) : Asn := rows 1 z (x.Data.map (fun x => [B8 x]))
def api_Step.z : api_Step := ⟨0, 0, 0, 0, []⟩
structure A3_i64 where
  a0 : Int
  a1 : Int
  a2 : Int
  deriving DecidableEq
def A3_i64.cs (x : A3_i64) : List Value := [N x.a0, N x.a1, N x.a2]
def A3_i64.list (x : A3_i64) : List Int := [x.a0, x.a1, x.a2]
def A3_i64.set (x : A3_i64) (k : Nat) (v : Int) : A3_i64 := ⟨if k = 0 then v else x.a0, if k = 1 then v else x.a1, if k = 2 then v else x.a2⟩
def A3_i64.z : A3_i64 := ⟨0, 0, 0⟩
theorem fa_123_0 : FaV Try.prog 123 0 0 := .mk runUnderlying123 rfl sizeOf3 rfl rfl
theorem fa_123_1 : FaV Try.prog 123 1 1 := .mk runUnderlying123 rfl sizeOf3 rfl rfl
theorem fa_123_2 : FaV Try.prog 123 2 2 := .mk runUnderlying123 rfl sizeOf3 rfl rfl
theorem fa_123_3 : FaV Try.prog 123 3 3 := .mk runUnderlying123 rfl sizeOf3 rfl rfl
theorem fa_123_4 : FaV Try.prog 123 4 4 := .mk runUnderlying123 rfl sizeOf44 rfl rfl
theorem pl_123 : ∀ w, ((#[{ name := "Kind", type := 3, offset := 0, embedded := false, tag := "", pkgPath := "", byteOffset := 0 }, { name := "A", type := 3, offset := 1, embedded := false, tag := "", pkgPath := "", byteOffset := 8 }, { name := "B", type := 3, offset := 2, embedded := false, tag := "", pkgPath := "", byteOffset := 16 }, { name := "C", type := 3, offset := 3, embedded := false, tag := "", pkgPath := "", byteOffset := 24 }, { name := "Data", type := 44, offset := 4, embedded := false, tag := "", pkgPath := "", byteOffset := 32 }] : Array Field).mapM fun f => do pure (f.offset, ← sizeOf f.type) : Sem (Array (Nat × Nat))).run Try.prog w = .ok #[(0, 1), (1, 1), (2, 1), (3, 1), (4, 1)] w := fun w => by simp [sizeOf3, sizeOf44]
theorem one_5 (x : UInt8) : oneAll ((fun x => [B8 x]) x) = true := rfl
theorem onez_123 (x : api_Step) {z0 : Value} (hz0 : z0.oneCell' = true) : oneAll (api_Step.cs x z0) = true := by
  simp only [oneAll, api_Step.cs, List.all_cons, List.all_nil, hz0]
  rfl
noncomputable def script_odd_1 (a0 : Int) : Bool :=
  thn (if (decide (a0 < (-32768))) = true then true else (decide (a0 ≥ 32768))) fun (y1 : Bool) => y1
set_option maxRecDepth 20000 in
set_option maxHeartbeats 1000000 in
theorem S_script_odd_1 (a0 : Int) (r : Bool) (h : script_odd_1 a0 = r) :
    SpecF Try.prog 123 [N a0] [] [] (fun z : Unit => True) (fun z => Bo r) (fun z M =>  M) (fun z M =>  M) := by
  refine .of func123 rfl ntmps123 rfl fun w0 D0 G0 => ?_
  unfold script_odd_1 at h
  refine .seq ?_
  refine .reg rfl ?_
  refine .op0 (OpP.toV (P.asg .k)) rfl ?_
  refine .nil ?_
  refine .then ?_
  obtain ⟨y1, hj3, h⟩ := thn_eq h
  refine .cutx (γ := Unit) (E1 := fun z2 => [(2, Bo y1)]) (L1 := fun z2 => []) (R1 := fun z2 => []) ?_ (fun z2 => ?_)
  · clear h
    refine .reg rfl ?_
    refine .opp (P.mov .g0) rfl ?_
    refine .opp (P.bin .t0 .k .lss) rfl ?_
    refine .opp (P.mov .t0) rfl ?_
    refine .split .k0 (fun c4 => ?_) (fun c4 => ?_)
    · rw [if_pos c4] at hj3
      refine .gno rfl .g0 rfl rfl ?_
      refine .gno rfl .g0 rfl rfl ?_
      refine .opp (P.pickT .t0 .k) rfl ?_
      refine .opp (P.asg .t0) rfl ?_
      refine .nil ?_
      subst hj3
      exact .stj () (.cons Mm.m0 .nil) (.of .nil) .nil
    · rw [if_neg (ne_true_of_eq_false c4)] at hj3
      refine .gyes rfl .g0 ?_
      refine .opp (P.mov .t1) rfl ?_
      refine .gyes rfl .g1 ?_
      refine .opp (P.bin .t0 .k .geq) rfl ?_
      refine .opp (P.pickF .t1 .t0) rfl ?_
      refine .opp (P.asg .t0) rfl ?_
      refine .nil ?_
      subst hj3
      exact .stj () (.cons Mm.m0 .nil) (.of .nil) .nil
  · clear hj3
    refine .ret ?_
    subst h
    exact .finw () (.r1 rfl (.tmp .g0)) trivial (Ls.of .nil) .nil
attribute [irreducible] script_odd_1
noncomputable def slices_IndexFunc_int_script_odd_1 (a0 : List Int) : Option (Int) :=
  Option.bind (loopR (fun (i1 : Nat) (e4 : Int) (s2 : Unit) => if (script_odd_1 e4) = true then (Option.map Ct.rt (some (i1 : Int))) else (some (.nx ()))) 0 a0 ()) fun o5 => Lo.on o5 fun (s2 : Unit) => some (-1)
set_option maxRecDepth 20000 in
set_option maxHeartbeats 1000000 in
theorem S_slices_IndexFunc_int_script_odd_1 (v00 : Value) (a0 : List Int) (r : Int) (h : slices_IndexFunc_int_script_odd_1 a0 = some r) :
    SpecF Try.prog 164 [v00, fnv 123 []] [] [rows 1 v00 (a0.map (fun x => [N x]))] (fun z : Unit => True) (fun z => N r) (fun z M =>  M) (fun z M =>  M) := by
  refine .of func164 rfl ntmps164 rfl fun w0 D0 G0 => ?_
  unfold slices_IndexFunc_int_script_odd_1 at h
  refine .seq ?_
  refine .reg rfl ?_
  refine .op0 (OpP.toV (P.asg .k)) rfl ?_
  refine .nil ?_
  refine .then ?_
  refine .seq ?_
  refine .seq ?_
  refine .reg rfl ?_
  refine .opp (P.mov .g0) rfl ?_
  refine .op (V.lnr (n := a0.length) .t0 Mm.m0 map_len runUnderlying128) rfl ?_
  refine .opp (P.mov .k) rfl ?_
  refine .nil ?_
  refine .then ?_
  refine .block ?_
  obtain ⟨o5, ho6, h⟩ := bnd_eq h
  refine .lenq Mm.m0 fun hl12 => ?_
  rw [map_len] at hl12
  refine .loopR (γ := Unit) (fun i1 (s2 : Unit) z3 => [(8, N (i1 : Int)), (7, N (a0.length : Int)), (0, v00), (1, fnv 123 [])]) (fun (s2 : Unit) z3 => []) (fun (s2 : Unit) z3 => [rows 1 v00 (a0.map (fun x => [N x]))]) () ho6 (.cons Mm.m0 (.cons Mm.m1 (.cons Mm.m2 (.cons Mm.m3 .nil)))) (.of .nil) (.cons Mm.m0 .nil) (fun i1 s2 z3 hi13 hr9 => ?_)
  refine .seq ?_
  refine .reg rfl ?_
  refine .opp (P.bin (v := Bo (decide ((i1 : Int) < (a0.length : Nat)))) .g0 .g1 .lss) rfl ?_
  refine .nil ?_
  refine .then ?_
  refine .seq ?_
  refine .cond .t0 (fun c14 => ?_) (fun c14 => ?_)
  · obtain ⟨e4, hx11⟩ := get_of c14
    obtain ⟨ct10, hc7, hn8⟩ := loopR_at hx11 hr9
    refine .skip ?_
    refine .then ?_
    refine .seq ?_
    refine .block ?_
    refine .seq ?_
    refine .reg rfl ?_
    refine .opp (P.mov .g0) rfl ?_
    refine .opp (P.asg .t0) rfl ?_
    refine .nil ?_
    refine .then ?_
    refine .seq ?_
    refine .reg rfl ?_
    refine .opp (P.mov .g4) rfl ?_
    refine .opp (P.mov .g4) rfl ?_
    refine .opp (P.mov .g2) rfl ?_
    refine .ixq Mm.m0 (map_get hx11) fun p15 q16 hq17 => ?_
    refine .opp (P.ixi (i := i1) .t0 rfl .t0 hq17 runUnderlying128 sizeOf3) rfl ?_
    refine .op (V.ldx0 (u := N e4) .t0 hq17 Mm.m0 (map_get hx11) (.one isAgg3 rfl)) rfl ?_
    refine .opg (G.callv call123 .t1 (.cons .t0 .nil) (S_script_odd_1 e4 _ rfl) .nil .nil (fun _ _ => rfl) (fun _ _ => rfl) rfl) rfl fun _ _ => ?_
    refine .nil ?_
    refine .then ?_
    refine .cond .t0 (fun c18 => ?_) (fun c18 => ?_)
    · rw [if_pos c18] at hc7
      refine .seq ?_
      refine .reg rfl ?_
      refine .opp (P.mov .t0) rfl ?_
      refine .opp (P.asg .t0) rfl ?_
      refine .nil ?_
      refine .then ?_
      refine .ret ?_
      refine .inr ?_
      refine .thr ?_
      obtain ⟨x19, hx20, rfl⟩ := map_rt hc7
      obtain rfl := hn8
      obtain rfl := rt_on h
      refine .thr ?_
      refine .inr ?_
      refine .thr ?_
      cases hx20
      exact .finw () (.r1 rfl (.tmp .g0)) trivial (Ls.of .nil) .nil
    · rw [if_neg (ne_true_of_eq_false c18)] at hc7
      refine .skip ?_
      refine .inn ?_
      refine .then ?_
      refine .reg rfl ?_
      refine .opp (P.bin .g1 .k (.addc (inc_ok (lt_of_get hx11) hl12))) rfl ?_
      refine .drop .k2 ?_
      refine .opp (P.mov .t0) rfl ?_
      refine .nil ?_
      cases hc7
      exact .rdR () () hn8 (lt_of_get hx11) (.cons Mm.m0 (.cons Mm.m2 (.cons Mm.m3 (.cons Mm.m4 .nil)))) (.of .nil) (.cons Mm.m0 .nil)
  · obtain rfl := loopR_end (le_of_not c14) hr9
    have h := dn_on h
    refine .exit ?_
    refine .thx ?_
    refine .thx ?_
    refine .inb ?_
    refine .then ?_
    refine .seq ?_
    refine .reg rfl ?_
    refine .opp (P.asg .k) rfl ?_
    refine .nil ?_
    refine .then ?_
    refine .ret ?_
    cases h
    exact .finw () (.r1 rfl (.tmp .g0)) trivial (Ls.of .nil) .nil
attribute [irreducible] slices_IndexFunc_int_script_odd_1
noncomputable def slices_ContainsFunc_int_script_odd_1 (a0 : List Int) : Option (Bool) :=
  Option.bind (slices_IndexFunc_int_script_odd_1 a0) fun r1 => some (decide (r1 ≥ 0))
set_option maxRecDepth 20000 in
set_option maxHeartbeats 1000000 in
theorem S_slices_ContainsFunc_int_script_odd_1 (v00 : Value) (a0 : List Int) (r : Bool) (h : slices_ContainsFunc_int_script_odd_1 a0 = some r) :
    SpecF Try.prog 122 [v00, fnv 123 []] [] [rows 1 v00 (a0.map (fun x => [N x]))] (fun z : Unit => True) (fun z => Bo r) (fun z M =>  M) (fun z M =>  M) := by
  refine .of func122 rfl ntmps122 rfl fun w0 D0 G0 => ?_
  unfold slices_ContainsFunc_int_script_odd_1 at h
  refine .seq ?_
  refine .reg rfl ?_
  refine .op0 (OpP.toV (P.asg .k)) rfl ?_
  refine .nil ?_
  refine .then ?_
  refine .seq ?_
  refine .reg rfl ?_
  refine .opp (P.mov .t0) rfl ?_
  refine .opp (P.mov .t1) rfl ?_
  obtain ⟨r1, hr2, h⟩ := bnd_eq h
  refine .opg (G.call call164 (.cons .t1 (.cons .t0 .nil)) (S_slices_IndexFunc_int_script_odd_1 v00 a0 r1 hr2) .nil (.cons Mm.m0 .nil) (fun _ _ => rfl) (fun _ _ => rfl) rfl) rfl fun _ _ => ?_
  refine .opp (P.bin .t0 .k .geq) rfl ?_
  refine .opp (P.asg .t0) rfl ?_
  refine .nil ?_
  refine .then ?_
  refine .ret ?_
  cases h
  exact .finw () (.r1 rfl (.tmp .g0)) trivial (Ls.of .nil) .nil
attribute [irreducible] slices_ContainsFunc_int_script_odd_1
noncomputable def script_odd (a0 : api_Step) : Option (Bool) :=
  Option.bind (if (decide (a0.Kind < 0)) = true then (some true) else (if (decide (a0.Kind > 255)) = true then (some true) else (Option.bind (slices_ContainsFunc_int_script_odd_1 ([a0.A, a0.B, a0.C] : List Int)) fun r8 => some r8))) fun (y2 : Bool) => some y2
set_option maxRecDepth 20000 in
set_option maxHeartbeats 1000000 in
theorem S_script_odd (a0 : api_Step) (z00a : Value) (r : Bool) (h : script_odd a0 = some r) :
    SpecF Try.prog 63 [Ag (api_Step.cs a0 z00a)] [] [rows 1 z00a (a0.Data.map (fun x => [B8 x]))] (fun z : Unit => True) (fun z => Bo r) (fun z M =>  M) (fun z M =>  M) := by
  refine .of func63 rfl ntmps63 rfl fun w0 D0 G0 => ?_
  unfold script_odd at h
  refine .seq ?_
  refine .reg rfl ?_
  refine .opx (X.box (cs := (api_Step.cs a0 z00a)) .t0 rfl) rfl fun b1 => ?_
  refine .op0 (OpP.toV (P.asg .k)) rfl ?_
  refine .nil ?_
  refine .then ?_
  obtain ⟨y2, hj4, h⟩ := bnd_eq h
  refine .cutx (γ := Unit) (E1 := fun z3 => [(2, Bo y2)]) (L1 := fun z3 => []) (R1 := fun z3 => [rows 1 z00a (a0.Data.map (fun x => [B8 x]))]) ?_ (fun z3 => ?_)
  · clear h
    refine .reg rfl ?_
    refine .opp (P.fa .g0 fa_123_0 rfl) rfl ?_
    refine .op (V.ld (v := N a0.Kind) .t0 .k0 (.one isAgg3 rfl)) rfl ?_
    refine .opp (P.bin .t0 .k .lss) rfl ?_
    refine .opp (P.mov .t0) rfl ?_
    refine .split .k0 (fun c5 => ?_) (fun c5 => ?_)
    · rw [if_pos c5] at hj4
      refine .gno rfl .g0 rfl rfl ?_
      refine .gno rfl .g0 rfl rfl ?_
      refine .gno rfl .g0 rfl rfl ?_
      refine .opp (P.pickT .t0 .k) rfl ?_
      refine .opp (P.mov .t0) rfl ?_
      refine .gno rfl .g0 rfl rfl ?_
      refine .gno rfl .g0 rfl rfl ?_
      refine .gno rfl .g0 rfl rfl ?_
      refine .gno rfl .g0 rfl rfl ?_
      refine .gno rfl .g0 rfl rfl ?_
      refine .gno rfl .g0 rfl rfl ?_
      refine .gno rfl .g0 rfl rfl ?_
      refine .gno rfl .g0 rfl rfl ?_
      refine .opp (P.pickT .t0 .k) rfl ?_
      refine .opp (P.asg .t0) rfl ?_
      refine .nil ?_
      cases hj4
      exact .stj () (.cons Mm.m0 .nil) (.of .nil) (.cons Mm.m0 .nil)
    · rw [if_neg (ne_true_of_eq_false c5)] at hj4
      refine .gyes rfl .g0 ?_
      refine .opp (P.fa .g1 fa_123_0 rfl) rfl ?_
      refine .gyes rfl .g1 ?_
      refine .op (V.ld (v := N a0.Kind) .t0 .k0 (.one isAgg3 rfl)) rfl ?_
      refine .gyes rfl .g1 ?_
      refine .opp (P.bin .t0 .k .gtr) rfl ?_
      refine .opp (P.pickF .t1 .t0) rfl ?_
      refine .opp (P.mov .t0) rfl ?_
      refine .split .k0 (fun c6 => ?_) (fun c6 => ?_)
      · rw [if_pos c6] at hj4
        refine .gno rfl .g0 rfl rfl ?_
        refine .gno rfl .g0 rfl rfl ?_
        refine .gno rfl .g0 rfl rfl ?_
        refine .gno rfl .g0 rfl rfl ?_
        refine .gno rfl .g0 rfl rfl ?_
        refine .gno rfl .g0 rfl rfl ?_
        refine .gno rfl .g0 rfl rfl ?_
        refine .gno rfl .g0 rfl rfl ?_
        refine .opp (P.pickT .t0 .k) rfl ?_
        refine .opp (P.asg .t0) rfl ?_
        refine .nil ?_
        cases hj4
        exact .stj () (.cons Mm.m0 .nil) (.of .nil) (.cons Mm.m0 .nil)
      · rw [if_neg (ne_true_of_eq_false c6)] at hj4
        refine .gyes rfl .g0 ?_
        refine .opp (P.fa .g1 fa_123_1 rfl) rfl ?_
        refine .gyes rfl .g1 ?_
        refine .op (V.ld (v := N a0.A) .t0 .k0 (.one isAgg3 rfl)) rfl ?_
        refine .gyes rfl .g1 ?_
        refine .opp (P.fa .g2 fa_123_2 rfl) rfl ?_
        refine .gyes rfl .g2 ?_
        refine .op (V.ld (v := N a0.B) .t0 .k0 (.one isAgg3 rfl)) rfl ?_
        refine .gyes rfl .g2 ?_
        refine .opp (P.fa .t3 fa_123_3 rfl) rfl ?_
        refine .gyes rfl .g3 ?_
        refine .op (V.ld (v := N a0.C) .t0 .k0 (.one isAgg3 rfl)) rfl ?_
        refine .gyes rfl .g3 ?_
        refine .opg (G.bsln (xs := [[N a0.A], [N a0.B], [N a0.C]]) (.cons .t2 (.cons .t1 (.cons .t0 .nil))) runUnderlying128 sizeOf3 zeroValue3 (by kernel_rfl) rfl rfl rfl rfl rfl) rfl fun u7 _ => ?_
        refine .gyes rfl .g1 ?_
        refine .frz .k0 ?_
        obtain ⟨r8, hr9, hj4⟩ := bnd_eq hj4
        refine .opg (G.call call122 (.cons .t0 (.cons .f .nil)) (S_slices_ContainsFunc_int_script_odd_1 u7 ([a0.A, a0.B, a0.C] : List Int) r8 hr9) .nil (.cons Mm.m0 .nil) (fun _ _ => rfl) (fun _ _ => rfl) rfl) rfl fun _ _ => ?_
        refine .opp (P.pickF .t1 .t0) rfl ?_
        refine .opp (P.asg .t0) rfl ?_
        refine .nil ?_
        cases hj4
        exact .stj () (.cons Mm.m0 .nil) (.of .nil) (.cons Mm.m1 .nil)
  · clear hj4
    refine .ret ?_
    cases h
    exact .finw () (.r1 rfl (.tmp .g0)) trivial (Ls.of .nil) .nil
attribute [irreducible] script_odd
noncomputable def slices_Backward_byte  : Unit :=
  ()
set_option maxRecDepth 20000 in
set_option maxHeartbeats 1000000 in
theorem S_slices_Backward_byte (v00 : Value) (hv00 : IsSl v00) (r : Unit) (h : slices_Backward_byte  = r) :
    SpecF Try.prog 165 [v00] [] [] (fun z : Nat => True) (fun z => fnv 194 [pt z 0]) (fun z M => blk z 44 [v00] ::  M) (fun z M =>  M) := by
  refine .of func165 rfl ntmps165 rfl fun w0 D0 G0 => ?_
  unfold slices_Backward_byte at h
  refine .seq ?_
  refine .reg rfl ?_
  refine .opx (X.box (cs := [v00]) .t0 hv00.cells) rfl fun b1 => ?_
  refine .op0 (OpP.toV (P.asg .k)) rfl ?_
  refine .nil ?_
  refine .then ?_
  refine .seq ?_
  refine .reg rfl ?_
  refine .opp (P.mkf (.cons .t0 .nil)) rfl ?_
  refine .opp (P.asg .t0) rfl ?_
  refine .nil ?_
  refine .then ?_
  refine .ret ?_
  subst h
  exact .finw b1 (.r1 rfl (.tmp .g0)) trivial (Ls.of (.cons .k0 .nil)) .nil
attribute [irreducible] slices_Backward_byte
noncomputable def blob_Num (a0 : Int) (a1 : Int) : Option ((List UInt8)) :=
  grd (0 ≤ (if 8 < (if 0 > a1 then 0 else a1) then 8 else if 0 > a1 then 0 else a1) ∧ (if 8 < (if 0 > a1 then 0 else a1) then 8 else if 0 > a1 then 0 else a1) * 1 ≤ 140737488355328) <| Option.bind (loopW (fun (s14 : Int × (List UInt8) × (List UInt8) × Int) => if (decide (s14.1 ≥ 0)) = true then (Option.bind (at_ s14.2.1 s14.1) fun (x27 : UInt8) => Option.bind (at_ s14.2.1 s14.1) fun (x36 : UInt8) => some (.nx ((IntKind.i64.wrap (s14.1 - 1), (s14.2.1.set (s14.1).toNat (B8i s14.2.2.2 : UInt8)), (s14.2.1.set (s14.1).toNat (B8i s14.2.2.2 : UInt8)), shrK .i64 s14.2.2.2 8)))) else (some (.br (s14.1, s14.2.1, s14.2.1, s14.2.2.2)))) ((IntKind.i64.wrap (((List.replicate (if 8 < (if 0 > a1 then 0 else a1) then 8 else if 0 > a1 then 0 else a1).toNat (0 : UInt8)).length : Int) - 1), (List.replicate (if 8 < (if 0 > a1 then 0 else a1) then 8 else if 0 > a1 then 0 else a1).toNat (0 : UInt8)), (List.replicate (if 8 < (if 0 > a1 then 0 else a1) then 8 else if 0 > a1 then 0 else a1).toNat (0 : UInt8)), a0))) fun o16 => Lo.on o16 fun (s14 : Int × (List UInt8) × (List UInt8) × Int) => some s14.2.1
set_option maxRecDepth 20000 in
set_option maxHeartbeats 1000000 in
theorem S_blob_Num (a0 : Int) (a1 : Int) (r : (List UInt8)) (h : blob_Num a0 a1 = some r) :
    SpecF Try.prog 124 [N a0, N a1] [] [] (fun z : Value => True) (fun z => z) (fun z M => lst 5 1 z (r.map (fun x => [B8 x])) ::  M) (fun z M =>  M) := by
  refine .of func124 rfl ntmps124 rfl fun w0 D0 G0 => ?_
  unfold blob_Num at h
  refine .seq ?_
  refine .reg rfl ?_
  refine .opx (X.box (cs := [N a0]) .t0 rfl) rfl fun b1 => ?_
  refine .op0 (OpP.toV (P.asg .k)) rfl ?_
  refine .nil ?_
  refine .then ?_
  refine .seq ?_
  refine .reg rfl ?_
  refine .opp (P.mov .t1) rfl ?_
  refine .opp (P.max2 .t0 .k) rfl ?_
  refine .opp (P.min2 .t0 .k) rfl ?_
  obtain ⟨hb3, h⟩ := grd_eq h
  refine .opg (G.mks (by_ := 1) (cs := [B8 0]) .g0 .t0 runUnderlying44 sizeOf5 typeInfo5 rfl zeroValue5 rfl rfl rfl rfl hb3.1 hb3.2 rfl) rfl fun u2 _ => ?_
  refine .conseq .k0 (q := lst 5 1 u2 ((List.replicate (if 8 < (if 0 > a1 then 0 else a1) then 8 else if 0 > a1 then 0 else a1).toNat (0 : UInt8)).map (fun x => [B8 x]))) (fun _ hh => by simpa [List.map_replicate] using hh) ?_
  refine .opx (X.alc (cs := [nilSl]) zeroValue44 rfl) rfl fun b4 => ?_
  refine .onel .k1 fun ho5 => ?_
  refine .opg (G.str .t1 .g0 .k0 (.mk1 (cs' := [u2]) sizeOf44 rfl ho5 rfl rfl)) rfl fun _ _ => ?_
  refine .nil ?_
  refine .then ?_
  refine .seq ?_
  refine .seq ?_
  refine .reg rfl ?_
  refine .op (V.ld (v := u2) .g0 .k0 (.one isAgg44 rfl)) rfl ?_
  refine .cell .k1 fun hv6 => ?_
  refine .opg (G.call call165 (.cons .t0 .nil) (S_slices_Backward_byte u2 hv6 _ rfl) .nil .nil (fun _ _ => rfl) (fun _ _ => rfl) rfl) rfl fun b7 _ => ?_
  refine .nil ?_
  refine .then ?_
  refine .block ?_
  refine .rangeF rfl .t0 call194 func194 rfl ntmps194 rfl fun a8 O9 D10 l11 ha12 hO13 => ?_
  refine .seq ?_
  refine .reg rfl ?_
  refine .op (V.ld (v := u2) .g1 .k2 (.one isAgg44 rfl)) rfl ?_
  refine .op (V.lnl (n := (List.replicate (if 8 < (if 0 > a1 then 0 else a1) then 8 else if 0 > a1 then 0 else a1).toNat (0 : UInt8)).length) .t0 .k4 map_len runUnderlying44) rfl ?_
  refine .opp (P.bin .t0 .k .sub) rfl ?_
  refine .opp (P.asg .t0) rfl ?_
  refine .nil ?_
  refine .then ?_
  refine .block ?_
  obtain ⟨o16, ho17, h⟩ := bnd_eq h
  refine .loopW (γ := Unit) (fun (s14 : Int × (List UInt8) × (List UInt8) × Int) z15 => [(3, N s14.1), (0, yv l11), (1, pt b7 0)]) (fun (s14 : Int × (List UInt8) × (List UInt8) × Int) z15 => [blk b7 44 [u2], blk b4 44 [u2], blk b1 3 [N s14.2.2.2], lst 5 1 u2 (s14.2.1.map (fun x => [B8 x])), obj l11 (O9 .ready none), obj D10 (.deferred (some []))]) (fun (s14 : Int × (List UInt8) × (List UInt8) × Int) z15 => []) () ho17 (.cons Mm.m0 (.cons Mm.m1 (.cons Mm.m2 .nil))) (.of (.cons .k2 (.cons .k2 (.cons .k3 (.cons .k2 (.cons .k0 (.cons .k0 .nil))))))) .nil (fun n22 s14 z15 hr20 => ?_)
  obtain ⟨ct21, hc18, hn19⟩ := loopK_at hr20
  refine .seq ?_
  refine .seq ?_
  refine .reg rfl ?_
  refine .opp (P.mov .g0) rfl ?_
  refine .opp (P.bin .t0 .k .geq) rfl ?_
  refine .nil ?_
  refine .then ?_
  refine .cond .t0 (fun c23 => ?_) (fun c23 => ?_)
  · rw [if_pos c23] at hc18
    refine .skip ?_
    refine .then ?_
    refine .seq ?_
    refine .block ?_
    refine .seq ?_
    refine .regY 6 rfl ?_
    refine .opp (P.mov .g1) rfl ?_
    refine .opp (P.mov .g1) rfl ?_
    refine .op (V.ld (v := u2) .g4 .k0 (.one isAgg44 rfl)) rfl ?_
    refine .opp (P.mov .g3) rfl ?_
    obtain ⟨x27, hx28, hc18⟩ := bnd_eq hc18
    obtain ⟨i29, hi30, hx28⟩ := at_eq hx28
    have hi30_ : (s14.1).toNat = i29 := by rw [hi30]; rfl
    refine .ixql .k3 (map_get hx28) fun p24 q25 hq26 => ?_
    refine .opp (P.ixi (i := i29) .t0 hi30 .t0 hq26 runUnderlying44 sizeOf5) rfl ?_
    refine .op (V.ldxl0 (u := B8 x27) .t0 hq26 .k3 (map_get hx28) (.one isAgg5 rfl)) rfl ?_
    refine .nil ?_
    refine .then ?_
    refine .yield (ps := [13, 14]) .t2 (.cons .t1 (.cons .t0 .nil)) hO13 .k4 rfl rfl (by decide) fun a31 ha32 => ?_
    refine .reg rfl ?_
    refine .opp (P.asg .t0) rfl ?_
    refine .nil ?_
    refine .then ?_
    refine .bg rfl hO13 .k0 ?_
    refine .block ?_
    refine .seq ?_
    refine .reg rfl ?_
    refine .op (V.ld (v := u2) .t2 .k2 (.one isAgg44 rfl)) rfl ?_
    refine .opp (P.mov .t1) rfl ?_
    refine .op (V.ld (v := N s14.2.2.2) .g3 .k3 (.one isAgg3 rfl)) rfl ?_
    refine .opp (P.cnvB8 (m := s14.2.2.2) .t0 runUnderlying3 runUnderlying5) rfl ?_
    obtain ⟨x36, hx37, hc18⟩ := bnd_eq hc18
    obtain ⟨i38, hi39, hx37⟩ := at_eq hx37
    have hi39_ : (s14.1).toNat = i38 := by rw [hi39]; rfl
    refine .ixql .k4 (map_get hx37) fun p33 q34 hq35 => ?_
    refine .opp (P.ixi (i := i38) .t1 hi39 .t1 hq35 runUnderlying44 sizeOf5) rfl ?_
    refine .opg (G.stx (off := q34) (k := 0) (cs' := [B8 (B8i s14.2.2.2)]) .t1 .t0 hq35 .k4 (map_get hx37) (.mk sizeOf5 rfl rfl rfl rfl)) rfl fun _ _ => ?_
    refine .conseq .k0 (q := lst 5 1 u2 ((s14.2.1.set (s14.1).toNat (B8i s14.2.2.2 : UInt8)).map (fun x => [B8 x]))) (fun _ h_ => by rw [hi39_]; simpa [List.map_set] using h_) ?_
    refine .nil ?_
    refine .then ?_
    refine .reg rfl ?_
    refine .op (V.ld (v := N s14.2.2.2) .g1 .k4 (.one isAgg3 rfl)) rfl ?_
    refine .opp (P.bin .t0 .k (.shr (by decide))) rfl ?_
    refine .opg (G.str .t0 .t1 .k4 (.mk (cs' := [N (shrK .i64 s14.2.2.2 8)]) sizeOf3 rfl rfl rfl rfl)) rfl fun _ _ => ?_
    refine .nil ?_
    refine .inn ?_
    refine .rnorm rfl ⟨rfl, rfl, rfl⟩ ha32 hO13 .k2 rfl ?_
    refine .inL rfl ?_
    refine .opp (P.not .t0) rfl ?_
    refine .nil ?_
    refine .then ?_
    refine .condF .t0 ?_
    refine .skip ?_
    refine .inn ?_
    refine .then ?_
    refine .reg rfl ?_
    refine .opp (P.mov .g0) rfl ?_
    refine .opp (P.bin .t0 .k .sub) rfl ?_
    refine .drop .k1 ?_
    refine .opp (P.asg .t0) rfl ?_
    refine .nil ?_
    cases hc18
    obtain ⟨m40, hm41, hn19⟩ := hn19
    exact .rdW ((IntKind.i64.wrap (s14.1 - 1), (s14.2.1.set (s14.1).toNat (B8i s14.2.2.2 : UInt8)), (s14.2.1.set (s14.1).toNat (B8i s14.2.2.2 : UInt8)), shrK .i64 s14.2.2.2 8)) () hm41 hn19 (.cons Mm.m0 (.cons Mm.m1 (.cons Mm.m2 .nil))) (.of (.cons .k3 (.cons .k3 (.cons .k1 (.cons .k1 (.cons .k0 (.cons .k0 .nil))))))) .nil
  · rw [if_neg (ne_true_of_eq_false c23)] at hc18
    refine .exit ?_
    refine .thx ?_
    cases hc18
    refine .told (γ := Unit) h hn19 (fun (s14 : Int × (List UInt8) × (List UInt8) × Int) _ => [(3, N s14.1), (0, yv l11), (1, pt b7 0)]) (fun (s14 : Int × (List UInt8) × (List UInt8) × Int) _ => [blk b7 44 [u2], blk b4 44 [u2], blk b1 3 [N s14.2.2.2], lst 5 1 u2 (s14.2.1.map (fun x => [B8 x])), obj l11 (O9 .ready none), obj D10 (.deferred (some []))]) (fun (s14 : Int × (List UInt8) × (List UInt8) × Int) _ => []) () (.cons Mm.m0 (.cons Mm.m1 (.cons Mm.m2 .nil))) (.of (.cons .k0 (.cons .k0 (.cons .k0 (.cons .k0 (.cons .k0 (.cons .k0 .nil))))))) .nil (fun s14 _ h' => ?_)
    replace h := h'
    refine .thx ?_
    refine .inb ?_
    refine .rfinn ha12 hO13 .k4 rfl ?_
    refine .inn ?_
    refine .then ?_
    refine .seq ?_
    refine .reg rfl ?_
    refine .op (V.ld (v := u2) .t0 .k1 (.one isAgg44 rfl)) rfl ?_
    refine .opp (P.asg .t0) rfl ?_
    refine .nil ?_
    refine .then ?_
    refine .ret ?_
    cases h
    exact .finm u2 .k4 (.r1 rfl (.tmp .g0)) trivial (Ls.of (.cons .k3 .nil)) .nil
attribute [irreducible] blob_Num
noncomputable def slices_Grow_byte_nil (a1 : Int) : Option ((List UInt8)) :=
  if (decide (a1 < 0)) = true then none else (Option.bind (if (decide ((IntKind.i64.wrap (a1 - 0)) > 0)) = true then (grd (0 ≤ (IntKind.i64.wrap (a1 - 0)) ∧ (IntKind.i64.wrap (a1 - 0)) * 1 ≤ 70368744177664) <| some ()) else (some ())) fun (y2 : Unit) => some ([] : List UInt8))
set_option maxRecDepth 20000 in
set_option maxHeartbeats 1000000 in
theorem S_slices_Grow_byte_nil (a1 : Int) (r : (List UInt8)) (h : slices_Grow_byte_nil a1 = some r) :
    SpecF Try.prog 195 [nilSl, N a1] [] [] (fun z : Value => True) (fun z => z) (fun z M => lst 5 1 z (r.map (fun x => [B8 x])) ::  M) (fun z M =>  M) := by
  refine .of func195 rfl ntmps195 rfl fun w0 D0 G0 => ?_
  unfold slices_Grow_byte_nil at h
  refine .seq ?_
  refine .reg rfl ?_
  refine .op0 (OpP.toV (P.asg .k)) rfl ?_
  refine .nil ?_
  refine .then ?_
  refine .seq ?_
  refine .seq ?_
  refine .reg rfl ?_
  refine .opp (P.mov .g1) rfl ?_
  refine .opp (P.bin .t0 .k .lss) rfl ?_
  refine .nil ?_
  refine .then ?_
  refine .cond .t0 (fun c1 => ?_) (fun c1 => ?_)
  · rw [if_pos c1] at h
    refine .reg rfl ?_
    cases h
  · rw [if_neg (ne_true_of_eq_false c1)] at h
    refine .skip ?_
    refine .then ?_
    obtain ⟨y2, hj4, h⟩ := bnd_eq h
    refine .cutx (γ := Value) (E1 := fun z3 => [(0, z3)]) (L1 := fun z3 => [lst 5 1 z3 []]) (R1 := fun z3 => []) ?_ (fun z3 => ?_)
    · clear h
      refine .seq ?_
      refine .reg rfl ?_
      refine .opp (P.mov .g1) rfl ?_
      refine .opp (P.mov .g1) rfl ?_
      refine .opp (P.capn .t0 runUnderlying44) rfl ?_
      refine .opp (P.mov .g2) rfl ?_
      refine .opp (P.lenn .t0 runUnderlying44) rfl ?_
      refine .opp (P.bin (v := N 0) .t1 .t0 (.subc (by decide))) rfl ?_
      refine .opp (P.bin .t1 .t0 .sub) rfl ?_
      refine .drop .k2 ?_
      refine .opp (P.asg .t0) rfl ?_
      refine .nil ?_
      refine .then ?_
      refine .seq ?_
      refine .reg rfl ?_
      refine .opp (P.mov .g0) rfl ?_
      refine .opp (P.bin .t0 .k .gtr) rfl ?_
      refine .nil ?_
      refine .then ?_
      refine .cond .t0 (fun c5 => ?_) (fun c5 => ?_)
      · rw [if_pos c5] at hj4
        refine .reg rfl ?_
        refine .opp (P.mov .g1) rfl ?_
        refine .opp (P.mov .g2) rfl ?_
        refine .opp (P.capn .t0 runUnderlying44) rfl ?_
        refine .opp (P.sln .t1 .t0 runUnderlying44 sizeOf5) rfl ?_
        refine .opp (P.mov .t1) rfl ?_
        obtain ⟨hb7, hj4⟩ := grd_eq hj4
        refine .opg (G.appn (by_ := 1) (cs := [B8 0]) (m := IntKind.i64.wrap (a1 - 0)) .t1 .t0 runUnderlying44 runUnderlying3 sizeOf5 typeInfo5 rfl rfl zeroValue5 rfl rfl rfl hb7.1 hb7.2 rfl) rfl fun u6 _ => ?_
        refine .conseq .k0 (q := lst 5 1 u6 ((List.replicate (IntKind.i64.wrap (a1 - 0)).toNat (0 : UInt8)).map (fun x => [B8 x]))) (fun _ hh => by simpa [List.map_replicate] using hh) ?_
        refine .opp (P.mov .g1) rfl ?_
        refine .opp (P.lenn .t0 runUnderlying44) rfl ?_
        refine .opg (G.sll (m := 0) .t1 .t0 .k0 runUnderlying44 sizeOf5 (by decide) (Int.natCast_nonneg _) rfl) rfl fun u8 _ => ?_
        refine .conseq .k0 (q := lst 5 1 u8 []) (fun _ hh => by simpa using hh) ?_
        refine .drop .k1 ?_
        refine .opp (P.asg .t0) rfl ?_
        refine .nil ?_
        cases hj4
        exact .stj u8 (.cons Mm.m0 .nil) (.of (.cons .k0 .nil)) .nil
      · rw [if_neg (ne_true_of_eq_false c5)] at hj4
        refine .skip ?_
        cases hj4
        refine .lnil 5 1 ?_
        exact .stj nilSl (.cons Mm.m1 .nil) (.of (.cons .k0 .nil)) .nil
    · clear hj4
      refine .seq ?_
      refine .reg rfl ?_
      refine .opp (P.mov .t0) rfl ?_
      refine .opp (P.asg .t0) rfl ?_
      refine .nil ?_
      refine .then ?_
      refine .ret ?_
      cases h
      exact .finw z3 (.r1 rfl (.tmp .g0)) trivial (Ls.of (.cons .k0 .nil)) .nil
attribute [irreducible] slices_Grow_byte_nil
noncomputable def slices_Concat_byte_n3 (a0a : List UInt8) (a0b : List UInt8) (a0c : List UInt8) : Option ((List UInt8)) :=
  if (decide ((IntKind.i64.wrap (0 + (a0a.length : Int))) < 0)) = true then none else (if (decide ((IntKind.i64.wrap ((IntKind.i64.wrap (0 + (a0a.length : Int))) + (a0b.length : Int))) < 0)) = true then none else (if (decide ((IntKind.i64.wrap ((IntKind.i64.wrap ((IntKind.i64.wrap (0 + (a0a.length : Int))) + (a0b.length : Int))) + (a0c.length : Int))) < 0)) = true then none else (Option.bind (slices_Grow_byte_nil (IntKind.i64.wrap ((IntKind.i64.wrap ((IntKind.i64.wrap (0 + (a0a.length : Int))) + (a0b.length : Int))) + (a0c.length : Int)))) fun r13 => grd ((r13.length + a0a.length) * 1 ≤ 140737488355328) <| grd (((r13 ++ a0a).length + a0b.length) * 1 ≤ 140737488355328) <| grd ((((r13 ++ a0a) ++ a0b).length + a0c.length) * 1 ≤ 140737488355328) <| some ((((r13 ++ a0a) ++ a0b) ++ a0c)))))
set_option maxRecDepth 20000 in
set_option maxHeartbeats 1000000 in
theorem S_slices_Concat_byte_n3 (v00 : Value) (z00a : Value) (a0a : List UInt8) (z00b : Value) (a0b : List UInt8) (z00c : Value) (a0c : List UInt8) (r : (List UInt8)) (h : slices_Concat_byte_n3 a0a a0b a0c = some r) :
    SpecF Try.prog 166 [v00] [] [rows 1 v00 [[z00a], [z00b], [z00c]], rows 1 z00a (a0a.map (fun x => [B8 x])), rows 1 z00b (a0b.map (fun x => [B8 x])), rows 1 z00c (a0c.map (fun x => [B8 x]))] (fun z : Value => True) (fun z => z) (fun z M => lst 5 1 z (r.map (fun x => [B8 x])) ::  M) (fun z M =>  M) := by
  refine .of func166 rfl ntmps166 rfl fun w0 D0 G0 => ?_
  unfold slices_Concat_byte_n3 at h
  refine .seq ?_
  refine .reg rfl ?_
  refine .op0 (OpP.toV (P.asg .k)) rfl ?_
  refine .nil ?_
  refine .then ?_
  refine .seq ?_
  refine .reg rfl ?_
  refine .opp (P.asg .k) rfl ?_
  refine .nil ?_
  refine .then ?_
  refine .seq ?_
  refine .seq ?_
  refine .reg rfl ?_
  refine .opp (P.mov .g1) rfl ?_
  refine .op (V.lnr (n := 3) .g0 Mm.m0 rfl runUnderlying212) rfl ?_
  refine .opp (P.mov .k) rfl ?_
  refine .nil ?_
  refine .then ?_
  refine .block ?_
  refine .rounds 4 ?_
  refine .rd ?_
  refine .seq ?_
  refine .reg rfl ?_
  refine .opp (P.bin (v := Bo true) .g0 .g1 (BinV.lss.boolc (by decide))) rfl ?_
  refine .nil ?_
  refine .then ?_
  refine .seq ?_
  refine .condT .t0 ?_
  refine .skip ?_
  refine .then ?_
  refine .seq ?_
  refine .block ?_
  refine .seq ?_
  refine .reg rfl ?_
  refine .ixq Mm.m0 (show [[z00a], [z00b], [z00c]][0]? = some [z00a] from rfl) fun p1 q2 hq3 => ?_
  refine .opp (P.ixi (i := 0) .g0 rfl .g2 hq3 runUnderlying212 sizeOf44) rfl ?_
  refine .op (V.ldx0 (u := z00a) .t0 hq3 Mm.m0 (show [[z00a], [z00b], [z00c]][0]? = some [z00a] from rfl) (.one isAgg44 rfl)) rfl ?_
  refine .opp (P.asg .t0) rfl ?_
  refine .nil ?_
  refine .then ?_
  refine .seq ?_
  refine .reg rfl ?_
  refine .opp (P.mov .g4) rfl ?_
  refine .opp (P.mov .t1) rfl ?_
  refine .op (V.lnr (n := a0a.length) .t0 Mm.m1 map_len runUnderlying44) rfl ?_
  refine .opp (P.bin .t1 .t0 .add) rfl ?_
  refine .drop .k4 ?_
  refine .opp (P.asg .t0) rfl ?_
  refine .nil ?_
  refine .then ?_
  refine .seq ?_
  refine .reg rfl ?_
  refine .opp (P.mov .g0) rfl ?_
  refine .opp (P.bin .t0 .k .lss) rfl ?_
  refine .nil ?_
  refine .then ?_
  refine .cond .t0 (fun c4 => ?_) (fun c4 => ?_)
  · rw [if_pos c4] at h
    refine .reg rfl ?_
    cases h
  · rw [if_neg (ne_true_of_eq_false c4)] at h
    refine .skip ?_
    refine .inn ?_
    refine .then ?_
    refine .reg rfl ?_
    refine .opp (P.bin (v := N 1) .g1 .k (.addc (by decide))) rfl ?_
    refine .drop .k2 ?_
    refine .opp (P.mov .t0) rfl ?_
    refine .nil ?_
    refine .then ?_
    refine .rd ?_
    refine .seq ?_
    refine .reg rfl ?_
    refine .opp (P.bin (v := Bo true) .g0 .g2 (BinV.lss.boolc (by decide))) rfl ?_
    refine .nil ?_
    refine .then ?_
    refine .seq ?_
    refine .condT .t0 ?_
    refine .skip ?_
    refine .then ?_
    refine .seq ?_
    refine .block ?_
    refine .seq ?_
    refine .reg rfl ?_
    refine .ixq Mm.m0 (show [[z00a], [z00b], [z00c]][1]? = some [z00b] from rfl) fun p5 q6 hq7 => ?_
    refine .opp (P.ixi (i := 1) .g0 rfl .g3 hq7 runUnderlying212 sizeOf44) rfl ?_
    refine .op (V.ldx0 (u := z00b) .t0 hq7 Mm.m0 (show [[z00a], [z00b], [z00c]][1]? = some [z00b] from rfl) (.one isAgg44 rfl)) rfl ?_
    refine .opp (P.asg .t0) rfl ?_
    refine .nil ?_
    refine .then ?_
    refine .seq ?_
    refine .reg rfl ?_
    refine .opp (P.mov .g2) rfl ?_
    refine .opp (P.mov .t1) rfl ?_
    refine .op (V.lnr (n := a0b.length) .t0 Mm.m2 map_len runUnderlying44) rfl ?_
    refine .opp (P.bin .t1 .t0 .add) rfl ?_
    refine .drop .k2 ?_
    refine .opp (P.asg .t0) rfl ?_
    refine .nil ?_
    refine .then ?_
    refine .seq ?_
    refine .reg rfl ?_
    refine .opp (P.mov .g0) rfl ?_
    refine .opp (P.bin .t0 .k .lss) rfl ?_
    refine .nil ?_
    refine .then ?_
    refine .cond .t0 (fun c8 => ?_) (fun c8 => ?_)
    · rw [if_pos c8] at h
      refine .reg rfl ?_
      cases h
    · rw [if_neg (ne_true_of_eq_false c8)] at h
      refine .skip ?_
      refine .inn ?_
      refine .then ?_
      refine .reg rfl ?_
      refine .opp (P.bin (v := N 2) .g1 .k (.addc (by decide))) rfl ?_
      refine .drop .k2 ?_
      refine .opp (P.mov .t0) rfl ?_
      refine .nil ?_
      refine .then ?_
      refine .rd ?_
      refine .seq ?_
      refine .reg rfl ?_
      refine .opp (P.bin (v := Bo true) .g0 .g2 (BinV.lss.boolc (by decide))) rfl ?_
      refine .nil ?_
      refine .then ?_
      refine .seq ?_
      refine .condT .t0 ?_
      refine .skip ?_
      refine .then ?_
      refine .seq ?_
      refine .block ?_
      refine .seq ?_
      refine .reg rfl ?_
      refine .ixq Mm.m0 (show [[z00a], [z00b], [z00c]][2]? = some [z00c] from rfl) fun p9 q10 hq11 => ?_
      refine .opp (P.ixi (i := 2) .g0 rfl .g3 hq11 runUnderlying212 sizeOf44) rfl ?_
      refine .op (V.ldx0 (u := z00c) .t0 hq11 Mm.m0 (show [[z00a], [z00b], [z00c]][2]? = some [z00c] from rfl) (.one isAgg44 rfl)) rfl ?_
      refine .opp (P.asg .t0) rfl ?_
      refine .nil ?_
      refine .then ?_
      refine .seq ?_
      refine .reg rfl ?_
      refine .opp (P.mov .g2) rfl ?_
      refine .opp (P.mov .t1) rfl ?_
      refine .op (V.lnr (n := a0c.length) .t0 Mm.m3 map_len runUnderlying44) rfl ?_
      refine .opp (P.bin .t1 .t0 .add) rfl ?_
      refine .drop .k2 ?_
      refine .opp (P.asg .t0) rfl ?_
      refine .nil ?_
      refine .then ?_
      refine .seq ?_
      refine .reg rfl ?_
      refine .opp (P.mov .g0) rfl ?_
      refine .opp (P.bin .t0 .k .lss) rfl ?_
      refine .nil ?_
      refine .then ?_
      refine .cond .t0 (fun c12 => ?_) (fun c12 => ?_)
      · rw [if_pos c12] at h
        refine .reg rfl ?_
        cases h
      · rw [if_neg (ne_true_of_eq_false c12)] at h
        refine .skip ?_
        refine .inn ?_
        refine .then ?_
        refine .reg rfl ?_
        refine .opp (P.bin (v := N 3) .g1 .k (.addc (by decide))) rfl ?_
        refine .drop .k2 ?_
        refine .opp (P.mov .t0) rfl ?_
        refine .nil ?_
        refine .then ?_
        refine .rd ?_
        refine .seq ?_
        refine .reg rfl ?_
        refine .opp (P.bin (v := Bo false) .g0 .g2 (BinV.lss.boolc (by decide))) rfl ?_
        refine .nil ?_
        refine .then ?_
        refine .seq ?_
        refine .condF .t0 ?_
        refine .exit ?_
        refine .thx ?_
        refine .thx ?_
        refine .inb ?_
        refine .then ?_
        refine .seq ?_
        refine .reg rfl ?_
        refine .opp (P.mov .t1) rfl ?_
        obtain ⟨r13, hr14, h⟩ := bnd_eq h
        refine .opg (G.call call195 (.cons .k (.cons .t0 .nil)) (S_slices_Grow_byte_nil (IntKind.i64.wrap ((IntKind.i64.wrap ((IntKind.i64.wrap (0 + (a0a.length : Int))) + (a0b.length : Int))) + (a0c.length : Int))) r13 hr14) .nil .nil (fun _ _ => rfl) (fun _ _ => rfl) rfl) rfl fun u15 _ => ?_
        refine .opp (P.asg .t0) rfl ?_
        refine .nil ?_
        refine .then ?_
        refine .seq ?_
        refine .seq ?_
        refine .reg rfl ?_
        refine .opp (P.mov .t4) rfl ?_
        refine .op (V.lnr (n := 3) .g0 Mm.m0 rfl runUnderlying212) rfl ?_
        refine .opp (P.mov .k) rfl ?_
        refine .nil ?_
        refine .then ?_
        refine .block ?_
        refine .rounds 4 ?_
        refine .rd ?_
        refine .seq ?_
        refine .reg rfl ?_
        refine .opp (P.bin (v := Bo true) .g0 .g1 (BinV.lss.boolc (by decide))) rfl ?_
        refine .nil ?_
        refine .then ?_
        refine .seq ?_
        refine .condT .t0 ?_
        refine .skip ?_
        refine .then ?_
        refine .seq ?_
        refine .block ?_
        refine .seq ?_
        refine .reg rfl ?_
        refine .ixq Mm.m0 (show [[z00a], [z00b], [z00c]][0]? = some [z00a] from rfl) fun p16 q17 hq18 => ?_
        refine .opp (P.ixi (i := 0) .g0 rfl .g2 hq18 runUnderlying212 sizeOf44) rfl ?_
        refine .op (V.ldx0 (u := z00a) .t0 hq18 Mm.m0 (show [[z00a], [z00b], [z00c]][0]? = some [z00a] from rfl) (.one isAgg44 rfl)) rfl ?_
        refine .opp (P.asg .t0) rfl ?_
        refine .nil ?_
        refine .then ?_
        refine .reg rfl ?_
        refine .opp (P.mov .g4) rfl ?_
        refine .opp (P.mov .t1) rfl ?_
        obtain ⟨hb20, h⟩ := grd_eq h
        refine .opg (G.app (by_ := 1) .t1 .t0 .k0 (.inl Mm.m1) runUnderlying44 runUnderlying44 sizeOf5 typeInfo5 rfl rfl zeroValue5 rfl (one_map one_5 _) (by simpa using hb20) rfl) rfl fun u19 _ => ?_
        refine .conseq .k0 (q := lst 5 1 u19 ((r13 ++ a0a).map (fun x => [B8 x]))) (fun _ hh => by simpa [List.map_append] using hh) ?_
        refine .drop .k4 ?_
        refine .opp (P.asg .t0) rfl ?_
        refine .nil ?_
        refine .inn ?_
        refine .then ?_
        refine .reg rfl ?_
        refine .opp (P.bin (v := N 1) .g1 .k (.addc (by decide))) rfl ?_
        refine .drop .k2 ?_
        refine .opp (P.mov .t0) rfl ?_
        refine .nil ?_
        refine .then ?_
        refine .rd ?_
        refine .seq ?_
        refine .reg rfl ?_
        refine .opp (P.bin (v := Bo true) .g0 .g2 (BinV.lss.boolc (by decide))) rfl ?_
        refine .nil ?_
        refine .then ?_
        refine .seq ?_
        refine .condT .t0 ?_
        refine .skip ?_
        refine .then ?_
        refine .seq ?_
        refine .block ?_
        refine .seq ?_
        refine .reg rfl ?_
        refine .ixq Mm.m0 (show [[z00a], [z00b], [z00c]][1]? = some [z00b] from rfl) fun p21 q22 hq23 => ?_
        refine .opp (P.ixi (i := 1) .g0 rfl .g3 hq23 runUnderlying212 sizeOf44) rfl ?_
        refine .op (V.ldx0 (u := z00b) .t0 hq23 Mm.m0 (show [[z00a], [z00b], [z00c]][1]? = some [z00b] from rfl) (.one isAgg44 rfl)) rfl ?_
        refine .opp (P.asg .t0) rfl ?_
        refine .nil ?_
        refine .then ?_
        refine .reg rfl ?_
        refine .opp (P.mov .g2) rfl ?_
        refine .opp (P.mov .t1) rfl ?_
        obtain ⟨hb25, h⟩ := grd_eq h
        refine .opg (G.app (by_ := 1) .t1 .t0 .k0 (.inl Mm.m2) runUnderlying44 runUnderlying44 sizeOf5 typeInfo5 rfl rfl zeroValue5 rfl (one_map one_5 _) (by simpa using hb25) rfl) rfl fun u24 _ => ?_
        refine .conseq .k0 (q := lst 5 1 u24 (((r13 ++ a0a) ++ a0b).map (fun x => [B8 x]))) (fun _ hh => by simpa [List.map_append] using hh) ?_
        refine .drop .k2 ?_
        refine .opp (P.asg .t0) rfl ?_
        refine .nil ?_
        refine .inn ?_
        refine .then ?_
        refine .reg rfl ?_
        refine .opp (P.bin (v := N 2) .g1 .k (.addc (by decide))) rfl ?_
        refine .drop .k2 ?_
        refine .opp (P.mov .t0) rfl ?_
        refine .nil ?_
        refine .then ?_
        refine .rd ?_
        refine .seq ?_
        refine .reg rfl ?_
        refine .opp (P.bin (v := Bo true) .g0 .g2 (BinV.lss.boolc (by decide))) rfl ?_
        refine .nil ?_
        refine .then ?_
        refine .seq ?_
        refine .condT .t0 ?_
        refine .skip ?_
        refine .then ?_
        refine .seq ?_
        refine .block ?_
        refine .seq ?_
        refine .reg rfl ?_
        refine .ixq Mm.m0 (show [[z00a], [z00b], [z00c]][2]? = some [z00c] from rfl) fun p26 q27 hq28 => ?_
        refine .opp (P.ixi (i := 2) .g0 rfl .g3 hq28 runUnderlying212 sizeOf44) rfl ?_
        refine .op (V.ldx0 (u := z00c) .t0 hq28 Mm.m0 (show [[z00a], [z00b], [z00c]][2]? = some [z00c] from rfl) (.one isAgg44 rfl)) rfl ?_
        refine .opp (P.asg .t0) rfl ?_
        refine .nil ?_
        refine .then ?_
        refine .reg rfl ?_
        refine .opp (P.mov .g2) rfl ?_
        refine .opp (P.mov .t1) rfl ?_
        obtain ⟨hb30, h⟩ := grd_eq h
        refine .opg (G.app (by_ := 1) .t1 .t0 .k0 (.inl Mm.m3) runUnderlying44 runUnderlying44 sizeOf5 typeInfo5 rfl rfl zeroValue5 rfl (one_map one_5 _) (by simpa using hb30) rfl) rfl fun u29 _ => ?_
        refine .conseq .k0 (q := lst 5 1 u29 ((((r13 ++ a0a) ++ a0b) ++ a0c).map (fun x => [B8 x]))) (fun _ hh => by simpa [List.map_append] using hh) ?_
        refine .drop .k2 ?_
        refine .opp (P.asg .t0) rfl ?_
        refine .nil ?_
        refine .inn ?_
        refine .then ?_
        refine .reg rfl ?_
        refine .opp (P.bin (v := N 3) .g1 .k (.addc (by decide))) rfl ?_
        refine .drop .k2 ?_
        refine .opp (P.mov .t0) rfl ?_
        refine .nil ?_
        refine .then ?_
        refine .rd ?_
        refine .seq ?_
        refine .reg rfl ?_
        refine .opp (P.bin (v := Bo false) .g0 .g2 (BinV.lss.boolc (by decide))) rfl ?_
        refine .nil ?_
        refine .then ?_
        refine .seq ?_
        refine .condF .t0 ?_
        refine .exit ?_
        refine .thx ?_
        refine .thx ?_
        refine .inb ?_
        refine .then ?_
        refine .seq ?_
        refine .reg rfl ?_
        refine .opp (P.mov .t1) rfl ?_
        refine .opp (P.asg .t0) rfl ?_
        refine .nil ?_
        refine .then ?_
        refine .ret ?_
        cases h
        exact .finw u29 (.r1 rfl (.tmp .g0)) trivial (Ls.of (.cons .k0 .nil)) .nil
attribute [irreducible] slices_Concat_byte_n3
noncomputable def blob_Cat_n3 (a0a : List UInt8) (a0b : List UInt8) (a0c : List UInt8) : Option ((List UInt8)) :=
  Option.bind (slices_Concat_byte_n3 a0a a0b a0c) fun r1 => some r1
set_option maxRecDepth 20000 in
set_option maxHeartbeats 1000000 in
theorem S_blob_Cat_n3 (v00 : Value) (z00a : Value) (a0a : List UInt8) (z00b : Value) (a0b : List UInt8) (z00c : Value) (a0c : List UInt8) (r : (List UInt8)) (h : blob_Cat_n3 a0a a0b a0c = some r) :
    SpecF Try.prog 125 [v00] [] [rows 1 v00 [[z00a], [z00b], [z00c]], rows 1 z00a (a0a.map (fun x => [B8 x])), rows 1 z00b (a0b.map (fun x => [B8 x])), rows 1 z00c (a0c.map (fun x => [B8 x]))] (fun z : Value => True) (fun z => z) (fun z M => lst 5 1 z (r.map (fun x => [B8 x])) ::  M) (fun z M =>  M) := by
  refine .of func125 rfl ntmps125 rfl fun w0 D0 G0 => ?_
  unfold blob_Cat_n3 at h
  refine .seq ?_
  refine .reg rfl ?_
  refine .op0 (OpP.toV (P.asg .k)) rfl ?_
  refine .nil ?_
  refine .then ?_
  refine .seq ?_
  refine .reg rfl ?_
  refine .opp (P.mov .t0) rfl ?_
  obtain ⟨r1, hr2, h⟩ := bnd_eq h
  refine .opg (G.call call166 (.cons .t0 .nil) (S_slices_Concat_byte_n3 v00 z00a a0a z00b a0b z00c a0c r1 hr2) .nil (.cons Mm.m0 (.cons Mm.m1 (.cons Mm.m2 (.cons Mm.m3 .nil)))) (fun _ _ => rfl) (fun _ _ => rfl) rfl) rfl fun u3 _ => ?_
  refine .opp (P.asg .t0) rfl ?_
  refine .nil ?_
  refine .then ?_
  refine .ret ?_
  cases h
  exact .finw u3 (.r1 rfl (.tmp .g0)) trivial (Ls.of (.cons .k0 .nil)) .nil
attribute [irreducible] blob_Cat_n3
noncomputable def script_step (a0 : api_Step) : Option ((List UInt8)) :=
  Option.bind (blob_Num (IntKind.i64.wrap (a0.A + 32768)) 2) fun r3 => grd ((([B8i a0.Kind] : List UInt8).length + r3.length) * 1 ≤ 140737488355328) <| Option.bind (blob_Num (IntKind.i64.wrap (a0.B + 32768)) 2) fun r8 => grd (((([B8i a0.Kind] : List UInt8) ++ r3).length + r8.length) * 1 ≤ 140737488355328) <| Option.bind (blob_Num (IntKind.i64.wrap (a0.C + 32768)) 2) fun r13 => grd ((((([B8i a0.Kind] : List UInt8) ++ r3) ++ r8).length + r13.length) * 1 ≤ 140737488355328) <| Option.bind (blob_Num (a0.Data.length : Int) 2) fun r18 => Option.bind (blob_Cat_n3 (((([B8i a0.Kind] : List UInt8) ++ r3) ++ r8) ++ r13) r18 a0.Data) fun r25 => some r25
set_option maxRecDepth 20000 in
set_option maxHeartbeats 1000000 in
theorem S_script_step (a0 : api_Step) (z00a : Value) (r : (List UInt8)) (h : script_step a0 = some r) :
    SpecF Try.prog 64 [Ag (api_Step.cs a0 z00a)] [] [rows 1 z00a (a0.Data.map (fun x => [B8 x]))] (fun z : Value => True) (fun z => z) (fun z M => lst 5 1 z (r.map (fun x => [B8 x])) ::  M) (fun z M =>  M) := by
  refine .of func64 rfl ntmps64 rfl fun w0 D0 G0 => ?_
  unfold script_step at h
  refine .seq ?_
  refine .reg rfl ?_
  refine .opx (X.box (cs := (api_Step.cs a0 z00a)) .t0 rfl) rfl fun b1 => ?_
  refine .op0 (OpP.toV (P.asg .k)) rfl ?_
  refine .nil ?_
  refine .then ?_
  refine .seq ?_
  refine .reg rfl ?_
  refine .opp (P.fa .g0 fa_123_0 rfl) rfl ?_
  refine .op (V.ld (v := N a0.Kind) .t0 .k0 (.one isAgg3 rfl)) rfl ?_
  refine .opp (P.cnvB8 (m := a0.Kind) .t0 runUnderlying3 runUnderlying5) rfl ?_
  refine .opg (G.bsl (cs := [B8 (B8i a0.Kind)]) .t0 runUnderlying44 sizeOf5 zeroValue5 rfl rfl rfl rfl rfl) rfl fun u2 _ => ?_
  refine .opp (P.asg .t0) rfl ?_
  refine .nil ?_
  refine .then ?_
  refine .seq ?_
  refine .seq ?_
  refine .reg rfl ?_
  refine .opp (P.fa .g1 fa_123_1 rfl) rfl ?_
  refine .op (V.ld (v := N a0.A) .t0 .k1 (.one isAgg3 rfl)) rfl ?_
  refine .opp (P.fa .g2 fa_123_2 rfl) rfl ?_
  refine .op (V.ld (v := N a0.B) .t0 .k1 (.one isAgg3 rfl)) rfl ?_
  refine .opp (P.fa .g3 fa_123_3 rfl) rfl ?_
  refine .op (V.ld (v := N a0.C) .t0 .k1 (.one isAgg3 rfl)) rfl ?_
  refine .opp (P.bld (v := Ag (A3_i64.cs ⟨a0.A, a0.B, a0.C⟩)) (.cons .t2 (.cons .t1 (.cons .t0 .nil))) (bld_runA zeroValue191 runUnderlying191 sizeOf3 (by kernel_rfl))) rfl ?_
  refine .opp (P.mov .k) rfl ?_
  refine .nil ?_
  refine .then ?_
  refine .block ?_
  refine .rounds 4 ?_
  refine .rd ?_
  refine .seq ?_
  refine .reg rfl ?_
  refine .opp (P.bin (v := Bo true) .g0 .k (BinV.lss.boolc (by decide))) rfl ?_
  refine .nil ?_
  refine .then ?_
  refine .seq ?_
  refine .condT .t0 ?_
  refine .skip ?_
  refine .then ?_
  refine .seq ?_
  refine .block ?_
  refine .seq ?_
  refine .reg rfl ?_
  refine .opp (P.idx (i := 0) (v := N a0.A) .g1 .g0 rfl runUnderlying191 sizeOf3 (by decide) (.one isAgg3 rfl)) rfl ?_
  refine .opp (P.asg .t0) rfl ?_
  refine .nil ?_
  refine .then ?_
  refine .reg rfl ?_
  refine .opp (P.mov .g3) rfl ?_
  refine .opp (P.mov .t1) rfl ?_
  refine .opp (P.bin .t0 .k .add) rfl ?_
  obtain ⟨r3, hr4, h⟩ := bnd_eq h
  refine .opg (G.call call124 (.cons .t0 (.cons .k .nil)) (S_blob_Num (IntKind.i64.wrap (a0.A + 32768)) 2 r3 hr4) .nil .nil (fun _ _ => rfl) (fun _ _ => rfl) rfl) rfl fun u5 _ => ?_
  obtain ⟨hb7, h⟩ := grd_eq h
  refine .opg (G.app (by_ := 1) .t1 .t0 .k1 (.inr (.inr ⟨_, Mm.m0⟩)) runUnderlying44 runUnderlying44 sizeOf5 typeInfo5 rfl rfl zeroValue5 rfl (one_map one_5 _) (by simpa using hb7) rfl) rfl fun u6 _ => ?_
  refine .conseq .k0 (q := lst 5 1 u6 ((([B8i a0.Kind] : List UInt8) ++ r3).map (fun x => [B8 x]))) (fun _ hh => by simpa [List.map_append] using hh) ?_
  refine .drop .k3 ?_
  refine .opp (P.asg .t0) rfl ?_
  refine .nil ?_
  refine .inn ?_
  refine .then ?_
  refine .reg rfl ?_
  refine .opp (P.bin (v := N 1) .g1 .k (.addc (by decide))) rfl ?_
  refine .drop .k2 ?_
  refine .opp (P.mov .t0) rfl ?_
  refine .nil ?_
  refine .then ?_
  refine .rd ?_
  refine .seq ?_
  refine .reg rfl ?_
  refine .opp (P.bin (v := Bo true) .g0 .k (BinV.lss.boolc (by decide))) rfl ?_
  refine .nil ?_
  refine .then ?_
  refine .seq ?_
  refine .condT .t0 ?_
  refine .skip ?_
  refine .then ?_
  refine .seq ?_
  refine .block ?_
  refine .seq ?_
  refine .reg rfl ?_
  refine .opp (P.idx (i := 1) (v := N a0.B) .g2 .g0 rfl runUnderlying191 sizeOf3 (by decide) (.one isAgg3 rfl)) rfl ?_
  refine .opp (P.asg .t0) rfl ?_
  refine .nil ?_
  refine .then ?_
  refine .reg rfl ?_
  refine .opp (P.mov .g2) rfl ?_
  refine .opp (P.mov .t1) rfl ?_
  refine .opp (P.bin .t0 .k .add) rfl ?_
  obtain ⟨r8, hr9, h⟩ := bnd_eq h
  refine .opg (G.call call124 (.cons .t0 (.cons .k .nil)) (S_blob_Num (IntKind.i64.wrap (a0.B + 32768)) 2 r8 hr9) .nil .nil (fun _ _ => rfl) (fun _ _ => rfl) rfl) rfl fun u10 _ => ?_
  obtain ⟨hb12, h⟩ := grd_eq h
  refine .opg (G.app (by_ := 1) .t1 .t0 .k1 (.inr (.inr ⟨_, Mm.m0⟩)) runUnderlying44 runUnderlying44 sizeOf5 typeInfo5 rfl rfl zeroValue5 rfl (one_map one_5 _) (by simpa using hb12) rfl) rfl fun u11 _ => ?_
  refine .conseq .k0 (q := lst 5 1 u11 (((([B8i a0.Kind] : List UInt8) ++ r3) ++ r8).map (fun x => [B8 x]))) (fun _ hh => by simpa [List.map_append] using hh) ?_
  refine .drop .k2 ?_
  refine .opp (P.asg .t0) rfl ?_
  refine .nil ?_
  refine .inn ?_
  refine .then ?_
  refine .reg rfl ?_
  refine .opp (P.bin (v := N 2) .g1 .k (.addc (by decide))) rfl ?_
  refine .drop .k2 ?_
  refine .opp (P.mov .t0) rfl ?_
  refine .nil ?_
  refine .then ?_
  refine .rd ?_
  refine .seq ?_
  refine .reg rfl ?_
  refine .opp (P.bin (v := Bo true) .g0 .k (BinV.lss.boolc (by decide))) rfl ?_
  refine .nil ?_
  refine .then ?_
  refine .seq ?_
  refine .condT .t0 ?_
  refine .skip ?_
  refine .then ?_
  refine .seq ?_
  refine .block ?_
  refine .seq ?_
  refine .reg rfl ?_
  refine .opp (P.idx (i := 2) (v := N a0.C) .g2 .g0 rfl runUnderlying191 sizeOf3 (by decide) (.one isAgg3 rfl)) rfl ?_
  refine .opp (P.asg .t0) rfl ?_
  refine .nil ?_
  refine .then ?_
  refine .reg rfl ?_
  refine .opp (P.mov .g2) rfl ?_
  refine .opp (P.mov .t1) rfl ?_
  refine .opp (P.bin .t0 .k .add) rfl ?_
  obtain ⟨r13, hr14, h⟩ := bnd_eq h
  refine .opg (G.call call124 (.cons .t0 (.cons .k .nil)) (S_blob_Num (IntKind.i64.wrap (a0.C + 32768)) 2 r13 hr14) .nil .nil (fun _ _ => rfl) (fun _ _ => rfl) rfl) rfl fun u15 _ => ?_
  obtain ⟨hb17, h⟩ := grd_eq h
  refine .opg (G.app (by_ := 1) .t1 .t0 .k1 (.inr (.inr ⟨_, Mm.m0⟩)) runUnderlying44 runUnderlying44 sizeOf5 typeInfo5 rfl rfl zeroValue5 rfl (one_map one_5 _) (by simpa using hb17) rfl) rfl fun u16 _ => ?_
  refine .conseq .k0 (q := lst 5 1 u16 ((((([B8i a0.Kind] : List UInt8) ++ r3) ++ r8) ++ r13).map (fun x => [B8 x]))) (fun _ hh => by simpa [List.map_append] using hh) ?_
  refine .drop .k2 ?_
  refine .opp (P.asg .t0) rfl ?_
  refine .nil ?_
  refine .inn ?_
  refine .then ?_
  refine .reg rfl ?_
  refine .opp (P.bin (v := N 3) .g1 .k (.addc (by decide))) rfl ?_
  refine .drop .k2 ?_
  refine .opp (P.mov .t0) rfl ?_
  refine .nil ?_
  refine .then ?_
  refine .rd ?_
  refine .seq ?_
  refine .reg rfl ?_
  refine .opp (P.bin (v := Bo false) .g0 .k (BinV.lss.boolc (by decide))) rfl ?_
  refine .nil ?_
  refine .then ?_
  refine .seq ?_
  refine .condF .t0 ?_
  refine .exit ?_
  refine .thx ?_
  refine .thx ?_
  refine .inb ?_
  refine .then ?_
  refine .seq ?_
  refine .drawl [lst 5 1 u15 (r13.map (fun x => [B8 x])), lst 5 1 u10 (r8.map (fun x => [B8 x])), lst 5 1 u5 (r3.map (fun x => [B8 x])), blk b1 123 (api_Step.cs a0 z00a)] [rows 1 z00a (a0.Data.map (fun x => [B8 x]))] (Ls.of (.cons .k1 (.cons .k1 (.cons .k1 (.cons .k1 .nil))))) (Rs.cons Mm.m0 Rs.nil) 10 (.on 0 .pu (.on 1 .pu (.on 5 .pu (.on 2 .ld (.on 3 .ld (.on 6 .ld (.on 4 .go (.on 7 .go (.on 8 .go (.on 9 .go .nl)))))))))) follows_mixed (.thn .body) (by kernel_rfl) ?_
  refine .dpu rfl (.n rfl) (P.mov .t1) rfl rfl ?_
  refine .dpu rfl (.n rfl) (P.fa .g3 fa_123_4 rfl) rfl rfl ?_
  refine .dpu rfl (.n rfl) (P.fa .t4 fa_123_4 rfl) rfl rfl ?_
  refine .dld rfl (.n rfl) (V.ld (v := z00a) .t1 .k3 (.one isAgg44 rfl)) (fun _ h => (h.imp (Ls.of (.cons .k1 (.cons .k1 (.cons .k1 (.cons .k1 .nil)))))).ro (Rs.cons Mm.m0 Rs.nil)) rfl rfl ?_
  refine .dld rfl (.n rfl) (V.lnr (n := a0.Data.length) .t0 Mm.m0 map_len runUnderlying44) (fun _ h => (h.imp (Ls.of (.cons .k1 (.cons .k1 (.cons .k1 (.cons .k1 .nil)))))).ro (Rs.cons Mm.m0 Rs.nil)) rfl rfl ?_
  refine .dld rfl (.n rfl) (V.ld (v := z00a) .t1 .k3 (.one isAgg44 rfl)) (fun _ h => (h.imp (Ls.of (.cons .k1 (.cons .k1 (.cons .k1 (.cons .k1 .nil)))))).ro (Rs.cons Mm.m0 Rs.nil)) rfl rfl ?_
  obtain ⟨r18, hr19, h⟩ := bnd_eq h
  refine .dgo rfl (.n rfl) (G.call call124 (.cons .t1 (.cons .k .nil)) (S_blob_Num (a0.Data.length : Int) 2 r18 hr19) .nil .nil (fun _ _ => rfl) (fun _ _ => rfl) rfl) (.inr fun _ _ _ h => (h.imp (Ls.of (.cons .k2 (.cons .k2 (.cons .k2 (.cons .k2 .nil)))))).ro (Rs.cons Mm.m0 Rs.nil)) fun u20 _ => ?_
  refine .onel .k1 fun ho22 => ?_
  refine .onel .k0 fun ho23 => ?_
  refine .oner Mm.m0 fun ho24 => ?_
  refine .dgo rfl (.n rfl) (G.bsln (xs := [[u16], [u20], [z00a]]) (.cons .t2 (.cons .t0 (.cons .t0 .nil))) runUnderlying212 sizeOf44 zeroValue44 (fill3 ho22 ho23 ho24) rfl rfl rfl rfl rfl) (.inr fun _ _ _ h => (h.imp (Ls.of (.cons .k3 (.cons .k3 (.cons .k3 (.cons .k3 .nil)))))).ro (Rs.cons Mm.m0 Rs.nil)) fun u21 _ => ?_
  refine .frz .k0 ?_
  refine .frz .k1 ?_
  refine .frz .k0 ?_
  obtain ⟨r25, hr26, h⟩ := bnd_eq h
  refine .dgo rfl (.n rfl) (G.call call125 (.cons .t0 .nil) (S_blob_Cat_n3 u21 u16 (((([B8i a0.Kind] : List UInt8) ++ r3) ++ r8) ++ r13) u20 r18 z00a a0.Data r25 hr26) .nil (.cons Mm.m2 (.cons Mm.m1 (.cons Mm.m0 (.cons Mm.m3 .nil)))) (fun _ _ => rfl) (fun _ _ => rfl) rfl) (.inr fun _ _ _ h => (h.imp (Ls.of (.cons .k1 (.cons .k1 (.cons .k1 (.cons .k1 .nil)))))).ro (Rs.cons Mm.m3 Rs.nil)) fun u27 _ => ?_
  refine .dgo rfl (.n rfl) (OpV.g (OpP.toV (P.asg .t0)) rfl) (.inr fun _ _ _ h => (h.imp (Ls.of (.cons .k1 (.cons .k1 (.cons .k1 (.cons .k1 .nil)))))).ro (Rs.cons Mm.m3 Rs.nil)) fun _ _ => ?_
  refine .dnil ?_
  refine .then ?_
  refine .ret ?_
  cases h
  exact .finw u27 (.r1 rfl (.tmp .g0)) trivial (Ls.of (.cons .k0 .nil)) .nil
attribute [irreducible] script_step
noncomputable def script_Put (a0 : List api_Step) : Option ((List UInt8) × Int) :=
  if (decide ((a0.length : Int) > 512)) = true then (some ((([] : List UInt8), 3))) else (Option.bind (loopR (fun (i5 : Nat) (e8 : api_Step) (s6 : Unit) => Option.bind (script_odd e8) fun r26 => if r26 = true then (Option.map Ct.rt (some ((([] : List UInt8), 4)))) else (some (.nx ()))) 0 a0 ()) fun o9 => Lo.on o9 fun (s6 : Unit) => Option.bind (loopR (fun (i33 : Nat) (e36 : api_Step) (s34 : (List UInt8)) => if (decide ((e36.Data.length : Int) > 1024)) = true then (Option.map Ct.rt (some ((([] : List UInt8), 5)))) else (Option.bind (script_step e36) fun r57 => grd ((s34.length + r57.length) * 1 ≤ 140737488355328) <| if (decide (((s34 ++ r57).length : Int) > 8192)) = true then (Option.map Ct.rt (some ((([] : List UInt8), 5)))) else (some (.nx (s34 ++ r57))))) 0 a0 ([])) fun o37 => Lo.on o37 fun (s34 : (List UInt8)) => some (s34, 0))
set_option maxRecDepth 20000 in
set_option maxHeartbeats 1000000 in
theorem S_script_Put (v00 : Value) (a0 : List api_Step) (zl00 : List Value) (r : (List UInt8) × Int) (h : script_Put a0 = some r) :
    SpecF Try.prog 19 [v00] [] [rows 5 v00 (List.zipWith api_Step.cs a0 zl00), gz api_Step.g a0 zl00] (fun z : Value => True) (fun z => Tu [z, N r.2]) (fun z M => lst 5 1 z (r.1.map (fun x => [B8 x])) ::  M) (fun z M =>  M) := by
  refine .of func19 rfl ntmps19 rfl fun w0 D0 G0 => ?_
  unfold script_Put at h
  refine .seq ?_
  refine .reg rfl ?_
  refine .op0 (OpP.toV (P.asg .k)) rfl ?_
  refine .op0 (OpP.toV (P.asg .k)) rfl ?_
  refine .nil ?_
  refine .then ?_
  refine .seq ?_
  refine .reg rfl ?_
  refine .opp (P.asg .k) rfl ?_
  refine .nil ?_
  refine .then ?_
  refine .seq ?_
  refine .seq ?_
  refine .reg rfl ?_
  refine .opp (P.mov .g1) rfl ?_
  refine .gzl Mm.m1 fun hz1 => ?_
  refine .op (V.lnr (n := a0.length) .t0 Mm.m0 (zip_len hz1) runUnderlying43) rfl ?_
  refine .opp (P.bin .t0 .k .gtr) rfl ?_
  refine .nil ?_
  refine .then ?_
  refine .cond .t0 (fun c2 => ?_) (fun c2 => ?_)
  · rw [if_pos c2] at h
    refine .seq ?_
    refine .reg rfl ?_
    refine .opp (P.asg .k) rfl ?_
    refine .opp (P.asg .k) rfl ?_
    refine .nil ?_
    refine .then ?_
    refine .ret ?_
    refine .thr ?_
    cases h
    refine .lnil 5 1 ?_
    exact .finw nilSl (.r2 rfl (.tmp .g1) (.tmp .g0)) trivial (Ls.of (.cons .k0 .nil)) .nil
  · rw [if_neg (ne_true_of_eq_false c2)] at h
    refine .skip ?_
    refine .then ?_
    refine .seq ?_
    refine .seq ?_
    refine .reg rfl ?_
    refine .opp (P.mov .g1) rfl ?_
    refine .gzl Mm.m1 fun hz3 => ?_
    refine .op (V.lnr (n := a0.length) .g0 Mm.m0 (zip_len hz3) runUnderlying43) rfl ?_
    refine .opp (P.mov .k) rfl ?_
    refine .nil ?_
    refine .then ?_
    refine .block ?_
    refine .lnil 5 1 ?_
    obtain ⟨o9, ho10, h⟩ := bnd_eq h
    refine .gzl Mm.m1 fun hz19 => ?_
    refine .lenq Mm.m0 fun hl16 => ?_
    rw [zip_len hz19] at hl16
    refine .loopR (γ := Unit) (fun i5 (s6 : Unit) z7 => [(14, N (i5 : Int)), (13, N (a0.length : Int)), (12, v00), (4, nilSl), (0, v00)]) (fun (s6 : Unit) z7 => []) (fun (s6 : Unit) z7 => [gz api_Step.g a0 zl00, rows 5 v00 (List.zipWith api_Step.cs a0 zl00)]) () ho10 (.cons Mm.m0 (.cons Mm.m1 (.cons Mm.m2 (.cons Mm.m3 (.cons Mm.m4 .nil))))) (.of .nil) (.cons Mm.m1 (.cons Mm.m0 .nil)) (fun i5 s6 z7 hi17 hr13 => ?_)
    refine .seq ?_
    refine .reg rfl ?_
    refine .opp (P.bin (v := Bo (decide ((i5 : Int) < (a0.length : Nat)))) .g0 .g1 .lss) rfl ?_
    refine .nil ?_
    refine .then ?_
    refine .seq ?_
    refine .cond .t0 (fun c18 => ?_) (fun c18 => ?_)
    · obtain ⟨e8, hx15⟩ := get_of c18
      obtain ⟨ct14, hc11, hn12⟩ := loopR_at hx15 hr13
      refine .gzx (D := api_Step.cs) (q := fun z_ => rows 1 z_ (e8.Data.map (fun x => [B8 x]))) Mm.m0 hx15 (fun _ => rfl) fun u4 _ hx20 => ?_
      refine .skip ?_
      refine .then ?_
      refine .seq ?_
      refine .block ?_
      refine .seq ?_
      refine .reg rfl ?_
      refine .ixq Mm.m2 hx20 fun p21 q22 hq23 => ?_
      refine .opp (P.ixi (i := i5) .g0 rfl .g2 hq23 runUnderlying43 sizeOf123) rfl ?_
      refine .op (V.ldx0 (u := Ag (api_Step.cs e8 u4)) .t0 hq23 Mm.m2 hx20 (.agg isAgg123 sizeOf123 rfl rfl)) rfl ?_
      refine .opx (X.alc (cs := (api_Step.cs ⟨0, 0, 0, 0, []⟩ nilSl)) zeroValue123 rfl) rfl fun b24 => ?_
      refine .oner Mm.m0 fun ho25 => ?_
      refine .opg (G.str .t1 .g0 .k0 (.mk (cs' := (api_Step.cs e8 u4)) sizeOf123 rfl (onez_123 _ ho25) rfl rfl)) rfl fun _ _ => ?_
      refine .nil ?_
      refine .then ?_
      refine .seq ?_
      refine .reg rfl ?_
      refine .op (V.ld (v := Ag (api_Step.cs e8 u4)) .t0 .k0 (.agg isAgg123 sizeOf123 rfl rfl)) rfl ?_
      obtain ⟨r26, hr27, hc11⟩ := bnd_eq hc11
      refine .opg (G.call call63 (.cons .t0 .nil) (S_script_odd e8 u4 r26 hr27) .nil (.cons Mm.m0 .nil) (fun _ _ => rfl) (fun _ _ => rfl) rfl) rfl fun _ _ => ?_
      refine .nil ?_
      refine .then ?_
      refine .cond .t0 (fun c28 => ?_) (fun c28 => ?_)
      · rw [if_pos c28] at hc11
        refine .seq ?_
        refine .reg rfl ?_
        refine .opp (P.asg .k) rfl ?_
        refine .opp (P.asg .k) rfl ?_
        refine .nil ?_
        refine .then ?_
        refine .ret ?_
        refine .inr ?_
        refine .thr ?_
        obtain ⟨x29, hx30, rfl⟩ := map_rt hc11
        obtain rfl := hn12
        obtain rfl := rt_on h
        refine .thr ?_
        refine .inr ?_
        refine .thr ?_
        cases hx30
        refine .lnil 5 1 ?_
        exact .finw nilSl (.r2 rfl (.tmp .g1) (.tmp .g0)) trivial (Ls.of (.cons .k0 .nil)) .nil
      · rw [if_neg (ne_true_of_eq_false c28)] at hc11
        refine .skip ?_
        refine .inn ?_
        refine .then ?_
        refine .reg rfl ?_
        refine .opp (P.bin .g0 .k (.addc (inc_ok (lt_of_get hx15) hl16))) rfl ?_
        refine .drop .k1 ?_
        refine .opp (P.mov .t0) rfl ?_
        refine .nil ?_
        refine .lnil 5 1 ?_
        cases hc11
        exact .rdR () () hn12 (lt_of_get hx15) (.cons Mm.m0 (.cons Mm.m1 (.cons Mm.m2 (.cons Mm.m3 (.cons Mm.m4 .nil))))) (.of .nil) (.cons Mm.m1 (.cons Mm.m2 .nil))
    · obtain rfl := loopR_end (le_of_not c18) hr13
      have h := dn_on h
      refine .exit ?_
      refine .thx ?_
      refine .thx ?_
      refine .inb ?_
      refine .then ?_
      refine .seq ?_
      refine .seq ?_
      refine .reg rfl ?_
      refine .opp (P.mov .t4) rfl ?_
      refine .gzl Mm.m0 fun hz31 => ?_
      refine .op (V.lnr (n := a0.length) .g0 Mm.m1 (zip_len hz31) runUnderlying43) rfl ?_
      refine .opp (P.mov .k) rfl ?_
      refine .nil ?_
      refine .then ?_
      refine .block ?_
      refine .lnil 5 1 ?_
      obtain ⟨o37, ho38, h⟩ := bnd_eq h
      refine .gzl Mm.m0 fun hz47 => ?_
      refine .lenq Mm.m1 fun hl44 => ?_
      rw [zip_len hz47] at hl44
      refine .loopR (γ := Value) (fun i33 (s34 : (List UInt8)) z35 => [(23, N (i33 : Int)), (22, N (a0.length : Int)), (21, v00), (4, z35)]) (fun (s34 : (List UInt8)) z35 => [lst 5 1 z35 (s34.map (fun x => [B8 x]))]) (fun (s34 : (List UInt8)) z35 => [gz api_Step.g a0 zl00, rows 5 v00 (List.zipWith api_Step.cs a0 zl00)]) nilSl ho38 (.cons Mm.m0 (.cons Mm.m1 (.cons Mm.m2 (.cons Mm.m6 .nil)))) (.of (.cons .k0 .nil)) (.cons Mm.m0 (.cons Mm.m1 .nil)) (fun i33 s34 z35 hi45 hr41 => ?_)
      refine .seq ?_
      refine .reg rfl ?_
      refine .opp (P.bin (v := Bo (decide ((i33 : Int) < (a0.length : Nat)))) .g0 .g1 .lss) rfl ?_
      refine .nil ?_
      refine .then ?_
      refine .seq ?_
      refine .cond .t0 (fun c46 => ?_) (fun c46 => ?_)
      · obtain ⟨e36, hx43⟩ := get_of c46
        obtain ⟨ct42, hc39, hn40⟩ := loopR_at hx43 hr41
        refine .gzx (D := api_Step.cs) (q := fun z_ => rows 1 z_ (e36.Data.map (fun x => [B8 x]))) Mm.m0 hx43 (fun _ => rfl) fun u32 _ hx48 => ?_
        refine .skip ?_
        refine .then ?_
        refine .seq ?_
        refine .block ?_
        refine .seq ?_
        refine .reg rfl ?_
        refine .ixq Mm.m2 hx48 fun p49 q50 hq51 => ?_
        refine .opp (P.ixi (i := i33) .g0 rfl .g2 hq51 runUnderlying43 sizeOf123) rfl ?_
        refine .op (V.ldx0 (u := Ag (api_Step.cs e36 u32)) .t0 hq51 Mm.m2 hx48 (.agg isAgg123 sizeOf123 rfl rfl)) rfl ?_
        refine .opx (X.alc (cs := (api_Step.cs ⟨0, 0, 0, 0, []⟩ nilSl)) zeroValue123 rfl) rfl fun b52 => ?_
        refine .oner Mm.m0 fun ho53 => ?_
        refine .opg (G.str .t1 .g0 .k0 (.mk (cs' := (api_Step.cs e36 u32)) sizeOf123 rfl (onez_123 _ ho53) rfl rfl)) rfl fun _ _ => ?_
        refine .nil ?_
        refine .then ?_
        refine .seq ?_
        refine .seq ?_
        refine .reg rfl ?_
        refine .opp (P.fa .g0 fa_123_4 rfl) rfl ?_
        refine .op (V.ld (v := u32) .t0 .k0 (.one isAgg44 rfl)) rfl ?_
        refine .op (V.lnr (n := e36.Data.length) .t0 Mm.m0 map_len runUnderlying44) rfl ?_
        refine .opp (P.bin .t0 .k .gtr) rfl ?_
        refine .nil ?_
        refine .then ?_
        refine .cond .t0 (fun c54 => ?_) (fun c54 => ?_)
        · rw [if_pos c54] at hc39
          refine .seq ?_
          refine .reg rfl ?_
          refine .opp (P.asg .k) rfl ?_
          refine .opp (P.asg .k) rfl ?_
          refine .nil ?_
          refine .then ?_
          refine .ret ?_
          refine .thr ?_
          refine .inr ?_
          refine .thr ?_
          obtain ⟨x55, hx56, rfl⟩ := map_rt hc39
          obtain rfl := hn40
          obtain rfl := rt_on h
          refine .thr ?_
          refine .inr ?_
          refine .thr ?_
          cases hx56
          refine .lnil 5 1 ?_
          exact .finw nilSl (.r2 rfl (.tmp .g1) (.tmp .g0)) trivial (Ls.of (.cons .k0 .nil)) .nil
        · rw [if_neg (ne_true_of_eq_false c54)] at hc39
          refine .skip ?_
          refine .then ?_
          refine .seq ?_
          refine .reg rfl ?_
          refine .opp (P.mov .g4) rfl ?_
          refine .op (V.ld (v := Ag (api_Step.cs e36 u32)) .t1 .k0 (.agg isAgg123 sizeOf123 rfl rfl)) rfl ?_
          obtain ⟨r57, hr58, hc39⟩ := bnd_eq hc39
          refine .opg (G.call call64 (.cons .t0 .nil) (S_script_step e36 u32 r57 hr58) .nil (.cons Mm.m0 .nil) (fun _ _ => rfl) (fun _ _ => rfl) rfl) rfl fun u59 _ => ?_
          obtain ⟨hb61, hc39⟩ := grd_eq hc39
          refine .opg (G.app (by_ := 1) .t1 .t0 .k2 (.inr (.inr ⟨_, Mm.m0⟩)) runUnderlying44 runUnderlying44 sizeOf5 typeInfo5 rfl rfl zeroValue5 rfl (one_map one_5 _) (by simpa using hb61) rfl) rfl fun u60 _ => ?_
          refine .conseq .k0 (q := lst 5 1 u60 ((s34 ++ r57).map (fun x => [B8 x]))) (fun _ hh => by simpa [List.map_append] using hh) ?_
          refine .drop .k4 ?_
          refine .opp (P.asg .t0) rfl ?_
          refine .nil ?_
          refine .then ?_
          refine .seq ?_
          refine .reg rfl ?_
          refine .opp (P.mov .g0) rfl ?_
          refine .op (V.lnl (n := (s34 ++ r57).length) .t0 .k0 map_len runUnderlying44) rfl ?_
          refine .opp (P.bin .t0 .k .gtr) rfl ?_
          refine .nil ?_
          refine .then ?_
          refine .cond .t0 (fun c62 => ?_) (fun c62 => ?_)
          · rw [if_pos c62] at hc39
            refine .seq ?_
            refine .reg rfl ?_
            refine .opp (P.asg .k) rfl ?_
            refine .opp (P.asg .k) rfl ?_
            refine .nil ?_
            refine .then ?_
            refine .ret ?_
            refine .inr ?_
            refine .thr ?_
            obtain ⟨x63, hx64, rfl⟩ := map_rt hc39
            obtain rfl := hn40
            obtain rfl := rt_on h
            refine .thr ?_
            refine .inr ?_
            refine .thr ?_
            cases hx64
            refine .lnil 5 1 ?_
            exact .finw nilSl (.r2 rfl (.tmp .g1) (.tmp .g0)) trivial (Ls.of (.cons .k0 .nil)) .nil
          · rw [if_neg (ne_true_of_eq_false c62)] at hc39
            refine .skip ?_
            refine .inn ?_
            refine .then ?_
            refine .reg rfl ?_
            refine .opp (P.bin .g1 .k (.addc (inc_ok (lt_of_get hx43) hl44))) rfl ?_
            refine .drop .k2 ?_
            refine .opp (P.mov .t0) rfl ?_
            refine .nil ?_
            cases hc39
            exact .rdR (s34 ++ r57) u60 hn40 (lt_of_get hx43) (.cons Mm.m0 (.cons Mm.m2 (.cons Mm.m3 (.cons Mm.m1 .nil)))) (.of (.cons .k0 .nil)) (.cons Mm.m1 (.cons Mm.m2 .nil))
      · obtain rfl := loopR_end (le_of_not c46) hr41
        have h := dn_on h
        refine .exit ?_
        refine .thx ?_
        refine .thx ?_
        refine .inb ?_
        refine .then ?_
        refine .seq ?_
        refine .reg rfl ?_
        refine .opp (P.mov .t3) rfl ?_
        refine .opp (P.asg .t0) rfl ?_
        refine .opp (P.asg .k) rfl ?_
        refine .nil ?_
        refine .then ?_
        refine .ret ?_
        cases h
        exact .finw z35 (.r2 rfl (.tmp .g1) (.tmp .g0)) trivial (Ls.of (.cons .k0 .nil)) .nil
attribute [irreducible] script_Put
noncomputable def blob_Int (a0 : List UInt8) : Option (Int) :=
  grd (okS a0.length none (some (if 7 < (a0.length : Int) then 7 else (a0.length : Int))) none) <| Option.bind (loopR (fun (i5 : Nat) (e8 : UInt8) (s6 : Int) => some (.nx (borK .i64 (shlK .i64 s6 8) (e8.toNat : Int)))) 0 (slc a0 0 (if 7 < (a0.length : Int) then 7 else (a0.length : Int)).toNat) 0) fun o9 => Lo.on o9 fun (s6 : Int) => some s6
set_option maxRecDepth 20000 in
set_option maxHeartbeats 1000000 in
theorem S_blob_Int (v00 : Value) (a0 : List UInt8) (r : Int) (h : blob_Int a0 = some r) :
    SpecF Try.prog 126 [v00] [] [rows 1 v00 (a0.map (fun x => [B8 x]))] (fun z : Unit => True) (fun z => N r) (fun z M =>  M) (fun z M =>  M) := by
  refine .of func126 rfl ntmps126 rfl fun w0 D0 G0 => ?_
  unfold blob_Int at h
  refine .seq ?_
  refine .reg rfl ?_
  refine .op0 (OpP.toV (P.asg .k)) rfl ?_
  refine .nil ?_
  refine .then ?_
  refine .seq ?_
  refine .reg rfl ?_
  refine .opp (P.asg .k) rfl ?_
  refine .nil ?_
  refine .then ?_
  refine .seq ?_
  refine .seq ?_
  refine .reg rfl ?_
  refine .opp (P.mov .g1) rfl ?_
  refine .opp (P.mov .t2) rfl ?_
  refine .op (V.lnr (n := a0.length) .t0 Mm.m0 map_len runUnderlying44) rfl ?_
  refine .opp (P.min2 .t0 .k) rfl ?_
  obtain ⟨hb1, h⟩ := grd_eq h
  refine .capq Mm.m0 fun hc3 => ?_
  refine .opg (G.slr (li := none) (hj := (some (if 7 < (a0.length : Int) then 7 else (a0.length : Int)))) (mk := none) .t1 .none (.some .t0) .none Mm.m0 hc3 runUnderlying44 sizeOf5 (by simpa using hb1) rfl) rfl fun u2 hu4 => ?_
  refine .rhead (q := rows 1 u2 ((slc a0 0 (if 7 < (a0.length : Int) then 7 else (a0.length : Int)).toNat).map (fun x => [B8 x]))) (fun _ hh => by simpa [slc_map] using hh) ?_
  refine .op (V.lnr (n := (slc a0 0 (if 7 < (a0.length : Int) then 7 else (a0.length : Int)).toNat).length) .g0 Mm.m0 map_len runUnderlying44) rfl ?_
  refine .opp (P.mov .k) rfl ?_
  refine .nil ?_
  refine .then ?_
  refine .block ?_
  obtain ⟨o9, ho10, h⟩ := bnd_eq h
  refine .lenq Mm.m0 fun hl16 => ?_
  rw [map_len] at hl16
  refine .loopR (γ := Unit) (fun i5 (s6 : Int) z7 => [(12, N (i5 : Int)), (11, N ((slc a0 0 (if 7 < (a0.length : Int) then 7 else (a0.length : Int)).toNat).length : Int)), (10, u2), (3, N s6)]) (fun (s6 : Int) z7 => []) (fun (s6 : Int) z7 => [rows 1 u2 ((slc a0 0 (if 7 < (a0.length : Int) then 7 else (a0.length : Int)).toNat).map (fun x => [B8 x])), rows 1 v00 (a0.map (fun x => [B8 x]))]) () ho10 (.cons Mm.m0 (.cons Mm.m1 (.cons Mm.m2 (.cons Mm.m3 .nil)))) (.of .nil) (.cons Mm.m0 (.cons Mm.m1 .nil)) (fun i5 s6 z7 hi17 hr13 => ?_)
  refine .seq ?_
  refine .reg rfl ?_
  refine .opp (P.bin (v := Bo (decide ((i5 : Int) < ((slc a0 0 (if 7 < (a0.length : Int) then 7 else (a0.length : Int)).toNat).length : Nat)))) .g0 .g1 .lss) rfl ?_
  refine .nil ?_
  refine .then ?_
  refine .seq ?_
  refine .cond .t0 (fun c18 => ?_) (fun c18 => ?_)
  · obtain ⟨e8, hx15⟩ := get_of c18
    obtain ⟨ct14, hc11, hn12⟩ := loopR_at hx15 hr13
    refine .skip ?_
    refine .then ?_
    refine .seq ?_
    refine .block ?_
    refine .seq ?_
    refine .reg rfl ?_
    refine .ixq Mm.m0 (map_get hx15) fun p19 q20 hq21 => ?_
    refine .opp (P.ixi (i := i5) .g0 rfl .g2 hq21 runUnderlying44 sizeOf5) rfl ?_
    refine .op (V.ldx0 (u := B8 e8) .t0 hq21 Mm.m0 (map_get hx15) (.one isAgg5 rfl)) rfl ?_
    refine .opp (P.asg .t0) rfl ?_
    refine .nil ?_
    refine .then ?_
    refine .reg rfl ?_
    refine .opp (P.mov .g4) rfl ?_
    refine .opp (P.bin .t0 .k (.shl (by decide))) rfl ?_
    refine .opp (P.mov .t1) rfl ?_
    refine .opp (P.cnvIB8 (x := e8) .t0 runUnderlying5 runUnderlying3) rfl ?_
    refine .opp (P.bin .t1 .t0 .or) rfl ?_
    refine .drop .k4 ?_
    refine .opp (P.asg .t0) rfl ?_
    refine .nil ?_
    refine .inn ?_
    refine .then ?_
    refine .reg rfl ?_
    refine .opp (P.bin .g1 .k (.addc (inc_ok (lt_of_get hx15) hl16))) rfl ?_
    refine .drop .k2 ?_
    refine .opp (P.mov .t0) rfl ?_
    refine .nil ?_
    cases hc11
    exact .rdR (borK .i64 (shlK .i64 s6 8) (e8.toNat : Int)) () hn12 (lt_of_get hx15) (.cons Mm.m0 (.cons Mm.m2 (.cons Mm.m3 (.cons Mm.m1 .nil)))) (.of .nil) (.cons Mm.m0 (.cons Mm.m1 .nil))
  · obtain rfl := loopR_end (le_of_not c18) hr13
    have h := dn_on h
    refine .exit ?_
    refine .thx ?_
    refine .thx ?_
    refine .inb ?_
    refine .then ?_
    refine .seq ?_
    refine .reg rfl ?_
    refine .opp (P.mov .t3) rfl ?_
    refine .opp (P.asg .t0) rfl ?_
    refine .nil ?_
    refine .then ?_
    refine .ret ?_
    cases h
    exact .finw () (.r1 rfl (.tmp .g0)) trivial (Ls.of .nil) .nil
attribute [irreducible] blob_Int
noncomputable def slices_Concat_byte_n1 (a0a : List UInt8) : Option ((List UInt8)) :=
  if (decide ((IntKind.i64.wrap (0 + (a0a.length : Int))) < 0)) = true then none else (Option.bind (slices_Grow_byte_nil (IntKind.i64.wrap (0 + (a0a.length : Int)))) fun r5 => grd ((r5.length + a0a.length) * 1 ≤ 140737488355328) <| some (r5 ++ a0a))
set_option maxRecDepth 20000 in
set_option maxHeartbeats 1000000 in
theorem S_slices_Concat_byte_n1 (v00 : Value) (z00a : Value) (a0a : List UInt8) (r : (List UInt8)) (h : slices_Concat_byte_n1 a0a = some r) :
    SpecF Try.prog 166 [v00] [] [rows 1 v00 [[z00a]], rows 1 z00a (a0a.map (fun x => [B8 x]))] (fun z : Value => True) (fun z => z) (fun z M => lst 5 1 z (r.map (fun x => [B8 x])) ::  M) (fun z M =>  M) := by
  refine .of func166 rfl ntmps166 rfl fun w0 D0 G0 => ?_
  unfold slices_Concat_byte_n1 at h
  refine .seq ?_
  refine .reg rfl ?_
  refine .op0 (OpP.toV (P.asg .k)) rfl ?_
  refine .nil ?_
  refine .then ?_
  refine .seq ?_
  refine .reg rfl ?_
  refine .opp (P.asg .k) rfl ?_
  refine .nil ?_
  refine .then ?_
  refine .seq ?_
  refine .seq ?_
  refine .reg rfl ?_
  refine .opp (P.mov .g1) rfl ?_
  refine .op (V.lnr (n := 1) .g0 Mm.m0 rfl runUnderlying212) rfl ?_
  refine .opp (P.mov .k) rfl ?_
  refine .nil ?_
  refine .then ?_
  refine .block ?_
  refine .rounds 2 ?_
  refine .rd ?_
  refine .seq ?_
  refine .reg rfl ?_
  refine .opp (P.bin (v := Bo true) .g0 .g1 (BinV.lss.boolc (by decide))) rfl ?_
  refine .nil ?_
  refine .then ?_
  refine .seq ?_
  refine .condT .t0 ?_
  refine .skip ?_
  refine .then ?_
  refine .seq ?_
  refine .block ?_
  refine .seq ?_
  refine .reg rfl ?_
  refine .ixq Mm.m0 (show [[z00a]][0]? = some [z00a] from rfl) fun p1 q2 hq3 => ?_
  refine .opp (P.ixi (i := 0) .g0 rfl .g2 hq3 runUnderlying212 sizeOf44) rfl ?_
  refine .op (V.ldx0 (u := z00a) .t0 hq3 Mm.m0 (show [[z00a]][0]? = some [z00a] from rfl) (.one isAgg44 rfl)) rfl ?_
  refine .opp (P.asg .t0) rfl ?_
  refine .nil ?_
  refine .then ?_
  refine .seq ?_
  refine .reg rfl ?_
  refine .opp (P.mov .g4) rfl ?_
  refine .opp (P.mov .t1) rfl ?_
  refine .op (V.lnr (n := a0a.length) .t0 Mm.m1 map_len runUnderlying44) rfl ?_
  refine .opp (P.bin .t1 .t0 .add) rfl ?_
  refine .drop .k4 ?_
  refine .opp (P.asg .t0) rfl ?_
  refine .nil ?_
  refine .then ?_
  refine .seq ?_
  refine .reg rfl ?_
  refine .opp (P.mov .g0) rfl ?_
  refine .opp (P.bin .t0 .k .lss) rfl ?_
  refine .nil ?_
  refine .then ?_
  refine .cond .t0 (fun c4 => ?_) (fun c4 => ?_)
  · rw [if_pos c4] at h
    refine .reg rfl ?_
    cases h
  · rw [if_neg (ne_true_of_eq_false c4)] at h
    refine .skip ?_
    refine .inn ?_
    refine .then ?_
    refine .reg rfl ?_
    refine .opp (P.bin (v := N 1) .g1 .k (.addc (by decide))) rfl ?_
    refine .drop .k2 ?_
    refine .opp (P.mov .t0) rfl ?_
    refine .nil ?_
    refine .then ?_
    refine .rd ?_
    refine .seq ?_
    refine .reg rfl ?_
    refine .opp (P.bin (v := Bo false) .g0 .g2 (BinV.lss.boolc (by decide))) rfl ?_
    refine .nil ?_
    refine .then ?_
    refine .seq ?_
    refine .condF .t0 ?_
    refine .exit ?_
    refine .thx ?_
    refine .thx ?_
    refine .inb ?_
    refine .then ?_
    refine .seq ?_
    refine .reg rfl ?_
    refine .opp (P.mov .t1) rfl ?_
    obtain ⟨r5, hr6, h⟩ := bnd_eq h
    refine .opg (G.call call195 (.cons .k (.cons .t0 .nil)) (S_slices_Grow_byte_nil (IntKind.i64.wrap (0 + (a0a.length : Int))) r5 hr6) .nil .nil (fun _ _ => rfl) (fun _ _ => rfl) rfl) rfl fun u7 _ => ?_
    refine .opp (P.asg .t0) rfl ?_
    refine .nil ?_
    refine .then ?_
    refine .seq ?_
    refine .seq ?_
    refine .reg rfl ?_
    refine .opp (P.mov .t4) rfl ?_
    refine .op (V.lnr (n := 1) .g0 Mm.m0 rfl runUnderlying212) rfl ?_
    refine .opp (P.mov .k) rfl ?_
    refine .nil ?_
    refine .then ?_
    refine .block ?_
    refine .rounds 2 ?_
    refine .rd ?_
    refine .seq ?_
    refine .reg rfl ?_
    refine .opp (P.bin (v := Bo true) .g0 .g1 (BinV.lss.boolc (by decide))) rfl ?_
    refine .nil ?_
    refine .then ?_
    refine .seq ?_
    refine .condT .t0 ?_
    refine .skip ?_
    refine .then ?_
    refine .seq ?_
    refine .block ?_
    refine .seq ?_
    refine .reg rfl ?_
    refine .ixq Mm.m0 (show [[z00a]][0]? = some [z00a] from rfl) fun p8 q9 hq10 => ?_
    refine .opp (P.ixi (i := 0) .g0 rfl .g2 hq10 runUnderlying212 sizeOf44) rfl ?_
    refine .op (V.ldx0 (u := z00a) .t0 hq10 Mm.m0 (show [[z00a]][0]? = some [z00a] from rfl) (.one isAgg44 rfl)) rfl ?_
    refine .opp (P.asg .t0) rfl ?_
    refine .nil ?_
    refine .then ?_
    refine .reg rfl ?_
    refine .opp (P.mov .g4) rfl ?_
    refine .opp (P.mov .t1) rfl ?_
    obtain ⟨hb12, h⟩ := grd_eq h
    refine .opg (G.app (by_ := 1) .t1 .t0 .k0 (.inl Mm.m1) runUnderlying44 runUnderlying44 sizeOf5 typeInfo5 rfl rfl zeroValue5 rfl (one_map one_5 _) (by simpa using hb12) rfl) rfl fun u11 _ => ?_
    refine .conseq .k0 (q := lst 5 1 u11 ((r5 ++ a0a).map (fun x => [B8 x]))) (fun _ hh => by simpa [List.map_append] using hh) ?_
    refine .drop .k4 ?_
    refine .opp (P.asg .t0) rfl ?_
    refine .nil ?_
    refine .inn ?_
    refine .then ?_
    refine .reg rfl ?_
    refine .opp (P.bin (v := N 1) .g1 .k (.addc (by decide))) rfl ?_
    refine .drop .k2 ?_
    refine .opp (P.mov .t0) rfl ?_
    refine .nil ?_
    refine .then ?_
    refine .rd ?_
    refine .seq ?_
    refine .reg rfl ?_
    refine .opp (P.bin (v := Bo false) .g0 .g2 (BinV.lss.boolc (by decide))) rfl ?_
    refine .nil ?_
    refine .then ?_
    refine .seq ?_
    refine .condF .t0 ?_
    refine .exit ?_
    refine .thx ?_
    refine .thx ?_
    refine .inb ?_
    refine .then ?_
    refine .seq ?_
    refine .reg rfl ?_
    refine .opp (P.mov .t1) rfl ?_
    refine .opp (P.asg .t0) rfl ?_
    refine .nil ?_
    refine .then ?_
    refine .ret ?_
    cases h
    exact .finw u11 (.r1 rfl (.tmp .g0)) trivial (Ls.of (.cons .k0 .nil)) .nil
attribute [irreducible] slices_Concat_byte_n1
noncomputable def blob_Cat_n1 (a0a : List UInt8) : Option ((List UInt8)) :=
  Option.bind (slices_Concat_byte_n1 a0a) fun r1 => some r1
set_option maxRecDepth 20000 in
set_option maxHeartbeats 1000000 in
theorem S_blob_Cat_n1 (v00 : Value) (z00a : Value) (a0a : List UInt8) (r : (List UInt8)) (h : blob_Cat_n1 a0a = some r) :
    SpecF Try.prog 125 [v00] [] [rows 1 v00 [[z00a]], rows 1 z00a (a0a.map (fun x => [B8 x]))] (fun z : Value => True) (fun z => z) (fun z M => lst 5 1 z (r.map (fun x => [B8 x])) ::  M) (fun z M =>  M) := by
  refine .of func125 rfl ntmps125 rfl fun w0 D0 G0 => ?_
  unfold blob_Cat_n1 at h
  refine .seq ?_
  refine .reg rfl ?_
  refine .op0 (OpP.toV (P.asg .k)) rfl ?_
  refine .nil ?_
  refine .then ?_
  refine .seq ?_
  refine .reg rfl ?_
  refine .opp (P.mov .t0) rfl ?_
  obtain ⟨r1, hr2, h⟩ := bnd_eq h
  refine .opg (G.call call166 (.cons .t0 .nil) (S_slices_Concat_byte_n1 v00 z00a a0a r1 hr2) .nil (.cons Mm.m0 (.cons Mm.m1 .nil)) (fun _ _ => rfl) (fun _ _ => rfl) rfl) rfl fun u3 _ => ?_
  refine .opp (P.asg .t0) rfl ?_
  refine .nil ?_
  refine .then ?_
  refine .ret ?_
  cases h
  exact .finw u3 (.r1 rfl (.tmp .g0)) trivial (Ls.of (.cons .k0 .nil)) .nil
attribute [irreducible] blob_Cat_n1
noncomputable def script_next (a0 : List UInt8) : Option (api_Step × (List UInt8) × Bool) :=
  if (decide ((a0.length : Int) < 9)) = true then (some (((⟨0, 0, 0, 0, []⟩ : api_Step), ([] : List UInt8), false))) else (grd (okS a0.length (some 7) (some 9) none) <| Option.bind (blob_Int (slc a0 (7 : Int).toNat (9 : Int).toNat)) fun r7 => thn (if (decide (r7 > 1024)) = true then true else (decide (r7 > (IntKind.i64.wrap ((a0.length : Int) - 9))))) fun (y9 : Bool) => if y9 = true then (some (((⟨0, 0, 0, 0, []⟩ : api_Step), ([] : List UInt8), false))) else (grd (okS a0.length (some 1) (some 3) none) <| Option.bind (blob_Int (slc a0 (1 : Int).toNat (3 : Int).toNat)) fun r19 => grd (okS a0.length (some 3) (some 5) none) <| Option.bind (blob_Int (slc a0 (3 : Int).toNat (5 : Int).toNat)) fun r25 => grd (okS a0.length (some 5) (some 7) none) <| Option.bind (blob_Int (slc a0 (5 : Int).toNat (7 : Int).toNat)) fun r31 => Option.bind (at_ a0 0) fun (x36 : UInt8) => grd (okS a0.length (some 9) (some (IntKind.i64.wrap (9 + r7))) none) <| grd (okS a0.length (some (IntKind.i64.wrap (9 + r7))) none none) <| Option.bind (blob_Cat_n1 (slc a0 (9 : Int).toNat (IntKind.i64.wrap (9 + r7)).toNat)) fun r52 => some (((⟨(x36.toNat : Int), IntKind.i64.wrap (r19 - 32768), IntKind.i64.wrap (r25 - 32768), IntKind.i64.wrap (r31 - 32768), r52⟩ : api_Step), (slc a0 (IntKind.i64.wrap (9 + r7)).toNat a0.length), true))))
set_option maxRecDepth 20000 in
set_option maxHeartbeats 1000000 in
theorem S_script_next (v00 : Value) (a0 : List UInt8) (r : api_Step × (List UInt8) × Bool) (h : script_next a0 = some r) :
    SpecF Try.prog 65 [v00] [] [rows 1 v00 (a0.map (fun x => [B8 x]))] (fun z : Value × Value => True) (fun z => Tu [Ag (api_Step.cs r.1 z.1), z.2, Bo r.2.2]) (fun z M => lst 5 1 z.1 (r.1.Data.map (fun x => [B8 x])) ::  M) (fun z M => rows 1 z.2 (r.2.1.map (fun x => [B8 x])) ::  M) := by
  refine .of func65 rfl ntmps65 rfl fun w0 D0 G0 => ?_
  unfold script_next at h
  refine .seq ?_
  refine .reg rfl ?_
  refine .opx (X.alc (cs := (api_Step.cs ⟨0, 0, 0, 0, []⟩ nilSl)) zeroValue123 rfl) rfl fun b1 => ?_
  refine .op0 (OpP.toV (P.asg .k)) rfl ?_
  refine .op0 (OpP.toV (P.asg .k)) rfl ?_
  refine .nil ?_
  refine .then ?_
  refine .seq ?_
  refine .seq ?_
  refine .reg rfl ?_
  refine .opp (P.mov .g1) rfl ?_
  refine .op (V.lnr (n := a0.length) .t0 Mm.m0 map_len runUnderlying44) rfl ?_
  refine .opp (P.bin .t0 .k .lss) rfl ?_
  refine .nil ?_
  refine .then ?_
  refine .cond .t0 (fun c2 => ?_) (fun c2 => ?_)
  · rw [if_pos c2] at h
    refine .seq ?_
    refine .reg rfl ?_
    refine .opp (P.bld (v := Ag (api_Step.cs ⟨0, 0, 0, 0, []⟩ nilSl)) .nil (bld_run zeroValue123 runUnderlying123 pl_123 (by kernel_rfl))) rfl ?_
    refine .opg (G.str .t0 .g0 .k0 (.mk (cs' := (api_Step.cs ⟨0, 0, 0, 0, []⟩ nilSl)) sizeOf123 rfl (onez_123 _ rfl) rfl rfl)) rfl fun _ _ => ?_
    refine .opp (P.asg .k) rfl ?_
    refine .opp (P.asg .k) rfl ?_
    refine .nil ?_
    refine .then ?_
    refine .ret ?_
    refine .thr ?_
    cases h
    refine .lnil 5 1 ?_
    refine .rnil0 1 ?_
    exact .finw ⟨nilSl, nilSl⟩ (.r3 rfl (.cell .g2 .k1 (.agg isAgg123 sizeOf123 rfl rfl)) (.tmp .g1) (.tmp .g0)) trivial (Ls.of (.cons .k0 .nil)) (.cons Mm.m0 .nil)
  · rw [if_neg (ne_true_of_eq_false c2)] at h
    refine .skip ?_
    refine .then ?_
    refine .seq ?_
    refine .reg rfl ?_
    refine .opp (P.mov .g1) rfl ?_
    obtain ⟨hb3, h⟩ := grd_eq h
    refine .capq Mm.m0 fun hc5 => ?_
    refine .opg (G.slr (li := (some 7)) (hj := (some 9)) (mk := none) .t0 (.some .k) (.some .k) .none Mm.m0 hc5 runUnderlying44 sizeOf5 (by simpa using hb3) rfl) rfl fun u4 hu6 => ?_
    refine .rhead (q := rows 1 u4 ((slc a0 (7 : Int).toNat (9 : Int).toNat).map (fun x => [B8 x]))) (fun _ hh => by simpa [slc_map] using hh) ?_
    obtain ⟨r7, hr8, h⟩ := bnd_eq h
    refine .opg (G.call call126 (.cons .t0 .nil) (S_blob_Int u4 (slc a0 (7 : Int).toNat (9 : Int).toNat) r7 hr8) .nil (.cons Mm.m0 .nil) (fun _ _ => rfl) (fun _ _ => rfl) rfl) rfl fun _ _ => ?_
    refine .opp (P.asg .t0) rfl ?_
    refine .nil ?_
    refine .then ?_
    refine .seq ?_
    obtain ⟨y9, hj11, h⟩ := thn_eq h
    refine .cutx (γ := Unit) (E1 := fun z10 => [(23, Bo y9), (5, N r7), (2, pt b1 0), (0, v00)]) (L1 := fun z10 => [blk b1 123 (api_Step.cs ⟨0, 0, 0, 0, []⟩ nilSl)]) (R1 := fun z10 => [rows 1 v00 (a0.map (fun x => [B8 x]))]) ?_ (fun z10 => ?_)
    · clear h
      refine .reg rfl ?_
      refine .opp (P.mov .g0) rfl ?_
      refine .opp (P.bin .t0 .k .gtr) rfl ?_
      refine .opp (P.mov .t0) rfl ?_
      refine .split .k0 (fun c12 => ?_) (fun c12 => ?_)
      · rw [if_pos c12] at hj11
        refine .gno rfl .g0 rfl rfl ?_
        refine .gno rfl .g0 rfl rfl ?_
        refine .gno rfl .g0 rfl rfl ?_
        refine .gno rfl .g0 rfl rfl ?_
        refine .gno rfl .g0 rfl rfl ?_
        refine .opp (P.pickT .t0 .k) rfl ?_
        refine .nil ?_
        subst hj11
        exact .stj () (.cons Mm.m0 (.cons Mm.m1 (.cons Mm.m2 (.cons Mm.m3 .nil)))) (.of (.cons .k0 .nil)) (.cons Mm.m1 .nil)
      · rw [if_neg (ne_true_of_eq_false c12)] at hj11
        refine .gyes rfl .g0 ?_
        refine .opp (P.mov .g1) rfl ?_
        refine .gyes rfl .g1 ?_
        refine .opp (P.mov .g4) rfl ?_
        refine .gyes rfl .g2 ?_
        refine .op (V.lnr (n := a0.length) .t0 Mm.m1 map_len runUnderlying44) rfl ?_
        refine .gyes rfl .g2 ?_
        refine .opp (P.bin .t0 .k .sub) rfl ?_
        refine .gyes rfl .g2 ?_
        refine .opp (P.bin .t1 .t0 .gtr) rfl ?_
        refine .opp (P.pickF .t1 .t0) rfl ?_
        refine .nil ?_
        subst hj11
        exact .stj () (.cons Mm.m0 (.cons Mm.m1 (.cons Mm.m2 (.cons Mm.m3 .nil)))) (.of (.cons .k0 .nil)) (.cons Mm.m1 .nil)
    · clear hj11
      refine .cond .t0 (fun c13 => ?_) (fun c13 => ?_)
      · rw [if_pos c13] at h
        refine .seq ?_
        refine .reg rfl ?_
        refine .opp (P.bld (v := Ag (api_Step.cs ⟨0, 0, 0, 0, []⟩ nilSl)) .nil (bld_run zeroValue123 runUnderlying123 pl_123 (by kernel_rfl))) rfl ?_
        refine .opg (G.str .t0 .g1 .k0 (.mk (cs' := (api_Step.cs ⟨0, 0, 0, 0, []⟩ nilSl)) sizeOf123 rfl (onez_123 _ rfl) rfl rfl)) rfl fun _ _ => ?_
        refine .opp (P.asg .k) rfl ?_
        refine .opp (P.asg .k) rfl ?_
        refine .nil ?_
        refine .then ?_
        refine .ret ?_
        refine .thr ?_
        cases h
        refine .lnil 5 1 ?_
        refine .rnil0 1 ?_
        exact .finw ⟨nilSl, nilSl⟩ (.r3 rfl (.cell .g3 .k1 (.agg isAgg123 sizeOf123 rfl rfl)) (.tmp .g1) (.tmp .g0)) trivial (Ls.of (.cons .k0 .nil)) (.cons Mm.m0 .nil)
      · rw [if_neg (ne_true_of_eq_false c13)] at h
        refine .skip ?_
        refine .then ?_
        refine .seq ?_
        refine .reg rfl ?_
        refine .opx (X.alc (cs := (A3_i64.cs ⟨0, 0, 0⟩)) zeroValue191 rfl) rfl fun b14 => ?_
        refine .nil ?_
        refine .then ?_
        refine .seq ?_
        refine .seq ?_
        refine .reg rfl ?_
        refine .opp (P.mov .k) rfl ?_
        refine .nil ?_
        refine .then ?_
        refine .block ?_
        refine .rounds 4 ?_
        refine .rd ?_
        refine .seq ?_
        refine .reg rfl ?_
        refine .opp (P.bin (v := Bo true) .g0 .k (BinV.lss.boolc (by decide))) rfl ?_
        refine .nil ?_
        refine .then ?_
        refine .seq ?_
        refine .condT .t0 ?_
        refine .skip ?_
        refine .then ?_
        refine .seq ?_
        refine .block ?_
        refine .seq ?_
        refine .reg rfl ?_
        refine .opp (P.mov .g0) rfl ?_
        refine .opp (P.asg .t0) rfl ?_
        refine .nil ?_
        refine .then ?_
        refine .reg rfl ?_
        refine .opp (P.mov .g0) rfl ?_
        refine .opp (P.mov .g6) rfl ?_
        refine .opp (P.mov .g2) rfl ?_
        refine .opp (P.bin (v := N 0) .k .t0 (.mulc (by decide))) rfl ?_
        refine .opp (P.bin (v := N 1) .k .t0 (.addc (by decide))) rfl ?_
        refine .opp (P.mov .t3) rfl ?_
        refine .opp (P.bin (v := N 0) .k .t0 (.mulc (by decide))) rfl ?_
        refine .opp (P.bin (v := N 3) .k .t0 (.addc (by decide))) rfl ?_
        obtain ⟨hb15, h⟩ := grd_eq h
        refine .capq Mm.m0 fun hc17 => ?_
        refine .opg (G.slr (li := (some 1)) (hj := (some 3)) (mk := none) .t2 (.some .t1) (.some .t0) .none Mm.m0 hc17 runUnderlying44 sizeOf5 (by simpa using hb15) rfl) rfl fun u16 hu18 => ?_
        refine .rhead (q := rows 1 u16 ((slc a0 (1 : Int).toNat (3 : Int).toNat).map (fun x => [B8 x]))) (fun _ hh => by simpa [slc_map] using hh) ?_
        obtain ⟨r19, hr20, h⟩ := bnd_eq h
        refine .opg (G.call call126 (.cons .t0 .nil) (S_blob_Int u16 (slc a0 (1 : Int).toNat (3 : Int).toNat) r19 hr20) .nil (.cons Mm.m0 .nil) (fun _ _ => rfl) (fun _ _ => rfl) rfl) rfl fun _ _ => ?_
        refine .opp (P.bin .t0 .k .sub) rfl ?_
        refine .opp (P.iac (i := 0) .t1 rfl .g2 runUnderlying191 sizeOf3 rfl rfl) rfl ?_
        refine .opg (G.str .t1 .t0 .k0 (.mk (cs' := (A3_i64.cs ⟨IntKind.i64.wrap (r19 - 32768), 0, 0⟩)) sizeOf3 rfl rfl rfl rfl)) rfl fun _ _ => ?_
        refine .nil ?_
        refine .inn ?_
        refine .then ?_
        refine .reg rfl ?_
        refine .opp (P.bin (v := N 1) .g0 .k (.addc (by decide))) rfl ?_
        refine .drop .k1 ?_
        refine .opp (P.mov .t0) rfl ?_
        refine .nil ?_
        refine .then ?_
        refine .rd ?_
        refine .seq ?_
        refine .reg rfl ?_
        refine .opp (P.bin (v := Bo true) .g0 .k (BinV.lss.boolc (by decide))) rfl ?_
        refine .nil ?_
        refine .then ?_
        refine .seq ?_
        refine .condT .t0 ?_
        refine .skip ?_
        refine .then ?_
        refine .seq ?_
        refine .block ?_
        refine .seq ?_
        refine .reg rfl ?_
        refine .opp (P.mov .g0) rfl ?_
        refine .opp (P.asg .t0) rfl ?_
        refine .nil ?_
        refine .then ?_
        refine .reg rfl ?_
        refine .opp (P.mov .g0) rfl ?_
        refine .opp (P.mov .g6) rfl ?_
        refine .opp (P.mov .g2) rfl ?_
        refine .opp (P.bin (v := N 2) .k .t0 (.mulc (by decide))) rfl ?_
        refine .opp (P.bin (v := N 3) .k .t0 (.addc (by decide))) rfl ?_
        refine .opp (P.mov .t3) rfl ?_
        refine .opp (P.bin (v := N 2) .k .t0 (.mulc (by decide))) rfl ?_
        refine .opp (P.bin (v := N 5) .k .t0 (.addc (by decide))) rfl ?_
        obtain ⟨hb21, h⟩ := grd_eq h
        refine .capq Mm.m1 fun hc23 => ?_
        refine .opg (G.slr (li := (some 3)) (hj := (some 5)) (mk := none) .t2 (.some .t1) (.some .t0) .none Mm.m1 hc23 runUnderlying44 sizeOf5 (by simpa using hb21) rfl) rfl fun u22 hu24 => ?_
        refine .rhead (q := rows 1 u22 ((slc a0 (3 : Int).toNat (5 : Int).toNat).map (fun x => [B8 x]))) (fun _ hh => by simpa [slc_map] using hh) ?_
        obtain ⟨r25, hr26, h⟩ := bnd_eq h
        refine .opg (G.call call126 (.cons .t0 .nil) (S_blob_Int u22 (slc a0 (3 : Int).toNat (5 : Int).toNat) r25 hr26) .nil (.cons Mm.m0 .nil) (fun _ _ => rfl) (fun _ _ => rfl) rfl) rfl fun _ _ => ?_
        refine .opp (P.bin .t0 .k .sub) rfl ?_
        refine .opp (P.iac (i := 1) .t1 rfl .g2 runUnderlying191 sizeOf3 rfl rfl) rfl ?_
        refine .opg (G.str .t1 .t0 .k0 (.mk (cs' := (A3_i64.cs ⟨IntKind.i64.wrap (r19 - 32768), IntKind.i64.wrap (r25 - 32768), 0⟩)) sizeOf3 rfl rfl rfl rfl)) rfl fun _ _ => ?_
        refine .nil ?_
        refine .inn ?_
        refine .then ?_
        refine .reg rfl ?_
        refine .opp (P.bin (v := N 2) .g0 .k (.addc (by decide))) rfl ?_
        refine .drop .k1 ?_
        refine .opp (P.mov .t0) rfl ?_
        refine .nil ?_
        refine .then ?_
        refine .rd ?_
        refine .seq ?_
        refine .reg rfl ?_
        refine .opp (P.bin (v := Bo true) .g0 .k (BinV.lss.boolc (by decide))) rfl ?_
        refine .nil ?_
        refine .then ?_
        refine .seq ?_
        refine .condT .t0 ?_
        refine .skip ?_
        refine .then ?_
        refine .seq ?_
        refine .block ?_
        refine .seq ?_
        refine .reg rfl ?_
        refine .opp (P.mov .g0) rfl ?_
        refine .opp (P.asg .t0) rfl ?_
        refine .nil ?_
        refine .then ?_
        refine .reg rfl ?_
        refine .opp (P.mov .g0) rfl ?_
        refine .opp (P.mov .g6) rfl ?_
        refine .opp (P.mov .g2) rfl ?_
        refine .opp (P.bin (v := N 4) .k .t0 (.mulc (by decide))) rfl ?_
        refine .opp (P.bin (v := N 5) .k .t0 (.addc (by decide))) rfl ?_
        refine .opp (P.mov .t3) rfl ?_
        refine .opp (P.bin (v := N 4) .k .t0 (.mulc (by decide))) rfl ?_
        refine .opp (P.bin (v := N 7) .k .t0 (.addc (by decide))) rfl ?_
        obtain ⟨hb27, h⟩ := grd_eq h
        refine .capq Mm.m2 fun hc29 => ?_
        refine .opg (G.slr (li := (some 5)) (hj := (some 7)) (mk := none) .t2 (.some .t1) (.some .t0) .none Mm.m2 hc29 runUnderlying44 sizeOf5 (by simpa using hb27) rfl) rfl fun u28 hu30 => ?_
        refine .rhead (q := rows 1 u28 ((slc a0 (5 : Int).toNat (7 : Int).toNat).map (fun x => [B8 x]))) (fun _ hh => by simpa [slc_map] using hh) ?_
        obtain ⟨r31, hr32, h⟩ := bnd_eq h
        refine .opg (G.call call126 (.cons .t0 .nil) (S_blob_Int u28 (slc a0 (5 : Int).toNat (7 : Int).toNat) r31 hr32) .nil (.cons Mm.m0 .nil) (fun _ _ => rfl) (fun _ _ => rfl) rfl) rfl fun _ _ => ?_
        refine .opp (P.bin .t0 .k .sub) rfl ?_
        refine .opp (P.iac (i := 2) .t1 rfl .g2 runUnderlying191 sizeOf3 rfl rfl) rfl ?_
        refine .opg (G.str .t1 .t0 .k0 (.mk (cs' := (A3_i64.cs ⟨IntKind.i64.wrap (r19 - 32768), IntKind.i64.wrap (r25 - 32768), IntKind.i64.wrap (r31 - 32768)⟩)) sizeOf3 rfl rfl rfl rfl)) rfl fun _ _ => ?_
        refine .nil ?_
        refine .inn ?_
        refine .then ?_
        refine .reg rfl ?_
        refine .opp (P.bin (v := N 3) .g0 .k (.addc (by decide))) rfl ?_
        refine .drop .k1 ?_
        refine .opp (P.mov .t0) rfl ?_
        refine .nil ?_
        refine .then ?_
        refine .rd ?_
        refine .seq ?_
        refine .reg rfl ?_
        refine .opp (P.bin (v := Bo false) .g0 .k (BinV.lss.boolc (by decide))) rfl ?_
        refine .nil ?_
        refine .then ?_
        refine .seq ?_
        refine .condF .t0 ?_
        refine .exit ?_
        refine .thx ?_
        refine .thx ?_
        refine .inb ?_
        refine .then ?_
        refine .seq ?_
        refine .drawl [blk b14 191 (A3_i64.cs ⟨IntKind.i64.wrap (r19 - 32768), IntKind.i64.wrap (r25 - 32768), IntKind.i64.wrap (r31 - 32768)⟩)] [rows 1 u28 ((slc a0 (5 : Int).toNat (7 : Int).toNat).map (fun x => [B8 x])), rows 1 u22 ((slc a0 (3 : Int).toNat (5 : Int).toNat).map (fun x => [B8 x])), rows 1 u16 ((slc a0 (1 : Int).toNat (3 : Int).toNat).map (fun x => [B8 x])), rows 1 v00 (a0.map (fun x => [B8 x]))] (Ls.of (.cons .k0 .nil)) (Rs.cons Mm.m0 (Rs.cons Mm.m1 (Rs.cons Mm.m2 (Rs.cons Mm.m3 Rs.nil)))) 24 (.on 0 .pu (.on 1 .pu (.on 4 .pu (.on 6 .pu (.on 8 .pu (.on 10 .pu (.on 11 .pu (.on 12 .pu (.on 13 .pu (.on 17 .pu (.on 18 .pu (.on 19 .pu (.on 20 .pu (.on 2 .ld (.on 3 .pu (.on 5 .ld (.on 7 .ld (.on 9 .ld (.on 14 .go (.on 15 .go (.on 16 .pu (.on 21 .go (.on 22 .go (.on 23 .go .nl)))))))))))))))))))))))) follows_mixed (.thn .body) (by kernel_rfl) ?_
        refine .dpu rfl (.n rfl) (P.mov .g4) rfl rfl ?_
        obtain ⟨x36, hx37, h⟩ := bnd_eq h
        obtain ⟨i38, hi39, hx37⟩ := at_eq hx37
        have hi39_ : (0 : Int).toNat = i38 := by rw [hi39]; rfl
        refine .ixq Mm.m3 (map_get hx37) fun p33 q34 hq35 => ?_
        refine .dpu rfl (.n rfl) (P.ixi (i := i38) .k hi39 .t0 hq35 runUnderlying44 sizeOf5) rfl rfl ?_
        refine .dpu rfl (.n rfl) (P.iac (i := 0) .k rfl .g2 runUnderlying191 sizeOf3 rfl rfl) rfl rfl ?_
        refine .dpu rfl (.n rfl) (P.iac (i := 1) .k rfl .g3 runUnderlying191 sizeOf3 rfl rfl) rfl rfl ?_
        refine .dpu rfl (.n rfl) (P.iac (i := 2) .k rfl .t4 runUnderlying191 sizeOf3 rfl rfl) rfl rfl ?_
        refine .dpu rfl (.n rfl) (P.mov .g7) rfl rfl ?_
        refine .dpu rfl (.n rfl) (P.mov .g6) rfl rfl ?_
        refine .dpu rfl (.n rfl) (P.bin .k .t0 .add) rfl rfl ?_
        obtain ⟨hb40, h⟩ := grd_eq h
        refine .slnq Mm.m3 fun hq44 => ?_
        simp only [List.length_map] at hq44
        refine .dpu rfl (.n rfl) (P.slp (li := (some 9)) (hj := (some (IntKind.i64.wrap (9 + r7)))) (mk := none) .t1 (.some .k) (.some .t0) .none hq44 runUnderlying44 sizeOf5 (by simpa using hb40)) rfl rfl ?_
        refine .slgen Mm.m3 (by simpa using hb40) fun u41 => ?_
        refine .rhead (q := rows 1 u41 ((slc a0 (9 : Int).toNat (IntKind.i64.wrap (9 + r7)).toNat).map (fun x => [B8 x]))) (fun _ hh => by simpa [slc_map] using hh) ?_
        refine .dpu rfl (.n rfl) (P.mov .t8) rfl rfl ?_
        refine .dpu rfl (.n rfl) (P.mov .t7) rfl rfl ?_
        refine .dpu rfl (.n rfl) (P.bin .k .t0 .add) rfl rfl ?_
        obtain ⟨hb45, h⟩ := grd_eq h
        refine .slnq Mm.m4 fun hq49 => ?_
        simp only [List.length_map] at hq49
        refine .dpu rfl (.n rfl) (P.slp (li := (some (IntKind.i64.wrap (9 + r7)))) (hj := none) (mk := none) .t1 (.some .t0) .none .none hq49 runUnderlying44 sizeOf5 (by simpa using hb45)) rfl rfl ?_
        refine .slgen Mm.m4 (by simpa using hb45) fun u46 => ?_
        refine .rhead (q := rows 1 u46 ((slc a0 (IntKind.i64.wrap (9 + r7)).toNat a0.length).map (fun x => [B8 x]))) (fun _ hh => by simpa [slc_map] using hh) ?_
        refine .dld rfl (.n rfl) (V.ldx0 (u := B8 x36) .t5 hq35 Mm.m3 (map_get hx37) (.one isAgg5 rfl)) (fun _ h => (h.imp (Ls.of (.cons .k0 .nil))).ro (Rs.cons Mm.m2 (Rs.cons Mm.m3 (Rs.cons Mm.m4 (Rs.cons Mm.m5 Rs.nil))))) rfl rfl ?_
        refine .dpu rfl (.n rfl) (P.cnvIB8 (x := x36) .t0 runUnderlying5 runUnderlying3) rfl rfl ?_
        refine .dld rfl (.n rfl) (V.ld (v := N (IntKind.i64.wrap (r19 - 32768))) .t5 .k0 (.one isAgg3 rfl)) (fun _ h => (h.imp (Ls.of (.cons .k0 .nil))).ro (Rs.cons Mm.m2 (Rs.cons Mm.m3 (Rs.cons Mm.m4 (Rs.cons Mm.m5 Rs.nil))))) rfl rfl ?_
        refine .dld rfl (.n rfl) (V.ld (v := N (IntKind.i64.wrap (r25 - 32768))) .t5 .k0 (.one isAgg3 rfl)) (fun _ h => (h.imp (Ls.of (.cons .k0 .nil))).ro (Rs.cons Mm.m2 (Rs.cons Mm.m3 (Rs.cons Mm.m4 (Rs.cons Mm.m5 Rs.nil))))) rfl rfl ?_
        refine .dld rfl (.n rfl) (V.ld (v := N (IntKind.i64.wrap (r31 - 32768))) .t5 .k0 (.one isAgg3 rfl)) (fun _ h => (h.imp (Ls.of (.cons .k0 .nil))).ro (Rs.cons Mm.m2 (Rs.cons Mm.m3 (Rs.cons Mm.m4 (Rs.cons Mm.m5 Rs.nil))))) rfl rfl ?_
        refine .oner Mm.m1 fun ho51 => ?_
        refine .dgo rfl (.n rfl) (G.bsl (cs := [u41]) .t5 runUnderlying212 sizeOf44 zeroValue44 (cells1 ho51) rfl rfl rfl rfl) (.inr fun _ _ _ h => (h.imp (Ls.of (.cons .k1 .nil))).ro (Rs.cons Mm.m2 (Rs.cons Mm.m3 (Rs.cons Mm.m4 (Rs.cons Mm.m5 Rs.nil))))) fun u50 _ => ?_
        refine .frz .k0 ?_
        obtain ⟨r52, hr53, h⟩ := bnd_eq h
        refine .dgo rfl (.n rfl) (G.call call125 (.cons .t0 .nil) (S_blob_Cat_n1 u50 u41 (slc a0 (9 : Int).toNat (IntKind.i64.wrap (9 + r7)).toNat) r52 hr53) .nil (.cons Mm.m0 (.cons Mm.m2 .nil)) (fun _ _ => rfl) (fun _ _ => rfl) rfl) (.inr fun _ _ _ h => (h.imp (Ls.of (.cons .k1 .nil))).ro (Rs.cons Mm.m3 (Rs.cons Mm.m4 (Rs.cons Mm.m5 (Rs.cons Mm.m6 Rs.nil))))) fun u54 _ => ?_
        refine .cell .k0 fun hv55 => ?_
        refine .dpu rfl (.n rfl) (P.bld (v := Ag (api_Step.cs ⟨(x36.toNat : Int), IntKind.i64.wrap (r19 - 32768), IntKind.i64.wrap (r25 - 32768), IntKind.i64.wrap (r31 - 32768), []⟩ u54)) (.cons .t4 (.cons .t3 (.cons .t2 (.cons .t1 (.cons .t0 .nil))))) (bld_run zeroValue123 runUnderlying123 pl_123 (by obtain ⟨_, _, _, rfl⟩ := hv55; kernel_rfl))) rfl rfl ?_
        refine .onel .k0 fun ho56 => ?_
        refine .dgo rfl (.n rfl) (G.str .t0 .g2 .k2 (.mk (cs' := (api_Step.cs ⟨(x36.toNat : Int), IntKind.i64.wrap (r19 - 32768), IntKind.i64.wrap (r25 - 32768), IntKind.i64.wrap (r31 - 32768), []⟩ u54)) sizeOf123 rfl (onez_123 _ ho56) rfl rfl)) (.inr fun _ _ _ h => (h.imp (Ls.of (.cons .k2 .nil))).ro (Rs.cons Mm.m3 (Rs.cons Mm.m4 (Rs.cons Mm.m5 (Rs.cons Mm.m6 Rs.nil))))) fun _ _ => ?_
        refine .dgo rfl (.n rfl) (OpV.g (OpP.toV (P.asg .t0)) rfl) (.inr fun _ _ _ h => (h.imp (Ls.of (.cons .k2 .nil))).ro (Rs.cons Mm.m3 (Rs.cons Mm.m4 (Rs.cons Mm.m5 (Rs.cons Mm.m6 Rs.nil))))) fun _ _ => ?_
        refine .dgo rfl (.n rfl) (OpV.g (OpP.toV (P.asg .k)) rfl) (.inr fun _ _ _ h => (h.imp (Ls.of (.cons .k2 .nil))).ro (Rs.cons Mm.m3 (Rs.cons Mm.m4 (Rs.cons Mm.m5 (Rs.cons Mm.m6 Rs.nil))))) fun _ _ => ?_
        refine .dnil ?_
        refine .then ?_
        refine .ret ?_
        cases h
        exact .finw ⟨u54, u46⟩ (.r3 rfl (.cell .g3 .k0 (.agg isAgg123 sizeOf123 rfl rfl)) (.tmp .g1) (.tmp .g0)) trivial (Ls.of (.cons .k1 .nil)) (.cons Mm.m1 .nil)
attribute [irreducible] script_next
noncomputable def script_Read (a0 : List UInt8) : Option ((List api_Step) × Int) :=
  if (decide ((a0.length : Int) > 8192)) = true then (some ((([] : List api_Step), 5))) else (Option.bind (loopW (fun (s2 : (List api_Step) × (List UInt8)) => if (decide ((s2.2.length : Int) > 0)) = true then (Option.bind (script_next s2.2) fun r12 => if (!r12.2.2) = true then (Option.map Ct.rt (some ((([] : List api_Step), 16)))) else (grd ((s2.1.length + ([r12.1] : List api_Step).length) * 56 ≤ 140737488355328) <| some (.nx (((s2.1 ++ ([r12.1] : List api_Step)), r12.2.1))))) else (some (.br (s2.1, s2.2)))) ([], a0)) fun o4 => Lo.on o4 fun (s2 : (List api_Step) × (List UInt8)) => if (decide ((s2.1.length : Int) > 512)) = true then (some ((([] : List api_Step), 3))) else (some (s2.1, 0)))
set_option maxRecDepth 20000 in
set_option maxHeartbeats 1000000 in
theorem S_script_Read (v00 : Value) (a0 : List UInt8) (r : (List api_Step) × Int) (h : script_Read a0 = some r) :
    SpecF Try.prog 20 [v00] [] [rows 1 v00 (a0.map (fun x => [B8 x]))] (fun z : Value × List Value => True) (fun z => Tu [z.1, N r.2]) (fun z M => lst 123 5 z.1 (List.zipWith api_Step.cs r.1 z.2) ::  M) (fun z M => gz api_Step.g r.1 z.2 ::  M) := by
  refine .of func20 rfl ntmps20 rfl fun w0 D0 G0 => ?_
  unfold script_Read at h
  refine .seq ?_
  refine .reg rfl ?_
  refine .op0 (OpP.toV (P.asg .k)) rfl ?_
  refine .op0 (OpP.toV (P.asg .k)) rfl ?_
  refine .nil ?_
  refine .then ?_
  refine .seq ?_
  refine .reg rfl ?_
  refine .opp (P.asg .k) rfl ?_
  refine .nil ?_
  refine .then ?_
  refine .seq ?_
  refine .seq ?_
  refine .reg rfl ?_
  refine .opp (P.mov .g1) rfl ?_
  refine .op (V.lnr (n := a0.length) .t0 Mm.m0 map_len runUnderlying44) rfl ?_
  refine .opp (P.bin .t0 .k .gtr) rfl ?_
  refine .nil ?_
  refine .then ?_
  refine .cond .t0 (fun c1 => ?_) (fun c1 => ?_)
  · rw [if_pos c1] at h
    refine .seq ?_
    refine .reg rfl ?_
    refine .opp (P.asg .k) rfl ?_
    refine .opp (P.asg .k) rfl ?_
    refine .nil ?_
    refine .then ?_
    refine .ret ?_
    refine .thr ?_
    cases h
    refine .lnil 123 5 ?_
    refine .gzn (G := api_Step.g) ?_
    exact .finw ⟨nilSl, []⟩ (.r2 rfl (.tmp .g1) (.tmp .g0)) trivial (Ls.of (.cons .k0 .nil)) (.cons Mm.m0 .nil)
  · rw [if_neg (ne_true_of_eq_false c1)] at h
    refine .skip ?_
    refine .then ?_
    refine .seq ?_
    refine .block ?_
    refine .lnil 123 5 ?_
    refine .gzn (G := api_Step.g) ?_
    obtain ⟨o4, ho5, h⟩ := bnd_eq h
    refine .loopW (γ := Value × Value × List Value) (fun (s2 : (List api_Step) × (List UInt8)) z3 => [(4, z3.1), (0, z3.2.1)]) (fun (s2 : (List api_Step) × (List UInt8)) z3 => [lst 123 5 z3.1 (List.zipWith api_Step.cs s2.1 z3.2.2)]) (fun (s2 : (List api_Step) × (List UInt8)) z3 => [gz api_Step.g s2.1 z3.2.2, rows 1 z3.2.1 (s2.2.map (fun x => [B8 x])), rows 1 v00 (a0.map (fun x => [B8 x]))]) ⟨nilSl, v00, []⟩ ho5 (.cons Mm.m0 (.cons Mm.m1 .nil)) (.of (.cons .k0 .nil)) (.cons Mm.m0 (.cons Mm.m1 (.cons Mm.m1 .nil))) (fun n10 s2 z3 hr8 => ?_)
    obtain ⟨ct9, hc6, hn7⟩ := loopK_at hr8
    refine .seq ?_
    refine .seq ?_
    refine .reg rfl ?_
    refine .opp (P.mov .g1) rfl ?_
    refine .op (V.lnr (n := s2.2.length) .t0 Mm.m1 map_len runUnderlying44) rfl ?_
    refine .opp (P.bin .t0 .k .gtr) rfl ?_
    refine .nil ?_
    refine .then ?_
    refine .cond .t0 (fun c11 => ?_) (fun c11 => ?_)
    · rw [if_pos c11] at hc6
      refine .skip ?_
      refine .then ?_
      refine .block ?_
      refine .seq ?_
      refine .reg rfl ?_
      refine .opp (P.mov .t1) rfl ?_
      obtain ⟨r12, hr13, hc6⟩ := bnd_eq hc6
      refine .opg (G.call call65 (.cons .t0 .nil) (S_script_next z3.2.1 s2.2 r12 hr13) .nil (.cons Mm.m1 .nil) (fun _ _ => rfl) (fun _ _ => rfl) rfl) rfl fun ⟨u14, u15⟩ _ => ?_
      refine .opp (P.mov .t0) rfl ?_
      refine .opp (P.ext (v := Ag (api_Step.cs r12.1 u14)) .g0 rfl) rfl ?_
      refine .opp (P.ext (v := u15) .g1 rfl) rfl ?_
      refine .opp (P.ext (v := Bo r12.2.2) .t2 rfl) rfl ?_
      refine .opx (X.alc (cs := (api_Step.cs ⟨0, 0, 0, 0, []⟩ nilSl)) zeroValue123 rfl) rfl fun b16 => ?_
      refine .onel .k1 fun ho17 => ?_
      refine .opg (G.str .t3 .g0 .k0 (.mk (cs' := (api_Step.cs r12.1 u14)) sizeOf123 rfl (onez_123 _ ho17) rfl rfl)) rfl fun _ _ => ?_
      refine .opp (P.asg .t2) rfl ?_
      refine .opp (P.asg .t2) rfl ?_
      refine .nil ?_
      refine .then ?_
      refine .seq ?_
      refine .seq ?_
      refine .reg rfl ?_
      refine .opp (P.mov .t0) rfl ?_
      refine .opp (P.not .t0) rfl ?_
      refine .nil ?_
      refine .then ?_
      refine .cond .t0 (fun c18 => ?_) (fun c18 => ?_)
      · rw [if_pos c18] at hc6
        refine .seq ?_
        refine .reg rfl ?_
        refine .opp (P.asg .k) rfl ?_
        refine .opp (P.asg .k) rfl ?_
        refine .nil ?_
        refine .then ?_
        refine .ret ?_
        refine .thr ?_
        refine .inr ?_
        obtain ⟨x19, hx20, rfl⟩ := map_rt hc6
        obtain rfl := hn7
        obtain rfl := rt_on h
        refine .thr ?_
        refine .inr ?_
        refine .thr ?_
        cases hx20
        refine .lnil 123 5 ?_
        refine .gzn (G := api_Step.g) ?_
        exact .finw ⟨nilSl, []⟩ (.r2 rfl (.tmp .g1) (.tmp .g0)) trivial (Ls.of (.cons .k0 .nil)) (.cons Mm.m0 .nil)
      · rw [if_neg (ne_true_of_eq_false c18)] at hc6
        refine .skip ?_
        refine .then ?_
        refine .reg rfl ?_
        refine .opp (P.mov .g2) rfl ?_
        refine .op (V.ld (v := Ag (api_Step.cs r12.1 u14)) .t2 .k0 (.agg isAgg123 sizeOf123 rfl rfl)) rfl ?_
        refine .opg (G.bsl (cs := (api_Step.cs r12.1 u14)) .t0 runUnderlying43 sizeOf123 zeroValue123 rfl rfl rfl rfl rfl) rfl fun u21 _ => ?_
        refine .gzl Mm.m1 fun hz23 => ?_
        refine .frz .k2 ?_
        refine .gzn (G := api_Step.g) ?_
        refine .gzc (x := r12.1) (z := u14) Mm.m0 rfl ?_
        refine .gzo (D := api_Step.cs) Mm.m0 (fun _ _ _ h => rows_one h) (fun x z h => onez_123 x h) fun ho24 => ?_
        refine .gza Mm.m3 Mm.m0 ?_
        obtain ⟨hb25, hc6⟩ := grd_eq hc6
        refine .opg (G.app (by_ := 56) .t1 .t0 .k2 (.inr (.inr ⟨_, Mm.m0⟩)) runUnderlying43 runUnderlying43 sizeOf123 typeInfo123 rfl rfl zeroValue123 rfl ho24 (by simpa [zip_len hz23] using hb25) rfl) rfl fun u22 _ => ?_
        refine .conseq .k0 (q := lst 123 5 u22 (List.zipWith api_Step.cs (s2.1 ++ ([r12.1] : List api_Step)) (z3.2.2 ++ [u14]))) (fun _ hh => by simpa [zip_app hz23] using hh) ?_
        refine .opp (P.mov .t1) rfl ?_
        refine .drop .k2 ?_
        refine .opp (P.asg .t1) rfl ?_
        refine .opp (P.asg .t1) rfl ?_
        refine .nil ?_
        refine .inn ?_
        cases hc6
        obtain ⟨m26, hm27, hn7⟩ := hn7
        exact .rdW (((s2.1 ++ ([r12.1] : List api_Step)), r12.2.1)) ⟨u22, u15, (z3.2.2 ++ [u14])⟩ hm27 hn7 (.cons Mm.m1 (.cons Mm.m0 .nil)) (.of (.cons .k0 .nil)) (.cons Mm.m0 (.cons Mm.m3 (.cons Mm.m6 .nil)))
    · rw [if_neg (ne_true_of_eq_false c11)] at hc6
      refine .exit ?_
      refine .thx ?_
      cases hc6
      refine .told (γ := Value × Value × List Value) h hn7 (fun (s2 : (List api_Step) × (List UInt8)) z3 => [(4, z3.1), (0, z3.2.1)]) (fun (s2 : (List api_Step) × (List UInt8)) z3 => [lst 123 5 z3.1 (List.zipWith api_Step.cs s2.1 z3.2.2)]) (fun (s2 : (List api_Step) × (List UInt8)) z3 => [gz api_Step.g s2.1 z3.2.2, rows 1 z3.2.1 (s2.2.map (fun x => [B8 x])), rows 1 v00 (a0.map (fun x => [B8 x]))]) ⟨z3.1, z3.2.1, z3.2.2⟩ (.cons Mm.m0 (.cons Mm.m1 .nil)) (.of (.cons .k0 .nil)) (.cons Mm.m0 (.cons Mm.m1 (.cons Mm.m2 .nil))) (fun s2 z3 h' => ?_)
      replace h := h'
      refine .thx ?_
      refine .inb ?_
      refine .then ?_
      refine .seq ?_
      refine .seq ?_
      refine .reg rfl ?_
      refine .opp (P.mov .g0) rfl ?_
      refine .gzl Mm.m0 fun hz28 => ?_
      refine .op (V.lnl (n := s2.1.length) .t0 .k0 (zip_len hz28) runUnderlying43) rfl ?_
      refine .opp (P.bin .t0 .k .gtr) rfl ?_
      refine .nil ?_
      refine .then ?_
      refine .cond .t0 (fun c29 => ?_) (fun c29 => ?_)
      · rw [if_pos c29] at h
        refine .seq ?_
        refine .reg rfl ?_
        refine .opp (P.asg .k) rfl ?_
        refine .opp (P.asg .k) rfl ?_
        refine .nil ?_
        refine .then ?_
        refine .ret ?_
        refine .thr ?_
        cases h
        refine .lnil 123 5 ?_
        refine .gzn (G := api_Step.g) ?_
        exact .finw ⟨nilSl, []⟩ (.r2 rfl (.tmp .g1) (.tmp .g0)) trivial (Ls.of (.cons .k0 .nil)) (.cons Mm.m0 .nil)
      · rw [if_neg (ne_true_of_eq_false c29)] at h
        refine .skip ?_
        refine .then ?_
        refine .seq ?_
        refine .reg rfl ?_
        refine .opp (P.mov .t0) rfl ?_
        refine .opp (P.asg .t0) rfl ?_
        refine .opp (P.asg .k) rfl ?_
        refine .nil ?_
        refine .then ?_
        refine .ret ?_
        cases h
        exact .finw ⟨z3.1, z3.2.2⟩ (.r2 rfl (.tmp .g1) (.tmp .g0)) trivial (Ls.of (.cons .k0 .nil)) (.cons Mm.m0 .nil)
attribute [irreducible] script_Read
noncomputable def narrowslaw25_alive  : Option (Bool) :=
  Option.bind (script_Put ([(⟨3, (-1), 0, 0, []⟩ : api_Step)] : List api_Step)) fun r2 => Option.bind (script_Read r2.1) fun r5 => Option.bind (if (decide (r2.2 = 0)) = true then (if (decide (r5.2 = 0)) = true then (if (decide ((r2.1.length : Int) = 9)) = true then (if (decide ((r5.1.length : Int) = 1)) = true then (Option.bind (at_ r5.1 0) fun (x20 : api_Step) => some (decide (x20.A = (-1)))) else (some false)) else (some false)) else (some false)) else (some false)) fun (y9 : Bool) => some y9
set_option maxRecDepth 20000 in
set_option maxHeartbeats 1000000 in
theorem S_narrowslaw25_alive  (r : Bool) (h : narrowslaw25_alive  = some r) :
    SpecF Try.prog 18 [] [] [] (fun z : Unit => True) (fun z => Bo r) (fun z M =>  M) (fun z M =>  M) := by
  refine .of func18 rfl ntmps18 rfl fun w0 D0 G0 => ?_
  unfold narrowslaw25_alive at h
  refine .seq ?_
  refine .reg rfl ?_
  refine .op0 (OpP.toV (P.asg .k)) rfl ?_
  refine .nil ?_
  refine .then ?_
  refine .seq ?_
  refine .reg rfl ?_
  refine .opp (P.bld (v := Ag (api_Step.cs ⟨3, (-1), 0, 0, []⟩ nilSl)) (.cons .k (.cons .k .nil)) (bld_run zeroValue123 runUnderlying123 pl_123 (by kernel_rfl))) rfl ?_
  refine .opg (G.bsl (cs := (api_Step.cs (⟨3, (-1), 0, 0, []⟩ : api_Step) nilSl)) .t0 runUnderlying43 sizeOf123 zeroValue123 rfl rfl rfl rfl rfl) rfl fun u1 _ => ?_
  refine .frz .k0 ?_
  refine .rnil0 1 ?_
  refine .gzn (G := api_Step.g) ?_
  refine .gzc (x := (⟨3, (-1), 0, 0, []⟩ : api_Step)) (z := nilSl) Mm.m0 rfl ?_
  obtain ⟨r2, hr3, h⟩ := bnd_eq h
  refine .opg (G.call call19 (.cons .t0 .nil) (S_script_Put u1 ([(⟨3, (-1), 0, 0, []⟩ : api_Step)] : List api_Step) ([nilSl]) r2 hr3) .nil (.cons Mm.m2 (.cons Mm.m0 .nil)) (fun _ _ => rfl) (fun _ _ => rfl) rfl) rfl fun u4 _ => ?_
  refine .opp (P.mov .t0) rfl ?_
  refine .opp (P.ext (v := u4) .g0 rfl) rfl ?_
  refine .opp (P.ext (v := N r2.2) .t1 rfl) rfl ?_
  refine .opp (P.asg .t1) rfl ?_
  refine .opp (P.asg .t1) rfl ?_
  refine .nil ?_
  refine .then ?_
  refine .seq ?_
  refine .reg rfl ?_
  refine .opp (P.mov .g1) rfl ?_
  refine .frz .k0 ?_
  obtain ⟨r5, hr6, h⟩ := bnd_eq h
  refine .opg (G.call call20 (.cons .t0 .nil) (S_script_Read u4 r2.1 r5 hr6) .nil (.cons Mm.m0 .nil) (fun _ _ => rfl) (fun _ _ => rfl) rfl) rfl fun ⟨u7, w8⟩ _ => ?_
  refine .opp (P.mov .t0) rfl ?_
  refine .opp (P.ext (v := u7) .g0 rfl) rfl ?_
  refine .opp (P.ext (v := N r5.2) .t1 rfl) rfl ?_
  refine .opp (P.asg .t1) rfl ?_
  refine .opp (P.asg .t1) rfl ?_
  refine .nil ?_
  refine .then ?_
  obtain ⟨y9, hj11, h⟩ := bnd_eq h
  refine .cutx (γ := Unit) (E1 := fun z10 => [(0, Bo y9)]) (L1 := fun z10 => []) (R1 := fun z10 => []) ?_ (fun z10 => ?_)
  · clear h
    refine .reg rfl ?_
    refine .opp (P.mov .t2) rfl ?_
    refine .opp (P.bin .t0 .k .eql) rfl ?_
    refine .opp (P.mov .t0) rfl ?_
    refine .split .k0 (fun c12 => ?_) (fun c12 => ?_)
    · rw [if_pos c12] at hj11
      refine .gyes rfl .g0 ?_
      refine .opp (P.mov .t1) rfl ?_
      refine .gyes rfl .g1 ?_
      refine .opp (P.bin .t0 .k .eql) rfl ?_
      refine .opp (P.pickT .t1 .t0) rfl ?_
      refine .opp (P.mov .t0) rfl ?_
      refine .split .k0 (fun c13 => ?_) (fun c13 => ?_)
      · rw [if_pos c13] at hj11
        refine .gyes rfl .g0 ?_
        refine .opp (P.mov .t2) rfl ?_
        refine .gyes rfl .g1 ?_
        refine .op (V.lnr (n := r2.1.length) .t0 Mm.m1 map_len runUnderlying44) rfl ?_
        refine .gyes rfl .g1 ?_
        refine .opp (P.bin .t0 .k .eql) rfl ?_
        refine .opp (P.pickT .t1 .t0) rfl ?_
        refine .opp (P.mov .t0) rfl ?_
        refine .split .k0 (fun c14 => ?_) (fun c14 => ?_)
        · rw [if_pos c14] at hj11
          refine .gyes rfl .g0 ?_
          refine .opp (P.mov .g1) rfl ?_
          refine .gyes rfl .g1 ?_
          refine .gzl Mm.m0 fun hz15 => ?_
          refine .op (V.lnl (n := r5.1.length) .t0 .k0 (zip_len hz15) runUnderlying43) rfl ?_
          refine .gyes rfl .g1 ?_
          refine .opp (P.bin .t0 .k .eql) rfl ?_
          refine .opp (P.pickT .t1 .t0) rfl ?_
          refine .opp (P.mov .t0) rfl ?_
          refine .split .k0 (fun c16 => ?_) (fun c16 => ?_)
          · rw [if_pos c16] at hj11
            refine .gyes rfl .g0 ?_
            refine .opp (P.mov .t1) rfl ?_
            refine .gyes rfl .g1 ?_
            obtain ⟨x20, hx21, hj11⟩ := bnd_eq hj11
            obtain ⟨i22, hi23, hx21⟩ := at_eq hx21
            refine .gzl Mm.m0 fun hz24 => ?_
            refine .gzx (D := api_Step.cs) (q := fun z_ => rows 1 z_ (x20.Data.map (fun x => [B8 x]))) Mm.m0 hx21 (fun _ => rfl) fun u25 hz27 hx26 => ?_
            have hi23_ : (0 : Int).toNat = i22 := by rw [hi23]; rfl
            refine .ixql .k0 hx26 fun p17 q18 hq19 => ?_
            refine .opp (P.ixi (i := i22) .k hi23 .t0 hq19 runUnderlying43 sizeOf123) rfl ?_
            refine .gyes rfl .g1 ?_
            refine .opp (P.fa (off' := q18 + 1) .t0 fa_123_1 rfl) rfl ?_
            refine .gyes rfl .g1 ?_
            refine .op (V.ldxl (u := N x20.A) (off := q18) (k := 1) .t0 hq19 .k0 hx26 (.one isAgg3 rfl)) rfl ?_
            refine .gyes rfl .g1 ?_
            refine .opp (P.bin .t0 .k .eql) rfl ?_
            refine .opp (P.pickT .t1 .t0) rfl ?_
            refine .opp (P.asg .t0) rfl ?_
            refine .nil ?_
            cases hj11
            exact .stj () (.cons Mm.m0 .nil) (.of .nil) .nil
          · rw [if_neg (ne_true_of_eq_false c16)] at hj11
            refine .gno rfl .g0 rfl rfl ?_
            refine .gno rfl .g0 rfl rfl ?_
            refine .gno rfl .g0 rfl rfl ?_
            refine .gno rfl .g0 rfl rfl ?_
            refine .gno rfl .g0 rfl rfl ?_
            refine .opp (P.pickF .t0 .k) rfl ?_
            refine .opp (P.asg .t0) rfl ?_
            refine .nil ?_
            cases hj11
            exact .stj () (.cons Mm.m0 .nil) (.of .nil) .nil
        · rw [if_neg (ne_true_of_eq_false c14)] at hj11
          refine .gno rfl .g0 rfl rfl ?_
          refine .gno rfl .g0 rfl rfl ?_
          refine .gno rfl .g0 rfl rfl ?_
          refine .opp (P.pickF .t0 .k) rfl ?_
          refine .opp (P.mov .t0) rfl ?_
          refine .gno rfl .g0 rfl rfl ?_
          refine .gno rfl .g0 rfl rfl ?_
          refine .gno rfl .g0 rfl rfl ?_
          refine .gno rfl .g0 rfl rfl ?_
          refine .gno rfl .g0 rfl rfl ?_
          refine .opp (P.pickF .t0 .k) rfl ?_
          refine .opp (P.asg .t0) rfl ?_
          refine .nil ?_
          cases hj11
          exact .stj () (.cons Mm.m0 .nil) (.of .nil) .nil
      · rw [if_neg (ne_true_of_eq_false c13)] at hj11
        refine .gno rfl .g0 rfl rfl ?_
        refine .gno rfl .g0 rfl rfl ?_
        refine .gno rfl .g0 rfl rfl ?_
        refine .opp (P.pickF .t0 .k) rfl ?_
        refine .opp (P.mov .t0) rfl ?_
        refine .gno rfl .g0 rfl rfl ?_
        refine .gno rfl .g0 rfl rfl ?_
        refine .gno rfl .g0 rfl rfl ?_
        refine .opp (P.pickF .t0 .k) rfl ?_
        refine .opp (P.mov .t0) rfl ?_
        refine .gno rfl .g0 rfl rfl ?_
        refine .gno rfl .g0 rfl rfl ?_
        refine .gno rfl .g0 rfl rfl ?_
        refine .gno rfl .g0 rfl rfl ?_
        refine .gno rfl .g0 rfl rfl ?_
        refine .opp (P.pickF .t0 .k) rfl ?_
        refine .opp (P.asg .t0) rfl ?_
        refine .nil ?_
        cases hj11
        exact .stj () (.cons Mm.m0 .nil) (.of .nil) .nil
    · rw [if_neg (ne_true_of_eq_false c12)] at hj11
      refine .gno rfl .g0 rfl rfl ?_
      refine .gno rfl .g0 rfl rfl ?_
      refine .opp (P.pickF .t0 .k) rfl ?_
      refine .opp (P.mov .t0) rfl ?_
      refine .gno rfl .g0 rfl rfl ?_
      refine .gno rfl .g0 rfl rfl ?_
      refine .gno rfl .g0 rfl rfl ?_
      refine .opp (P.pickF .t0 .k) rfl ?_
      refine .opp (P.mov .t0) rfl ?_
      refine .gno rfl .g0 rfl rfl ?_
      refine .gno rfl .g0 rfl rfl ?_
      refine .gno rfl .g0 rfl rfl ?_
      refine .opp (P.pickF .t0 .k) rfl ?_
      refine .opp (P.mov .t0) rfl ?_
      refine .gno rfl .g0 rfl rfl ?_
      refine .gno rfl .g0 rfl rfl ?_
      refine .gno rfl .g0 rfl rfl ?_
      refine .gno rfl .g0 rfl rfl ?_
      refine .gno rfl .g0 rfl rfl ?_
      refine .opp (P.pickF .t0 .k) rfl ?_
      refine .opp (P.asg .t0) rfl ?_
      refine .nil ?_
      cases hj11
      exact .stj () (.cons Mm.m0 .nil) (.of .nil) .nil
  · clear hj11
    refine .ret ?_
    cases h
    exact .finw () (.r1 rfl (.tmp .g0)) trivial (Ls.of .nil) .nil
attribute [irreducible] narrowslaw25_alive
noncomputable def narrowslaw25_same (a0 : List api_Step) (a1 : List api_Step) : Option (Bool) :=
  if (decide ((a0.length : Int) ≠ (a1.length : Int))) = true then (some false) else (Option.bind (loopW (fun (s4 : Int) => if (decide (s4 < (a0.length : Int))) = true then (Option.bind (Option.bind (at_ a0 s4) fun (x21 : api_Step) => Option.bind (at_ a1 s4) fun (x32 : api_Step) => if (decide (x21.Kind ≠ x32.Kind)) = true then (some true) else (Option.bind (at_ a0 s4) fun (x44 : api_Step) => Option.bind (at_ a1 s4) fun (x55 : api_Step) => if (decide (x44.A ≠ x55.A)) = true then (some true) else (Option.bind (at_ a0 s4) fun (x67 : api_Step) => Option.bind (at_ a1 s4) fun (x78 : api_Step) => if (decide (x67.B ≠ x78.B)) = true then (some true) else (Option.bind (at_ a0 s4) fun (x90 : api_Step) => Option.bind (at_ a1 s4) fun (x101 : api_Step) => if (decide (x90.C ≠ x101.C)) = true then (some true) else (Option.bind (at_ a0 s4) fun (x113 : api_Step) => Option.bind (at_ a1 s4) fun (x124 : api_Step) => some (decide ((⟨⟨x113.Data⟩⟩ : ByteArray) ≠ (⟨⟨x124.Data⟩⟩ : ByteArray)))))))) fun (y15 : Bool) => if y15 = true then (Option.map Ct.rt (some false)) else (some (.nx (IntKind.i64.wrap (s4 + 1))))) else (some (.br s4))) 0) fun o6 => Lo.on o6 fun (s4 : Int) => some true)
set_option maxRecDepth 20000 in
set_option maxHeartbeats 1000000 in
theorem S_narrowslaw25_same (v00 : Value) (a0 : List api_Step) (zl00 : List Value) (v01 : Value) (a1 : List api_Step) (zl01 : List Value) (r : Bool) (h : narrowslaw25_same a0 a1 = some r) :
    SpecF Try.prog 21 [v00, v01] [] [rows 5 v00 (List.zipWith api_Step.cs a0 zl00), gz api_Step.g a0 zl00, rows 5 v01 (List.zipWith api_Step.cs a1 zl01), gz api_Step.g a1 zl01] (fun z : Unit => True) (fun z => Bo r) (fun z M =>  M) (fun z M =>  M) := by
  refine .of func21 rfl ntmps21 rfl fun w0 D0 G0 => ?_
  unfold narrowslaw25_same at h
  refine .seq ?_
  refine .reg rfl ?_
  refine .op0 (OpP.toV (P.asg .k)) rfl ?_
  refine .nil ?_
  refine .then ?_
  refine .seq ?_
  refine .seq ?_
  refine .reg rfl ?_
  refine .opp (P.mov .g0) rfl ?_
  refine .gzl Mm.m1 fun hz1 => ?_
  refine .op (V.lnr (n := a0.length) .t0 Mm.m0 (zip_len hz1) runUnderlying43) rfl ?_
  refine .opp (P.mov .g2) rfl ?_
  refine .gzl Mm.m3 fun hz2 => ?_
  refine .op (V.lnr (n := a1.length) .t0 Mm.m2 (zip_len hz2) runUnderlying43) rfl ?_
  refine .opp (P.bin .t1 .t0 .neq) rfl ?_
  refine .nil ?_
  refine .then ?_
  refine .cond .t0 (fun c3 => ?_) (fun c3 => ?_)
  · rw [if_pos c3] at h
    refine .seq ?_
    refine .reg rfl ?_
    refine .opp (P.asg .k) rfl ?_
    refine .nil ?_
    refine .then ?_
    refine .ret ?_
    refine .thr ?_
    cases h
    exact .finw () (.r1 rfl (.tmp .g0)) trivial (Ls.of .nil) .nil
  · rw [if_neg (ne_true_of_eq_false c3)] at h
    refine .skip ?_
    refine .then ?_
    refine .seq ?_
    refine .seq ?_
    refine .reg rfl ?_
    refine .opp (P.asg .k) rfl ?_
    refine .nil ?_
    refine .then ?_
    refine .block ?_
    obtain ⟨o6, ho7, h⟩ := bnd_eq h
    refine .loopW (γ := Unit) (fun (s4 : Int) z5 => [(5, N s4), (0, v00), (1, v01)]) (fun (s4 : Int) z5 => []) (fun (s4 : Int) z5 => [gz api_Step.g a0 zl00, rows 5 v00 (List.zipWith api_Step.cs a0 zl00), gz api_Step.g a1 zl01, rows 5 v01 (List.zipWith api_Step.cs a1 zl01)]) () ho7 (.cons Mm.m0 (.cons Mm.m1 (.cons Mm.m2 .nil))) (.of .nil) (.cons Mm.m1 (.cons Mm.m0 (.cons Mm.m3 (.cons Mm.m2 .nil)))) (fun n12 s4 z5 hr10 => ?_)
    obtain ⟨ct11, hc8, hn9⟩ := loopK_at hr10
    refine .seq ?_
    refine .seq ?_
    refine .reg rfl ?_
    refine .opp (P.mov .g0) rfl ?_
    refine .opp (P.mov .g2) rfl ?_
    refine .gzl Mm.m0 fun hz13 => ?_
    refine .op (V.lnr (n := a0.length) .t0 Mm.m1 (zip_len hz13) runUnderlying43) rfl ?_
    refine .opp (P.bin .t1 .t0 .lss) rfl ?_
    refine .nil ?_
    refine .then ?_
    refine .cond .t0 (fun c14 => ?_) (fun c14 => ?_)
    · rw [if_pos c14] at hc8
      refine .skip ?_
      refine .then ?_
      refine .seq ?_
      refine .block ?_
      obtain ⟨y15, hj17, hc8⟩ := bnd_eq hc8
      refine .cutx (γ := Unit) (E1 := fun z16 => [(81, Bo y15), (5, N s4), (0, v00), (1, v01)]) (L1 := fun z16 => []) (R1 := fun z16 => [gz api_Step.g a0 zl00, rows 5 v00 (List.zipWith api_Step.cs a0 zl00), gz api_Step.g a1 zl01, rows 5 v01 (List.zipWith api_Step.cs a1 zl01)]) ?_ (fun z16 => ?_)
      · clear hc8
        refine .draw 65 (.on 0 .pu (.on 1 .pu (.on 2 .pu (.on 3 .pu (.on 5 .pu (.on 6 .pu (.on 7 .pu (.on 8 .pu (.on 4 .ld (.on 9 .ld (.on 10 .pu (.on 11 .pu (.on 12 .pu (.on 13 .pu (.on 14 .pu (.on 15 .pu (.on 17 .pu (.on 18 .pu (.on 19 .pu (.on 20 .pu (.on 16 .ld (.on 21 .ld (.on 22 .pu (.on 23 .pu (.on 24 .pu (.on 25 .pu (.on 26 .pu (.on 27 .pu (.on 28 .pu (.on 30 .pu (.on 31 .pu (.on 32 .pu (.on 33 .pu (.on 29 .ld (.on 34 .ld (.on 35 .pu (.on 36 .pu (.on 37 .pu (.on 38 .pu (.on 39 .pu (.on 40 .pu (.on 41 .pu (.on 43 .pu (.on 44 .pu (.on 45 .pu (.on 46 .pu (.on 42 .ld (.on 47 .ld (.on 48 .pu (.on 49 .pu (.on 50 .pu (.on 51 .pu (.on 52 .pu (.on 53 .pu (.on 54 .pu (.on 57 .pu (.on 58 .pu (.on 59 .pu (.on 60 .pu (.on 55 .ld (.on 56 .ld (.on 61 .ld (.on 62 .ld (.on 63 .pu (.on 64 .pu .nl))))))))))))))))))))))))))))))))))))))))))))))))))))))))))))))))) follows_mixed (.thn (.inb (.thn (.thn (.inb (.thn .body)))))) (by kernel_rfl) ?_
        refine .dpu rfl (.n rfl) (P.mov .g1) rfl rfl ?_
        refine .dpu rfl (.n rfl) (P.mov .g1) rfl rfl ?_
        obtain ⟨x21, hx22, hj17⟩ := bnd_eq hj17
        obtain ⟨i23, hi24, hx22⟩ := at_eq hx22
        refine .gzl Mm.m0 fun hz25 => ?_
        refine .gzx (D := api_Step.cs) (q := fun z_ => rows 1 z_ (x21.Data.map (fun x => [B8 x]))) Mm.m0 hx22 (fun _ => rfl) fun u26 hz28 hx27 => ?_
        have hi24_ : (s4).toNat = i23 := by rw [hi24]; rfl
        refine .ixq Mm.m2 hx27 fun p18 q19 hq20 => ?_
        refine .dpu rfl (.n rfl) (P.ixi (i := i23) .t0 hi24 .t0 hq20 runUnderlying43 sizeOf123) rfl rfl ?_
        refine .dpu rfl (.n rfl) (P.fa (off' := q19) .t0 fa_123_0 rfl) rfl rfl ?_
        refine .dpu rfl (.n rfl) (P.mov .g3) rfl rfl ?_
        refine .dpu rfl (.n rfl) (P.mov .g2) rfl rfl ?_
        obtain ⟨x32, hx33, hj17⟩ := bnd_eq hj17
        obtain ⟨i34, hi35, hx33⟩ := at_eq hx33
        refine .gzl Mm.m3 fun hz36 => ?_
        refine .gzx (D := api_Step.cs) (q := fun z_ => rows 1 z_ (x32.Data.map (fun x => [B8 x]))) Mm.m3 hx33 (fun _ => rfl) fun u37 hz39 hx38 => ?_
        have hi35_ : (s4).toNat = i34 := by rw [hi35]; rfl
        refine .ixq Mm.m5 hx38 fun p29 q30 hq31 => ?_
        refine .dpu rfl (.n rfl) (P.ixi (i := i34) .t0 hi35 .t0 hq31 runUnderlying43 sizeOf123) rfl rfl ?_
        refine .dpu rfl (.n rfl) (P.fa (off' := q30) .t0 fa_123_0 rfl) rfl rfl ?_
        refine .dld rfl (.n rfl) (V.ldx0 (u := N x21.Kind) .t1 hq20 Mm.m1 hx27 (.one isAgg3 rfl)) (fun _ h => (h.imp (Ls.of .nil)).ro (Rs.cons Mm.m2 (Rs.cons Mm.m3 (Rs.cons Mm.m4 (Rs.cons Mm.m5 Rs.nil))))) rfl rfl ?_
        refine .dld rfl (.n rfl) (V.ldx0 (u := N x32.Kind) .t1 hq31 Mm.m3 hx38 (.one isAgg3 rfl)) (fun _ h => (h.imp (Ls.of .nil)).ro (Rs.cons Mm.m2 (Rs.cons Mm.m3 (Rs.cons Mm.m4 (Rs.cons Mm.m5 Rs.nil))))) rfl rfl ?_
        refine .dpu rfl (.n rfl) (P.bin .t1 .t0 .neq) rfl rfl ?_
        refine .dpu rfl (.n rfl) (P.mov .t0) rfl rfl ?_
        refine .split .k0 (fun c40 => ?_) (fun c40 => ?_)
        · rw [if_pos c40] at hj17
          refine .dsk rfl (.g rfl rfl .g0 rfl) rfl rfl ?_
          refine .dsk rfl (.g rfl rfl .g0 rfl) rfl rfl ?_
          refine .dsk rfl (.g rfl rfl .g0 rfl) rfl rfl ?_
          refine .dsk rfl (.g rfl rfl .g0 rfl) rfl rfl ?_
          refine .dsk rfl (.g rfl rfl .g0 rfl) rfl rfl ?_
          refine .dsk rfl (.g rfl rfl .g0 rfl) rfl rfl ?_
          refine .dsk rfl (.g rfl rfl .g0 rfl) rfl rfl ?_
          refine .dsk rfl (.g rfl rfl .g0 rfl) rfl rfl ?_
          refine .dskl rfl (.g rfl rfl .g0 rfl) (fun _ h => (h.imp (Ls.of .nil)).ro (Rs.cons Mm.m2 (Rs.cons Mm.m3 (Rs.cons Mm.m4 (Rs.cons Mm.m5 Rs.nil))))) rfl rfl ?_
          refine .dskl rfl (.g rfl rfl .g0 rfl) (fun _ h => (h.imp (Ls.of .nil)).ro (Rs.cons Mm.m2 (Rs.cons Mm.m3 (Rs.cons Mm.m4 (Rs.cons Mm.m5 Rs.nil))))) rfl rfl ?_
          refine .dsk rfl (.g rfl rfl .g0 rfl) rfl rfl ?_
          refine .dpu rfl (.n rfl) (P.pickT .t0 .k) rfl rfl ?_
          refine .dpu rfl (.n rfl) (P.mov .t0) rfl rfl ?_
          refine .dsk rfl (.g rfl rfl .g0 rfl) rfl rfl ?_
          refine .dsk rfl (.g rfl rfl .g0 rfl) rfl rfl ?_
          refine .dsk rfl (.g rfl rfl .g0 rfl) rfl rfl ?_
          refine .dsk rfl (.g rfl rfl .g0 rfl) rfl rfl ?_
          refine .dsk rfl (.g rfl rfl .g0 rfl) rfl rfl ?_
          refine .dsk rfl (.g rfl rfl .g0 rfl) rfl rfl ?_
          refine .dsk rfl (.g rfl rfl .g0 rfl) rfl rfl ?_
          refine .dsk rfl (.g rfl rfl .g0 rfl) rfl rfl ?_
          refine .dskl rfl (.g rfl rfl .g0 rfl) (fun _ h => (h.imp (Ls.of .nil)).ro (Rs.cons Mm.m2 (Rs.cons Mm.m3 (Rs.cons Mm.m4 (Rs.cons Mm.m5 Rs.nil))))) rfl rfl ?_
          refine .dskl rfl (.g rfl rfl .g0 rfl) (fun _ h => (h.imp (Ls.of .nil)).ro (Rs.cons Mm.m2 (Rs.cons Mm.m3 (Rs.cons Mm.m4 (Rs.cons Mm.m5 Rs.nil))))) rfl rfl ?_
          refine .dsk rfl (.g rfl rfl .g0 rfl) rfl rfl ?_
          refine .dpu rfl (.n rfl) (P.pickT .t0 .k) rfl rfl ?_
          refine .dpu rfl (.n rfl) (P.mov .t0) rfl rfl ?_
          refine .dsk rfl (.g rfl rfl .g0 rfl) rfl rfl ?_
          refine .dsk rfl (.g rfl rfl .g0 rfl) rfl rfl ?_
          refine .dsk rfl (.g rfl rfl .g0 rfl) rfl rfl ?_
          refine .dsk rfl (.g rfl rfl .g0 rfl) rfl rfl ?_
          refine .dsk rfl (.g rfl rfl .g0 rfl) rfl rfl ?_
          refine .dsk rfl (.g rfl rfl .g0 rfl) rfl rfl ?_
          refine .dsk rfl (.g rfl rfl .g0 rfl) rfl rfl ?_
          refine .dsk rfl (.g rfl rfl .g0 rfl) rfl rfl ?_
          refine .dskl rfl (.g rfl rfl .g0 rfl) (fun _ h => (h.imp (Ls.of .nil)).ro (Rs.cons Mm.m2 (Rs.cons Mm.m3 (Rs.cons Mm.m4 (Rs.cons Mm.m5 Rs.nil))))) rfl rfl ?_
          refine .dskl rfl (.g rfl rfl .g0 rfl) (fun _ h => (h.imp (Ls.of .nil)).ro (Rs.cons Mm.m2 (Rs.cons Mm.m3 (Rs.cons Mm.m4 (Rs.cons Mm.m5 Rs.nil))))) rfl rfl ?_
          refine .dsk rfl (.g rfl rfl .g0 rfl) rfl rfl ?_
          refine .dpu rfl (.n rfl) (P.pickT .t0 .k) rfl rfl ?_
          refine .dpu rfl (.n rfl) (P.mov .t0) rfl rfl ?_
          refine .dsk rfl (.g rfl rfl .g0 rfl) rfl rfl ?_
          refine .dsk rfl (.g rfl rfl .g0 rfl) rfl rfl ?_
          refine .dsk rfl (.g rfl rfl .g0 rfl) rfl rfl ?_
          refine .dsk rfl (.g rfl rfl .g0 rfl) rfl rfl ?_
          refine .dsk rfl (.g rfl rfl .g0 rfl) rfl rfl ?_
          refine .dsk rfl (.g rfl rfl .g0 rfl) rfl rfl ?_
          refine .dsk rfl (.g rfl rfl .g0 rfl) rfl rfl ?_
          refine .dsk rfl (.g rfl rfl .g0 rfl) rfl rfl ?_
          refine .dskl rfl (.g rfl rfl .g0 rfl) (fun _ h => (h.imp (Ls.of .nil)).ro (Rs.cons Mm.m2 (Rs.cons Mm.m3 (Rs.cons Mm.m4 (Rs.cons Mm.m5 Rs.nil))))) rfl rfl ?_
          refine .dskl rfl (.g rfl rfl .g0 rfl) (fun _ h => (h.imp (Ls.of .nil)).ro (Rs.cons Mm.m2 (Rs.cons Mm.m3 (Rs.cons Mm.m4 (Rs.cons Mm.m5 Rs.nil))))) rfl rfl ?_
          refine .dskl rfl (.g rfl rfl .g0 rfl) (fun _ h => (h.imp (Ls.of .nil)).ro (Rs.cons Mm.m2 (Rs.cons Mm.m3 (Rs.cons Mm.m4 (Rs.cons Mm.m5 Rs.nil))))) rfl rfl ?_
          refine .dskl rfl (.g rfl rfl .g0 rfl) (fun _ h => (h.imp (Ls.of .nil)).ro (Rs.cons Mm.m2 (Rs.cons Mm.m3 (Rs.cons Mm.m4 (Rs.cons Mm.m5 Rs.nil))))) rfl rfl ?_
          refine .dsk rfl (.g rfl rfl .g0 rfl) rfl rfl ?_
          refine .dpu rfl (.n rfl) (P.pickT .t0 .k) rfl rfl ?_
          refine .dnil ?_
          cases hj17
          exact .stj () (.cons Mm.m0 (.cons Mm.m1 (.cons Mm.m2 (.cons Mm.m3 .nil)))) (.of .nil) (.cons Mm.m2 (.cons Mm.m3 (.cons Mm.m4 (.cons Mm.m5 .nil))))
        · rw [if_neg (ne_true_of_eq_false c40)] at hj17
          refine .dpu rfl (.g rfl rfl .g0 rfl) (P.mov .g2) rfl rfl ?_
          refine .dpu rfl (.g rfl rfl .g1 rfl) (P.mov .g2) rfl rfl ?_
          obtain ⟨x44, hx45, hj17⟩ := bnd_eq hj17
          obtain ⟨i46, hi47, hx45⟩ := at_eq hx45
          refine .gzl Mm.m2 fun hz48 => ?_
          refine .gzx (D := api_Step.cs) (q := fun z_ => rows 1 z_ (x44.Data.map (fun x => [B8 x]))) Mm.m2 hx45 (fun _ => rfl) fun u49 hz51 hx50 => ?_
          have hi47_ : (s4).toNat = i46 := by rw [hi47]; rfl
          refine .ixq Mm.m4 hx50 fun p41 q42 hq43 => ?_
          refine .dpu rfl (.g rfl rfl .g2 rfl) (P.ixi (i := i46) .t0 hi47 .t0 hq43 runUnderlying43 sizeOf123) rfl rfl ?_
          refine .dpu rfl (.g rfl rfl .g1 rfl) (P.fa (off' := q42 + 1) .t0 fa_123_1 rfl) rfl rfl ?_
          refine .dpu rfl (.g rfl rfl .g1 rfl) (P.mov .g4) rfl rfl ?_
          refine .dpu rfl (.g rfl rfl .g2 rfl) (P.mov .g3) rfl rfl ?_
          obtain ⟨x55, hx56, hj17⟩ := bnd_eq hj17
          obtain ⟨i57, hi58, hx56⟩ := at_eq hx56
          refine .gzl Mm.m5 fun hz59 => ?_
          refine .gzx (D := api_Step.cs) (q := fun z_ => rows 1 z_ (x55.Data.map (fun x => [B8 x]))) Mm.m5 hx56 (fun _ => rfl) fun u60 hz62 hx61 => ?_
          have hi58_ : (s4).toNat = i57 := by rw [hi58]; rfl
          refine .ixq Mm.m7 hx61 fun p52 q53 hq54 => ?_
          refine .dpu rfl (.g rfl rfl .g3 rfl) (P.ixi (i := i57) .t0 hi58 .t0 hq54 runUnderlying43 sizeOf123) rfl rfl ?_
          refine .dpu rfl (.g rfl rfl .g2 rfl) (P.fa (off' := q53 + 1) .t0 fa_123_1 rfl) rfl rfl ?_
          refine .dld rfl (.g rfl rfl .g2 rfl) (V.ldx (u := N x44.A) (off := q42) (k := 1) .t1 hq43 Mm.m1 hx50 (.one isAgg3 rfl)) (fun _ h => (h.imp (Ls.of .nil)).ro (Rs.cons Mm.m4 (Rs.cons Mm.m5 (Rs.cons Mm.m6 (Rs.cons Mm.m7 Rs.nil))))) rfl rfl ?_
          refine .dld rfl (.g rfl rfl .g2 rfl) (V.ldx (u := N x55.A) (off := q53) (k := 1) .t1 hq54 Mm.m3 hx61 (.one isAgg3 rfl)) (fun _ h => (h.imp (Ls.of .nil)).ro (Rs.cons Mm.m4 (Rs.cons Mm.m5 (Rs.cons Mm.m6 (Rs.cons Mm.m7 Rs.nil))))) rfl rfl ?_
          refine .dpu rfl (.g rfl rfl .g2 rfl) (P.bin .t1 .t0 .neq) rfl rfl ?_
          refine .dpu rfl (.n rfl) (P.pickF .t1 .t0) rfl rfl ?_
          refine .dpu rfl (.n rfl) (P.mov .t0) rfl rfl ?_
          refine .split .k0 (fun c63 => ?_) (fun c63 => ?_)
          · rw [if_pos c63] at hj17
            refine .dsk rfl (.g rfl rfl .g0 rfl) rfl rfl ?_
            refine .dsk rfl (.g rfl rfl .g0 rfl) rfl rfl ?_
            refine .dsk rfl (.g rfl rfl .g0 rfl) rfl rfl ?_
            refine .dsk rfl (.g rfl rfl .g0 rfl) rfl rfl ?_
            refine .dsk rfl (.g rfl rfl .g0 rfl) rfl rfl ?_
            refine .dsk rfl (.g rfl rfl .g0 rfl) rfl rfl ?_
            refine .dsk rfl (.g rfl rfl .g0 rfl) rfl rfl ?_
            refine .dsk rfl (.g rfl rfl .g0 rfl) rfl rfl ?_
            refine .dskl rfl (.g rfl rfl .g0 rfl) (fun _ h => (h.imp (Ls.of .nil)).ro (Rs.cons Mm.m4 (Rs.cons Mm.m5 (Rs.cons Mm.m6 (Rs.cons Mm.m7 Rs.nil))))) rfl rfl ?_
            refine .dskl rfl (.g rfl rfl .g0 rfl) (fun _ h => (h.imp (Ls.of .nil)).ro (Rs.cons Mm.m4 (Rs.cons Mm.m5 (Rs.cons Mm.m6 (Rs.cons Mm.m7 Rs.nil))))) rfl rfl ?_
            refine .dsk rfl (.g rfl rfl .g0 rfl) rfl rfl ?_
            refine .dpu rfl (.n rfl) (P.pickT .t0 .k) rfl rfl ?_
            refine .dpu rfl (.n rfl) (P.mov .t0) rfl rfl ?_
            refine .dsk rfl (.g rfl rfl .g0 rfl) rfl rfl ?_
            refine .dsk rfl (.g rfl rfl .g0 rfl) rfl rfl ?_
            refine .dsk rfl (.g rfl rfl .g0 rfl) rfl rfl ?_
            refine .dsk rfl (.g rfl rfl .g0 rfl) rfl rfl ?_
            refine .dsk rfl (.g rfl rfl .g0 rfl) rfl rfl ?_
            refine .dsk rfl (.g rfl rfl .g0 rfl) rfl rfl ?_
            refine .dsk rfl (.g rfl rfl .g0 rfl) rfl rfl ?_
            refine .dsk rfl (.g rfl rfl .g0 rfl) rfl rfl ?_
            refine .dskl rfl (.g rfl rfl .g0 rfl) (fun _ h => (h.imp (Ls.of .nil)).ro (Rs.cons Mm.m4 (Rs.cons Mm.m5 (Rs.cons Mm.m6 (Rs.cons Mm.m7 Rs.nil))))) rfl rfl ?_
            refine .dskl rfl (.g rfl rfl .g0 rfl) (fun _ h => (h.imp (Ls.of .nil)).ro (Rs.cons Mm.m4 (Rs.cons Mm.m5 (Rs.cons Mm.m6 (Rs.cons Mm.m7 Rs.nil))))) rfl rfl ?_
            refine .dsk rfl (.g rfl rfl .g0 rfl) rfl rfl ?_
            refine .dpu rfl (.n rfl) (P.pickT .t0 .k) rfl rfl ?_
            refine .dpu rfl (.n rfl) (P.mov .t0) rfl rfl ?_
            refine .dsk rfl (.g rfl rfl .g0 rfl) rfl rfl ?_
            refine .dsk rfl (.g rfl rfl .g0 rfl) rfl rfl ?_
            refine .dsk rfl (.g rfl rfl .g0 rfl) rfl rfl ?_
            refine .dsk rfl (.g rfl rfl .g0 rfl) rfl rfl ?_
            refine .dsk rfl (.g rfl rfl .g0 rfl) rfl rfl ?_
            refine .dsk rfl (.g rfl rfl .g0 rfl) rfl rfl ?_
            refine .dsk rfl (.g rfl rfl .g0 rfl) rfl rfl ?_
            refine .dsk rfl (.g rfl rfl .g0 rfl) rfl rfl ?_
            refine .dskl rfl (.g rfl rfl .g0 rfl) (fun _ h => (h.imp (Ls.of .nil)).ro (Rs.cons Mm.m4 (Rs.cons Mm.m5 (Rs.cons Mm.m6 (Rs.cons Mm.m7 Rs.nil))))) rfl rfl ?_
            refine .dskl rfl (.g rfl rfl .g0 rfl) (fun _ h => (h.imp (Ls.of .nil)).ro (Rs.cons Mm.m4 (Rs.cons Mm.m5 (Rs.cons Mm.m6 (Rs.cons Mm.m7 Rs.nil))))) rfl rfl ?_
            refine .dskl rfl (.g rfl rfl .g0 rfl) (fun _ h => (h.imp (Ls.of .nil)).ro (Rs.cons Mm.m4 (Rs.cons Mm.m5 (Rs.cons Mm.m6 (Rs.cons Mm.m7 Rs.nil))))) rfl rfl ?_
            refine .dskl rfl (.g rfl rfl .g0 rfl) (fun _ h => (h.imp (Ls.of .nil)).ro (Rs.cons Mm.m4 (Rs.cons Mm.m5 (Rs.cons Mm.m6 (Rs.cons Mm.m7 Rs.nil))))) rfl rfl ?_
            refine .dsk rfl (.g rfl rfl .g0 rfl) rfl rfl ?_
            refine .dpu rfl (.n rfl) (P.pickT .t0 .k) rfl rfl ?_
            refine .dnil ?_
            cases hj17
            exact .stj () (.cons Mm.m0 (.cons Mm.m1 (.cons Mm.m2 (.cons Mm.m3 .nil)))) (.of .nil) (.cons Mm.m4 (.cons Mm.m5 (.cons Mm.m6 (.cons Mm.m7 .nil))))
          · rw [if_neg (ne_true_of_eq_false c63)] at hj17
            refine .dpu rfl (.g rfl rfl .g0 rfl) (P.mov .g2) rfl rfl ?_
            refine .dpu rfl (.g rfl rfl .g1 rfl) (P.mov .g2) rfl rfl ?_
            obtain ⟨x67, hx68, hj17⟩ := bnd_eq hj17
            obtain ⟨i69, hi70, hx68⟩ := at_eq hx68
            refine .gzl Mm.m4 fun hz71 => ?_
            refine .gzx (D := api_Step.cs) (q := fun z_ => rows 1 z_ (x67.Data.map (fun x => [B8 x]))) Mm.m4 hx68 (fun _ => rfl) fun u72 hz74 hx73 => ?_
            have hi70_ : (s4).toNat = i69 := by rw [hi70]; rfl
            refine .ixq Mm.m6 hx73 fun p64 q65 hq66 => ?_
            refine .dpu rfl (.g rfl rfl .g2 rfl) (P.ixi (i := i69) .t0 hi70 .t0 hq66 runUnderlying43 sizeOf123) rfl rfl ?_
            refine .dpu rfl (.g rfl rfl .g1 rfl) (P.fa (off' := q65 + 2) .t0 fa_123_2 rfl) rfl rfl ?_
            refine .dpu rfl (.g rfl rfl .g1 rfl) (P.mov .g4) rfl rfl ?_
            refine .dpu rfl (.g rfl rfl .g2 rfl) (P.mov .g3) rfl rfl ?_
            obtain ⟨x78, hx79, hj17⟩ := bnd_eq hj17
            obtain ⟨i80, hi81, hx79⟩ := at_eq hx79
            refine .gzl Mm.m7 fun hz82 => ?_
            refine .gzx (D := api_Step.cs) (q := fun z_ => rows 1 z_ (x78.Data.map (fun x => [B8 x]))) Mm.m7 hx79 (fun _ => rfl) fun u83 hz85 hx84 => ?_
            have hi81_ : (s4).toNat = i80 := by rw [hi81]; rfl
            refine .ixq Mm.m9 hx84 fun p75 q76 hq77 => ?_
            refine .dpu rfl (.g rfl rfl .g3 rfl) (P.ixi (i := i80) .t0 hi81 .t0 hq77 runUnderlying43 sizeOf123) rfl rfl ?_
            refine .dpu rfl (.g rfl rfl .g2 rfl) (P.fa (off' := q76 + 2) .t0 fa_123_2 rfl) rfl rfl ?_
            refine .dld rfl (.g rfl rfl .g2 rfl) (V.ldx (u := N x67.B) (off := q65) (k := 2) .t1 hq66 Mm.m1 hx73 (.one isAgg3 rfl)) (fun _ h => (h.imp (Ls.of .nil)).ro (Rs.cons Mm.m6 (Rs.cons Mm.m7 (Rs.cons Mm.m8 (Rs.cons Mm.m9 Rs.nil))))) rfl rfl ?_
            refine .dld rfl (.g rfl rfl .g2 rfl) (V.ldx (u := N x78.B) (off := q76) (k := 2) .t1 hq77 Mm.m3 hx84 (.one isAgg3 rfl)) (fun _ h => (h.imp (Ls.of .nil)).ro (Rs.cons Mm.m6 (Rs.cons Mm.m7 (Rs.cons Mm.m8 (Rs.cons Mm.m9 Rs.nil))))) rfl rfl ?_
            refine .dpu rfl (.g rfl rfl .g2 rfl) (P.bin .t1 .t0 .neq) rfl rfl ?_
            refine .dpu rfl (.n rfl) (P.pickF .t1 .t0) rfl rfl ?_
            refine .dpu rfl (.n rfl) (P.mov .t0) rfl rfl ?_
            refine .split .k0 (fun c86 => ?_) (fun c86 => ?_)
            · rw [if_pos c86] at hj17
              refine .dsk rfl (.g rfl rfl .g0 rfl) rfl rfl ?_
              refine .dsk rfl (.g rfl rfl .g0 rfl) rfl rfl ?_
              refine .dsk rfl (.g rfl rfl .g0 rfl) rfl rfl ?_
              refine .dsk rfl (.g rfl rfl .g0 rfl) rfl rfl ?_
              refine .dsk rfl (.g rfl rfl .g0 rfl) rfl rfl ?_
              refine .dsk rfl (.g rfl rfl .g0 rfl) rfl rfl ?_
              refine .dsk rfl (.g rfl rfl .g0 rfl) rfl rfl ?_
              refine .dsk rfl (.g rfl rfl .g0 rfl) rfl rfl ?_
              refine .dskl rfl (.g rfl rfl .g0 rfl) (fun _ h => (h.imp (Ls.of .nil)).ro (Rs.cons Mm.m6 (Rs.cons Mm.m7 (Rs.cons Mm.m8 (Rs.cons Mm.m9 Rs.nil))))) rfl rfl ?_
              refine .dskl rfl (.g rfl rfl .g0 rfl) (fun _ h => (h.imp (Ls.of .nil)).ro (Rs.cons Mm.m6 (Rs.cons Mm.m7 (Rs.cons Mm.m8 (Rs.cons Mm.m9 Rs.nil))))) rfl rfl ?_
              refine .dsk rfl (.g rfl rfl .g0 rfl) rfl rfl ?_
              refine .dpu rfl (.n rfl) (P.pickT .t0 .k) rfl rfl ?_
              refine .dpu rfl (.n rfl) (P.mov .t0) rfl rfl ?_
              refine .dsk rfl (.g rfl rfl .g0 rfl) rfl rfl ?_
              refine .dsk rfl (.g rfl rfl .g0 rfl) rfl rfl ?_
              refine .dsk rfl (.g rfl rfl .g0 rfl) rfl rfl ?_
              refine .dsk rfl (.g rfl rfl .g0 rfl) rfl rfl ?_
              refine .dsk rfl (.g rfl rfl .g0 rfl) rfl rfl ?_
              refine .dsk rfl (.g rfl rfl .g0 rfl) rfl rfl ?_
              refine .dsk rfl (.g rfl rfl .g0 rfl) rfl rfl ?_
              refine .dsk rfl (.g rfl rfl .g0 rfl) rfl rfl ?_
              refine .dskl rfl (.g rfl rfl .g0 rfl) (fun _ h => (h.imp (Ls.of .nil)).ro (Rs.cons Mm.m6 (Rs.cons Mm.m7 (Rs.cons Mm.m8 (Rs.cons Mm.m9 Rs.nil))))) rfl rfl ?_
              refine .dskl rfl (.g rfl rfl .g0 rfl) (fun _ h => (h.imp (Ls.of .nil)).ro (Rs.cons Mm.m6 (Rs.cons Mm.m7 (Rs.cons Mm.m8 (Rs.cons Mm.m9 Rs.nil))))) rfl rfl ?_
              refine .dskl rfl (.g rfl rfl .g0 rfl) (fun _ h => (h.imp (Ls.of .nil)).ro (Rs.cons Mm.m6 (Rs.cons Mm.m7 (Rs.cons Mm.m8 (Rs.cons Mm.m9 Rs.nil))))) rfl rfl ?_
              refine .dskl rfl (.g rfl rfl .g0 rfl) (fun _ h => (h.imp (Ls.of .nil)).ro (Rs.cons Mm.m6 (Rs.cons Mm.m7 (Rs.cons Mm.m8 (Rs.cons Mm.m9 Rs.nil))))) rfl rfl ?_
              refine .dsk rfl (.g rfl rfl .g0 rfl) rfl rfl ?_
              refine .dpu rfl (.n rfl) (P.pickT .t0 .k) rfl rfl ?_
              refine .dnil ?_
              cases hj17
              exact .stj () (.cons Mm.m0 (.cons Mm.m1 (.cons Mm.m2 (.cons Mm.m3 .nil)))) (.of .nil) (.cons Mm.m6 (.cons Mm.m7 (.cons Mm.m8 (.cons Mm.m9 .nil))))
            · rw [if_neg (ne_true_of_eq_false c86)] at hj17
              refine .dpu rfl (.g rfl rfl .g0 rfl) (P.mov .g2) rfl rfl ?_
              refine .dpu rfl (.g rfl rfl .g1 rfl) (P.mov .g2) rfl rfl ?_
              obtain ⟨x90, hx91, hj17⟩ := bnd_eq hj17
              obtain ⟨i92, hi93, hx91⟩ := at_eq hx91
              refine .gzl Mm.m6 fun hz94 => ?_
              refine .gzx (D := api_Step.cs) (q := fun z_ => rows 1 z_ (x90.Data.map (fun x => [B8 x]))) Mm.m6 hx91 (fun _ => rfl) fun u95 hz97 hx96 => ?_
              have hi93_ : (s4).toNat = i92 := by rw [hi93]; rfl
              refine .ixq Mm.m8 hx96 fun p87 q88 hq89 => ?_
              refine .dpu rfl (.g rfl rfl .g2 rfl) (P.ixi (i := i92) .t0 hi93 .t0 hq89 runUnderlying43 sizeOf123) rfl rfl ?_
              refine .dpu rfl (.g rfl rfl .g1 rfl) (P.fa (off' := q88 + 3) .t0 fa_123_3 rfl) rfl rfl ?_
              refine .dpu rfl (.g rfl rfl .g1 rfl) (P.mov .g4) rfl rfl ?_
              refine .dpu rfl (.g rfl rfl .g2 rfl) (P.mov .g3) rfl rfl ?_
              obtain ⟨x101, hx102, hj17⟩ := bnd_eq hj17
              obtain ⟨i103, hi104, hx102⟩ := at_eq hx102
              refine .gzl Mm.m9 fun hz105 => ?_
              refine .gzx (D := api_Step.cs) (q := fun z_ => rows 1 z_ (x101.Data.map (fun x => [B8 x]))) Mm.m9 hx102 (fun _ => rfl) fun u106 hz108 hx107 => ?_
              have hi104_ : (s4).toNat = i103 := by rw [hi104]; rfl
              refine .ixq Mm.m11 hx107 fun p98 q99 hq100 => ?_
              refine .dpu rfl (.g rfl rfl .g3 rfl) (P.ixi (i := i103) .t0 hi104 .t0 hq100 runUnderlying43 sizeOf123) rfl rfl ?_
              refine .dpu rfl (.g rfl rfl .g2 rfl) (P.fa (off' := q99 + 3) .t0 fa_123_3 rfl) rfl rfl ?_
              refine .dld rfl (.g rfl rfl .g2 rfl) (V.ldx (u := N x90.C) (off := q88) (k := 3) .t1 hq89 Mm.m1 hx96 (.one isAgg3 rfl)) (fun _ h => (h.imp (Ls.of .nil)).ro (Rs.cons Mm.m8 (Rs.cons Mm.m9 (Rs.cons Mm.m10 (Rs.cons Mm.m11 Rs.nil))))) rfl rfl ?_
              refine .dld rfl (.g rfl rfl .g2 rfl) (V.ldx (u := N x101.C) (off := q99) (k := 3) .t1 hq100 Mm.m3 hx107 (.one isAgg3 rfl)) (fun _ h => (h.imp (Ls.of .nil)).ro (Rs.cons Mm.m8 (Rs.cons Mm.m9 (Rs.cons Mm.m10 (Rs.cons Mm.m11 Rs.nil))))) rfl rfl ?_
              refine .dpu rfl (.g rfl rfl .g2 rfl) (P.bin .t1 .t0 .neq) rfl rfl ?_
              refine .dpu rfl (.n rfl) (P.pickF .t1 .t0) rfl rfl ?_
              refine .dpu rfl (.n rfl) (P.mov .t0) rfl rfl ?_
              refine .split .k0 (fun c109 => ?_) (fun c109 => ?_)
              · rw [if_pos c109] at hj17
                refine .dsk rfl (.g rfl rfl .g0 rfl) rfl rfl ?_
                refine .dsk rfl (.g rfl rfl .g0 rfl) rfl rfl ?_
                refine .dsk rfl (.g rfl rfl .g0 rfl) rfl rfl ?_
                refine .dsk rfl (.g rfl rfl .g0 rfl) rfl rfl ?_
                refine .dsk rfl (.g rfl rfl .g0 rfl) rfl rfl ?_
                refine .dsk rfl (.g rfl rfl .g0 rfl) rfl rfl ?_
                refine .dsk rfl (.g rfl rfl .g0 rfl) rfl rfl ?_
                refine .dsk rfl (.g rfl rfl .g0 rfl) rfl rfl ?_
                refine .dskl rfl (.g rfl rfl .g0 rfl) (fun _ h => (h.imp (Ls.of .nil)).ro (Rs.cons Mm.m8 (Rs.cons Mm.m9 (Rs.cons Mm.m10 (Rs.cons Mm.m11 Rs.nil))))) rfl rfl ?_
                refine .dskl rfl (.g rfl rfl .g0 rfl) (fun _ h => (h.imp (Ls.of .nil)).ro (Rs.cons Mm.m8 (Rs.cons Mm.m9 (Rs.cons Mm.m10 (Rs.cons Mm.m11 Rs.nil))))) rfl rfl ?_
                refine .dskl rfl (.g rfl rfl .g0 rfl) (fun _ h => (h.imp (Ls.of .nil)).ro (Rs.cons Mm.m8 (Rs.cons Mm.m9 (Rs.cons Mm.m10 (Rs.cons Mm.m11 Rs.nil))))) rfl rfl ?_
                refine .dskl rfl (.g rfl rfl .g0 rfl) (fun _ h => (h.imp (Ls.of .nil)).ro (Rs.cons Mm.m8 (Rs.cons Mm.m9 (Rs.cons Mm.m10 (Rs.cons Mm.m11 Rs.nil))))) rfl rfl ?_
                refine .dsk rfl (.g rfl rfl .g0 rfl) rfl rfl ?_
                refine .dpu rfl (.n rfl) (P.pickT .t0 .k) rfl rfl ?_
                refine .dnil ?_
                cases hj17
                exact .stj () (.cons Mm.m0 (.cons Mm.m1 (.cons Mm.m2 (.cons Mm.m3 .nil)))) (.of .nil) (.cons Mm.m8 (.cons Mm.m9 (.cons Mm.m10 (.cons Mm.m11 .nil))))
              · rw [if_neg (ne_true_of_eq_false c109)] at hj17
                refine .dpu rfl (.g rfl rfl .g0 rfl) (P.mov .g2) rfl rfl ?_
                refine .dpu rfl (.g rfl rfl .g1 rfl) (P.mov .g2) rfl rfl ?_
                obtain ⟨x113, hx114, hj17⟩ := bnd_eq hj17
                obtain ⟨i115, hi116, hx114⟩ := at_eq hx114
                refine .gzl Mm.m8 fun hz117 => ?_
                refine .gzx (D := api_Step.cs) (q := fun z_ => rows 1 z_ (x113.Data.map (fun x => [B8 x]))) Mm.m8 hx114 (fun _ => rfl) fun u118 hz120 hx119 => ?_
                have hi116_ : (s4).toNat = i115 := by rw [hi116]; rfl
                refine .ixq Mm.m10 hx119 fun p110 q111 hq112 => ?_
                refine .dpu rfl (.g rfl rfl .g2 rfl) (P.ixi (i := i115) .t0 hi116 .t0 hq112 runUnderlying43 sizeOf123) rfl rfl ?_
                refine .dpu rfl (.g rfl rfl .g1 rfl) (P.fa (off' := q111 + 4) .t0 fa_123_4 rfl) rfl rfl ?_
                refine .dpu rfl (.g rfl rfl .g1 rfl) (P.mov .g4) rfl rfl ?_
                refine .dpu rfl (.g rfl rfl .g2 rfl) (P.mov .g3) rfl rfl ?_
                obtain ⟨x124, hx125, hj17⟩ := bnd_eq hj17
                obtain ⟨i126, hi127, hx125⟩ := at_eq hx125
                refine .gzl Mm.m11 fun hz128 => ?_
                refine .gzx (D := api_Step.cs) (q := fun z_ => rows 1 z_ (x124.Data.map (fun x => [B8 x]))) Mm.m11 hx125 (fun _ => rfl) fun u129 hz131 hx130 => ?_
                have hi127_ : (s4).toNat = i126 := by rw [hi127]; rfl
                refine .ixq Mm.m13 hx130 fun p121 q122 hq123 => ?_
                refine .dpu rfl (.g rfl rfl .g3 rfl) (P.ixi (i := i126) .t0 hi127 .t0 hq123 runUnderlying43 sizeOf123) rfl rfl ?_
                refine .dpu rfl (.g rfl rfl .g2 rfl) (P.fa (off' := q122 + 4) .t0 fa_123_4 rfl) rfl rfl ?_
                refine .dld rfl (.g rfl rfl .g2 rfl) (V.ldx (u := u118) (off := q111) (k := 4) .t1 hq112 Mm.m1 hx119 (.one isAgg44 rfl)) (fun _ h => (h.imp (Ls.of .nil)).ro (Rs.cons Mm.m10 (Rs.cons Mm.m11 (Rs.cons Mm.m12 (Rs.cons Mm.m13 Rs.nil))))) rfl rfl ?_
                refine .dld rfl (.g rfl rfl .g2 rfl) (V.b2sz (l := x113.Data) (e := 5) .t0 Mm.m0 hx114 hz120 rfl (by kernel_rfl) (by kernel_rfl) (by kernel_rfl)) (fun _ h => (h.imp (Ls.of .nil)).ro (Rs.cons Mm.m10 (Rs.cons Mm.m11 (Rs.cons Mm.m12 (Rs.cons Mm.m13 Rs.nil))))) rfl rfl ?_
                refine .dld rfl (.g rfl rfl .g2 rfl) (V.ldx (u := u129) (off := q122) (k := 4) .t1 hq123 Mm.m3 hx130 (.one isAgg44 rfl)) (fun _ h => (h.imp (Ls.of .nil)).ro (Rs.cons Mm.m10 (Rs.cons Mm.m11 (Rs.cons Mm.m12 (Rs.cons Mm.m13 Rs.nil))))) rfl rfl ?_
                refine .dld rfl (.g rfl rfl .g2 rfl) (V.b2sz (l := x124.Data) (e := 5) .t0 Mm.m2 hx125 hz131 rfl (by kernel_rfl) (by kernel_rfl) (by kernel_rfl)) (fun _ h => (h.imp (Ls.of .nil)).ro (Rs.cons Mm.m10 (Rs.cons Mm.m11 (Rs.cons Mm.m12 (Rs.cons Mm.m13 Rs.nil))))) rfl rfl ?_
                refine .dpu rfl (.g rfl rfl .g2 rfl) (P.bin .t1 .t0 .str_neq) rfl rfl ?_
                refine .dpu rfl (.n rfl) (P.pickF .t1 .t0) rfl rfl ?_
                refine .dnil ?_
                cases hj17
                exact .stj () (.cons Mm.m0 (.cons Mm.m1 (.cons Mm.m2 (.cons Mm.m3 .nil)))) (.of .nil) (.cons Mm.m10 (.cons Mm.m11 (.cons Mm.m12 (.cons Mm.m13 .nil))))
      · clear hj17
        refine .cond .t0 (fun c132 => ?_) (fun c132 => ?_)
        · rw [if_pos c132] at hc8
          refine .seq ?_
          refine .reg rfl ?_
          refine .opp (P.asg .k) rfl ?_
          refine .nil ?_
          refine .then ?_
          refine .ret ?_
          refine .inr ?_
          refine .thr ?_
          obtain ⟨x133, hx134, rfl⟩ := map_rt hc8
          obtain rfl := hn9
          obtain rfl := rt_on h
          refine .thr ?_
          refine .inr ?_
          refine .thr ?_
          cases hx134
          exact .finw () (.r1 rfl (.tmp .g0)) trivial (Ls.of .nil) .nil
        · rw [if_neg (ne_true_of_eq_false c132)] at hc8
          refine .skip ?_
          refine .inn ?_
          refine .then ?_
          refine .reg rfl ?_
          refine .opp (P.mov .g0) rfl ?_
          refine .opp (P.bin .t0 .k .add) rfl ?_
          refine .drop .k1 ?_
          refine .opp (P.asg .t0) rfl ?_
          refine .nil ?_
          cases hc8
          obtain ⟨m135, hm136, hn9⟩ := hn9
          exact .rdW (IntKind.i64.wrap (s4 + 1)) () hm136 hn9 (.cons Mm.m0 (.cons Mm.m1 (.cons Mm.m2 .nil))) (.of .nil) (.cons Mm.m0 (.cons Mm.m1 (.cons Mm.m2 (.cons Mm.m3 .nil))))
    · rw [if_neg (ne_true_of_eq_false c14)] at hc8
      refine .exit ?_
      refine .thx ?_
      cases hc8
      refine .told (γ := Unit) h hn9 (fun (s4 : Int) _ => [(5, N s4), (0, v00), (1, v01)]) (fun (s4 : Int) _ => []) (fun (s4 : Int) _ => [gz api_Step.g a0 zl00, rows 5 v00 (List.zipWith api_Step.cs a0 zl00), gz api_Step.g a1 zl01, rows 5 v01 (List.zipWith api_Step.cs a1 zl01)]) () (.cons Mm.m0 (.cons Mm.m1 (.cons Mm.m2 .nil))) (.of .nil) (.cons Mm.m0 (.cons Mm.m1 (.cons Mm.m2 (.cons Mm.m3 .nil)))) (fun s4 _ h' => ?_)
      replace h := h'
      refine .thx ?_
      refine .inb ?_
      refine .then ?_
      refine .seq ?_
      refine .reg rfl ?_
      refine .opp (P.asg .k) rfl ?_
      refine .nil ?_
      refine .then ?_
      refine .ret ?_
      cases h
      exact .finw () (.r1 rfl (.tmp .g0)) trivial (Ls.of .nil) .nil
attribute [irreducible] narrowslaw25_same
end Go.Sl
