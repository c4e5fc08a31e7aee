/- Walked code of the program, its pure functions and their contracts. -/
import Derived.Test.YteijfoldbinghaaGreatSlRcc
set_option linter.unusedVariables false
set_option linter.unusedSimpArgs false
namespace Go.Sl
open Go.Proofs Go.Proofs.Tryz
theorem fa_36_7 : FaV Tryz.prog 36 7 20 := .mk runUnderlying36 rfl sizeOf30 rfl rfl
theorem fa_45_0 : FaV Tryz.prog 45 0 0 := .mk runUnderlying45 rfl sizeOf3 rfl rfl
theorem fa_76_0 : FaV Tryz.prog 76 0 0 := .mk runUnderlying76 rfl sizeOf9 rfl rfl
theorem fa_76_1 : FaV Tryz.prog 76 1 1 := .mk runUnderlying76 rfl sizeOf9 rfl rfl
theorem fa_76_2 : FaV Tryz.prog 76 2 2 := .mk runUnderlying76 rfl sizeOf3 rfl rfl
theorem pl_76 : ∀ w, ((#[{ name := "Key", type := 9, offset := 0, embedded := false, tag := "", pkgPath := "", byteOffset := 0 }, { name := "Digest", type := 9, offset := 1, embedded := false, tag := "", pkgPath := "", byteOffset := 16 }, { name := "Status", type := 3, offset := 2, embedded := false, tag := "", pkgPath := "", byteOffset := 32 }] : Array Field).mapM fun f => do pure (f.offset, ← sizeOf f.type) : Sem (Array (Nat × Nat))).run Tryz.prog w = .ok #[(0, 1), (1, 1), (2, 1)] w := fun w => by simp [sizeOf3, sizeOf9]
theorem one_9 (x : ByteArray) : oneAll ((fun x => [.string x]) x) = true := rfl
noncomputable def hash_Text_n1 (a0a : List UInt8) : Option (ByteArray) :=
  Option.bind (blob_Cat_n1 a0a) fun r1 => Option.bind (hash_Sum r1) fun r4 => some (⟨⟨r4⟩⟩ : ByteArray)
set_option maxRecDepth 20000 in
set_option maxHeartbeats 1000000 in
theorem S_hash_Text_n1 (v00 : Value) (z00a : Value) (a0a : List UInt8) (r : ByteArray) (h : hash_Text_n1 a0a = some r) :
    SpecF Tryz.prog 83 [v00] [] [rows 1 v00 [[z00a]], rows 1 z00a (a0a.map (fun x => [B8 x]))] (fun z : Unit => True) (fun z => .string r) (fun z M =>  M) (fun z M =>  M) := by
  refine .of func83 rfl ntmps83 rfl fun w0 D0 G0 => ?_
  unfold hash_Text_n1 at h
  refine .seq ?_
  refine .reg rfl ?_
  refine .op0 (OpP.toV (P.asg .k)) rfl ?_
  refine .nil ?_
  refine .then ?_
  refine .seq ?_
  refine .reg rfl ?_
  refine .opp (P.mov .t0) rfl ?_
  obtain ⟨r1, hr2, h⟩ := bnd_eq h
  refine .opg (G.call call91 (.cons .t0 .nil) (S_blob_Cat_n1 v00 z00a a0a r1 hr2) .nil (.cons Mm.m0 (.cons Mm.m1 .nil)) (fun _ _ => rfl) (fun _ _ => rfl) rfl) rfl fun u3 _ => ?_
  refine .frz .k0 ?_
  obtain ⟨r4, hr5, h⟩ := bnd_eq h
  refine .opg (G.call call92 (.cons .t0 .nil) (S_hash_Sum u3 r1 r4 hr5) .nil (.cons Mm.m0 .nil) (fun _ _ => rfl) (fun _ _ => rfl) rfl) rfl fun u6 _ => ?_
  refine .op (V.b2sl (l := r4) (e := 5) .t0 .k0 (by kernel_rfl) (by kernel_rfl) (by kernel_rfl)) rfl ?_
  refine .opp (P.asg .t0) rfl ?_
  refine .nil ?_
  refine .then ?_
  refine .ret ?_
  cases h
  exact .finw () (.r1 rfl (.tmp .g0)) trivial (Ls.of .nil) .nil
attribute [irreducible] hash_Text_n1
noncomputable def deal_Key (a0 : api_Inv) : Option (ByteArray) :=
  if (decide ((deal_Check a0) ≠ 0)) = true then (some ⟨#[]⟩) else (Option.bind (deal_Put field_New a0) fun r5 => Option.bind (field_Out_Done r5) fun r8 => Option.bind (hash_Text_n1 r8.1) fun r13 => some r13)
set_option maxRecDepth 20000 in
set_option maxHeartbeats 1000000 in
theorem S_deal_Key (a0 : api_Inv) (r : ByteArray) (h : deal_Key a0 = some r) :
    SpecF Tryz.prog 75 [Ag (api_Inv.cs a0)] [] [] (fun z : Unit => True) (fun z => .string r) (fun z M =>  M) (fun z M =>  M) := by
  refine .of func75 rfl ntmps75 rfl fun w0 D0 G0 => ?_
  unfold deal_Key at h
  refine .seq ?_
  refine .reg rfl ?_
  refine .opx (X.box (cs := (api_Inv.cs a0)) .t0 rfl) rfl fun b1 => ?_
  refine .op0 (OpP.toV (P.asg .k)) rfl ?_
  refine .nil ?_
  refine .then ?_
  refine .seq ?_
  refine .seq ?_
  refine .reg rfl ?_
  refine .op (V.ld (v := Ag (api_Inv.cs a0)) .g0 .k0 (.agg isAgg32 sizeOf32 rfl rfl)) rfl ?_
  refine .opg (G.call call43 (.cons .t0 .nil) (S_deal_Check a0 _ rfl) .nil .nil (fun _ _ => rfl) (fun _ _ => rfl) rfl) rfl fun _ _ => ?_
  refine .opp (P.bin .t0 .k .neq) rfl ?_
  refine .nil ?_
  refine .then ?_
  refine .cond .t0 (fun c2 => ?_) (fun c2 => ?_)
  · rw [if_pos c2] at h
    refine .seq ?_
    refine .reg rfl ?_
    refine .opp (P.asg .k) rfl ?_
    refine .nil ?_
    refine .then ?_
    refine .ret ?_
    refine .thr ?_
    cases h
    exact .finw () (.r1 rfl (.tmp .g0)) trivial (Ls.of .nil) .nil
  · rw [if_neg (ne_true_of_eq_false c2)] at h
    refine .skip ?_
    refine .then ?_
    refine .seq ?_
    refine .reg rfl ?_
    refine .opg (G.call call80 .nil (S_field_New  _ rfl) .nil .nil (fun _ _ => rfl) (fun _ _ => rfl) rfl) rfl fun ⟨b3, u4⟩ _ => ?_
    refine .opp (P.asg .t0) rfl ?_
    refine .nil ?_
    refine .then ?_
    refine .seq ?_
    refine .reg rfl ?_
    refine .opp (P.mov .g0) rfl ?_
    refine .op (V.ld (v := Ag (api_Inv.cs a0)) .t2 .k2 (.agg isAgg32 sizeOf32 rfl rfl)) rfl ?_
    obtain ⟨r5, hr6, h⟩ := bnd_eq h
    refine .opg (G.call call81 (.cons .t1 (.cons .t0 .nil)) (S_deal_Put b3 field_New u4 a0 r5 hr6) (.cons .k0 (.cons .k0 .nil)) .nil (fun _ _ => rfl) (fun _ _ => rfl) rfl) rfl fun u7 _ => ?_
    refine .drop .k0 ?_
    refine .nil ?_
    refine .then ?_
    refine .seq ?_
    refine .reg rfl ?_
    refine .opp (P.mov .t0) rfl ?_
    obtain ⟨r8, hr9, h⟩ := bnd_eq h
    refine .opg (G.call call82 (.cons .t0 .nil) (S_field_Out_Done b3 r5 u7 r8 hr9) (.cons .k0 (.cons .k0 .nil)) .nil (fun _ _ => rfl) (fun _ _ => rfl) rfl) rfl fun u10 _ => ?_
    refine .opp (P.mov .t0) rfl ?_
    refine .opp (P.ext (v := u10) .g0 rfl) rfl ?_
    refine .opp (P.ext (v := N r8.2) .t1 rfl) rfl ?_
    refine .opp (P.asg .t1) rfl ?_
    refine .op0 (OpP.toV (P.asg .t1)) rfl ?_
    refine .nil ?_
    refine .then ?_
    refine .seq ?_
    refine .reg rfl ?_
    refine .opp (P.mov .t0) rfl ?_
    refine .onel .k2 fun ho12 => ?_
    refine .opg (G.bsl (cs := [u10]) .t0 runUnderlying146 sizeOf131 zeroValue131 (cells1 ho12) rfl rfl rfl rfl) rfl fun u11 _ => ?_
    refine .frz .k0 ?_
    refine .frz .k2 ?_
    obtain ⟨r13, hr14, h⟩ := bnd_eq h
    refine .opg (G.call call83 (.cons .t0 .nil) (S_hash_Text_n1 u11 u10 r8.1 r13 hr14) .nil (.cons Mm.m1 (.cons Mm.m0 .nil)) (fun _ _ => rfl) (fun _ _ => rfl) rfl) rfl fun _ _ => ?_
    refine .opp (P.asg .t0) rfl ?_
    refine .nil ?_
    refine .then ?_
    refine .ret ?_
    cases h
    exact .finw () (.r1 rfl (.tmp .g0)) trivial (Ls.of .nil) .nil
attribute [irreducible] deal_Key
noncomputable def escrow_State_place_1_c (a0 : escrow_Lock) (a1 : ByteArray) : Bool :=
  decide (a0.Key = a1)
set_option maxRecDepth 20000 in
set_option maxHeartbeats 1000000 in
theorem S_escrow_State_place_1_c (a0 : escrow_Lock) (b01 : Nat) (a1 : ByteArray) (r : Bool) (h : escrow_State_place_1_c a0 a1 = r) :
    SpecF Tryz.prog 85 [Ag (escrow_Lock.cs a0), pt b01 0] [blk b01 9 [.string a1]] [] (fun z : Unit => True) (fun z => Bo r) (fun z M => blk b01 9 [.string a1] ::  M) (fun z M =>  M) := by
  refine .of func85 rfl ntmps85 rfl fun w0 D0 G0 => ?_
  unfold escrow_State_place_1_c at h
  refine .seq ?_
  refine .reg rfl ?_
  refine .opx (X.box (cs := (escrow_Lock.cs a0)) .t0 rfl) rfl fun b1 => ?_
  refine .op0 (OpP.toV (P.asg .k)) rfl ?_
  refine .nil ?_
  refine .then ?_
  refine .seq ?_
  refine .reg rfl ?_
  refine .opp (P.fa .t0 fa_76_0 rfl) rfl ?_
  refine .op (V.ld (v := .string a0.Key) .t0 .k0 (.one isAgg9 rfl)) rfl ?_
  refine .op (V.ld (v := .string a1) .t1 .k1 (.one isAgg9 rfl)) rfl ?_
  refine .opp (P.bin .t1 .t0 .str_eql) rfl ?_
  refine .opp (P.asg .t0) rfl ?_
  refine .nil ?_
  refine .then ?_
  refine .ret ?_
  subst h
  exact .finw () (.r1 rfl (.tmp .g0)) trivial (Ls.of (.cons .k1 .nil)) .nil
attribute [irreducible] escrow_State_place_1_c
noncomputable def slices_IndexFunc_escrow_Lock_escrow_State_place_1 (a0 : List escrow_Lock) (a1a : ByteArray) : Option (Int) :=
  Option.bind (loopR (fun (i1 : Nat) (e4 : escrow_Lock) (s2 : Unit) => if (escrow_State_place_1_c e4 a1a) = true then (Option.map Ct.rt (some (i1 : Int))) else (some (.nx ()))) 0 a0 ()) fun o5 => Lo.on o5 fun (s2 : Unit) => some (-1)
set_option maxRecDepth 20000 in
set_option maxHeartbeats 1000000 in
theorem S_slices_IndexFunc_escrow_Lock_escrow_State_place_1 (v00 : Value) (a0 : List escrow_Lock) (b01a : Nat) (a1a : ByteArray) (r : Int) (h : slices_IndexFunc_escrow_Lock_escrow_State_place_1 a0 a1a = some r) :
    SpecF Tryz.prog 84 [v00, fnv 85 [pt b01a 0]] [blk b01a 9 [.string a1a]] [rows 3 v00 (a0.map escrow_Lock.cs)] (fun z : Unit => True) (fun z => N r) (fun z M => blk b01a 9 [.string a1a] ::  M) (fun z M =>  M) := by
  refine .of func84 rfl ntmps84 rfl fun w0 D0 G0 => ?_
  unfold slices_IndexFunc_escrow_Lock_escrow_State_place_1 at h
  refine .seq ?_
  refine .reg rfl ?_
  refine .op0 (OpP.toV (P.asg .k)) rfl ?_
  refine .nil ?_
  refine .then ?_
  refine .seq ?_
  refine .seq ?_
  refine .reg rfl ?_
  refine .opp (P.mov .g0) rfl ?_
  refine .op (V.lnr (n := a0.length) .t0 Mm.m0 map_len runUnderlying43) rfl ?_
  refine .opp (P.mov .k) rfl ?_
  refine .nil ?_
  refine .then ?_
  refine .block ?_
  obtain ⟨o5, ho6, h⟩ := bnd_eq h
  refine .lenq Mm.m0 fun hl12 => ?_
  rw [map_len] at hl12
  refine .loopR (γ := Unit) (fun i1 (s2 : Unit) z3 => [(8, N (i1 : Int)), (7, N (a0.length : Int)), (0, v00), (1, fnv 85 [pt b01a 0])]) (fun (s2 : Unit) z3 => [blk b01a 9 [.string a1a]]) (fun (s2 : Unit) z3 => [rows 3 v00 (a0.map escrow_Lock.cs)]) () ho6 (.cons Mm.m0 (.cons Mm.m1 (.cons Mm.m2 (.cons Mm.m3 .nil)))) (.of (.cons .k0 .nil)) (.cons Mm.m0 .nil) (fun i1 s2 z3 hi13 hr9 => ?_)
  refine .seq ?_
  refine .reg rfl ?_
  refine .opp (P.bin (v := Bo (decide ((i1 : Int) < (a0.length : Nat)))) .g0 .g1 .lss) rfl ?_
  refine .nil ?_
  refine .then ?_
  refine .seq ?_
  refine .cond .t0 (fun c14 => ?_) (fun c14 => ?_)
  · obtain ⟨e4, hx11⟩ := get_of c14
    obtain ⟨ct10, hc7, hn8⟩ := loopR_at hx11 hr9
    refine .skip ?_
    refine .then ?_
    refine .seq ?_
    refine .block ?_
    refine .seq ?_
    refine .reg rfl ?_
    refine .opp (P.mov .g0) rfl ?_
    refine .opp (P.asg .t0) rfl ?_
    refine .nil ?_
    refine .then ?_
    refine .seq ?_
    refine .reg rfl ?_
    refine .opp (P.mov .g4) rfl ?_
    refine .opp (P.mov .g4) rfl ?_
    refine .opp (P.mov .g2) rfl ?_
    refine .ixq Mm.m0 (map_get hx11) fun p15 q16 hq17 => ?_
    refine .opp (P.ixi (i := i1) .t0 rfl .t0 hq17 runUnderlying43 sizeOf76) rfl ?_
    refine .op (V.ldx0 (u := Ag (escrow_Lock.cs e4)) .t0 hq17 Mm.m0 (map_get hx11) (.agg isAgg76 sizeOf76 rfl rfl)) rfl ?_
    refine .opg (G.callv call85 .t1 (.cons .t0 .nil) (S_escrow_State_place_1_c e4 b01a a1a _ rfl) (.cons .k0 .nil) .nil (fun _ _ => rfl) (fun _ _ => rfl) rfl) rfl fun _ _ => ?_
    refine .nil ?_
    refine .then ?_
    refine .cond .t0 (fun c18 => ?_) (fun c18 => ?_)
    · rw [if_pos c18] at hc7
      refine .seq ?_
      refine .reg rfl ?_
      refine .opp (P.mov .t0) rfl ?_
      refine .opp (P.asg .t0) rfl ?_
      refine .nil ?_
      refine .then ?_
      refine .ret ?_
      refine .inr ?_
      refine .thr ?_
      obtain ⟨x19, hx20, rfl⟩ := map_rt hc7
      obtain rfl := hn8
      obtain rfl := rt_on h
      refine .thr ?_
      refine .inr ?_
      refine .thr ?_
      cases hx20
      exact .finw () (.r1 rfl (.tmp .g0)) trivial (Ls.of (.cons .k0 .nil)) .nil
    · rw [if_neg (ne_true_of_eq_false c18)] at hc7
      refine .skip ?_
      refine .inn ?_
      refine .then ?_
      refine .reg rfl ?_
      refine .opp (P.bin .g1 .k (.addc (inc_ok (lt_of_get hx11) hl12))) rfl ?_
      refine .drop .k2 ?_
      refine .opp (P.mov .t0) rfl ?_
      refine .nil ?_
      cases hc7
      exact .rdR () () hn8 (lt_of_get hx11) (.cons Mm.m0 (.cons Mm.m2 (.cons Mm.m3 (.cons Mm.m4 .nil)))) (.of (.cons .k0 .nil)) (.cons Mm.m0 .nil)
  · obtain rfl := loopR_end (le_of_not c14) hr9
    have h := dn_on h
    refine .exit ?_
    refine .thx ?_
    refine .thx ?_
    refine .inb ?_
    refine .then ?_
    refine .seq ?_
    refine .reg rfl ?_
    refine .opp (P.asg .k) rfl ?_
    refine .nil ?_
    refine .then ?_
    refine .ret ?_
    cases h
    exact .finw () (.r1 rfl (.tmp .g0)) trivial (Ls.of (.cons .k0 .nil)) .nil
attribute [irreducible] slices_IndexFunc_escrow_Lock_escrow_State_place_1
noncomputable def escrow_State_place (a0 : escrow_State) (a1 : ByteArray) : Option (Int) :=
  Option.bind (slices_IndexFunc_escrow_Lock_escrow_State_place_1 a0.Locks a1) fun r2 => some r2
set_option maxRecDepth 20000 in
set_option maxHeartbeats 1000000 in
theorem S_escrow_State_place (b00 : Nat) (a0 : escrow_State) (z00a : Value) (a1 : ByteArray) (r : Int) (h : escrow_State_place a0 a1 = some r) :
    SpecF Tryz.prog 76 [pt b00 0, .string a1] [blk b00 45 (escrow_State.cs a0 z00a), lst 76 3 z00a (a0.Locks.map escrow_Lock.cs)] [] (fun z : Unit => True) (fun z => N r) (fun z M => blk b00 45 (escrow_State.cs a0 z00a) :: lst 76 3 z00a (a0.Locks.map escrow_Lock.cs) ::  M) (fun z M =>  M) := by
  refine .of func76 rfl ntmps76 rfl fun w0 D0 G0 => ?_
  unfold escrow_State_place at h
  refine .seq ?_
  refine .reg rfl ?_
  refine .opx (X.box (cs := [.string a1]) .t1 rfl) rfl fun b1 => ?_
  refine .op0 (OpP.toV (P.asg .k)) rfl ?_
  refine .nil ?_
  refine .then ?_
  refine .seq ?_
  refine .reg rfl ?_
  refine .opp (P.mov .t1) rfl ?_
  refine .opp (P.nilc .t0) rfl ?_
  refine .opp (P.fa .t0 fa_45_7 rfl) rfl ?_
  refine .op (V.ld (v := z00a) .t0 .k1 (.one isAgg43 rfl)) rfl ?_
  refine .opp (P.mkf (.cons .t1 .nil)) rfl ?_
  obtain ⟨r2, hr3, h⟩ := bnd_eq h
  refine .opg (G.calll call84 (.cons .t1 (.cons .t0 .nil)) (S_slices_IndexFunc_escrow_Lock_escrow_State_place_1 z00a a0.Locks b1 a1 r2 hr3) (.cons .k0 .nil) (.imp (List.mem_append_right _ Mm.m1) (fun _ => lst_rows) .nil) (fun _ _ => rfl) rfl) rfl fun _ _ => ?_
  refine .opp (P.asg .t0) rfl ?_
  refine .nil ?_
  refine .then ?_
  refine .ret ?_
  cases h
  exact .finw () (.r1 rfl (.tmp .g0)) trivial (Ls.of (.cons .k1 (.cons .k1 .nil))) .nil
attribute [irreducible] escrow_State_place
noncomputable def slices_Backward_uint64  : Unit :=
  ()
set_option maxRecDepth 20000 in
set_option maxHeartbeats 1000000 in
theorem S_slices_Backward_uint64 (v00 : Value) (hv00 : IsSl v00) (r : Unit) (h : slices_Backward_uint64  = r) :
    SpecF Tryz.prog 120 [v00] [] [] (fun z : Nat => True) (fun z => fnv 126 [pt z 0]) (fun z M => blk z 184 [v00] ::  M) (fun z M =>  M) := by
  refine .of func120 rfl ntmps120 rfl fun w0 D0 G0 => ?_
  unfold slices_Backward_uint64 at h
  refine .seq ?_
  refine .reg rfl ?_
  refine .opx (X.box (cs := [v00]) .t0 hv00.cells) rfl fun b1 => ?_
  refine .op0 (OpP.toV (P.asg .k)) rfl ?_
  refine .nil ?_
  refine .then ?_
  refine .seq ?_
  refine .reg rfl ?_
  refine .opp (P.mkf (.cons .t0 .nil)) rfl ?_
  refine .opp (P.asg .t0) rfl ?_
  refine .nil ?_
  refine .then ?_
  refine .ret ?_
  subst h
  exact .finw b1 (.r1 rfl (.tmp .g0)) trivial (Ls.of (.cons .k0 .nil)) .nil
attribute [irreducible] slices_Backward_uint64
noncomputable def blob_Wide (a0 : api_Wide) : Option ((List UInt8)) :=
  Option.bind (loopW (fun (s12 : Int × (List UInt8)) => if (decide (s12.1 ≥ 0)) = true then (grd (0 ≤ s12.1) <| grd ((s12.2.length + ([B8i ((rshU a0.a3 s12.1).toNat : Int)] : List UInt8).length) * 1 ≤ 140737488355328) <| some (.nx ((IntKind.i64.wrap (s12.1 - 8), (s12.2 ++ ([B8i ((rshU a0.a3 s12.1).toNat : Int)] : List UInt8)))))) else (some (.br (s12.1, s12.2)))) (56, [])) fun o14 => Lo.on o14 fun (s12 : Int × (List UInt8)) => Option.bind (loopW (fun (s31 : Int × (List UInt8)) => if (decide (s31.1 ≥ 0)) = true then (grd (0 ≤ s31.1) <| grd ((s31.2.length + ([B8i ((rshU a0.a2 s31.1).toNat : Int)] : List UInt8).length) * 1 ≤ 140737488355328) <| some (.nx ((IntKind.i64.wrap (s31.1 - 8), (s31.2 ++ ([B8i ((rshU a0.a2 s31.1).toNat : Int)] : List UInt8)))))) else (some (.br (s31.1, s31.2)))) (56, s12.2)) fun o33 => Lo.on o33 fun (s31 : Int × (List UInt8)) => Option.bind (loopW (fun (s50 : Int × (List UInt8)) => if (decide (s50.1 ≥ 0)) = true then (grd (0 ≤ s50.1) <| grd ((s50.2.length + ([B8i ((rshU a0.a1 s50.1).toNat : Int)] : List UInt8).length) * 1 ≤ 140737488355328) <| some (.nx ((IntKind.i64.wrap (s50.1 - 8), (s50.2 ++ ([B8i ((rshU a0.a1 s50.1).toNat : Int)] : List UInt8)))))) else (some (.br (s50.1, s50.2)))) (56, s31.2)) fun o52 => Lo.on o52 fun (s50 : Int × (List UInt8)) => Option.bind (loopW (fun (s69 : Int × (List UInt8)) => if (decide (s69.1 ≥ 0)) = true then (grd (0 ≤ s69.1) <| grd ((s69.2.length + ([B8i ((rshU a0.a0 s69.1).toNat : Int)] : List UInt8).length) * 1 ≤ 140737488355328) <| some (.nx ((IntKind.i64.wrap (s69.1 - 8), (s69.2 ++ ([B8i ((rshU a0.a0 s69.1).toNat : Int)] : List UInt8)))))) else (some (.br (s69.1, s69.2)))) (56, s50.2)) fun o71 => Lo.on o71 fun (s69 : Int × (List UInt8)) => some s69.2
set_option maxRecDepth 20000 in
set_option maxHeartbeats 1000000 in
theorem S_blob_Wide (a0 : api_Wide) (r : (List UInt8)) (h : blob_Wide a0 = some r) :
    SpecF Tryz.prog 108 [Ag (api_Wide.cs a0)] [] [] (fun z : Value => True) (fun z => z) (fun z M => lst 5 1 z (r.map (fun x => [B8 x])) ::  M) (fun z M =>  M) := by
  refine .of func108 rfl ntmps108 rfl fun w0 D0 G0 => ?_
  unfold blob_Wide at h
  refine .seq ?_
  refine .reg rfl ?_
  refine .opx (X.box (cs := (api_Wide.cs a0)) .t0 rfl) rfl fun b1 => ?_
  refine .op0 (OpP.toV (P.asg .k)) rfl ?_
  refine .nil ?_
  refine .then ?_
  refine .seq ?_
  refine .reg rfl ?_
  refine .opx (X.alc (cs := [nilSl]) zeroValue131 rfl) rfl fun b2 => ?_
  refine .nil ?_
  refine .then ?_
  refine .seq ?_
  refine .seq ?_
  refine .reg rfl ?_
  refine .opp (P.sla .t1 runUnderlying30 sizeOf28) rfl ?_
  refine .opg (G.call call120 (.cons .t0 .nil) (S_slices_Backward_uint64 (.slice (some ⟨b1, 0, none⟩) 4 4) .mk _ rfl) .nil .nil (fun _ _ => rfl) (fun _ _ => rfl) rfl) rfl fun b3 _ => ?_
  refine .nil ?_
  refine .then ?_
  refine .block ?_
  refine .rangeF rfl .t0 call126 func126 rfl ntmps126 rfl fun a4 O5 D6 l7 ha8 hO9 => ?_
  refine .seq ?_
  refine .reg rfl ?_
  refine .op (V.ld (v := (.slice (some ⟨b1, 0, none⟩) 4 4)) .g1 .k2 (.one isAgg184 rfl)) rfl ?_
  refine .opp (P.lena .t0 runUnderlying184) rfl ?_
  refine .opp (P.bin (v := N 3) .t0 .k (.subc (by decide))) rfl ?_
  refine .opp (P.asg .t0) rfl ?_
  refine .nil ?_
  refine .then ?_
  refine .block ?_
  refine .rounds 5 ?_
  refine .rd ?_
  refine .seq ?_
  refine .seq ?_
  refine .reg rfl ?_
  refine .opp (P.mov .g0) rfl ?_
  refine .opp (P.bin (v := Bo true) .t0 .k (BinV.geq.boolc (by decide))) rfl ?_
  refine .nil ?_
  refine .then ?_
  refine .condT .t0 ?_
  refine .skip ?_
  refine .then ?_
  refine .seq ?_
  refine .block ?_
  refine .seq ?_
  refine .regY 6 rfl ?_
  refine .opp (P.mov .g1) rfl ?_
  refine .opp (P.mov .g1) rfl ?_
  refine .op (V.ld (v := (.slice (some ⟨b1, 0, none⟩) 4 4)) .g4 .k2 (.one isAgg184 rfl)) rfl ?_
  refine .opp (P.mov .g3) rfl ?_
  refine .opp (P.ixa (i := 3) .t0 rfl .t0 runUnderlying184 sizeOf28 (by decide) rfl) rfl ?_
  refine .op (V.ld (v := U a0.a3) .t0 .k4 (.one isAgg28 rfl)) rfl ?_
  refine .nil ?_
  refine .then ?_
  refine .yield (ps := [9, 10]) .t2 (.cons .t1 (.cons .t0 .nil)) hO9 .k0 rfl rfl (by decide) fun a10 ha11 => ?_
  refine .reg rfl ?_
  refine .opp (P.asg .t1) rfl ?_
  refine .nil ?_
  refine .then ?_
  refine .bg rfl hO9 .k0 ?_
  refine .block ?_
  refine .seq ?_
  refine .reg rfl ?_
  refine .opp (P.asg .k) rfl ?_
  refine .nil ?_
  refine .then ?_
  refine .block ?_
  refine .lnil 5 1 ?_
  obtain ⟨o14, ho15, h⟩ := bnd_eq h
  refine .loopW (γ := Value) (fun (s12 : Int × (List UInt8)) z13 => [(6, N s12.1), (5, U a0.a3), (3, pt b2 0)]) (fun (s12 : Int × (List UInt8)) z13 => [blk b2 131 [z13], blk b3 184 [(.slice (some ⟨b1, 0, none⟩) 4 4)], blk b1 30 (api_Wide.cs a0), lst 5 1 z13 (s12.2.map (fun x => [B8 x])), obj l7 (O5 .busy none), obj D6 (.deferred (some []))]) (fun (s12 : Int × (List UInt8)) z13 => []) nilSl ho15 (.cons Mm.m0 (.cons Mm.m1 (.cons Mm.m3 .nil))) (.of (.cons .k4 (.cons .k3 (.cons .k3 (.cons .k0 (.cons .k0 (.cons .k0 .nil))))))) .nil (fun n20 s12 z13 hr18 => ?_)
  obtain ⟨ct19, hc16, hn17⟩ := loopK_at hr18
  refine .seq ?_
  refine .seq ?_
  refine .reg rfl ?_
  refine .opp (P.mov .g0) rfl ?_
  refine .opp (P.bin .t0 .k .geq) rfl ?_
  refine .nil ?_
  refine .then ?_
  refine .cond .t0 (fun c21 => ?_) (fun c21 => ?_)
  · rw [if_pos c21] at hc16
    refine .skip ?_
    refine .then ?_
    refine .seq ?_
    refine .block ?_
    obtain ⟨hb22, hc16⟩ := grd_eq hc16
    obtain ⟨hb25, hc16⟩ := grd_eq hc16
    refine .dcut (γ := Value × Value) (φ := fun _ => True) (E1 := fun x_ => [(6, N s12.1), (5, U a0.a3), (3, pt b2 0)]) (L1 := fun x_ => [blk b2 131 [x_.2], lst 5 1 x_.2 ((s12.2 ++ ([B8i ((rshU a0.a3 s12.1).toNat : Int)] : List UInt8)).map (fun x => [B8 x])), lst 5 1 x_.1 [[B8 (B8i ((rshU a0.a3 s12.1).toNat : Int))]], blk b3 184 [(.slice (some ⟨b1, 0, none⟩) 4 4)], blk b1 30 (api_Wide.cs a0), obj l7 (O5 .busy none), obj D6 (.deferred (some []))]) (R1 := fun x_ => []) ?_ (fun x_ _ => ?_)
    · refine .draw 5 (.on 1 .pu (.on 2 .pu (.on 3 .pu (.on 4 .pu (.fk 0 5 (.on 5 .go (.on 6 .go (.on 7 .go .nl))) (.on 0 .go (.on 6 .go (.on 7 .go .nl)))))))) follows_mixed (.thn (.inb (.thn (.thn (.inb (.inb .rnd)))))) (by kernel_rfl) ?_
      refine .dpu rfl (.n rfl) (P.mov .g1) rfl rfl ?_
      refine .dpu rfl (.n rfl) (P.mov .g1) rfl rfl ?_
      refine .dpu rfl (.n rfl) (P.bin .t1 .t0 (BinV.shrU (x := a0.a3) (n := s12.1) hb22)) rfl rfl ?_
      refine .dpu rfl (.n rfl) (P.cnvB8 (m := ((rshU a0.a3 s12.1).toNat : Int)) .t0 runUnderlying28 runUnderlying5) rfl rfl ?_
      refine .dfk ?_ ?_
      · refine .dgo rfl (.n rfl) (OpV.g (V.ld (v := z13) .g3 .k0 (.one isAgg131 rfl)) rfl) (.inr fun _ _ _ h => h) fun _ _ => ?_
        refine .dgo rfl (.n rfl) (G.bsl (cs := [B8 (B8i ((rshU a0.a3 s12.1).toNat : Int))]) .t1 runUnderlying131 sizeOf5 zeroValue5 rfl rfl rfl rfl rfl) (.inl rfl) fun u23 _ => ?_
        refine .dgo rfl (.n rfl) (G.app (by_ := 1) .t1 .t0 .k4 (.inr (.inr ⟨_, Mm.m0⟩)) runUnderlying131 runUnderlying131 sizeOf5 typeInfo5 rfl rfl zeroValue5 rfl rfl (by simpa using hb25) rfl) (.inl rfl) fun u24 _ => ?_
        refine .conseq .k0 (q := lst 5 1 u24 ((s12.2 ++ ([B8i ((rshU a0.a3 s12.1).toNat : Int)] : List UInt8)).map (fun x => [B8 x]))) (fun _ hh => by simpa [List.map_append] using hh) ?_
        refine .onel .k0 fun ho26 => ?_
        refine .dgo rfl (.n rfl) (G.str .t0 .g2 .k2 (.mk1 (cs' := [u24]) sizeOf131 rfl ho26 rfl rfl)) (.inl rfl) fun _ _ => ?_
        refine .dnil ?_
        exact .dst ⟨u23, u24⟩ trivial (.cons Mm.m0 (.cons Mm.m1 (.cons Mm.m2 .nil))) (Ls.of (.cons .k0 (.cons .k0 (.cons .k0 (.cons .k0 (.cons .k0 (.cons .k0 (.cons .k0 .nil)))))))) .nil
      · refine .dgo rfl (.n rfl) (G.bsl (cs := [B8 (B8i ((rshU a0.a3 s12.1).toNat : Int))]) .t0 runUnderlying131 sizeOf5 zeroValue5 rfl rfl rfl rfl rfl) (.inl rfl) fun u23 _ => ?_
        refine .dgo rfl (.n rfl) (OpV.g (V.ld (v := z13) .g3 .k1 (.one isAgg131 rfl)) rfl) (.inl rfl) fun _ _ => ?_
        refine .dgo rfl (.n rfl) (G.app (by_ := 1) .t0 .t0 .k4 (.inr (.inr ⟨_, Mm.m0⟩)) runUnderlying131 runUnderlying131 sizeOf5 typeInfo5 rfl rfl zeroValue5 rfl rfl (by simpa using hb25) rfl) (.inl rfl) fun u24 _ => ?_
        refine .conseq .k0 (q := lst 5 1 u24 ((s12.2 ++ ([B8i ((rshU a0.a3 s12.1).toNat : Int)] : List UInt8)).map (fun x => [B8 x]))) (fun _ hh => by simpa [List.map_append] using hh) ?_
        refine .onel .k0 fun ho26 => ?_
        refine .dgo rfl (.n rfl) (G.str .t0 .g2 .k2 (.mk1 (cs' := [u24]) sizeOf131 rfl ho26 rfl rfl)) (.inl rfl) fun _ _ => ?_
        refine .dnil ?_
        exact .dst ⟨u23, u24⟩ trivial (.cons Mm.m0 (.cons Mm.m1 (.cons Mm.m2 .nil))) (Ls.of (.cons .k0 (.cons .k0 (.cons .k0 (.cons .k0 (.cons .k0 (.cons .k0 (.cons .k0 .nil)))))))) .nil
    · obtain ⟨u23, u24⟩ := x_
      refine .inn ?_
      refine .then ?_
      refine .reg rfl ?_
      refine .opp (P.mov .g0) rfl ?_
      refine .opp (P.bin .t0 .k .sub) rfl ?_
      refine .drop .k1 ?_
      refine .opp (P.asg .t0) rfl ?_
      refine .nil ?_
      cases hc16
      obtain ⟨m27, hm28, hn17⟩ := hn17
      exact .rdW ((IntKind.i64.wrap (s12.1 - 8), (s12.2 ++ ([B8i ((rshU a0.a3 s12.1).toNat : Int)] : List UInt8)))) u24 hm28 hn17 (.cons Mm.m0 (.cons Mm.m1 (.cons Mm.m2 .nil))) (.of (.cons .k0 (.cons .k2 (.cons .k2 (.cons .k0 (.cons .k1 (.cons .k1 .nil))))))) .nil
  · rw [if_neg (ne_true_of_eq_false c21)] at hc16
    refine .exit ?_
    refine .thx ?_
    cases hc16
    refine .told (γ := Value) h hn17 (fun (s12 : Int × (List UInt8)) z13 => [(6, N s12.1), (5, U a0.a3), (3, pt b2 0)]) (fun (s12 : Int × (List UInt8)) z13 => [blk b2 131 [z13], blk b3 184 [(.slice (some ⟨b1, 0, none⟩) 4 4)], blk b1 30 (api_Wide.cs a0), lst 5 1 z13 (s12.2.map (fun x => [B8 x])), obj l7 (O5 .busy none), obj D6 (.deferred (some []))]) (fun (s12 : Int × (List UInt8)) z13 => []) z13 (.cons Mm.m0 (.cons Mm.m1 (.cons Mm.m2 .nil))) (.of (.cons .k0 (.cons .k0 (.cons .k0 (.cons .k0 (.cons .k0 (.cons .k0 .nil))))))) .nil (fun s12 z13 h' => ?_)
    replace h := h'
    refine .thx ?_
    refine .inb ?_
    refine .inn ?_
    refine .rnorm rfl ⟨rfl, rfl, rfl⟩ ha11 hO9 .k4 rfl ?_
    refine .inL rfl ?_
    refine .opp (P.not .t0) rfl ?_
    refine .nil ?_
    refine .then ?_
    refine .condF .t0 ?_
    refine .skip ?_
    refine .inn ?_
    refine .then ?_
    refine .reg rfl ?_
    refine .opp (P.mov .g0) rfl ?_
    refine .opp (P.bin (v := N 2) .t0 .k (.subc (by decide))) rfl ?_
    refine .drop .k1 ?_
    refine .opp (P.asg .t0) rfl ?_
    refine .nil ?_
    refine .then ?_
    refine .rd ?_
    refine .seq ?_
    refine .seq ?_
    refine .reg rfl ?_
    refine .opp (P.mov .g0) rfl ?_
    refine .opp (P.bin (v := Bo true) .t0 .k (BinV.geq.boolc (by decide))) rfl ?_
    refine .nil ?_
    refine .then ?_
    refine .condT .t0 ?_
    refine .skip ?_
    refine .then ?_
    refine .seq ?_
    refine .block ?_
    refine .seq ?_
    refine .regY 6 rfl ?_
    refine .opp (P.mov .g1) rfl ?_
    refine .opp (P.mov .g1) rfl ?_
    refine .op (V.ld (v := (.slice (some ⟨b1, 0, none⟩) 4 4)) .g4 .k2 (.one isAgg184 rfl)) rfl ?_
    refine .opp (P.mov .g3) rfl ?_
    refine .opp (P.ixa (i := 2) .t0 rfl .t0 runUnderlying184 sizeOf28 (by decide) rfl) rfl ?_
    refine .op (V.ld (v := U a0.a2) .t0 .k3 (.one isAgg28 rfl)) rfl ?_
    refine .nil ?_
    refine .then ?_
    refine .yield (ps := [9, 10]) .t2 (.cons .t1 (.cons .t0 .nil)) hO9 .k0 rfl rfl (by decide) fun a29 ha30 => ?_
    refine .reg rfl ?_
    refine .opp (P.asg .t1) rfl ?_
    refine .nil ?_
    refine .then ?_
    refine .bg rfl hO9 .k0 ?_
    refine .block ?_
    refine .seq ?_
    refine .reg rfl ?_
    refine .opp (P.asg .k) rfl ?_
    refine .nil ?_
    refine .then ?_
    refine .block ?_
    obtain ⟨o33, ho34, h⟩ := bnd_eq h
    refine .loopW (γ := Value) (fun (s31 : Int × (List UInt8)) z32 => [(6, N s31.1), (5, U a0.a2), (3, pt b2 0)]) (fun (s31 : Int × (List UInt8)) z32 => [blk b2 131 [z32], blk b3 184 [(.slice (some ⟨b1, 0, none⟩) 4 4)], blk b1 30 (api_Wide.cs a0), lst 5 1 z32 (s31.2.map (fun x => [B8 x])), obj l7 (O5 .busy none), obj D6 (.deferred (some []))]) (fun (s31 : Int × (List UInt8)) z32 => []) z13 ho34 (.cons Mm.m0 (.cons Mm.m1 (.cons Mm.m3 .nil))) (.of (.cons .k1 (.cons .k1 (.cons .k1 (.cons .k1 (.cons .k0 (.cons .k0 .nil))))))) .nil (fun n39 s31 z32 hr37 => ?_)
    obtain ⟨ct38, hc35, hn36⟩ := loopK_at hr37
    refine .seq ?_
    refine .seq ?_
    refine .reg rfl ?_
    refine .opp (P.mov .g0) rfl ?_
    refine .opp (P.bin .t0 .k .geq) rfl ?_
    refine .nil ?_
    refine .then ?_
    refine .cond .t0 (fun c40 => ?_) (fun c40 => ?_)
    · rw [if_pos c40] at hc35
      refine .skip ?_
      refine .then ?_
      refine .seq ?_
      refine .block ?_
      obtain ⟨hb41, hc35⟩ := grd_eq hc35
      obtain ⟨hb44, hc35⟩ := grd_eq hc35
      refine .dcut (γ := Value × Value) (φ := fun _ => True) (E1 := fun x_ => [(6, N s31.1), (5, U a0.a2), (3, pt b2 0)]) (L1 := fun x_ => [blk b2 131 [x_.2], lst 5 1 x_.2 ((s31.2 ++ ([B8i ((rshU a0.a2 s31.1).toNat : Int)] : List UInt8)).map (fun x => [B8 x])), lst 5 1 x_.1 [[B8 (B8i ((rshU a0.a2 s31.1).toNat : Int))]], blk b3 184 [(.slice (some ⟨b1, 0, none⟩) 4 4)], blk b1 30 (api_Wide.cs a0), obj l7 (O5 .busy none), obj D6 (.deferred (some []))]) (R1 := fun x_ => []) ?_ (fun x_ _ => ?_)
      · refine .draw 5 (.on 1 .pu (.on 2 .pu (.on 3 .pu (.on 4 .pu (.fk 0 5 (.on 5 .go (.on 6 .go (.on 7 .go .nl))) (.on 0 .go (.on 6 .go (.on 7 .go .nl)))))))) follows_mixed (.thn (.inb (.thn (.thn (.inb (.inb .rnd)))))) (by kernel_rfl) ?_
        refine .dpu rfl (.n rfl) (P.mov .g1) rfl rfl ?_
        refine .dpu rfl (.n rfl) (P.mov .g1) rfl rfl ?_
        refine .dpu rfl (.n rfl) (P.bin .t1 .t0 (BinV.shrU (x := a0.a2) (n := s31.1) hb41)) rfl rfl ?_
        refine .dpu rfl (.n rfl) (P.cnvB8 (m := ((rshU a0.a2 s31.1).toNat : Int)) .t0 runUnderlying28 runUnderlying5) rfl rfl ?_
        refine .dfk ?_ ?_
        · refine .dgo rfl (.n rfl) (OpV.g (V.ld (v := z32) .g3 .k0 (.one isAgg131 rfl)) rfl) (.inr fun _ _ _ h => h) fun _ _ => ?_
          refine .dgo rfl (.n rfl) (G.bsl (cs := [B8 (B8i ((rshU a0.a2 s31.1).toNat : Int))]) .t1 runUnderlying131 sizeOf5 zeroValue5 rfl rfl rfl rfl rfl) (.inl rfl) fun u42 _ => ?_
          refine .dgo rfl (.n rfl) (G.app (by_ := 1) .t1 .t0 .k4 (.inr (.inr ⟨_, Mm.m0⟩)) runUnderlying131 runUnderlying131 sizeOf5 typeInfo5 rfl rfl zeroValue5 rfl rfl (by simpa using hb44) rfl) (.inl rfl) fun u43 _ => ?_
          refine .conseq .k0 (q := lst 5 1 u43 ((s31.2 ++ ([B8i ((rshU a0.a2 s31.1).toNat : Int)] : List UInt8)).map (fun x => [B8 x]))) (fun _ hh => by simpa [List.map_append] using hh) ?_
          refine .onel .k0 fun ho45 => ?_
          refine .dgo rfl (.n rfl) (G.str .t0 .g2 .k2 (.mk1 (cs' := [u43]) sizeOf131 rfl ho45 rfl rfl)) (.inl rfl) fun _ _ => ?_
          refine .dnil ?_
          exact .dst ⟨u42, u43⟩ trivial (.cons Mm.m0 (.cons Mm.m1 (.cons Mm.m2 .nil))) (Ls.of (.cons .k0 (.cons .k0 (.cons .k0 (.cons .k0 (.cons .k0 (.cons .k0 (.cons .k0 .nil)))))))) .nil
        · refine .dgo rfl (.n rfl) (G.bsl (cs := [B8 (B8i ((rshU a0.a2 s31.1).toNat : Int))]) .t0 runUnderlying131 sizeOf5 zeroValue5 rfl rfl rfl rfl rfl) (.inl rfl) fun u42 _ => ?_
          refine .dgo rfl (.n rfl) (OpV.g (V.ld (v := z32) .g3 .k1 (.one isAgg131 rfl)) rfl) (.inl rfl) fun _ _ => ?_
          refine .dgo rfl (.n rfl) (G.app (by_ := 1) .t0 .t0 .k4 (.inr (.inr ⟨_, Mm.m0⟩)) runUnderlying131 runUnderlying131 sizeOf5 typeInfo5 rfl rfl zeroValue5 rfl rfl (by simpa using hb44) rfl) (.inl rfl) fun u43 _ => ?_
          refine .conseq .k0 (q := lst 5 1 u43 ((s31.2 ++ ([B8i ((rshU a0.a2 s31.1).toNat : Int)] : List UInt8)).map (fun x => [B8 x]))) (fun _ hh => by simpa [List.map_append] using hh) ?_
          refine .onel .k0 fun ho45 => ?_
          refine .dgo rfl (.n rfl) (G.str .t0 .g2 .k2 (.mk1 (cs' := [u43]) sizeOf131 rfl ho45 rfl rfl)) (.inl rfl) fun _ _ => ?_
          refine .dnil ?_
          exact .dst ⟨u42, u43⟩ trivial (.cons Mm.m0 (.cons Mm.m1 (.cons Mm.m2 .nil))) (Ls.of (.cons .k0 (.cons .k0 (.cons .k0 (.cons .k0 (.cons .k0 (.cons .k0 (.cons .k0 .nil)))))))) .nil
      · obtain ⟨u42, u43⟩ := x_
        refine .inn ?_
        refine .then ?_
        refine .reg rfl ?_
        refine .opp (P.mov .g0) rfl ?_
        refine .opp (P.bin .t0 .k .sub) rfl ?_
        refine .drop .k1 ?_
        refine .opp (P.asg .t0) rfl ?_
        refine .nil ?_
        cases hc35
        obtain ⟨m46, hm47, hn36⟩ := hn36
        exact .rdW ((IntKind.i64.wrap (s31.1 - 8), (s31.2 ++ ([B8i ((rshU a0.a2 s31.1).toNat : Int)] : List UInt8)))) u43 hm47 hn36 (.cons Mm.m0 (.cons Mm.m1 (.cons Mm.m2 .nil))) (.of (.cons .k0 (.cons .k2 (.cons .k2 (.cons .k0 (.cons .k1 (.cons .k1 .nil))))))) .nil
    · rw [if_neg (ne_true_of_eq_false c40)] at hc35
      refine .exit ?_
      refine .thx ?_
      cases hc35
      refine .told (γ := Value) h hn36 (fun (s31 : Int × (List UInt8)) z32 => [(6, N s31.1), (5, U a0.a2), (3, pt b2 0)]) (fun (s31 : Int × (List UInt8)) z32 => [blk b2 131 [z32], blk b3 184 [(.slice (some ⟨b1, 0, none⟩) 4 4)], blk b1 30 (api_Wide.cs a0), lst 5 1 z32 (s31.2.map (fun x => [B8 x])), obj l7 (O5 .busy none), obj D6 (.deferred (some []))]) (fun (s31 : Int × (List UInt8)) z32 => []) z32 (.cons Mm.m0 (.cons Mm.m1 (.cons Mm.m2 .nil))) (.of (.cons .k0 (.cons .k0 (.cons .k0 (.cons .k0 (.cons .k0 (.cons .k0 .nil))))))) .nil (fun s31 z32 h' => ?_)
      replace h := h'
      refine .thx ?_
      refine .inb ?_
      refine .inn ?_
      refine .rnorm rfl ⟨rfl, rfl, rfl⟩ ha30 hO9 .k4 rfl ?_
      refine .inL rfl ?_
      refine .opp (P.not .t0) rfl ?_
      refine .nil ?_
      refine .then ?_
      refine .condF .t0 ?_
      refine .skip ?_
      refine .inn ?_
      refine .then ?_
      refine .reg rfl ?_
      refine .opp (P.mov .g0) rfl ?_
      refine .opp (P.bin (v := N 1) .t0 .k (.subc (by decide))) rfl ?_
      refine .drop .k1 ?_
      refine .opp (P.asg .t0) rfl ?_
      refine .nil ?_
      refine .then ?_
      refine .rd ?_
      refine .seq ?_
      refine .seq ?_
      refine .reg rfl ?_
      refine .opp (P.mov .g0) rfl ?_
      refine .opp (P.bin (v := Bo true) .t0 .k (BinV.geq.boolc (by decide))) rfl ?_
      refine .nil ?_
      refine .then ?_
      refine .condT .t0 ?_
      refine .skip ?_
      refine .then ?_
      refine .seq ?_
      refine .block ?_
      refine .seq ?_
      refine .regY 6 rfl ?_
      refine .opp (P.mov .g1) rfl ?_
      refine .opp (P.mov .g1) rfl ?_
      refine .op (V.ld (v := (.slice (some ⟨b1, 0, none⟩) 4 4)) .g4 .k2 (.one isAgg184 rfl)) rfl ?_
      refine .opp (P.mov .g3) rfl ?_
      refine .opp (P.ixa (i := 1) .t0 rfl .t0 runUnderlying184 sizeOf28 (by decide) rfl) rfl ?_
      refine .op (V.ld (v := U a0.a1) .t0 .k3 (.one isAgg28 rfl)) rfl ?_
      refine .nil ?_
      refine .then ?_
      refine .yield (ps := [9, 10]) .t2 (.cons .t1 (.cons .t0 .nil)) hO9 .k0 rfl rfl (by decide) fun a48 ha49 => ?_
      refine .reg rfl ?_
      refine .opp (P.asg .t1) rfl ?_
      refine .nil ?_
      refine .then ?_
      refine .bg rfl hO9 .k0 ?_
      refine .block ?_
      refine .seq ?_
      refine .reg rfl ?_
      refine .opp (P.asg .k) rfl ?_
      refine .nil ?_
      refine .then ?_
      refine .block ?_
      obtain ⟨o52, ho53, h⟩ := bnd_eq h
      refine .loopW (γ := Value) (fun (s50 : Int × (List UInt8)) z51 => [(6, N s50.1), (5, U a0.a1), (3, pt b2 0)]) (fun (s50 : Int × (List UInt8)) z51 => [blk b2 131 [z51], blk b3 184 [(.slice (some ⟨b1, 0, none⟩) 4 4)], blk b1 30 (api_Wide.cs a0), lst 5 1 z51 (s50.2.map (fun x => [B8 x])), obj l7 (O5 .busy none), obj D6 (.deferred (some []))]) (fun (s50 : Int × (List UInt8)) z51 => []) z32 ho53 (.cons Mm.m0 (.cons Mm.m1 (.cons Mm.m3 .nil))) (.of (.cons .k1 (.cons .k1 (.cons .k1 (.cons .k1 (.cons .k0 (.cons .k0 .nil))))))) .nil (fun n58 s50 z51 hr56 => ?_)
      obtain ⟨ct57, hc54, hn55⟩ := loopK_at hr56
      refine .seq ?_
      refine .seq ?_
      refine .reg rfl ?_
      refine .opp (P.mov .g0) rfl ?_
      refine .opp (P.bin .t0 .k .geq) rfl ?_
      refine .nil ?_
      refine .then ?_
      refine .cond .t0 (fun c59 => ?_) (fun c59 => ?_)
      · rw [if_pos c59] at hc54
        refine .skip ?_
        refine .then ?_
        refine .seq ?_
        refine .block ?_
        obtain ⟨hb60, hc54⟩ := grd_eq hc54
        obtain ⟨hb63, hc54⟩ := grd_eq hc54
        refine .dcut (γ := Value × Value) (φ := fun _ => True) (E1 := fun x_ => [(6, N s50.1), (5, U a0.a1), (3, pt b2 0)]) (L1 := fun x_ => [blk b2 131 [x_.2], lst 5 1 x_.2 ((s50.2 ++ ([B8i ((rshU a0.a1 s50.1).toNat : Int)] : List UInt8)).map (fun x => [B8 x])), lst 5 1 x_.1 [[B8 (B8i ((rshU a0.a1 s50.1).toNat : Int))]], blk b3 184 [(.slice (some ⟨b1, 0, none⟩) 4 4)], blk b1 30 (api_Wide.cs a0), obj l7 (O5 .busy none), obj D6 (.deferred (some []))]) (R1 := fun x_ => []) ?_ (fun x_ _ => ?_)
        · refine .draw 5 (.on 1 .pu (.on 2 .pu (.on 3 .pu (.on 4 .pu (.fk 0 5 (.on 5 .go (.on 6 .go (.on 7 .go .nl))) (.on 0 .go (.on 6 .go (.on 7 .go .nl)))))))) follows_mixed (.thn (.inb (.thn (.thn (.inb (.inb .rnd)))))) (by kernel_rfl) ?_
          refine .dpu rfl (.n rfl) (P.mov .g1) rfl rfl ?_
          refine .dpu rfl (.n rfl) (P.mov .g1) rfl rfl ?_
          refine .dpu rfl (.n rfl) (P.bin .t1 .t0 (BinV.shrU (x := a0.a1) (n := s50.1) hb60)) rfl rfl ?_
          refine .dpu rfl (.n rfl) (P.cnvB8 (m := ((rshU a0.a1 s50.1).toNat : Int)) .t0 runUnderlying28 runUnderlying5) rfl rfl ?_
          refine .dfk ?_ ?_
          · refine .dgo rfl (.n rfl) (OpV.g (V.ld (v := z51) .g3 .k0 (.one isAgg131 rfl)) rfl) (.inr fun _ _ _ h => h) fun _ _ => ?_
            refine .dgo rfl (.n rfl) (G.bsl (cs := [B8 (B8i ((rshU a0.a1 s50.1).toNat : Int))]) .t1 runUnderlying131 sizeOf5 zeroValue5 rfl rfl rfl rfl rfl) (.inl rfl) fun u61 _ => ?_
            refine .dgo rfl (.n rfl) (G.app (by_ := 1) .t1 .t0 .k4 (.inr (.inr ⟨_, Mm.m0⟩)) runUnderlying131 runUnderlying131 sizeOf5 typeInfo5 rfl rfl zeroValue5 rfl rfl (by simpa using hb63) rfl) (.inl rfl) fun u62 _ => ?_
            refine .conseq .k0 (q := lst 5 1 u62 ((s50.2 ++ ([B8i ((rshU a0.a1 s50.1).toNat : Int)] : List UInt8)).map (fun x => [B8 x]))) (fun _ hh => by simpa [List.map_append] using hh) ?_
            refine .onel .k0 fun ho64 => ?_
            refine .dgo rfl (.n rfl) (G.str .t0 .g2 .k2 (.mk1 (cs' := [u62]) sizeOf131 rfl ho64 rfl rfl)) (.inl rfl) fun _ _ => ?_
            refine .dnil ?_
            exact .dst ⟨u61, u62⟩ trivial (.cons Mm.m0 (.cons Mm.m1 (.cons Mm.m2 .nil))) (Ls.of (.cons .k0 (.cons .k0 (.cons .k0 (.cons .k0 (.cons .k0 (.cons .k0 (.cons .k0 .nil)))))))) .nil
          · refine .dgo rfl (.n rfl) (G.bsl (cs := [B8 (B8i ((rshU a0.a1 s50.1).toNat : Int))]) .t0 runUnderlying131 sizeOf5 zeroValue5 rfl rfl rfl rfl rfl) (.inl rfl) fun u61 _ => ?_
            refine .dgo rfl (.n rfl) (OpV.g (V.ld (v := z51) .g3 .k1 (.one isAgg131 rfl)) rfl) (.inl rfl) fun _ _ => ?_
            refine .dgo rfl (.n rfl) (G.app (by_ := 1) .t0 .t0 .k4 (.inr (.inr ⟨_, Mm.m0⟩)) runUnderlying131 runUnderlying131 sizeOf5 typeInfo5 rfl rfl zeroValue5 rfl rfl (by simpa using hb63) rfl) (.inl rfl) fun u62 _ => ?_
            refine .conseq .k0 (q := lst 5 1 u62 ((s50.2 ++ ([B8i ((rshU a0.a1 s50.1).toNat : Int)] : List UInt8)).map (fun x => [B8 x]))) (fun _ hh => by simpa [List.map_append] using hh) ?_
            refine .onel .k0 fun ho64 => ?_
            refine .dgo rfl (.n rfl) (G.str .t0 .g2 .k2 (.mk1 (cs' := [u62]) sizeOf131 rfl ho64 rfl rfl)) (.inl rfl) fun _ _ => ?_
            refine .dnil ?_
            exact .dst ⟨u61, u62⟩ trivial (.cons Mm.m0 (.cons Mm.m1 (.cons Mm.m2 .nil))) (Ls.of (.cons .k0 (.cons .k0 (.cons .k0 (.cons .k0 (.cons .k0 (.cons .k0 (.cons .k0 .nil)))))))) .nil
        · obtain ⟨u61, u62⟩ := x_
          refine .inn ?_
          refine .then ?_
          refine .reg rfl ?_
          refine .opp (P.mov .g0) rfl ?_
          refine .opp (P.bin .t0 .k .sub) rfl ?_
          refine .drop .k1 ?_
          refine .opp (P.asg .t0) rfl ?_
          refine .nil ?_
          cases hc54
          obtain ⟨m65, hm66, hn55⟩ := hn55
          exact .rdW ((IntKind.i64.wrap (s50.1 - 8), (s50.2 ++ ([B8i ((rshU a0.a1 s50.1).toNat : Int)] : List UInt8)))) u62 hm66 hn55 (.cons Mm.m0 (.cons Mm.m1 (.cons Mm.m2 .nil))) (.of (.cons .k0 (.cons .k2 (.cons .k2 (.cons .k0 (.cons .k1 (.cons .k1 .nil))))))) .nil
      · rw [if_neg (ne_true_of_eq_false c59)] at hc54
        refine .exit ?_
        refine .thx ?_
        cases hc54
        refine .told (γ := Value) h hn55 (fun (s50 : Int × (List UInt8)) z51 => [(6, N s50.1), (5, U a0.a1), (3, pt b2 0)]) (fun (s50 : Int × (List UInt8)) z51 => [blk b2 131 [z51], blk b3 184 [(.slice (some ⟨b1, 0, none⟩) 4 4)], blk b1 30 (api_Wide.cs a0), lst 5 1 z51 (s50.2.map (fun x => [B8 x])), obj l7 (O5 .busy none), obj D6 (.deferred (some []))]) (fun (s50 : Int × (List UInt8)) z51 => []) z51 (.cons Mm.m0 (.cons Mm.m1 (.cons Mm.m2 .nil))) (.of (.cons .k0 (.cons .k0 (.cons .k0 (.cons .k0 (.cons .k0 (.cons .k0 .nil))))))) .nil (fun s50 z51 h' => ?_)
        replace h := h'
        refine .thx ?_
        refine .inb ?_
        refine .inn ?_
        refine .rnorm rfl ⟨rfl, rfl, rfl⟩ ha49 hO9 .k4 rfl ?_
        refine .inL rfl ?_
        refine .opp (P.not .t0) rfl ?_
        refine .nil ?_
        refine .then ?_
        refine .condF .t0 ?_
        refine .skip ?_
        refine .inn ?_
        refine .then ?_
        refine .reg rfl ?_
        refine .opp (P.mov .g0) rfl ?_
        refine .opp (P.bin (v := N 0) .t0 .k (.subc (by decide))) rfl ?_
        refine .drop .k1 ?_
        refine .opp (P.asg .t0) rfl ?_
        refine .nil ?_
        refine .then ?_
        refine .rd ?_
        refine .seq ?_
        refine .seq ?_
        refine .reg rfl ?_
        refine .opp (P.mov .g0) rfl ?_
        refine .opp (P.bin (v := Bo true) .t0 .k (BinV.geq.boolc (by decide))) rfl ?_
        refine .nil ?_
        refine .then ?_
        refine .condT .t0 ?_
        refine .skip ?_
        refine .then ?_
        refine .seq ?_
        refine .block ?_
        refine .seq ?_
        refine .regY 6 rfl ?_
        refine .opp (P.mov .g1) rfl ?_
        refine .opp (P.mov .g1) rfl ?_
        refine .op (V.ld (v := (.slice (some ⟨b1, 0, none⟩) 4 4)) .g4 .k2 (.one isAgg184 rfl)) rfl ?_
        refine .opp (P.mov .g3) rfl ?_
        refine .opp (P.ixa (i := 0) .t0 rfl .t0 runUnderlying184 sizeOf28 (by decide) rfl) rfl ?_
        refine .op (V.ld (v := U a0.a0) .t0 .k3 (.one isAgg28 rfl)) rfl ?_
        refine .nil ?_
        refine .then ?_
        refine .yield (ps := [9, 10]) .t2 (.cons .t1 (.cons .t0 .nil)) hO9 .k0 rfl rfl (by decide) fun a67 ha68 => ?_
        refine .reg rfl ?_
        refine .opp (P.asg .t1) rfl ?_
        refine .nil ?_
        refine .then ?_
        refine .bg rfl hO9 .k0 ?_
        refine .block ?_
        refine .seq ?_
        refine .reg rfl ?_
        refine .opp (P.asg .k) rfl ?_
        refine .nil ?_
        refine .then ?_
        refine .block ?_
        obtain ⟨o71, ho72, h⟩ := bnd_eq h
        refine .loopW (γ := Value) (fun (s69 : Int × (List UInt8)) z70 => [(6, N s69.1), (5, U a0.a0), (3, pt b2 0)]) (fun (s69 : Int × (List UInt8)) z70 => [blk b2 131 [z70], blk b3 184 [(.slice (some ⟨b1, 0, none⟩) 4 4)], blk b1 30 (api_Wide.cs a0), lst 5 1 z70 (s69.2.map (fun x => [B8 x])), obj l7 (O5 .busy none), obj D6 (.deferred (some []))]) (fun (s69 : Int × (List UInt8)) z70 => []) z51 ho72 (.cons Mm.m0 (.cons Mm.m1 (.cons Mm.m3 .nil))) (.of (.cons .k1 (.cons .k1 (.cons .k1 (.cons .k1 (.cons .k0 (.cons .k0 .nil))))))) .nil (fun n77 s69 z70 hr75 => ?_)
        obtain ⟨ct76, hc73, hn74⟩ := loopK_at hr75
        refine .seq ?_
        refine .seq ?_
        refine .reg rfl ?_
        refine .opp (P.mov .g0) rfl ?_
        refine .opp (P.bin .t0 .k .geq) rfl ?_
        refine .nil ?_
        refine .then ?_
        refine .cond .t0 (fun c78 => ?_) (fun c78 => ?_)
        · rw [if_pos c78] at hc73
          refine .skip ?_
          refine .then ?_
          refine .seq ?_
          refine .block ?_
          obtain ⟨hb79, hc73⟩ := grd_eq hc73
          obtain ⟨hb82, hc73⟩ := grd_eq hc73
          refine .dcut (γ := Value × Value) (φ := fun _ => True) (E1 := fun x_ => [(6, N s69.1), (5, U a0.a0), (3, pt b2 0)]) (L1 := fun x_ => [blk b2 131 [x_.2], lst 5 1 x_.2 ((s69.2 ++ ([B8i ((rshU a0.a0 s69.1).toNat : Int)] : List UInt8)).map (fun x => [B8 x])), lst 5 1 x_.1 [[B8 (B8i ((rshU a0.a0 s69.1).toNat : Int))]], blk b3 184 [(.slice (some ⟨b1, 0, none⟩) 4 4)], blk b1 30 (api_Wide.cs a0), obj l7 (O5 .busy none), obj D6 (.deferred (some []))]) (R1 := fun x_ => []) ?_ (fun x_ _ => ?_)
          · refine .draw 5 (.on 1 .pu (.on 2 .pu (.on 3 .pu (.on 4 .pu (.fk 0 5 (.on 5 .go (.on 6 .go (.on 7 .go .nl))) (.on 0 .go (.on 6 .go (.on 7 .go .nl)))))))) follows_mixed (.thn (.inb (.thn (.thn (.inb (.inb .rnd)))))) (by kernel_rfl) ?_
            refine .dpu rfl (.n rfl) (P.mov .g1) rfl rfl ?_
            refine .dpu rfl (.n rfl) (P.mov .g1) rfl rfl ?_
            refine .dpu rfl (.n rfl) (P.bin .t1 .t0 (BinV.shrU (x := a0.a0) (n := s69.1) hb79)) rfl rfl ?_
            refine .dpu rfl (.n rfl) (P.cnvB8 (m := ((rshU a0.a0 s69.1).toNat : Int)) .t0 runUnderlying28 runUnderlying5) rfl rfl ?_
            refine .dfk ?_ ?_
            · refine .dgo rfl (.n rfl) (OpV.g (V.ld (v := z70) .g3 .k0 (.one isAgg131 rfl)) rfl) (.inr fun _ _ _ h => h) fun _ _ => ?_
              refine .dgo rfl (.n rfl) (G.bsl (cs := [B8 (B8i ((rshU a0.a0 s69.1).toNat : Int))]) .t1 runUnderlying131 sizeOf5 zeroValue5 rfl rfl rfl rfl rfl) (.inl rfl) fun u80 _ => ?_
              refine .dgo rfl (.n rfl) (G.app (by_ := 1) .t1 .t0 .k4 (.inr (.inr ⟨_, Mm.m0⟩)) runUnderlying131 runUnderlying131 sizeOf5 typeInfo5 rfl rfl zeroValue5 rfl rfl (by simpa using hb82) rfl) (.inl rfl) fun u81 _ => ?_
              refine .conseq .k0 (q := lst 5 1 u81 ((s69.2 ++ ([B8i ((rshU a0.a0 s69.1).toNat : Int)] : List UInt8)).map (fun x => [B8 x]))) (fun _ hh => by simpa [List.map_append] using hh) ?_
              refine .onel .k0 fun ho83 => ?_
              refine .dgo rfl (.n rfl) (G.str .t0 .g2 .k2 (.mk1 (cs' := [u81]) sizeOf131 rfl ho83 rfl rfl)) (.inl rfl) fun _ _ => ?_
              refine .dnil ?_
              exact .dst ⟨u80, u81⟩ trivial (.cons Mm.m0 (.cons Mm.m1 (.cons Mm.m2 .nil))) (Ls.of (.cons .k0 (.cons .k0 (.cons .k0 (.cons .k0 (.cons .k0 (.cons .k0 (.cons .k0 .nil)))))))) .nil
            · refine .dgo rfl (.n rfl) (G.bsl (cs := [B8 (B8i ((rshU a0.a0 s69.1).toNat : Int))]) .t0 runUnderlying131 sizeOf5 zeroValue5 rfl rfl rfl rfl rfl) (.inl rfl) fun u80 _ => ?_
              refine .dgo rfl (.n rfl) (OpV.g (V.ld (v := z70) .g3 .k1 (.one isAgg131 rfl)) rfl) (.inl rfl) fun _ _ => ?_
              refine .dgo rfl (.n rfl) (G.app (by_ := 1) .t0 .t0 .k4 (.inr (.inr ⟨_, Mm.m0⟩)) runUnderlying131 runUnderlying131 sizeOf5 typeInfo5 rfl rfl zeroValue5 rfl rfl (by simpa using hb82) rfl) (.inl rfl) fun u81 _ => ?_
              refine .conseq .k0 (q := lst 5 1 u81 ((s69.2 ++ ([B8i ((rshU a0.a0 s69.1).toNat : Int)] : List UInt8)).map (fun x => [B8 x]))) (fun _ hh => by simpa [List.map_append] using hh) ?_
              refine .onel .k0 fun ho83 => ?_
              refine .dgo rfl (.n rfl) (G.str .t0 .g2 .k2 (.mk1 (cs' := [u81]) sizeOf131 rfl ho83 rfl rfl)) (.inl rfl) fun _ _ => ?_
              refine .dnil ?_
              exact .dst ⟨u80, u81⟩ trivial (.cons Mm.m0 (.cons Mm.m1 (.cons Mm.m2 .nil))) (Ls.of (.cons .k0 (.cons .k0 (.cons .k0 (.cons .k0 (.cons .k0 (.cons .k0 (.cons .k0 .nil)))))))) .nil
          · obtain ⟨u80, u81⟩ := x_
            refine .inn ?_
            refine .then ?_
            refine .reg rfl ?_
            refine .opp (P.mov .g0) rfl ?_
            refine .opp (P.bin .t0 .k .sub) rfl ?_
            refine .drop .k1 ?_
            refine .opp (P.asg .t0) rfl ?_
            refine .nil ?_
            cases hc73
            obtain ⟨m84, hm85, hn74⟩ := hn74
            exact .rdW ((IntKind.i64.wrap (s69.1 - 8), (s69.2 ++ ([B8i ((rshU a0.a0 s69.1).toNat : Int)] : List UInt8)))) u81 hm85 hn74 (.cons Mm.m0 (.cons Mm.m1 (.cons Mm.m2 .nil))) (.of (.cons .k0 (.cons .k2 (.cons .k2 (.cons .k0 (.cons .k1 (.cons .k1 .nil))))))) .nil
        · rw [if_neg (ne_true_of_eq_false c78)] at hc73
          refine .exit ?_
          refine .thx ?_
          cases hc73
          refine .told (γ := Value) h hn74 (fun (s69 : Int × (List UInt8)) z70 => [(6, N s69.1), (5, U a0.a0), (3, pt b2 0)]) (fun (s69 : Int × (List UInt8)) z70 => [blk b2 131 [z70], blk b3 184 [(.slice (some ⟨b1, 0, none⟩) 4 4)], blk b1 30 (api_Wide.cs a0), lst 5 1 z70 (s69.2.map (fun x => [B8 x])), obj l7 (O5 .busy none), obj D6 (.deferred (some []))]) (fun (s69 : Int × (List UInt8)) z70 => []) z70 (.cons Mm.m0 (.cons Mm.m1 (.cons Mm.m2 .nil))) (.of (.cons .k0 (.cons .k0 (.cons .k0 (.cons .k0 (.cons .k0 (.cons .k0 .nil))))))) .nil (fun s69 z70 h' => ?_)
          replace h := h'
          refine .thx ?_
          refine .inb ?_
          refine .inn ?_
          refine .rnorm rfl ⟨rfl, rfl, rfl⟩ ha68 hO9 .k4 rfl ?_
          refine .inL rfl ?_
          refine .opp (P.not .t0) rfl ?_
          refine .nil ?_
          refine .then ?_
          refine .condF .t0 ?_
          refine .skip ?_
          refine .inn ?_
          refine .then ?_
          refine .reg rfl ?_
          refine .opp (P.mov .g0) rfl ?_
          refine .opp (P.bin (v := N (-1)) .t0 .k (.subc (by decide))) rfl ?_
          refine .drop .k1 ?_
          refine .opp (P.asg .t0) rfl ?_
          refine .nil ?_
          refine .then ?_
          refine .rd ?_
          refine .seq ?_
          refine .seq ?_
          refine .reg rfl ?_
          refine .opp (P.mov .g0) rfl ?_
          refine .opp (P.bin (v := Bo false) .t0 .k (BinV.geq.boolc (by decide))) rfl ?_
          refine .nil ?_
          refine .then ?_
          refine .condF .t0 ?_
          refine .exit ?_
          refine .thx ?_
          refine .thx ?_
          refine .inb ?_
          refine .rfinn ha8 hO9 .k0 rfl ?_
          refine .inn ?_
          refine .then ?_
          refine .seq ?_
          refine .reg rfl ?_
          refine .op (V.ld (v := z70) .t0 .k0 (.one isAgg131 rfl)) rfl ?_
          refine .opp (P.asg .t0) rfl ?_
          refine .nil ?_
          refine .then ?_
          refine .ret ?_
          cases h
          exact .finm z70 .k4 (.r1 rfl (.tmp .g0)) trivial (Ls.of (.cons .k3 .nil)) .nil
attribute [irreducible] blob_Wide
noncomputable def field_Out_Wide (a0 : field_Out) (a1 : api_Wide) : Option (field_Out) :=
  Option.bind (blob_Wide a1) fun r2 => Option.bind (field_Out_put a0 r2 0) fun r5 => some r5
set_option maxRecDepth 20000 in
set_option maxHeartbeats 1000000 in
theorem S_field_Out_Wide (b00 : Nat) (a0 : field_Out) (z00a : Value) (a1 : api_Wide) (r : field_Out) (h : field_Out_Wide a0 a1 = some r) :
    SpecF Tryz.prog 95 [pt b00 0, Ag (api_Wide.cs a1)] [blk b00 143 (field_Out.cs a0 z00a), lst 5 1 z00a (a0.b.map (fun x => [B8 x]))] [] (fun z : Value => True) (fun z => Tu []) (fun z M => blk b00 143 (field_Out.cs r z) :: lst 5 1 z (r.b.map (fun x => [B8 x])) ::  M) (fun z M =>  M) := by
  refine .of func95 rfl ntmps95 rfl fun w0 D0 G0 => ?_
  unfold field_Out_Wide at h
  refine .seq ?_
  refine .reg rfl ?_
  refine .opx (X.box (cs := (api_Wide.cs a1)) .t1 rfl) rfl fun b1 => ?_
  refine .nil ?_
  refine .then ?_
  refine .reg rfl ?_
  refine .opp (P.mov .t1) rfl ?_
  refine .op (V.ld (v := Ag (api_Wide.cs a1)) .t1 .k0 (.agg isAgg30 sizeOf30 rfl rfl)) rfl ?_
  obtain ⟨r2, hr3, h⟩ := bnd_eq h
  refine .opg (G.call call108 (.cons .t0 .nil) (S_blob_Wide a1 r2 hr3) .nil .nil (fun _ _ => rfl) (fun _ _ => rfl) rfl) rfl fun u4 _ => ?_
  refine .frz .k0 ?_
  obtain ⟨r5, hr6, h⟩ := bnd_eq h
  refine .opg (G.call call93 (.cons .t1 (.cons .t0 (.cons .k .nil))) (S_field_Out_put b00 a0 z00a u4 r2 0 r5 hr6) (.cons .k1 (.cons .k1 .nil)) (.cons Mm.m0 .nil) (fun _ _ => rfl) (fun _ _ => rfl) rfl) rfl fun u7 _ => ?_
  refine .drop .k0 ?_
  refine .nil ?_
  cases h
  exact .finwn u7 (.r0 rfl) trivial (Ls.of (.cons .k0 (.cons .k0 .nil))) .nil
attribute [irreducible] field_Out_Wide
noncomputable def deal_PutVar (a0 : field_Out) (a1 : api_Var) : Option (field_Out) :=
  Option.bind (field_Out_Wide a0 a1.Amount) fun r2 => Option.bind (field_Out_Num r2 a1.Expiry) fun r5 => some r5
set_option maxRecDepth 20000 in
set_option maxHeartbeats 1000000 in
theorem S_deal_PutVar (b00 : Nat) (a0 : field_Out) (z00a : Value) (a1 : api_Var) (r : field_Out) (h : deal_PutVar a0 a1 = some r) :
    SpecF Tryz.prog 87 [pt b00 0, Ag (api_Var.cs a1)] [blk b00 143 (field_Out.cs a0 z00a), lst 5 1 z00a (a0.b.map (fun x => [B8 x]))] [] (fun z : Value => True) (fun z => Tu []) (fun z M => blk b00 143 (field_Out.cs r z) :: lst 5 1 z (r.b.map (fun x => [B8 x])) ::  M) (fun z M =>  M) := by
  refine .of func87 rfl ntmps87 rfl fun w0 D0 G0 => ?_
  unfold deal_PutVar at h
  refine .seq ?_
  refine .reg rfl ?_
  refine .opx (X.box (cs := (api_Var.cs a1)) .t1 rfl) rfl fun b1 => ?_
  refine .nil ?_
  refine .then ?_
  refine .seq ?_
  refine .reg rfl ?_
  refine .opp (P.mov .g1) rfl ?_
  refine .opp (P.fa .g1 fa_34_0 rfl) rfl ?_
  refine .op (V.ld (v := Ag (api_Wide.cs a1.Amount)) .t0 .k0 (.agg isAgg30 sizeOf30 rfl rfl)) rfl ?_
  obtain ⟨r2, hr3, h⟩ := bnd_eq h
  refine .opg (G.call call95 (.cons .t1 (.cons .t0 .nil)) (S_field_Out_Wide b00 a0 z00a a1.Amount r2 hr3) (.cons .k1 (.cons .k1 .nil)) .nil (fun _ _ => rfl) (fun _ _ => rfl) rfl) rfl fun u4 _ => ?_
  refine .drop .k0 ?_
  refine .nil ?_
  refine .then ?_
  refine .reg rfl ?_
  refine .opp (P.mov .t1) rfl ?_
  refine .opp (P.fa .t1 fa_34_1 rfl) rfl ?_
  refine .op (V.ld (v := N a1.Expiry) .t0 .k2 (.one isAgg3 rfl)) rfl ?_
  obtain ⟨r5, hr6, h⟩ := bnd_eq h
  refine .opg (G.call call90 (.cons .t1 (.cons .t0 .nil)) (S_field_Out_Num b00 r2 u4 a1.Expiry r5 hr6) (.cons .k0 (.cons .k0 .nil)) .nil (fun _ _ => rfl) (fun _ _ => rfl) rfl) rfl fun u7 _ => ?_
  refine .drop .k0 ?_
  refine .nil ?_
  cases h
  exact .finwn u7 (.r0 rfl) trivial (Ls.of (.cons .k0 (.cons .k0 .nil))) .nil
attribute [irreducible] deal_PutVar
noncomputable def deal_Digest (a0 : api_Inv) (a1 : api_Var) : Option (ByteArray) :=
  Option.bind (deal_Key a0) fun r3 => thn (if (decide (r3 = ⟨#[]⟩)) = true then true else (decide ((deal_Sound a1) ≠ 0))) fun (y5 : Bool) => if y5 = true then (some ⟨#[]⟩) else (Option.bind (field_Out_Text field_New r3) fun r12 => Option.bind (deal_PutVar r12 a1) fun r15 => Option.bind (field_Out_Done r15) fun r18 => Option.bind (hash_Text_n1 r18.1) fun r23 => some r23)
set_option maxRecDepth 20000 in
set_option maxHeartbeats 1000000 in
theorem S_deal_Digest (a0 : api_Inv) (a1 : api_Var) (r : ByteArray) (h : deal_Digest a0 a1 = some r) :
    SpecF Tryz.prog 77 [Ag (api_Inv.cs a0), Ag (api_Var.cs a1)] [] [] (fun z : Unit => True) (fun z => .string r) (fun z M =>  M) (fun z M =>  M) := by
  refine .of func77 rfl ntmps77 rfl fun w0 D0 G0 => ?_
  unfold deal_Digest at h
  refine .seq ?_
  refine .reg rfl ?_
  refine .opx (X.box (cs := (api_Inv.cs a0)) .t0 rfl) rfl fun b1 => ?_
  refine .opx (X.box (cs := (api_Var.cs a1)) .t1 rfl) rfl fun b2 => ?_
  refine .op0 (OpP.toV (P.asg .k)) rfl ?_
  refine .nil ?_
  refine .then ?_
  refine .seq ?_
  refine .reg rfl ?_
  refine .op (V.ld (v := Ag (api_Inv.cs a0)) .t1 .k1 (.agg isAgg32 sizeOf32 rfl rfl)) rfl ?_
  obtain ⟨r3, hr4, h⟩ := bnd_eq h
  refine .opg (G.call call75 (.cons .t0 .nil) (S_deal_Key a0 r3 hr4) .nil .nil (fun _ _ => rfl) (fun _ _ => rfl) rfl) rfl fun _ _ => ?_
  refine .opp (P.asg .t0) rfl ?_
  refine .nil ?_
  refine .then ?_
  refine .seq ?_
  obtain ⟨y5, hj7, h⟩ := thn_eq h
  refine .cutx (γ := Unit) (E1 := fun z6 => [(17, Bo y5), (5, .string r3), (3, pt b2 0)]) (L1 := fun z6 => [blk b2 34 (api_Var.cs a1)]) (R1 := fun z6 => []) ?_ (fun z6 => ?_)
  · clear h
    refine .reg rfl ?_
    refine .opp (P.mov .g0) rfl ?_
    refine .opp (P.bin .t0 .k .str_eql) rfl ?_
    refine .opp (P.mov .t0) rfl ?_
    refine .split .k0 (fun c8 => ?_) (fun c8 => ?_)
    · rw [if_pos c8] at hj7
      refine .gno rfl .g0 rfl rfl ?_
      refine .gno rfl .g0 rfl rfl ?_
      refine .gno rfl .g0 rfl rfl ?_
      refine .opp (P.pickT .t0 .k) rfl ?_
      refine .nil ?_
      subst hj7
      exact .stj () (.cons Mm.m0 (.cons Mm.m1 (.cons Mm.m2 .nil))) (.of (.cons .k0 .nil)) .nil
    · rw [if_neg (ne_true_of_eq_false c8)] at hj7
      refine .gyes rfl .g0 ?_
      refine .op (V.ld (v := Ag (api_Var.cs a1)) .g2 .k0 (.agg isAgg34 sizeOf34 rfl rfl)) rfl ?_
      refine .gyes rfl .g1 ?_
      refine .opg (G.call call44 (.cons .t0 .nil) (S_deal_Sound a1 _ rfl) .nil .nil (fun _ _ => rfl) (fun _ _ => rfl) rfl) rfl fun _ _ => ?_
      refine .gyes rfl .g1 ?_
      refine .opp (P.bin .t0 .k .neq) rfl ?_
      refine .opp (P.pickF .t1 .t0) rfl ?_
      refine .nil ?_
      subst hj7
      exact .stj () (.cons Mm.m0 (.cons Mm.m1 (.cons Mm.m2 .nil))) (.of (.cons .k0 .nil)) .nil
  · clear hj7
    refine .cond .t0 (fun c9 => ?_) (fun c9 => ?_)
    · rw [if_pos c9] at h
      refine .seq ?_
      refine .reg rfl ?_
      refine .opp (P.asg .k) rfl ?_
      refine .nil ?_
      refine .then ?_
      refine .ret ?_
      refine .thr ?_
      cases h
      exact .finw () (.r1 rfl (.tmp .g0)) trivial (Ls.of .nil) .nil
    · rw [if_neg (ne_true_of_eq_false c9)] at h
      refine .skip ?_
      refine .then ?_
      refine .seq ?_
      refine .reg rfl ?_
      refine .opg (G.call call80 .nil (S_field_New  _ rfl) .nil .nil (fun _ _ => rfl) (fun _ _ => rfl) rfl) rfl fun ⟨b10, u11⟩ _ => ?_
      refine .opp (P.asg .t0) rfl ?_
      refine .nil ?_
      refine .then ?_
      refine .seq ?_
      refine .reg rfl ?_
      refine .opp (P.mov .g0) rfl ?_
      refine .opp (P.mov .t2) rfl ?_
      obtain ⟨r12, hr13, h⟩ := bnd_eq h
      refine .opg (G.call call86 (.cons .t1 (.cons .t0 .nil)) (S_field_Out_Text b10 field_New u11 r3 r12 hr13) (.cons .k0 (.cons .k0 .nil)) .nil (fun _ _ => rfl) (fun _ _ => rfl) rfl) rfl fun u14 _ => ?_
      refine .drop .k0 ?_
      refine .nil ?_
      refine .then ?_
      refine .seq ?_
      refine .reg rfl ?_
      refine .opp (P.mov .g0) rfl ?_
      refine .op (V.ld (v := Ag (api_Var.cs a1)) .t2 .k2 (.agg isAgg34 sizeOf34 rfl rfl)) rfl ?_
      obtain ⟨r15, hr16, h⟩ := bnd_eq h
      refine .opg (G.call call87 (.cons .t1 (.cons .t0 .nil)) (S_deal_PutVar b10 r12 u14 a1 r15 hr16) (.cons .k0 (.cons .k0 .nil)) .nil (fun _ _ => rfl) (fun _ _ => rfl) rfl) rfl fun u17 _ => ?_
      refine .drop .k0 ?_
      refine .nil ?_
      refine .then ?_
      refine .seq ?_
      refine .reg rfl ?_
      refine .opp (P.mov .t0) rfl ?_
      obtain ⟨r18, hr19, h⟩ := bnd_eq h
      refine .opg (G.call call82 (.cons .t0 .nil) (S_field_Out_Done b10 r15 u17 r18 hr19) (.cons .k0 (.cons .k0 .nil)) .nil (fun _ _ => rfl) (fun _ _ => rfl) rfl) rfl fun u20 _ => ?_
      refine .opp (P.mov .t0) rfl ?_
      refine .opp (P.ext (v := u20) .g0 rfl) rfl ?_
      refine .opp (P.ext (v := N r18.2) .t1 rfl) rfl ?_
      refine .opp (P.asg .t1) rfl ?_
      refine .op0 (OpP.toV (P.asg .t1)) rfl ?_
      refine .nil ?_
      refine .then ?_
      refine .seq ?_
      refine .reg rfl ?_
      refine .opp (P.mov .t0) rfl ?_
      refine .onel .k2 fun ho22 => ?_
      refine .opg (G.bsl (cs := [u20]) .t0 runUnderlying146 sizeOf131 zeroValue131 (cells1 ho22) rfl rfl rfl rfl) rfl fun u21 _ => ?_
      refine .frz .k0 ?_
      refine .frz .k2 ?_
      obtain ⟨r23, hr24, h⟩ := bnd_eq h
      refine .opg (G.call call83 (.cons .t0 .nil) (S_hash_Text_n1 u21 u20 r18.1 r23 hr24) .nil (.cons Mm.m1 (.cons Mm.m0 .nil)) (fun _ _ => rfl) (fun _ _ => rfl) rfl) rfl fun _ _ => ?_
      refine .opp (P.asg .t0) rfl ?_
      refine .nil ?_
      refine .then ?_
      refine .ret ?_
      cases h
      exact .finw () (.r1 rfl (.tmp .g0)) trivial (Ls.of .nil) .nil
attribute [irreducible] deal_Digest
noncomputable def escrow_State_prepare (a0 : escrow_State) (a1 : api_Tx) : Option (Px (escrow_State)) :=
  Option.bind (deal_Key a1.Inv) fun r2 => Option.bind (escrow_State_place a0 r2) fun r4 => pxe (escrow_need (decide (r4 < 0)) 32) (fun e8 => some (.er e8)) fun r6 => Option.bind (if (decide (a1.Var.Expiry > a0.Time)) = true then (pxe (escrow_need (decide ((IntKind.i64.wrap (a1.Var.Expiry - a0.Time)) ≤ 1024)) 34) (fun e15 => Option.map Lo.rt (some (.er e15))) fun r13 => some (Lo.dn ())) else (pxe (escrow_need false 34) (fun e20 => Option.map Lo.rt (some (.er e20))) fun r18 => some (Lo.dn ()))) fun o59 => Lo.on o59 fun (_ : Unit) => Option.bind (if (decide (a0.Side = 1)) = true then (pxe (escrow_need (decide (a1.From = a1.Inv.Router)) 37) (fun e29 => Option.map Lo.rt (some (.er e29))) fun r27 => pxe (escrow_State_vault a0 a1.From a1.Inv.Recv a1.Var.Amount) (fun e34 => Option.map Lo.rt (some (.er e34))) fun r32 => some (Lo.dn r32)) else (pxe (escrow_need (decide (a1.From = a1.Inv.User)) 37) (fun e39 => Option.map Lo.rt (some (.er e39))) fun r37 => pxe (escrow_take_int a0.Purse a1.From a1.Inv.Send a1.Var.Amount) (fun e44 => Option.map Lo.rt (some (.er e44))) fun r42 => pxe (escrow_State_hold (⟨a0.Side, a0.Time, r42, a0.Vault, a0.Nonces, a0.Held, a0.Burnt, a0.Locks⟩ : escrow_State) a1.Inv.Send a1.Var.Amount) (fun e49 => Option.map Lo.rt (some (.er e49))) fun r47 => some (Lo.dn r47))) fun o58 => Lo.on o58 fun (y23 : escrow_State) => Option.bind (deal_Digest a1.Inv a1.Var) fun r52 => grd ((y23.Locks.length + ([⟨r2, r52, 1⟩] : List escrow_Lock).length) * 40 ≤ 140737488355328) <| some ((.ok ((⟨y23.Side, y23.Time, y23.Purse, y23.Vault, y23.Nonces, y23.Held, y23.Burnt, (y23.Locks ++ ([⟨r2, r52, 1⟩] : List escrow_Lock))⟩ : escrow_State))))
set_option maxRecDepth 20000 in
set_option maxHeartbeats 1000000 in
theorem S_escrow_State_prepare (b00 : Nat) (a0 : escrow_State) (z00a : Value) (a1 : api_Tx) (r : Px (escrow_State)) (h : escrow_State_prepare a0 a1 = some r) :
    SpecX Tryz.prog 65 [pt b00 0, Ag (api_Tx.cs a1)] [blk b00 45 (escrow_State.cs a0 z00a), lst 76 3 z00a (a0.Locks.map escrow_Lock.cs)] [] (fun (r : escrow_State) (z : Value) => True) mustCh r (fun r z => Tu []) (fun r z M => blk b00 45 (escrow_State.cs r z) :: lst 76 3 z (r.Locks.map escrow_Lock.cs) ::  M) (fun r z M =>  M) := by
  refine .of func65 rfl ntmps65 rfl fun w0 D0 G0 => ?_
  unfold escrow_State_prepare at h
  refine .seq ?_
  refine .reg rfl ?_
  refine .opx (X.box (cs := (api_Tx.cs a1)) .t1 rfl) rfl fun b1 => ?_
  refine .nil ?_
  refine .then ?_
  refine .seq ?_
  refine .reg rfl ?_
  refine .opp (P.fa .g0 fa_36_5 rfl) rfl ?_
  refine .op (V.ld (v := Ag (api_Inv.cs a1.Inv)) .t0 .k0 (.agg isAgg32 sizeOf32 rfl rfl)) rfl ?_
  obtain ⟨r2, hr3, h⟩ := bnd_eq h
  refine .opg (G.call call75 (.cons .t0 .nil) (S_deal_Key a1.Inv r2 hr3) .nil .nil (fun _ _ => rfl) (fun _ _ => rfl) rfl) rfl fun _ _ => ?_
  refine .opp (P.asg .t0) rfl ?_
  refine .nil ?_
  refine .then ?_
  refine .seq ?_
  refine .reg rfl ?_
  refine .opp (P.mov .g2) rfl ?_
  refine .opp (P.mov .g1) rfl ?_
  obtain ⟨r4, hr5, h⟩ := bnd_eq h
  refine .opg (G.call call76 (.cons .t1 (.cons .t0 .nil)) (S_escrow_State_place b00 a0 z00a r2 r4 hr5) (.cons .k1 (.cons .k1 .nil)) .nil (fun _ _ => rfl) (fun _ _ => rfl) rfl) rfl fun _ _ => ?_
  refine .opp (P.bin .t0 .k .lss) rfl ?_
  rcases pxe_eq h with ⟨e8, hr7, h⟩ | ⟨r6, hr7, h⟩
  · refine .opg (G.callx call72 (.cons .t0 (.cons .k .nil)) (S_escrow_need (decide (r4 < 0)) 32 (.er e8) hr7).er .nil .nil ?_) rfl fun _ h_ => h_.elim
    refine .thp ?_
    cases h
    exact .xer rfl
  · refine .opg (G.call call72 (.cons .t0 (.cons .k .nil)) (S_escrow_need (decide (r4 < 0)) 32 (.ok r6) hr7).ok .nil .nil (fun _ _ => rfl) (fun _ _ => rfl) rfl) rfl fun _ _ => ?_
    refine .drop .k0 ?_
    refine .nil ?_
    refine .then ?_
    obtain ⟨o59, hj11, h⟩ := bnd_eq h
    refine .cuto (γ := Unit) h (E1 := fun (_ : Unit) _ => [(4, .string r2), (3, pt b1 0), (0, pt b00 0)]) (L1 := fun (_ : Unit) _ => [blk b1 36 (api_Tx.cs a1), blk b00 45 (escrow_State.cs a0 z00a), lst 76 3 z00a (a0.Locks.map escrow_Lock.cs)]) (R1 := fun (_ : Unit) _ => []) ?_ (fun _ _ h' => ?_)
    · refine .draw 20 (.on 0 .pu (.on 1 .pu (.on 3 .pu (.on 4 .pu (.on 5 .pu (.on 2 .ld (.on 6 .ld (.on 7 .pu (.on 8 .pu (.on 9 .pu (.on 10 .pu (.on 12 .pu (.on 13 .pu (.on 14 .pu (.on 11 .ld (.on 15 .ld (.on 16 .pu (.on 17 .pu (.on 18 .pu (.on 19 .go .nl)))))))))))))))))))) follows_mixed (.thn .bodx) (by kernel_rfl) ?_
      refine .dpu rfl (.n rfl) (P.fa .g1 fa_36_6 rfl) rfl rfl ?_
      refine .dpu rfl (.n rfl) (P.fa .t0 fa_34_1 rfl) rfl rfl ?_
      refine .dpu rfl (.n rfl) (P.mov .g3) rfl rfl ?_
      refine .dpu rfl (.n rfl) (P.nilc .t0) rfl rfl ?_
      refine .dpu rfl (.n rfl) (P.fa .t0 fa_45_1 rfl) rfl rfl ?_
      refine .dld rfl (.n rfl) (V.ld (v := N a1.Var.Expiry) .t1 .k2 (.one isAgg3 rfl)) (fun _ h => h) rfl rfl ?_
      refine .dld rfl (.n rfl) (V.ld (v := N a0.Time) .t1 .k0 (.one isAgg3 rfl)) (fun _ h => h) rfl rfl ?_
      refine .dpu rfl (.n rfl) (P.bin .t1 .t0 .gtr) rfl rfl ?_
      refine .dpu rfl (.n rfl) (P.mov .t0) rfl rfl ?_
      refine .split .k0 (fun c12 => ?_) (fun c12 => ?_)
      · rw [if_pos c12] at hj11
        refine .dpu rfl (.g rfl rfl .g0 rfl) (P.fa .g2 fa_36_6 rfl) rfl rfl ?_
        refine .dpu rfl (.g rfl rfl .g1 rfl) (P.fa .t0 fa_34_1 rfl) rfl rfl ?_
        refine .dpu rfl (.g rfl rfl .g1 rfl) (P.mov .g4) rfl rfl ?_
        refine .dpu rfl (.g rfl rfl .g2 rfl) (P.nilc .t0) rfl rfl ?_
        refine .dpu rfl (.g rfl rfl .g2 rfl) (P.fa .t0 fa_45_1 rfl) rfl rfl ?_
        refine .dld rfl (.g rfl rfl .g2 rfl) (V.ld (v := N a1.Var.Expiry) .t1 .k2 (.one isAgg3 rfl)) (fun _ h => h) rfl rfl ?_
        refine .dld rfl (.g rfl rfl .g2 rfl) (V.ld (v := N a0.Time) .t1 .k0 (.one isAgg3 rfl)) (fun _ h => h) rfl rfl ?_
        refine .dpu rfl (.g rfl rfl .g2 rfl) (P.bin .t1 .t0 .sub) rfl rfl ?_
        refine .dpu rfl (.g rfl rfl .g1 rfl) (P.bin .t0 .k .leq) rfl rfl ?_
        refine .dpu rfl (.n rfl) (P.pickT .t1 .t0) rfl rfl ?_
        rcases pxe_eq hj11 with ⟨e15, hr14, hj11⟩ | ⟨r13, hr14, hj11⟩
        · refine .dgo rfl (.n rfl) (G.callx call72 (.cons .t0 (.cons .k .nil)) (S_escrow_need (decide ((IntKind.i64.wrap (a1.Var.Expiry - a0.Time)) ≤ 1024)) 34 (.er e15) hr14).er .nil .nil ?_) (.inr fun _ _ h_ _ => h_.elim) fun _ h_ => h_.elim
          obtain ⟨x16, hx17, rfl⟩ := map_lrt hj11
          obtain rfl := rt_on h
          refine .thp ?_
          cases hx17
          exact .xer rfl
        · refine .dgo rfl (.n rfl) (G.call call72 (.cons .t0 (.cons .k .nil)) (S_escrow_need (decide ((IntKind.i64.wrap (a1.Var.Expiry - a0.Time)) ≤ 1024)) 34 (.ok r13) hr14).ok .nil .nil (fun _ _ => rfl) (fun _ _ => rfl) rfl) (.inr fun _ _ _ h => h) fun _ _ => ?_
          refine .drop .k0 ?_
          refine .dnil ?_
          cases hj11
          exact .sty () () (dn_on h) (.cons Mm.m0 (.cons Mm.m1 (.cons Mm.m2 .nil))) (.of (.cons .k2 (.cons .k0 (.cons .k0 .nil)))) .nil
      · rw [if_neg (ne_true_of_eq_false c12)] at hj11
        refine .dsk rfl (.g rfl rfl .g0 rfl) rfl rfl ?_
        refine .dsk rfl (.g rfl rfl .g0 rfl) rfl rfl ?_
        refine .dsk rfl (.g rfl rfl .g0 rfl) rfl rfl ?_
        refine .dsk rfl (.g rfl rfl .g0 rfl) rfl rfl ?_
        refine .dsk rfl (.g rfl rfl .g0 rfl) rfl rfl ?_
        refine .dskl rfl (.g rfl rfl .g0 rfl) (fun _ h => h) rfl rfl ?_
        refine .dskl rfl (.g rfl rfl .g0 rfl) (fun _ h => h) rfl rfl ?_
        refine .dsk rfl (.g rfl rfl .g0 rfl) rfl rfl ?_
        refine .dsk rfl (.g rfl rfl .g0 rfl) rfl rfl ?_
        refine .dpu rfl (.n rfl) (P.pickF .t0 .k) rfl rfl ?_
        rcases pxe_eq hj11 with ⟨e20, hr19, hj11⟩ | ⟨r18, hr19, hj11⟩
        · refine .dgo rfl (.n rfl) (G.callx call72 (.cons .t0 (.cons .k .nil)) (S_escrow_need false 34 (.er e20) hr19).er .nil .nil ?_) (.inr fun _ _ h_ _ => h_.elim) fun _ h_ => h_.elim
          obtain ⟨x21, hx22, rfl⟩ := map_lrt hj11
          obtain rfl := rt_on h
          refine .thp ?_
          cases hx22
          exact .xer rfl
        · refine .dgo rfl (.n rfl) (G.call call72 (.cons .t0 (.cons .k .nil)) (S_escrow_need false 34 (.ok r18) hr19).ok .nil .nil (fun _ _ => rfl) (fun _ _ => rfl) rfl) (.inr fun _ _ _ h => h) fun _ _ => ?_
          refine .drop .k0 ?_
          refine .dnil ?_
          cases hj11
          exact .sty () () (dn_on h) (.cons Mm.m0 (.cons Mm.m1 (.cons Mm.m2 .nil))) (.of (.cons .k2 (.cons .k0 (.cons .k0 .nil)))) .nil
    · replace h := h'
      obtain ⟨o58, hj25, h⟩ := bnd_eq h
      refine .cuto (γ := Unit) h (E1 := fun (y23 : escrow_State) _ => [(4, .string r2), (3, pt b1 0), (0, pt b00 0)]) (L1 := fun (y23 : escrow_State) _ => [blk b1 36 (api_Tx.cs a1), blk b00 45 (escrow_State.cs y23 z00a), lst 76 3 z00a (y23.Locks.map escrow_Lock.cs)]) (R1 := fun (y23 : escrow_State) _ => []) ?_ (fun y23 _ h' => ?_)
      · refine .seq ?_
        refine .reg rfl ?_
        refine .opp (P.mov .g2) rfl ?_
        refine .opp (P.nilc .t0) rfl ?_
        refine .opp (P.fa .t0 fa_45_0 rfl) rfl ?_
        refine .op (V.ld (v := N a0.Side) .t0 .k1 (.one isAgg3 rfl)) rfl ?_
        refine .opp (P.bin .t0 .k .eql) rfl ?_
        refine .nil ?_
        refine .then ?_
        refine .cond .t0 (fun c26 => ?_) (fun c26 => ?_)
        · rw [if_pos c26] at hj25
          refine .seq ?_
          refine .reg rfl ?_
          refine .opp (P.fa .g1 fa_36_0 rfl) rfl ?_
          refine .op (V.ld (v := N a1.From) .t0 .k0 (.one isAgg3 rfl)) rfl ?_
          refine .opp (P.fa .g2 fa_36_5 rfl) rfl ?_
          refine .opp (P.fa .t0 fa_32_2 rfl) rfl ?_
          refine .op (V.ld (v := N a1.Inv.Router) .t0 .k0 (.one isAgg3 rfl)) rfl ?_
          refine .opp (P.bin .t1 .t0 .eql) rfl ?_
          rcases pxe_eq hj25 with ⟨e29, hr28, hj25⟩ | ⟨r27, hr28, hj25⟩
          · refine .opg (G.callx call72 (.cons .t0 (.cons .k .nil)) (S_escrow_need (decide (a1.From = a1.Inv.Router)) 37 (.er e29) hr28).er .nil .nil ?_) rfl fun _ h_ => h_.elim
            refine .thp ?_
            obtain ⟨x30, hx31, rfl⟩ := map_lrt hj25
            obtain rfl := rt_on h
            refine .thp ?_
            cases hx31
            exact .xer rfl
          · refine .opg (G.call call72 (.cons .t0 (.cons .k .nil)) (S_escrow_need (decide (a1.From = a1.Inv.Router)) 37 (.ok r27) hr28).ok .nil .nil (fun _ _ => rfl) (fun _ _ => rfl) rfl) rfl fun _ _ => ?_
            refine .drop .k0 ?_
            refine .nil ?_
            refine .then ?_
            refine .reg rfl ?_
            refine .opp (P.mov .g2) rfl ?_
            refine .opp (P.fa .g2 fa_36_0 rfl) rfl ?_
            refine .op (V.ld (v := N a1.From) .t0 .k0 (.one isAgg3 rfl)) rfl ?_
            refine .opp (P.fa .g3 fa_36_5 rfl) rfl ?_
            refine .opp (P.fa .t0 fa_32_4 rfl) rfl ?_
            refine .op (V.ld (v := N a1.Inv.Recv) .t0 .k0 (.one isAgg3 rfl)) rfl ?_
            refine .opp (P.fa .g4 fa_36_6 rfl) rfl ?_
            refine .opp (P.fa .t0 fa_34_0 rfl) rfl ?_
            refine .op (V.ld (v := Ag (api_Wide.cs a1.Var.Amount)) .t0 .k0 (.agg isAgg30 sizeOf30 rfl rfl)) rfl ?_
            rcases pxe_eq hj25 with ⟨e34, hr33, hj25⟩ | ⟨r32, hr33, hj25⟩
            · refine .opg (G.callx call73 (.cons .t3 (.cons .t2 (.cons .t1 (.cons .t0 .nil)))) (S_escrow_State_vault b00 a0 z00a a1.From a1.Inv.Recv a1.Var.Amount (.er e34) hr33).er (.cons .k1 (.cons .k1 .nil)) .nil ?_) rfl fun _ h_ => h_.elim
              obtain ⟨x35, hx36, rfl⟩ := map_lrt hj25
              obtain rfl := rt_on h
              refine .thp ?_
              cases hx36
              exact .xer rfl
            · refine .opg (G.call call73 (.cons .t3 (.cons .t2 (.cons .t1 (.cons .t0 .nil)))) (S_escrow_State_vault b00 a0 z00a a1.From a1.Inv.Recv a1.Var.Amount (.ok r32) hr33).ok (.cons .k1 (.cons .k1 .nil)) .nil (fun _ _ => rfl) (fun _ _ => rfl) rfl) rfl fun _ _ => ?_
              refine .drop .k0 ?_
              refine .nil ?_
              cases hj25
              exact .sty r32 () (dn_on h) (.cons Mm.m0 (.cons Mm.m1 (.cons Mm.m2 .nil))) (.of (.cons .k2 (.cons .k0 (.cons .k0 .nil)))) .nil
        · rw [if_neg (ne_true_of_eq_false c26)] at hj25
          refine .seq ?_
          refine .reg rfl ?_
          refine .opp (P.fa .g1 fa_36_0 rfl) rfl ?_
          refine .op (V.ld (v := N a1.From) .t0 .k0 (.one isAgg3 rfl)) rfl ?_
          refine .opp (P.fa .g2 fa_36_5 rfl) rfl ?_
          refine .opp (P.fa .t0 fa_32_0 rfl) rfl ?_
          refine .op (V.ld (v := N a1.Inv.User) .t0 .k0 (.one isAgg3 rfl)) rfl ?_
          refine .opp (P.bin .t1 .t0 .eql) rfl ?_
          rcases pxe_eq hj25 with ⟨e39, hr38, hj25⟩ | ⟨r37, hr38, hj25⟩
          · refine .opg (G.callx call72 (.cons .t0 (.cons .k .nil)) (S_escrow_need (decide (a1.From = a1.Inv.User)) 37 (.er e39) hr38).er .nil .nil ?_) rfl fun _ h_ => h_.elim
            refine .thp ?_
            obtain ⟨x40, hx41, rfl⟩ := map_lrt hj25
            obtain rfl := rt_on h
            refine .thp ?_
            cases hx41
            exact .xer rfl
          · refine .opg (G.call call72 (.cons .t0 (.cons .k .nil)) (S_escrow_need (decide (a1.From = a1.Inv.User)) 37 (.ok r37) hr38).ok .nil .nil (fun _ _ => rfl) (fun _ _ => rfl) rfl) rfl fun _ _ => ?_
            refine .drop .k0 ?_
            refine .nil ?_
            refine .then ?_
            refine .seq ?_
            refine .drawl [blk b1 36 (api_Tx.cs a1), lst 76 3 z00a (a0.Locks.map escrow_Lock.cs)] [] (Ls.of (.cons .k0 (.cons .k1 .nil))) Rs.nil 12 (.on 0 .pu (.on 1 .pu (.on 2 .pu (.on 3 .pu (.on 5 .pu (.on 6 .pu (.on 8 .pu (.on 9 .pu (.on 4 .ld (.on 7 .ld (.on 10 .ld (.on 11 .go .nl)))))))))))) follows_mixed (.thn (.thn .bodx)) (by kernel_rfl) ?_
            refine .dpu rfl (.n rfl) (P.mov .g2) rfl rfl ?_
            refine .dpu rfl (.n rfl) (P.nilc .t0) rfl rfl ?_
            refine .dpu rfl (.n rfl) (P.fa .t0 fa_45_2 rfl) rfl rfl ?_
            refine .dpu rfl (.n rfl) (P.fa .g2 fa_36_0 rfl) rfl rfl ?_
            refine .dpu rfl (.n rfl) (P.fa .g3 fa_36_5 rfl) rfl rfl ?_
            refine .dpu rfl (.n rfl) (P.fa .t0 fa_32_3 rfl) rfl rfl ?_
            refine .dpu rfl (.n rfl) (P.fa .g4 fa_36_6 rfl) rfl rfl ?_
            refine .dpu rfl (.n rfl) (P.fa .t0 fa_34_0 rfl) rfl rfl ?_
            refine .dld rfl (.n rfl) (V.ld (v := N a1.From) .t2 .k0 (.one isAgg3 rfl)) (fun _ h => (h.imp (Ls.of (.cons .k0 (.cons .k1 .nil)))).ro Rs.nil) rfl rfl ?_
            refine .dld rfl (.n rfl) (V.ld (v := N a1.Inv.Send) .t2 .k0 (.one isAgg3 rfl)) (fun _ h => (h.imp (Ls.of (.cons .k0 (.cons .k1 .nil)))).ro Rs.nil) rfl rfl ?_
            refine .dld rfl (.n rfl) (V.ld (v := Ag (api_Wide.cs a1.Var.Amount)) .t2 .k0 (.agg isAgg30 sizeOf30 rfl rfl)) (fun _ h => (h.imp (Ls.of (.cons .k0 (.cons .k1 .nil)))).ro Rs.nil) rfl rfl ?_
            refine .conseq .k1 (q := blk b00 45 ((List.take 2 (escrow_State.cs a0 z00a)) ++ (purse_Book.cs a0.Purse) ++ (List.drop (2 + 64) (escrow_State.cs a0 z00a)))) (fun _ h_ => by exact h_) ?_
            rcases pxe_eq hj25 with ⟨e44, hr43, hj25⟩ | ⟨r42, hr43, hj25⟩
            · refine .dgo rfl (.n rfl) (G.callx call69 (.cons .t3 (.cons .t2 (.cons .t1 (.cons .t0 .nil)))) (S_escrow_take_int b00 2 45 (List.take 2 (escrow_State.cs a0 z00a)) (List.drop (2 + 64) (escrow_State.cs a0 z00a)) (by rfl) a0.Purse a1.From a1.Inv.Send a1.Var.Amount (.er e44) hr43).er (.cons .k0 .nil) .nil ?_) (.inr fun _ _ h_ _ => h_.elim) fun _ h_ => h_.elim
              refine .thp ?_
              obtain ⟨x45, hx46, rfl⟩ := map_lrt hj25
              obtain rfl := rt_on h
              refine .thp ?_
              cases hx46
              exact .xer rfl
            · refine .dgo rfl (.n rfl) (G.call call69 (.cons .t3 (.cons .t2 (.cons .t1 (.cons .t0 .nil)))) (S_escrow_take_int b00 2 45 (List.take 2 (escrow_State.cs a0 z00a)) (List.drop (2 + 64) (escrow_State.cs a0 z00a)) (by rfl) a0.Purse a1.From a1.Inv.Send a1.Var.Amount (.ok r42) hr43).ok (.cons .k0 .nil) .nil (fun _ _ => rfl) (fun _ _ => rfl) rfl) (.inr fun _ _ _ h => (h.imp (Ls.of (.cons .k1 (.cons .k1 .nil)))).ro Rs.nil) fun _ _ => ?_
              refine .conseq .k0 (q := blk b00 45 (escrow_State.cs ⟨a0.Side, a0.Time, r42, a0.Vault, a0.Nonces, a0.Held, a0.Burnt, a0.Locks⟩ z00a)) (fun _ h_ => by exact h_) ?_
              refine .drop .k0 ?_
              refine .dnil ?_
              refine .then ?_
              refine .reg rfl ?_
              refine .opp (P.mov .g2) rfl ?_
              refine .opp (P.fa .g2 fa_36_5 rfl) rfl ?_
              refine .opp (P.fa .t0 fa_32_3 rfl) rfl ?_
              refine .op (V.ld (v := N a1.Inv.Send) .t0 .k1 (.one isAgg3 rfl)) rfl ?_
              refine .opp (P.fa .g3 fa_36_6 rfl) rfl ?_
              refine .opp (P.fa .t0 fa_34_0 rfl) rfl ?_
              refine .op (V.ld (v := Ag (api_Wide.cs a1.Var.Amount)) .t0 .k1 (.agg isAgg30 sizeOf30 rfl rfl)) rfl ?_
              rcases pxe_eq hj25 with ⟨e49, hr48, hj25⟩ | ⟨r47, hr48, hj25⟩
              · refine .opg (G.callx call71 (.cons .t2 (.cons .t1 (.cons .t0 .nil))) (S_escrow_State_hold b00 (⟨a0.Side, a0.Time, r42, a0.Vault, a0.Nonces, a0.Held, a0.Burnt, a0.Locks⟩ : escrow_State) z00a a1.Inv.Send a1.Var.Amount (.er e49) hr48).er (.cons .k0 (.cons .k1 .nil)) .nil ?_) rfl fun _ h_ => h_.elim
                obtain ⟨x50, hx51, rfl⟩ := map_lrt hj25
                obtain rfl := rt_on h
                refine .thp ?_
                cases hx51
                exact .xer rfl
              · refine .opg (G.call call71 (.cons .t2 (.cons .t1 (.cons .t0 .nil))) (S_escrow_State_hold b00 (⟨a0.Side, a0.Time, r42, a0.Vault, a0.Nonces, a0.Held, a0.Burnt, a0.Locks⟩ : escrow_State) z00a a1.Inv.Send a1.Var.Amount (.ok r47) hr48).ok (.cons .k0 (.cons .k1 .nil)) .nil (fun _ _ => rfl) (fun _ _ => rfl) rfl) rfl fun _ _ => ?_
                refine .drop .k0 ?_
                refine .nil ?_
                cases hj25
                exact .sty r47 () (dn_on h) (.cons Mm.m0 (.cons Mm.m1 (.cons Mm.m2 .nil))) (.of (.cons .k2 (.cons .k0 (.cons .k0 .nil)))) .nil
      · replace h := h'
        obtain ⟨r52, hr53, h⟩ := bnd_eq h
        obtain ⟨hb56, h⟩ := grd_eq h
        refine .dcut (γ := Value × Value) (φ := fun _ => True) (E1 := fun x_ => []) (L1 := fun x_ => [blk b00 45 (escrow_State.cs ⟨y23.Side, y23.Time, y23.Purse, y23.Vault, y23.Nonces, y23.Held, y23.Burnt, []⟩ x_.2), lst 76 3 x_.2 ((y23.Locks ++ ([⟨r2, r52, 1⟩] : List escrow_Lock)).map escrow_Lock.cs), lst 76 3 x_.1 [(escrow_Lock.cs ⟨r2, r52, 1⟩)], blk b1 36 (api_Tx.cs a1)]) (R1 := fun x_ => []) ?_ (fun x_ _ => ?_)
        · refine .draw 10 (.on 0 .pu (.on 1 .pu (.on 2 .pu (.on 3 .pu (.on 5 .pu (.on 6 .pu (.on 8 .pu (.on 7 .ld (.on 9 .ld (.fk 4 10 (.on 10 .go (.on 11 .pu (.on 12 .go (.on 13 .go (.on 14 .pu (.on 15 .pu (.on 16 .go .nl))))))) (.on 11 .pu (.fk 4 12 (.on 12 .go (.on 13 .go (.on 14 .pu (.on 15 .pu (.on 16 .go .nl))))) (.on 4 .go (.on 13 .go (.on 14 .pu (.on 15 .pu (.on 16 .go .nl))))))))))))))))) follows_mixed (.thn .bodx) (by kernel_rfl) ?_
          refine .dpu rfl (.n rfl) (P.mov .g2) rfl rfl ?_
          refine .dpu rfl (.n rfl) (P.mov .t3) rfl rfl ?_
          refine .dpu rfl (.n rfl) (P.nilc .t0) rfl rfl ?_
          refine .dpu rfl (.n rfl) (P.fa .t0 fa_45_7 rfl) rfl rfl ?_
          refine .dpu rfl (.n rfl) (P.mov .t2) rfl rfl ?_
          refine .dpu rfl (.n rfl) (P.fa .g3 fa_36_5 rfl) rfl rfl ?_
          refine .dpu rfl (.n rfl) (P.fa .t4 fa_36_6 rfl) rfl rfl ?_
          refine .dld rfl (.n rfl) (V.ld (v := Ag (api_Inv.cs a1.Inv)) .t1 .k0 (.agg isAgg32 sizeOf32 rfl rfl)) (fun _ h => h) rfl rfl ?_
          refine .dld rfl (.n rfl) (V.ld (v := Ag (api_Var.cs a1.Var)) .t1 .k0 (.agg isAgg34 sizeOf34 rfl rfl)) (fun _ h => h) rfl rfl ?_
          refine .dfk ?_ ?_
          · refine .dgo rfl (.n rfl) (OpV.g (V.ld (v := z00a) .t3 .k1 (.one isAgg43 rfl)) rfl) (.inr fun _ _ _ h => h) fun _ _ => ?_
            refine .dgo rfl (.n rfl) (G.call call77 (.cons .t2 (.cons .t1 .nil)) (S_deal_Digest a1.Inv a1.Var r52 hr53) .nil .nil (fun _ _ => rfl) (fun _ _ => rfl) rfl) (.inl rfl) fun _ _ => ?_
            refine .dpu rfl (.n rfl) (P.bld (v := Ag (escrow_Lock.cs ⟨r2, r52, 1⟩)) (.cons .t2 (.cons .t0 (.cons .k .nil))) (bld_run zeroValue76 runUnderlying76 pl_76 (by kernel_rfl))) rfl rfl ?_
            refine .dgo rfl (.n rfl) (G.bsl (cs := (escrow_Lock.cs ⟨r2, r52, 1⟩)) .t0 runUnderlying43 sizeOf76 zeroValue76 rfl rfl rfl rfl rfl) (.inl rfl) fun u54 _ => ?_
            refine .dgo rfl (.n rfl) (G.app (by_ := 40) .t1 .t0 .k3 (.inr (.inr ⟨_, Mm.m0⟩)) runUnderlying43 runUnderlying43 sizeOf76 typeInfo76 rfl rfl zeroValue76 rfl rfl (by simpa using hb56) rfl) (.inl rfl) fun u55 _ => ?_
            refine .conseq .k0 (q := lst 76 3 u55 ((y23.Locks ++ ([⟨r2, r52, 1⟩] : List escrow_Lock)).map escrow_Lock.cs)) (fun _ hh => by simpa [List.map_append] using hh) ?_
            refine .dpu rfl (.n rfl) (P.nilc .t1) rfl rfl ?_
            refine .dpu rfl (.n rfl) (P.fa .t0 fa_45_7 rfl) rfl rfl ?_
            refine .onel .k0 fun ho57 => ?_
            refine .dgo rfl (.n rfl) (G.str .t1 .t0 .k3 (.mk1 (cs' := (escrow_State.cs ⟨y23.Side, y23.Time, y23.Purse, y23.Vault, y23.Nonces, y23.Held, y23.Burnt, []⟩ u55)) sizeOf43 rfl ho57 rfl rfl)) (.inl rfl) fun _ _ => ?_
            refine .dnil ?_
            exact .dst ⟨u54, u55⟩ trivial .nil (Ls.of (.cons .k0 (.cons .k0 (.cons .k0 (.cons .k0 .nil))))) .nil
          · refine .dgo rfl (.n rfl) (G.call call77 (.cons .t1 (.cons .t0 .nil)) (S_deal_Digest a1.Inv a1.Var r52 hr53) .nil .nil (fun _ _ => rfl) (fun _ _ => rfl) rfl) (.inl rfl) fun _ _ => ?_
            refine .dpu rfl (.n rfl) (P.bld (v := Ag (escrow_Lock.cs ⟨r2, r52, 1⟩)) (.cons .t1 (.cons .t0 (.cons .k .nil))) (bld_run zeroValue76 runUnderlying76 pl_76 (by kernel_rfl))) rfl rfl ?_
            refine .dfk ?_ ?_
            · refine .dgo rfl (.n rfl) (OpV.g (V.ld (v := z00a) .t1 .k1 (.one isAgg43 rfl)) rfl) (.inl rfl) fun _ _ => ?_
              refine .dgo rfl (.n rfl) (G.bsl (cs := (escrow_Lock.cs ⟨r2, r52, 1⟩)) .t1 runUnderlying43 sizeOf76 zeroValue76 rfl rfl rfl rfl rfl) (.inl rfl) fun u54 _ => ?_
              refine .dgo rfl (.n rfl) (G.app (by_ := 40) .t1 .t0 .k3 (.inr (.inr ⟨_, Mm.m0⟩)) runUnderlying43 runUnderlying43 sizeOf76 typeInfo76 rfl rfl zeroValue76 rfl rfl (by simpa using hb56) rfl) (.inl rfl) fun u55 _ => ?_
              refine .conseq .k0 (q := lst 76 3 u55 ((y23.Locks ++ ([⟨r2, r52, 1⟩] : List escrow_Lock)).map escrow_Lock.cs)) (fun _ hh => by simpa [List.map_append] using hh) ?_
              refine .dpu rfl (.n rfl) (P.nilc .t1) rfl rfl ?_
              refine .dpu rfl (.n rfl) (P.fa .t0 fa_45_7 rfl) rfl rfl ?_
              refine .onel .k0 fun ho57 => ?_
              refine .dgo rfl (.n rfl) (G.str .t1 .t0 .k3 (.mk1 (cs' := (escrow_State.cs ⟨y23.Side, y23.Time, y23.Purse, y23.Vault, y23.Nonces, y23.Held, y23.Burnt, []⟩ u55)) sizeOf43 rfl ho57 rfl rfl)) (.inl rfl) fun _ _ => ?_
              refine .dnil ?_
              exact .dst ⟨u54, u55⟩ trivial .nil (Ls.of (.cons .k0 (.cons .k0 (.cons .k0 (.cons .k0 .nil))))) .nil
            · refine .dgo rfl (.n rfl) (G.bsl (cs := (escrow_Lock.cs ⟨r2, r52, 1⟩)) .t0 runUnderlying43 sizeOf76 zeroValue76 rfl rfl rfl rfl rfl) (.inl rfl) fun u54 _ => ?_
              refine .dgo rfl (.n rfl) (OpV.g (V.ld (v := z00a) .t1 .k2 (.one isAgg43 rfl)) rfl) (.inl rfl) fun _ _ => ?_
              refine .dgo rfl (.n rfl) (G.app (by_ := 40) .t0 .t0 .k3 (.inr (.inr ⟨_, Mm.m0⟩)) runUnderlying43 runUnderlying43 sizeOf76 typeInfo76 rfl rfl zeroValue76 rfl rfl (by simpa using hb56) rfl) (.inl rfl) fun u55 _ => ?_
              refine .conseq .k0 (q := lst 76 3 u55 ((y23.Locks ++ ([⟨r2, r52, 1⟩] : List escrow_Lock)).map escrow_Lock.cs)) (fun _ hh => by simpa [List.map_append] using hh) ?_
              refine .dpu rfl (.n rfl) (P.nilc .t1) rfl rfl ?_
              refine .dpu rfl (.n rfl) (P.fa .t0 fa_45_7 rfl) rfl rfl ?_
              refine .onel .k0 fun ho57 => ?_
              refine .dgo rfl (.n rfl) (G.str .t1 .t0 .k3 (.mk1 (cs' := (escrow_State.cs ⟨y23.Side, y23.Time, y23.Purse, y23.Vault, y23.Nonces, y23.Held, y23.Burnt, []⟩ u55)) sizeOf43 rfl ho57 rfl rfl)) (.inl rfl) fun _ _ => ?_
              refine .dnil ?_
              exact .dst ⟨u54, u55⟩ trivial .nil (Ls.of (.cons .k0 (.cons .k0 (.cons .k0 (.cons .k0 .nil))))) .nil
        · obtain ⟨u54, u55⟩ := x_
          cases h
          refine .xokn ?_
          exact .finwn u55 (.r0 rfl) trivial (Ls.of (.cons .k0 (.cons .k0 .nil))) .nil
attribute [irreducible] escrow_State_prepare
noncomputable def escrow_State_lock (a0 : escrow_State) (a1 : api_Tx) : Option (Px (Nat × escrow_Lock)) :=
  Option.bind (deal_Key a1.Inv) fun r2 => Option.bind (escrow_State_place a0 r2) fun r4 => Option.bind (if (decide (r4 ≥ 0)) = true then (Option.bind (at_ a0.Locks r4) fun (x13 : escrow_Lock) => pxe (escrow_need (decide (x13.Status = 1)) 32) (fun e19 => Option.map Lo.rt (some (.er e19))) fun r17 => some (Lo.dn ())) else (pxe (escrow_need false 32) (fun e24 => Option.map Lo.rt (some (.er e24))) fun r22 => some (Lo.dn ()))) fun o46 => Lo.on o46 fun (_ : Unit) => Option.bind (at_ a0.Locks r4) fun (x30 : escrow_Lock) => Option.bind (deal_Digest a1.Inv a1.Var) fun r34 => pxe (escrow_need (decide (x30.Digest = r34)) 33) (fun e38 => some (.er e38)) fun r36 => Option.bind (at_ a0.Locks r4) fun (x42 : escrow_Lock) => some ((.ok (((r4).toNat, x42))))
set_option maxRecDepth 20000 in
set_option maxHeartbeats 1000000 in
theorem S_escrow_State_lock (b00 : Nat) (a0 : escrow_State) (z00a : Value) (a1 : api_Tx) (r : Px (Nat × escrow_Lock)) (h : escrow_State_lock a0 a1 = some r) :
    SpecX Tryz.prog 78 [pt b00 0, Ag (api_Tx.cs a1)] [blk b00 45 (escrow_State.cs a0 z00a), lst 76 3 z00a (a0.Locks.map escrow_Lock.cs)] [] (fun (r : Nat × escrow_Lock) (z : Nat × Nat) => IsIx z00a 3 (a0.Locks.map escrow_Lock.cs).length r.1 z.1 z.2 ∧ a0.Locks[r.1]? = some r.2) mustCh r (fun r z => pt z.1 z.2) (fun r z M => blk b00 45 (escrow_State.cs a0 z00a) :: lst 76 3 z00a (a0.Locks.map escrow_Lock.cs) ::  M) (fun r z M =>  M) := by
  refine .of func78 rfl ntmps78 rfl fun w0 D0 G0 => ?_
  unfold escrow_State_lock at h
  refine .seq ?_
  refine .reg rfl ?_
  refine .opx (X.box (cs := (api_Tx.cs a1)) .t1 rfl) rfl fun b1 => ?_
  refine .op0 (OpP.toV (P.asg .k)) rfl ?_
  refine .nil ?_
  refine .then ?_
  refine .seq ?_
  refine .reg rfl ?_
  refine .opp (P.mov .g1) rfl ?_
  refine .opp (P.fa .g1 fa_36_5 rfl) rfl ?_
  refine .op (V.ld (v := Ag (api_Inv.cs a1.Inv)) .t0 .k0 (.agg isAgg32 sizeOf32 rfl rfl)) rfl ?_
  obtain ⟨r2, hr3, h⟩ := bnd_eq h
  refine .opg (G.call call75 (.cons .t0 .nil) (S_deal_Key a1.Inv r2 hr3) .nil .nil (fun _ _ => rfl) (fun _ _ => rfl) rfl) rfl fun _ _ => ?_
  obtain ⟨r4, hr5, h⟩ := bnd_eq h
  refine .opg (G.call call76 (.cons .t1 (.cons .t0 .nil)) (S_escrow_State_place b00 a0 z00a r2 r4 hr5) (.cons .k1 (.cons .k1 .nil)) .nil (fun _ _ => rfl) (fun _ _ => rfl) rfl) rfl fun _ _ => ?_
  refine .opp (P.asg .t0) rfl ?_
  refine .nil ?_
  refine .then ?_
  obtain ⟨o46, hj8, h⟩ := bnd_eq h
  refine .cuto (γ := Unit) h (E1 := fun (_ : Unit) _ => [(5, N r4), (3, pt b1 0), (0, pt b00 0)]) (L1 := fun (_ : Unit) _ => [blk b1 36 (api_Tx.cs a1), blk b00 45 (escrow_State.cs a0 z00a), lst 76 3 z00a (a0.Locks.map escrow_Lock.cs)]) (R1 := fun (_ : Unit) _ => []) ?_ (fun _ _ h' => ?_)
  · refine .reg rfl ?_
    refine .opp (P.mov .g0) rfl ?_
    refine .opp (P.bin .t0 .k .geq) rfl ?_
    refine .opp (P.mov .t0) rfl ?_
    refine .split .k0 (fun c9 => ?_) (fun c9 => ?_)
    · rw [if_pos c9] at hj8
      refine .gyes rfl .g0 ?_
      refine .opp (P.mov .g3) rfl ?_
      refine .gyes rfl .g1 ?_
      refine .opp (P.nilc .t0) rfl ?_
      refine .gyes rfl .g1 ?_
      refine .opp (P.fa .t0 fa_45_7 rfl) rfl ?_
      refine .gyes rfl .g1 ?_
      refine .op (V.ld (v := z00a) .t0 .k0 (.one isAgg43 rfl)) rfl ?_
      refine .gyes rfl .g1 ?_
      refine .opp (P.mov .g2) rfl ?_
      refine .gyes rfl .g2 ?_
      obtain ⟨x13, hx14, hj8⟩ := bnd_eq hj8
      obtain ⟨i15, hi16, hx14⟩ := at_eq hx14
      have hi16_ : (r4).toNat = i15 := by rw [hi16]; rfl
      refine .ixql .k1 (map_get hx14) fun p10 q11 hq12 => ?_
      refine .opp (P.ixi (i := i15) .t0 hi16 .t0 hq12 runUnderlying43 sizeOf76) rfl ?_
      refine .gyes rfl .g1 ?_
      refine .opp (P.fa (off' := q11 + 2) .t0 fa_76_2 rfl) rfl ?_
      refine .gyes rfl .g1 ?_
      refine .op (V.ldxl (u := N x13.Status) (off := q11) (k := 2) .t0 hq12 .k1 (map_get hx14) (.one isAgg3 rfl)) rfl ?_
      refine .gyes rfl .g1 ?_
      refine .opp (P.bin .t0 .k .eql) rfl ?_
      refine .opp (P.pickT .t1 .t0) rfl ?_
      rcases pxe_eq hj8 with ⟨e19, hr18, hj8⟩ | ⟨r17, hr18, hj8⟩
      · refine .opg (G.callx call72 (.cons .t0 (.cons .k .nil)) (S_escrow_need (decide (x13.Status = 1)) 32 (.er e19) hr18).er .nil .nil ?_) rfl fun _ h_ => h_.elim
        obtain ⟨x20, hx21, rfl⟩ := map_lrt hj8
        obtain rfl := rt_on h
        refine .thp ?_
        cases hx21
        exact .xer rfl
      · refine .opg (G.call call72 (.cons .t0 (.cons .k .nil)) (S_escrow_need (decide (x13.Status = 1)) 32 (.ok r17) hr18).ok .nil .nil (fun _ _ => rfl) (fun _ _ => rfl) rfl) rfl fun _ _ => ?_
        refine .drop .k0 ?_
        refine .nil ?_
        cases hj8
        exact .sty () () (dn_on h) (.cons Mm.m0 (.cons Mm.m1 (.cons Mm.m2 .nil))) (.of (.cons .k2 (.cons .k0 (.cons .k0 .nil)))) .nil
    · rw [if_neg (ne_true_of_eq_false c9)] at hj8
      refine .gno rfl .g0 rfl rfl ?_
      refine .gno rfl .g0 rfl rfl ?_
      refine .gno rfl .g0 rfl rfl ?_
      refine .gno rfl .g0 rfl rfl ?_
      refine .gno rfl .g0 rfl rfl ?_
      refine .gno rfl .g0 rfl rfl ?_
      refine .gno rfl .g0 rfl rfl ?_
      refine .gno rfl .g0 rfl rfl ?_
      refine .gno rfl .g0 rfl rfl ?_
      refine .opp (P.pickF .t0 .k) rfl ?_
      rcases pxe_eq hj8 with ⟨e24, hr23, hj8⟩ | ⟨r22, hr23, hj8⟩
      · refine .opg (G.callx call72 (.cons .t0 (.cons .k .nil)) (S_escrow_need false 32 (.er e24) hr23).er .nil .nil ?_) rfl fun _ h_ => h_.elim
        obtain ⟨x25, hx26, rfl⟩ := map_lrt hj8
        obtain rfl := rt_on h
        refine .thp ?_
        cases hx26
        exact .xer rfl
      · refine .opg (G.call call72 (.cons .t0 (.cons .k .nil)) (S_escrow_need false 32 (.ok r22) hr23).ok .nil .nil (fun _ _ => rfl) (fun _ _ => rfl) rfl) rfl fun _ _ => ?_
        refine .drop .k0 ?_
        refine .nil ?_
        cases hj8
        exact .sty () () (dn_on h) (.cons Mm.m0 (.cons Mm.m1 (.cons Mm.m2 .nil))) (.of (.cons .k2 (.cons .k0 (.cons .k0 .nil)))) .nil
  · replace h := h'
    refine .seq ?_
    refine .draw 15 (.on 0 .pu (.on 1 .pu (.on 2 .pu (.on 4 .pu (.on 8 .pu (.on 10 .pu (.on 3 .ld (.on 5 .pu (.on 6 .pu (.on 7 .ld (.on 9 .ld (.on 11 .ld (.on 12 .go (.on 13 .pu (.on 14 .go .nl))))))))))))))) follows_mixed (.thn .bodx) (by kernel_rfl) ?_
    refine .dpu rfl (.n rfl) (P.mov .g2) rfl rfl ?_
    refine .dpu rfl (.n rfl) (P.nilc .t0) rfl rfl ?_
    refine .dpu rfl (.n rfl) (P.fa .t0 fa_45_7 rfl) rfl rfl ?_
    refine .dpu rfl (.n rfl) (P.mov .g1) rfl rfl ?_
    refine .dpu rfl (.n rfl) (P.fa .g3 fa_36_5 rfl) rfl rfl ?_
    refine .dpu rfl (.n rfl) (P.fa .t4 fa_36_6 rfl) rfl rfl ?_
    refine .dld rfl (.n rfl) (V.ld (v := z00a) .t3 .k1 (.one isAgg43 rfl)) (fun _ h => h) rfl rfl ?_
    obtain ⟨x30, hx31, h⟩ := bnd_eq h
    obtain ⟨i32, hi33, hx31⟩ := at_eq hx31
    have hi33_ : (r4).toNat = i32 := by rw [hi33]; rfl
    refine .ixql .k2 (map_get hx31) fun p27 q28 hq29 => ?_
    refine .dpu rfl (.n rfl) (P.ixi (i := i32) .t3 hi33 .t0 hq29 runUnderlying43 sizeOf76) rfl rfl ?_
    refine .dpu rfl (.n rfl) (P.fa (off' := q28 + 1) .t0 fa_76_1 rfl) rfl rfl ?_
    refine .dld rfl (.n rfl) (V.ldxl (u := .string x30.Digest) (off := q28) (k := 1) .t0 hq29 .k2 (map_get hx31) (.one isAgg9 rfl)) (fun _ h => h) rfl rfl ?_
    refine .dld rfl (.n rfl) (V.ld (v := Ag (api_Inv.cs a1.Inv)) .t2 .k0 (.agg isAgg32 sizeOf32 rfl rfl)) (fun _ h => h) rfl rfl ?_
    refine .dld rfl (.n rfl) (V.ld (v := Ag (api_Var.cs a1.Var)) .t2 .k0 (.agg isAgg34 sizeOf34 rfl rfl)) (fun _ h => h) rfl rfl ?_
    obtain ⟨r34, hr35, h⟩ := bnd_eq h
    refine .dgo rfl (.n rfl) (G.call call77 (.cons .t1 (.cons .t0 .nil)) (S_deal_Digest a1.Inv a1.Var r34 hr35) .nil .nil (fun _ _ => rfl) (fun _ _ => rfl) rfl) (.inr fun _ _ _ h => h) fun _ _ => ?_
    refine .dpu rfl (.n rfl) (P.bin .t1 .t0 .str_eql) rfl rfl ?_
    rcases pxe_eq h with ⟨e38, hr37, h⟩ | ⟨r36, hr37, h⟩
    · refine .dgo rfl (.n rfl) (G.callx call72 (.cons .t0 (.cons .k .nil)) (S_escrow_need (decide (x30.Digest = r34)) 33 (.er e38) hr37).er .nil .nil ?_) (.inr fun _ _ h_ _ => h_.elim) fun _ h_ => h_.elim
      refine .thp ?_
      cases h
      exact .xer rfl
    · refine .dgo rfl (.n rfl) (G.call call72 (.cons .t0 (.cons .k .nil)) (S_escrow_need (decide (x30.Digest = r34)) 33 (.ok r36) hr37).ok .nil .nil (fun _ _ => rfl) (fun _ _ => rfl) rfl) (.inr fun _ _ _ h => h) fun _ _ => ?_
      refine .drop .k0 ?_
      refine .dnil ?_
      refine .then ?_
      refine .seq ?_
      refine .reg rfl ?_
      refine .opp (P.mov .t1) rfl ?_
      refine .opp (P.nilc .t0) rfl ?_
      refine .opp (P.fa .t0 fa_45_7 rfl) rfl ?_
      refine .op (V.ld (v := z00a) .t0 .k1 (.one isAgg43 rfl)) rfl ?_
      refine .opp (P.mov .t1) rfl ?_
      obtain ⟨x42, hx43, h⟩ := bnd_eq h
      obtain ⟨i44, hi45, hx43⟩ := at_eq hx43
      have hi45_ : (r4).toNat = i44 := by rw [hi45]; rfl
      refine .ixql .k2 (map_get hx43) fun p39 q40 hq41 => ?_
      refine .opp (P.ixi (i := i44) .t0 hi45 .t0 hq41 runUnderlying43 sizeOf76) rfl ?_
      refine .opp (P.asg .t0) rfl ?_
      refine .nil ?_
      refine .then ?_
      refine .ret ?_
      cases h
      refine .xok ?_
      exact .finw ⟨p39, q40⟩ (.r1 rfl (.tmp .g0)) ⟨by rw [hi45_]; exact hq41, by rw [hi45_]; exact hx43⟩ (Ls.of (.cons .k1 (.cons .k1 .nil))) .nil
attribute [irreducible] escrow_State_lock
noncomputable def deal_Payload (a0 : Int) (a1 : ByteArray) (a2 : api_Wide) : Option ((List UInt8)) :=
  thn (if (!(deal_in a0 1 2)) = true then true else (decide ((a1.size : Int) ≠ 32))) fun (y2 : Bool) => if y2 = true then (some ([] : List UInt8)) else (Option.bind (field_Out_Text field_New ⟨#[97, 99, 116]⟩) fun r9 => Option.bind (field_Out_Num r9 a0) fun r12 => Option.bind (field_Out_Text r12 a1) fun r15 => Option.bind (field_Out_Wide r15 a2) fun r18 => Option.bind (field_Out_Done r18) fun r21 => some r21.1)
set_option maxRecDepth 20000 in
set_option maxHeartbeats 1000000 in
theorem S_deal_Payload (a0 : Int) (a1 : ByteArray) (a2 : api_Wide) (r : (List UInt8)) (h : deal_Payload a0 a1 a2 = some r) :
    SpecF Tryz.prog 89 [N a0, .string a1, Ag (api_Wide.cs a2)] [] [] (fun z : Value => True) (fun z => z) (fun z M => lst 5 1 z (r.map (fun x => [B8 x])) ::  M) (fun z M =>  M) := by
  refine .of func89 rfl ntmps89 rfl fun w0 D0 G0 => ?_
  unfold deal_Payload at h
  refine .seq ?_
  refine .reg rfl ?_
  refine .opx (X.box (cs := (api_Wide.cs a2)) .t2 rfl) rfl fun b1 => ?_
  refine .op0 (OpP.toV (P.asg .k)) rfl ?_
  refine .nil ?_
  refine .then ?_
  refine .seq ?_
  obtain ⟨y2, hj4, h⟩ := thn_eq h
  refine .cutx (γ := Unit) (E1 := fun z3 => [(17, Bo y2), (5, pt b1 0), (0, N a0), (1, .string a1)]) (L1 := fun z3 => [blk b1 30 (api_Wide.cs a2)]) (R1 := fun z3 => []) ?_ (fun z3 => ?_)
  · clear h
    refine .reg rfl ?_
    refine .opp (P.mov .g1) rfl ?_
    refine .opg (G.call call54 (.cons .t0 (.cons .k (.cons .k .nil))) (S_deal_in a0 1 2 _ rfl) .nil .nil (fun _ _ => rfl) (fun _ _ => rfl) rfl) rfl fun _ _ => ?_
    refine .opp (P.not .t0) rfl ?_
    refine .opp (P.mov .t0) rfl ?_
    refine .split .k0 (fun c5 => ?_) (fun c5 => ?_)
    · rw [if_pos c5] at hj4
      refine .gno rfl .g0 rfl rfl ?_
      refine .gno rfl .g0 rfl rfl ?_
      refine .gno rfl .g0 rfl rfl ?_
      refine .opp (P.pickT .t0 .k) rfl ?_
      refine .nil ?_
      subst hj4
      exact .stj () (.cons Mm.m0 (.cons Mm.m1 (.cons Mm.m2 (.cons Mm.m3 .nil)))) (.of (.cons .k0 .nil)) .nil
    · rw [if_neg (ne_true_of_eq_false c5)] at hj4
      refine .gyes rfl .g0 ?_
      refine .opp (P.mov .g3) rfl ?_
      refine .gyes rfl .g1 ?_
      refine .opp (P.lens .t0 runUnderlying9) rfl ?_
      refine .gyes rfl .g1 ?_
      refine .opp (P.bin .t0 .k .neq) rfl ?_
      refine .opp (P.pickF .t1 .t0) rfl ?_
      refine .nil ?_
      subst hj4
      exact .stj () (.cons Mm.m0 (.cons Mm.m1 (.cons Mm.m2 (.cons Mm.m3 .nil)))) (.of (.cons .k0 .nil)) .nil
  · clear hj4
    refine .cond .t0 (fun c6 => ?_) (fun c6 => ?_)
    · rw [if_pos c6] at h
      refine .seq ?_
      refine .reg rfl ?_
      refine .opp (P.asg .k) rfl ?_
      refine .nil ?_
      refine .then ?_
      refine .ret ?_
      refine .thr ?_
      cases h
      refine .lnil 5 1 ?_
      exact .finw nilSl (.r1 rfl (.tmp .g0)) trivial (Ls.of (.cons .k0 .nil)) .nil
    · rw [if_neg (ne_true_of_eq_false c6)] at h
      refine .skip ?_
      refine .then ?_
      refine .seq ?_
      refine .reg rfl ?_
      refine .opg (G.call call80 .nil (S_field_New  _ rfl) .nil .nil (fun _ _ => rfl) (fun _ _ => rfl) rfl) rfl fun ⟨b7, u8⟩ _ => ?_
      refine .opp (P.asg .t0) rfl ?_
      refine .nil ?_
      refine .then ?_
      refine .seq ?_
      refine .reg rfl ?_
      refine .opp (P.mov .g0) rfl ?_
      obtain ⟨r9, hr10, h⟩ := bnd_eq h
      refine .opg (G.call call86 (.cons .t0 (.cons .k .nil)) (S_field_Out_Text b7 field_New u8 ⟨#[97, 99, 116]⟩ r9 hr10) (.cons .k0 (.cons .k0 .nil)) .nil (fun _ _ => rfl) (fun _ _ => rfl) rfl) rfl fun u11 _ => ?_
      refine .drop .k0 ?_
      refine .nil ?_
      refine .then ?_
      refine .seq ?_
      refine .reg rfl ?_
      refine .opp (P.mov .g0) rfl ?_
      refine .opp (P.mov .t3) rfl ?_
      obtain ⟨r12, hr13, h⟩ := bnd_eq h
      refine .opg (G.call call90 (.cons .t1 (.cons .t0 .nil)) (S_field_Out_Num b7 r9 u11 a0 r12 hr13) (.cons .k0 (.cons .k0 .nil)) .nil (fun _ _ => rfl) (fun _ _ => rfl) rfl) rfl fun u14 _ => ?_
      refine .drop .k0 ?_
      refine .nil ?_
      refine .then ?_
      refine .seq ?_
      refine .reg rfl ?_
      refine .opp (P.mov .g0) rfl ?_
      refine .opp (P.mov .t3) rfl ?_
      obtain ⟨r15, hr16, h⟩ := bnd_eq h
      refine .opg (G.call call86 (.cons .t1 (.cons .t0 .nil)) (S_field_Out_Text b7 r12 u14 a1 r15 hr16) (.cons .k0 (.cons .k0 .nil)) .nil (fun _ _ => rfl) (fun _ _ => rfl) rfl) rfl fun u17 _ => ?_
      refine .drop .k0 ?_
      refine .nil ?_
      refine .then ?_
      refine .seq ?_
      refine .reg rfl ?_
      refine .opp (P.mov .g0) rfl ?_
      refine .op (V.ld (v := Ag (api_Wide.cs a2)) .t2 .k2 (.agg isAgg30 sizeOf30 rfl rfl)) rfl ?_
      obtain ⟨r18, hr19, h⟩ := bnd_eq h
      refine .opg (G.call call95 (.cons .t1 (.cons .t0 .nil)) (S_field_Out_Wide b7 r15 u17 a2 r18 hr19) (.cons .k0 (.cons .k0 .nil)) .nil (fun _ _ => rfl) (fun _ _ => rfl) rfl) rfl fun u20 _ => ?_
      refine .drop .k0 ?_
      refine .nil ?_
      refine .then ?_
      refine .seq ?_
      refine .reg rfl ?_
      refine .opp (P.mov .t0) rfl ?_
      obtain ⟨r21, hr22, h⟩ := bnd_eq h
      refine .opg (G.call call82 (.cons .t0 .nil) (S_field_Out_Done b7 r18 u20 r21 hr22) (.cons .k0 (.cons .k0 .nil)) .nil (fun _ _ => rfl) (fun _ _ => rfl) rfl) rfl fun u23 _ => ?_
      refine .opp (P.mov .t0) rfl ?_
      refine .opp (P.ext (v := u23) .g0 rfl) rfl ?_
      refine .opp (P.ext (v := N r21.2) .t1 rfl) rfl ?_
      refine .opp (P.asg .t1) rfl ?_
      refine .op0 (OpP.toV (P.asg .t1)) rfl ?_
      refine .nil ?_
      refine .then ?_
      refine .seq ?_
      refine .reg rfl ?_
      refine .opp (P.mov .t0) rfl ?_
      refine .opp (P.asg .t0) rfl ?_
      refine .nil ?_
      refine .then ?_
      refine .ret ?_
      cases h
      exact .finw u23 (.r1 rfl (.tmp .g0)) trivial (Ls.of (.cons .k2 .nil)) .nil
attribute [irreducible] deal_Payload
noncomputable def mss_Leaf (a0 : ByteArray) : Option (Int) :=
  if (decide (a0 = ⟨#[]⟩)) = true then (some (-1)) else (Option.bind (bat a0 0) fun (x2 : UInt8) => some (x2.toNat : Int))
set_option maxRecDepth 20000 in
set_option maxHeartbeats 1000000 in
theorem S_mss_Leaf (a0 : ByteArray) (r : Int) (h : mss_Leaf a0 = some r) :
    SpecF Tryz.prog 96 [.string a0] [] [] (fun z : Unit => True) (fun z => N r) (fun z M =>  M) (fun z M =>  M) := by
  refine .of func96 rfl ntmps96 rfl fun w0 D0 G0 => ?_
  unfold mss_Leaf at h
  refine .seq ?_
  refine .reg rfl ?_
  refine .op0 (OpP.toV (P.asg .k)) rfl ?_
  refine .nil ?_
  refine .then ?_
  refine .seq ?_
  refine .seq ?_
  refine .reg rfl ?_
  refine .opp (P.mov .g0) rfl ?_
  refine .opp (P.bin .t0 .k .str_eql) rfl ?_
  refine .nil ?_
  refine .then ?_
  refine .cond .t0 (fun c1 => ?_) (fun c1 => ?_)
  · rw [if_pos c1] at h
    refine .seq ?_
    refine .reg rfl ?_
    refine .opp (P.asg .k) rfl ?_
    refine .nil ?_
    refine .then ?_
    refine .ret ?_
    refine .thr ?_
    cases h
    exact .finw () (.r1 rfl (.tmp .g0)) trivial (Ls.of .nil) .nil
  · rw [if_neg (ne_true_of_eq_false c1)] at h
    refine .skip ?_
    refine .then ?_
    refine .seq ?_
    refine .reg rfl ?_
    refine .opp (P.mov .t0) rfl ?_
    obtain ⟨x2, hx3, h⟩ := bnd_eq h
    obtain ⟨i4, hi5, hx3⟩ := bat_eq hx3
    refine .opp (P.idxs (i := i4) .t0 .k hi5 runUnderlying9 hx3) rfl ?_
    refine .opp (P.cnvIB8 (x := x2) .t0 runUnderlying5 runUnderlying3) rfl ?_
    refine .opp (P.asg .t0) rfl ?_
    refine .nil ?_
    refine .then ?_
    refine .ret ?_
    cases h
    exact .finw () (.r1 rfl (.tmp .g0)) trivial (Ls.of .nil) .nil
attribute [irreducible] mss_Leaf
noncomputable def blob_Cut (a0 : List UInt8) (a1 : Int) : Option ((List (List UInt8))) :=
  thn (if (decide (a1 < 1)) = true then (if 1 > (a0.length : Int) then 1 else (a0.length : Int)) else a1) fun (y1 : Int) => Option.bind (slices_Chunk_byte y1) fun r7 => Option.bind (loopW (fun (s17 : Int × (List (List UInt8))) => if (decide (s17.1 < (a0.length : Int))) = true then (grd (okS a0.length (some s17.1) none none) <| grd (okS a0.length (some s17.1) (some (IntKind.i64.wrap (s17.1 + (if ((slc a0 (s17.1).toNat a0.length).length : Int) < y1 then ((slc a0 (s17.1).toNat a0.length).length : Int) else y1)))) (some (IntKind.i64.wrap (s17.1 + (if ((slc a0 (s17.1).toNat a0.length).length : Int) < y1 then ((slc a0 (s17.1).toNat a0.length).length : Int) else y1))))) <| Option.bind (slices_Clone_byte (slc a0 (s17.1).toNat (IntKind.i64.wrap (s17.1 + (if ((slc a0 (s17.1).toNat a0.length).length : Int) < y1 then ((slc a0 (s17.1).toNat a0.length).length : Int) else y1))).toNat)) fun r39 => grd ((s17.2.length + ([r39] : List (List UInt8)).length) * 24 ≤ 140737488355328) <| some (.nx ((IntKind.i64.wrap (s17.1 + y1), (s17.2 ++ ([r39] : List (List UInt8))))))) else (some (.br (s17.1, s17.2)))) (0, [])) fun o19 => Lo.on o19 fun (s17 : Int × (List (List UInt8))) => some s17.2
set_option maxRecDepth 20000 in
set_option maxHeartbeats 1000000 in
theorem S_blob_Cut (v00 : Value) (a0 : List UInt8) (a1 : Int) (r : (List (List UInt8))) (h : blob_Cut a0 a1 = some r) :
    SpecF Tryz.prog 97 [v00, N a1] [] [rows 1 v00 (a0.map (fun x => [B8 x]))] (fun z : Value × List Value => True) (fun z => z.1) (fun z M => lst 131 1 z.1 (List.zipWith (fun (_ : List UInt8) z => [z]) r z.2) ::  M) (fun z M => gz (fun (x : List UInt8) z => rows 1 z (x.map (fun x => [B8 x]))) r z.2 ::  M) := by
  refine .of func97 rfl ntmps97 rfl fun w0 D0 G0 => ?_
  unfold blob_Cut at h
  refine .seq ?_
  refine .reg rfl ?_
  refine .op0 (OpP.toV (P.asg .k)) rfl ?_
  refine .nil ?_
  refine .then ?_
  obtain ⟨y1, hj3, h⟩ := thn_eq h
  refine .cutx (γ := Unit) (E1 := fun z2 => [(1, N y1), (0, v00)]) (L1 := fun z2 => []) (R1 := fun z2 => [rows 1 v00 (a0.map (fun x => [B8 x]))]) ?_ (fun z2 => ?_)
  · clear h
    refine .seq ?_
    refine .reg rfl ?_
    refine .opp (P.mov .g1) rfl ?_
    refine .opp (P.bin .t0 .k .lss) rfl ?_
    refine .nil ?_
    refine .then ?_
    refine .cond .t0 (fun c4 => ?_) (fun c4 => ?_)
    · rw [if_pos c4] at hj3
      refine .reg rfl ?_
      refine .opp (P.mov .g0) rfl ?_
      refine .op (V.lnr (n := a0.length) .t0 Mm.m0 map_len runUnderlying131) rfl ?_
      refine .opp (P.max2 .t0 .k) rfl ?_
      refine .drop .k2 ?_
      refine .opp (P.asg .t0) rfl ?_
      refine .nil ?_
      subst hj3
      exact .stj () (.cons Mm.m0 (.cons Mm.m1 .nil)) (.of .nil) (.cons Mm.m0 .nil)
    · rw [if_neg (ne_true_of_eq_false c4)] at hj3
      refine .skip ?_
      subst hj3
      exact .stj () (.cons Mm.m1 (.cons Mm.m0 .nil)) (.of .nil) (.cons Mm.m0 .nil)
  · clear hj3
    refine .seq ?_
    refine .reg rfl ?_
    refine .opx (X.alc (cs := [nilSl]) zeroValue146 rfl) rfl fun b5 => ?_
    refine .nil ?_
    refine .then ?_
    refine .seq ?_
    refine .seq ?_
    refine .reg rfl ?_
    refine .opp (P.mov .t2) rfl ?_
    refine .opp (P.mov .t2) rfl ?_
    refine .celr Mm.m0 fun hv6 => ?_
    obtain ⟨r7, hr8, h⟩ := bnd_eq h
    refine .opg (G.call call103 (.cons .t1 (.cons .t0 .nil)) (S_slices_Chunk_byte v00 hv6 y1 r7 hr8) .nil .nil (fun _ _ => rfl) (fun _ _ => rfl) rfl) rfl fun ⟨b9, b10⟩ _ => ?_
    refine .nil ?_
    refine .then ?_
    refine .block ?_
    refine .rangeF rfl .t0 call116 func116 rfl ntmps116 rfl fun a11 O12 D13 l14 ha15 hO16 => ?_
    refine .seq ?_
    refine .reg rfl ?_
    refine .opp (P.asg .k) rfl ?_
    refine .nil ?_
    refine .then ?_
    refine .block ?_
    refine .lnil 131 1 ?_
    refine .gzn (G := (fun (x : List UInt8) z => rows 1 z (x.map (fun x => [B8 x])))) ?_
    obtain ⟨o19, ho20, h⟩ := bnd_eq h
    refine .loopW (γ := Value × List Value) (fun (s17 : Int × (List (List UInt8))) z18 => [(4, N s17.1), (0, yv l14), (1, pt b9 0), (2, pt b10 0)]) (fun (s17 : Int × (List (List UInt8))) z18 => [blk b9 131 [v00], blk b10 3 [N y1], blk b5 146 [z18.1], lst 131 1 z18.1 (List.zipWith (fun (_ : List UInt8) z => [z]) s17.2 z18.2), obj l14 (O12 .ready none), obj D13 (.deferred (some []))]) (fun (s17 : Int × (List (List UInt8))) z18 => [rows 1 v00 (a0.map (fun x => [B8 x])), gz (fun (x : List UInt8) z => rows 1 z (x.map (fun x => [B8 x]))) s17.2 z18.2]) ⟨nilSl, []⟩ ho20 (.cons Mm.m0 (.cons Mm.m1 (.cons Mm.m2 (.cons Mm.m3 .nil)))) (.of (.cons .k3 (.cons .k3 (.cons .k3 (.cons .k0 (.cons .k0 (.cons .k0 .nil))))))) (.cons Mm.m1 (.cons Mm.m0 .nil)) (fun n25 s17 z18 hr23 => ?_)
    obtain ⟨ct24, hc21, hn22⟩ := loopK_at hr23
    refine .seq ?_
    refine .seq ?_
    refine .reg rfl ?_
    refine .opp (P.mov .g0) rfl ?_
    refine .op (V.ld (v := v00) .g3 .k0 (.one isAgg131 rfl)) rfl ?_
    refine .op (V.lnr (n := a0.length) .t0 Mm.m0 map_len runUnderlying131) rfl ?_
    refine .opp (P.bin .t1 .t0 .lss) rfl ?_
    refine .nil ?_
    refine .then ?_
    refine .cond .t0 (fun c26 => ?_) (fun c26 => ?_)
    · rw [if_pos c26] at hc21
      refine .skip ?_
      refine .then ?_
      refine .seq ?_
      refine .block ?_
      refine .seq ?_
      refine .draw 7 (.on 2 .pu (.on 0 .ld (.on 1 .ld (.on 3 .pu (.on 4 .ld (.on 5 .pu (.on 6 .go .nl))))))) follows_mixed (.thn (.inb (.thn (.thn (.inb .body))))) (by kernel_rfl) ?_
      refine .dpu rfl (.n rfl) (P.mov .g0) rfl rfl ?_
      refine .dld rfl (.n rfl) (V.ld (v := N y1) .g4 .k1 (.one isAgg3 rfl)) (fun _ h => h) rfl rfl ?_
      refine .dld rfl (.n rfl) (V.ld (v := v00) .g4 .k0 (.one isAgg131 rfl)) (fun _ h => h) rfl rfl ?_
      obtain ⟨hb27, hc21⟩ := grd_eq hc21
      refine .slnq Mm.m0 fun hq31 => ?_
      simp only [List.length_map] at hq31
      refine .dpu rfl (.n rfl) (P.slp (li := (some s17.1)) (hj := none) (mk := none) .t0 (.some .t1) .none .none hq31 runUnderlying131 sizeOf5 (by simpa using hb27)) rfl rfl ?_
      refine .slgen Mm.m0 (by simpa using hb27) fun u28 => ?_
      refine .rhead (q := rows 1 u28 ((slc a0 (s17.1).toNat a0.length).map (fun x => [B8 x]))) (fun _ hh => by simpa [slc_map] using hh) ?_
      refine .rfact Mm.m0 (fun _ r => rows_shape r) fun hs32 => ?_
      rw [List.length_map] at hs32
      refine .dld rfl (.n rfl) (OpP.toV (P.lnh (n := (slc a0 (s17.1).toNat a0.length).length) .t0 hs32 runUnderlying131)) (fun _ h => (h.imp (Ls.of (.cons .k0 (.cons .k0 (.cons .k0 (.cons .k0 (.cons .k0 (.cons .k0 .nil)))))))).ro (Rs.cons Mm.m1 (Rs.cons Mm.m2 Rs.nil))) rfl rfl ?_
      refine .dpu rfl (.n rfl) (P.min2 .t1 .t0) rfl rfl ?_
      refine .dgo rfl (.n rfl) (OpV.g (OpP.toV (P.asg .t0)) rfl) (.inr fun _ _ _ h => (h.imp (Ls.of (.cons .k0 (.cons .k0 (.cons .k0 (.cons .k0 (.cons .k0 (.cons .k0 .nil)))))))).ro (Rs.cons Mm.m1 (Rs.cons Mm.m2 Rs.nil))) fun _ _ => ?_
      refine .dnil ?_
      refine .then ?_
      refine .seq ?_
      refine .regY 10 rfl ?_
      refine .opp (P.mov .g2) rfl ?_
      refine .op (V.ld (v := v00) .g4 .k0 (.one isAgg131 rfl)) rfl ?_
      refine .opp (P.mov .g3) rfl ?_
      refine .opp (P.mov .g4) rfl ?_
      refine .opp (P.mov .g4) rfl ?_
      refine .opp (P.bin .t1 .t0 .add) rfl ?_
      refine .opp (P.mov .g5) rfl ?_
      refine .opp (P.mov .t5) rfl ?_
      refine .opp (P.bin .t1 .t0 .add) rfl ?_
      obtain ⟨hb33, hc21⟩ := grd_eq hc21
      refine .capq Mm.m1 fun hc35 => ?_
      refine .opg (G.slr (li := (some s17.1)) (hj := (some (IntKind.i64.wrap (s17.1 + (if ((slc a0 (s17.1).toNat a0.length).length : Int) < y1 then ((slc a0 (s17.1).toNat a0.length).length : Int) else y1))))) (mk := (some (IntKind.i64.wrap (s17.1 + (if ((slc a0 (s17.1).toNat a0.length).length : Int) < y1 then ((slc a0 (s17.1).toNat a0.length).length : Int) else y1))))) .t3 (.some .t2) (.some .t1) (.some .t0) Mm.m1 hc35 runUnderlying131 sizeOf5 (by simpa using hb33) rfl) rfl fun u34 hu36 => ?_
      refine .rhead (q := rows 1 u34 ((slc a0 (s17.1).toNat (IntKind.i64.wrap (s17.1 + (if ((slc a0 (s17.1).toNat a0.length).length : Int) < y1 then ((slc a0 (s17.1).toNat a0.length).length : Int) else y1))).toNat).map (fun x => [B8 x]))) (fun _ hh => by simpa [slc_map] using hh) ?_
      refine .nil ?_
      refine .then ?_
      refine .yield (ps := [15]) .t1 (.cons .t0 .nil) hO16 .k4 rfl rfl (by decide) fun a37 ha38 => ?_
      refine .reg rfl ?_
      refine .opp (P.asg .t0) rfl ?_
      refine .nil ?_
      refine .then ?_
      refine .bg rfl hO16 .k0 ?_
      refine .block ?_
      obtain ⟨r39, hr40, hc21⟩ := bnd_eq hc21
      obtain ⟨hb47, hc21⟩ := grd_eq hc21
      refine .dcut (γ := Value × Value × Value) (φ := fun _ => True) (E1 := fun x_ => []) (L1 := fun x_ => [blk b5 146 [x_.2.2], lst 131 1 x_.2.2 (List.zipWith (fun (_ : List UInt8) z => [z]) (s17.2 ++ ([r39] : List (List UInt8))) (z18.2 ++ [x_.1])), lst 131 1 x_.2.1 [[x_.1]], obj l14 (O12 .busy none), blk b9 131 [v00], blk b10 3 [N y1], obj D13 (.deferred (some []))]) (R1 := fun x_ => [gz (fun (x : List UInt8) z => rows 1 z (x.map (fun x => [B8 x]))) (s17.2 ++ [r39]) (z18.2 ++ [x_.1]), gz (fun (x : List UInt8) z => rows 1 z (x.map (fun x => [B8 x]))) ([r39]) ([x_.1]), rows 1 x_.1 (r39.map (fun x => [B8 x])), rows 1 u34 ((slc a0 (s17.1).toNat (IntKind.i64.wrap (s17.1 + (if ((slc a0 (s17.1).toNat a0.length).length : Int) < y1 then ((slc a0 (s17.1).toNat a0.length).length : Int) else y1))).toNat).map (fun x => [B8 x])), rows 1 u28 ((slc a0 (s17.1).toNat a0.length).map (fun x => [B8 x])), rows 1 v00 (a0.map (fun x => [B8 x])), gz (fun (x : List UInt8) z => rows 1 z (x.map (fun x => [B8 x]))) s17.2 z18.2]) ?_ (fun x_ _ => ?_)
      · refine .draw 2 (.on 1 .pu (.fk 0 2 (.on 2 .go (.on 3 .go (.on 4 .go (.on 5 .go .nl)))) (.fk 0 3 (.on 3 .go (.on 4 .go (.on 5 .go .nl))) (.on 0 .go (.on 4 .go (.on 5 .go .nl)))))) follows_mixed (.thn (.inb .rnd)) (by kernel_rfl) ?_
        refine .dpu rfl (.n rfl) (P.mov .t0) rfl rfl ?_
        refine .dfk ?_ ?_
        · refine .dgo rfl (.n rfl) (OpV.g (V.ld (v := z18.1) .g1 .k3 (.one isAgg146 rfl)) rfl) (.inr fun _ _ _ h => h) fun _ _ => ?_
          refine .dgo rfl (.n rfl) (G.call call109 (.cons .t1 .nil) (S_slices_Clone_byte u34 (slc a0 (s17.1).toNat (IntKind.i64.wrap (s17.1 + (if ((slc a0 (s17.1).toNat a0.length).length : Int) < y1 then ((slc a0 (s17.1).toNat a0.length).length : Int) else y1))).toNat) r39 hr40) .nil (.cons Mm.m0 .nil) (fun _ _ => rfl) (fun _ _ => rfl) rfl) (.inl rfl) fun u41 _ => ?_
          refine .onel .k0 fun ho43 => ?_
          refine .dgo rfl (.n rfl) (G.bsl (cs := [u41]) .t0 runUnderlying146 sizeOf131 zeroValue131 (cells1 ho43) rfl rfl rfl rfl) (.inl rfl) fun u42 _ => ?_
          refine .gzl Mm.m3 fun hz45 => ?_
          refine .frz .k1 ?_
          refine .gzn (G := (fun (x : List UInt8) z => rows 1 z (x.map (fun x => [B8 x])))) ?_
          refine .gzc (x := r39) (z := u41) Mm.m0 rfl ?_
          refine .gzo (D := (fun (_ : List UInt8) z => [z])) Mm.m0 (fun _ _ _ h => rows_one h) (fun _ _ h => onez h) fun ho46 => ?_
          refine .gza Mm.m5 Mm.m0 ?_
          refine .dgo rfl (.n rfl) (G.app (by_ := 24) .t1 .t0 .k5 (.inr (.inr ⟨_, Mm.m0⟩)) runUnderlying146 runUnderlying146 sizeOf131 typeInfo131 rfl rfl zeroValue131 rfl ho46 (by simpa [zip_len hz45] using hb47) rfl) (.inl rfl) fun u44 _ => ?_
          refine .conseq .k0 (q := lst 131 1 u44 (List.zipWith (fun (_ : List UInt8) z => [z]) (s17.2 ++ ([r39] : List (List UInt8))) (z18.2 ++ [u41]))) (fun _ hh => by simpa [zip_app hz45] using hh) ?_
          refine .onel .k0 fun ho48 => ?_
          refine .dgo rfl (.n rfl) (G.str .t0 .t0 .k5 (.mk1 (cs' := [u44]) sizeOf146 rfl ho48 rfl rfl)) (.inl rfl) fun _ _ => ?_
          refine .dnil ?_
          exact .dst ⟨u41, u42, u44⟩ trivial .nil (Ls.of (.cons .k0 (.cons .k0 (.cons .k0 (.cons .k0 (.cons .k0 (.cons .k0 (.cons .k0 .nil)))))))) (.cons Mm.m0 (.cons Mm.m1 (.cons Mm.m2 (.cons Mm.m3 (.cons Mm.m4 (.cons Mm.m5 (.cons Mm.m6 .nil)))))))
        · refine .dgo rfl (.n rfl) (G.call call109 (.cons .t0 .nil) (S_slices_Clone_byte u34 (slc a0 (s17.1).toNat (IntKind.i64.wrap (s17.1 + (if ((slc a0 (s17.1).toNat a0.length).length : Int) < y1 then ((slc a0 (s17.1).toNat a0.length).length : Int) else y1))).toNat) r39 hr40) .nil (.cons Mm.m0 .nil) (fun _ _ => rfl) (fun _ _ => rfl) rfl) (.inl rfl) fun u41 _ => ?_
          refine .dfk ?_ ?_
          · refine .dgo rfl (.n rfl) (OpV.g (V.ld (v := z18.1) .g1 .k4 (.one isAgg146 rfl)) rfl) (.inl rfl) fun _ _ => ?_
            refine .onel .k0 fun ho43 => ?_
            refine .dgo rfl (.n rfl) (G.bsl (cs := [u41]) .t1 runUnderlying146 sizeOf131 zeroValue131 (cells1 ho43) rfl rfl rfl rfl) (.inl rfl) fun u42 _ => ?_
            refine .gzl Mm.m3 fun hz45 => ?_
            refine .frz .k1 ?_
            refine .gzn (G := (fun (x : List UInt8) z => rows 1 z (x.map (fun x => [B8 x])))) ?_
            refine .gzc (x := r39) (z := u41) Mm.m0 rfl ?_
            refine .gzo (D := (fun (_ : List UInt8) z => [z])) Mm.m0 (fun _ _ _ h => rows_one h) (fun _ _ h => onez h) fun ho46 => ?_
            refine .gza Mm.m5 Mm.m0 ?_
            refine .dgo rfl (.n rfl) (G.app (by_ := 24) .t1 .t0 .k5 (.inr (.inr ⟨_, Mm.m0⟩)) runUnderlying146 runUnderlying146 sizeOf131 typeInfo131 rfl rfl zeroValue131 rfl ho46 (by simpa [zip_len hz45] using hb47) rfl) (.inl rfl) fun u44 _ => ?_
            refine .conseq .k0 (q := lst 131 1 u44 (List.zipWith (fun (_ : List UInt8) z => [z]) (s17.2 ++ ([r39] : List (List UInt8))) (z18.2 ++ [u41]))) (fun _ hh => by simpa [zip_app hz45] using hh) ?_
            refine .onel .k0 fun ho48 => ?_
            refine .dgo rfl (.n rfl) (G.str .t0 .t0 .k5 (.mk1 (cs' := [u44]) sizeOf146 rfl ho48 rfl rfl)) (.inl rfl) fun _ _ => ?_
            refine .dnil ?_
            exact .dst ⟨u41, u42, u44⟩ trivial .nil (Ls.of (.cons .k0 (.cons .k0 (.cons .k0 (.cons .k0 (.cons .k0 (.cons .k0 (.cons .k0 .nil)))))))) (.cons Mm.m0 (.cons Mm.m1 (.cons Mm.m2 (.cons Mm.m3 (.cons Mm.m4 (.cons Mm.m5 (.cons Mm.m6 .nil)))))))
          · refine .onel .k0 fun ho43 => ?_
            refine .dgo rfl (.n rfl) (G.bsl (cs := [u41]) .t0 runUnderlying146 sizeOf131 zeroValue131 (cells1 ho43) rfl rfl rfl rfl) (.inl rfl) fun u42 _ => ?_
            refine .dgo rfl (.n rfl) (OpV.g (V.ld (v := z18.1) .g1 .k5 (.one isAgg146 rfl)) rfl) (.inl rfl) fun _ _ => ?_
            refine .gzl Mm.m3 fun hz45 => ?_
            refine .frz .k1 ?_
            refine .gzn (G := (fun (x : List UInt8) z => rows 1 z (x.map (fun x => [B8 x])))) ?_
            refine .gzc (x := r39) (z := u41) Mm.m0 rfl ?_
            refine .gzo (D := (fun (_ : List UInt8) z => [z])) Mm.m0 (fun _ _ _ h => rows_one h) (fun _ _ h => onez h) fun ho46 => ?_
            refine .gza Mm.m5 Mm.m0 ?_
            refine .dgo rfl (.n rfl) (G.app (by_ := 24) .t0 .t0 .k5 (.inr (.inr ⟨_, Mm.m0⟩)) runUnderlying146 runUnderlying146 sizeOf131 typeInfo131 rfl rfl zeroValue131 rfl ho46 (by simpa [zip_len hz45] using hb47) rfl) (.inl rfl) fun u44 _ => ?_
            refine .conseq .k0 (q := lst 131 1 u44 (List.zipWith (fun (_ : List UInt8) z => [z]) (s17.2 ++ ([r39] : List (List UInt8))) (z18.2 ++ [u41]))) (fun _ hh => by simpa [zip_app hz45] using hh) ?_
            refine .onel .k0 fun ho48 => ?_
            refine .dgo rfl (.n rfl) (G.str .t0 .t0 .k5 (.mk1 (cs' := [u44]) sizeOf146 rfl ho48 rfl rfl)) (.inl rfl) fun _ _ => ?_
            refine .dnil ?_
            exact .dst ⟨u41, u42, u44⟩ trivial .nil (Ls.of (.cons .k0 (.cons .k0 (.cons .k0 (.cons .k0 (.cons .k0 (.cons .k0 (.cons .k0 .nil)))))))) (.cons Mm.m0 (.cons Mm.m1 (.cons Mm.m2 (.cons Mm.m3 (.cons Mm.m4 (.cons Mm.m5 (.cons Mm.m6 .nil)))))))
      · obtain ⟨u41, u42, u44⟩ := x_
        refine .inn ?_
        refine .rnorm rfl ⟨rfl, rfl, rfl⟩ ha38 hO16 .k3 rfl ?_
        refine .inL rfl ?_
        refine .opp (P.not .t0) rfl ?_
        refine .nil ?_
        refine .then ?_
        refine .condF .t0 ?_
        refine .skip ?_
        refine .inn ?_
        refine .then ?_
        refine .reg rfl ?_
        refine .opp (P.mov .g0) rfl ?_
        refine .op (V.ld (v := N y1) .g4 .k5 (.one isAgg3 rfl)) rfl ?_
        refine .opp (P.bin .t1 .t0 .add) rfl ?_
        refine .drop .k1 ?_
        refine .opp (P.asg .t0) rfl ?_
        refine .nil ?_
        cases hc21
        obtain ⟨m49, hm50, hn22⟩ := hn22
        exact .rdW ((IntKind.i64.wrap (s17.1 + y1), (s17.2 ++ ([r39] : List (List UInt8))))) ⟨u44, (z18.2 ++ [u41])⟩ hm50 hn22 (.cons Mm.m0 (.cons Mm.m1 (.cons Mm.m2 (.cons Mm.m3 .nil)))) (.of (.cons .k4 (.cons .k4 (.cons .k1 (.cons .k1 (.cons .k0 (.cons .k1 .nil))))))) (.cons Mm.m5 (.cons Mm.m0 .nil))
    · rw [if_neg (ne_true_of_eq_false c26)] at hc21
      refine .exit ?_
      refine .thx ?_
      cases hc21
      refine .told (γ := Value × List Value) h hn22 (fun (s17 : Int × (List (List UInt8))) z18 => [(4, N s17.1), (0, yv l14), (1, pt b9 0), (2, pt b10 0)]) (fun (s17 : Int × (List (List UInt8))) z18 => [blk b9 131 [v00], blk b10 3 [N y1], blk b5 146 [z18.1], lst 131 1 z18.1 (List.zipWith (fun (_ : List UInt8) z => [z]) s17.2 z18.2), obj l14 (O12 .ready none), obj D13 (.deferred (some []))]) (fun (s17 : Int × (List (List UInt8))) z18 => [rows 1 v00 (a0.map (fun x => [B8 x])), gz (fun (x : List UInt8) z => rows 1 z (x.map (fun x => [B8 x]))) s17.2 z18.2]) ⟨z18.1, z18.2⟩ (.cons Mm.m0 (.cons Mm.m1 (.cons Mm.m2 (.cons Mm.m3 .nil)))) (.of (.cons .k0 (.cons .k0 (.cons .k0 (.cons .k0 (.cons .k0 (.cons .k0 .nil))))))) (.cons Mm.m0 (.cons Mm.m1 .nil)) (fun s17 z18 h' => ?_)
      replace h := h'
      refine .thx ?_
      refine .inb ?_
      refine .rfinn ha15 hO16 .k4 rfl ?_
      refine .inn ?_
      refine .then ?_
      refine .seq ?_
      refine .reg rfl ?_
      refine .op (V.ld (v := z18.1) .t0 .k2 (.one isAgg146 rfl)) rfl ?_
      refine .opp (P.asg .t0) rfl ?_
      refine .nil ?_
      refine .then ?_
      refine .ret ?_
      cases h
      exact .finm ⟨z18.1, z18.2⟩ .k4 (.r1 rfl (.tmp .g0)) trivial (Ls.of (.cons .k3 .nil)) (.cons Mm.m1 .nil)
attribute [irreducible] blob_Cut
noncomputable def ots_Open_1 (a0 : ByteArray) : Bool :=
  decide ((a0.size : Int) ≠ 8)
set_option maxRecDepth 20000 in
set_option maxHeartbeats 1000000 in
theorem S_ots_Open_1 (a0 : ByteArray) (r : Bool) (h : ots_Open_1 a0 = r) :
    SpecF Tryz.prog 112 [.string a0] [] [] (fun z : Unit => True) (fun z => Bo r) (fun z M =>  M) (fun z M =>  M) := by
  refine .of func112 rfl ntmps112 rfl fun w0 D0 G0 => ?_
  unfold ots_Open_1 at h
  refine .seq ?_
  refine .reg rfl ?_
  refine .op0 (OpP.toV (P.asg .k)) rfl ?_
  refine .nil ?_
  refine .then ?_
  refine .seq ?_
  refine .reg rfl ?_
  refine .opp (P.mov .t0) rfl ?_
  refine .opp (P.lens .t0 runUnderlying9) rfl ?_
  refine .opp (P.bin .t0 .k .neq) rfl ?_
  refine .opp (P.asg .t0) rfl ?_
  refine .nil ?_
  refine .then ?_
  refine .ret ?_
  subst h
  exact .finw () (.r1 rfl (.tmp .g0)) trivial (Ls.of .nil) .nil
attribute [irreducible] ots_Open_1
noncomputable def slices_IndexFunc_string_ots_Open_1 (a0 : List ByteArray) : Option (Int) :=
  Option.bind (loopR (fun (i1 : Nat) (e4 : ByteArray) (s2 : Unit) => if (ots_Open_1 e4) = true then (Option.map Ct.rt (some (i1 : Int))) else (some (.nx ()))) 0 a0 ()) fun o5 => Lo.on o5 fun (s2 : Unit) => some (-1)
set_option maxRecDepth 20000 in
set_option maxHeartbeats 1000000 in
theorem S_slices_IndexFunc_string_ots_Open_1 (v00 : Value) (a0 : List ByteArray) (r : Int) (h : slices_IndexFunc_string_ots_Open_1 a0 = some r) :
    SpecF Tryz.prog 122 [v00, fnv 112 []] [] [rows 1 v00 (a0.map (fun x => [.string x]))] (fun z : Unit => True) (fun z => N r) (fun z M =>  M) (fun z M =>  M) := by
  refine .of func122 rfl ntmps122 rfl fun w0 D0 G0 => ?_
  unfold slices_IndexFunc_string_ots_Open_1 at h
  refine .seq ?_
  refine .reg rfl ?_
  refine .op0 (OpP.toV (P.asg .k)) rfl ?_
  refine .nil ?_
  refine .then ?_
  refine .seq ?_
  refine .seq ?_
  refine .reg rfl ?_
  refine .opp (P.mov .g0) rfl ?_
  refine .op (V.lnr (n := a0.length) .t0 Mm.m0 map_len runUnderlying152) rfl ?_
  refine .opp (P.mov .k) rfl ?_
  refine .nil ?_
  refine .then ?_
  refine .block ?_
  obtain ⟨o5, ho6, h⟩ := bnd_eq h
  refine .lenq Mm.m0 fun hl12 => ?_
  rw [map_len] at hl12
  refine .loopR (γ := Unit) (fun i1 (s2 : Unit) z3 => [(8, N (i1 : Int)), (7, N (a0.length : Int)), (0, v00), (1, fnv 112 [])]) (fun (s2 : Unit) z3 => []) (fun (s2 : Unit) z3 => [rows 1 v00 (a0.map (fun x => [.string x]))]) () ho6 (.cons Mm.m0 (.cons Mm.m1 (.cons Mm.m2 (.cons Mm.m3 .nil)))) (.of .nil) (.cons Mm.m0 .nil) (fun i1 s2 z3 hi13 hr9 => ?_)
  refine .seq ?_
  refine .reg rfl ?_
  refine .opp (P.bin (v := Bo (decide ((i1 : Int) < (a0.length : Nat)))) .g0 .g1 .lss) rfl ?_
  refine .nil ?_
  refine .then ?_
  refine .seq ?_
  refine .cond .t0 (fun c14 => ?_) (fun c14 => ?_)
  · obtain ⟨e4, hx11⟩ := get_of c14
    obtain ⟨ct10, hc7, hn8⟩ := loopR_at hx11 hr9
    refine .skip ?_
    refine .then ?_
    refine .seq ?_
    refine .block ?_
    refine .seq ?_
    refine .reg rfl ?_
    refine .opp (P.mov .g0) rfl ?_
    refine .opp (P.asg .t0) rfl ?_
    refine .nil ?_
    refine .then ?_
    refine .seq ?_
    refine .reg rfl ?_
    refine .opp (P.mov .g4) rfl ?_
    refine .opp (P.mov .g4) rfl ?_
    refine .opp (P.mov .g2) rfl ?_
    refine .ixq Mm.m0 (map_get hx11) fun p15 q16 hq17 => ?_
    refine .opp (P.ixi (i := i1) .t0 rfl .t0 hq17 runUnderlying152 sizeOf9) rfl ?_
    refine .op (V.ldx0 (u := .string e4) .t0 hq17 Mm.m0 (map_get hx11) (.one isAgg9 rfl)) rfl ?_
    refine .opg (G.callv call112 .t1 (.cons .t0 .nil) (S_ots_Open_1 e4 _ rfl) .nil .nil (fun _ _ => rfl) (fun _ _ => rfl) rfl) rfl fun _ _ => ?_
    refine .nil ?_
    refine .then ?_
    refine .cond .t0 (fun c18 => ?_) (fun c18 => ?_)
    · rw [if_pos c18] at hc7
      refine .seq ?_
      refine .reg rfl ?_
      refine .opp (P.mov .t0) rfl ?_
      refine .opp (P.asg .t0) rfl ?_
      refine .nil ?_
      refine .then ?_
      refine .ret ?_
      refine .inr ?_
      refine .thr ?_
      obtain ⟨x19, hx20, rfl⟩ := map_rt hc7
      obtain rfl := hn8
      obtain rfl := rt_on h
      refine .thr ?_
      refine .inr ?_
      refine .thr ?_
      cases hx20
      exact .finw () (.r1 rfl (.tmp .g0)) trivial (Ls.of .nil) .nil
    · rw [if_neg (ne_true_of_eq_false c18)] at hc7
      refine .skip ?_
      refine .inn ?_
      refine .then ?_
      refine .reg rfl ?_
      refine .opp (P.bin .g1 .k (.addc (inc_ok (lt_of_get hx11) hl12))) rfl ?_
      refine .drop .k2 ?_
      refine .opp (P.mov .t0) rfl ?_
      refine .nil ?_
      cases hc7
      exact .rdR () () hn8 (lt_of_get hx11) (.cons Mm.m0 (.cons Mm.m2 (.cons Mm.m3 (.cons Mm.m4 .nil)))) (.of .nil) (.cons Mm.m0 .nil)
  · obtain rfl := loopR_end (le_of_not c14) hr9
    have h := dn_on h
    refine .exit ?_
    refine .thx ?_
    refine .thx ?_
    refine .inb ?_
    refine .then ?_
    refine .seq ?_
    refine .reg rfl ?_
    refine .opp (P.asg .k) rfl ?_
    refine .nil ?_
    refine .then ?_
    refine .ret ?_
    cases h
    exact .finw () (.r1 rfl (.tmp .g0)) trivial (Ls.of .nil) .nil
attribute [irreducible] slices_IndexFunc_string_ots_Open_1
end Go.Sl
