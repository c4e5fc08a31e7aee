/- Walked code of the program, its pure functions and their contracts. -/
import Derived.Test.YtjlalcoommhfoaaGreatSlDvb
set_option linter.unusedVariables false
set_option linter.unusedSimpArgs false
namespace Go.Sl
open Go.Proofs Go.Proofs.Tryz
theorem fa_58_0 : FaV Tryz.prog 58 0 0 := .mk runUnderlying58 rfl sizeOf23 rfl rfl
theorem fa_58_3 : FaV Tryz.prog 58 3 8 := .mk runUnderlying58 rfl sizeOf52 rfl rfl
theorem fa_79_0 : FaV Tryz.prog 79 0 0 := .mk runUnderlying79 rfl sizeOf3 rfl rfl
theorem fa_79_1 : FaV Tryz.prog 79 1 1 := .mk runUnderlying79 rfl sizeOf9 rfl rfl
theorem fa_79_2 : FaV Tryz.prog 79 2 2 := .mk runUnderlying79 rfl sizeOf3 rfl rfl
theorem fa_79_3 : FaV Tryz.prog 79 3 3 := .mk runUnderlying79 rfl sizeOf3 rfl rfl
theorem fa_79_4 : FaV Tryz.prog 79 4 4 := .mk runUnderlying79 rfl sizeOf3 rfl rfl
theorem fa_79_5 : FaV Tryz.prog 79 5 5 := .mk runUnderlying79 rfl sizeOf3 rfl rfl
theorem fa_79_6 : FaV Tryz.prog 79 6 6 := .mk runUnderlying79 rfl sizeOf9 rfl rfl
theorem fa_81_0 : FaV Tryz.prog 81 0 0 := .mk runUnderlying81 rfl sizeOf77 rfl rfl
theorem fa_81_1 : FaV Tryz.prog 81 1 4 := .mk runUnderlying81 rfl sizeOf3 rfl rfl
theorem fa_83_0 : FaV Tryz.prog 83 0 0 := .mk runUnderlying83 rfl sizeOf3 rfl rfl
theorem fa_83_1 : FaV Tryz.prog 83 1 1 := .mk runUnderlying83 rfl sizeOf3 rfl rfl
theorem fa_83_2 : FaV Tryz.prog 83 2 2 := .mk runUnderlying83 rfl sizeOf3 rfl rfl
theorem fa_83_3 : FaV Tryz.prog 83 3 3 := .mk runUnderlying83 rfl sizeOf3 rfl rfl
theorem fa_83_4 : FaV Tryz.prog 83 4 4 := .mk runUnderlying83 rfl sizeOf77 rfl rfl
theorem fa_83_5 : FaV Tryz.prog 83 5 8 := .mk runUnderlying83 rfl sizeOf79 rfl rfl
theorem fa_83_6 : FaV Tryz.prog 83 6 15 := .mk runUnderlying83 rfl sizeOf81 rfl rfl
theorem fa_83_8 : FaV Tryz.prog 83 8 24 := .mk runUnderlying83 rfl sizeOf9 rfl rfl
theorem fa_90_2 : FaV Tryz.prog 90 2 2 := .mk runUnderlying90 rfl sizeOf86 rfl rfl
theorem fa_90_4 : FaV Tryz.prog 90 4 130 := .mk runUnderlying90 rfl sizeOf87 rfl rfl
theorem fa_90_7 : FaV Tryz.prog 90 7 150 := .mk runUnderlying90 rfl sizeOf88 rfl rfl
theorem fa_93_0 : FaV Tryz.prog 93 0 0 := .mk runUnderlying93 rfl sizeOf90 rfl rfl
theorem fa_93_1 : FaV Tryz.prog 93 1 151 := .mk runUnderlying93 rfl sizeOf31 rfl rfl
theorem fa_93_3 : FaV Tryz.prog 93 3 153 := .mk runUnderlying93 rfl sizeOf4 rfl rfl
theorem pl_79 : ∀ w, ((#[{ name := "User", type := 3, offset := 0, embedded := false, tag := "", pkgPath := "", byteOffset := 0 }, { name := "Root", type := 9, offset := 1, embedded := false, tag := "", pkgPath := "", byteOffset := 8 }, { name := "Router", type := 3, offset := 2, embedded := false, tag := "", pkgPath := "", byteOffset := 24 }, { name := "Send", type := 3, offset := 3, embedded := false, tag := "", pkgPath := "", byteOffset := 32 }, { name := "Recv", type := 3, offset := 4, embedded := false, tag := "", pkgPath := "", byteOffset := 40 }, { name := "To", type := 3, offset := 5, embedded := false, tag := "", pkgPath := "", byteOffset := 48 }, { name := "Id", type := 9, offset := 6, embedded := false, tag := "", pkgPath := "", byteOffset := 56 }] : Array Field).mapM fun f => do pure (f.offset, ← sizeOf f.type) : Sem (Array (Nat × Nat))).run Tryz.prog w = .ok #[(0, 1), (1, 1), (2, 1), (3, 1), (4, 1), (5, 1), (6, 1)] w := fun w => by simp [sizeOf3, sizeOf9]
theorem pl_83 : ∀ w, ((#[{ name := "From", type := 3, offset := 0, embedded := false, tag := "", pkgPath := "", byteOffset := 0 }, { name := "Nonce", type := 3, offset := 1, embedded := false, tag := "", pkgPath := "", byteOffset := 8 }, { name := "Kind", type := 3, offset := 2, embedded := false, tag := "", pkgPath := "", byteOffset := 16 }, { name := "Asset", type := 3, offset := 3, embedded := false, tag := "", pkgPath := "", byteOffset := 24 }, { name := "Amount", type := 77, offset := 4, embedded := false, tag := "", pkgPath := "", byteOffset := 32 }, { name := "Inv", type := 79, offset := 8, embedded := false, tag := "", pkgPath := "", byteOffset := 64 }, { name := "Var", type := 81, offset := 15, embedded := false, tag := "", pkgPath := "", byteOffset := 136 }, { name := "Fee", type := 77, offset := 20, embedded := false, tag := "", pkgPath := "", byteOffset := 176 }, { name := "Sig", type := 9, offset := 24, embedded := false, tag := "", pkgPath := "", byteOffset := 208 }] : Array Field).mapM fun f => do pure (f.offset, ← sizeOf f.type) : Sem (Array (Nat × Nat))).run Tryz.prog w = .ok #[(0, 1), (1, 1), (2, 1), (3, 1), (4, 4), (8, 7), (15, 5), (20, 4), (24, 1)] w := fun w => by simp [sizeOf3, sizeOf9, sizeOf77, sizeOf79, sizeOf81]
theorem pl_110 : ∀ w, ((#[{ name := "router", type := 3, offset := 0, embedded := false, tag := "", pkgPath := "narrows/router", byteOffset := 0 }, { name := "d", type := 3, offset := 1, embedded := false, tag := "", pkgPath := "narrows/router", byteOffset := 8 }, { name := "disk", type := 104, offset := 2, embedded := false, tag := "", pkgPath := "narrows/router", byteOffset := 16 }, { name := "asks", type := 106, offset := 3, embedded := false, tag := "", pkgPath := "narrows/router", byteOffset := 24 }, { name := "bids", type := 107, offset := 4, embedded := false, tag := "", pkgPath := "narrows/router", byteOffset := 48 }, { name := "mirrors", type := 108, offset := 5, embedded := false, tag := "", pkgPath := "narrows/router", byteOffset := 72 }, { name := "down", type := 4, offset := 6, embedded := false, tag := "", pkgPath := "narrows/router", byteOffset := 96 }, { name := "made", type := 4, offset := 7, embedded := false, tag := "", pkgPath := "narrows/router", byteOffset := 97 }] : Array Field).mapM fun f => do pure (f.offset, ← sizeOf f.type) : Sem (Array (Nat × Nat))).run Tryz.prog w = .ok #[(0, 1), (1, 1), (2, 1), (3, 1), (4, 1), (5, 1), (6, 1), (7, 1)] w := fun w => by simp [sizeOf3, sizeOf4, sizeOf104, sizeOf106, sizeOf107, sizeOf108]
theorem pl_155 : ∀ w, ((#[{ name := "b", type := 70, offset := 0, embedded := false, tag := "", pkgPath := "narrows/disk", byteOffset := 0 }, { name := "sure", type := 3, offset := 1, embedded := false, tag := "", pkgPath := "narrows/disk", byteOffset := 24 }, { name := "room", type := 3, offset := 2, embedded := false, tag := "", pkgPath := "narrows/disk", byteOffset := 32 }, { name := "made", type := 4, offset := 3, embedded := false, tag := "", pkgPath := "narrows/disk", byteOffset := 40 }] : Array Field).mapM fun f => do pure (f.offset, ← sizeOf f.type) : Sem (Array (Nat × Nat))).run Tryz.prog w = .ok #[(0, 1), (1, 1), (2, 1), (3, 1)] w := fun w => by simp [sizeOf3, sizeOf4, sizeOf70]
theorem one_83 (x : api_Tx) : oneAll (api_Tx.cs x) = true := rfl
theorem one_241 (x : escrow_Lock) : oneAll (escrow_Lock.cs x) = true := rfl
theorem eqv_79 (d : Nat) (x y : api_Inv) : EqV Tryz.prog (d + 2) 79 (Ag x.cs) (Ag y.cs) (decide (x = y)) :=
  EqV.cast (.struct (fs := [{ name := "User", type := 3, offset := 0, embedded := false, tag := "", pkgPath := "", byteOffset := 0 }, { name := "Root", type := 9, offset := 1, embedded := false, tag := "", pkgPath := "", byteOffset := 8 }, { name := "Router", type := 3, offset := 2, embedded := false, tag := "", pkgPath := "", byteOffset := 24 }, { name := "Send", type := 3, offset := 3, embedded := false, tag := "", pkgPath := "", byteOffset := 32 }, { name := "Recv", type := 3, offset := 4, embedded := false, tag := "", pkgPath := "", byteOffset := 40 }, { name := "To", type := 3, offset := 5, embedded := false, tag := "", pkgPath := "", byteOffset := 48 }, { name := "Id", type := 9, offset := 6, embedded := false, tag := "", pkgPath := "", byteOffset := 56 }]) (by kernel_rfl) (by kernel_rfl) (.cons rfl (.one isAgg3 rfl) (.one isAgg3 rfl) (EqV.int (by kernel_rfl)) (.cons rfl (.one isAgg9 rfl) (.one isAgg9 rfl) (EqV.str (by kernel_rfl)) (.cons rfl (.one isAgg3 rfl) (.one isAgg3 rfl) (EqV.int (by kernel_rfl)) (.cons rfl (.one isAgg3 rfl) (.one isAgg3 rfl) (EqV.int (by kernel_rfl)) (.cons rfl (.one isAgg3 rfl) (.one isAgg3 rfl) (EqV.int (by kernel_rfl)) (.cons rfl (.one isAgg3 rfl) (.one isAgg3 rfl) (EqV.int (by kernel_rfl)) (.cons rfl (.one isAgg9 rfl) (.one isAgg9 rfl) (EqV.str (by kernel_rfl)) .nil)))))))) (by cases x; cases y; rw [Bool.eq_iff_iff]; simp [api_Inv.mk.injEq, and_assoc])
theorem eq_79_eql (x y : api_Inv) : BinV Tryz.prog .eql 79 (Ag x.cs) (Ag y.cs) (Bo (decide (x = y))) := .eqv (by kernel_rfl) (eqv_79 9998 x y)
theorem eq_79_neq (x y : api_Inv) : BinV Tryz.prog .neq 79 (Ag x.cs) (Ag y.cs) (Bo (decide (x ≠ y))) := by
  have := BinV.neqv (P := Tryz.prog) (by kernel_rfl) (eqv_79 9998 x y); rw [← decide_not'] at this; exact this
theorem eqv_81 (d : Nat) (x y : api_Var) : EqV Tryz.prog (d + 3) 81 (Ag x.cs) (Ag y.cs) (decide (x = y)) :=
  EqV.cast (.struct (fs := [{ name := "Amount", type := 77, offset := 0, embedded := false, tag := "", pkgPath := "", byteOffset := 0 }, { name := "Expiry", type := 3, offset := 4, embedded := false, tag := "", pkgPath := "", byteOffset := 32 }]) (by kernel_rfl) (by kernel_rfl) (.cons rfl (.agg isAgg77 sizeOf77 (by kernel_rfl)) (.agg isAgg77 sizeOf77 (by kernel_rfl)) (eqv_77 _ x.Amount y.Amount) (.cons rfl (.one isAgg3 rfl) (.one isAgg3 rfl) (EqV.int (by kernel_rfl)) .nil))) (by cases x; cases y; rw [Bool.eq_iff_iff]; simp [api_Var.mk.injEq, and_assoc])
theorem eq_81_eql (x y : api_Var) : BinV Tryz.prog .eql 81 (Ag x.cs) (Ag y.cs) (Bo (decide (x = y))) := .eqv (by kernel_rfl) (eqv_81 9997 x y)
theorem eq_81_neq (x y : api_Var) : BinV Tryz.prog .neq 81 (Ag x.cs) (Ag y.cs) (Bo (decide (x ≠ y))) := by
  have := BinV.neqv (P := Tryz.prog) (by kernel_rfl) (eqv_81 9997 x y); rw [← decide_not'] at this; exact this
theorem eqv_83 (d : Nat) (x y : api_Tx) : EqV Tryz.prog (d + 4) 83 (Ag x.cs) (Ag y.cs) (decide (x = y)) :=
  EqV.cast (.struct (fs := [{ name := "From", type := 3, offset := 0, embedded := false, tag := "", pkgPath := "", byteOffset := 0 }, { name := "Nonce", type := 3, offset := 1, embedded := false, tag := "", pkgPath := "", byteOffset := 8 }, { name := "Kind", type := 3, offset := 2, embedded := false, tag := "", pkgPath := "", byteOffset := 16 }, { name := "Asset", type := 3, offset := 3, embedded := false, tag := "", pkgPath := "", byteOffset := 24 }, { name := "Amount", type := 77, offset := 4, embedded := false, tag := "", pkgPath := "", byteOffset := 32 }, { name := "Inv", type := 79, offset := 8, embedded := false, tag := "", pkgPath := "", byteOffset := 64 }, { name := "Var", type := 81, offset := 15, embedded := false, tag := "", pkgPath := "", byteOffset := 136 }, { name := "Fee", type := 77, offset := 20, embedded := false, tag := "", pkgPath := "", byteOffset := 176 }, { name := "Sig", type := 9, offset := 24, embedded := false, tag := "", pkgPath := "", byteOffset := 208 }]) (by kernel_rfl) (by kernel_rfl) (.cons rfl (.one isAgg3 rfl) (.one isAgg3 rfl) (EqV.int (by kernel_rfl)) (.cons rfl (.one isAgg3 rfl) (.one isAgg3 rfl) (EqV.int (by kernel_rfl)) (.cons rfl (.one isAgg3 rfl) (.one isAgg3 rfl) (EqV.int (by kernel_rfl)) (.cons rfl (.one isAgg3 rfl) (.one isAgg3 rfl) (EqV.int (by kernel_rfl)) (.cons rfl (.agg isAgg77 sizeOf77 (by kernel_rfl)) (.agg isAgg77 sizeOf77 (by kernel_rfl)) (eqv_77 _ x.Amount y.Amount) (.cons rfl (.agg isAgg79 sizeOf79 (by kernel_rfl)) (.agg isAgg79 sizeOf79 (by kernel_rfl)) (eqv_79 _ x.Inv y.Inv) (.cons rfl (.agg isAgg81 sizeOf81 (by kernel_rfl)) (.agg isAgg81 sizeOf81 (by kernel_rfl)) (eqv_81 _ x.Var y.Var) (.cons rfl (.agg isAgg77 sizeOf77 (by kernel_rfl)) (.agg isAgg77 sizeOf77 (by kernel_rfl)) (eqv_77 _ x.Fee y.Fee) (.cons rfl (.one isAgg9 rfl) (.one isAgg9 rfl) (EqV.str (by kernel_rfl)) .nil)))))))))) (by cases x; cases y; rw [Bool.eq_iff_iff]; simp [api_Tx.mk.injEq, and_assoc])
theorem eq_83_eql (x y : api_Tx) : BinV Tryz.prog .eql 83 (Ag x.cs) (Ag y.cs) (Bo (decide (x = y))) := .eqv (by kernel_rfl) (eqv_83 9996 x y)
theorem eq_83_neq (x y : api_Tx) : BinV Tryz.prog .neq 83 (Ag x.cs) (Ag y.cs) (Bo (decide (x ≠ y))) := by
  have := BinV.neqv (P := Tryz.prog) (by kernel_rfl) (eqv_83 9996 x y); rw [← decide_not'] at this; exact this
noncomputable def ots_Walk (a0 : ByteArray) (a1 : Int) : Option (ByteArray) :=
  Option.bind (loopW (fun (s1 : Int × ByteArray) => if (decide (s1.1 < (if 3 < (if 0 > a1 then 0 else a1) then 3 else if 0 > a1 then 0 else a1))) = true then (grd (s1.2.size ≤ 140737488355328) <| Option.bind (hash_Short_n1 (s1.2.data.toList)) fun r15 => some (.nx ((IntKind.i64.wrap (s1.1 + 1), r15)))) else (some (.br (s1.1, s1.2)))) (0, a0)) fun o3 => Lo.on o3 fun (s1 : Int × ByteArray) => some s1.2
set_option maxRecDepth 20000 in
set_option maxHeartbeats 8000000 in
theorem S_ots_Walk (a0 : ByteArray) (a1 : Int) (r : ByteArray) (h : ots_Walk a0 a1 = some r) :
    SpecF Tryz.prog 192 [.string a0, N a1] [] [] (fun z : Unit => True) (fun z => .string r) (fun z M =>  M) (fun z M =>  M) := by
  refine .of func192 rfl ntmps192 rfl fun w0 D0 G0 => ?_
  unfold ots_Walk at h
  refine .seq <| .reg rfl <| .op0 (OpP.toV (P.asg .k)) rfl <| .nil <| .then <| .seq <| .seq <| .reg rfl <| .opp (P.mov .t1) rfl <| .opp (P.max2 .t0 .k) rfl <| .opp (P.min2 .t0 .k) rfl <| .opp (P.mov .k) rfl ?_
  refine .nil <| .then <| .block ?_
  obtain ⟨o3, ho4, h⟩ := bnd_eq h
  refine .loopW (γ := Unit) (fun (s1 : Int × ByteArray) z2 => [(8, N s1.1), (7, N (if 3 < (if 0 > a1 then 0 else a1) then 3 else if 0 > a1 then 0 else a1)), (0, .string s1.2)]) (fun (s1 : Int × ByteArray) z2 => []) (fun (s1 : Int × ByteArray) z2 => []) () ho4 (.cons Mm.m0 (.cons Mm.m1 (.cons Mm.m2 .nil))) (.of .nil) .nil (fun n9 s1 z2 hr7 => ?_)
  obtain ⟨ct8, hc5, hn6⟩ := loopK_at hr7
  refine .seq <| .reg rfl <| .opp (P.bin .g0 .g1 .lss) rfl <| .nil <| .then <| .seq <| .cond .t0 (fun c10 => ?_) (fun c10 => ?_)
  · rw [if_pos c10] at hc5
    refine .skip <| .then <| .seq <| .block <| .reg rfl <| .opp (P.mov .g2) rfl ?_
    obtain ⟨hb12, hc5⟩ := grd_eq hc5
    refine .opg (G.s2b (e := 5) .t0 (by kernel_rfl) (by kernel_rfl) (by kernel_rfl) hb12 rfl) rfl fun u11 _ => .oner Mm.m0 fun ho14 => .opg (G.bsl (cs := [u11]) .t0 runUnderlying116 sizeOf70 zeroValue70 (cells1 ho14) rfl rfl rfl rfl) rfl fun u13 _ => .frz .k0 ?_
    obtain ⟨r15, hr16, hc5⟩ := bnd_eq hc5
    refine .opg (G.call call125 (.cons .t0 .nil) (S_hash_Short_n1 u13 u11 (s1.2.data.toList) r15 hr16) .nil (.cons Mm.m0 (.cons Mm.m1 .nil)) (fun _ _ => rfl) (fun _ _ => rfl) rfl) rfl fun _ _ => .drop .k3 <| .opp (P.asg .t0) rfl <| .nil <| .inn <| .then <| .reg rfl <| .opp (P.bin .g1 .k .add) rfl <| .drop .k2 <| .opp (P.mov .t0) rfl <| .nil ?_
    cases hc5
    obtain ⟨m17, hm18, hn6⟩ := hn6
    exact .rdW ((IntKind.i64.wrap (s1.1 + 1), r15)) () hm18 hn6 (.cons Mm.m0 (.cons Mm.m2 (.cons Mm.m1 .nil))) (.of .nil) .nil
  · rw [if_neg (ne_true_of_eq_false c10)] at hc5
    refine .exit <| .thx ?_
    cases hc5
    refine .told (γ := Unit) h hn6 (fun (s1 : Int × ByteArray) _ => [(8, N s1.1), (7, N (if 3 < (if 0 > a1 then 0 else a1) then 3 else if 0 > a1 then 0 else a1)), (0, .string s1.2)]) (fun (s1 : Int × ByteArray) _ => []) (fun (s1 : Int × ByteArray) _ => []) () (.cons Mm.m0 (.cons Mm.m1 (.cons Mm.m2 .nil))) (.of .nil) .nil (fun s1 _ h' => ?_)
    replace h := h'
    refine .thx <| .inb <| .then <| .seq <| .reg rfl <| .opp (P.mov .t2) rfl <| .opp (P.asg .t0) rfl <| .nil <| .then <| .ret ?_
    cases h
    exact .finw () (.r1 rfl (.tmp .g0)) trivial (Ls.of .nil) .nil
attribute [irreducible] ots_Walk
noncomputable def slices_Concat_byte (a0 : List (List UInt8)) : Option ((List UInt8)) :=
  Option.bind (loopR (fun (i3 : Nat) (e6 : List UInt8) (s4 : Int) => if (decide ((IntKind.i64.wrap (s4 + (e6.length : Int))) < 0)) = true then none else (some (.nx (IntKind.i64.wrap (s4 + (e6.length : Int)))))) 0 a0 0) fun o7 => Lo.on o7 fun (s4 : Int) => Option.bind (slices_Grow_byte_nil s4) fun r23 => Option.bind (loopR (fun (i28 : Nat) (e31 : List UInt8) (s29 : (List UInt8)) => grd ((s29.length + e31.length) * 1 ≤ 140737488355328) <| some (.nx (s29 ++ e31))) 0 a0 r23) fun o32 => Lo.on o32 fun (s29 : (List UInt8)) => some s29
set_option maxRecDepth 20000 in
set_option maxHeartbeats 8000000 in
theorem S_slices_Concat_byte (v00 : Value) (a0 : List (List UInt8)) (zl00 : List Value) (r : (List UInt8)) (h : slices_Concat_byte a0 = some r) :
    SpecF Tryz.prog 160 [v00] [] [rows 1 v00 (List.zipWith (fun (_ : List UInt8) z => [z]) a0 zl00), gz (fun (x : List UInt8) z => rows 1 z (x.map (fun x => [B8 x]))) a0 zl00] (fun z : Value => True) (fun z => z) (fun z M => lst 5 1 z (r.map (fun x => [B8 x])) ::  M) (fun z M =>  M) := by
  refine .of func160 rfl ntmps160 rfl fun w0 D0 G0 => ?_
  unfold slices_Concat_byte at h
  refine .seq <| .reg rfl <| .op0 (OpP.toV (P.asg .k)) rfl <| .nil <| .then <| .seq <| .reg rfl <| .opp (P.asg .k) rfl <| .nil <| .then <| .seq <| .seq ?_
  refine .reg rfl <| .opp (P.mov .g1) rfl <| .gzl Mm.m1 fun hz1 => .op (V.lnr (n := a0.length) .g0 Mm.m0 (zip_len hz1) runUnderlying116) rfl <| .opp (P.mov .k) rfl <| .nil <| .then <| .block ?_
  obtain ⟨o7, ho8, h⟩ := bnd_eq h
  refine .gzl Mm.m1 fun hz17 => .lenq Mm.m0 fun hl14 => ?_
  rw [zip_len hz17] at hl14
  refine .loopR (γ := Unit) (fun i3 (s4 : Int) z5 => [(11, N (i3 : Int)), (10, N (a0.length : Int)), (9, v00), (3, N s4), (0, v00)]) (fun (s4 : Int) z5 => []) (fun (s4 : Int) z5 => [gz (fun (x : List UInt8) z => rows 1 z (x.map (fun x => [B8 x]))) a0 zl00, rows 1 v00 (List.zipWith (fun (_ : List UInt8) z => [z]) a0 zl00)]) () ho8 (.cons Mm.m0 (.cons Mm.m1 (.cons Mm.m2 (.cons Mm.m3 (.cons Mm.m4 .nil))))) (.of .nil) (.cons Mm.m1 (.cons Mm.m0 .nil)) (fun i3 s4 z5 hi15 hr11 => ?_)
  refine .seq <| .reg rfl <| .opp (P.bin (v := Bo (decide ((i3 : Int) < (a0.length : Nat)))) .g0 .g1 .lss) rfl <| .nil <| .then <| .seq <| .cond .t0 (fun c16 => ?_) (fun c16 => ?_)
  · obtain ⟨e6, hx13⟩ := get_of c16
    obtain ⟨ct12, hc9, hn10⟩ := loopR_at hx13 hr11
    refine .gzx (D := (fun (_ : List UInt8) z => [z])) (q := fun z_ => rows 1 z_ (e6.map (fun x => [B8 x]))) Mm.m0 hx13 (fun _ => rfl) fun u2 _ hx18 => .skip <| .then <| .seq <| .block <| .seq <| .reg rfl <| .ixq Mm.m2 hx18 fun p19 q20 hq21 => .opp (P.ixi (i := i3) .g0 rfl .g2 hq21 runUnderlying116 sizeOf70) rfl <| .op (V.ldx0 (u := u2) .t0 hq21 Mm.m2 hx18 (.one isAgg70 rfl)) rfl <| .opp (P.asg .t0) rfl <| .nil ?_
    refine .then <| .seq <| .reg rfl <| .opp (P.mov .g4) rfl <| .opp (P.mov .t1) rfl <| .op (V.lnr (n := e6.length) .t0 Mm.m0 map_len runUnderlying70) rfl <| .opp (P.bin .t1 .t0 .add) rfl <| .drop .k4 <| .opp (P.asg .t0) rfl <| .nil <| .then <| .seq ?_
    refine .reg rfl <| .opp (P.mov .g0) rfl <| .opp (P.bin .t0 .k .lss) rfl <| .nil <| .then <| .cond .t0 (fun c22 => ?_) (fun c22 => ?_)
    · rw [if_pos c22] at hc9
      refine .reg rfl ?_
      cases hc9
    · rw [if_neg (ne_true_of_eq_false c22)] at hc9
      refine .skip <| .inn <| .then <| .reg rfl <| .opp (P.bin .g1 .k (.addc (inc_ok (lt_of_get hx13) hl14))) rfl <| .drop .k2 <| .opp (P.mov .t0) rfl <| .nil ?_
      cases hc9
      exact .rdR (IntKind.i64.wrap (s4 + (e6.length : Int))) () hn10 (lt_of_get hx13) (.cons Mm.m0 (.cons Mm.m2 (.cons Mm.m3 (.cons Mm.m1 (.cons Mm.m4 .nil))))) (.of .nil) (.cons Mm.m1 (.cons Mm.m2 .nil))
  · obtain rfl := loopR_end (le_of_not c16) hr11
    have h := dn_on h
    refine .exit <| .thx <| .thx <| .inb <| .then <| .seq <| .reg rfl <| .opp (P.mov .t3) rfl ?_
    obtain ⟨r23, hr24, h⟩ := bnd_eq h
    refine .opg (G.call call236 (.cons .k (.cons .t0 .nil)) (S_slices_Grow_byte_nil s4 r23 hr24) .nil .nil (fun _ _ => rfl) (fun _ _ => rfl) rfl) rfl fun u25 _ => .opp (P.asg .t0) rfl <| .nil <| .then <| .seq <| .seq <| .reg rfl <| .opp (P.mov .t4) rfl <| .gzl Mm.m0 fun hz26 => .op (V.lnr (n := a0.length) .g0 Mm.m1 (zip_len hz26) runUnderlying116) rfl <| .opp (P.mov .k) rfl <| .nil ?_
    refine .then <| .block ?_
    obtain ⟨o32, ho33, h⟩ := bnd_eq h
    refine .gzl Mm.m0 fun hz42 => .lenq Mm.m1 fun hl39 => ?_
    rw [zip_len hz42] at hl39
    refine .loopR (γ := Value) (fun i28 (s29 : (List UInt8)) z30 => [(27, N (i28 : Int)), (26, N (a0.length : Int)), (25, v00), (6, z30)]) (fun (s29 : (List UInt8)) z30 => [lst 5 1 z30 (s29.map (fun x => [B8 x]))]) (fun (s29 : (List UInt8)) z30 => [gz (fun (x : List UInt8) z => rows 1 z (x.map (fun x => [B8 x]))) a0 zl00, rows 1 v00 (List.zipWith (fun (_ : List UInt8) z => [z]) a0 zl00)]) u25 ho33 (.cons Mm.m0 (.cons Mm.m1 (.cons Mm.m2 (.cons Mm.m3 .nil)))) (.of (.cons .k0 .nil)) (.cons Mm.m0 (.cons Mm.m1 .nil)) (fun i28 s29 z30 hi40 hr36 => ?_)
    refine .seq <| .reg rfl <| .opp (P.bin (v := Bo (decide ((i28 : Int) < (a0.length : Nat)))) .g0 .g1 .lss) rfl <| .nil <| .then <| .seq <| .cond .t0 (fun c41 => ?_) (fun c41 => ?_)
    · obtain ⟨e31, hx38⟩ := get_of c41
      obtain ⟨ct37, hc34, hn35⟩ := loopR_at hx38 hr36
      refine .gzx (D := (fun (_ : List UInt8) z => [z])) (q := fun z_ => rows 1 z_ (e31.map (fun x => [B8 x]))) Mm.m0 hx38 (fun _ => rfl) fun u27 _ hx43 => .skip <| .then <| .seq <| .block <| .seq <| .reg rfl <| .ixq Mm.m2 hx43 fun p44 q45 hq46 => .opp (P.ixi (i := i28) .g0 rfl .g2 hq46 runUnderlying116 sizeOf70) rfl <| .op (V.ldx0 (u := u27) .t0 hq46 Mm.m2 hx43 (.one isAgg70 rfl)) rfl <| .opp (P.asg .t0) rfl <| .nil ?_
      refine .then <| .reg rfl <| .opp (P.mov .g4) rfl <| .opp (P.mov .t1) rfl ?_
      obtain ⟨hb48, hc34⟩ := grd_eq hc34
      refine .opg (G.app (by_ := 1) .t1 .t0 .k0 (.inl Mm.m0) runUnderlying70 runUnderlying70 sizeOf5 typeInfo5 rfl rfl zeroValue5 rfl (one_map one_5 _) (by simpa using hb48) rfl) rfl fun u47 _ => .conseq .k0 (q := lst 5 1 u47 ((s29 ++ e31).map (fun x => [B8 x]))) (fun _ hh => by simpa [List.map_append] using hh) <| .drop .k4 <| .opp (P.asg .t0) rfl <| .nil <| .inn <| .then <| .reg rfl <| .opp (P.bin .g1 .k (.addc (inc_ok (lt_of_get hx38) hl39))) rfl <| .drop .k2 <| .opp (P.mov .t0) rfl <| .nil ?_
      cases hc34
      exact .rdR (s29 ++ e31) u47 hn35 (lt_of_get hx38) (.cons Mm.m0 (.cons Mm.m2 (.cons Mm.m3 (.cons Mm.m1 .nil)))) (.of (.cons .k0 .nil)) (.cons Mm.m1 (.cons Mm.m2 .nil))
    · obtain rfl := loopR_end (le_of_not c41) hr36
      have h := dn_on h
      refine .exit <| .thx <| .thx <| .inb <| .then <| .seq <| .reg rfl <| .opp (P.mov .t3) rfl <| .opp (P.asg .t0) rfl <| .nil <| .then <| .ret ?_
      cases h
      exact .finw z30 (.r1 rfl (.tmp .g0)) trivial (Ls.of (.cons .k0 .nil)) .nil
attribute [irreducible] slices_Concat_byte
noncomputable def blob_Cat (a0 : List (List UInt8)) : Option ((List UInt8)) :=
  Option.bind (slices_Concat_byte a0) fun r1 => some r1
set_option maxRecDepth 20000 in
set_option maxHeartbeats 8000000 in
theorem S_blob_Cat (v00 : Value) (a0 : List (List UInt8)) (zl00 : List Value) (r : (List UInt8)) (h : blob_Cat a0 = some r) :
    SpecF Tryz.prog 92 [v00] [] [rows 1 v00 (List.zipWith (fun (_ : List UInt8) z => [z]) a0 zl00), gz (fun (x : List UInt8) z => rows 1 z (x.map (fun x => [B8 x]))) a0 zl00] (fun z : Value => True) (fun z => z) (fun z M => lst 5 1 z (r.map (fun x => [B8 x])) ::  M) (fun z M =>  M) := by
  refine .of func92 rfl ntmps92 rfl fun w0 D0 G0 => ?_
  unfold blob_Cat at h
  refine .seq <| .reg rfl <| .op0 (OpP.toV (P.asg .k)) rfl <| .nil <| .then <| .seq <| .reg rfl <| .opp (P.mov .t0) rfl ?_
  obtain ⟨r1, hr2, h⟩ := bnd_eq h
  refine .opg (G.call call160 (.cons .t0 .nil) (S_slices_Concat_byte v00 a0 zl00 r1 hr2) .nil (.cons Mm.m0 (.cons Mm.m1 .nil)) (fun _ _ => rfl) (fun _ _ => rfl) rfl) rfl fun u3 _ => .opp (P.asg .t0) rfl <| .nil <| .then <| .ret ?_
  cases h
  exact .finw u3 (.r1 rfl (.tmp .g0)) trivial (Ls.of (.cons .k0 .nil)) .nil
attribute [irreducible] blob_Cat
noncomputable def hash_Text (a0 : List (List UInt8)) : Option (ByteArray) :=
  Option.bind (blob_Cat a0) fun r1 => Option.bind (hash_Sum r1) fun r4 => some (⟨⟨r4⟩⟩ : ByteArray)
set_option maxRecDepth 20000 in
set_option maxHeartbeats 8000000 in
theorem S_hash_Text (v00 : Value) (a0 : List (List UInt8)) (zl00 : List Value) (r : ByteArray) (h : hash_Text a0 = some r) :
    SpecF Tryz.prog 184 [v00] [] [rows 1 v00 (List.zipWith (fun (_ : List UInt8) z => [z]) a0 zl00), gz (fun (x : List UInt8) z => rows 1 z (x.map (fun x => [B8 x]))) a0 zl00] (fun z : Unit => True) (fun z => .string r) (fun z M =>  M) (fun z M =>  M) := by
  refine .of func184 rfl ntmps184 rfl fun w0 D0 G0 => ?_
  unfold hash_Text at h
  refine .seq <| .reg rfl <| .op0 (OpP.toV (P.asg .k)) rfl <| .nil <| .then <| .seq <| .reg rfl <| .opp (P.mov .t0) rfl ?_
  obtain ⟨r1, hr2, h⟩ := bnd_eq h
  refine .opg (G.call call92 (.cons .t0 .nil) (S_blob_Cat v00 a0 zl00 r1 hr2) .nil (.cons Mm.m0 (.cons Mm.m1 .nil)) (fun _ _ => rfl) (fun _ _ => rfl) rfl) rfl fun u3 _ => .frz .k0 ?_
  obtain ⟨r4, hr5, h⟩ := bnd_eq h
  refine .opg (G.call call250 (.cons .t0 .nil) (S_hash_Sum u3 r1 r4 hr5) .nil (.cons Mm.m0 .nil) (fun _ _ => rfl) (fun _ _ => rfl) rfl) rfl fun u6 _ => .op (V.b2sl (l := r4) (e := 5) .t0 .k0 (by kernel_rfl) (by kernel_rfl) (by kernel_rfl)) rfl <| .opp (P.asg .t0) rfl <| .nil <| .then <| .ret ?_
  cases h
  exact .finw () (.r1 rfl (.tmp .g0)) trivial (Ls.of .nil) .nil
attribute [irreducible] hash_Text
noncomputable def hash_Short (a0 : List (List UInt8)) : Option (ByteArray) :=
  Option.bind (hash_Text a0) fun r1 => grd (okS r1.size none (some 8) none) <| some ((r1.extract 0 (8 : Int).toNat))
set_option maxRecDepth 20000 in
set_option maxHeartbeats 8000000 in
theorem S_hash_Short (v00 : Value) (a0 : List (List UInt8)) (zl00 : List Value) (r : ByteArray) (h : hash_Short a0 = some r) :
    SpecF Tryz.prog 125 [v00] [] [rows 1 v00 (List.zipWith (fun (_ : List UInt8) z => [z]) a0 zl00), gz (fun (x : List UInt8) z => rows 1 z (x.map (fun x => [B8 x]))) a0 zl00] (fun z : Unit => True) (fun z => .string r) (fun z M =>  M) (fun z M =>  M) := by
  refine .of func125 rfl ntmps125 rfl fun w0 D0 G0 => ?_
  unfold hash_Short at h
  refine .seq <| .reg rfl <| .op0 (OpP.toV (P.asg .k)) rfl <| .nil <| .then <| .seq <| .reg rfl <| .opp (P.mov .t0) rfl ?_
  obtain ⟨r1, hr2, h⟩ := bnd_eq h
  refine .opg (G.call call184 (.cons .t0 .nil) (S_hash_Text v00 a0 zl00 r1 hr2) .nil (.cons Mm.m0 (.cons Mm.m1 .nil)) (fun _ _ => rfl) (fun _ _ => rfl) rfl) rfl fun _ _ => ?_
  obtain ⟨hb3, h⟩ := grd_eq h
  refine .opp (P.slst (li := none) (hj := (some 8)) .t0 .none (.some .k) runUnderlying9 hb3) rfl <| .opp (P.asg .t0) rfl <| .nil <| .then <| .ret ?_
  cases h
  exact .finw () (.r1 rfl (.tmp .g0)) trivial (Ls.of .nil) .nil
attribute [irreducible] hash_Short
noncomputable def ots_closed (a0 : List ByteArray) (a1 : List Int) : Option (ByteArray) :=
  Option.bind (loopR (fun (i1 : Nat) (e4 : ByteArray) (s2 : (List (List UInt8))) => Option.bind (at_ a1 (i1 : Int)) fun (x21 : Int) => Option.bind (ots_Walk e4 (IntKind.i64.wrap (3 - x21))) fun r25 => grd (r25.size ≤ 140737488355328) <| grd ((s2.length + ([(r25.data.toList)] : List (List UInt8)).length) * 24 ≤ 140737488355328) <| some (.nx ((s2 ++ ([(r25.data.toList)] : List (List UInt8)))))) 0 a0 ([])) fun o5 => Lo.on o5 fun (s2 : (List (List UInt8))) => Option.bind (hash_Short s2) fun r35 => some r35
set_option maxRecDepth 20000 in
set_option maxHeartbeats 8000000 in
theorem S_ots_closed (v00 : Value) (a0 : List ByteArray) (v01 : Value) (a1 : List Int) (r : ByteArray) (h : ots_closed a0 a1 = some r) :
    SpecF Tryz.prog 123 [v00, v01] [] [rows 1 v00 (a0.map (fun x => [.string x])), rows 1 v01 (a1.map (fun x => [N x]))] (fun z : Unit => True) (fun z => .string r) (fun z M =>  M) (fun z M =>  M) := by
  refine .of func123 rfl ntmps123 rfl fun w0 D0 G0 => ?_
  unfold ots_closed at h
  refine .seq <| .reg rfl <| .op0 (OpP.toV (P.asg .k)) rfl <| .nil <| .then <| .seq <| .reg rfl <| .opp (P.asg .k) rfl <| .nil <| .then <| .seq <| .seq ?_
  refine .reg rfl <| .opp (P.mov .t1) rfl <| .op (V.lnr (n := a0.length) .g0 Mm.m0 map_len runUnderlying60) rfl <| .opp (P.mov .k) rfl <| .nil <| .then <| .block <| .lnil 70 1 <| .gzn (G := (fun (x : List UInt8) z => rows 1 z (x.map (fun x => [B8 x])))) ?_
  obtain ⟨o5, ho6, h⟩ := bnd_eq h
  refine .lenq Mm.m1 fun hl12 => ?_
  rw [map_len] at hl12
  refine .loopR (γ := Value × List Value) (fun i1 (s2 : (List (List UInt8))) z3 => [(10, N (i1 : Int)), (9, N (a0.length : Int)), (8, v00), (5, z3.1), (1, v01)]) (fun (s2 : (List (List UInt8))) z3 => [lst 70 1 z3.1 (List.zipWith (fun (_ : List UInt8) z => [z]) s2 z3.2)]) (fun (s2 : (List (List UInt8))) z3 => [rows 1 v00 (a0.map (fun x => [.string x])), gz (fun (x : List UInt8) z => rows 1 z (x.map (fun x => [B8 x]))) s2 z3.2, rows 1 v01 (a1.map (fun x => [N x]))]) ⟨nilSl, []⟩ ho6 (.cons Mm.m0 (.cons Mm.m1 (.cons Mm.m2 (.cons Mm.m3 (.cons Mm.m4 .nil))))) (.of (.cons .k0 .nil)) (.cons Mm.m1 (.cons Mm.m0 (.cons Mm.m2 .nil))) (fun i1 s2 z3 hi13 hr9 => ?_)
  refine .seq <| .reg rfl <| .opp (P.bin (v := Bo (decide ((i1 : Int) < (a0.length : Nat)))) .g0 .g1 .lss) rfl <| .nil <| .then <| .seq <| .cond .t0 (fun c14 => ?_) (fun c14 => ?_)
  · obtain ⟨e4, hx11⟩ := get_of c14
    obtain ⟨ct10, hc7, hn8⟩ := loopR_at hx11 hr9
    refine .skip <| .then <| .seq <| .block <| .seq <| .reg rfl <| .opp (P.mov .g0) rfl <| .ixq Mm.m0 (map_get hx11) fun p15 q16 hq17 => .opp (P.ixi (i := i1) .g1 rfl .g3 hq17 runUnderlying60 sizeOf9) rfl <| .op (V.ldx0 (u := .string e4) .t0 hq17 Mm.m0 (map_get hx11) (.one isAgg9 rfl)) rfl <| .opp (P.asg .t1) rfl <| .opp (P.asg .t1) rfl ?_
    refine .nil <| .then <| .reg rfl <| .opp (P.mov .g5) rfl <| .opp (P.mov .t1) rfl <| .opp (P.mov .g7) rfl <| .opp (P.mov .t3) rfl ?_
    obtain ⟨x21, hx22, hc7⟩ := bnd_eq hc7
    obtain ⟨i23, hi24, hx22⟩ := at_eq hx22
    have hi24_ : ((i1 : Int)).toNat = i23 := by rw [hi24]; rfl
    refine .ixq Mm.m2 (map_get hx22) fun p18 q19 hq20 => .opp (P.ixi (i := i23) .t0 hi24 .t0 hq20 runUnderlying39 sizeOf3) rfl <| .op (V.ldx0 (u := N x21) .t0 hq20 Mm.m2 (map_get hx22) (.one isAgg3 rfl)) rfl <| .opp (P.bin .k .t0 .sub) rfl ?_
    obtain ⟨r25, hr26, hc7⟩ := bnd_eq hc7
    refine .opg (G.call call192 (.cons .t1 (.cons .t0 .nil)) (S_ots_Walk e4 (IntKind.i64.wrap (3 - x21)) r25 hr26) .nil .nil (fun _ _ => rfl) (fun _ _ => rfl) rfl) rfl fun _ _ => ?_
    obtain ⟨hb28, hc7⟩ := grd_eq hc7
    refine .opg (G.s2b (e := 5) .t0 (by kernel_rfl) (by kernel_rfl) (by kernel_rfl) hb28 rfl) rfl fun u27 _ => .oner Mm.m0 fun ho30 => .opg (G.bsl (cs := [u27]) .t0 runUnderlying116 sizeOf70 zeroValue70 (cells1 ho30) rfl rfl rfl rfl) rfl fun u29 _ => .gzl Mm.m2 fun hz32 => .gzn (G := (fun (x : List UInt8) z => rows 1 z (x.map (fun x => [B8 x])))) <| .gzc (x := (r25.data.toList)) (z := u27) Mm.m0 rfl <| .gzo (D := (fun (_ : List UInt8) z => [z])) Mm.m0 (fun _ _ _ h => rows_one h) (fun _ _ h => onez h) fun ho33 => .gza Mm.m3 Mm.m0 ?_
    obtain ⟨hb34, hc7⟩ := grd_eq hc7
    refine .opg (G.app (by_ := 24) .t1 .t0 .k1 (.inr (.inr ⟨_, Mm.m0⟩)) runUnderlying116 runUnderlying116 sizeOf70 typeInfo70 rfl rfl zeroValue70 rfl ho33 (by simpa [zip_len hz32] using hb34) rfl) rfl fun u31 _ => .conseq .k0 (q := lst 70 1 u31 (List.zipWith (fun (_ : List UInt8) z => [z]) (s2 ++ ([(r25.data.toList)] : List (List UInt8))) (z3.2 ++ [u27]))) (fun _ hh => by simpa [zip_app hz32] using hh) <| .drop .k4 <| .opp (P.asg .t0) rfl <| .nil <| .inn <| .then <| .reg rfl <| .opp (P.bin .g1 .k (.addc (inc_ok (lt_of_get hx11) hl12))) rfl <| .drop .k2 <| .opp (P.mov .t0) rfl <| .nil ?_
    cases hc7
    exact .rdR ((s2 ++ ([(r25.data.toList)] : List (List UInt8)))) ⟨u31, (z3.2 ++ [u27])⟩ hn8 (lt_of_get hx11) (.cons Mm.m0 (.cons Mm.m2 (.cons Mm.m3 (.cons Mm.m1 (.cons Mm.m4 .nil))))) (.of (.cons .k0 .nil)) (.cons Mm.m3 (.cons Mm.m0 (.cons Mm.m5 .nil)))
  · obtain rfl := loopR_end (le_of_not c14) hr9
    have h := dn_on h
    refine .exit <| .thx <| .thx <| .inb <| .then <| .seq <| .reg rfl <| .opp (P.mov .t3) rfl <| .frz .k0 ?_
    obtain ⟨r35, hr36, h⟩ := bnd_eq h
    refine .opg (G.call call125 (.cons .t0 .nil) (S_hash_Short z3.1 s2 z3.2 r35 hr36) .nil (.cons Mm.m0 (.cons Mm.m2 .nil)) (fun _ _ => rfl) (fun _ _ => rfl) rfl) rfl fun _ _ => .opp (P.asg .t0) rfl <| .nil <| .then <| .ret ?_
    cases h
    exact .finw () (.r1 rfl (.tmp .g0)) trivial (Ls.of .nil) .nil
attribute [irreducible] ots_closed
noncomputable def ots_Public (a0 : ByteArray) (a1 : Int) : Option (ByteArray) :=
  Option.bind (ots_Begin a0 a1) fun r1 => Option.bind (ots_closed r1 (List.replicate (15 : Int).toNat (0 : Int))) fun r5 => some r5
set_option maxRecDepth 20000 in
set_option maxHeartbeats 8000000 in
theorem S_ots_Public (a0 : ByteArray) (a1 : Int) (r : ByteArray) (h : ots_Public a0 a1 = some r) :
    SpecF Tryz.prog 69 [.string a0, N a1] [] [] (fun z : Unit => True) (fun z => .string r) (fun z M =>  M) (fun z M =>  M) := by
  refine .of func69 rfl ntmps69 rfl fun w0 D0 G0 => ?_
  unfold ots_Public at h
  refine .seq <| .reg rfl <| .op0 (OpP.toV (P.asg .k)) rfl <| .nil <| .then <| .seq ?_
  obtain ⟨r1, hr2, h⟩ := bnd_eq h
  obtain ⟨r5, hr6, h⟩ := bnd_eq h
  refine .dcut (γ := Value × Value) (φ := fun _ => True) (E1 := fun x_ => [(4, .string r5)]) (L1 := fun x_ => []) (R1 := fun x_ => [rows 1 x_.2 ((List.replicate (15 : Int).toNat (0 : Int)).map (fun x => [N x])), rows 1 x_.1 (r1.map (fun x => [.string x]))]) ?_ (fun x_ _ => ?_)
  · refine .draw 6 (.on 0 .pu (.on 1 .pu (.fk 2 3 (.on 3 .go (.on 4 .go (.on 5 .go .nl))) (.on 2 .go (.on 4 .go (.on 5 .go .nl)))))) follows_mixed (.thn (.thn .body)) (by kernel_rfl) <| .dpu rfl (.n rfl) (P.mov .t0) rfl rfl <| .dpu rfl (.n rfl) (P.mov .t1) rfl rfl <| .dfk ?_ ?_
    · exact .dgo rfl (.n rfl) (G.call call124 (.cons .t1 (.cons .t0 .nil)) (S_ots_Begin a0 a1 r1 hr2) .nil .nil (fun _ _ => rfl) (fun _ _ => rfl) rfl) (.inr fun _ _ _ h => (h.imp (Ls.of .nil)).ro Rs.nil) fun u3 _ => .dgo rfl (.n rfl) (G.mks (by_ := 8) (cs := [N 0]) .k .k runUnderlying39 sizeOf3 typeInfo3 rfl zeroValue3 rfl rfl rfl rfl (by decide) (by decide) rfl) (.inr fun _ _ _ h => (h.imp (Ls.of .nil)).ro Rs.nil) fun u4 _ => .conseq .k0 (q := lst 3 1 u4 ((List.replicate (15 : Int).toNat (0 : Int)).map (fun x => [N x]))) (fun _ hh => by simpa [List.map_replicate] using hh) <| .frz .k1 <| .frz .k0 <| .dgo rfl (.n rfl) (G.call call123 (.cons .t1 (.cons .t0 .nil)) (S_ots_closed u3 r1 u4 (List.replicate (15 : Int).toNat (0 : Int)) r5 hr6) .nil (.cons Mm.m1 (.cons Mm.m0 .nil)) (fun _ _ => rfl) (fun _ _ => rfl) rfl) (.inr fun _ _ _ h => (h.imp (Ls.of .nil)).ro Rs.nil) fun _ _ => .dgo rfl (.n rfl) (OpV.g (OpP.toV (P.asg .t0)) rfl) (.inr fun _ _ _ h => (h.imp (Ls.of .nil)).ro Rs.nil) fun _ _ => .dnil <| .dst ⟨u3, u4⟩ trivial (.cons Mm.m0 .nil) (Ls.of .nil) (.cons Mm.m0 (.cons Mm.m1 .nil))
    · exact .dgo rfl (.n rfl) (G.mks (by_ := 8) (cs := [N 0]) .k .k runUnderlying39 sizeOf3 typeInfo3 rfl zeroValue3 rfl rfl rfl rfl (by decide) (by decide) rfl) (.inr fun _ _ _ h => (h.imp (Ls.of .nil)).ro Rs.nil) fun u4 _ => .conseq .k0 (q := lst 3 1 u4 ((List.replicate (15 : Int).toNat (0 : Int)).map (fun x => [N x]))) (fun _ hh => by simpa [List.map_replicate] using hh) <| .dgo rfl (.n rfl) (G.call call124 (.cons .t2 (.cons .t1 .nil)) (S_ots_Begin a0 a1 r1 hr2) .nil .nil (fun _ _ => rfl) (fun _ _ => rfl) rfl) (.inr fun _ _ _ h => (h.imp (Ls.of .nil)).ro Rs.nil) fun u3 _ => .frz .k0 <| .frz .k0 <| .dgo rfl (.n rfl) (G.call call123 (.cons .t0 (.cons .t0 .nil)) (S_ots_closed u3 r1 u4 (List.replicate (15 : Int).toNat (0 : Int)) r5 hr6) .nil (.cons Mm.m1 (.cons Mm.m0 .nil)) (fun _ _ => rfl) (fun _ _ => rfl) rfl) (.inr fun _ _ _ h => (h.imp (Ls.of .nil)).ro Rs.nil) fun _ _ => .dgo rfl (.n rfl) (OpV.g (OpP.toV (P.asg .t0)) rfl) (.inr fun _ _ _ h => (h.imp (Ls.of .nil)).ro Rs.nil) fun _ _ => .dnil <| .dst ⟨u3, u4⟩ trivial (.cons Mm.m0 .nil) (Ls.of .nil) (.cons Mm.m0 (.cons Mm.m1 .nil))
  · obtain ⟨u3, u4⟩ := x_
    refine .then <| .ret ?_
    cases h
    exact .finw () (.r1 rfl (.tmp .g0)) trivial (Ls.of .nil) .nil
attribute [irreducible] ots_Public
noncomputable def mss_row (a0 : ByteArray) : Option ((List ByteArray)) :=
  Option.bind (ots_Public a0 0) fun r1 => Option.bind (ots_Public a0 1) fun r5 => Option.bind (ots_Public a0 2) fun r9 => Option.bind (ots_Public a0 3) fun r13 => Option.bind (ots_Public a0 4) fun r17 => Option.bind (ots_Public a0 5) fun r21 => Option.bind (ots_Public a0 6) fun r25 => Option.bind (ots_Public a0 7) fun r29 => some ([r1, r5, r9, r13, r17, r21, r25, r29] : List ByteArray)
set_option maxRecDepth 20000 in
set_option maxHeartbeats 8000000 in
theorem S_mss_row (a0 : ByteArray) (r : (List ByteArray)) (h : mss_row a0 = some r) :
    SpecF Tryz.prog 33 [.string a0] [] [] (fun z : Value => True) (fun z => z) (fun z M => lst 9 1 z (r.map (fun x => [.string x])) ::  M) (fun z M =>  M) := by
  refine .of func33 rfl ntmps33 rfl fun w0 D0 G0 => ?_
  unfold mss_row at h
  refine .seq <| .reg rfl <| .op0 (OpP.toV (P.asg .k)) rfl <| .nil <| .then <| .seq <| .reg rfl <| .opp (P.asg .k) rfl <| .nil <| .then <| .seq <| .seq ?_
  refine .reg rfl <| .opp (P.mov .k) rfl <| .nil <| .then <| .block <| .rounds 9 <| .rd <| .seq <| .reg rfl <| .opp (P.bin (v := Bo true) .g0 .k (BinV.lss.boolc (by decide))) rfl <| .nil <| .then ?_
  refine .seq <| .condT .t0 <| .skip <| .then <| .seq <| .block <| .seq <| .reg rfl <| .opp (P.mov .g0) rfl <| .opp (P.asg .t0) rfl <| .nil <| .then ?_
  refine .reg rfl <| .opp (P.mov .g2) rfl <| .opp (P.mov .g4) rfl <| .opp (P.mov .t2) rfl ?_
  obtain ⟨r1, hr2, h⟩ := bnd_eq h
  refine .opg (G.call call69 (.cons .t1 (.cons .t0 .nil)) (S_ots_Public a0 0 r1 hr2) .nil .nil (fun _ _ => rfl) (fun _ _ => rfl) rfl) rfl fun _ _ => .opg (G.bsl (cs := [.string r1]) .t0 runUnderlying60 sizeOf9 zeroValue9 rfl rfl rfl rfl rfl) rfl fun u3 _ => .lnil 9 1 <| .opg (G.app (by_ := 16) .t1 .t0 .k0 (.inr (.inr ⟨_, Mm.m0⟩)) runUnderlying60 runUnderlying60 sizeOf9 typeInfo9 rfl rfl zeroValue9 rfl rfl (Nat.le_of_ble_eq_true rfl) rfl) rfl fun u4 _ => .conseq .k0 (q := lst 9 1 u4 [[.string r1]]) (fun _ hh => hh) <| .drop .k2 <| .opp (P.asg .t0) rfl <| .nil <| .inn <| .then <| .reg rfl <| .opp (P.bin (v := N 1) .g1 .k (.addc (by decide))) rfl ?_
  refine .drop .k2 <| .opp (P.mov .t0) rfl <| .nil <| .then <| .rd <| .seq <| .reg rfl <| .opp (P.bin (v := Bo true) .g0 .k (BinV.lss.boolc (by decide))) rfl <| .nil <| .then <| .seq <| .condT .t0 ?_
  refine .skip <| .then <| .seq <| .block <| .seq <| .reg rfl <| .opp (P.mov .g0) rfl <| .opp (P.asg .t0) rfl <| .nil <| .then <| .reg rfl <| .opp (P.mov .g2) rfl ?_
  refine .opp (P.mov .g4) rfl <| .opp (P.mov .t2) rfl ?_
  obtain ⟨r5, hr6, h⟩ := bnd_eq h
  refine .opg (G.call call69 (.cons .t1 (.cons .t0 .nil)) (S_ots_Public a0 1 r5 hr6) .nil .nil (fun _ _ => rfl) (fun _ _ => rfl) rfl) rfl fun _ _ => .opg (G.bsl (cs := [.string r5]) .t0 runUnderlying60 sizeOf9 zeroValue9 rfl rfl rfl rfl rfl) rfl fun u7 _ => .opg (G.app (by_ := 16) .t1 .t0 .k1 (.inr (.inr ⟨_, Mm.m0⟩)) runUnderlying60 runUnderlying60 sizeOf9 typeInfo9 rfl rfl zeroValue9 rfl rfl (Nat.le_of_ble_eq_true rfl) rfl) rfl fun u8 _ => .conseq .k0 (q := lst 9 1 u8 [[.string r1], [.string r5]]) (fun _ hh => hh) <| .drop .k2 <| .opp (P.asg .t0) rfl <| .nil <| .inn <| .then <| .reg rfl <| .opp (P.bin (v := N 2) .g1 .k (.addc (by decide))) rfl <| .drop .k2 ?_
  refine .opp (P.mov .t0) rfl <| .nil <| .then <| .rd <| .seq <| .reg rfl <| .opp (P.bin (v := Bo true) .g0 .k (BinV.lss.boolc (by decide))) rfl <| .nil <| .then <| .seq <| .condT .t0 <| .skip ?_
  refine .then <| .seq <| .block <| .seq <| .reg rfl <| .opp (P.mov .g0) rfl <| .opp (P.asg .t0) rfl <| .nil <| .then <| .reg rfl <| .opp (P.mov .g2) rfl <| .opp (P.mov .g4) rfl ?_
  refine .opp (P.mov .t2) rfl ?_
  obtain ⟨r9, hr10, h⟩ := bnd_eq h
  refine .opg (G.call call69 (.cons .t1 (.cons .t0 .nil)) (S_ots_Public a0 2 r9 hr10) .nil .nil (fun _ _ => rfl) (fun _ _ => rfl) rfl) rfl fun _ _ => .opg (G.bsl (cs := [.string r9]) .t0 runUnderlying60 sizeOf9 zeroValue9 rfl rfl rfl rfl rfl) rfl fun u11 _ => .opg (G.app (by_ := 16) .t1 .t0 .k1 (.inr (.inr ⟨_, Mm.m0⟩)) runUnderlying60 runUnderlying60 sizeOf9 typeInfo9 rfl rfl zeroValue9 rfl rfl (Nat.le_of_ble_eq_true rfl) rfl) rfl fun u12 _ => .conseq .k0 (q := lst 9 1 u12 [[.string r1], [.string r5], [.string r9]]) (fun _ hh => hh) <| .drop .k2 <| .opp (P.asg .t0) rfl <| .nil <| .inn <| .then <| .reg rfl <| .opp (P.bin (v := N 3) .g1 .k (.addc (by decide))) rfl <| .drop .k2 ?_
  refine .opp (P.mov .t0) rfl <| .nil <| .then <| .rd <| .seq <| .reg rfl <| .opp (P.bin (v := Bo true) .g0 .k (BinV.lss.boolc (by decide))) rfl <| .nil <| .then <| .seq <| .condT .t0 <| .skip ?_
  refine .then <| .seq <| .block <| .seq <| .reg rfl <| .opp (P.mov .g0) rfl <| .opp (P.asg .t0) rfl <| .nil <| .then <| .reg rfl <| .opp (P.mov .g2) rfl <| .opp (P.mov .g4) rfl ?_
  refine .opp (P.mov .t2) rfl ?_
  obtain ⟨r13, hr14, h⟩ := bnd_eq h
  refine .opg (G.call call69 (.cons .t1 (.cons .t0 .nil)) (S_ots_Public a0 3 r13 hr14) .nil .nil (fun _ _ => rfl) (fun _ _ => rfl) rfl) rfl fun _ _ => .opg (G.bsl (cs := [.string r13]) .t0 runUnderlying60 sizeOf9 zeroValue9 rfl rfl rfl rfl rfl) rfl fun u15 _ => .opg (G.app (by_ := 16) .t1 .t0 .k1 (.inr (.inr ⟨_, Mm.m0⟩)) runUnderlying60 runUnderlying60 sizeOf9 typeInfo9 rfl rfl zeroValue9 rfl rfl (Nat.le_of_ble_eq_true rfl) rfl) rfl fun u16 _ => .conseq .k0 (q := lst 9 1 u16 [[.string r1], [.string r5], [.string r9], [.string r13]]) (fun _ hh => hh) <| .drop .k2 <| .opp (P.asg .t0) rfl <| .nil <| .inn <| .then <| .reg rfl <| .opp (P.bin (v := N 4) .g1 .k (.addc (by decide))) rfl <| .drop .k2 ?_
  refine .opp (P.mov .t0) rfl <| .nil <| .then <| .rd <| .seq <| .reg rfl <| .opp (P.bin (v := Bo true) .g0 .k (BinV.lss.boolc (by decide))) rfl <| .nil <| .then <| .seq <| .condT .t0 <| .skip ?_
  refine .then <| .seq <| .block <| .seq <| .reg rfl <| .opp (P.mov .g0) rfl <| .opp (P.asg .t0) rfl <| .nil <| .then <| .reg rfl <| .opp (P.mov .g2) rfl <| .opp (P.mov .g4) rfl ?_
  refine .opp (P.mov .t2) rfl ?_
  obtain ⟨r17, hr18, h⟩ := bnd_eq h
  refine .opg (G.call call69 (.cons .t1 (.cons .t0 .nil)) (S_ots_Public a0 4 r17 hr18) .nil .nil (fun _ _ => rfl) (fun _ _ => rfl) rfl) rfl fun _ _ => .opg (G.bsl (cs := [.string r17]) .t0 runUnderlying60 sizeOf9 zeroValue9 rfl rfl rfl rfl rfl) rfl fun u19 _ => .opg (G.app (by_ := 16) .t1 .t0 .k1 (.inr (.inr ⟨_, Mm.m0⟩)) runUnderlying60 runUnderlying60 sizeOf9 typeInfo9 rfl rfl zeroValue9 rfl rfl (Nat.le_of_ble_eq_true rfl) rfl) rfl fun u20 _ => .conseq .k0 (q := lst 9 1 u20 [[.string r1], [.string r5], [.string r9], [.string r13], [.string r17]]) (fun _ hh => hh) <| .drop .k2 <| .opp (P.asg .t0) rfl <| .nil <| .inn <| .then <| .reg rfl <| .opp (P.bin (v := N 5) .g1 .k (.addc (by decide))) rfl <| .drop .k2 ?_
  refine .opp (P.mov .t0) rfl <| .nil <| .then <| .rd <| .seq <| .reg rfl <| .opp (P.bin (v := Bo true) .g0 .k (BinV.lss.boolc (by decide))) rfl <| .nil <| .then <| .seq <| .condT .t0 <| .skip ?_
  refine .then <| .seq <| .block <| .seq <| .reg rfl <| .opp (P.mov .g0) rfl <| .opp (P.asg .t0) rfl <| .nil <| .then <| .reg rfl <| .opp (P.mov .g2) rfl <| .opp (P.mov .g4) rfl ?_
  refine .opp (P.mov .t2) rfl ?_
  obtain ⟨r21, hr22, h⟩ := bnd_eq h
  refine .opg (G.call call69 (.cons .t1 (.cons .t0 .nil)) (S_ots_Public a0 5 r21 hr22) .nil .nil (fun _ _ => rfl) (fun _ _ => rfl) rfl) rfl fun _ _ => .opg (G.bsl (cs := [.string r21]) .t0 runUnderlying60 sizeOf9 zeroValue9 rfl rfl rfl rfl rfl) rfl fun u23 _ => .opg (G.app (by_ := 16) .t1 .t0 .k1 (.inr (.inr ⟨_, Mm.m0⟩)) runUnderlying60 runUnderlying60 sizeOf9 typeInfo9 rfl rfl zeroValue9 rfl rfl (Nat.le_of_ble_eq_true rfl) rfl) rfl fun u24 _ => .conseq .k0 (q := lst 9 1 u24 [[.string r1], [.string r5], [.string r9], [.string r13], [.string r17], [.string r21]]) (fun _ hh => hh) <| .drop .k2 <| .opp (P.asg .t0) rfl <| .nil <| .inn <| .then <| .reg rfl <| .opp (P.bin (v := N 6) .g1 .k (.addc (by decide))) rfl <| .drop .k2 ?_
  refine .opp (P.mov .t0) rfl <| .nil <| .then <| .rd <| .seq <| .reg rfl <| .opp (P.bin (v := Bo true) .g0 .k (BinV.lss.boolc (by decide))) rfl <| .nil <| .then <| .seq <| .condT .t0 <| .skip ?_
  refine .then <| .seq <| .block <| .seq <| .reg rfl <| .opp (P.mov .g0) rfl <| .opp (P.asg .t0) rfl <| .nil <| .then <| .reg rfl <| .opp (P.mov .g2) rfl <| .opp (P.mov .g4) rfl ?_
  refine .opp (P.mov .t2) rfl ?_
  obtain ⟨r25, hr26, h⟩ := bnd_eq h
  refine .opg (G.call call69 (.cons .t1 (.cons .t0 .nil)) (S_ots_Public a0 6 r25 hr26) .nil .nil (fun _ _ => rfl) (fun _ _ => rfl) rfl) rfl fun _ _ => .opg (G.bsl (cs := [.string r25]) .t0 runUnderlying60 sizeOf9 zeroValue9 rfl rfl rfl rfl rfl) rfl fun u27 _ => .opg (G.app (by_ := 16) .t1 .t0 .k1 (.inr (.inr ⟨_, Mm.m0⟩)) runUnderlying60 runUnderlying60 sizeOf9 typeInfo9 rfl rfl zeroValue9 rfl rfl (Nat.le_of_ble_eq_true rfl) rfl) rfl fun u28 _ => .conseq .k0 (q := lst 9 1 u28 [[.string r1], [.string r5], [.string r9], [.string r13], [.string r17], [.string r21], [.string r25]]) (fun _ hh => hh) <| .drop .k2 <| .opp (P.asg .t0) rfl <| .nil <| .inn <| .then <| .reg rfl <| .opp (P.bin (v := N 7) .g1 .k (.addc (by decide))) rfl <| .drop .k2 ?_
  refine .opp (P.mov .t0) rfl <| .nil <| .then <| .rd <| .seq <| .reg rfl <| .opp (P.bin (v := Bo true) .g0 .k (BinV.lss.boolc (by decide))) rfl <| .nil <| .then <| .seq <| .condT .t0 <| .skip ?_
  refine .then <| .seq <| .block <| .seq <| .reg rfl <| .opp (P.mov .g0) rfl <| .opp (P.asg .t0) rfl <| .nil <| .then <| .reg rfl <| .opp (P.mov .g2) rfl <| .opp (P.mov .g4) rfl ?_
  refine .opp (P.mov .t2) rfl ?_
  obtain ⟨r29, hr30, h⟩ := bnd_eq h
  refine .opg (G.call call69 (.cons .t1 (.cons .t0 .nil)) (S_ots_Public a0 7 r29 hr30) .nil .nil (fun _ _ => rfl) (fun _ _ => rfl) rfl) rfl fun _ _ => .opg (G.bsl (cs := [.string r29]) .t0 runUnderlying60 sizeOf9 zeroValue9 rfl rfl rfl rfl rfl) rfl fun u31 _ => .opg (G.app (by_ := 16) .t1 .t0 .k1 (.inr (.inr ⟨_, Mm.m0⟩)) runUnderlying60 runUnderlying60 sizeOf9 typeInfo9 rfl rfl zeroValue9 rfl rfl (Nat.le_of_ble_eq_true rfl) rfl) rfl fun u32 _ => .conseq .k0 (q := lst 9 1 u32 [[.string r1], [.string r5], [.string r9], [.string r13], [.string r17], [.string r21], [.string r25], [.string r29]]) (fun _ hh => hh) <| .drop .k2 <| .opp (P.asg .t0) rfl <| .nil <| .inn <| .then <| .reg rfl <| .opp (P.bin (v := N 8) .g1 .k (.addc (by decide))) rfl <| .drop .k2 ?_
  refine .opp (P.mov .t0) rfl <| .nil <| .then <| .rd <| .seq <| .reg rfl <| .opp (P.bin (v := Bo false) .g0 .k (BinV.lss.boolc (by decide))) rfl <| .nil <| .then <| .seq <| .condF .t0 <| .exit ?_
  refine .thx <| .thx <| .inb <| .then <| .seq <| .reg rfl <| .opp (P.mov .t1) rfl <| .opp (P.asg .t0) rfl <| .nil <| .then <| .ret ?_
  cases h
  exact .finw u32 (.r1 rfl (.tmp .g0)) trivial (Ls.of (.cons .k0 .nil)) .nil
attribute [irreducible] mss_row
noncomputable def slices_Concat_byte_n2 (a0a : List UInt8) (a0b : List UInt8) : Option ((List UInt8)) :=
  if (decide ((IntKind.i64.wrap (0 + (a0a.length : Int))) < 0)) = true then none else (if (decide ((IntKind.i64.wrap ((IntKind.i64.wrap (0 + (a0a.length : Int))) + (a0b.length : Int))) < 0)) = true then none else (Option.bind (slices_Grow_byte_nil (IntKind.i64.wrap ((IntKind.i64.wrap (0 + (a0a.length : Int))) + (a0b.length : Int)))) fun r9 => grd ((r9.length + a0a.length) * 1 ≤ 140737488355328) <| grd (((r9 ++ a0a).length + a0b.length) * 1 ≤ 140737488355328) <| some (((r9 ++ a0a) ++ a0b))))
set_option maxRecDepth 20000 in
set_option maxHeartbeats 8000000 in
theorem S_slices_Concat_byte_n2 (v00 : Value) (z00a : Value) (a0a : List UInt8) (z00b : Value) (a0b : List UInt8) (r : (List UInt8)) (h : slices_Concat_byte_n2 a0a a0b = some r) :
    SpecF Tryz.prog 160 [v00] [] [rows 1 v00 [[z00a], [z00b]], rows 1 z00a (a0a.map (fun x => [B8 x])), rows 1 z00b (a0b.map (fun x => [B8 x]))] (fun z : Value => True) (fun z => z) (fun z M => lst 5 1 z (r.map (fun x => [B8 x])) ::  M) (fun z M =>  M) := by
  refine .of func160 rfl ntmps160 rfl fun w0 D0 G0 => ?_
  unfold slices_Concat_byte_n2 at h
  refine .seq <| .reg rfl <| .op0 (OpP.toV (P.asg .k)) rfl <| .nil <| .then <| .seq <| .reg rfl <| .opp (P.asg .k) rfl <| .nil <| .then <| .seq <| .seq ?_
  refine .reg rfl <| .opp (P.mov .g1) rfl <| .op (V.lnr (n := 2) .g0 Mm.m0 rfl runUnderlying116) rfl <| .opp (P.mov .k) rfl <| .nil <| .then <| .block <| .rounds 3 <| .rd <| .seq <| .reg rfl <| .opp (P.bin (v := Bo true) .g0 .g1 (BinV.lss.boolc (by decide))) rfl ?_
  refine .nil <| .then <| .seq <| .condT .t0 <| .skip <| .then <| .seq <| .block <| .seq <| .reg rfl <| .ixq Mm.m0 (show [[z00a], [z00b]][0]? = some [z00a] from rfl) fun p1 q2 hq3 => .opp (P.ixi (i := 0) .g0 rfl .g2 hq3 runUnderlying116 sizeOf70) rfl ?_
  refine .op (V.ldx0 (u := z00a) .t0 hq3 Mm.m0 (show [[z00a], [z00b]][0]? = some [z00a] from rfl) (.one isAgg70 rfl)) rfl <| .opp (P.asg .t0) rfl <| .nil <| .then <| .seq <| .reg rfl <| .opp (P.mov .g4) rfl <| .opp (P.mov .t1) rfl <| .op (V.lnr (n := a0a.length) .t0 Mm.m1 map_len runUnderlying70) rfl <| .opp (P.bin .t1 .t0 .add) rfl <| .drop .k4 <| .opp (P.asg .t0) rfl ?_
  refine .nil <| .then <| .seq <| .reg rfl <| .opp (P.mov .g0) rfl <| .opp (P.bin .t0 .k .lss) rfl <| .nil <| .then <| .cond .t0 (fun c4 => ?_) (fun c4 => ?_)
  · rw [if_pos c4] at h
    refine .reg rfl ?_
    cases h
  · rw [if_neg (ne_true_of_eq_false c4)] at h
    refine .skip <| .inn <| .then <| .reg rfl <| .opp (P.bin (v := N 1) .g1 .k (.addc (by decide))) rfl <| .drop .k2 <| .opp (P.mov .t0) rfl <| .nil <| .then <| .rd <| .seq <| .reg rfl ?_
    refine .opp (P.bin (v := Bo true) .g0 .g2 (BinV.lss.boolc (by decide))) rfl <| .nil <| .then <| .seq <| .condT .t0 <| .skip <| .then <| .seq <| .block <| .seq <| .reg rfl <| .ixq Mm.m0 (show [[z00a], [z00b]][1]? = some [z00b] from rfl) fun p5 q6 hq7 => ?_
    refine .opp (P.ixi (i := 1) .g0 rfl .g3 hq7 runUnderlying116 sizeOf70) rfl <| .op (V.ldx0 (u := z00b) .t0 hq7 Mm.m0 (show [[z00a], [z00b]][1]? = some [z00b] from rfl) (.one isAgg70 rfl)) rfl <| .opp (P.asg .t0) rfl <| .nil <| .then <| .seq <| .reg rfl <| .opp (P.mov .g2) rfl <| .opp (P.mov .t1) rfl <| .op (V.lnr (n := a0b.length) .t0 Mm.m2 map_len runUnderlying70) rfl <| .opp (P.bin .t1 .t0 .add) rfl <| .drop .k2 ?_
    refine .opp (P.asg .t0) rfl <| .nil <| .then <| .seq <| .reg rfl <| .opp (P.mov .g0) rfl <| .opp (P.bin .t0 .k .lss) rfl <| .nil <| .then <| .cond .t0 (fun c8 => ?_) (fun c8 => ?_)
    · rw [if_pos c8] at h
      refine .reg rfl ?_
      cases h
    · rw [if_neg (ne_true_of_eq_false c8)] at h
      refine .skip <| .inn <| .then <| .reg rfl <| .opp (P.bin (v := N 2) .g1 .k (.addc (by decide))) rfl <| .drop .k2 <| .opp (P.mov .t0) rfl <| .nil <| .then <| .rd <| .seq <| .reg rfl ?_
      refine .opp (P.bin (v := Bo false) .g0 .g2 (BinV.lss.boolc (by decide))) rfl <| .nil <| .then <| .seq <| .condF .t0 <| .exit <| .thx <| .thx <| .inb <| .then <| .seq <| .reg rfl ?_
      refine .opp (P.mov .t1) rfl ?_
      obtain ⟨r9, hr10, h⟩ := bnd_eq h
      refine .opg (G.call call236 (.cons .k (.cons .t0 .nil)) (S_slices_Grow_byte_nil (IntKind.i64.wrap ((IntKind.i64.wrap (0 + (a0a.length : Int))) + (a0b.length : Int))) r9 hr10) .nil .nil (fun _ _ => rfl) (fun _ _ => rfl) rfl) rfl fun u11 _ => .opp (P.asg .t0) rfl <| .nil <| .then <| .seq <| .seq <| .reg rfl <| .opp (P.mov .t4) rfl <| .op (V.lnr (n := 2) .g0 Mm.m0 rfl runUnderlying116) rfl <| .opp (P.mov .k) rfl <| .nil <| .then ?_
      refine .block <| .rounds 3 <| .rd <| .seq <| .reg rfl <| .opp (P.bin (v := Bo true) .g0 .g1 (BinV.lss.boolc (by decide))) rfl <| .nil <| .then <| .seq <| .condT .t0 <| .skip <| .then ?_
      refine .seq <| .block <| .seq <| .reg rfl <| .ixq Mm.m0 (show [[z00a], [z00b]][0]? = some [z00a] from rfl) fun p12 q13 hq14 => .opp (P.ixi (i := 0) .g0 rfl .g2 hq14 runUnderlying116 sizeOf70) rfl <| .op (V.ldx0 (u := z00a) .t0 hq14 Mm.m0 (show [[z00a], [z00b]][0]? = some [z00a] from rfl) (.one isAgg70 rfl)) rfl <| .opp (P.asg .t0) rfl <| .nil <| .then <| .reg rfl <| .opp (P.mov .g4) rfl ?_
      refine .opp (P.mov .t1) rfl ?_
      obtain ⟨hb16, h⟩ := grd_eq h
      refine .opg (G.app (by_ := 1) .t1 .t0 .k0 (.inl Mm.m1) runUnderlying70 runUnderlying70 sizeOf5 typeInfo5 rfl rfl zeroValue5 rfl (one_map one_5 _) (by simpa using hb16) rfl) rfl fun u15 _ => .conseq .k0 (q := lst 5 1 u15 ((r9 ++ a0a).map (fun x => [B8 x]))) (fun _ hh => by simpa [List.map_append] using hh) <| .drop .k4 <| .opp (P.asg .t0) rfl <| .nil <| .inn <| .then <| .reg rfl <| .opp (P.bin (v := N 1) .g1 .k (.addc (by decide))) rfl <| .drop .k2 <| .opp (P.mov .t0) rfl <| .nil ?_
      refine .then <| .rd <| .seq <| .reg rfl <| .opp (P.bin (v := Bo true) .g0 .g2 (BinV.lss.boolc (by decide))) rfl <| .nil <| .then <| .seq <| .condT .t0 <| .skip <| .then <| .seq ?_
      refine .block <| .seq <| .reg rfl <| .ixq Mm.m0 (show [[z00a], [z00b]][1]? = some [z00b] from rfl) fun p17 q18 hq19 => .opp (P.ixi (i := 1) .g0 rfl .g3 hq19 runUnderlying116 sizeOf70) rfl <| .op (V.ldx0 (u := z00b) .t0 hq19 Mm.m0 (show [[z00a], [z00b]][1]? = some [z00b] from rfl) (.one isAgg70 rfl)) rfl <| .opp (P.asg .t0) rfl <| .nil <| .then <| .reg rfl <| .opp (P.mov .g2) rfl <| .opp (P.mov .t1) rfl ?_
      obtain ⟨hb21, h⟩ := grd_eq h
      refine .opg (G.app (by_ := 1) .t1 .t0 .k0 (.inl Mm.m2) runUnderlying70 runUnderlying70 sizeOf5 typeInfo5 rfl rfl zeroValue5 rfl (one_map one_5 _) (by simpa using hb21) rfl) rfl fun u20 _ => .conseq .k0 (q := lst 5 1 u20 (((r9 ++ a0a) ++ a0b).map (fun x => [B8 x]))) (fun _ hh => by simpa [List.map_append] using hh) <| .drop .k2 <| .opp (P.asg .t0) rfl <| .nil <| .inn <| .then <| .reg rfl <| .opp (P.bin (v := N 2) .g1 .k (.addc (by decide))) rfl <| .drop .k2 <| .opp (P.mov .t0) rfl <| .nil ?_
      refine .then <| .rd <| .seq <| .reg rfl <| .opp (P.bin (v := Bo false) .g0 .g2 (BinV.lss.boolc (by decide))) rfl <| .nil <| .then <| .seq <| .condF .t0 <| .exit <| .thx <| .thx ?_
      refine .inb <| .then <| .seq <| .reg rfl <| .opp (P.mov .t1) rfl <| .opp (P.asg .t0) rfl <| .nil <| .then <| .ret ?_
      cases h
      exact .finw u20 (.r1 rfl (.tmp .g0)) trivial (Ls.of (.cons .k0 .nil)) .nil
attribute [irreducible] slices_Concat_byte_n2
noncomputable def blob_Cat_n2 (a0a : List UInt8) (a0b : List UInt8) : Option ((List UInt8)) :=
  Option.bind (slices_Concat_byte_n2 a0a a0b) fun r1 => some r1
set_option maxRecDepth 20000 in
set_option maxHeartbeats 8000000 in
theorem S_blob_Cat_n2 (v00 : Value) (z00a : Value) (a0a : List UInt8) (z00b : Value) (a0b : List UInt8) (r : (List UInt8)) (h : blob_Cat_n2 a0a a0b = some r) :
    SpecF Tryz.prog 92 [v00] [] [rows 1 v00 [[z00a], [z00b]], rows 1 z00a (a0a.map (fun x => [B8 x])), rows 1 z00b (a0b.map (fun x => [B8 x]))] (fun z : Value => True) (fun z => z) (fun z M => lst 5 1 z (r.map (fun x => [B8 x])) ::  M) (fun z M =>  M) := by
  refine .of func92 rfl ntmps92 rfl fun w0 D0 G0 => ?_
  unfold blob_Cat_n2 at h
  refine .seq <| .reg rfl <| .op0 (OpP.toV (P.asg .k)) rfl <| .nil <| .then <| .seq <| .reg rfl <| .opp (P.mov .t0) rfl ?_
  obtain ⟨r1, hr2, h⟩ := bnd_eq h
  refine .opg (G.call call160 (.cons .t0 .nil) (S_slices_Concat_byte_n2 v00 z00a a0a z00b a0b r1 hr2) .nil (.cons Mm.m0 (.cons Mm.m1 (.cons Mm.m2 .nil))) (fun _ _ => rfl) (fun _ _ => rfl) rfl) rfl fun u3 _ => .opp (P.asg .t0) rfl <| .nil <| .then <| .ret ?_
  cases h
  exact .finw u3 (.r1 rfl (.tmp .g0)) trivial (Ls.of (.cons .k0 .nil)) .nil
attribute [irreducible] blob_Cat_n2
noncomputable def hash_Text_n2 (a0a : List UInt8) (a0b : List UInt8) : Option (ByteArray) :=
  Option.bind (blob_Cat_n2 a0a a0b) fun r1 => Option.bind (hash_Sum r1) fun r4 => some (⟨⟨r4⟩⟩ : ByteArray)
set_option maxRecDepth 20000 in
set_option maxHeartbeats 8000000 in
theorem S_hash_Text_n2 (v00 : Value) (z00a : Value) (a0a : List UInt8) (z00b : Value) (a0b : List UInt8) (r : ByteArray) (h : hash_Text_n2 a0a a0b = some r) :
    SpecF Tryz.prog 184 [v00] [] [rows 1 v00 [[z00a], [z00b]], rows 1 z00a (a0a.map (fun x => [B8 x])), rows 1 z00b (a0b.map (fun x => [B8 x]))] (fun z : Unit => True) (fun z => .string r) (fun z M =>  M) (fun z M =>  M) := by
  refine .of func184 rfl ntmps184 rfl fun w0 D0 G0 => ?_
  unfold hash_Text_n2 at h
  refine .seq <| .reg rfl <| .op0 (OpP.toV (P.asg .k)) rfl <| .nil <| .then <| .seq <| .reg rfl <| .opp (P.mov .t0) rfl ?_
  obtain ⟨r1, hr2, h⟩ := bnd_eq h
  refine .opg (G.call call92 (.cons .t0 .nil) (S_blob_Cat_n2 v00 z00a a0a z00b a0b r1 hr2) .nil (.cons Mm.m0 (.cons Mm.m1 (.cons Mm.m2 .nil))) (fun _ _ => rfl) (fun _ _ => rfl) rfl) rfl fun u3 _ => .frz .k0 ?_
  obtain ⟨r4, hr5, h⟩ := bnd_eq h
  refine .opg (G.call call250 (.cons .t0 .nil) (S_hash_Sum u3 r1 r4 hr5) .nil (.cons Mm.m0 .nil) (fun _ _ => rfl) (fun _ _ => rfl) rfl) rfl fun u6 _ => .op (V.b2sl (l := r4) (e := 5) .t0 .k0 (by kernel_rfl) (by kernel_rfl) (by kernel_rfl)) rfl <| .opp (P.asg .t0) rfl <| .nil <| .then <| .ret ?_
  cases h
  exact .finw () (.r1 rfl (.tmp .g0)) trivial (Ls.of .nil) .nil
attribute [irreducible] hash_Text_n2
noncomputable def hash_Short_n2 (a0a : List UInt8) (a0b : List UInt8) : Option (ByteArray) :=
  Option.bind (hash_Text_n2 a0a a0b) fun r1 => grd (okS r1.size none (some 8) none) <| some ((r1.extract 0 (8 : Int).toNat))
set_option maxRecDepth 20000 in
set_option maxHeartbeats 8000000 in
theorem S_hash_Short_n2 (v00 : Value) (z00a : Value) (a0a : List UInt8) (z00b : Value) (a0b : List UInt8) (r : ByteArray) (h : hash_Short_n2 a0a a0b = some r) :
    SpecF Tryz.prog 125 [v00] [] [rows 1 v00 [[z00a], [z00b]], rows 1 z00a (a0a.map (fun x => [B8 x])), rows 1 z00b (a0b.map (fun x => [B8 x]))] (fun z : Unit => True) (fun z => .string r) (fun z M =>  M) (fun z M =>  M) := by
  refine .of func125 rfl ntmps125 rfl fun w0 D0 G0 => ?_
  unfold hash_Short_n2 at h
  refine .seq <| .reg rfl <| .op0 (OpP.toV (P.asg .k)) rfl <| .nil <| .then <| .seq <| .reg rfl <| .opp (P.mov .t0) rfl ?_
  obtain ⟨r1, hr2, h⟩ := bnd_eq h
  refine .opg (G.call call184 (.cons .t0 .nil) (S_hash_Text_n2 v00 z00a a0a z00b a0b r1 hr2) .nil (.cons Mm.m0 (.cons Mm.m1 (.cons Mm.m2 .nil))) (fun _ _ => rfl) (fun _ _ => rfl) rfl) rfl fun _ _ => ?_
  obtain ⟨hb3, h⟩ := grd_eq h
  refine .opp (P.slst (li := none) (hj := (some 8)) .t0 .none (.some .k) runUnderlying9 hb3) rfl <| .opp (P.asg .t0) rfl <| .nil <| .then <| .ret ?_
  cases h
  exact .finw () (.r1 rfl (.tmp .g0)) trivial (Ls.of .nil) .nil
attribute [irreducible] hash_Short_n2
noncomputable def mss_join (a0 : ByteArray) (a1 : ByteArray) : Option (ByteArray) :=
  grd (a0.size ≤ 140737488355328) <| grd (a1.size ≤ 140737488355328) <| Option.bind (hash_Short_n2 (a0.data.toList) (a1.data.toList)) fun r8 => some r8
set_option maxRecDepth 20000 in
set_option maxHeartbeats 8000000 in
theorem S_mss_join (a0 : ByteArray) (a1 : ByteArray) (r : ByteArray) (h : mss_join a0 a1 = some r) :
    SpecF Tryz.prog 70 [.string a0, .string a1] [] [] (fun z : Unit => True) (fun z => .string r) (fun z M =>  M) (fun z M =>  M) := by
  refine .of func70 rfl ntmps70 rfl fun w0 D0 G0 => ?_
  unfold mss_join at h
  refine .seq <| .reg rfl <| .op0 (OpP.toV (P.asg .k)) rfl <| .nil <| .then <| .seq <| .reg rfl <| .opp (P.mov .t0) rfl ?_
  obtain ⟨hb2, h⟩ := grd_eq h
  refine .opg (G.s2b (e := 5) .t0 (by kernel_rfl) (by kernel_rfl) (by kernel_rfl) hb2 rfl) rfl fun u1 _ => .opp (P.mov .t1) rfl ?_
  obtain ⟨hb4, h⟩ := grd_eq h
  refine .opg (G.s2b (e := 5) .t0 (by kernel_rfl) (by kernel_rfl) (by kernel_rfl) hb4 rfl) rfl fun u3 _ => .oner Mm.m1 fun ho6 => .oner Mm.m0 fun ho7 => .opg (G.bsln (xs := [[u1], [u3]]) (.cons .t1 (.cons .t0 .nil)) runUnderlying116 sizeOf70 zeroValue70 (fill2 ho6 ho7) rfl rfl rfl rfl rfl) rfl fun u5 _ => .frz .k0 ?_
  obtain ⟨r8, hr9, h⟩ := bnd_eq h
  refine .opg (G.call call125 (.cons .t0 .nil) (S_hash_Short_n2 u5 u1 (a0.data.toList) u3 (a1.data.toList) r8 hr9) .nil (.cons Mm.m0 (.cons Mm.m2 (.cons Mm.m1 .nil))) (fun _ _ => rfl) (fun _ _ => rfl) rfl) rfl fun _ _ => .opp (P.asg .t0) rfl <| .nil <| .then <| .ret ?_
  cases h
  exact .finw () (.r1 rfl (.tmp .g0)) trivial (Ls.of .nil) .nil
attribute [irreducible] mss_join
noncomputable def mss_above (a0 : List ByteArray) : Option ((List ByteArray)) :=
  Option.bind (loopW (fun (s1 : Int × (List ByteArray)) => if (decide ((IntKind.i64.wrap (s1.1 + 1)) < (a0.length : Int))) = true then (Option.bind (at_ a0 s1.1) fun (x14 : ByteArray) => Option.bind (at_ a0 (IntKind.i64.wrap (s1.1 + 1))) fun (x21 : ByteArray) => Option.bind (mss_join x14 x21) fun r25 => grd ((s1.2.length + ([r25] : List ByteArray).length) * 16 ≤ 140737488355328) <| some (.nx ((IntKind.i64.wrap (s1.1 + 2), (s1.2 ++ ([r25] : List ByteArray)))))) else (some (.br (s1.1, s1.2)))) (0, [])) fun o3 => Lo.on o3 fun (s1 : Int × (List ByteArray)) => some s1.2
set_option maxRecDepth 20000 in
set_option maxHeartbeats 8000000 in
theorem S_mss_above (v00 : Value) (a0 : List ByteArray) (r : (List ByteArray)) (h : mss_above a0 = some r) :
    SpecF Tryz.prog 34 [v00] [] [rows 1 v00 (a0.map (fun x => [.string x]))] (fun z : Value => True) (fun z => z) (fun z M => lst 9 1 z (r.map (fun x => [.string x])) ::  M) (fun z M =>  M) := by
  refine .of func34 rfl ntmps34 rfl fun w0 D0 G0 => ?_
  unfold mss_above at h
  refine .seq <| .reg rfl <| .op0 (OpP.toV (P.asg .k)) rfl <| .nil <| .then <| .seq <| .reg rfl <| .opp (P.asg .k) rfl <| .nil <| .then <| .seq <| .seq ?_
  refine .reg rfl <| .opp (P.asg .k) rfl <| .nil <| .then <| .block <| .lnil 9 1 ?_
  obtain ⟨o3, ho4, h⟩ := bnd_eq h
  refine .loopW (γ := Value) (fun (s1 : Int × (List ByteArray)) z2 => [(4, N s1.1), (3, z2), (0, v00)]) (fun (s1 : Int × (List ByteArray)) z2 => [lst 9 1 z2 (s1.2.map (fun x => [.string x]))]) (fun (s1 : Int × (List ByteArray)) z2 => [rows 1 v00 (a0.map (fun x => [.string x]))]) nilSl ho4 (.cons Mm.m0 (.cons Mm.m1 (.cons Mm.m2 .nil))) (.of (.cons .k0 .nil)) (.cons Mm.m0 .nil) (fun n9 s1 z2 hr7 => ?_)
  obtain ⟨ct8, hc5, hn6⟩ := loopK_at hr7
  refine .seq <| .seq <| .reg rfl <| .opp (P.mov .g0) rfl <| .opp (P.bin .t0 .k .add) rfl <| .opp (P.mov .g3) rfl <| .op (V.lnr (n := a0.length) .t0 Mm.m0 map_len runUnderlying60) rfl <| .opp (P.bin .t1 .t0 .lss) rfl <| .nil <| .then <| .cond .t0 (fun c10 => ?_) (fun c10 => ?_)
  · rw [if_pos c10] at hc5
    refine .skip <| .then <| .seq <| .block <| .drawl [] [rows 1 v00 (a0.map (fun x => [.string x]))] (Ls.of .nil) (Rs.cons Mm.m0 Rs.nil) 14 (.on 0 .pu (.on 1 .pu (.on 2 .pu (.on 3 .pu (.on 5 .pu (.on 6 .pu (.on 7 .pu (.on 8 .pu (.on 4 .ld (.on 9 .ld (.on 10 .go (.on 11 .go (.on 12 .go (.on 13 .go .nl)))))))))))))) follows_mixed (.inb (.thn (.thn (.inb (.thn .body))))) (by kernel_rfl) <| .dpu rfl (.n rfl) (P.mov .g1) rfl rfl <| .dpu rfl (.n rfl) (P.mov .g3) rfl rfl <| .dpu rfl (.n rfl) (P.mov .g2) rfl rfl ?_
    obtain ⟨x14, hx15, hc5⟩ := bnd_eq hc5
    obtain ⟨i16, hi17, hx15⟩ := at_eq hx15
    have hi17_ : (s1.1).toNat = i16 := by rw [hi17]; rfl
    refine .ixq Mm.m0 (map_get hx15) fun p11 q12 hq13 => .dpu rfl (.n rfl) (P.ixi (i := i16) .t0 hi17 .t0 hq13 runUnderlying60 sizeOf9) rfl rfl <| .dpu rfl (.n rfl) (P.mov .g4) rfl rfl <| .dpu rfl (.n rfl) (P.mov .g3) rfl rfl <| .dpu rfl (.n rfl) (P.bin .t0 .k .add) rfl rfl ?_
    obtain ⟨x21, hx22, hc5⟩ := bnd_eq hc5
    obtain ⟨i23, hi24, hx22⟩ := at_eq hx22
    have hi24_ : (IntKind.i64.wrap (s1.1 + 1)).toNat = i23 := by rw [hi24]; rfl
    refine .ixq Mm.m0 (map_get hx22) fun p18 q19 hq20 => .dpu rfl (.n rfl) (P.ixi (i := i23) .t0 hi24 .t0 hq20 runUnderlying60 sizeOf9) rfl rfl <| .dld rfl (.n rfl) (V.ldx0 (u := .string x14) .t1 hq13 Mm.m0 (map_get hx15) (.one isAgg9 rfl)) (fun _ h => (h.imp (Ls.of .nil)).ro (Rs.cons Mm.m0 Rs.nil)) rfl rfl <| .dld rfl (.n rfl) (V.ldx0 (u := .string x21) .t1 hq20 Mm.m0 (map_get hx22) (.one isAgg9 rfl)) (fun _ h => (h.imp (Ls.of .nil)).ro (Rs.cons Mm.m0 Rs.nil)) rfl rfl ?_
    obtain ⟨r25, hr26, hc5⟩ := bnd_eq hc5
    refine .dgo rfl (.n rfl) (G.call call70 (.cons .t1 (.cons .t0 .nil)) (S_mss_join x14 x21 r25 hr26) .nil .nil (fun _ _ => rfl) (fun _ _ => rfl) rfl) (.inr fun _ _ _ h => (h.imp (Ls.of .nil)).ro (Rs.cons Mm.m0 Rs.nil)) fun _ _ => .dgo rfl (.n rfl) (G.bsl (cs := [.string r25]) .t0 runUnderlying60 sizeOf9 zeroValue9 rfl rfl rfl rfl rfl) (.inr fun _ _ _ h => (h.imp (Ls.of .nil)).ro (Rs.cons Mm.m0 Rs.nil)) fun u27 _ => ?_
    obtain ⟨hb29, hc5⟩ := grd_eq hc5
    refine .dgo rfl (.n rfl) (G.app (by_ := 16) .t1 .t0 .k1 (.inr (.inr ⟨_, Mm.m0⟩)) runUnderlying60 runUnderlying60 sizeOf9 typeInfo9 rfl rfl zeroValue9 rfl rfl (by simpa using hb29) rfl) (.inr fun _ _ _ h => (h.imp (Ls.of .nil)).ro (Rs.cons Mm.m0 Rs.nil)) fun u28 _ => .conseq .k0 (q := lst 9 1 u28 ((s1.2 ++ ([r25] : List ByteArray)).map (fun x => [.string x]))) (fun _ hh => by simpa [List.map_append] using hh) <| .drop .k2 <| .dgo rfl (.n rfl) (OpV.g (OpP.toV (P.asg .t0)) rfl) (.inr fun _ _ _ h => (h.imp (Ls.of .nil)).ro (Rs.cons Mm.m0 Rs.nil)) fun _ _ => .dnil <| .inn <| .then <| .reg rfl <| .opp (P.mov .g1) rfl <| .opp (P.bin .t0 .k .add) rfl <| .drop .k2 <| .opp (P.asg .t0) rfl ?_
    refine .nil ?_
    cases hc5
    obtain ⟨m30, hm31, hn6⟩ := hn6
    exact .rdW ((IntKind.i64.wrap (s1.1 + 2), (s1.2 ++ ([r25] : List ByteArray)))) u28 hm31 hn6 (.cons Mm.m0 (.cons Mm.m1 (.cons Mm.m2 .nil))) (.of (.cons .k0 .nil)) (.cons Mm.m0 .nil)
  · rw [if_neg (ne_true_of_eq_false c10)] at hc5
    refine .exit <| .thx ?_
    cases hc5
    refine .told (γ := Value) h hn6 (fun (s1 : Int × (List ByteArray)) z2 => [(4, N s1.1), (3, z2), (0, v00)]) (fun (s1 : Int × (List ByteArray)) z2 => [lst 9 1 z2 (s1.2.map (fun x => [.string x]))]) (fun (s1 : Int × (List ByteArray)) z2 => [rows 1 v00 (a0.map (fun x => [.string x]))]) z2 (.cons Mm.m0 (.cons Mm.m1 (.cons Mm.m2 .nil))) (.of (.cons .k0 .nil)) (.cons Mm.m0 .nil) (fun s1 z2 h' => ?_)
    replace h := h'
    refine .thx <| .inb <| .then <| .seq <| .reg rfl <| .opp (P.mov .t1) rfl <| .opp (P.asg .t0) rfl <| .nil <| .then <| .ret ?_
    cases h
    exact .finw z2 (.r1 rfl (.tmp .g0)) trivial (Ls.of (.cons .k0 .nil)) .nil
attribute [irreducible] mss_above
noncomputable def mss_Root (a0 : ByteArray) : Option (ByteArray) :=
  Option.bind (mss_row a0) fun r1 => Option.bind (loopW (fun (s4 : (List ByteArray)) => if (decide ((s4.length : Int) > 1)) = true then (Option.bind (mss_above s4) fun r14 => some (.nx r14)) else (some (.br s4))) r1) fun o6 => Lo.on o6 fun (s4 : (List ByteArray)) => Option.bind (at_ s4 0) fun (x22 : ByteArray) => some x22
set_option maxRecDepth 20000 in
set_option maxHeartbeats 8000000 in
theorem S_mss_Root (a0 : ByteArray) (r : ByteArray) (h : mss_Root a0 = some r) :
    SpecF Tryz.prog 15 [.string a0] [] [] (fun z : Unit => True) (fun z => .string r) (fun z M =>  M) (fun z M =>  M) := by
  refine .of func15 rfl ntmps15 rfl fun w0 D0 G0 => ?_
  unfold mss_Root at h
  refine .seq <| .reg rfl <| .op0 (OpP.toV (P.asg .k)) rfl <| .nil <| .then <| .seq <| .reg rfl <| .opp (P.mov .t0) rfl ?_
  obtain ⟨r1, hr2, h⟩ := bnd_eq h
  refine .opg (G.call call33 (.cons .t0 .nil) (S_mss_row a0 r1 hr2) .nil .nil (fun _ _ => rfl) (fun _ _ => rfl) rfl) rfl fun u3 _ => .opp (P.asg .t0) rfl <| .nil <| .then <| .seq <| .block ?_
  obtain ⟨o6, ho7, h⟩ := bnd_eq h
  refine .loopW (γ := Value) (fun (s4 : (List ByteArray)) z5 => [(3, z5)]) (fun (s4 : (List ByteArray)) z5 => [lst 9 1 z5 (s4.map (fun x => [.string x]))]) (fun (s4 : (List ByteArray)) z5 => []) u3 ho7 (.cons Mm.m0 .nil) (.of (.cons .k0 .nil)) .nil (fun n12 s4 z5 hr10 => ?_)
  obtain ⟨ct11, hc8, hn9⟩ := loopK_at hr10
  refine .seq <| .seq <| .reg rfl <| .opp (P.mov .g0) rfl <| .op (V.lnl (n := s4.length) .t0 .k0 map_len runUnderlying60) rfl <| .opp (P.bin .t0 .k .gtr) rfl <| .nil <| .then <| .cond .t0 (fun c13 => ?_) (fun c13 => ?_)
  · rw [if_pos c13] at hc8
    refine .skip <| .then <| .block <| .reg rfl <| .opp (P.mov .g0) rfl ?_
    obtain ⟨r14, hr15, hc8⟩ := bnd_eq hc8
    refine .opg (G.calll call34 (.cons .t0 .nil) (S_mss_above z5 s4 r14 hr15) .nil (.imp (List.mem_append_right _ Mm.m0) (fun _ => lst_rows) .nil) (fun _ _ => rfl) rfl) rfl fun u16 _ => .drop .k1 <| .opp (P.asg .t0) rfl <| .nil <| .inn ?_
    cases hc8
    obtain ⟨m17, hm18, hn9⟩ := hn9
    exact .rdW r14 u16 hm18 hn9 (.cons Mm.m0 .nil) (.of (.cons .k0 .nil)) .nil
  · rw [if_neg (ne_true_of_eq_false c13)] at hc8
    refine .exit <| .thx ?_
    cases hc8
    refine .told (γ := Value) h hn9 (fun (s4 : (List ByteArray)) z5 => [(3, z5)]) (fun (s4 : (List ByteArray)) z5 => [lst 9 1 z5 (s4.map (fun x => [.string x]))]) (fun (s4 : (List ByteArray)) z5 => []) z5 (.cons Mm.m0 .nil) (.of (.cons .k0 .nil)) .nil (fun s4 z5 h' => ?_)
    replace h := h'
    refine .thx <| .inb <| .then <| .seq <| .reg rfl <| .opp (P.mov .t0) rfl ?_
    obtain ⟨x22, hx23, h⟩ := bnd_eq h
    obtain ⟨i24, hi25, hx23⟩ := at_eq hx23
    have hi25_ : (0 : Int).toNat = i24 := by rw [hi25]; rfl
    refine .ixql .k0 (map_get hx23) fun p19 q20 hq21 => .opp (P.ixi (i := i24) .k hi25 .t0 hq21 runUnderlying60 sizeOf9) rfl <| .op (V.ldxl0 (u := .string x22) .t0 hq21 .k0 (map_get hx23) (.one isAgg9 rfl)) rfl <| .opp (P.asg .t0) rfl <| .nil <| .then <| .ret ?_
    cases h
    exact .finw () (.r1 rfl (.tmp .g0)) trivial (Ls.of .nil) .nil
attribute [irreducible] mss_Root
noncomputable def world_World_corrupt (a0 : world_World) (a1 : Int) : Option (Bool) :=
  grd (0 ≤ a1) <| some (decide ((bandK .i64 (shrK .i64 a0.setup.Corrupt a1) 1) = 1))
set_option maxRecDepth 20000 in
set_option maxHeartbeats 8000000 in
theorem S_world_World_corrupt (b00 : Nat) (a0 : world_World) (z00a z00b z00c z00d z00e z00f z00g z00h z00i z00j z00k : Value) (a1 : Int) (r : Bool) (h : world_World_corrupt a0 a1 = some r) :
    SpecF Tryz.prog 17 [pt b00 0, N a1] [blk b00 58 (world_World.cs a0 z00a z00b z00c z00d z00e z00f z00g z00h z00i z00j z00k), bx chain_Chain.bd chain_Chain.fp z00a a0.sides.a0, bx chain_Chain.bd chain_Chain.fp z00b a0.sides.a1, bx client_Client.bd client_Client.fp z00c a0.clients.a0, bx client_Client.bd client_Client.fp z00d a0.clients.a1, bx router_Router.bd router_Router.fp z00e a0.routers.a0, bx router_Router.bd router_Router.fp z00f a0.routers.a1, bx relay_Relay.bd relay_Relay.fp z00g a0.relay, mb (fun (x : world_place) => Ag x.cs) (fun (x : Int) => N x) z00h a0.since, mb (fun (x : world_word) => Ag x.cs) (fun (x : Bool) => Bo x) z00i a0.told, mb (fun (x : ByteArray) => Value.string x) (fun (x : api_Inv) => Ag x.cs) z00j a0.keys, mb (fun (x : ByteArray) => Value.string x) (fun (x : world_data) => Ag x.cs) z00k a0.digests] [] (fun z : Unit => True) (fun z => Bo r) (fun z M => blk b00 58 (world_World.cs a0 z00a z00b z00c z00d z00e z00f z00g z00h z00i z00j z00k) :: bx chain_Chain.bd chain_Chain.fp z00a a0.sides.a0 :: bx chain_Chain.bd chain_Chain.fp z00b a0.sides.a1 :: bx client_Client.bd client_Client.fp z00c a0.clients.a0 :: bx client_Client.bd client_Client.fp z00d a0.clients.a1 :: bx router_Router.bd router_Router.fp z00e a0.routers.a0 :: bx router_Router.bd router_Router.fp z00f a0.routers.a1 :: bx relay_Relay.bd relay_Relay.fp z00g a0.relay :: mb (fun (x : world_place) => Ag x.cs) (fun (x : Int) => N x) z00h a0.since :: mb (fun (x : world_word) => Ag x.cs) (fun (x : Bool) => Bo x) z00i a0.told :: mb (fun (x : ByteArray) => Value.string x) (fun (x : api_Inv) => Ag x.cs) z00j a0.keys :: mb (fun (x : ByteArray) => Value.string x) (fun (x : world_data) => Ag x.cs) z00k a0.digests ::  M) (fun z M =>  M) := by
  refine .of func17 rfl ntmps17 rfl fun w0 D0 G0 => ?_
  unfold world_World_corrupt at h
  refine .seq <| .reg rfl <| .op0 (OpP.toV (P.asg .k)) rfl <| .nil <| .then <| .seq <| .reg rfl <| .opp (P.mov .t0) rfl <| .opp (P.nilc .t0) rfl <| .opp (P.fa .t0 fa_58_0 rfl) rfl <| .opp (P.fa .t0 fa_23_2 rfl) rfl <| .op (V.ld (v := N a0.setup.Corrupt) .t0 .k0 (.one isAgg3 rfl)) rfl ?_
  refine .opp (P.mov .t1) rfl ?_
  obtain ⟨hb1, h⟩ := grd_eq h
  refine .opp (P.bin .t1 .t0 (.shr hb1)) rfl <| .opp (P.bin .t0 .k .and) rfl <| .opp (P.bin .t0 .k .eql) rfl <| .opp (P.asg .t0) rfl <| .nil <| .then <| .ret ?_
  cases h
  exact .finw () (.r1 rfl (.tmp .g0)) trivial (Ls.of (.cons .k0 (.cons .k0 (.cons .k0 (.cons .k0 (.cons .k0 (.cons .k0 (.cons .k0 (.cons .k0 (.cons .k0 (.cons .k0 (.cons .k0 (.cons .k0 .nil))))))))))))) .nil
attribute [irreducible] world_World_corrupt
noncomputable def plan_Delay (a0 : Int) : Int :=
  if 4 < (if 1 > a0 then 1 else a0) then 4 else if 1 > a0 then 1 else a0
set_option maxRecDepth 20000 in
set_option maxHeartbeats 8000000 in
theorem S_plan_Delay (a0 : Int) (r : Int) (h : plan_Delay a0 = r) :
    SpecF Tryz.prog 35 [N a0] [] [] (fun z : Unit => True) (fun z => N r) (fun z M =>  M) (fun z M =>  M) := by
  refine .of func35 rfl ntmps35 rfl fun w0 D0 G0 => ?_
  unfold plan_Delay at h
  refine .seq <| .reg rfl <| .op0 (OpP.toV (P.asg .k)) rfl <| .nil <| .then <| .seq <| .reg rfl <| .opp (P.mov .t0) rfl <| .opp (P.max2 .t0 .k) rfl <| .opp (P.min2 .t0 .k) rfl <| .opp (P.asg .t0) rfl <| .nil ?_
  refine .then <| .ret ?_
  subst h
  exact .finw () (.r1 rfl (.tmp .g0)) trivial (Ls.of .nil) .nil
attribute [irreducible] plan_Delay
noncomputable def disk_New (a0 : Int) : disk_Disk :=
  (⟨[], 0, if 65536 < (if 0 > a0 then 0 else a0) then 65536 else if 0 > a0 then 0 else a0, true⟩ : disk_Disk)
set_option maxRecDepth 20000 in
set_option maxHeartbeats 8000000 in
theorem S_disk_New (a0 : Int) (r : disk_Disk) (h : disk_New a0 = r) :
    SpecF Tryz.prog 36 [N a0] [] [] (fun z : Nat × Value => True) (fun z => pt z.1 0) (fun z M => blk z.1 155 (disk_Disk.cs r z.2) :: lst 5 1 z.2 (r.b.map (fun x => [B8 x])) ::  M) (fun z M =>  M) := by
  refine .of func36 rfl ntmps36 rfl fun w0 D0 G0 => ?_
  unfold disk_New at h
  refine .seq <| .reg rfl <| .op0 (OpP.toV (P.asg .k)) rfl <| .nil <| .then <| .seq <| .reg rfl <| .opp (P.mov .t0) rfl <| .opp (P.max2 .t0 .k) rfl <| .opp (P.min2 .t0 .k) rfl <| .opp (P.bld (v := Ag (disk_Disk.cs ⟨[], 0, if 65536 < (if 0 > a0 then 0 else a0) then 65536 else if 0 > a0 then 0 else a0, true⟩ nilSl)) (.cons .t0 (.cons .k .nil)) (bld_run zeroValue155 runUnderlying155 pl_155 (by kernel_rfl))) rfl <| .opx (X.box (cs := (disk_Disk.cs ⟨[], 0, if 65536 < (if 0 > a0 then 0 else a0) then 65536 else if 0 > a0 then 0 else a0, true⟩ nilSl)) .t0 rfl) rfl fun b1 => ?_
  refine .opp (P.asg .t0) rfl <| .nil <| .then <| .ret ?_
  subst h
  exact .lnil 5 1 <| .finw ⟨b1, nilSl⟩ (.r1 rfl (.tmp .g0)) trivial (Ls.of (.cons .k1 (.cons .k0 .nil))) .nil
attribute [irreducible] disk_New
noncomputable def router_New (a0 : Int) (a1 : Int) (a2 : Int) : (Option router_Router) × Int :=
  thn (if (decide (a0 < 2)) = true then true else (decide (a0 ≥ 4))) fun (y1 : Bool) => if y1 = true then (none, 4) else (((some (⟨a0, (plan_Delay a1), (some (disk_New a2)), [], [], (), false, true⟩ : router_Router)), 0))
set_option maxRecDepth 20000 in
set_option maxHeartbeats 8000000 in
theorem S_router_New (a0 : Int) (a1 : Int) (a2 : Int) (r : (Option router_Router) × Int) (h : router_New a0 a1 a2 = r) :
    SpecF Tryz.prog 18 [N a0, N a1, N a2] [] [] (fun z : Value => True) (fun z => Tu [z, N r.2]) (fun z M => bx router_Router.bd router_Router.fp z r.1 ::  M) (fun z M =>  M) := by
  refine .of func18 rfl ntmps18 rfl fun w0 D0 G0 => ?_
  unfold router_New at h
  refine .seq <| .reg rfl <| .op0 (OpP.toV (P.asg .k)) rfl <| .op0 (OpP.toV (P.asg .k)) rfl <| .nil <| .then <| .seq ?_
  obtain ⟨y1, hj3, h⟩ := thn_eq h
  refine .cutx (γ := Unit) (E1 := fun z2 => [(13, Bo y1), (0, N a0), (1, N a1), (2, N a2)]) (L1 := fun z2 => []) (R1 := fun z2 => []) ?_ (fun z2 => ?_)
  · clear h
    refine .reg rfl <| .opp (P.mov .g0) rfl <| .opp (P.bin .t0 .k .lss) rfl <| .opp (P.mov .t0) rfl <| .split .k0 (fun c4 => ?_) (fun c4 => ?_)
    · rw [if_pos c4] at hj3
      refine .gno rfl .g0 rfl rfl <| .gno rfl .g0 rfl rfl <| .opp (P.pickT .t0 .k) rfl <| .nil ?_
      subst hj3
      exact .stj () (.cons Mm.m0 (.cons Mm.m1 (.cons Mm.m2 (.cons Mm.m3 .nil)))) (.of .nil) .nil
    · rw [if_neg (ne_true_of_eq_false c4)] at hj3
      refine .gyes rfl .g0 <| .opp (P.mov .g1) rfl <| .gyes rfl .g1 <| .opp (P.bin .t0 .k .geq) rfl <| .opp (P.pickF .t1 .t0) rfl <| .nil ?_
      subst hj3
      exact .stj () (.cons Mm.m0 (.cons Mm.m1 (.cons Mm.m2 (.cons Mm.m3 .nil)))) (.of .nil) .nil
  · clear hj3
    refine .cond .t0 (fun c5 => ?_) (fun c5 => ?_)
    · rw [if_pos c5] at h
      refine .seq <| .reg rfl <| .opp (P.asg .k) rfl <| .opp (P.asg .k) rfl <| .nil <| .then <| .ret <| .thr ?_
      subst h
      exact .bxn router_Router.bd router_Router.fp <| .finw nilp (.r2 rfl (.tmp .g1) (.tmp .g0)) trivial (Ls.of (.cons .k0 .nil)) .nil
    · rw [if_neg (ne_true_of_eq_false c5)] at h
      refine .skip <| .then <| .seq <| .reg rfl <| .opp (P.mov .t0) rfl <| .opp (P.mov .t1) rfl <| .opg (G.call call35 (.cons .t0 .nil) (S_plan_Delay a1 _ rfl) .nil .nil (fun _ _ => rfl) (fun _ _ => rfl) rfl) rfl fun _ _ => .opp (P.mov .t2) rfl <| .opg (G.call call36 (.cons .t0 .nil) (S_disk_New a2 _ rfl) .nil .nil (fun _ _ => rfl) (fun _ _ => rfl) rfl) rfl fun ⟨b6, u7⟩ _ => .opp (P.bld (v := Ag (router_Router.cs ⟨a0, (plan_Delay a1), none, [], [], (), false, true⟩ (pt b6 0) nilSl nilSl)) (.cons .t2 (.cons .t1 (.cons .t0 (.cons .k .nil)))) (bld_run zeroValue110 runUnderlying110 pl_110 (by kernel_rfl))) rfl <| .opx (X.box (cs := (router_Router.cs ⟨a0, (plan_Delay a1), none, [], [], (), false, true⟩ (pt b6 0) nilSl nilSl)) .t0 rfl) rfl fun b8 => .opp (P.asg .t0) rfl ?_
      refine .opp (P.asg .k) rfl <| .nil <| .then <| .ret ?_
      subst h
      exact .bxc disk_Disk.bd disk_Disk.fp (b6, u7) (disk_New a2) (z := (pt b6 0)) rfl (.cons .k1 (.cons .k1 .nil)) <| .lnil 172 9 <| .lnil 174 16 <| .bxc router_Router.bd router_Router.fp (b8, (pt b6 0), nilSl, nilSl) (⟨a0, (plan_Delay a1), (some (disk_New a2)), [], [], (), false, true⟩ : router_Router) (z := (pt b8 0)) rfl (.cons .k3 (.cons .k2 (.cons .k1 (.cons .k0 .nil)))) <| .finw (pt b8 0) (.r2 rfl (.tmp .g1) (.tmp .g0)) trivial (Ls.of (.cons .k0 .nil)) .nil
attribute [irreducible] router_New
noncomputable def chain_Chain_is_bx (a0 : Option chain_Chain) : Option (Bool) :=
  Option.bind (if a0.isSome = true then (Option.bind a0 fun (y7 : chain_Chain) => some y7.made) else (some false)) fun (y1 : Bool) => some y1
set_option maxRecDepth 20000 in
set_option maxHeartbeats 8000000 in
theorem S_chain_Chain_is_bx (v00 : Value) (a0 : Option chain_Chain) (r : Bool) (h : chain_Chain_is_bx a0 = some r) :
    SpecF Tryz.prog 25 [v00] [bx chain_Chain.bd chain_Chain.fp v00 a0] [] (fun z : Unit => True) (fun z => Bo r) (fun z M => bx chain_Chain.bd chain_Chain.fp v00 a0 ::  M) (fun z M =>  M) := by
  refine .of func25 rfl ntmps25 rfl fun w0 D0 G0 => ?_
  unfold chain_Chain_is_bx at h
  refine .seq <| .reg rfl <| .op0 (OpP.toV (P.asg .k)) rfl <| .nil <| .then ?_
  obtain ⟨y1, hj3, h⟩ := bnd_eq h
  refine .cutx (γ := Unit) (E1 := fun z2 => [(2, Bo y1)]) (L1 := fun z2 => [bx chain_Chain.bd chain_Chain.fp v00 a0]) (R1 := fun z2 => []) ?_ (fun z2 => ?_)
  · clear h
    refine .reg rfl <| .opp (P.mov .g0) rfl <| .fact .k0 (fun _ hh => bx_nil (P := Tryz.prog) (t := 32) (e := 93) (by kernel_rfl) hh) fun hq4 => .opp (P.bin .t0 .k hq4.2) rfl <| .opp (P.mov .t0) rfl <| .split .k0 (fun c5 => ?_) (fun c5 => ?_)
    · rw [if_pos c5] at hj3
      refine .gyes rfl .g0 <| .opp (P.mov .t1) rfl <| .gyes rfl .g1 ?_
      obtain ⟨y7, hy8, hj3⟩ := bnd_eq hj3
      refine .bxo .k0 hy8 (fun _ _ _ => rfl) fun ⟨b9, u10, u11, u12⟩ hz6 => ?_
      replace hz6 : v00 = pt b9 0 := hz6
      subst hz6
      refine .opp (P.nilc .t0) rfl <| .gyes rfl .g1 <| .opp (P.fa .t0 fa_93_3 rfl) rfl <| .gyes rfl .g1 <| .op (V.ld (v := Bo y7.made) .t0 .k0 (.one isAgg4 rfl)) rfl <| .opp (P.pickT .t1 .t0) rfl <| .opp (P.asg .t0) rfl <| .nil ?_
      cases hj3
      exact .bxc chain_Chain.bd chain_Chain.fp (b9, u10, u11, u12) y7 (z := (pt b9 0)) rfl (.cons .k0 (.cons .k0 (.cons .k0 (.cons .k0 .nil)))) <| .conseq .k0 (q := bx chain_Chain.bd chain_Chain.fp (pt b9 0) a0) (fun _ h_ => by rw [hy8]; exact h_) <| .stj () (.cons Mm.m0 .nil) (.of (.cons .k0 .nil)) .nil
    · rw [if_neg (ne_true_of_eq_false c5)] at hj3
      refine .gno rfl .g0 rfl rfl <| .gno rfl .g0 rfl rfl <| .gno rfl .g0 rfl rfl <| .gno rfl .g0 rfl rfl <| .opp (P.pickF .t0 .k) rfl <| .opp (P.asg .t0) rfl <| .nil ?_
      cases hj3
      exact .stj () (.cons Mm.m0 .nil) (.of (.cons .k0 .nil)) .nil
  · clear hj3
    refine .ret ?_
    cases h
    exact .finw () (.r1 rfl (.tmp .g0)) trivial (Ls.of (.cons .k0 .nil)) .nil
attribute [irreducible] chain_Chain_is_bx
noncomputable def txs_route (a0 : api_Tx) : Int :=
  if (decide ((a0.Amount : api_Wide) = (⟨0, 0, 0, 0⟩ : api_Wide))) = true then 36 else (thn (if (decide (a0.Kind = 1)) = true then (if (decide (a0.Inv.To < 0)) = true then true else (decide (a0.Inv.To ≥ 8))) else false) fun (y3 : Bool) => if y3 = true then 39 else (thn (if (decide (a0.Kind = 2)) = true then (if (decide (a0.Inv.Router < 2)) = true then true else (decide (a0.Inv.Router ≥ 4))) else false) fun (y9 : Bool) => if y9 = true then 39 else 0))
set_option maxRecDepth 20000 in
set_option maxHeartbeats 8000000 in
theorem S_txs_route (a0 : api_Tx) (r : Int) (h : txs_route a0 = r) :
    SpecF Tryz.prog 126 [Ag (api_Tx.cs a0)] [] [] (fun z : Unit => True) (fun z => N r) (fun z M =>  M) (fun z M =>  M) := by
  refine .of func126 rfl ntmps126 rfl fun w0 D0 G0 => ?_
  unfold txs_route at h
  refine .seq <| .reg rfl <| .opx (X.box (cs := (api_Tx.cs a0)) .t0 rfl) rfl fun b1 => .op0 (OpP.toV (P.asg .k)) rfl <| .nil <| .then <| .seq <| .block <| .seq <| .reg rfl <| .opp (P.fa .g0 fa_83_4 rfl) rfl <| .op (V.ld (v := Ag (api_Wide.cs a0.Amount)) .t0 .k0 (.agg isAgg77 sizeOf77 rfl rfl)) rfl ?_
  refine .opp (P.bld (v := Ag (api_Wide.cs ⟨0, 0, 0, 0⟩)) .nil (bld_runA zeroValue77 runUnderlying77 sizeOf75 (by kernel_rfl))) rfl <| .opp (P.bin .t1 .t0 (eq_77_eql _ _)) rfl <| .opp (P.asg .t0) rfl <| .nil <| .then <| .cond .t0 (fun c2 => ?_) (fun c2 => ?_)
  · rw [if_pos c2] at h
    refine .seq <| .reg rfl <| .opp (P.asg .k) rfl <| .nil <| .then <| .ret <| .inr <| .thr ?_
    subst h
    exact .finw () (.r1 rfl (.tmp .g0)) trivial (Ls.of .nil) .nil
  · rw [if_neg (ne_true_of_eq_false c2)] at h
    obtain ⟨y3, hj5, h⟩ := thn_eq h
    refine .cutx (γ := Unit) (E1 := fun z4 => [(8, Bo y3), (1, pt b1 0)]) (L1 := fun z4 => [blk b1 83 (api_Tx.cs a0)]) (R1 := fun z4 => []) ?_ (fun z4 => ?_)
    · clear h
      refine .reg rfl <| .opp (P.fa .g0 fa_83_2 rfl) rfl <| .op (V.ld (v := N a0.Kind) .t0 .k0 (.one isAgg3 rfl)) rfl <| .opp (P.bin .t0 .k .eql) rfl <| .opp (P.mov .t0) rfl <| .split .k0 (fun c6 => ?_) (fun c6 => ?_)
      · rw [if_pos c6] at hj5
        refine .gyes rfl .g0 <| .opp (P.fa .g1 fa_83_5 rfl) rfl <| .gyes rfl .g1 <| .opp (P.fa .t0 fa_79_5 rfl) rfl <| .gyes rfl .g1 <| .op (V.ld (v := N a0.Inv.To) .t0 .k0 (.one isAgg3 rfl)) rfl <| .gyes rfl .g1 <| .opp (P.bin .t0 .k .lss) rfl <| .gyes rfl .g1 <| .opp (P.mov .t0) rfl <| .split .k0 (fun c7 => ?_) (fun c7 => ?_)
        · rw [if_pos c7] at hj5
          refine .gno rfl .g0 rfl rfl <| .gno rfl .g0 rfl rfl <| .gno rfl .g0 rfl rfl <| .gno rfl .g0 rfl rfl <| .gyes rfl .g1 <| .opp (P.pickT .t0 .k) rfl <| .opp (P.pickT .t1 .t0) rfl <| .opp (P.asg .t0) rfl <| .nil ?_
          subst hj5
          exact .stj () (.cons Mm.m0 (.cons Mm.m1 .nil)) (.of (.cons .k0 .nil)) .nil
        · rw [if_neg (ne_true_of_eq_false c7)] at hj5
          refine .gyes rfl .g0 <| .opp (P.fa .g2 fa_83_5 rfl) rfl <| .gyes rfl .g1 <| .opp (P.fa .t0 fa_79_5 rfl) rfl <| .gyes rfl .g1 <| .op (V.ld (v := N a0.Inv.To) .t0 .k0 (.one isAgg3 rfl)) rfl <| .gyes rfl .g1 <| .opp (P.bin .t0 .k .geq) rfl <| .gyes rfl .g2 <| .opp (P.pickF .t1 .t0) rfl <| .opp (P.pickT .t1 .t0) rfl <| .opp (P.asg .t0) rfl ?_
          refine .nil ?_
          subst hj5
          exact .stj () (.cons Mm.m0 (.cons Mm.m1 .nil)) (.of (.cons .k0 .nil)) .nil
      · rw [if_neg (ne_true_of_eq_false c6)] at hj5
        refine .gno rfl .g0 rfl rfl <| .gno rfl .g0 rfl rfl <| .gno rfl .g0 rfl rfl <| .gno rfl .g0 rfl rfl <| .gwu (.g rfl rfl .g0 rfl) rfl <| .gw (.un rfl rfl .g0) rfl <| .gw (.un rfl rfl .g0) rfl <| .gw (.un rfl rfl .g0) rfl <| .gw (.un rfl rfl .g0) rfl <| .gno rfl .g1 rfl rfl <| .opp (P.pickF .t1 .k) rfl <| .opp (P.asg .t0) rfl ?_
        refine .nil ?_
        subst hj5
        exact .stj () (.cons Mm.m0 (.cons Mm.m2 .nil)) (.of (.cons .k0 .nil)) .nil
    · clear hj5
      refine .cond .t0 (fun c8 => ?_) (fun c8 => ?_)
      · rw [if_pos c8] at h
        refine .seq <| .reg rfl <| .opp (P.asg .k) rfl <| .nil <| .then <| .ret <| .inr <| .thr ?_
        subst h
        exact .finw () (.r1 rfl (.tmp .g0)) trivial (Ls.of .nil) .nil
      · rw [if_neg (ne_true_of_eq_false c8)] at h
        obtain ⟨y9, hj11, h⟩ := thn_eq h
        refine .cutx (γ := Unit) (E1 := fun z10 => [(24, Bo y9)]) (L1 := fun z10 => []) (R1 := fun z10 => []) ?_ (fun z10 => ?_)
        · clear h
          refine .reg rfl <| .opp (P.fa .g0 fa_83_2 rfl) rfl <| .op (V.ld (v := N a0.Kind) .t0 .k0 (.one isAgg3 rfl)) rfl <| .opp (P.bin .t0 .k .eql) rfl <| .opp (P.mov .t0) rfl <| .split .k0 (fun c12 => ?_) (fun c12 => ?_)
          · rw [if_pos c12] at hj11
            refine .gyes rfl .g0 <| .opp (P.fa .g1 fa_83_5 rfl) rfl <| .gyes rfl .g1 <| .opp (P.fa .t0 fa_79_2 rfl) rfl <| .gyes rfl .g1 <| .op (V.ld (v := N a0.Inv.Router) .t0 .k0 (.one isAgg3 rfl)) rfl <| .gyes rfl .g1 <| .opp (P.bin .t0 .k .lss) rfl <| .gyes rfl .g1 <| .opp (P.mov .t0) rfl <| .split .k0 (fun c13 => ?_) (fun c13 => ?_)
            · rw [if_pos c13] at hj11
              refine .gno rfl .g0 rfl rfl <| .gno rfl .g0 rfl rfl <| .gno rfl .g0 rfl rfl <| .gno rfl .g0 rfl rfl <| .gyes rfl .g1 <| .opp (P.pickT .t0 .k) rfl <| .opp (P.pickT .t1 .t0) rfl <| .opp (P.asg .t0) rfl <| .nil ?_
              subst hj11
              exact .stj () (.cons Mm.m0 .nil) (.of .nil) .nil
            · rw [if_neg (ne_true_of_eq_false c13)] at hj11
              refine .gyes rfl .g0 <| .opp (P.fa .t2 fa_83_5 rfl) rfl <| .gyes rfl .g1 <| .opp (P.fa .t0 fa_79_2 rfl) rfl <| .gyes rfl .g1 <| .op (V.ld (v := N a0.Inv.Router) .t0 .k0 (.one isAgg3 rfl)) rfl <| .gyes rfl .g1 <| .opp (P.bin .t0 .k .geq) rfl <| .gyes rfl .g2 <| .opp (P.pickF .t1 .t0) rfl <| .opp (P.pickT .t1 .t0) rfl <| .opp (P.asg .t0) rfl ?_
              refine .nil ?_
              subst hj11
              exact .stj () (.cons Mm.m0 .nil) (.of .nil) .nil
          · rw [if_neg (ne_true_of_eq_false c12)] at hj11
            refine .gno rfl .g0 rfl rfl <| .gno rfl .g0 rfl rfl <| .gno rfl .g0 rfl rfl <| .gno rfl .g0 rfl rfl <| .gwu (.g rfl rfl .g0 rfl) rfl <| .gw (.un rfl rfl .g0) rfl <| .gw (.un rfl rfl .g0) rfl <| .gw (.un rfl rfl .g0) rfl <| .gw (.un rfl rfl .g0) rfl <| .gno rfl .g1 rfl rfl <| .opp (P.pickF .t1 .k) rfl <| .opp (P.asg .t0) rfl ?_
            refine .nil ?_
            subst hj11
            exact .stj () (.cons Mm.m0 .nil) (.of .nil) .nil
        · clear hj11
          refine .cond .t0 (fun c14 => ?_) (fun c14 => ?_)
          · rw [if_pos c14] at h
            refine .seq <| .reg rfl <| .opp (P.asg .k) rfl <| .nil <| .then <| .ret <| .inr <| .thr ?_
            subst h
            exact .finw () (.r1 rfl (.tmp .g0)) trivial (Ls.of .nil) .nil
          · rw [if_neg (ne_true_of_eq_false c14)] at h
            refine .skip <| .inn <| .then <| .seq <| .reg rfl <| .opp (P.asg .k) rfl <| .nil <| .then <| .ret ?_
            subst h
            exact .finw () (.r1 rfl (.tmp .g0)) trivial (Ls.of .nil) .nil
attribute [irreducible] txs_route
noncomputable def deal_in (a0 : Int) (a1 : Int) (a2 : Int) : Bool :=
  thn (if (decide (a0 ≥ a1)) = true then (decide (a0 ≤ a2)) else false) fun (y1 : Bool) => y1
set_option maxRecDepth 20000 in
set_option maxHeartbeats 8000000 in
theorem S_deal_in (a0 : Int) (a1 : Int) (a2 : Int) (r : Bool) (h : deal_in a0 a1 a2 = r) :
    SpecF Tryz.prog 193 [N a0, N a1, N a2] [] [] (fun z : Unit => True) (fun z => Bo r) (fun z M =>  M) (fun z M =>  M) := by
  refine .of func193 rfl ntmps193 rfl fun w0 D0 G0 => ?_
  unfold deal_in at h
  refine .seq <| .reg rfl <| .op0 (OpP.toV (P.asg .k)) rfl <| .nil <| .then ?_
  obtain ⟨y1, hj3, h⟩ := thn_eq h
  refine .cutx (γ := Unit) (E1 := fun z2 => [(6, Bo y1)]) (L1 := fun z2 => []) (R1 := fun z2 => []) ?_ (fun z2 => ?_)
  · clear h
    refine .reg rfl <| .opp (P.mov .g0) rfl <| .opp (P.mov .t2) rfl <| .opp (P.bin .t1 .t0 .geq) rfl <| .opp (P.mov .t0) rfl <| .split .k0 (fun c4 => ?_) (fun c4 => ?_)
    · rw [if_pos c4] at hj3
      refine .gyes rfl .g0 <| .opp (P.mov .t1) rfl <| .gyes rfl .g1 <| .opp (P.mov .t2) rfl <| .gyes rfl .g2 <| .opp (P.bin .t1 .t0 .leq) rfl <| .opp (P.pickT .t1 .t0) rfl <| .opp (P.asg .t0) rfl <| .nil ?_
      subst hj3
      exact .stj () (.cons Mm.m0 .nil) (.of .nil) .nil
    · rw [if_neg (ne_true_of_eq_false c4)] at hj3
      refine .gno rfl .g0 rfl rfl <| .gno rfl .g0 rfl rfl <| .gno rfl .g0 rfl rfl <| .opp (P.pickF .t0 .k) rfl <| .opp (P.asg .t0) rfl <| .nil ?_
      subst hj3
      exact .stj () (.cons Mm.m0 .nil) (.of .nil) .nil
  · clear hj3
    refine .ret ?_
    subst h
    exact .finw () (.r1 rfl (.tmp .g0)) trivial (Ls.of .nil) .nil
attribute [irreducible] deal_in
noncomputable def deal_Check (a0 : api_Inv) : Int :=
  thn (if (deal_in a0.User 0 1) = true then (if (deal_in a0.Router 2 3) = true then (if (deal_in a0.Send 0 1) = true then (deal_in a0.Recv 0 1) else false) else false) else false) fun (y2 : Bool) => thn (if (!y2) = true then true else (if (!(deal_in a0.To 0 7)) = true then true else (if (decide ((a0.Root.size : Int) ≠ 8)) = true then true else (!(deal_in (a0.Id.size : Int) 1 16))))) fun (y8 : Bool) => if y8 = true then 39 else 0
set_option maxRecDepth 20000 in
set_option maxHeartbeats 8000000 in
theorem S_deal_Check (a0 : api_Inv) (r : Int) (h : deal_Check a0 = r) :
    SpecF Tryz.prog 127 [Ag (api_Inv.cs a0)] [] [] (fun z : Unit => True) (fun z => N r) (fun z M =>  M) (fun z M =>  M) := by
  refine .of func127 rfl ntmps127 rfl fun w0 D0 G0 => ?_
  unfold deal_Check at h
  refine .seq <| .reg rfl <| .opx (X.box (cs := (api_Inv.cs a0)) .t0 rfl) rfl fun b1 => .op0 (OpP.toV (P.asg .k)) rfl <| .nil <| .then ?_
  obtain ⟨y2, hj4, h⟩ := thn_eq h
  refine .cutx (γ := Unit) (E1 := fun z3 => [(3, Bo y2), (1, pt b1 0)]) (L1 := fun z3 => [blk b1 79 (api_Inv.cs a0)]) (R1 := fun z3 => []) ?_ (fun z3 => ?_)
  · clear h
    refine .reg rfl <| .opp (P.fa .g0 fa_79_0 rfl) rfl <| .op (V.ld (v := N a0.User) .t0 .k0 (.one isAgg3 rfl)) rfl <| .opg (G.call call193 (.cons .t0 (.cons .k (.cons .k .nil))) (S_deal_in a0.User 0 1 _ rfl) .nil .nil (fun _ _ => rfl) (fun _ _ => rfl) rfl) rfl fun _ _ => .opp (P.mov .t0) rfl <| .split .k0 (fun c5 => ?_) (fun c5 => ?_)
    · rw [if_pos c5] at hj4
      refine .gyes rfl .g0 <| .opp (P.fa .g1 fa_79_2 rfl) rfl <| .gyes rfl .g1 <| .op (V.ld (v := N a0.Router) .t0 .k0 (.one isAgg3 rfl)) rfl <| .gyes rfl .g1 <| .opg (G.call call193 (.cons .t0 (.cons .k (.cons .k .nil))) (S_deal_in a0.Router 2 3 _ rfl) .nil .nil (fun _ _ => rfl) (fun _ _ => rfl) rfl) rfl fun _ _ => .opp (P.pickT .t1 .t0) rfl <| .opp (P.mov .t0) rfl <| .split .k0 (fun c6 => ?_) (fun c6 => ?_)
      · rw [if_pos c6] at hj4
        refine .gyes rfl .g0 <| .opp (P.fa .g1 fa_79_3 rfl) rfl <| .gyes rfl .g1 <| .op (V.ld (v := N a0.Send) .t0 .k0 (.one isAgg3 rfl)) rfl <| .gyes rfl .g1 <| .opg (G.call call193 (.cons .t0 (.cons .k (.cons .k .nil))) (S_deal_in a0.Send 0 1 _ rfl) .nil .nil (fun _ _ => rfl) (fun _ _ => rfl) rfl) rfl fun _ _ => .opp (P.pickT .t1 .t0) rfl <| .opp (P.mov .t0) rfl <| .split .k0 (fun c7 => ?_) (fun c7 => ?_)
        · rw [if_pos c7] at hj4
          refine .gyes rfl .g0 <| .opp (P.fa .g1 fa_79_4 rfl) rfl <| .gyes rfl .g1 <| .op (V.ld (v := N a0.Recv) .t0 .k0 (.one isAgg3 rfl)) rfl <| .gyes rfl .g1 <| .opg (G.call call193 (.cons .t0 (.cons .k (.cons .k .nil))) (S_deal_in a0.Recv 0 1 _ rfl) .nil .nil (fun _ _ => rfl) (fun _ _ => rfl) rfl) rfl fun _ _ => .opp (P.pickT .t1 .t0) rfl <| .opp (P.asg .t0) rfl <| .nil ?_
          subst hj4
          exact .stj () (.cons Mm.m0 (.cons Mm.m1 .nil)) (.of (.cons .k0 .nil)) .nil
        · rw [if_neg (ne_true_of_eq_false c7)] at hj4
          refine .gno rfl .g0 rfl rfl <| .gno rfl .g0 rfl rfl <| .gno rfl .g0 rfl rfl <| .opp (P.pickF .t0 .k) rfl <| .opp (P.asg .t0) rfl <| .nil ?_
          subst hj4
          exact .stj () (.cons Mm.m0 (.cons Mm.m1 .nil)) (.of (.cons .k0 .nil)) .nil
      · rw [if_neg (ne_true_of_eq_false c6)] at hj4
        refine .gno rfl .g0 rfl rfl <| .gno rfl .g0 rfl rfl <| .gno rfl .g0 rfl rfl <| .opp (P.pickF .t0 .k) rfl <| .opp (P.mov .t0) rfl <| .gno rfl .g0 rfl rfl <| .gno rfl .g0 rfl rfl <| .gno rfl .g0 rfl rfl <| .opp (P.pickF .t0 .k) rfl <| .opp (P.asg .t0) rfl <| .nil ?_
        subst hj4
        exact .stj () (.cons Mm.m0 (.cons Mm.m1 .nil)) (.of (.cons .k0 .nil)) .nil
    · rw [if_neg (ne_true_of_eq_false c5)] at hj4
      refine .gno rfl .g0 rfl rfl <| .gno rfl .g0 rfl rfl <| .gno rfl .g0 rfl rfl <| .opp (P.pickF .t0 .k) rfl <| .opp (P.mov .t0) rfl <| .gno rfl .g0 rfl rfl <| .gno rfl .g0 rfl rfl <| .gno rfl .g0 rfl rfl <| .opp (P.pickF .t0 .k) rfl <| .opp (P.mov .t0) rfl <| .gno rfl .g0 rfl rfl <| .gno rfl .g0 rfl rfl ?_
      refine .gno rfl .g0 rfl rfl <| .opp (P.pickF .t0 .k) rfl <| .opp (P.asg .t0) rfl <| .nil ?_
      subst hj4
      exact .stj () (.cons Mm.m0 (.cons Mm.m1 .nil)) (.of (.cons .k0 .nil)) .nil
  · clear hj4
    refine .seq ?_
    obtain ⟨y8, hj10, h⟩ := thn_eq h
    refine .cutx (γ := Unit) (E1 := fun z9 => [(42, Bo y8)]) (L1 := fun z9 => []) (R1 := fun z9 => []) ?_ (fun z9 => ?_)
    · clear h
      refine .reg rfl <| .opp (P.mov .t0) rfl <| .opp (P.not .t0) rfl <| .opp (P.mov .t0) rfl <| .split .k0 (fun c11 => ?_) (fun c11 => ?_)
      · rw [if_pos c11] at hj10
        refine .gno rfl .g0 rfl rfl <| .gno rfl .g0 rfl rfl <| .gno rfl .g0 rfl rfl <| .gno rfl .g0 rfl rfl <| .opp (P.pickT .t0 .k) rfl <| .opp (P.mov .t0) rfl <| .gno rfl .g0 rfl rfl <| .gno rfl .g0 rfl rfl <| .gno rfl .g0 rfl rfl <| .gno rfl .g0 rfl rfl <| .opp (P.pickT .t0 .k) rfl <| .opp (P.mov .t0) rfl ?_
        refine .gno rfl .g0 rfl rfl <| .gno rfl .g0 rfl rfl <| .gno rfl .g0 rfl rfl <| .gno rfl .g0 rfl rfl <| .gno rfl .g0 rfl rfl <| .opp (P.pickT .t0 .k) rfl <| .nil ?_
        subst hj10
        exact .stj () (.cons Mm.m0 .nil) (.of .nil) .nil
      · rw [if_neg (ne_true_of_eq_false c11)] at hj10
        refine .gyes rfl .g0 <| .opp (P.fa .g1 fa_79_5 rfl) rfl <| .gyes rfl .g1 <| .op (V.ld (v := N a0.To) .t0 .k0 (.one isAgg3 rfl)) rfl <| .gyes rfl .g1 <| .opg (G.call call193 (.cons .t0 (.cons .k (.cons .k .nil))) (S_deal_in a0.To 0 7 _ rfl) .nil .nil (fun _ _ => rfl) (fun _ _ => rfl) rfl) rfl fun _ _ => .gyes rfl .g1 <| .opp (P.not .t0) rfl <| .opp (P.pickF .t1 .t0) rfl <| .opp (P.mov .t0) rfl <| .split .k0 (fun c12 => ?_) (fun c12 => ?_)
        · rw [if_pos c12] at hj10
          refine .gno rfl .g0 rfl rfl <| .gno rfl .g0 rfl rfl <| .gno rfl .g0 rfl rfl <| .gno rfl .g0 rfl rfl <| .opp (P.pickT .t0 .k) rfl <| .opp (P.mov .t0) rfl <| .gno rfl .g0 rfl rfl <| .gno rfl .g0 rfl rfl <| .gno rfl .g0 rfl rfl <| .gno rfl .g0 rfl rfl <| .gno rfl .g0 rfl rfl <| .opp (P.pickT .t0 .k) rfl ?_
          refine .nil ?_
          subst hj10
          exact .stj () (.cons Mm.m0 .nil) (.of .nil) .nil
        · rw [if_neg (ne_true_of_eq_false c12)] at hj10
          refine .gyes rfl .g0 <| .opp (P.fa .g1 fa_79_1 rfl) rfl <| .gyes rfl .g1 <| .op (V.ld (v := .string a0.Root) .t0 .k0 (.one isAgg9 rfl)) rfl <| .gyes rfl .g1 <| .opp (P.lens .t0 runUnderlying9) rfl <| .gyes rfl .g1 <| .opp (P.bin .t0 .k .neq) rfl <| .opp (P.pickF .t1 .t0) rfl <| .opp (P.mov .t0) rfl <| .split .k0 (fun c13 => ?_) (fun c13 => ?_)
          · rw [if_pos c13] at hj10
            refine .gno rfl .g0 rfl rfl <| .gno rfl .g0 rfl rfl <| .gno rfl .g0 rfl rfl <| .gno rfl .g0 rfl rfl <| .gno rfl .g0 rfl rfl <| .opp (P.pickT .t0 .k) rfl <| .nil ?_
            subst hj10
            exact .stj () (.cons Mm.m0 .nil) (.of .nil) .nil
          · rw [if_neg (ne_true_of_eq_false c13)] at hj10
            refine .gyes rfl .g0 <| .opp (P.fa .t1 fa_79_6 rfl) rfl <| .gyes rfl .g1 <| .op (V.ld (v := .string a0.Id) .t0 .k0 (.one isAgg9 rfl)) rfl <| .gyes rfl .g1 <| .opp (P.lens .t0 runUnderlying9) rfl <| .gyes rfl .g1 <| .opg (G.call call193 (.cons .t0 (.cons .k (.cons .k .nil))) (S_deal_in (a0.Id.size : Int) 1 16 _ rfl) .nil .nil (fun _ _ => rfl) (fun _ _ => rfl) rfl) rfl fun _ _ => .gyes rfl .g1 <| .opp (P.not .t0) rfl <| .opp (P.pickF .t1 .t0) rfl <| .nil ?_
            subst hj10
            exact .stj () (.cons Mm.m0 .nil) (.of .nil) .nil
    · clear hj10
      refine .cond .t0 (fun c14 => ?_) (fun c14 => ?_)
      · rw [if_pos c14] at h
        refine .seq <| .reg rfl <| .opp (P.asg .k) rfl <| .nil <| .then <| .ret <| .thr ?_
        subst h
        exact .finw () (.r1 rfl (.tmp .g0)) trivial (Ls.of .nil) .nil
      · rw [if_neg (ne_true_of_eq_false c14)] at h
        refine .skip <| .then <| .seq <| .reg rfl <| .opp (P.asg .k) rfl <| .nil <| .then <| .ret ?_
        subst h
        exact .finw () (.r1 rfl (.tmp .g0)) trivial (Ls.of .nil) .nil
attribute [irreducible] deal_Check
noncomputable def deal_Sound (a0 : api_Var) : Int :=
  thn (if (decide ((a0.Amount : api_Wide) = (⟨0, 0, 0, 0⟩ : api_Wide))) = true then true else (!(deal_in a0.Expiry 0 1099511627776))) fun (y2 : Bool) => if y2 = true then 36 else 0
set_option maxRecDepth 20000 in
set_option maxHeartbeats 8000000 in
theorem S_deal_Sound (a0 : api_Var) (r : Int) (h : deal_Sound a0 = r) :
    SpecF Tryz.prog 128 [Ag (api_Var.cs a0)] [] [] (fun z : Unit => True) (fun z => N r) (fun z M =>  M) (fun z M =>  M) := by
  refine .of func128 rfl ntmps128 rfl fun w0 D0 G0 => ?_
  unfold deal_Sound at h
  refine .seq <| .reg rfl <| .opx (X.box (cs := (api_Var.cs a0)) .t0 rfl) rfl fun b1 => .op0 (OpP.toV (P.asg .k)) rfl <| .nil <| .then <| .seq ?_
  obtain ⟨y2, hj4, h⟩ := thn_eq h
  refine .cutx (γ := Unit) (E1 := fun z3 => [(12, Bo y2)]) (L1 := fun z3 => []) (R1 := fun z3 => []) ?_ (fun z3 => ?_)
  · clear h
    refine .reg rfl <| .opp (P.fa .g0 fa_81_0 rfl) rfl <| .op (V.ld (v := Ag (api_Wide.cs a0.Amount)) .t0 .k0 (.agg isAgg77 sizeOf77 rfl rfl)) rfl <| .opp (P.bld (v := Ag (api_Wide.cs ⟨0, 0, 0, 0⟩)) .nil (bld_runA zeroValue77 runUnderlying77 sizeOf75 (by kernel_rfl))) rfl <| .opp (P.bin .t1 .t0 (eq_77_eql _ _)) rfl <| .opp (P.mov .t0) rfl <| .split .k0 (fun c5 => ?_) (fun c5 => ?_)
    · rw [if_pos c5] at hj4
      refine .gno rfl .g0 rfl rfl <| .gno rfl .g0 rfl rfl <| .gno rfl .g0 rfl rfl <| .gno rfl .g0 rfl rfl <| .opp (P.pickT .t0 .k) rfl <| .nil ?_
      subst hj4
      exact .stj () (.cons Mm.m0 .nil) (.of .nil) .nil
    · rw [if_neg (ne_true_of_eq_false c5)] at hj4
      refine .gyes rfl .g0 <| .opp (P.fa .t1 fa_81_1 rfl) rfl <| .gyes rfl .g1 <| .op (V.ld (v := N a0.Expiry) .t0 .k0 (.one isAgg3 rfl)) rfl <| .gyes rfl .g1 <| .opg (G.call call193 (.cons .t0 (.cons .k (.cons .k .nil))) (S_deal_in a0.Expiry 0 1099511627776 _ rfl) .nil .nil (fun _ _ => rfl) (fun _ _ => rfl) rfl) rfl fun _ _ => .gyes rfl .g1 <| .opp (P.not .t0) rfl <| .opp (P.pickF .t1 .t0) rfl <| .nil ?_
      subst hj4
      exact .stj () (.cons Mm.m0 .nil) (.of .nil) .nil
  · clear hj4
    refine .cond .t0 (fun c6 => ?_) (fun c6 => ?_)
    · rw [if_pos c6] at h
      refine .seq <| .reg rfl <| .opp (P.asg .k) rfl <| .nil <| .then <| .ret <| .thr ?_
      subst h
      exact .finw () (.r1 rfl (.tmp .g0)) trivial (Ls.of .nil) .nil
    · rw [if_neg (ne_true_of_eq_false c6)] at h
      refine .skip <| .then <| .seq <| .reg rfl <| .opp (P.asg .k) rfl <| .nil <| .then <| .ret ?_
      subst h
      exact .finw () (.r1 rfl (.tmp .g0)) trivial (Ls.of .nil) .nil
attribute [irreducible] deal_Sound
noncomputable def txs_Check (a0 : api_Tx) : Int :=
  thn (if (decide (a0.Kind < 1)) = true then true else (decide (a0.Kind > 6))) fun (y2 : Bool) => if y2 = true then 12 else (thn (if (decide (a0.From < 0)) = true then true else (if (decide (a0.From ≥ 8)) = true then true else (if (decide (a0.Nonce < 0)) = true then true else (if (decide (a0.Nonce > 1099511627776)) = true then true else (if (decide (a0.Asset < 0)) = true then true else (decide (a0.Asset ≥ 2))))))) fun (y7 : Bool) => if y7 = true then 4 else (if (decide (a0.Kind < 4)) = true then (txs_route a0) else (if (decide ((deal_Check a0.Inv) ≠ 0)) = true then (deal_Check a0.Inv) else (if (decide ((deal_Sound a0.Var) ≠ 0)) = true then (deal_Sound a0.Var) else (if (decide ((a0.Sig.size : Int) > 1024)) = true then 5 else 0)))))
set_option maxRecDepth 20000 in
set_option maxHeartbeats 8000000 in
theorem S_txs_Check (a0 : api_Tx) (r : Int) (h : txs_Check a0 = r) :
    SpecF Tryz.prog 71 [Ag (api_Tx.cs a0)] [] [] (fun z : Unit => True) (fun z => N r) (fun z M =>  M) (fun z M =>  M) := by
  refine .of func71 rfl ntmps71 rfl fun w0 D0 G0 => ?_
  unfold txs_Check at h
  refine .seq <| .reg rfl <| .opx (X.box (cs := (api_Tx.cs a0)) .t0 rfl) rfl fun b1 => .op0 (OpP.toV (P.asg .k)) rfl <| .nil <| .then <| .seq <| .block ?_
  obtain ⟨y2, hj4, h⟩ := thn_eq h
  refine .cutx (γ := Unit) (E1 := fun z3 => [(5, Bo y2), (1, pt b1 0)]) (L1 := fun z3 => [blk b1 83 (api_Tx.cs a0)]) (R1 := fun z3 => []) ?_ (fun z3 => ?_)
  · clear h
    refine .reg rfl <| .opp (P.fa .g0 fa_83_2 rfl) rfl <| .op (V.ld (v := N a0.Kind) .t0 .k0 (.one isAgg3 rfl)) rfl <| .opp (P.bin .t0 .k .lss) rfl <| .opp (P.mov .t0) rfl <| .split .k0 (fun c5 => ?_) (fun c5 => ?_)
    · rw [if_pos c5] at hj4
      refine .gno rfl .g0 rfl rfl <| .gno rfl .g0 rfl rfl <| .gno rfl .g0 rfl rfl <| .opp (P.pickT .t0 .k) rfl <| .opp (P.asg .t0) rfl <| .nil ?_
      subst hj4
      exact .stj () (.cons Mm.m0 (.cons Mm.m1 .nil)) (.of (.cons .k0 .nil)) .nil
    · rw [if_neg (ne_true_of_eq_false c5)] at hj4
      refine .gyes rfl .g0 <| .opp (P.fa .g1 fa_83_2 rfl) rfl <| .gyes rfl .g1 <| .op (V.ld (v := N a0.Kind) .t0 .k0 (.one isAgg3 rfl)) rfl <| .gyes rfl .g1 <| .opp (P.bin .t0 .k .gtr) rfl <| .opp (P.pickF .t1 .t0) rfl <| .opp (P.asg .t0) rfl <| .nil ?_
      subst hj4
      exact .stj () (.cons Mm.m0 (.cons Mm.m1 .nil)) (.of (.cons .k0 .nil)) .nil
  · clear hj4
    refine .cond .t0 (fun c6 => ?_) (fun c6 => ?_)
    · rw [if_pos c6] at h
      refine .seq <| .reg rfl <| .opp (P.asg .k) rfl <| .nil <| .then <| .ret <| .inr <| .thr ?_
      subst h
      exact .finw () (.r1 rfl (.tmp .g0)) trivial (Ls.of .nil) .nil
    · rw [if_neg (ne_true_of_eq_false c6)] at h
      obtain ⟨y7, hj9, h⟩ := thn_eq h
      refine .cutx (γ := Unit) (E1 := fun z8 => [(14, Bo y7), (1, pt b1 0)]) (L1 := fun z8 => [blk b1 83 (api_Tx.cs a0)]) (R1 := fun z8 => []) ?_ (fun z8 => ?_)
      · clear h
        refine .reg rfl <| .opp (P.fa .g0 fa_83_0 rfl) rfl <| .op (V.ld (v := N a0.From) .t0 .k0 (.one isAgg3 rfl)) rfl <| .opp (P.bin .t0 .k .lss) rfl <| .opp (P.mov .t0) rfl <| .split .k0 (fun c10 => ?_) (fun c10 => ?_)
        · rw [if_pos c10] at hj9
          refine .gno rfl .g0 rfl rfl <| .gno rfl .g0 rfl rfl <| .gno rfl .g0 rfl rfl <| .opp (P.pickT .t0 .k) rfl <| .opp (P.mov .t0) rfl <| .gno rfl .g0 rfl rfl <| .gno rfl .g0 rfl rfl <| .gno rfl .g0 rfl rfl <| .opp (P.pickT .t0 .k) rfl <| .opp (P.mov .t0) rfl <| .gno rfl .g0 rfl rfl <| .gno rfl .g0 rfl rfl ?_
          refine .gno rfl .g0 rfl rfl <| .opp (P.pickT .t0 .k) rfl <| .opp (P.mov .t0) rfl <| .gno rfl .g0 rfl rfl <| .gno rfl .g0 rfl rfl <| .gno rfl .g0 rfl rfl <| .opp (P.pickT .t0 .k) rfl <| .opp (P.mov .t0) rfl <| .gno rfl .g0 rfl rfl <| .gno rfl .g0 rfl rfl <| .gno rfl .g0 rfl rfl <| .opp (P.pickT .t0 .k) rfl ?_
          refine .opp (P.asg .t0) rfl <| .nil ?_
          subst hj9
          exact .stj () (.cons Mm.m0 (.cons Mm.m1 .nil)) (.of (.cons .k0 .nil)) .nil
        · rw [if_neg (ne_true_of_eq_false c10)] at hj9
          refine .gyes rfl .g0 <| .opp (P.fa .g1 fa_83_0 rfl) rfl <| .gyes rfl .g1 <| .op (V.ld (v := N a0.From) .t0 .k0 (.one isAgg3 rfl)) rfl <| .gyes rfl .g1 <| .opp (P.bin .t0 .k .geq) rfl <| .opp (P.pickF .t1 .t0) rfl <| .opp (P.mov .t0) rfl <| .split .k0 (fun c11 => ?_) (fun c11 => ?_)
          · rw [if_pos c11] at hj9
            refine .gno rfl .g0 rfl rfl <| .gno rfl .g0 rfl rfl <| .gno rfl .g0 rfl rfl <| .opp (P.pickT .t0 .k) rfl <| .opp (P.mov .t0) rfl <| .gno rfl .g0 rfl rfl <| .gno rfl .g0 rfl rfl <| .gno rfl .g0 rfl rfl <| .opp (P.pickT .t0 .k) rfl <| .opp (P.mov .t0) rfl <| .gno rfl .g0 rfl rfl <| .gno rfl .g0 rfl rfl ?_
            refine .gno rfl .g0 rfl rfl <| .opp (P.pickT .t0 .k) rfl <| .opp (P.mov .t0) rfl <| .gno rfl .g0 rfl rfl <| .gno rfl .g0 rfl rfl <| .gno rfl .g0 rfl rfl <| .opp (P.pickT .t0 .k) rfl <| .opp (P.asg .t0) rfl <| .nil ?_
            subst hj9
            exact .stj () (.cons Mm.m0 (.cons Mm.m1 .nil)) (.of (.cons .k0 .nil)) .nil
          · rw [if_neg (ne_true_of_eq_false c11)] at hj9
            refine .gyes rfl .g0 <| .opp (P.fa .g1 fa_83_1 rfl) rfl <| .gyes rfl .g1 <| .op (V.ld (v := N a0.Nonce) .t0 .k0 (.one isAgg3 rfl)) rfl <| .gyes rfl .g1 <| .opp (P.bin .t0 .k .lss) rfl <| .opp (P.pickF .t1 .t0) rfl <| .opp (P.mov .t0) rfl <| .split .k0 (fun c12 => ?_) (fun c12 => ?_)
            · rw [if_pos c12] at hj9
              refine .gno rfl .g0 rfl rfl <| .gno rfl .g0 rfl rfl <| .gno rfl .g0 rfl rfl <| .opp (P.pickT .t0 .k) rfl <| .opp (P.mov .t0) rfl <| .gno rfl .g0 rfl rfl <| .gno rfl .g0 rfl rfl <| .gno rfl .g0 rfl rfl <| .opp (P.pickT .t0 .k) rfl <| .opp (P.mov .t0) rfl <| .gno rfl .g0 rfl rfl <| .gno rfl .g0 rfl rfl ?_
              refine .gno rfl .g0 rfl rfl <| .opp (P.pickT .t0 .k) rfl <| .opp (P.asg .t0) rfl <| .nil ?_
              subst hj9
              exact .stj () (.cons Mm.m0 (.cons Mm.m1 .nil)) (.of (.cons .k0 .nil)) .nil
            · rw [if_neg (ne_true_of_eq_false c12)] at hj9
              refine .gyes rfl .g0 <| .opp (P.fa .g1 fa_83_1 rfl) rfl <| .gyes rfl .g1 <| .op (V.ld (v := N a0.Nonce) .t0 .k0 (.one isAgg3 rfl)) rfl <| .gyes rfl .g1 <| .opp (P.bin .t0 .k .gtr) rfl <| .opp (P.pickF .t1 .t0) rfl <| .opp (P.mov .t0) rfl <| .split .k0 (fun c13 => ?_) (fun c13 => ?_)
              · rw [if_pos c13] at hj9
                refine .gno rfl .g0 rfl rfl <| .gno rfl .g0 rfl rfl <| .gno rfl .g0 rfl rfl <| .opp (P.pickT .t0 .k) rfl <| .opp (P.mov .t0) rfl <| .gno rfl .g0 rfl rfl <| .gno rfl .g0 rfl rfl <| .gno rfl .g0 rfl rfl <| .opp (P.pickT .t0 .k) rfl <| .opp (P.asg .t0) rfl <| .nil ?_
                subst hj9
                exact .stj () (.cons Mm.m0 (.cons Mm.m1 .nil)) (.of (.cons .k0 .nil)) .nil
              · rw [if_neg (ne_true_of_eq_false c13)] at hj9
                refine .gyes rfl .g0 <| .opp (P.fa .g1 fa_83_3 rfl) rfl <| .gyes rfl .g1 <| .op (V.ld (v := N a0.Asset) .t0 .k0 (.one isAgg3 rfl)) rfl <| .gyes rfl .g1 <| .opp (P.bin .t0 .k .lss) rfl <| .opp (P.pickF .t1 .t0) rfl <| .opp (P.mov .t0) rfl <| .split .k0 (fun c14 => ?_) (fun c14 => ?_)
                · rw [if_pos c14] at hj9
                  refine .gno rfl .g0 rfl rfl <| .gno rfl .g0 rfl rfl <| .gno rfl .g0 rfl rfl <| .opp (P.pickT .t0 .k) rfl <| .opp (P.asg .t0) rfl <| .nil ?_
                  subst hj9
                  exact .stj () (.cons Mm.m0 (.cons Mm.m1 .nil)) (.of (.cons .k0 .nil)) .nil
                · rw [if_neg (ne_true_of_eq_false c14)] at hj9
                  refine .gyes rfl .g0 <| .opp (P.fa .g1 fa_83_3 rfl) rfl <| .gyes rfl .g1 <| .op (V.ld (v := N a0.Asset) .t0 .k0 (.one isAgg3 rfl)) rfl <| .gyes rfl .g1 <| .opp (P.bin .t0 .k .geq) rfl <| .opp (P.pickF .t1 .t0) rfl <| .opp (P.asg .t0) rfl <| .nil ?_
                  subst hj9
                  exact .stj () (.cons Mm.m0 (.cons Mm.m1 .nil)) (.of (.cons .k0 .nil)) .nil
      · clear hj9
        refine .cond .t0 (fun c15 => ?_) (fun c15 => ?_)
        · rw [if_pos c15] at h
          refine .seq <| .reg rfl <| .opp (P.asg .k) rfl <| .nil <| .then <| .ret <| .inr <| .thr ?_
          subst h
          exact .finw () (.r1 rfl (.tmp .g0)) trivial (Ls.of .nil) .nil
        · rw [if_neg (ne_true_of_eq_false c15)] at h
          refine .seq <| .reg rfl <| .opp (P.fa .g0 fa_83_2 rfl) rfl <| .op (V.ld (v := N a0.Kind) .t0 .k0 (.one isAgg3 rfl)) rfl <| .opp (P.bin .t0 .k .lss) rfl <| .opp (P.asg .t0) rfl <| .nil <| .then <| .cond .t0 (fun c16 => ?_) (fun c16 => ?_)
          · rw [if_pos c16] at h
            refine .seq <| .reg rfl <| .op (V.ld (v := Ag (api_Tx.cs a0)) .t0 .k0 (.agg isAgg83 sizeOf83 rfl rfl)) rfl <| .opg (G.call call126 (.cons .t0 .nil) (S_txs_route a0 _ rfl) .nil .nil (fun _ _ => rfl) (fun _ _ => rfl) rfl) rfl fun _ _ => .opp (P.asg .t0) rfl <| .nil <| .then <| .ret <| .inr <| .thr ?_
            subst h
            exact .finw () (.r1 rfl (.tmp .g0)) trivial (Ls.of .nil) .nil
          · rw [if_neg (ne_true_of_eq_false c16)] at h
            refine .skip <| .inn <| .then <| .seq <| .seq <| .reg rfl <| .opp (P.fa .g0 fa_83_5 rfl) rfl <| .op (V.ld (v := Ag (api_Inv.cs a0.Inv)) .t0 .k0 (.agg isAgg79 sizeOf79 rfl rfl)) rfl <| .opg (G.call call127 (.cons .t0 .nil) (S_deal_Check a0.Inv _ rfl) .nil .nil (fun _ _ => rfl) (fun _ _ => rfl) rfl) rfl fun _ _ => .opp (P.asg .t0) rfl <| .nil <| .then ?_
            refine .seq <| .reg rfl <| .opp (P.mov .g0) rfl <| .opp (P.bin .t0 .k .neq) rfl <| .nil <| .then <| .cond .t0 (fun c17 => ?_) (fun c17 => ?_)
            · rw [if_pos c17] at h
              refine .seq <| .reg rfl <| .opp (P.mov .t0) rfl <| .opp (P.asg .t0) rfl <| .nil <| .then <| .ret <| .thr ?_
              subst h
              exact .finw () (.r1 rfl (.tmp .g0)) trivial (Ls.of .nil) .nil
            · rw [if_neg (ne_true_of_eq_false c17)] at h
              refine .skip <| .then <| .seq <| .seq <| .reg rfl <| .opp (P.fa .g1 fa_83_6 rfl) rfl <| .op (V.ld (v := Ag (api_Var.cs a0.Var)) .t0 .k0 (.agg isAgg81 sizeOf81 rfl rfl)) rfl <| .opg (G.call call128 (.cons .t0 .nil) (S_deal_Sound a0.Var _ rfl) .nil .nil (fun _ _ => rfl) (fun _ _ => rfl) rfl) rfl fun _ _ => .opp (P.asg .t0) rfl <| .nil <| .then <| .seq ?_
              refine .reg rfl <| .opp (P.mov .g0) rfl <| .opp (P.bin .t0 .k .neq) rfl <| .nil <| .then <| .cond .t0 (fun c18 => ?_) (fun c18 => ?_)
              · rw [if_pos c18] at h
                refine .seq <| .reg rfl <| .opp (P.mov .t0) rfl <| .opp (P.asg .t0) rfl <| .nil <| .then <| .ret <| .thr ?_
                subst h
                exact .finw () (.r1 rfl (.tmp .g0)) trivial (Ls.of .nil) .nil
              · rw [if_neg (ne_true_of_eq_false c18)] at h
                refine .skip <| .then <| .seq <| .seq <| .reg rfl <| .opp (P.fa .t2 fa_83_8 rfl) rfl <| .op (V.ld (v := .string a0.Sig) .t0 .k0 (.one isAgg9 rfl)) rfl <| .opp (P.lens .t0 runUnderlying9) rfl <| .opp (P.bin .t0 .k .gtr) rfl <| .nil <| .then <| .cond .t0 (fun c19 => ?_) (fun c19 => ?_)
                · rw [if_pos c19] at h
                  refine .seq <| .reg rfl <| .opp (P.asg .k) rfl <| .nil <| .then <| .ret <| .thr ?_
                  subst h
                  exact .finw () (.r1 rfl (.tmp .g0)) trivial (Ls.of .nil) .nil
                · rw [if_neg (ne_true_of_eq_false c19)] at h
                  refine .skip <| .then <| .seq <| .reg rfl <| .opp (P.asg .k) rfl <| .nil <| .then <| .ret ?_
                  subst h
                  exact .finw () (.r1 rfl (.tmp .g0)) trivial (Ls.of .nil) .nil
attribute [irreducible] txs_Check
noncomputable def chain_Chain_is (a0 : chain_Chain) : Bool :=
  a0.made
set_option maxRecDepth 20000 in
set_option maxHeartbeats 8000000 in
theorem S_chain_Chain_is (b00 : Nat) (a0 : chain_Chain) (z00a z00b z00c : Value) (r : Bool) (h : chain_Chain_is a0 = r) :
    SpecF Tryz.prog 25 [pt b00 0] [blk b00 93 (chain_Chain.cs a0 z00a z00b z00c), lst 241 3 z00a (a0.s.Locks.map escrow_Lock.cs), lst 83 25 z00b (a0.pool.map api_Tx.cs), lst 162 27 z00c (a0.events.map api_Event.cs)] [] (fun z : Unit => True) (fun z => Bo r) (fun z M => blk b00 93 (chain_Chain.cs a0 z00a z00b z00c) :: lst 241 3 z00a (a0.s.Locks.map escrow_Lock.cs) :: lst 83 25 z00b (a0.pool.map api_Tx.cs) :: lst 162 27 z00c (a0.events.map api_Event.cs) ::  M) (fun z M =>  M) := by
  refine .of func25 rfl ntmps25 rfl fun w0 D0 G0 => ?_
  unfold chain_Chain_is at h
  refine .seq <| .reg rfl <| .op0 (OpP.toV (P.asg .k)) rfl <| .nil <| .then <| .seq <| .reg rfl <| .opp (P.mov .g0) rfl <| .opp (P.bin .t0 .k (.ptr_neq (e := 93) (by kernel_rfl))) rfl <| .opp (P.mov .t0) rfl <| .gyes rfl .g0 <| .opp (P.mov .t1) rfl ?_
  refine .gyes rfl .g1 <| .opp (P.nilc .t0) rfl <| .gyes rfl .g1 <| .opp (P.fa .t0 fa_93_3 rfl) rfl <| .gyes rfl .g1 <| .op (V.ld (v := Bo a0.made) .t0 .k0 (.one isAgg4 rfl)) rfl <| .opp (P.pickT .t1 .t0) rfl <| .opp (P.asg .t0) rfl <| .nil <| .then <| .ret ?_
  subst h
  exact .finw () (.r1 rfl (.tmp .g0)) trivial (Ls.of (.cons .k0 (.cons .k0 (.cons .k0 (.cons .k0 .nil))))) .nil
attribute [irreducible] chain_Chain_is
noncomputable def slices_Index_api_Tx (a0 : List api_Tx) (a1 : api_Tx) : Option (Int) :=
  Option.bind (loopR (fun (i2 : Nat) (e5 : api_Tx) (s3 : Unit) => if (decide ((a1 : api_Tx) = (e5 : api_Tx))) = true then (Option.map Ct.rt (some (i2 : Int))) else (some (.nx ()))) 0 a0 ()) fun o6 => Lo.on o6 fun (s3 : Unit) => some (-1)
set_option maxRecDepth 20000 in
set_option maxHeartbeats 8000000 in
theorem S_slices_Index_api_Tx (v00 : Value) (a0 : List api_Tx) (a1 : api_Tx) (r : Int) (h : slices_Index_api_Tx a0 a1 = some r) :
    SpecF Tryz.prog 129 [v00, Ag (api_Tx.cs a1)] [] [rows 25 v00 (a0.map api_Tx.cs)] (fun z : Unit => True) (fun z => N r) (fun z M =>  M) (fun z M =>  M) := by
  refine .of func129 rfl ntmps129 rfl fun w0 D0 G0 => ?_
  unfold slices_Index_api_Tx at h
  refine .seq <| .reg rfl <| .opx (X.box (cs := (api_Tx.cs a1)) .t1 rfl) rfl fun b1 => .op0 (OpP.toV (P.asg .k)) rfl <| .nil <| .then <| .seq <| .seq <| .reg rfl <| .opp (P.mov .g1) rfl <| .op (V.lnr (n := a0.length) .t0 Mm.m0 map_len runUnderlying31) rfl <| .opp (P.mov .k) rfl ?_
  refine .nil <| .then <| .block ?_
  obtain ⟨o6, ho7, h⟩ := bnd_eq h
  refine .lenq Mm.m0 fun hl13 => ?_
  rw [map_len] at hl13
  refine .loopR (γ := Unit) (fun i2 (s3 : Unit) z4 => [(8, N (i2 : Int)), (7, N (a0.length : Int)), (3, pt b1 0), (0, v00)]) (fun (s3 : Unit) z4 => [blk b1 83 (api_Tx.cs a1)]) (fun (s3 : Unit) z4 => [rows 25 v00 (a0.map api_Tx.cs)]) () ho7 (.cons Mm.m0 (.cons Mm.m1 (.cons Mm.m2 (.cons Mm.m3 .nil)))) (.of (.cons .k0 .nil)) (.cons Mm.m0 .nil) (fun i2 s3 z4 hi14 hr10 => ?_)
  refine .seq <| .reg rfl <| .opp (P.bin (v := Bo (decide ((i2 : Int) < (a0.length : Nat)))) .g0 .g1 .lss) rfl <| .nil <| .then <| .seq <| .cond .t0 (fun c15 => ?_) (fun c15 => ?_)
  · obtain ⟨e5, hx12⟩ := get_of c15
    obtain ⟨ct11, hc8, hn9⟩ := loopR_at hx12 hr10
    refine .skip <| .then <| .seq <| .block <| .seq <| .reg rfl <| .opp (P.mov .g0) rfl <| .opp (P.asg .t0) rfl <| .nil <| .then <| .seq <| .draw 6 (.on 1 .pu (.on 2 .pu (.on 3 .pu (.on 0 .ld (.on 4 .ld (.on 5 .pu .nl)))))) follows_mixed (.thn (.inb (.thn (.thn (.inb (.thn .body)))))) (by kernel_rfl) ?_
    refine .dpu rfl (.n rfl) (P.mov .g4) rfl rfl <| .dpu rfl (.n rfl) (P.mov .g1) rfl rfl <| .ixq Mm.m0 (map_get hx12) fun p16 q17 hq18 => .dpu rfl (.n rfl) (P.ixi (i := i2) .t0 rfl .t0 hq18 runUnderlying31 sizeOf83) rfl rfl <| .dld rfl (.n rfl) (V.ld (v := Ag (api_Tx.cs a1)) .g4 .k0 (.agg isAgg83 sizeOf83 rfl rfl)) (fun _ h => h) rfl rfl <| .dld rfl (.n rfl) (V.ldx0 (u := Ag (api_Tx.cs e5)) .t1 hq18 Mm.m0 (map_get hx12) (.agg isAgg83 sizeOf83 rfl rfl)) (fun _ h => h) rfl rfl <| .dpu rfl (.n rfl) (P.bin .t1 .t0 (eq_83_eql _ _)) rfl rfl <| .dnil <| .then <| .cond .t0 (fun c19 => ?_) (fun c19 => ?_)
    · rw [if_pos c19] at hc8
      refine .seq <| .reg rfl <| .opp (P.mov .t0) rfl <| .opp (P.asg .t0) rfl <| .nil <| .then <| .ret <| .inr <| .thr ?_
      obtain ⟨x20, hx21, rfl⟩ := map_rt hc8
      obtain rfl := hn9
      obtain rfl := rt_on h
      refine .thr <| .inr <| .thr ?_
      cases hx21
      exact .finw () (.r1 rfl (.tmp .g0)) trivial (Ls.of .nil) .nil
    · rw [if_neg (ne_true_of_eq_false c19)] at hc8
      refine .skip <| .inn <| .then <| .reg rfl <| .opp (P.bin .g1 .k (.addc (inc_ok (lt_of_get hx12) hl13))) rfl <| .drop .k2 <| .opp (P.mov .t0) rfl <| .nil ?_
      cases hc8
      exact .rdR () () hn9 (lt_of_get hx12) (.cons Mm.m0 (.cons Mm.m2 (.cons Mm.m3 (.cons Mm.m4 .nil)))) (.of (.cons .k0 .nil)) (.cons Mm.m0 .nil)
  · obtain rfl := loopR_end (le_of_not c15) hr10
    have h := dn_on h
    refine .exit <| .thx <| .thx <| .inb <| .then <| .seq <| .reg rfl <| .opp (P.asg .k) rfl <| .nil <| .then <| .ret ?_
    cases h
    exact .finw () (.r1 rfl (.tmp .g0)) trivial (Ls.of .nil) .nil
attribute [irreducible] slices_Index_api_Tx
noncomputable def slices_Contains_api_Tx (a0 : List api_Tx) (a1 : api_Tx) : Option (Bool) :=
  Option.bind (slices_Index_api_Tx a0 a1) fun r2 => some (decide (r2 ≥ 0))
set_option maxRecDepth 20000 in
set_option maxHeartbeats 8000000 in
theorem S_slices_Contains_api_Tx (v00 : Value) (a0 : List api_Tx) (a1 : api_Tx) (r : Bool) (h : slices_Contains_api_Tx a0 a1 = some r) :
    SpecF Tryz.prog 72 [v00, Ag (api_Tx.cs a1)] [] [rows 25 v00 (a0.map api_Tx.cs)] (fun z : Unit => True) (fun z => Bo r) (fun z M =>  M) (fun z M =>  M) := by
  refine .of func72 rfl ntmps72 rfl fun w0 D0 G0 => ?_
  unfold slices_Contains_api_Tx at h
  refine .seq <| .reg rfl <| .opx (X.box (cs := (api_Tx.cs a1)) .t1 rfl) rfl fun b1 => .op0 (OpP.toV (P.asg .k)) rfl <| .nil <| .then <| .seq <| .reg rfl <| .opp (P.mov .t1) rfl <| .op (V.ld (v := Ag (api_Tx.cs a1)) .t1 .k0 (.agg isAgg83 sizeOf83 rfl rfl)) rfl ?_
  obtain ⟨r2, hr3, h⟩ := bnd_eq h
  refine .opg (G.call call129 (.cons .t1 (.cons .t0 .nil)) (S_slices_Index_api_Tx v00 a0 a1 r2 hr3) .nil (.cons Mm.m0 .nil) (fun _ _ => rfl) (fun _ _ => rfl) rfl) rfl fun _ _ => .opp (P.bin .t0 .k .geq) rfl <| .opp (P.asg .t0) rfl <| .nil <| .then <| .ret ?_
  cases h
  exact .finw () (.r1 rfl (.tmp .g0)) trivial (Ls.of .nil) .nil
attribute [irreducible] slices_Contains_api_Tx
noncomputable def chain_Chain_Submit_bx (a0 : Option chain_Chain) (a1 : api_Tx) : Option (Bool × (Option chain_Chain)) :=
  Option.bind (Option.bind a0 fun (y6 : chain_Chain) => if (!(chain_Chain_is y6)) = true then (some true) else (if (decide ((txs_Check a1) ≠ 0)) = true then (some true) else (if (decide ((y6.pool.length : Int) ≥ 128)) = true then (some true) else (Option.bind (slices_Contains_api_Tx y6.pool a1) fun r15 => some r15)))) fun (y2 : Bool) => if y2 = true then (some (false, a0)) else (Option.bind a0 fun (y19 : chain_Chain) => grd ((y19.pool.length + ([a1] : List api_Tx).length) * 224 ≤ 140737488355328) <| some ((true, (some (⟨y19.s, (y19.pool ++ ([a1] : List api_Tx)), y19.events, y19.made⟩ : chain_Chain)))))
set_option maxRecDepth 20000 in
set_option maxHeartbeats 8000000 in
theorem S_chain_Chain_Submit_bx (v00 : Value) (a0 : Option chain_Chain) (a1 : api_Tx) (r : Bool × (Option chain_Chain)) (h : chain_Chain_Submit_bx a0 a1 = some r) :
    SpecF Tryz.prog 37 [v00, Ag (api_Tx.cs a1)] [bx chain_Chain.bd chain_Chain.fp v00 a0] [] (fun z : Unit => True) (fun z => Bo r.1) (fun z M => bx chain_Chain.bd chain_Chain.fp v00 r.2 ::  M) (fun z M =>  M) := by
  refine .of func37 rfl ntmps37 rfl fun w0 D0 G0 => ?_
  unfold chain_Chain_Submit_bx at h
  refine .seq <| .reg rfl <| .opx (X.box (cs := (api_Tx.cs a1)) .t1 rfl) rfl fun b1 => .op0 (OpP.toV (P.asg .k)) rfl <| .nil <| .then <| .seq ?_
  obtain ⟨y2, hj4, h⟩ := bnd_eq h
  refine .cutx (γ := Unit) (E1 := fun z3 => [(28, Bo y2), (3, pt b1 0), (0, v00)]) (L1 := fun z3 => [blk b1 83 (api_Tx.cs a1), bx chain_Chain.bd chain_Chain.fp v00 a0]) (R1 := fun z3 => []) ?_ (fun z3 => ?_)
  · clear h
    obtain ⟨y6, hy7, hj4⟩ := bnd_eq hj4
    refine .bxo .k1 hy7 (fun _ _ _ => rfl) fun ⟨b8, u9, u10, u11⟩ hz5 => ?_
    replace hz5 : v00 = pt b8 0 := hz5
    subst hz5
    refine .draw 24 (.on 0 .pu (.on 1 .go (.on 2 .pu (.on 3 .pu (.on 4 .ld (.on 5 .go (.on 6 .pu (.on 7 .pu (.on 8 .pu (.on 9 .pu (.on 10 .pu (.on 11 .pu (.on 12 .ld (.on 13 .ld (.on 14 .pu (.on 15 .pu (.on 16 .pu (.on 17 .pu (.on 18 .pu (.on 19 .pu (.on 20 .ld (.on 21 .ld (.on 22 .go (.on 23 .pu .nl)))))))))))))))))))))))) follows_mixed (.thn (.thn .body)) (by kernel_rfl) <| .dpu rfl (.n rfl) (P.mov .g1) rfl rfl <| .dgo rfl (.n rfl) (G.call call25 (.cons .t0 .nil) (S_chain_Chain_is b8 y6 u9 u10 u11 _ rfl) (.cons .k0 (.cons .k0 (.cons .k0 (.cons .k0 .nil)))) .nil (fun _ _ => rfl) (fun _ _ => rfl) rfl) (.inr fun _ _ _ h => h) fun _ _ => .dpu rfl (.n rfl) (P.not .t0) rfl rfl <| .dpu rfl (.n rfl) (P.mov .t0) rfl rfl <| .split .k0 (fun c12 => ?_) (fun c12 => ?_)
    · rw [if_pos c12] at hj4
      refine .dskl rfl (.g rfl rfl .g0 rfl) (fun _ h => h) rfl rfl <| .dskg rfl (.g rfl rfl .g0 rfl) (.inr fun _ h => h) rfl rfl <| .dsk rfl (.g rfl rfl .g0 rfl) rfl rfl <| .dpu rfl (.n rfl) (P.pickT .t0 .k) rfl rfl <| .dpu rfl (.n rfl) (P.mov .t0) rfl rfl <| .dsk rfl (.g rfl rfl .g0 rfl) rfl rfl <| .dsk rfl (.g rfl rfl .g0 rfl) rfl rfl <| .dsk rfl (.g rfl rfl .g0 rfl) rfl rfl <| .dskl rfl (.g rfl rfl .g0 rfl) (fun _ h => h) rfl rfl <| .dskl rfl (.g rfl rfl .g0 rfl) (fun _ h => h) rfl rfl <| .dsk rfl (.g rfl rfl .g0 rfl) rfl rfl <| .dpu rfl (.n rfl) (P.pickT .t0 .k) rfl rfl ?_
      refine .dpu rfl (.n rfl) (P.mov .t0) rfl rfl <| .dsk rfl (.g rfl rfl .g0 rfl) rfl rfl <| .dsk rfl (.g rfl rfl .g0 rfl) rfl rfl <| .dsk rfl (.g rfl rfl .g0 rfl) rfl rfl <| .dskl rfl (.g rfl rfl .g0 rfl) (fun _ h => h) rfl rfl <| .dskl rfl (.g rfl rfl .g0 rfl) (fun _ h => h) rfl rfl <| .dskg rfl (.g rfl rfl .g0 rfl) (.inr fun _ h => h) rfl rfl <| .dpu rfl (.n rfl) (P.pickT .t0 .k) rfl rfl <| .dnil ?_
      cases hj4
      exact .bxc chain_Chain.bd chain_Chain.fp (b8, u9, u10, u11) y6 (z := (pt b8 0)) rfl (.cons .k0 (.cons .k0 (.cons .k0 (.cons .k0 .nil)))) <| .conseq .k0 (q := bx chain_Chain.bd chain_Chain.fp (pt b8 0) a0) (fun _ h_ => by rw [hy7]; exact h_) <| .stj () (.cons Mm.m0 (.cons Mm.m1 (.cons Mm.m2 .nil))) (.of (.cons .k1 (.cons .k0 .nil))) .nil
    · rw [if_neg (ne_true_of_eq_false c12)] at hj4
      refine .dld rfl (.g rfl rfl .g0 rfl) (V.ld (v := Ag (api_Tx.cs a1)) .g1 .k4 (.agg isAgg83 sizeOf83 rfl rfl)) (fun _ h => h) rfl rfl <| .dgo rfl (.g rfl rfl .g1 rfl) (G.call call71 (.cons .t0 .nil) (S_txs_Check a1 _ rfl) .nil .nil (fun _ _ => rfl) (fun _ _ => rfl) rfl) (.inr fun _ _ _ h => h) fun _ _ => .dpu rfl (.g rfl rfl .g1 rfl) (P.bin .t0 .k .neq) rfl rfl <| .dpu rfl (.n rfl) (P.pickF .t1 .t0) rfl rfl <| .dpu rfl (.n rfl) (P.mov .t0) rfl rfl <| .split .k0 (fun c13 => ?_) (fun c13 => ?_)
      · rw [if_pos c13] at hj4
        refine .dsk rfl (.g rfl rfl .g0 rfl) rfl rfl <| .dsk rfl (.g rfl rfl .g0 rfl) rfl rfl <| .dsk rfl (.g rfl rfl .g0 rfl) rfl rfl <| .dskl rfl (.g rfl rfl .g0 rfl) (fun _ h => h) rfl rfl <| .dskl rfl (.g rfl rfl .g0 rfl) (fun _ h => h) rfl rfl <| .dsk rfl (.g rfl rfl .g0 rfl) rfl rfl <| .dpu rfl (.n rfl) (P.pickT .t0 .k) rfl rfl <| .dpu rfl (.n rfl) (P.mov .t0) rfl rfl <| .dsk rfl (.g rfl rfl .g0 rfl) rfl rfl <| .dsk rfl (.g rfl rfl .g0 rfl) rfl rfl <| .dsk rfl (.g rfl rfl .g0 rfl) rfl rfl <| .dskl rfl (.g rfl rfl .g0 rfl) (fun _ h => h) rfl rfl ?_
        refine .dskl rfl (.g rfl rfl .g0 rfl) (fun _ h => h) rfl rfl <| .dskg rfl (.g rfl rfl .g0 rfl) (.inr fun _ h => h) rfl rfl <| .dpu rfl (.n rfl) (P.pickT .t0 .k) rfl rfl <| .dnil ?_
        cases hj4
        exact .bxc chain_Chain.bd chain_Chain.fp (b8, u9, u10, u11) y6 (z := (pt b8 0)) rfl (.cons .k0 (.cons .k0 (.cons .k0 (.cons .k0 .nil)))) <| .conseq .k0 (q := bx chain_Chain.bd chain_Chain.fp (pt b8 0) a0) (fun _ h_ => by rw [hy7]; exact h_) <| .stj () (.cons Mm.m0 (.cons Mm.m1 (.cons Mm.m2 .nil))) (.of (.cons .k1 (.cons .k0 .nil))) .nil
      · rw [if_neg (ne_true_of_eq_false c13)] at hj4
        refine .dpu rfl (.g rfl rfl .g0 rfl) (P.mov .g2) rfl rfl <| .dpu rfl (.g rfl rfl .g1 rfl) (P.nilc .t0) rfl rfl <| .dpu rfl (.g rfl rfl .g1 rfl) (P.fa .t0 fa_93_1 rfl) rfl rfl <| .dld rfl (.g rfl rfl .g1 rfl) (V.ld (v := u10) .t0 .k0 (.one isAgg31 rfl)) (fun _ h => h) rfl rfl <| .dld rfl (.g rfl rfl .g1 rfl) (V.lnl (n := y6.pool.length) .t0 .k2 map_len runUnderlying31) (fun _ h => h) rfl rfl <| .dpu rfl (.g rfl rfl .g1 rfl) (P.bin .t0 .k .geq) rfl rfl <| .dpu rfl (.n rfl) (P.pickF .t1 .t0) rfl rfl <| .dpu rfl (.n rfl) (P.mov .t0) rfl rfl <| .split .k0 (fun c14 => ?_) (fun c14 => ?_)
        · rw [if_pos c14] at hj4
          refine .dsk rfl (.g rfl rfl .g0 rfl) rfl rfl <| .dsk rfl (.g rfl rfl .g0 rfl) rfl rfl <| .dsk rfl (.g rfl rfl .g0 rfl) rfl rfl <| .dskl rfl (.g rfl rfl .g0 rfl) (fun _ h => h) rfl rfl <| .dskl rfl (.g rfl rfl .g0 rfl) (fun _ h => h) rfl rfl <| .dskg rfl (.g rfl rfl .g0 rfl) (.inr fun _ h => h) rfl rfl <| .dpu rfl (.n rfl) (P.pickT .t0 .k) rfl rfl <| .dnil ?_
          cases hj4
          exact .bxc chain_Chain.bd chain_Chain.fp (b8, u9, u10, u11) y6 (z := (pt b8 0)) rfl (.cons .k0 (.cons .k0 (.cons .k0 (.cons .k0 .nil)))) <| .conseq .k0 (q := bx chain_Chain.bd chain_Chain.fp (pt b8 0) a0) (fun _ h_ => by rw [hy7]; exact h_) <| .stj () (.cons Mm.m0 (.cons Mm.m1 (.cons Mm.m2 .nil))) (.of (.cons .k1 (.cons .k0 .nil))) .nil
        · rw [if_neg (ne_true_of_eq_false c14)] at hj4
          refine .dpu rfl (.g rfl rfl .g0 rfl) (P.mov .g2) rfl rfl <| .dpu rfl (.g rfl rfl .g1 rfl) (P.nilc .t0) rfl rfl <| .dpu rfl (.g rfl rfl .g1 rfl) (P.fa .t0 fa_93_1 rfl) rfl rfl <| .dld rfl (.g rfl rfl .g1 rfl) (V.ld (v := u10) .t0 .k0 (.one isAgg31 rfl)) (fun _ h => h) rfl rfl <| .dld rfl (.g rfl rfl .g1 rfl) (V.ld (v := Ag (api_Tx.cs a1)) .g2 .k4 (.agg isAgg83 sizeOf83 rfl rfl)) (fun _ h => h) rfl rfl ?_
          obtain ⟨r15, hr16, hj4⟩ := bnd_eq hj4
          refine .dgo rfl (.g rfl rfl .g2 rfl) (G.calll call72 (.cons .t1 (.cons .t0 .nil)) (S_slices_Contains_api_Tx u10 y6.pool a1 r15 hr16) .nil (.imp (List.mem_append_right _ Mm.m2) (fun _ => lst_rows) .nil) (fun _ _ => rfl) rfl) (.inr fun _ _ _ h => h) fun _ _ => .dpu rfl (.n rfl) (P.pickF .t1 .t0) rfl rfl <| .dnil ?_
          cases hj4
          exact .bxc chain_Chain.bd chain_Chain.fp (b8, u9, u10, u11) y6 (z := (pt b8 0)) rfl (.cons .k0 (.cons .k0 (.cons .k0 (.cons .k0 .nil)))) <| .conseq .k0 (q := bx chain_Chain.bd chain_Chain.fp (pt b8 0) a0) (fun _ h_ => by rw [hy7]; exact h_) <| .stj () (.cons Mm.m0 (.cons Mm.m1 (.cons Mm.m2 .nil))) (.of (.cons .k1 (.cons .k0 .nil))) .nil
  · clear hj4
    refine .cond .t0 (fun c17 => ?_) (fun c17 => ?_)
    · rw [if_pos c17] at h
      refine .seq <| .reg rfl <| .opp (P.asg .k) rfl <| .nil <| .then <| .ret <| .thr ?_
      cases h
      exact .finw () (.r1 rfl (.tmp .g0)) trivial (Ls.of (.cons .k1 .nil)) .nil
    · rw [if_neg (ne_true_of_eq_false c17)] at h
      refine .skip <| .then <| .seq ?_
      obtain ⟨y19, hy20, h⟩ := bnd_eq h
      refine .bxo .k1 hy20 (fun _ _ _ => rfl) fun ⟨b21, u22, u23, u24⟩ hz18 => ?_
      replace hz18 : v00 = pt b21 0 := hz18
      subst hz18
      obtain ⟨hb27, h⟩ := grd_eq h
      refine .dcut (γ := Value × Value) (φ := fun _ => True) (E1 := fun x_ => []) (L1 := fun x_ => [blk b21 93 (chain_Chain.cs ⟨y19.s, [], y19.events, y19.made⟩ u22 x_.2 u24), lst 83 25 x_.2 ((y19.pool ++ ([a1] : List api_Tx)).map api_Tx.cs), lst 83 25 x_.1 [(api_Tx.cs a1)], lst 241 3 u22 (y19.s.Locks.map escrow_Lock.cs), lst 162 27 u24 (y19.events.map api_Event.cs), blk b1 83 (api_Tx.cs a1)]) (R1 := fun x_ => []) ?_ (fun x_ _ => ?_)
      · refine .draw 6 (.on 0 .pu (.on 1 .pu (.on 2 .pu (.on 3 .pu (.on 5 .ld (.fk 4 6 (.on 6 .go (.on 7 .go (.on 8 .pu (.on 9 .pu (.on 10 .go .nl))))) (.on 4 .go (.on 7 .go (.on 8 .pu (.on 9 .pu (.on 10 .go .nl))))))))))) follows_mixed (.thn (.thn .body)) (by kernel_rfl) <| .dpu rfl (.n rfl) (P.mov .g1) rfl rfl <| .dpu rfl (.n rfl) (P.mov .t2) rfl rfl <| .dpu rfl (.n rfl) (P.nilc .t0) rfl rfl <| .dpu rfl (.n rfl) (P.fa .t0 fa_93_1 rfl) rfl rfl <| .dld rfl (.n rfl) (V.ld (v := Ag (api_Tx.cs a1)) .t2 .k4 (.agg isAgg83 sizeOf83 rfl rfl)) (fun _ h => h) rfl rfl <| .dfk ?_ ?_
        · exact .dgo rfl (.n rfl) (OpV.g (V.ld (v := u23) .t1 .k0 (.one isAgg31 rfl)) rfl) (.inr fun _ _ _ h => h) fun _ _ => .dgo rfl (.n rfl) (G.bsl (cs := (api_Tx.cs a1)) .t1 runUnderlying31 sizeOf83 zeroValue83 rfl rfl rfl rfl rfl) (.inl rfl) fun u25 _ => .dgo rfl (.n rfl) (G.app (by_ := 224) .t1 .t0 .k3 (.inr (.inr ⟨_, Mm.m0⟩)) runUnderlying31 runUnderlying31 sizeOf83 typeInfo83 rfl rfl zeroValue83 rfl rfl (by simpa using hb27) rfl) (.inl rfl) fun u26 _ => .conseq .k0 (q := lst 83 25 u26 ((y19.pool ++ ([a1] : List api_Tx)).map api_Tx.cs)) (fun _ hh => by simpa [List.map_append] using hh) <| .dpu rfl (.n rfl) (P.nilc .t1) rfl rfl <| .dpu rfl (.n rfl) (P.fa .t0 fa_93_1 rfl) rfl rfl <| .onel .k0 fun ho28 => .dgo rfl (.n rfl) (G.str .t1 .t0 .k2 (.mk1 (cs' := (chain_Chain.cs ⟨y19.s, [], y19.events, y19.made⟩ u22 u26 u24)) sizeOf31 rfl ho28 rfl rfl)) (.inl rfl) fun _ _ => .dnil <| .dst ⟨u25, u26⟩ trivial .nil (Ls.of (.cons .k0 (.cons .k0 (.cons .k0 (.cons .k0 (.cons .k0 (.cons .k0 .nil))))))) .nil
        · exact .dgo rfl (.n rfl) (G.bsl (cs := (api_Tx.cs a1)) .t0 runUnderlying31 sizeOf83 zeroValue83 rfl rfl rfl rfl rfl) (.inl rfl) fun u25 _ => .dgo rfl (.n rfl) (OpV.g (V.ld (v := u23) .t1 .k1 (.one isAgg31 rfl)) rfl) (.inl rfl) fun _ _ => .dgo rfl (.n rfl) (G.app (by_ := 224) .t0 .t0 .k3 (.inr (.inr ⟨_, Mm.m0⟩)) runUnderlying31 runUnderlying31 sizeOf83 typeInfo83 rfl rfl zeroValue83 rfl rfl (by simpa using hb27) rfl) (.inl rfl) fun u26 _ => .conseq .k0 (q := lst 83 25 u26 ((y19.pool ++ ([a1] : List api_Tx)).map api_Tx.cs)) (fun _ hh => by simpa [List.map_append] using hh) <| .dpu rfl (.n rfl) (P.nilc .t1) rfl rfl <| .dpu rfl (.n rfl) (P.fa .t0 fa_93_1 rfl) rfl rfl <| .onel .k0 fun ho28 => .dgo rfl (.n rfl) (G.str .t1 .t0 .k2 (.mk1 (cs' := (chain_Chain.cs ⟨y19.s, [], y19.events, y19.made⟩ u22 u26 u24)) sizeOf31 rfl ho28 rfl rfl)) (.inl rfl) fun _ _ => .dnil <| .dst ⟨u25, u26⟩ trivial .nil (Ls.of (.cons .k0 (.cons .k0 (.cons .k0 (.cons .k0 (.cons .k0 (.cons .k0 .nil))))))) .nil
      · obtain ⟨u25, u26⟩ := x_
        refine .then <| .seq <| .reg rfl <| .opp (P.asg .k) rfl <| .nil <| .then <| .ret ?_
        cases h
        exact .bxc chain_Chain.bd chain_Chain.fp (b21, u22, u26, u24) (⟨y19.s, (y19.pool ++ ([a1] : List api_Tx)), y19.events, y19.made⟩ : chain_Chain) (z := (pt b21 0)) rfl (.cons .k0 (.cons .k2 (.cons .k0 (.cons .k1 .nil)))) <| .finw () (.r1 rfl (.tmp .g0)) trivial (Ls.of (.cons .k0 .nil)) .nil
attribute [irreducible] chain_Chain_Submit_bx
noncomputable def slices_Clone_escrow_Lock (a0 : List escrow_Lock) : Option ((List escrow_Lock)) :=
  grd ((([] : List escrow_Lock).length + a0.length) * 40 ≤ 140737488355328) <| some ((([] : List escrow_Lock) ++ a0))
set_option maxRecDepth 20000 in
set_option maxHeartbeats 8000000 in
theorem S_slices_Clone_escrow_Lock (v00 : Value) (a0 : List escrow_Lock) (r : (List escrow_Lock)) (h : slices_Clone_escrow_Lock a0 = some r) :
    SpecF Tryz.prog 130 [v00] [] [rows 3 v00 (a0.map escrow_Lock.cs)] (fun z : Value => True) (fun z => z) (fun z M => lst 241 3 z (r.map escrow_Lock.cs) ::  M) (fun z M =>  M) := by
  refine .of func130 rfl ntmps130 rfl fun w0 D0 G0 => ?_
  unfold slices_Clone_escrow_Lock at h
  refine .seq <| .reg rfl <| .op0 (OpP.toV (P.asg .k)) rfl <| .nil <| .then <| .seq <| .seq <| .reg rfl <| .opp (P.mov .g0) rfl <| .opg (G.nilr (e := 241) .t0 Mm.m0 (by kernel_rfl) rfl) rfl fun n1 hz2 => .nil <| .then ?_
  refine .cond .t0 (fun c3 => ?_) (fun c3 => ?_)
  · have hx7 : a0 = [] := by simpa using hz2 c3
    replace h : some ([] : List escrow_Lock) = some r := by rw [hx7] at h; simpa [grd] using h
    refine .seq <| .reg rfl <| .opp (P.asg .k) rfl <| .nil <| .then <| .ret <| .thr ?_
    cases h
    exact .lnil 241 3 <| .finw nilSl (.r1 rfl (.tmp .g0)) trivial (Ls.of (.cons .k0 .nil)) .nil
  · refine .skip <| .then <| .seq <| .reg rfl <| .opg (G.bsl0 runUnderlying88 sizeOf241 rfl) rfl fun u4 _ => .opp (P.mov .t1) rfl ?_
    obtain ⟨hb6, h⟩ := grd_eq h
    refine .opg (G.app (by_ := 40) .t1 .t0 .k0 (.inl Mm.m0) runUnderlying88 runUnderlying88 sizeOf241 typeInfo241 rfl rfl zeroValue241 rfl (one_map one_241 _) (by simpa using hb6) rfl) rfl fun u5 _ => .conseq .k0 (q := lst 241 3 u5 ((([] : List escrow_Lock) ++ a0).map escrow_Lock.cs)) (fun _ hh => by simpa [List.map_append] using hh) <| .opp (P.asg .t0) rfl <| .nil <| .then <| .ret ?_
    cases h
    exact .finw u5 (.r1 rfl (.tmp .g0)) trivial (Ls.of (.cons .k0 .nil)) .nil
attribute [irreducible] slices_Clone_escrow_Lock
noncomputable def purse_at (a0 : Int) (a1 : Int) : Bool :=
  thn (if (decide (a0 ≥ 0)) = true then (if (decide (a0 < 8)) = true then (if (decide (a1 ≥ 0)) = true then (decide (a1 < 2)) else false) else false) else false) fun (y1 : Bool) => y1
set_option maxRecDepth 20000 in
set_option maxHeartbeats 8000000 in
theorem S_purse_at (a0 : Int) (a1 : Int) (r : Bool) (h : purse_at a0 a1 = r) :
    SpecF Tryz.prog 194 [N a0, N a1] [] [] (fun z : Unit => True) (fun z => Bo r) (fun z M =>  M) (fun z M =>  M) := by
  refine .of func194 rfl ntmps194 rfl fun w0 D0 G0 => ?_
  unfold purse_at at h
  refine .seq <| .reg rfl <| .op0 (OpP.toV (P.asg .k)) rfl <| .nil <| .then ?_
  obtain ⟨y1, hj3, h⟩ := thn_eq h
  refine .cutx (γ := Unit) (E1 := fun z2 => [(4, Bo y1)]) (L1 := fun z2 => []) (R1 := fun z2 => []) ?_ (fun z2 => ?_)
  · clear h
    refine .reg rfl <| .opp (P.mov .g0) rfl <| .opp (P.bin .t0 .k .geq) rfl <| .opp (P.mov .t0) rfl <| .split .k0 (fun c4 => ?_) (fun c4 => ?_)
    · rw [if_pos c4] at hj3
      refine .gyes rfl .g0 <| .opp (P.mov .t1) rfl <| .gyes rfl .g1 <| .opp (P.bin .t0 .k .lss) rfl <| .opp (P.pickT .t1 .t0) rfl <| .opp (P.mov .t0) rfl <| .split .k0 (fun c5 => ?_) (fun c5 => ?_)
      · rw [if_pos c5] at hj3
        refine .gyes rfl .g0 <| .opp (P.mov .g1) rfl <| .gyes rfl .g1 <| .opp (P.bin .t0 .k .geq) rfl <| .opp (P.pickT .t1 .t0) rfl <| .opp (P.mov .t0) rfl <| .split .k0 (fun c6 => ?_) (fun c6 => ?_)
        · rw [if_pos c6] at hj3
          refine .gyes rfl .g0 <| .opp (P.mov .t1) rfl <| .gyes rfl .g1 <| .opp (P.bin .t0 .k .lss) rfl <| .opp (P.pickT .t1 .t0) rfl <| .opp (P.asg .t0) rfl <| .nil ?_
          subst hj3
          exact .stj () (.cons Mm.m0 .nil) (.of .nil) .nil
        · rw [if_neg (ne_true_of_eq_false c6)] at hj3
          refine .gno rfl .g0 rfl rfl <| .gno rfl .g0 rfl rfl <| .opp (P.pickF .t0 .k) rfl <| .opp (P.asg .t0) rfl <| .nil ?_
          subst hj3
          exact .stj () (.cons Mm.m0 .nil) (.of .nil) .nil
      · rw [if_neg (ne_true_of_eq_false c5)] at hj3
        refine .gno rfl .g0 rfl rfl <| .gno rfl .g0 rfl rfl <| .opp (P.pickF .t0 .k) rfl <| .opp (P.mov .t0) rfl <| .gno rfl .g0 rfl rfl <| .gno rfl .g0 rfl rfl <| .opp (P.pickF .t0 .k) rfl <| .opp (P.asg .t0) rfl <| .nil ?_
        subst hj3
        exact .stj () (.cons Mm.m0 .nil) (.of .nil) .nil
    · rw [if_neg (ne_true_of_eq_false c4)] at hj3
      refine .gno rfl .g0 rfl rfl <| .gno rfl .g0 rfl rfl <| .opp (P.pickF .t0 .k) rfl <| .opp (P.mov .t0) rfl <| .gno rfl .g0 rfl rfl <| .gno rfl .g0 rfl rfl <| .opp (P.pickF .t0 .k) rfl <| .opp (P.mov .t0) rfl <| .gno rfl .g0 rfl rfl <| .gno rfl .g0 rfl rfl <| .opp (P.pickF .t0 .k) rfl <| .opp (P.asg .t0) rfl ?_
      refine .nil ?_
      subst hj3
      exact .stj () (.cons Mm.m0 .nil) (.of .nil) .nil
  · clear hj3
    refine .ret ?_
    subst h
    exact .finw () (.r1 rfl (.tmp .g0)) trivial (Ls.of .nil) .nil
attribute [irreducible] purse_at
end Go.Sl
