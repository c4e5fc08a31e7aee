/- Walked code of the program, its pure functions and their contracts. -/
import Derived.Test.YteijfoldbinghaaSlCk
set_option linter.unusedVariables false
set_option linter.unusedSimpArgs false
namespace Go.Sl
open Go.Proofs Go.Proofs.Try
structure A2_i64 where
  a0 : Int
  a1 : Int
  deriving DecidableEq
def A2_i64.cs (x : A2_i64) : List Value := [N x.a0, N x.a1]
def A2_i64.list (x : A2_i64) : List Int := [x.a0, x.a1]
def A2_i64.set (x : A2_i64) (k : Nat) (v : Int) : A2_i64 := ⟨if k = 0 then v else x.a0, if k = 1 then v else x.a1⟩
def A2_i64.z : A2_i64 := ⟨0, 0⟩
theorem fa_72_1 : FaV Try.prog 72 1 1 := .mk runUnderlying72 rfl sizeOf3 rfl rfl
theorem fa_72_2 : FaV Try.prog 72 2 2 := .mk runUnderlying72 rfl sizeOf38 rfl rfl
theorem eqv_27 (d : Nat) (x y : api_Wide) : EqV Try.prog (d + 2) 27 (Ag x.cs) (Ag y.cs) (decide (x = y)) :=
  EqV.cast (.array (by kernel_rfl) sizeOf25 (.cons (.one isAgg25 rfl) (.one isAgg25 rfl) (EqV.u (by kernel_rfl)) (.cons (.one isAgg25 rfl) (.one isAgg25 rfl) (EqV.u (by kernel_rfl)) (.cons (.one isAgg25 rfl) (.one isAgg25 rfl) (EqV.u (by kernel_rfl)) (.cons (.one isAgg25 rfl) (.one isAgg25 rfl) (EqV.u (by kernel_rfl)) .nil))))) (by cases x; cases y; rw [Bool.eq_iff_iff]; simp [api_Wide.mk.injEq, and_assoc])
theorem eq_27_eql (x y : api_Wide) : BinV Try.prog .eql 27 (Ag x.cs) (Ag y.cs) (Bo (decide (x = y))) := .eqv (by kernel_rfl) (eqv_27 9998 x y)
theorem eq_27_neq (x y : api_Wide) : BinV Try.prog .neq 27 (Ag x.cs) (Ag y.cs) (Bo (decide (x ≠ y))) := by
  have := BinV.neqv (P := Try.prog) (by kernel_rfl) (eqv_27 9998 x y); rw [← decide_not'] at this; exact this
theorem eqv_32 (d : Nat) (x y : api_Inv) : EqV Try.prog (d + 2) 32 (Ag x.cs) (Ag y.cs) (decide (x = y)) :=
  EqV.cast (.struct (fs := [{ name := "User", type := 3, offset := 0, embedded := false, tag := "", pkgPath := "", byteOffset := 0 }, { name := "Root", type := 9, offset := 1, embedded := false, tag := "", pkgPath := "", byteOffset := 8 }, { name := "Router", type := 3, offset := 2, embedded := false, tag := "", pkgPath := "", byteOffset := 24 }, { name := "Send", type := 3, offset := 3, embedded := false, tag := "", pkgPath := "", byteOffset := 32 }, { name := "Recv", type := 3, offset := 4, embedded := false, tag := "", pkgPath := "", byteOffset := 40 }, { name := "To", type := 3, offset := 5, embedded := false, tag := "", pkgPath := "", byteOffset := 48 }, { name := "Id", type := 9, offset := 6, embedded := false, tag := "", pkgPath := "", byteOffset := 56 }]) (by kernel_rfl) (by kernel_rfl) (.cons rfl (.one isAgg3 rfl) (.one isAgg3 rfl) (EqV.int (by kernel_rfl)) (.cons rfl (.one isAgg9 rfl) (.one isAgg9 rfl) (EqV.str (by kernel_rfl)) (.cons rfl (.one isAgg3 rfl) (.one isAgg3 rfl) (EqV.int (by kernel_rfl)) (.cons rfl (.one isAgg3 rfl) (.one isAgg3 rfl) (EqV.int (by kernel_rfl)) (.cons rfl (.one isAgg3 rfl) (.one isAgg3 rfl) (EqV.int (by kernel_rfl)) (.cons rfl (.one isAgg3 rfl) (.one isAgg3 rfl) (EqV.int (by kernel_rfl)) (.cons rfl (.one isAgg9 rfl) (.one isAgg9 rfl) (EqV.str (by kernel_rfl)) .nil)))))))) (by cases x; cases y; rw [Bool.eq_iff_iff]; simp [api_Inv.mk.injEq, and_assoc])
theorem eq_32_eql (x y : api_Inv) : BinV Try.prog .eql 32 (Ag x.cs) (Ag y.cs) (Bo (decide (x = y))) := .eqv (by kernel_rfl) (eqv_32 9998 x y)
theorem eq_32_neq (x y : api_Inv) : BinV Try.prog .neq 32 (Ag x.cs) (Ag y.cs) (Bo (decide (x ≠ y))) := by
  have := BinV.neqv (P := Try.prog) (by kernel_rfl) (eqv_32 9998 x y); rw [← decide_not'] at this; exact this
theorem eqv_34 (d : Nat) (x y : api_Var) : EqV Try.prog (d + 3) 34 (Ag x.cs) (Ag y.cs) (decide (x = y)) :=
  EqV.cast (.struct (fs := [{ name := "Amount", type := 27, offset := 0, embedded := false, tag := "", pkgPath := "", byteOffset := 0 }, { name := "Expiry", type := 3, offset := 4, embedded := false, tag := "", pkgPath := "", byteOffset := 32 }]) (by kernel_rfl) (by kernel_rfl) (.cons rfl (.agg isAgg27 sizeOf27 (by kernel_rfl)) (.agg isAgg27 sizeOf27 (by kernel_rfl)) (eqv_27 _ x.Amount y.Amount) (.cons rfl (.one isAgg3 rfl) (.one isAgg3 rfl) (EqV.int (by kernel_rfl)) .nil))) (by cases x; cases y; rw [Bool.eq_iff_iff]; simp [api_Var.mk.injEq, and_assoc])
theorem eq_34_eql (x y : api_Var) : BinV Try.prog .eql 34 (Ag x.cs) (Ag y.cs) (Bo (decide (x = y))) := .eqv (by kernel_rfl) (eqv_34 9997 x y)
theorem eq_34_neq (x y : api_Var) : BinV Try.prog .neq 34 (Ag x.cs) (Ag y.cs) (Bo (decide (x ≠ y))) := by
  have := BinV.neqv (P := Try.prog) (by kernel_rfl) (eqv_34 9997 x y); rw [← decide_not'] at this; exact this
theorem eqv_36 (d : Nat) (x y : api_Tx) : EqV Try.prog (d + 4) 36 (Ag x.cs) (Ag y.cs) (decide (x = y)) :=
  EqV.cast (.struct (fs := [{ name := "From", type := 3, offset := 0, embedded := false, tag := "", pkgPath := "", byteOffset := 0 }, { name := "Nonce", type := 3, offset := 1, embedded := false, tag := "", pkgPath := "", byteOffset := 8 }, { name := "Kind", type := 3, offset := 2, embedded := false, tag := "", pkgPath := "", byteOffset := 16 }, { name := "Asset", type := 3, offset := 3, embedded := false, tag := "", pkgPath := "", byteOffset := 24 }, { name := "Amount", type := 27, offset := 4, embedded := false, tag := "", pkgPath := "", byteOffset := 32 }, { name := "Inv", type := 32, offset := 8, embedded := false, tag := "", pkgPath := "", byteOffset := 64 }, { name := "Var", type := 34, offset := 15, embedded := false, tag := "", pkgPath := "", byteOffset := 136 }, { name := "Fee", type := 27, offset := 20, embedded := false, tag := "", pkgPath := "", byteOffset := 176 }, { name := "Sig", type := 9, offset := 24, embedded := false, tag := "", pkgPath := "", byteOffset := 208 }]) (by kernel_rfl) (by kernel_rfl) (.cons rfl (.one isAgg3 rfl) (.one isAgg3 rfl) (EqV.int (by kernel_rfl)) (.cons rfl (.one isAgg3 rfl) (.one isAgg3 rfl) (EqV.int (by kernel_rfl)) (.cons rfl (.one isAgg3 rfl) (.one isAgg3 rfl) (EqV.int (by kernel_rfl)) (.cons rfl (.one isAgg3 rfl) (.one isAgg3 rfl) (EqV.int (by kernel_rfl)) (.cons rfl (.agg isAgg27 sizeOf27 (by kernel_rfl)) (.agg isAgg27 sizeOf27 (by kernel_rfl)) (eqv_27 _ x.Amount y.Amount) (.cons rfl (.agg isAgg32 sizeOf32 (by kernel_rfl)) (.agg isAgg32 sizeOf32 (by kernel_rfl)) (eqv_32 _ x.Inv y.Inv) (.cons rfl (.agg isAgg34 sizeOf34 (by kernel_rfl)) (.agg isAgg34 sizeOf34 (by kernel_rfl)) (eqv_34 _ x.Var y.Var) (.cons rfl (.agg isAgg27 sizeOf27 (by kernel_rfl)) (.agg isAgg27 sizeOf27 (by kernel_rfl)) (eqv_27 _ x.Fee y.Fee) (.cons rfl (.one isAgg9 rfl) (.one isAgg9 rfl) (EqV.str (by kernel_rfl)) .nil)))))))))) (by cases x; cases y; rw [Bool.eq_iff_iff]; simp [api_Tx.mk.injEq, and_assoc])
theorem eq_36_eql (x y : api_Tx) : BinV Try.prog .eql 36 (Ag x.cs) (Ag y.cs) (Bo (decide (x = y))) := .eqv (by kernel_rfl) (eqv_36 9996 x y)
theorem eq_36_neq (x y : api_Tx) : BinV Try.prog .neq 36 (Ag x.cs) (Ag y.cs) (Bo (decide (x ≠ y))) := by
  have := BinV.neqv (P := Try.prog) (by kernel_rfl) (eqv_36 9996 x y); rw [← decide_not'] at this; exact this
theorem eqv_38 (d : Nat) (x y : api_Event) : EqV Try.prog (d + 5) 38 (Ag x.cs) (Ag y.cs) (decide (x = y)) :=
  EqV.cast (.struct (fs := [{ name := "Time", type := 3, offset := 0, embedded := false, tag := "", pkgPath := "", byteOffset := 0 }, { name := "Code", type := 30, offset := 1, embedded := false, tag := "", pkgPath := "", byteOffset := 8 }, { name := "Tx", type := 36, offset := 2, embedded := false, tag := "", pkgPath := "", byteOffset := 16 }]) (by kernel_rfl) (by kernel_rfl) (.cons rfl (.one isAgg3 rfl) (.one isAgg3 rfl) (EqV.int (by kernel_rfl)) (.cons rfl (.one isAgg30 rfl) (.one isAgg30 rfl) (EqV.int (by kernel_rfl)) (.cons rfl (.agg isAgg36 sizeOf36 (by kernel_rfl)) (.agg isAgg36 sizeOf36 (by kernel_rfl)) (eqv_36 _ x.Tx y.Tx) .nil)))) (by cases x; cases y; rw [Bool.eq_iff_iff]; simp [api_Event.mk.injEq, and_assoc])
theorem eq_38_eql (x y : api_Event) : BinV Try.prog .eql 38 (Ag x.cs) (Ag y.cs) (Bo (decide (x = y))) := .eqv (by kernel_rfl) (eqv_38 9995 x y)
theorem eq_38_neq (x y : api_Event) : BinV Try.prog .neq 38 (Ag x.cs) (Ag y.cs) (Bo (decide (x ≠ y))) := by
  have := BinV.neqv (P := Try.prog) (by kernel_rfl) (eqv_38 9995 x y); rw [← decide_not'] at this; exact this
noncomputable def narrowslaw36_alive  : Bool :=
  thn (if (decide (((clock_Ticks 1000 0 0)) = 0)) = true then (decide (((clock_Ticks 1012 1 5)) = 7)) else false) fun (y1 : Bool) => y1
set_option maxRecDepth 20000 in
set_option maxHeartbeats 1000000 in
theorem S_narrowslaw36_alive  (r : Bool) (h : narrowslaw36_alive  = r) :
    SpecF Try.prog 29 [] [] [] (fun _ : Unit => True) (fun z => Bo r) (fun z M =>  M) (fun z M =>  M) := by
  refine .of func29 rfl ntmps29 rfl fun w0 D0 G0 => ?_
  unfold narrowslaw36_alive at h
  refine .seq ?_
  refine .reg rfl ?_
  refine .op0 (OpP.toV (P.asg .k)) rfl ?_
  refine .nil ?_
  refine .then ?_
  obtain ⟨y1, hj3, h⟩ := thn_eq h
  refine .cutx (γ := Unit) (E1 := fun z2 => [(0, Bo y1)]) (L1 := fun z2 => []) (R1 := fun z2 => []) ?_ (fun z2 => ?_)
  · clear h
    refine .reg rfl ?_
    refine .opg (G.call call32 (.cons .k (.cons .k (.cons .k .nil))) (S_clock_Ticks 1000 0 0 _ rfl) .nil .nil (fun _ _ => rfl) (fun _ _ => rfl) rfl) rfl fun _ _ => ?_
    refine .opp (P.bin .t0 .k .eql) rfl ?_
    refine .opp (P.mov .t0) rfl ?_
    refine .split .k0 (fun c4 => ?_) (fun c4 => ?_)
    · rw [if_pos c4] at hj3
      refine .gyes rfl .g0 ?_
      refine .opg (G.call call32 (.cons .k (.cons .k (.cons .k .nil))) (S_clock_Ticks 1012 1 5 _ rfl) .nil .nil (fun _ _ => rfl) (fun _ _ => rfl) rfl) rfl fun _ _ => ?_
      refine .gyes rfl .g1 ?_
      refine .opp (P.bin .t0 .k .eql) rfl ?_
      refine .opp (P.pickT .t1 .t0) rfl ?_
      refine .opp (P.asg .t0) rfl ?_
      refine .nil ?_
      subst hj3
      exact .stj () (.cons Mm.m0 .nil) (.of .nil) .nil
    · rw [if_neg (ne_true_of_eq_false c4)] at hj3
      refine .gno rfl .g0 rfl rfl ?_
      refine .gno rfl .g0 rfl rfl ?_
      refine .opp (P.pickF .t0 .k) rfl ?_
      refine .opp (P.asg .t0) rfl ?_
      refine .nil ?_
      subst hj3
      exact .stj () (.cons Mm.m0 .nil) (.of .nil) .nil
  · clear hj3
    refine .ret ?_
    subst h
    exact .finw () (.r1 rfl (.tmp .g0)) trivial (Ls.of .nil) .nil
attribute [irreducible] narrowslaw36_alive
noncomputable def narrowslaw36_ticks (a0 : Int) (a1 : Int) (a2 : Int) : Int :=
  thn (if (decide (a1 = 1)) = true then (IntKind.i64.wrap ((IntKind.i64.wrap ((if 1099511627776 < if 0 > a0 then 0 else a0 then 1099511627776 else if 0 > a0 then 0 else a0) - 1000)) - (if 100 < if (-100) > a2 then (-100) else a2 then 100 else if (-100) > a2 then (-100) else a2))) else (IntKind.i64.wrap ((if 1099511627776 < if 0 > a0 then 0 else a0 then 1099511627776 else if 0 > a0 then 0 else a0) - 1000))) fun (y1 : Int) => y1
set_option maxRecDepth 20000 in
set_option maxHeartbeats 1000000 in
theorem S_narrowslaw36_ticks (a0 : Int) (a1 : Int) (a2 : Int) (r : Int) (h : narrowslaw36_ticks a0 a1 a2 = r) :
    SpecF Try.prog 31 [N a0, N a1, N a2] [] [] (fun _ : Unit => True) (fun z => N r) (fun z M =>  M) (fun z M =>  M) := by
  refine .of func31 rfl ntmps31 rfl fun w0 D0 G0 => ?_
  unfold narrowslaw36_ticks at h
  refine .seq ?_
  refine .reg rfl ?_
  refine .op0 (OpP.toV (P.asg .k)) rfl ?_
  refine .nil ?_
  refine .then ?_
  refine .seq ?_
  refine .reg rfl ?_
  refine .opp (P.mov .t0) rfl ?_
  refine .opp (P.max2 .t0 .k) rfl ?_
  refine .opp (P.min2 .t0 .k) rfl ?_
  refine .opp (P.bin .t0 .k .sub) rfl ?_
  refine .opp (P.asg .t0) rfl ?_
  refine .nil ?_
  refine .then ?_
  obtain ⟨y1, hj3, h⟩ := thn_eq h
  refine .cutx (γ := Unit) (E1 := fun z2 => [(7, N y1)]) (L1 := fun z2 => []) (R1 := fun z2 => []) ?_ (fun z2 => ?_)
  · clear h
    refine .seq ?_
    refine .reg rfl ?_
    refine .opp (P.mov .t1) rfl ?_
    refine .opp (P.bin .t0 .k .eql) rfl ?_
    refine .nil ?_
    refine .then ?_
    refine .cond .t0 (fun c4 => ?_) (fun c4 => ?_)
    · rw [if_pos c4] at hj3
      refine .reg rfl ?_
      refine .opp (P.mov .g0) rfl ?_
      refine .opp (P.mov .t2) rfl ?_
      refine .opp (P.max2 .t0 .k) rfl ?_
      refine .opp (P.min2 .t0 .k) rfl ?_
      refine .opp (P.bin .t1 .t0 .sub) rfl ?_
      refine .drop .k1 ?_
      refine .opp (P.asg .t0) rfl ?_
      refine .nil ?_
      subst hj3
      exact .stj () (.cons Mm.m0 .nil) (.of .nil) .nil
    · rw [if_neg (ne_true_of_eq_false c4)] at hj3
      refine .skip ?_
      subst hj3
      exact .stj () (.cons Mm.m0 .nil) (.of .nil) .nil
  · clear hj3
    refine .seq ?_
    refine .reg rfl ?_
    refine .opp (P.mov .t0) rfl ?_
    refine .opp (P.asg .t0) rfl ?_
    refine .nil ?_
    refine .then ?_
    refine .ret ?_
    subst h
    exact .finw () (.r1 rfl (.tmp .g0)) trivial (Ls.of .nil) .nil
attribute [irreducible] narrowslaw36_ticks
noncomputable def clock_Gaps (a0 : List clock_Stamp) : Option (Int) :=
  Option.bind (loopW (fun (s1 : Int × Int) => if (decide (s1.1 < ((a0.length : Int)))) = true then (Option.bind (at_ a0 s1.1) fun (x14 : clock_Stamp) => Option.bind (at_ a0 (IntKind.i64.wrap (s1.1 - 1))) fun (x21 : clock_Stamp) => some (.nx ((IntKind.i64.wrap (s1.1 + 1), if IntKind.i64.wrap (x14.Tick - x21.Tick) > s1.2 then IntKind.i64.wrap (x14.Tick - x21.Tick) else s1.2)))) else (some (.br (s1.1, s1.2)))) (1, 0)) fun o3 => Lo.on o3 fun (s1 : Int × Int) => some s1.2
set_option maxRecDepth 20000 in
set_option maxHeartbeats 1000000 in
theorem S_clock_Gaps (v00 : Value) (a0 : List clock_Stamp) (r : Int) (h : clock_Gaps a0 = some r) :
    SpecF Try.prog 34 [v00] [] [rows 29 v00 (a0.map clock_Stamp.cs)] (fun _ : Unit => True) (fun z => N r) (fun z M =>  M) (fun z M =>  M) := by
  refine .of func34 rfl ntmps34 rfl fun w0 D0 G0 => ?_
  unfold clock_Gaps at h
  refine .seq ?_
  refine .reg rfl ?_
  refine .op0 (OpP.toV (P.asg .k)) rfl ?_
  refine .nil ?_
  refine .then ?_
  refine .seq ?_
  refine .reg rfl ?_
  refine .opp (P.asg .k) rfl ?_
  refine .nil ?_
  refine .then ?_
  refine .seq ?_
  refine .seq ?_
  refine .reg rfl ?_
  refine .opp (P.asg .k) rfl ?_
  refine .nil ?_
  refine .then ?_
  refine .block ?_
  obtain ⟨o3, ho4, h⟩ := bnd_eq h
  refine .loopW (γ := Unit) (fun (s1 : Int × Int) z2 => [(4, N s1.1), (3, N s1.2), (0, v00)]) (fun (s1 : Int × Int) z2 => []) (fun (s1 : Int × Int) z2 => [rows 29 v00 (a0.map clock_Stamp.cs)]) () ho4 (.cons Mm.m0 (.cons Mm.m1 (.cons Mm.m2 .nil))) (.of .nil) (.cons Mm.m0 .nil) (fun n9 s1 z2 hr7 => ?_)
  obtain ⟨ct8, hc5, hn6⟩ := loopK_at hr7
  refine .seq ?_
  refine .seq ?_
  refine .reg rfl ?_
  refine .opp (P.mov .g0) rfl ?_
  refine .opp (P.mov .g3) rfl ?_
  refine .op (V.lnr (n := a0.length) .t0 Mm.m0 map_len runUnderlying68) rfl ?_
  refine .opp (P.bin .t1 .t0 .lss) rfl ?_
  refine .nil ?_
  refine .then ?_
  refine .cond .t0 (fun c10 => ?_) (fun c10 => ?_)
  · rw [if_pos c10] at hc5
    refine .skip ?_
    refine .then ?_
    refine .seq ?_
    refine .block ?_
    refine .draw 15 (.on 0 .pu (.on 1 .pu (.on 2 .pu (.on 3 .pu (.on 4 .pu (.on 6 .pu (.on 7 .pu (.on 8 .pu (.on 9 .pu (.on 10 .pu (.on 5 .ld (.on 11 .ld (.on 12 .pu (.on 13 .pu (.on 14 .go .nl))))))))))))))) follows_mixed (.inb (.thn (.thn (.inb (.thn .body))))) (by kernel_rfl) ?_
    refine .dpu rfl (.n rfl) (P.mov .g1) rfl rfl ?_
    refine .dpu rfl (.n rfl) (P.mov .g3) rfl rfl ?_
    refine .dpu rfl (.n rfl) (P.mov .g2) rfl rfl ?_
    obtain ⟨x14, hx15, hc5⟩ := bnd_eq hc5
    obtain ⟨i16, hi17, hx15⟩ := at_eq hx15
    have hi17_ : (s1.1).toNat = i16 := by rw [hi17]; rfl
    refine .ixq Mm.m0 (map_get hx15) fun p11 q12 hq13 => ?_
    refine .dpu rfl (.n rfl) (P.ixi (i := i16) .t0 hi17 .t0 hq13 runUnderlying68 sizeOf72) rfl rfl ?_
    refine .dpu rfl (.n rfl) (P.fa (off' := q12) .t0 fa_72_0 rfl) rfl rfl ?_
    refine .dpu rfl (.n rfl) (P.mov .g4) rfl rfl ?_
    refine .dpu rfl (.n rfl) (P.mov .g3) rfl rfl ?_
    refine .dpu rfl (.n rfl) (P.bin .t0 .k .sub) rfl rfl ?_
    obtain ⟨x21, hx22, hc5⟩ := bnd_eq hc5
    obtain ⟨i23, hi24, hx22⟩ := at_eq hx22
    have hi24_ : (IntKind.i64.wrap (s1.1 - 1)).toNat = i23 := by rw [hi24]; rfl
    refine .ixq Mm.m0 (map_get hx22) fun p18 q19 hq20 => ?_
    refine .dpu rfl (.n rfl) (P.ixi (i := i23) .t0 hi24 .t0 hq20 runUnderlying68 sizeOf72) rfl rfl ?_
    refine .dpu rfl (.n rfl) (P.fa (off' := q19) .t0 fa_72_0 rfl) rfl rfl ?_
    refine .dld rfl (.n rfl) (V.ldx0 (u := N x14.Tick) .t1 hq13 Mm.m0 (map_get hx15) (.one isAgg3 rfl)) (fun _ h => h) rfl rfl ?_
    refine .dld rfl (.n rfl) (V.ldx0 (u := N x21.Tick) .t1 hq20 Mm.m0 (map_get hx22) (.one isAgg3 rfl)) (fun _ h => h) rfl rfl ?_
    refine .dpu rfl (.n rfl) (P.bin .t1 .t0 .sub) rfl rfl ?_
    refine .dpu rfl (.n rfl) (P.max2 .t1 .t0) rfl rfl ?_
    refine .drop .k2 ?_
    refine .dgo rfl (.n rfl) (OpV.g (OpP.toV (P.asg .t0)) rfl) (.inr fun _ _ _ h => h) fun _ _ => ?_
    refine .dnil ?_
    refine .inn ?_
    refine .then ?_
    refine .reg rfl ?_
    refine .opp (P.mov .g1) rfl ?_
    refine .opp (P.bin .t0 .k .add) rfl ?_
    refine .drop .k2 ?_
    refine .opp (P.asg .t0) rfl ?_
    refine .nil ?_
    cases hc5
    obtain ⟨m25, hm26, hn6⟩ := hn6
    exact .rdW ((IntKind.i64.wrap (s1.1 + 1), if IntKind.i64.wrap (x14.Tick - x21.Tick) > s1.2 then IntKind.i64.wrap (x14.Tick - x21.Tick) else s1.2)) () hm26 hn6 (.cons Mm.m0 (.cons Mm.m1 (.cons Mm.m2 .nil))) (.of .nil) (.cons Mm.m0 .nil)
  · rw [if_neg (ne_true_of_eq_false c10)] at hc5
    refine .exit ?_
    refine .thx ?_
    cases hc5
    refine .told (γ := Unit) h hn6 (fun (s1 : Int × Int) _ => [(4, N s1.1), (3, N s1.2), (0, v00)]) (fun (s1 : Int × Int) _ => []) (fun (s1 : Int × Int) _ => [rows 29 v00 (a0.map clock_Stamp.cs)]) () (.cons Mm.m0 (.cons Mm.m1 (.cons Mm.m2 .nil))) (.of .nil) (.cons Mm.m0 .nil) (fun s1 _ h' => ?_)
    replace h := h'
    refine .thx ?_
    refine .inb ?_
    refine .then ?_
    refine .seq ?_
    refine .reg rfl ?_
    refine .opp (P.mov .t1) rfl ?_
    refine .opp (P.asg .t0) rfl ?_
    refine .nil ?_
    refine .then ?_
    refine .ret ?_
    cases h
    exact .finw () (.r1 rfl (.tmp .g0)) trivial (Ls.of .nil) .nil
attribute [irreducible] clock_Gaps
noncomputable def slices_Clone_i81 (a0 : List clock_Stamp) : Option ((List clock_Stamp)) :=
  grd ((([] : List clock_Stamp).length + a0.length) * 256 ≤ 140737488355328) <| some (((([] : List clock_Stamp) ++ a0)))
set_option maxRecDepth 20000 in
set_option maxHeartbeats 1000000 in
theorem S_slices_Clone_i81 (v00 : Value) (a0 : List clock_Stamp) (r : (List clock_Stamp)) (h : slices_Clone_i81 a0 = some r) :
    SpecF Try.prog 81 [v00] [] [rows 29 v00 (a0.map clock_Stamp.cs)] (fun _ : Value => True) (fun z => z) (fun z M => lst 72 29 z (r.map clock_Stamp.cs) ::  M) (fun z M =>  M) := by
  refine .of func81 rfl ntmps81 rfl fun w0 D0 G0 => ?_
  unfold slices_Clone_i81 at h
  refine .seq ?_
  refine .reg rfl ?_
  refine .op0 (OpP.toV (P.asg .k)) rfl ?_
  refine .nil ?_
  refine .then ?_
  refine .seq ?_
  refine .seq ?_
  refine .reg rfl ?_
  refine .opp (P.mov .g0) rfl ?_
  refine .opg (G.nilr (e := 72) .t0 Mm.m0 (by kernel_rfl) rfl) rfl fun n1 hz2 => ?_
  refine .nil ?_
  refine .then ?_
  refine .cond .t0 (fun c3 => ?_) (fun c3 => ?_)
  · have hx7 : a0 = [] := by simpa using hz2 c3
    replace h : some ([] : List clock_Stamp) = some r := by rw [hx7] at h; simpa [grd] using h
    refine .seq ?_
    refine .reg rfl ?_
    refine .opp (P.asg .k) rfl ?_
    refine .nil ?_
    refine .then ?_
    refine .ret ?_
    refine .thr ?_
    cases h
    refine .lnil 72 29 ?_
    exact .finw nilSl (.r1 rfl (.tmp .g0)) trivial (Ls.of (.cons .k0 .nil)) .nil
  · refine .skip ?_
    refine .then ?_
    refine .seq ?_
    refine .reg rfl ?_
    refine .opg (G.bsl0 runUnderlying68 sizeOf72 rfl) rfl fun u4 _ => ?_
    refine .opp (P.mov .t1) rfl ?_
    obtain ⟨hb6, h⟩ := grd_eq h
    refine .opg (G.app (by_ := 256) .t1 .t0 .k0 (.inl Mm.m0) runUnderlying68 runUnderlying68 sizeOf72 typeInfo72 rfl rfl zeroValue72 rfl (one_map one_72 _) (by simpa using hb6) rfl) rfl fun u5 _ => ?_
    refine .conseq .k0 (q := lst 72 29 u5 (((([] : List clock_Stamp) ++ a0)).map clock_Stamp.cs)) (fun _ hh => by simpa [List.map_append] using hh) ?_
    refine .opp (P.asg .t0) rfl ?_
    refine .nil ?_
    refine .then ?_
    refine .ret ?_
    cases h
    exact .finw u5 (.r1 rfl (.tmp .g0)) trivial (Ls.of (.cons .k0 .nil)) .nil
attribute [irreducible] slices_Clone_i81
noncomputable def clock_Between_1_c (a0 : clock_Stamp) (a1 : Int) (a2 : Int) : Bool :=
  thn (if (decide (a0.Tick < a1)) = true then true else (decide (a0.Tick ≥ a2))) fun (y2 : Bool) => y2
set_option maxRecDepth 20000 in
set_option maxHeartbeats 1000000 in
theorem S_clock_Between_1_c (a0 : clock_Stamp) (b01 : Nat) (a1 : Int) (b02 : Nat) (a2 : Int) (r : Bool) (h : clock_Between_1_c a0 a1 a2 = r) :
    SpecF Try.prog 82 [Ag (clock_Stamp.cs a0), pt b01 0, pt b02 0] [blk b01 3 [N a1], blk b02 3 [N a2]] [] (fun _ : Unit => True) (fun z => Bo r) (fun z M => blk b01 3 [N a1] :: blk b02 3 [N a2] ::  M) (fun z M =>  M) := by
  refine .of func82 rfl ntmps82 rfl fun w0 D0 G0 => ?_
  unfold clock_Between_1_c at h
  refine .seq ?_
  refine .reg rfl ?_
  refine .opx (X.box (cs := (clock_Stamp.cs a0)) .t0 rfl) rfl fun b1 => ?_
  refine .op0 (OpP.toV (P.asg .k)) rfl ?_
  refine .nil ?_
  refine .then ?_
  obtain ⟨y2, hj4, h⟩ := thn_eq h
  refine .cutx (γ := Unit) (E1 := fun z3 => [(4, Bo y2)]) (L1 := fun z3 => [blk b01 3 [N a1], blk b02 3 [N a2]]) (R1 := fun z3 => []) ?_ (fun z3 => ?_)
  · clear h
    refine .reg rfl ?_
    refine .opp (P.fa .g0 fa_72_0 rfl) rfl ?_
    refine .op (V.ld (v := N a0.Tick) .t0 .k0 (.one isAgg3 rfl)) rfl ?_
    refine .op (V.ld (v := N a1) .t2 .k1 (.one isAgg3 rfl)) rfl ?_
    refine .opp (P.bin .t1 .t0 .lss) rfl ?_
    refine .opp (P.mov .t0) rfl ?_
    refine .split .k0 (fun c5 => ?_) (fun c5 => ?_)
    · rw [if_pos c5] at hj4
      refine .gno rfl .g0 rfl rfl ?_
      refine .gno rfl .g0 rfl rfl ?_
      refine .gno rfl .g0 rfl rfl ?_
      refine .gno rfl .g0 rfl rfl ?_
      refine .opp (P.pickT .t0 .k) rfl ?_
      refine .opp (P.asg .t0) rfl ?_
      refine .nil ?_
      subst hj4
      exact .stj () (.cons Mm.m0 .nil) (.of (.cons .k1 (.cons .k1 .nil))) .nil
    · rw [if_neg (ne_true_of_eq_false c5)] at hj4
      refine .gyes rfl .g0 ?_
      refine .opp (P.fa .t1 fa_72_0 rfl) rfl ?_
      refine .gyes rfl .g1 ?_
      refine .op (V.ld (v := N a0.Tick) .t0 .k0 (.one isAgg3 rfl)) rfl ?_
      refine .gyes rfl .g1 ?_
      refine .op (V.ld (v := N a2) .t2 .k2 (.one isAgg3 rfl)) rfl ?_
      refine .gyes rfl .g2 ?_
      refine .opp (P.bin .t1 .t0 .geq) rfl ?_
      refine .opp (P.pickF .t1 .t0) rfl ?_
      refine .opp (P.asg .t0) rfl ?_
      refine .nil ?_
      subst hj4
      exact .stj () (.cons Mm.m0 .nil) (.of (.cons .k1 (.cons .k1 .nil))) .nil
  · clear hj4
    refine .ret ?_
    subst h
    exact .finw () (.r1 rfl (.tmp .g0)) trivial (Ls.of (.cons .k0 (.cons .k0 .nil))) .nil
attribute [irreducible] clock_Between_1_c
noncomputable def slices_IndexFunc_i131_f82 (a0 : List clock_Stamp) (a1a : Int) (a1b : Int) : Option (Int) :=
  Option.bind (loopR (fun (i1 : Nat) (e4 : clock_Stamp) (s2 : Unit) => if ((clock_Between_1_c e4 a1a a1b)) = true then (Option.map Ct.rt (some (i1 : Int))) else (some (.nx ()))) 0 a0 ()) fun o5 => Lo.on o5 fun (s2 : Unit) => some (-1)
set_option maxRecDepth 20000 in
set_option maxHeartbeats 1000000 in
theorem S_slices_IndexFunc_i131_f82 (v00 : Value) (a0 : List clock_Stamp) (b01a : Nat) (a1a : Int) (b01b : Nat) (a1b : Int) (r : Int) (h : slices_IndexFunc_i131_f82 a0 a1a a1b = some r) :
    SpecF Try.prog 131 [v00, fnv 82 [pt b01a 0, pt b01b 0]] [blk b01a 3 [N a1a], blk b01b 3 [N a1b]] [rows 29 v00 (a0.map clock_Stamp.cs)] (fun _ : Unit => True) (fun z => N r) (fun z M => blk b01a 3 [N a1a] :: blk b01b 3 [N a1b] ::  M) (fun z M =>  M) := by
  refine .of func131 rfl ntmps131 rfl fun w0 D0 G0 => ?_
  unfold slices_IndexFunc_i131_f82 at h
  refine .seq ?_
  refine .reg rfl ?_
  refine .op0 (OpP.toV (P.asg .k)) rfl ?_
  refine .nil ?_
  refine .then ?_
  refine .seq ?_
  refine .seq ?_
  refine .reg rfl ?_
  refine .opp (P.mov .g0) rfl ?_
  refine .op (V.lnr (n := a0.length) .t0 Mm.m0 map_len runUnderlying68) rfl ?_
  refine .opp (P.mov .k) rfl ?_
  refine .nil ?_
  refine .then ?_
  refine .block ?_
  obtain ⟨o5, ho6, h⟩ := bnd_eq h
  refine .lenq Mm.m0 fun hl12 => ?_
  rw [map_len] at hl12
  refine .loopR (γ := Unit) (fun i1 (s2 : Unit) z3 => [(8, N ((i1 : Int))), (7, N ((a0.length : Int))), (0, v00), (1, fnv 82 [pt b01a 0, pt b01b 0])]) (fun (s2 : Unit) z3 => [blk b01a 3 [N a1a], blk b01b 3 [N a1b]]) (fun (s2 : Unit) z3 => [rows 29 v00 (a0.map clock_Stamp.cs)]) () ho6 (.cons Mm.m0 (.cons Mm.m1 (.cons Mm.m2 (.cons Mm.m3 .nil)))) (.of (.cons .k0 (.cons .k0 .nil))) (.cons Mm.m0 .nil) (fun i1 s2 z3 hi13 hr9 => ?_)
  refine .seq ?_
  refine .reg rfl ?_
  refine .opp (P.bin (v := Bo (decide ((i1 : Int) < (a0.length : Nat)))) .g0 .g1 .lss) rfl ?_
  refine .nil ?_
  refine .then ?_
  refine .seq ?_
  refine .cond .t0 (fun c14 => ?_) (fun c14 => ?_)
  · obtain ⟨e4, hx11⟩ := get_of c14
    obtain ⟨ct10, hc7, hn8⟩ := loopR_at hx11 hr9
    refine .skip ?_
    refine .then ?_
    refine .seq ?_
    refine .block ?_
    refine .seq ?_
    refine .reg rfl ?_
    refine .opp (P.mov .g0) rfl ?_
    refine .opp (P.asg .t0) rfl ?_
    refine .nil ?_
    refine .then ?_
    refine .seq ?_
    refine .reg rfl ?_
    refine .opp (P.mov .g4) rfl ?_
    refine .opp (P.mov .g4) rfl ?_
    refine .opp (P.mov .g2) rfl ?_
    refine .ixq Mm.m0 (map_get hx11) fun p15 q16 hq17 => ?_
    refine .opp (P.ixi (i := i1) .t0 rfl .t0 hq17 runUnderlying68 sizeOf72) rfl ?_
    refine .op (V.ldx0 (u := Ag (clock_Stamp.cs e4)) .t0 hq17 Mm.m0 (map_get hx11) (.agg isAgg72 sizeOf72 rfl rfl)) rfl ?_
    refine .opg (G.callv call82 .t1 (.cons .t0 .nil) (S_clock_Between_1_c e4 b01a a1a b01b a1b _ rfl) (.cons .k0 (.cons .k0 .nil)) .nil (fun _ _ => rfl) (fun _ _ => rfl) rfl) rfl fun _ _ => ?_
    refine .nil ?_
    refine .then ?_
    refine .cond .t0 (fun c18 => ?_) (fun c18 => ?_)
    · rw [if_pos c18] at hc7
      refine .seq ?_
      refine .reg rfl ?_
      refine .opp (P.mov .t0) rfl ?_
      refine .opp (P.asg .t0) rfl ?_
      refine .nil ?_
      refine .then ?_
      refine .ret ?_
      refine .inr ?_
      refine .thr ?_
      obtain ⟨x19, hx20, rfl⟩ := map_rt hc7
      obtain rfl := hn8
      obtain rfl := rt_on h
      refine .thr ?_
      refine .inr ?_
      refine .thr ?_
      cases hx20
      exact .finw () (.r1 rfl (.tmp .g0)) trivial (Ls.of (.cons .k0 (.cons .k0 .nil))) .nil
    · rw [if_neg (ne_true_of_eq_false c18)] at hc7
      refine .skip ?_
      refine .inn ?_
      refine .then ?_
      refine .reg rfl ?_
      refine .opp (P.bin .g1 .k (.addc (inc_ok (lt_of_get hx11) hl12))) rfl ?_
      refine .drop .k2 ?_
      refine .opp (P.mov .t0) rfl ?_
      refine .nil ?_
      cases hc7
      exact .rdR () () hn8 (lt_of_get hx11) (.cons Mm.m0 (.cons Mm.m2 (.cons Mm.m3 (.cons Mm.m4 .nil)))) (.of (.cons .k0 (.cons .k0 .nil))) (.cons Mm.m0 .nil)
  · obtain rfl := loopR_end (le_of_not c14) hr9
    have h := dn_on h
    refine .exit ?_
    refine .thx ?_
    refine .thx ?_
    refine .inb ?_
    refine .then ?_
    refine .seq ?_
    refine .reg rfl ?_
    refine .opp (P.asg .k) rfl ?_
    refine .nil ?_
    refine .then ?_
    refine .ret ?_
    cases h
    exact .finw () (.r1 rfl (.tmp .g0)) trivial (Ls.of (.cons .k0 (.cons .k0 .nil))) .nil
attribute [irreducible] slices_IndexFunc_i131_f82
noncomputable def slices_DeleteFunc_i80_o_f82 (a0 : List clock_Stamp) (a1a : Int) (a1b : Int) : Option ((List clock_Stamp)) :=
  Option.bind (slices_IndexFunc_i131_f82 a0 a1a a1b) fun r1 => if (decide (r1 = ((-1)))) = true then (some a0) else (Option.bind (loopW (fun (s4 : Int × Int × (List clock_Stamp)) => if (decide (s4.1 < ((s4.2.2.length : Int)))) = true then (Option.bind (Option.bind (at_ s4.2.2 s4.1) fun (x20 : clock_Stamp) => if (!((clock_Between_1_c x20 a1a a1b))) = true then (Option.bind (at_ s4.2.2 s4.2.1) fun (x29 : clock_Stamp) => some ((IntKind.i64.wrap (s4.2.1 + 1), (s4.2.2.set ((s4.2.1).toNat) (x20 : clock_Stamp))))) else (some (s4.2.1, s4.2.2))) fun (y14 : Int × (List clock_Stamp)) => some (.nx ((IntKind.i64.wrap (s4.1 + 1), y14.1, y14.2)))) else (some (.br (s4.1, s4.2.1, s4.2.2)))) ((IntKind.i64.wrap (r1 + 1), r1, a0))) fun o6 => Lo.on o6 fun (s4 : Int × Int × (List clock_Stamp)) => grd (0 ≤ s4.2.1 ∧ s4.2.1 ≤ s4.2.2.length) <| grd (0 ≤ s4.2.1 ∧ s4.2.1 ≤ ((((s4.2.2.take (s4.2.1).toNat) ++ List.replicate (s4.2.2.length - (s4.2.1).toNat) (⟨0, 0, ⟨0, 0, ⟨0, 0, 0, 0, ⟨0, 0, 0, 0⟩, ⟨0, ⟨#[]⟩, 0, 0, 0, 0, ⟨#[]⟩⟩, ⟨⟨0, 0, 0, 0⟩, 0⟩, ⟨0, 0, 0, 0⟩, ⟨#[]⟩⟩⟩⟩ : clock_Stamp)))).length) <| some (((((((s4.2.2.take (s4.2.1).toNat) ++ List.replicate (s4.2.2.length - (s4.2.1).toNat) (⟨0, 0, ⟨0, 0, ⟨0, 0, 0, 0, ⟨0, 0, 0, 0⟩, ⟨0, ⟨#[]⟩, 0, 0, 0, 0, ⟨#[]⟩⟩, ⟨⟨0, 0, 0, 0⟩, 0⟩, ⟨0, 0, 0, 0⟩, ⟨#[]⟩⟩⟩⟩ : clock_Stamp)))).take (s4.2.1).toNat))))
set_option maxRecDepth 20000 in
set_option maxHeartbeats 1000000 in
theorem S_slices_DeleteFunc_i80_o_f82 (v00 : Value) (a0 : List clock_Stamp) (b01a : Nat) (a1a : Int) (b01b : Nat) (a1b : Int) (r : (List clock_Stamp)) (h : slices_DeleteFunc_i80_o_f82 a0 a1a a1b = some r) :
    SpecF Try.prog 80 [v00, fnv 82 [pt b01a 0, pt b01b 0]] [lst 72 29 v00 (a0.map clock_Stamp.cs), blk b01a 3 [N a1a], blk b01b 3 [N a1b]] [] (fun _ : Value => True) (fun z => z) (fun z M => blk b01a 3 [N a1a] :: blk b01b 3 [N a1b] :: lst 72 29 z (r.map clock_Stamp.cs) ::  M) (fun z M =>  M) := by
  refine .of func80 rfl ntmps80 rfl fun w0 D0 G0 => ?_
  unfold slices_DeleteFunc_i80_o_f82 at h
  refine .seq ?_
  refine .reg rfl ?_
  refine .op0 (OpP.toV (P.asg .k)) rfl ?_
  refine .nil ?_
  refine .then ?_
  refine .seq ?_
  refine .reg rfl ?_
  refine .opp (P.mov .g0) rfl ?_
  refine .opp (P.mov .g2) rfl ?_
  obtain ⟨r1, hr2, h⟩ := bnd_eq h
  refine .opg (G.calll call131 (.cons .t1 (.cons .t0 .nil)) (S_slices_IndexFunc_i131_f82 v00 a0 b01a a1a b01b a1b r1 hr2) (.cons .k1 (.cons .k1 .nil)) (.imp (List.mem_append_right _ Mm.m0) (fun _ => lst_rows) .nil) (fun _ _ => rfl) rfl) rfl fun _ _ => ?_
  refine .opp (P.asg .t0) rfl ?_
  refine .nil ?_
  refine .then ?_
  refine .seq ?_
  refine .seq ?_
  refine .reg rfl ?_
  refine .opp (P.mov .g0) rfl ?_
  refine .opp (P.bin .t0 .k .eql) rfl ?_
  refine .nil ?_
  refine .then ?_
  refine .cond .t0 (fun c3 => ?_) (fun c3 => ?_)
  · rw [if_pos c3] at h
    refine .seq ?_
    refine .reg rfl ?_
    refine .opp (P.mov .t1) rfl ?_
    refine .opp (P.asg .t0) rfl ?_
    refine .nil ?_
    refine .then ?_
    refine .ret ?_
    refine .thr ?_
    cases h
    exact .finw v00 (.r1 rfl (.tmp .g0)) trivial (Ls.of (.cons .k0 (.cons .k0 (.cons .k0 .nil)))) .nil
  · rw [if_neg (ne_true_of_eq_false c3)] at h
    refine .skip ?_
    refine .then ?_
    refine .seq ?_
    refine .seq ?_
    refine .reg rfl ?_
    refine .opp (P.mov .g0) rfl ?_
    refine .opp (P.bin .t0 .k .add) rfl ?_
    refine .opp (P.asg .t0) rfl ?_
    refine .nil ?_
    refine .then ?_
    refine .block ?_
    obtain ⟨o6, ho7, h⟩ := bnd_eq h
    refine .loopW (γ := Unit) (fun (s4 : Int × Int × (List clock_Stamp)) z5 => [(6, N s4.1), (5, N s4.2.1), (0, v00), (1, fnv 82 [pt b01a 0, pt b01b 0])]) (fun (s4 : Int × Int × (List clock_Stamp)) z5 => [blk b01a 3 [N a1a], blk b01b 3 [N a1b], lst 72 29 v00 (s4.2.2.map clock_Stamp.cs)]) (fun (s4 : Int × Int × (List clock_Stamp)) z5 => []) () ho7 (.cons Mm.m0 (.cons Mm.m1 (.cons Mm.m2 (.cons Mm.m3 .nil)))) (.of (.cons .k0 (.cons .k0 (.cons .k0 .nil)))) .nil (fun n12 s4 z5 hr10 => ?_)
    obtain ⟨ct11, hc8, hn9⟩ := loopK_at hr10
    refine .seq ?_
    refine .seq ?_
    refine .reg rfl ?_
    refine .opp (P.mov .g0) rfl ?_
    refine .opp (P.mov .g3) rfl ?_
    refine .op (V.lnl (n := s4.2.2.length) .t0 .k2 map_len runUnderlying68) rfl ?_
    refine .opp (P.bin .t1 .t0 .lss) rfl ?_
    refine .nil ?_
    refine .then ?_
    refine .cond .t0 (fun c13 => ?_) (fun c13 => ?_)
    · rw [if_pos c13] at hc8
      refine .skip ?_
      refine .then ?_
      obtain ⟨y14, hj16, hc8⟩ := bnd_eq hc8
      refine .cutx (γ := Unit) (E1 := fun z15 => [(5, N y14.1), (6, N s4.1), (0, v00), (1, fnv 82 [pt b01a 0, pt b01b 0])]) (L1 := fun z15 => [blk b01a 3 [N a1a], blk b01b 3 [N a1b], lst 72 29 v00 (y14.2.map clock_Stamp.cs)]) (R1 := fun z15 => []) ?_ (fun z15 => ?_)
      · clear hc8
        refine .block ?_
        refine .seq ?_
        refine .reg rfl ?_
        refine .opp (P.mov .g2) rfl ?_
        refine .opp (P.mov .g1) rfl ?_
        obtain ⟨x20, hx21, hj16⟩ := bnd_eq hj16
        obtain ⟨i22, hi23, hx21⟩ := at_eq hx21
        have hi23_ : (s4.1).toNat = i22 := by rw [hi23]; rfl
        refine .ixql .k2 (map_get hx21) fun p17 q18 hq19 => ?_
        refine .opp (P.ixi (i := i22) .t0 hi23 .t0 hq19 runUnderlying68 sizeOf72) rfl ?_
        refine .op (V.ldxl0 (u := Ag (clock_Stamp.cs x20)) .t0 hq19 .k2 (map_get hx21) (.agg isAgg72 sizeOf72 rfl rfl)) rfl ?_
        refine .opx (X.alc (cs := (clock_Stamp.cs ⟨0, 0, ⟨0, 0, ⟨0, 0, 0, 0, ⟨0, 0, 0, 0⟩, ⟨0, ⟨#[]⟩, 0, 0, 0, 0, ⟨#[]⟩⟩, ⟨⟨0, 0, 0, 0⟩, 0⟩, ⟨0, 0, 0, 0⟩, ⟨#[]⟩⟩⟩⟩)) zeroValue72 rfl) rfl fun b24 => ?_
        refine .opg (G.str .t1 .g0 .k0 (.mk (cs' := (clock_Stamp.cs x20)) sizeOf72 rfl rfl rfl rfl)) rfl fun _ _ => ?_
        refine .nil ?_
        refine .then ?_
        refine .seq ?_
        refine .reg rfl ?_
        refine .opp (P.mov .g4) rfl ?_
        refine .op (V.ld (v := Ag (clock_Stamp.cs x20)) .g1 .k0 (.agg isAgg72 sizeOf72 rfl rfl)) rfl ?_
        refine .opg (G.callv call82 .t1 (.cons .t0 .nil) (S_clock_Between_1_c x20 b01a a1a b01b a1b _ rfl) (.cons .k1 (.cons .k1 .nil)) .nil (fun _ _ => rfl) (fun _ _ => rfl) rfl) rfl fun _ _ => ?_
        refine .opp (P.not .t0) rfl ?_
        refine .nil ?_
        refine .then ?_
        refine .cond .t0 (fun c25 => ?_) (fun c25 => ?_)
        · rw [if_pos c25] at hj16
          refine .seq ?_
          refine .reg rfl ?_
          refine .opp (P.mov .g3) rfl ?_
          refine .opp (P.mov .g3) rfl ?_
          refine .op (V.ld (v := Ag (clock_Stamp.cs x20)) .t2 .k2 (.agg isAgg72 sizeOf72 rfl rfl)) rfl ?_
          obtain ⟨x29, hx30, hj16⟩ := bnd_eq hj16
          obtain ⟨i31, hi32, hx30⟩ := at_eq hx30
          have hi32_ : (s4.2.1).toNat = i31 := by rw [hi32]; rfl
          refine .ixql .k3 (map_get hx30) fun p26 q27 hq28 => ?_
          refine .opp (P.ixi (i := i31) .t1 hi32 .t1 hq28 runUnderlying68 sizeOf72) rfl ?_
          refine .opg (G.stx (off := q27) (k := 0) (cs' := (clock_Stamp.cs x20)) .t1 .t0 hq28 .k3 (map_get hx30) (.mk sizeOf72 rfl rfl rfl rfl)) rfl fun _ _ => ?_
          refine .conseq .k0 (q := lst 72 29 v00 (((s4.2.2.set ((s4.2.1).toNat) (x20 : clock_Stamp))).map clock_Stamp.cs)) (fun _ h_ => by rw [hi32_]; simpa [List.map_set] using h_) ?_
          refine .nil ?_
          refine .then ?_
          refine .reg rfl ?_
          refine .opp (P.mov .g1) rfl ?_
          refine .opp (P.bin .t0 .k .add) rfl ?_
          refine .drop .k2 ?_
          refine .opp (P.asg .t0) rfl ?_
          refine .nil ?_
          refine .inn ?_
          cases hj16
          exact .stj () (.cons Mm.m0 (.cons Mm.m1 (.cons Mm.m2 (.cons Mm.m3 .nil)))) (.of (.cons .k1 (.cons .k1 (.cons .k0 .nil)))) .nil
        · rw [if_neg (ne_true_of_eq_false c25)] at hj16
          refine .skip ?_
          refine .inn ?_
          cases hj16
          exact .stj () (.cons Mm.m2 (.cons Mm.m1 (.cons Mm.m3 (.cons Mm.m4 .nil)))) (.of (.cons .k0 (.cons .k0 (.cons .k1 .nil)))) .nil
      · clear hj16
        refine .reg rfl ?_
        refine .opp (P.mov .g1) rfl ?_
        refine .opp (P.bin .t0 .k .add) rfl ?_
        refine .drop .k2 ?_
        refine .opp (P.asg .t0) rfl ?_
        refine .nil ?_
        cases hc8
        obtain ⟨m33, hm34, hn9⟩ := hn9
        exact .rdW ((IntKind.i64.wrap (s4.1 + 1), y14.1, y14.2)) () hm34 hn9 (.cons Mm.m0 (.cons Mm.m1 (.cons Mm.m2 (.cons Mm.m3 .nil)))) (.of (.cons .k0 (.cons .k0 (.cons .k0 .nil)))) .nil
    · rw [if_neg (ne_true_of_eq_false c13)] at hc8
      refine .exit ?_
      refine .thx ?_
      cases hc8
      refine .told (γ := Unit) h hn9 (fun (s4 : Int × Int × (List clock_Stamp)) _ => [(6, N s4.1), (5, N s4.2.1), (0, v00), (1, fnv 82 [pt b01a 0, pt b01b 0])]) (fun (s4 : Int × Int × (List clock_Stamp)) _ => [blk b01a 3 [N a1a], blk b01b 3 [N a1b], lst 72 29 v00 (s4.2.2.map clock_Stamp.cs)]) (fun (s4 : Int × Int × (List clock_Stamp)) _ => []) () (.cons Mm.m0 (.cons Mm.m1 (.cons Mm.m2 (.cons Mm.m3 .nil)))) (.of (.cons .k0 (.cons .k0 (.cons .k0 .nil)))) .nil (fun s4 _ h' => ?_)
      replace h := h'
      refine .thx ?_
      refine .inb ?_
      refine .then ?_
      refine .seq ?_
      refine .reg rfl ?_
      refine .opp (P.mov .g2) rfl ?_
      refine .opp (P.mov .g2) rfl ?_
      obtain ⟨hb37, h⟩ := grd_eq h
      refine .opg (G.slt (m := s4.2.1) .t1 .t0 .k2 runUnderlying68 sizeOf72 hb37.1 (by simpa using hb37.2) rfl) rfl fun u35 hq36 => ?_
      have hm38 : (s4.2.1).toNat ≤ s4.2.2.length := by have := hb37; omega
      refine .opg (G.clr (cs := (clock_Stamp.cs ⟨0, 0, ⟨0, 0, ⟨0, 0, 0, 0, ⟨0, 0, 0, 0⟩, ⟨0, ⟨#[]⟩, 0, 0, 0, 0, ⟨#[]⟩⟩, ⟨⟨0, 0, 0, 0⟩, 0⟩, ⟨0, 0, 0, 0⟩, ⟨#[]⟩⟩⟩⟩)) (m := (s4.2.1).toNat) .t0 (by simpa using hq36) .k2 runUnderlying68 zeroValue72 rfl rfl rfl rfl (by simpa using hm38)) rfl fun _ _ => ?_
      refine .conseq .k0 (q := lst 72 29 v00 ((((s4.2.2.take (s4.2.1).toNat) ++ List.replicate (s4.2.2.length - (s4.2.1).toNat) (⟨0, 0, ⟨0, 0, ⟨0, 0, 0, 0, ⟨0, 0, 0, 0⟩, ⟨0, ⟨#[]⟩, 0, 0, 0, 0, ⟨#[]⟩⟩, ⟨⟨0, 0, 0, 0⟩, 0⟩, ⟨0, 0, 0, 0⟩, ⟨#[]⟩⟩⟩⟩ : clock_Stamp))).map clock_Stamp.cs)) (fun _ hh => by simpa [List.map_take, List.map_replicate, List.map_append] using hh) ?_
      refine .nil ?_
      refine .then ?_
      refine .seq ?_
      refine .reg rfl ?_
      refine .opp (P.mov .t2) rfl ?_
      refine .opp (P.mov .t2) rfl ?_
      obtain ⟨hb40, h⟩ := grd_eq h
      refine .opg (G.sll (m := s4.2.1) .t1 .t0 .k0 runUnderlying68 sizeOf72 hb40.1 (by simpa using hb40.2) rfl) rfl fun u39 _ => ?_
      refine .conseq .k0 (q := lst 72 29 u39 (((((((s4.2.2.take (s4.2.1).toNat) ++ List.replicate (s4.2.2.length - (s4.2.1).toNat) (⟨0, 0, ⟨0, 0, ⟨0, 0, 0, 0, ⟨0, 0, 0, 0⟩, ⟨0, ⟨#[]⟩, 0, 0, 0, 0, ⟨#[]⟩⟩, ⟨⟨0, 0, 0, 0⟩, 0⟩, ⟨0, 0, 0, 0⟩, ⟨#[]⟩⟩⟩⟩ : clock_Stamp)))).take (s4.2.1).toNat)).map clock_Stamp.cs)) (fun _ hh => by simpa using hh) ?_
      refine .opp (P.asg .t0) rfl ?_
      refine .nil ?_
      refine .then ?_
      refine .ret ?_
      cases h
      exact .finw u39 (.r1 rfl (.tmp .g0)) trivial (Ls.of (.cons .k1 (.cons .k1 (.cons .k0 .nil)))) .nil
attribute [irreducible] slices_DeleteFunc_i80_o_f82
noncomputable def clock_Between (a0 : List clock_Stamp) (a1 : Int) (a2 : Int) : Option ((List clock_Stamp)) :=
  Option.bind (slices_Clone_i81 a0) fun r3 => Option.bind (slices_DeleteFunc_i80_o_f82 r3 a1 a2) fun r6 => some r6
set_option maxRecDepth 20000 in
set_option maxHeartbeats 1000000 in
theorem S_clock_Between (v00 : Value) (a0 : List clock_Stamp) (a1 : Int) (a2 : Int) (r : (List clock_Stamp)) (h : clock_Between a0 a1 a2 = some r) :
    SpecF Try.prog 33 [v00, N a1, N a2] [] [rows 29 v00 (a0.map clock_Stamp.cs)] (fun _ : Value => True) (fun z => z) (fun z M => lst 72 29 z (r.map clock_Stamp.cs) ::  M) (fun z M =>  M) := by
  refine .of func33 rfl ntmps33 rfl fun w0 D0 G0 => ?_
  unfold clock_Between at h
  refine .seq ?_
  refine .reg rfl ?_
  refine .opx (X.box (cs := [N a1]) .t1 rfl) rfl fun b1 => ?_
  refine .opx (X.box (cs := [N a2]) .t2 rfl) rfl fun b2 => ?_
  refine .op0 (OpP.toV (P.asg .k)) rfl ?_
  refine .nil ?_
  refine .then ?_
  refine .seq ?_
  refine .reg rfl ?_
  refine .opp (P.mov .t2) rfl ?_
  obtain ⟨r3, hr4, h⟩ := bnd_eq h
  refine .opg (G.call call81 (.cons .t0 .nil) (S_slices_Clone_i81 v00 a0 r3 hr4) .nil (.cons Mm.m0 .nil) (fun _ _ => rfl) (fun _ _ => rfl) rfl) rfl fun u5 _ => ?_
  refine .opp (P.mkf (.cons .t2 (.cons .t1 .nil))) rfl ?_
  obtain ⟨r6, hr7, h⟩ := bnd_eq h
  refine .opg (G.call call80 (.cons .t1 (.cons .t0 .nil)) (S_slices_DeleteFunc_i80_o_f82 u5 r3 b1 a1 b2 a2 r6 hr7) (.cons .k0 (.cons .k1 (.cons .k0 .nil))) .nil (fun _ _ => rfl) (fun _ _ => rfl) rfl) rfl fun u8 _ => ?_
  refine .opp (P.asg .t0) rfl ?_
  refine .nil ?_
  refine .then ?_
  refine .ret ?_
  cases h
  exact .finw u8 (.r1 rfl (.tmp .g0)) trivial (Ls.of (.cons .k2 .nil)) .nil
attribute [irreducible] clock_Between
noncomputable def narrowslaw36_ClockSides (a0 : List api_Event) (a1 : List api_Event) (a2 : Int) : Option (Bool) :=
  if (!narrowslaw36_alive) = true then (some false) else (Option.bind (loopW (fun (s2 : Int × Bool) => if (decide (s2.1 < ((a0.length : Int)))) = true then (Option.bind (if s2.2 = true then (Option.bind (at_ a0 s2.1) fun (x19 : api_Event) => Option.bind (at_ a0 (IntKind.i64.wrap (s2.1 - 1))) fun (x26 : api_Event) => some (decide (x19.Time ≥ x26.Time))) else (some false)) fun (y12 : Bool) => some (.nx ((IntKind.i64.wrap (s2.1 + 1), y12)))) else (some (.br (s2.1, s2.2)))) (1, true)) fun o4 => Lo.on o4 fun (s2 : Int × Bool) => Option.bind (loopW (fun (s32 : Int × Bool) => if (decide (s32.1 < ((a1.length : Int)))) = true then (Option.bind (if s32.2 = true then (Option.bind (at_ a1 s32.1) fun (x49 : api_Event) => Option.bind (at_ a1 (IntKind.i64.wrap (s32.1 - 1))) fun (x56 : api_Event) => some (decide (x49.Time ≥ x56.Time))) else (some false)) fun (y42 : Bool) => some (.nx ((IntKind.i64.wrap (s32.1 + 1), y42)))) else (some (.br (s32.1, s32.2)))) (1, s2.2)) fun o34 => Lo.on o34 fun (s32 : Int × Bool) => Option.bind (clock_Merge a0 a1 a2) fun r62 => thn (if (!s32.2) = true then true else (decide (((r62.length : Int)) ≠ (IntKind.i64.wrap (((a0.length : Int)) + ((a1.length : Int))))))) fun (y65 : Bool) => if y65 = true then (some (!s32.2)) else (Option.bind (loopW (fun (s71 : Int × A2_i64) => if (decide (s71.1 < ((r62.length : Int)))) = true then (Option.bind (Option.bind (at_ r62 s71.1) fun (x87 : clock_Stamp) => if (decide (x87.Side = 1)) = true then (some a1) else (some a0)) fun (y81 : (List api_Event)) => Option.bind (Option.bind (at_ r62 s71.1) fun (x98 : clock_Stamp) => if (decide (x98.Side < 0)) = true then (some true) else (Option.bind (at_ r62 s71.1) fun (x106 : clock_Stamp) => if (decide (x106.Side > 1)) = true then (some true) else (Option.bind (at_ r62 s71.1) fun (x114 : clock_Stamp) => Option.bind (at_ (A2_i64.list s71.2) x114.Side) fun (x118 : Int) => if (decide (x118 ≥ ((y81.length : Int)))) = true then (some true) else (Option.bind (at_ r62 s71.1) fun (x126 : clock_Stamp) => Option.bind (at_ r62 s71.1) fun (x133 : clock_Stamp) => Option.bind (at_ (A2_i64.list s71.2) x126.Side) fun (x137 : Int) => Option.bind (at_ y81 x137) fun (x144 : api_Event) => some (decide ((x144 : api_Event) ≠ (x133.Event : api_Event))))))) fun (y92 : Bool) => if y92 = true then (Option.map Ct.rt (some false)) else (Option.bind (at_ r62 s71.1) fun (x154 : clock_Stamp) => Option.bind (at_ (A2_i64.list s71.2) x154.Side) fun (x158 : Int) => Option.bind (at_ (A2_i64.list s71.2) x154.Side) fun (x162 : Int) => some (.nx ((IntKind.i64.wrap (s71.1 + 1), A2_i64.set s71.2 (x154.Side).toNat (IntKind.i64.wrap (x158 + 1))))))) else (some (.br (s71.1, s71.2)))) (0, ⟨0, 0⟩)) fun o73 => Lo.on o73 fun (s71 : Int × A2_i64) => some true))
set_option maxRecDepth 20000 in
set_option maxHeartbeats 1000000 in
theorem S_narrowslaw36_ClockSides (v00 : Value) (a0 : List api_Event) (v01 : Value) (a1 : List api_Event) (a2 : Int) (r : Bool) (h : narrowslaw36_ClockSides a0 a1 a2 = some r) :
    SpecF Try.prog 7 [v00, v01, N a2] [] [rows 27 v00 (a0.map api_Event.cs), rows 27 v01 (a1.map api_Event.cs)] (fun _ : Unit => True) (fun z => Bo r) (fun z M =>  M) (fun z M =>  M) := by
  refine .of func7 rfl ntmps7 rfl fun w0 D0 G0 => ?_
  unfold narrowslaw36_ClockSides at h
  refine .seq ?_
  refine .reg rfl ?_
  refine .op0 (OpP.toV (P.asg .k)) rfl ?_
  refine .nil ?_
  refine .then ?_
  refine .seq ?_
  refine .seq ?_
  refine .reg rfl ?_
  refine .opg (G.call call29 .nil (S_narrowslaw36_alive  _ rfl) .nil .nil (fun _ _ => rfl) (fun _ _ => rfl) rfl) rfl fun _ _ => ?_
  refine .opp (P.not .t0) rfl ?_
  refine .nil ?_
  refine .then ?_
  refine .cond .t0 (fun c1 => ?_) (fun c1 => ?_)
  · rw [if_pos c1] at h
    refine .seq ?_
    refine .reg rfl ?_
    refine .opp (P.asg .k) rfl ?_
    refine .nil ?_
    refine .then ?_
    refine .ret ?_
    refine .thr ?_
    cases h
    exact .finw () (.r1 rfl (.tmp .g0)) trivial (Ls.of .nil) .nil
  · rw [if_neg (ne_true_of_eq_false c1)] at h
    refine .skip ?_
    refine .then ?_
    refine .seq ?_
    refine .reg rfl ?_
    refine .opp (P.asg .k) rfl ?_
    refine .nil ?_
    refine .then ?_
    refine .seq ?_
    refine .seq ?_
    refine .reg rfl ?_
    refine .opp (P.asg .k) rfl ?_
    refine .nil ?_
    refine .then ?_
    refine .block ?_
    obtain ⟨o4, ho5, h⟩ := bnd_eq h
    refine .loopW (γ := Unit) (fun (s2 : Int × Bool) z3 => [(8, N s2.1), (7, Bo s2.2), (0, v00), (1, v01), (2, N a2)]) (fun (s2 : Int × Bool) z3 => []) (fun (s2 : Int × Bool) z3 => [rows 27 v00 (a0.map api_Event.cs), rows 27 v01 (a1.map api_Event.cs)]) () ho5 (.cons Mm.m0 (.cons Mm.m1 (.cons Mm.m2 (.cons Mm.m3 (.cons Mm.m4 .nil))))) (.of .nil) (.cons Mm.m0 (.cons Mm.m1 .nil)) (fun n10 s2 z3 hr8 => ?_)
    obtain ⟨ct9, hc6, hn7⟩ := loopK_at hr8
    refine .seq ?_
    refine .seq ?_
    refine .reg rfl ?_
    refine .opp (P.mov .g0) rfl ?_
    refine .opp (P.mov .g3) rfl ?_
    refine .op (V.lnr (n := a0.length) .t0 Mm.m0 map_len runUnderlying22) rfl ?_
    refine .opp (P.bin .t1 .t0 .lss) rfl ?_
    refine .nil ?_
    refine .then ?_
    refine .cond .t0 (fun c11 => ?_) (fun c11 => ?_)
    · rw [if_pos c11] at hc6
      refine .skip ?_
      refine .then ?_
      obtain ⟨y12, hj14, hc6⟩ := bnd_eq hc6
      refine .cutx (γ := Unit) (E1 := fun z13 => [(7, Bo y12), (8, N s2.1), (0, v00), (1, v01), (2, N a2)]) (L1 := fun z13 => []) (R1 := fun z13 => [rows 27 v00 (a0.map api_Event.cs), rows 27 v01 (a1.map api_Event.cs)]) ?_ (fun z13 => ?_)
      · clear hc6
        refine .block ?_
        refine .draw 16 (.on 0 .pu (.on 1 .pu (.on 2 .pu (.on 3 .pu (.on 4 .pu (.on 5 .pu (.on 7 .pu (.on 8 .pu (.on 9 .pu (.on 10 .pu (.on 11 .pu (.on 6 .ld (.on 12 .ld (.on 13 .pu (.on 14 .pu (.on 15 .go .nl)))))))))))))))) follows_mixed (.inb (.thn (.thn (.inb (.thn .body))))) (by kernel_rfl) ?_
        refine .dpu rfl (.n rfl) (P.mov .g1) rfl rfl ?_
        refine .dpu rfl (.n rfl) (P.mov .t0) rfl rfl ?_
        refine .split .k0 (fun c15 => ?_) (fun c15 => ?_)
        · rw [if_pos c15] at hj14
          refine .dpu rfl (.g rfl rfl .g0 rfl) (P.mov .g3) rfl rfl ?_
          refine .dpu rfl (.g rfl rfl .g1 rfl) (P.mov .g2) rfl rfl ?_
          obtain ⟨x19, hx20, hj14⟩ := bnd_eq hj14
          obtain ⟨i21, hi22, hx20⟩ := at_eq hx20
          have hi22_ : (s2.1).toNat = i21 := by rw [hi22]; rfl
          refine .ixq Mm.m0 (map_get hx20) fun p16 q17 hq18 => ?_
          refine .dpu rfl (.g rfl rfl .g2 rfl) (P.ixi (i := i21) .t0 hi22 .t0 hq18 runUnderlying22 sizeOf38) rfl rfl ?_
          refine .dpu rfl (.g rfl rfl .g1 rfl) (P.fa (off' := q17) .t0 fa_38_0 rfl) rfl rfl ?_
          refine .dpu rfl (.g rfl rfl .g1 rfl) (P.mov .g4) rfl rfl ?_
          refine .dpu rfl (.g rfl rfl .g2 rfl) (P.mov .g3) rfl rfl ?_
          refine .dpu rfl (.g rfl rfl .g3 rfl) (P.bin .t0 .k .sub) rfl rfl ?_
          obtain ⟨x26, hx27, hj14⟩ := bnd_eq hj14
          obtain ⟨i28, hi29, hx27⟩ := at_eq hx27
          have hi29_ : (IntKind.i64.wrap (s2.1 - 1)).toNat = i28 := by rw [hi29]; rfl
          refine .ixq Mm.m0 (map_get hx27) fun p23 q24 hq25 => ?_
          refine .dpu rfl (.g rfl rfl .g3 rfl) (P.ixi (i := i28) .t0 hi29 .t0 hq25 runUnderlying22 sizeOf38) rfl rfl ?_
          refine .dpu rfl (.g rfl rfl .g2 rfl) (P.fa (off' := q24) .t0 fa_38_0 rfl) rfl rfl ?_
          refine .dld rfl (.g rfl rfl .g2 rfl) (V.ldx0 (u := N x19.Time) .t1 hq18 Mm.m0 (map_get hx20) (.one isAgg3 rfl)) (fun _ h => h) rfl rfl ?_
          refine .dld rfl (.g rfl rfl .g2 rfl) (V.ldx0 (u := N x26.Time) .t1 hq25 Mm.m0 (map_get hx27) (.one isAgg3 rfl)) (fun _ h => h) rfl rfl ?_
          refine .dpu rfl (.g rfl rfl .g2 rfl) (P.bin .t1 .t0 .geq) rfl rfl ?_
          refine .dpu rfl (.n rfl) (P.pickT .t1 .t0) rfl rfl ?_
          refine .drop .k2 ?_
          refine .dgo rfl (.n rfl) (OpV.g (OpP.toV (P.asg .t0)) rfl) (.inr fun _ _ _ h => h) fun _ _ => ?_
          refine .dnil ?_
          refine .inn ?_
          cases hj14
          exact .stj () (.cons Mm.m0 (.cons Mm.m1 (.cons Mm.m2 (.cons Mm.m3 (.cons Mm.m4 .nil))))) (.of .nil) (.cons Mm.m0 (.cons Mm.m1 .nil))
        · rw [if_neg (ne_true_of_eq_false c15)] at hj14
          refine .dsk rfl (.g rfl rfl .g0 rfl) rfl rfl ?_
          refine .dsk rfl (.g rfl rfl .g0 rfl) rfl rfl ?_
          refine .dsk rfl (.g rfl rfl .g0 rfl) rfl rfl ?_
          refine .dsk rfl (.g rfl rfl .g0 rfl) rfl rfl ?_
          refine .dsk rfl (.g rfl rfl .g0 rfl) rfl rfl ?_
          refine .dsk rfl (.g rfl rfl .g0 rfl) rfl rfl ?_
          refine .dsk rfl (.g rfl rfl .g0 rfl) rfl rfl ?_
          refine .dsk rfl (.g rfl rfl .g0 rfl) rfl rfl ?_
          refine .dsk rfl (.g rfl rfl .g0 rfl) rfl rfl ?_
          refine .dskl rfl (.g rfl rfl .g0 rfl) (fun _ h => h) rfl rfl ?_
          refine .dskl rfl (.g rfl rfl .g0 rfl) (fun _ h => h) rfl rfl ?_
          refine .dsk rfl (.g rfl rfl .g0 rfl) rfl rfl ?_
          refine .dpu rfl (.n rfl) (P.pickF .t0 .k) rfl rfl ?_
          refine .drop .k2 ?_
          refine .dgo rfl (.n rfl) (OpV.g (OpP.toV (P.asg .t0)) rfl) (.inr fun _ _ _ h => h) fun _ _ => ?_
          refine .dnil ?_
          refine .inn ?_
          cases hj14
          exact .stj () (.cons Mm.m0 (.cons Mm.m1 (.cons Mm.m2 (.cons Mm.m3 (.cons Mm.m4 .nil))))) (.of .nil) (.cons Mm.m0 (.cons Mm.m1 .nil))
      · clear hj14
        refine .reg rfl ?_
        refine .opp (P.mov .g1) rfl ?_
        refine .opp (P.bin .t0 .k .add) rfl ?_
        refine .drop .k2 ?_
        refine .opp (P.asg .t0) rfl ?_
        refine .nil ?_
        cases hc6
        obtain ⟨m30, hm31, hn7⟩ := hn7
        exact .rdW ((IntKind.i64.wrap (s2.1 + 1), y12)) () hm31 hn7 (.cons Mm.m0 (.cons Mm.m1 (.cons Mm.m2 (.cons Mm.m3 (.cons Mm.m4 .nil))))) (.of .nil) (.cons Mm.m0 (.cons Mm.m1 .nil))
    · rw [if_neg (ne_true_of_eq_false c11)] at hc6
      refine .exit ?_
      refine .thx ?_
      cases hc6
      refine .told (γ := Unit) h hn7 (fun (s2 : Int × Bool) _ => [(8, N s2.1), (7, Bo s2.2), (0, v00), (1, v01), (2, N a2)]) (fun (s2 : Int × Bool) _ => []) (fun (s2 : Int × Bool) _ => [rows 27 v00 (a0.map api_Event.cs), rows 27 v01 (a1.map api_Event.cs)]) () (.cons Mm.m0 (.cons Mm.m1 (.cons Mm.m2 (.cons Mm.m3 (.cons Mm.m4 .nil))))) (.of .nil) (.cons Mm.m0 (.cons Mm.m1 .nil)) (fun s2 _ h' => ?_)
      replace h := h'
      refine .thx ?_
      refine .inb ?_
      refine .then ?_
      refine .seq ?_
      refine .seq ?_
      refine .reg rfl ?_
      refine .opp (P.asg .k) rfl ?_
      refine .nil ?_
      refine .then ?_
      refine .block ?_
      obtain ⟨o34, ho35, h⟩ := bnd_eq h
      refine .loopW (γ := Unit) (fun (s32 : Int × Bool) z33 => [(9, N s32.1), (7, Bo s32.2), (0, v00), (1, v01), (2, N a2)]) (fun (s32 : Int × Bool) z33 => []) (fun (s32 : Int × Bool) z33 => [rows 27 v00 (a0.map api_Event.cs), rows 27 v01 (a1.map api_Event.cs)]) () ho35 (.cons Mm.m0 (.cons Mm.m2 (.cons Mm.m3 (.cons Mm.m4 (.cons Mm.m5 .nil))))) (.of .nil) (.cons Mm.m0 (.cons Mm.m1 .nil)) (fun n40 s32 z33 hr38 => ?_)
      obtain ⟨ct39, hc36, hn37⟩ := loopK_at hr38
      refine .seq ?_
      refine .seq ?_
      refine .reg rfl ?_
      refine .opp (P.mov .g0) rfl ?_
      refine .opp (P.mov .g4) rfl ?_
      refine .op (V.lnr (n := a1.length) .t0 Mm.m1 map_len runUnderlying22) rfl ?_
      refine .opp (P.bin .t1 .t0 .lss) rfl ?_
      refine .nil ?_
      refine .then ?_
      refine .cond .t0 (fun c41 => ?_) (fun c41 => ?_)
      · rw [if_pos c41] at hc36
        refine .skip ?_
        refine .then ?_
        obtain ⟨y42, hj44, hc36⟩ := bnd_eq hc36
        refine .cutx (γ := Unit) (E1 := fun z43 => [(7, Bo y42), (9, N s32.1), (0, v00), (1, v01), (2, N a2)]) (L1 := fun z43 => []) (R1 := fun z43 => [rows 27 v00 (a0.map api_Event.cs), rows 27 v01 (a1.map api_Event.cs)]) ?_ (fun z43 => ?_)
        · clear hc36
          refine .block ?_
          refine .draw 16 (.on 0 .pu (.on 1 .pu (.on 2 .pu (.on 3 .pu (.on 4 .pu (.on 5 .pu (.on 7 .pu (.on 8 .pu (.on 9 .pu (.on 10 .pu (.on 11 .pu (.on 6 .ld (.on 12 .ld (.on 13 .pu (.on 14 .pu (.on 15 .go .nl)))))))))))))))) follows_mixed (.inb (.thn (.thn (.inb (.thn .body))))) (by kernel_rfl) ?_
          refine .dpu rfl (.n rfl) (P.mov .g1) rfl rfl ?_
          refine .dpu rfl (.n rfl) (P.mov .t0) rfl rfl ?_
          refine .split .k0 (fun c45 => ?_) (fun c45 => ?_)
          · rw [if_pos c45] at hj44
            refine .dpu rfl (.g rfl rfl .g0 rfl) (P.mov .g4) rfl rfl ?_
            refine .dpu rfl (.g rfl rfl .g1 rfl) (P.mov .g2) rfl rfl ?_
            obtain ⟨x49, hx50, hj44⟩ := bnd_eq hj44
            obtain ⟨i51, hi52, hx50⟩ := at_eq hx50
            have hi52_ : (s32.1).toNat = i51 := by rw [hi52]; rfl
            refine .ixq Mm.m1 (map_get hx50) fun p46 q47 hq48 => ?_
            refine .dpu rfl (.g rfl rfl .g2 rfl) (P.ixi (i := i51) .t0 hi52 .t0 hq48 runUnderlying22 sizeOf38) rfl rfl ?_
            refine .dpu rfl (.g rfl rfl .g1 rfl) (P.fa (off' := q47) .t0 fa_38_0 rfl) rfl rfl ?_
            refine .dpu rfl (.g rfl rfl .g1 rfl) (P.mov .g5) rfl rfl ?_
            refine .dpu rfl (.g rfl rfl .g2 rfl) (P.mov .g3) rfl rfl ?_
            refine .dpu rfl (.g rfl rfl .g3 rfl) (P.bin .t0 .k .sub) rfl rfl ?_
            obtain ⟨x56, hx57, hj44⟩ := bnd_eq hj44
            obtain ⟨i58, hi59, hx57⟩ := at_eq hx57
            have hi59_ : (IntKind.i64.wrap (s32.1 - 1)).toNat = i58 := by rw [hi59]; rfl
            refine .ixq Mm.m1 (map_get hx57) fun p53 q54 hq55 => ?_
            refine .dpu rfl (.g rfl rfl .g3 rfl) (P.ixi (i := i58) .t0 hi59 .t0 hq55 runUnderlying22 sizeOf38) rfl rfl ?_
            refine .dpu rfl (.g rfl rfl .g2 rfl) (P.fa (off' := q54) .t0 fa_38_0 rfl) rfl rfl ?_
            refine .dld rfl (.g rfl rfl .g2 rfl) (V.ldx0 (u := N x49.Time) .t1 hq48 Mm.m1 (map_get hx50) (.one isAgg3 rfl)) (fun _ h => h) rfl rfl ?_
            refine .dld rfl (.g rfl rfl .g2 rfl) (V.ldx0 (u := N x56.Time) .t1 hq55 Mm.m1 (map_get hx57) (.one isAgg3 rfl)) (fun _ h => h) rfl rfl ?_
            refine .dpu rfl (.g rfl rfl .g2 rfl) (P.bin .t1 .t0 .geq) rfl rfl ?_
            refine .dpu rfl (.n rfl) (P.pickT .t1 .t0) rfl rfl ?_
            refine .drop .k2 ?_
            refine .dgo rfl (.n rfl) (OpV.g (OpP.toV (P.asg .t0)) rfl) (.inr fun _ _ _ h => h) fun _ _ => ?_
            refine .dnil ?_
            refine .inn ?_
            cases hj44
            exact .stj () (.cons Mm.m0 (.cons Mm.m1 (.cons Mm.m2 (.cons Mm.m3 (.cons Mm.m4 .nil))))) (.of .nil) (.cons Mm.m0 (.cons Mm.m1 .nil))
          · rw [if_neg (ne_true_of_eq_false c45)] at hj44
            refine .dsk rfl (.g rfl rfl .g0 rfl) rfl rfl ?_
            refine .dsk rfl (.g rfl rfl .g0 rfl) rfl rfl ?_
            refine .dsk rfl (.g rfl rfl .g0 rfl) rfl rfl ?_
            refine .dsk rfl (.g rfl rfl .g0 rfl) rfl rfl ?_
            refine .dsk rfl (.g rfl rfl .g0 rfl) rfl rfl ?_
            refine .dsk rfl (.g rfl rfl .g0 rfl) rfl rfl ?_
            refine .dsk rfl (.g rfl rfl .g0 rfl) rfl rfl ?_
            refine .dsk rfl (.g rfl rfl .g0 rfl) rfl rfl ?_
            refine .dsk rfl (.g rfl rfl .g0 rfl) rfl rfl ?_
            refine .dskl rfl (.g rfl rfl .g0 rfl) (fun _ h => h) rfl rfl ?_
            refine .dskl rfl (.g rfl rfl .g0 rfl) (fun _ h => h) rfl rfl ?_
            refine .dsk rfl (.g rfl rfl .g0 rfl) rfl rfl ?_
            refine .dpu rfl (.n rfl) (P.pickF .t0 .k) rfl rfl ?_
            refine .drop .k2 ?_
            refine .dgo rfl (.n rfl) (OpV.g (OpP.toV (P.asg .t0)) rfl) (.inr fun _ _ _ h => h) fun _ _ => ?_
            refine .dnil ?_
            refine .inn ?_
            cases hj44
            exact .stj () (.cons Mm.m0 (.cons Mm.m1 (.cons Mm.m2 (.cons Mm.m3 (.cons Mm.m4 .nil))))) (.of .nil) (.cons Mm.m0 (.cons Mm.m1 .nil))
        · clear hj44
          refine .reg rfl ?_
          refine .opp (P.mov .g1) rfl ?_
          refine .opp (P.bin .t0 .k .add) rfl ?_
          refine .drop .k2 ?_
          refine .opp (P.asg .t0) rfl ?_
          refine .nil ?_
          cases hc36
          obtain ⟨m60, hm61, hn37⟩ := hn37
          exact .rdW ((IntKind.i64.wrap (s32.1 + 1), y42)) () hm61 hn37 (.cons Mm.m0 (.cons Mm.m1 (.cons Mm.m2 (.cons Mm.m3 (.cons Mm.m4 .nil))))) (.of .nil) (.cons Mm.m0 (.cons Mm.m1 .nil))
      · rw [if_neg (ne_true_of_eq_false c41)] at hc36
        refine .exit ?_
        refine .thx ?_
        cases hc36
        refine .told (γ := Unit) h hn37 (fun (s32 : Int × Bool) _ => [(9, N s32.1), (7, Bo s32.2), (0, v00), (1, v01), (2, N a2)]) (fun (s32 : Int × Bool) _ => []) (fun (s32 : Int × Bool) _ => [rows 27 v00 (a0.map api_Event.cs), rows 27 v01 (a1.map api_Event.cs)]) () (.cons Mm.m0 (.cons Mm.m1 (.cons Mm.m2 (.cons Mm.m3 (.cons Mm.m4 .nil))))) (.of .nil) (.cons Mm.m0 (.cons Mm.m1 .nil)) (fun s32 _ h' => ?_)
        replace h := h'
        refine .thx ?_
        refine .inb ?_
        refine .then ?_
        refine .seq ?_
        refine .reg rfl ?_
        refine .opp (P.mov .g2) rfl ?_
        refine .opp (P.mov .g4) rfl ?_
        refine .opp (P.mov .t6) rfl ?_
        obtain ⟨r62, hr63, h⟩ := bnd_eq h
        refine .opg (G.call call30 (.cons .t2 (.cons .t1 (.cons .t0 .nil))) (S_clock_Merge v00 a0 v01 a1 a2 r62 hr63) .nil (.cons Mm.m0 (.cons Mm.m1 .nil)) (fun _ _ => rfl) (fun _ _ => rfl) rfl) rfl fun u64 _ => ?_
        refine .opp (P.asg .t0) rfl ?_
        refine .nil ?_
        refine .then ?_
        refine .seq ?_
        obtain ⟨y65, hj67, h⟩ := thn_eq h
        refine .cutx (γ := Unit) (E1 := fun z66 => [(73, Bo y65), (10, u64), (7, Bo s32.2), (0, v00), (1, v01)]) (L1 := fun z66 => [lst 72 29 u64 (r62.map clock_Stamp.cs)]) (R1 := fun z66 => [rows 27 v00 (a0.map api_Event.cs), rows 27 v01 (a1.map api_Event.cs)]) ?_ (fun z66 => ?_)
        · clear h
          refine .reg rfl ?_
          refine .opp (P.mov .g2) rfl ?_
          refine .opp (P.not .t0) rfl ?_
          refine .opp (P.mov .t0) rfl ?_
          refine .split .k0 (fun c68 => ?_) (fun c68 => ?_)
          · rw [if_pos c68] at hj67
            refine .gno rfl .g0 rfl rfl ?_
            refine .gno rfl .g0 rfl rfl ?_
            refine .gno rfl .g0 rfl rfl ?_
            refine .gno rfl .g0 rfl rfl ?_
            refine .gno rfl .g0 rfl rfl ?_
            refine .gno rfl .g0 rfl rfl ?_
            refine .gno rfl .g0 rfl rfl ?_
            refine .gno rfl .g0 rfl rfl ?_
            refine .opp (P.pickT .t0 .k) rfl ?_
            refine .nil ?_
            subst hj67
            exact .stj () (.cons Mm.m0 (.cons Mm.m1 (.cons Mm.m3 (.cons Mm.m4 (.cons Mm.m5 .nil))))) (.of (.cons .k0 .nil)) (.cons Mm.m0 (.cons Mm.m1 .nil))
          · rw [if_neg (ne_true_of_eq_false c68)] at hj67
            refine .gyes rfl .g0 ?_
            refine .opp (P.mov .g1) rfl ?_
            refine .gyes rfl .g1 ?_
            refine .op (V.lnl (n := r62.length) .t0 .k0 map_len runUnderlying68) rfl ?_
            refine .gyes rfl .g1 ?_
            refine .opp (P.mov .g5) rfl ?_
            refine .gyes rfl .g2 ?_
            refine .op (V.lnr (n := a0.length) .t0 Mm.m0 map_len runUnderlying22) rfl ?_
            refine .gyes rfl .g2 ?_
            refine .opp (P.mov .g7) rfl ?_
            refine .gyes rfl .g3 ?_
            refine .op (V.lnr (n := a1.length) .t0 Mm.m1 map_len runUnderlying22) rfl ?_
            refine .gyes rfl .g3 ?_
            refine .opp (P.bin .t1 .t0 .add) rfl ?_
            refine .gyes rfl .g2 ?_
            refine .opp (P.bin .t1 .t0 .neq) rfl ?_
            refine .opp (P.pickF .t1 .t0) rfl ?_
            refine .nil ?_
            subst hj67
            exact .stj () (.cons Mm.m0 (.cons Mm.m1 (.cons Mm.m3 (.cons Mm.m4 (.cons Mm.m5 .nil))))) (.of (.cons .k0 .nil)) (.cons Mm.m0 (.cons Mm.m1 .nil))
        · clear hj67
          refine .cond .t0 (fun c69 => ?_) (fun c69 => ?_)
          · rw [if_pos c69] at h
            refine .seq ?_
            refine .reg rfl ?_
            refine .opp (P.mov .t1) rfl ?_
            refine .opp (P.not .t0) rfl ?_
            refine .opp (P.asg .t0) rfl ?_
            refine .nil ?_
            refine .then ?_
            refine .ret ?_
            refine .thr ?_
            cases h
            exact .finw () (.r1 rfl (.tmp .g0)) trivial (Ls.of .nil) .nil
          · rw [if_neg (ne_true_of_eq_false c69)] at h
            refine .skip ?_
            refine .then ?_
            refine .seq ?_
            refine .reg rfl ?_
            refine .opp (P.bld (v := Ag (A2_i64.cs ⟨0, 0⟩)) .nil (bld_runA zeroValue70 runUnderlying70 sizeOf3 (by kernel_rfl))) rfl ?_
            refine .opx (X.alc (cs := (A2_i64.cs ⟨0, 0⟩)) zeroValue70 rfl) rfl fun b70 => ?_
            refine .opg (G.str .t1 .g0 .k0 (.mk (cs' := (A2_i64.cs ⟨0, 0⟩)) sizeOf70 rfl rfl rfl rfl)) rfl fun _ _ => ?_
            refine .nil ?_
            refine .then ?_
            refine .seq ?_
            refine .seq ?_
            refine .reg rfl ?_
            refine .opp (P.asg .k) rfl ?_
            refine .nil ?_
            refine .then ?_
            refine .block ?_
            obtain ⟨o73, ho74, h⟩ := bnd_eq h
            refine .loopW (γ := Unit) (fun (s71 : Int × A2_i64) z72 => [(12, N s71.1), (11, pt b70 0), (10, u64), (0, v00), (1, v01)]) (fun (s71 : Int × A2_i64) z72 => [blk b70 70 (A2_i64.cs s71.2), lst 72 29 u64 (r62.map clock_Stamp.cs)]) (fun (s71 : Int × A2_i64) z72 => [rows 27 v00 (a0.map api_Event.cs), rows 27 v01 (a1.map api_Event.cs)]) () ho74 (.cons Mm.m0 (.cons Mm.m1 (.cons Mm.m2 (.cons Mm.m4 (.cons Mm.m5 .nil))))) (.of (.cons .k0 (.cons .k0 .nil))) (.cons Mm.m0 (.cons Mm.m1 .nil)) (fun n79 s71 z72 hr77 => ?_)
            obtain ⟨ct78, hc75, hn76⟩ := loopK_at hr77
            refine .seq ?_
            refine .seq ?_
            refine .reg rfl ?_
            refine .opp (P.mov .g0) rfl ?_
            refine .opp (P.mov .g3) rfl ?_
            refine .op (V.lnl (n := r62.length) .t0 .k1 map_len runUnderlying68) rfl ?_
            refine .opp (P.bin .t1 .t0 .lss) rfl ?_
            refine .nil ?_
            refine .then ?_
            refine .cond .t0 (fun c80 => ?_) (fun c80 => ?_)
            · rw [if_pos c80] at hc75
              refine .skip ?_
              refine .then ?_
              refine .seq ?_
              refine .block ?_
              refine .seq ?_
              refine .reg rfl ?_
              refine .opp (P.mov .g3) rfl ?_
              refine .opp (P.asg .t0) rfl ?_
              refine .nil ?_
              refine .then ?_
              obtain ⟨y81, hj83, hc75⟩ := bnd_eq hc75
              refine .cutx (γ := Value) (E1 := fun z82 => [(13, z82), (12, N s71.1), (11, pt b70 0), (10, u64), (0, v00), (1, v01)]) (L1 := fun z82 => [blk b70 70 (A2_i64.cs s71.2), lst 72 29 u64 (r62.map clock_Stamp.cs)]) (R1 := fun z82 => [rows 27 z82 (y81.map api_Event.cs), rows 27 v00 (a0.map api_Event.cs), rows 27 v01 (a1.map api_Event.cs)]) ?_ (fun z82 => ?_)
              · clear hc75
                refine .seq ?_
                refine .reg rfl ?_
                refine .opp (P.mov .g3) rfl ?_
                refine .opp (P.mov .g2) rfl ?_
                obtain ⟨x87, hx88, hj83⟩ := bnd_eq hj83
                obtain ⟨i89, hi90, hx88⟩ := at_eq hx88
                have hi90_ : (s71.1).toNat = i89 := by rw [hi90]; rfl
                refine .ixql .k1 (map_get hx88) fun p84 q85 hq86 => ?_
                refine .opp (P.ixi (i := i89) .t0 hi90 .t0 hq86 runUnderlying68 sizeOf72) rfl ?_
                refine .opp (P.fa (off' := q85 + 1) .t0 fa_72_1 rfl) rfl ?_
                refine .op (V.ldxl (u := N x87.Side) (off := q85) (k := 1) .t0 hq86 .k1 (map_get hx88) (.one isAgg3 rfl)) rfl ?_
                refine .opp (P.bin .t0 .k .eql) rfl ?_
                refine .nil ?_
                refine .then ?_
                refine .cond .t0 (fun c91 => ?_) (fun c91 => ?_)
                · rw [if_pos c91] at hj83
                  refine .reg rfl ?_
                  refine .opp (P.mov .g5) rfl ?_
                  refine .drop .k1 ?_
                  refine .opp (P.asg .t0) rfl ?_
                  refine .nil ?_
                  cases hj83
                  exact .stj v01 (.cons Mm.m0 (.cons Mm.m1 (.cons Mm.m2 (.cons Mm.m3 (.cons Mm.m4 (.cons Mm.m5 .nil)))))) (.of (.cons .k0 (.cons .k0 .nil))) (.cons Mm.m1 (.cons Mm.m0 (.cons Mm.m1 .nil)))
                · rw [if_neg (ne_true_of_eq_false c91)] at hj83
                  refine .skip ?_
                  cases hj83
                  exact .stj v00 (.cons Mm.m0 (.cons Mm.m1 (.cons Mm.m2 (.cons Mm.m3 (.cons Mm.m4 (.cons Mm.m5 .nil)))))) (.of (.cons .k0 (.cons .k0 .nil))) (.cons Mm.m0 (.cons Mm.m0 (.cons Mm.m1 .nil)))
              · clear hj83
                refine .seq ?_
                obtain ⟨y92, hj94, hc75⟩ := bnd_eq hc75
                refine .cutx (γ := Unit) (E1 := fun z93 => [(134, Bo y92), (12, N s71.1), (11, pt b70 0), (10, u64), (0, v00), (1, v01)]) (L1 := fun z93 => [blk b70 70 (A2_i64.cs s71.2), lst 72 29 u64 (r62.map clock_Stamp.cs)]) (R1 := fun z93 => [rows 27 v00 (a0.map api_Event.cs), rows 27 v01 (a1.map api_Event.cs)]) ?_ (fun z93 => ?_)
                · clear hc75
                  refine .draw 44 (.on 0 .pu (.on 1 .pu (.on 2 .pu (.on 3 .pu (.on 4 .ld (.on 5 .pu (.on 6 .pu (.on 7 .pu (.on 8 .pu (.on 9 .pu (.on 10 .pu (.on 11 .ld (.on 12 .pu (.on 13 .pu (.on 14 .pu (.on 15 .pu (.on 16 .pu (.on 17 .pu (.on 18 .pu (.on 22 .pu (.on 19 .ld (.on 20 .pu (.on 21 .ld (.on 23 .ld (.on 24 .pu (.on 25 .pu (.on 26 .pu (.on 27 .pu (.on 28 .pu (.on 29 .pu (.on 30 .pu (.on 31 .pu (.on 37 .pu (.on 38 .pu (.on 39 .pu (.on 40 .pu (.on 32 .ld (.on 33 .pu (.on 34 .ld (.on 35 .pu (.on 36 .ld (.on 41 .ld (.on 42 .pu (.on 43 .pu .nl)))))))))))))))))))))))))))))))))))))))))))) follows_mixed (.thn (.thn (.inb (.thn (.thn (.inb (.thn .body))))))) (by kernel_rfl) ?_
                  refine .dpu rfl (.n rfl) (P.mov .g3) rfl rfl ?_
                  refine .dpu rfl (.n rfl) (P.mov .g2) rfl rfl ?_
                  obtain ⟨x98, hx99, hj94⟩ := bnd_eq hj94
                  obtain ⟨i100, hi101, hx99⟩ := at_eq hx99
                  have hi101_ : (s71.1).toNat = i100 := by rw [hi101]; rfl
                  refine .ixql .k1 (map_get hx99) fun p95 q96 hq97 => ?_
                  refine .dpu rfl (.n rfl) (P.ixi (i := i100) .t0 hi101 .t0 hq97 runUnderlying68 sizeOf72) rfl rfl ?_
                  refine .dpu rfl (.n rfl) (P.fa (off' := q96 + 1) .t0 fa_72_1 rfl) rfl rfl ?_
                  refine .dld rfl (.n rfl) (V.ldxl (u := N x98.Side) (off := q96) (k := 1) .t0 hq97 .k1 (map_get hx99) (.one isAgg3 rfl)) (fun _ h => h) rfl rfl ?_
                  refine .dpu rfl (.n rfl) (P.bin .t0 .k .lss) rfl rfl ?_
                  refine .dpu rfl (.n rfl) (P.mov .t0) rfl rfl ?_
                  refine .split .k0 (fun c102 => ?_) (fun c102 => ?_)
                  · rw [if_pos c102] at hj94
                    refine .dsk rfl (.g rfl rfl .g0 rfl) rfl rfl ?_
                    refine .dsk rfl (.g rfl rfl .g0 rfl) rfl rfl ?_
                    refine .dsk rfl (.g rfl rfl .g0 rfl) rfl rfl ?_
                    refine .dsk rfl (.g rfl rfl .g0 rfl) rfl rfl ?_
                    refine .dskl rfl (.g rfl rfl .g0 rfl) (fun _ h => h) rfl rfl ?_
                    refine .dsk rfl (.g rfl rfl .g0 rfl) rfl rfl ?_
                    refine .dpu rfl (.n rfl) (P.pickT .t0 .k) rfl rfl ?_
                    refine .dpu rfl (.n rfl) (P.mov .t0) rfl rfl ?_
                    refine .dsk rfl (.g rfl rfl .g0 rfl) rfl rfl ?_
                    refine .dsk rfl (.g rfl rfl .g0 rfl) rfl rfl ?_
                    refine .dsk rfl (.g rfl rfl .g0 rfl) rfl rfl ?_
                    refine .dsk rfl (.g rfl rfl .g0 rfl) rfl rfl ?_
                    refine .dsk rfl (.g rfl rfl .g0 rfl) rfl rfl ?_
                    refine .dskl rfl (.g rfl rfl .g0 rfl) (fun _ h => h) rfl rfl ?_
                    refine .dsk rfl (.g rfl rfl .g0 rfl) rfl rfl ?_
                    refine .dskl rfl (.g rfl rfl .g0 rfl) (fun _ h => h) rfl rfl ?_
                    refine .dskl rfl (.g rfl rfl .g0 rfl) (fun _ h => h) rfl rfl ?_
                    refine .dsk rfl (.g rfl rfl .g0 rfl) rfl rfl ?_
                    refine .dpu rfl (.n rfl) (P.pickT .t0 .k) rfl rfl ?_
                    refine .dpu rfl (.n rfl) (P.mov .t0) rfl rfl ?_
                    refine .dsk rfl (.g rfl rfl .g0 rfl) rfl rfl ?_
                    refine .dsk rfl (.g rfl rfl .g0 rfl) rfl rfl ?_
                    refine .dsk rfl (.g rfl rfl .g0 rfl) rfl rfl ?_
                    refine .dsk rfl (.g rfl rfl .g0 rfl) rfl rfl ?_
                    refine .dsk rfl (.g rfl rfl .g0 rfl) rfl rfl ?_
                    refine .dsk rfl (.g rfl rfl .g0 rfl) rfl rfl ?_
                    refine .dsk rfl (.g rfl rfl .g0 rfl) rfl rfl ?_
                    refine .dsk rfl (.g rfl rfl .g0 rfl) rfl rfl ?_
                    refine .dsk rfl (.g rfl rfl .g0 rfl) rfl rfl ?_
                    refine .dskl rfl (.g rfl rfl .g0 rfl) (fun _ h => h) rfl rfl ?_
                    refine .dsk rfl (.g rfl rfl .g0 rfl) rfl rfl ?_
                    refine .dskl rfl (.g rfl rfl .g0 rfl) (fun _ h => h) rfl rfl ?_
                    refine .dsk rfl (.g rfl rfl .g0 rfl) rfl rfl ?_
                    refine .dskl rfl (.g rfl rfl .g0 rfl) (fun _ h => h) rfl rfl ?_
                    refine .dskl rfl (.g rfl rfl .g0 rfl) (fun _ h => h) rfl rfl ?_
                    refine .dsk rfl (.g rfl rfl .g0 rfl) rfl rfl ?_
                    refine .dpu rfl (.n rfl) (P.pickT .t0 .k) rfl rfl ?_
                    refine .dnil ?_
                    cases hj94
                    exact .stj () (.cons Mm.m0 (.cons Mm.m2 (.cons Mm.m3 (.cons Mm.m4 (.cons Mm.m5 (.cons Mm.m6 .nil)))))) (.of (.cons .k0 (.cons .k0 .nil))) (.cons Mm.m1 (.cons Mm.m2 .nil))
                  · rw [if_neg (ne_true_of_eq_false c102)] at hj94
                    refine .dpu rfl (.g rfl rfl .g0 rfl) (P.mov .g4) rfl rfl ?_
                    refine .dpu rfl (.g rfl rfl .g1 rfl) (P.mov .g3) rfl rfl ?_
                    obtain ⟨x106, hx107, hj94⟩ := bnd_eq hj94
                    obtain ⟨i108, hi109, hx107⟩ := at_eq hx107
                    have hi109_ : (s71.1).toNat = i108 := by rw [hi109]; rfl
                    refine .ixql .k1 (map_get hx107) fun p103 q104 hq105 => ?_
                    refine .dpu rfl (.g rfl rfl .g2 rfl) (P.ixi (i := i108) .t0 hi109 .t0 hq105 runUnderlying68 sizeOf72) rfl rfl ?_
                    refine .dpu rfl (.g rfl rfl .g1 rfl) (P.fa (off' := q104 + 1) .t0 fa_72_1 rfl) rfl rfl ?_
                    refine .dld rfl (.g rfl rfl .g1 rfl) (V.ldxl (u := N x106.Side) (off := q104) (k := 1) .t0 hq105 .k1 (map_get hx107) (.one isAgg3 rfl)) (fun _ h => h) rfl rfl ?_
                    refine .dpu rfl (.g rfl rfl .g1 rfl) (P.bin .t0 .k .gtr) rfl rfl ?_
                    refine .dpu rfl (.n rfl) (P.pickF .t1 .t0) rfl rfl ?_
                    refine .dpu rfl (.n rfl) (P.mov .t0) rfl rfl ?_
                    refine .split .k0 (fun c110 => ?_) (fun c110 => ?_)
                    · rw [if_pos c110] at hj94
                      refine .dsk rfl (.g rfl rfl .g0 rfl) rfl rfl ?_
                      refine .dsk rfl (.g rfl rfl .g0 rfl) rfl rfl ?_
                      refine .dsk rfl (.g rfl rfl .g0 rfl) rfl rfl ?_
                      refine .dsk rfl (.g rfl rfl .g0 rfl) rfl rfl ?_
                      refine .dsk rfl (.g rfl rfl .g0 rfl) rfl rfl ?_
                      refine .dskl rfl (.g rfl rfl .g0 rfl) (fun _ h => h) rfl rfl ?_
                      refine .dsk rfl (.g rfl rfl .g0 rfl) rfl rfl ?_
                      refine .dskl rfl (.g rfl rfl .g0 rfl) (fun _ h => h) rfl rfl ?_
                      refine .dskl rfl (.g rfl rfl .g0 rfl) (fun _ h => h) rfl rfl ?_
                      refine .dsk rfl (.g rfl rfl .g0 rfl) rfl rfl ?_
                      refine .dpu rfl (.n rfl) (P.pickT .t0 .k) rfl rfl ?_
                      refine .dpu rfl (.n rfl) (P.mov .t0) rfl rfl ?_
                      refine .dsk rfl (.g rfl rfl .g0 rfl) rfl rfl ?_
                      refine .dsk rfl (.g rfl rfl .g0 rfl) rfl rfl ?_
                      refine .dsk rfl (.g rfl rfl .g0 rfl) rfl rfl ?_
                      refine .dsk rfl (.g rfl rfl .g0 rfl) rfl rfl ?_
                      refine .dsk rfl (.g rfl rfl .g0 rfl) rfl rfl ?_
                      refine .dsk rfl (.g rfl rfl .g0 rfl) rfl rfl ?_
                      refine .dsk rfl (.g rfl rfl .g0 rfl) rfl rfl ?_
                      refine .dsk rfl (.g rfl rfl .g0 rfl) rfl rfl ?_
                      refine .dsk rfl (.g rfl rfl .g0 rfl) rfl rfl ?_
                      refine .dskl rfl (.g rfl rfl .g0 rfl) (fun _ h => h) rfl rfl ?_
                      refine .dsk rfl (.g rfl rfl .g0 rfl) rfl rfl ?_
                      refine .dskl rfl (.g rfl rfl .g0 rfl) (fun _ h => h) rfl rfl ?_
                      refine .dsk rfl (.g rfl rfl .g0 rfl) rfl rfl ?_
                      refine .dskl rfl (.g rfl rfl .g0 rfl) (fun _ h => h) rfl rfl ?_
                      refine .dskl rfl (.g rfl rfl .g0 rfl) (fun _ h => h) rfl rfl ?_
                      refine .dsk rfl (.g rfl rfl .g0 rfl) rfl rfl ?_
                      refine .dpu rfl (.n rfl) (P.pickT .t0 .k) rfl rfl ?_
                      refine .dnil ?_
                      cases hj94
                      exact .stj () (.cons Mm.m0 (.cons Mm.m2 (.cons Mm.m3 (.cons Mm.m4 (.cons Mm.m5 (.cons Mm.m6 .nil)))))) (.of (.cons .k0 (.cons .k0 .nil))) (.cons Mm.m1 (.cons Mm.m2 .nil))
                    · rw [if_neg (ne_true_of_eq_false c110)] at hj94
                      refine .dpu rfl (.g rfl rfl .g0 rfl) (P.mov .g4) rfl rfl ?_
                      refine .dpu rfl (.g rfl rfl .g1 rfl) (P.mov .g3) rfl rfl ?_
                      obtain ⟨x114, hx115, hj94⟩ := bnd_eq hj94
                      obtain ⟨i116, hi117, hx115⟩ := at_eq hx115
                      have hi117_ : (s71.1).toNat = i116 := by rw [hi117]; rfl
                      refine .ixql .k1 (map_get hx115) fun p111 q112 hq113 => ?_
                      refine .dpu rfl (.g rfl rfl .g2 rfl) (P.ixi (i := i116) .t0 hi117 .t0 hq113 runUnderlying68 sizeOf72) rfl rfl ?_
                      refine .dpu rfl (.g rfl rfl .g1 rfl) (P.fa (off' := q112 + 1) .t0 fa_72_1 rfl) rfl rfl ?_
                      refine .dpu rfl (.g rfl rfl .g1 rfl) (P.mov .g2) rfl rfl ?_
                      refine .dld rfl (.g rfl rfl .g2 rfl) (V.ldxl (u := N x114.Side) (off := q112) (k := 1) .t1 hq113 .k1 (map_get hx115) (.one isAgg3 rfl)) (fun _ h => h) rfl rfl ?_
                      obtain ⟨x118, hx119, hj94⟩ := bnd_eq hj94
                      obtain ⟨i120, hi121, hx119⟩ := at_eq hx119
                      have hi121_ : (x114.Side).toNat = i120 := by rw [hi121]; rfl
                      refine .dpu rfl (.g rfl rfl .g2 rfl) (P.iad (i := i120) (off' := (0 + i120 * 1)) .t0 hi121 .g4 runUnderlying70 sizeOf3 (lt_of_get hx119) rfl) rfl rfl ?_
                      refine .dld rfl (.g rfl rfl .g2 rfl) (V.ld (v := N x118) .t0 .k0 (by rcases i120 with _ | _ | _ <;> first | (obtain rfl := Option.some.inj hx119; exact LdV.one isAgg3 rfl) | (cases hx119; done))) (fun _ h => h) rfl rfl ?_
                      refine .dld rfl (.g rfl rfl .g2 rfl) (V.lnr (n := y81.length) .t1 Mm.m0 map_len runUnderlying22) (fun _ h => h) rfl rfl ?_
                      refine .dpu rfl (.g rfl rfl .g2 rfl) (P.bin .t1 .t0 .geq) rfl rfl ?_
                      refine .dpu rfl (.n rfl) (P.pickF .t1 .t0) rfl rfl ?_
                      refine .dpu rfl (.n rfl) (P.mov .t0) rfl rfl ?_
                      refine .split .k0 (fun c122 => ?_) (fun c122 => ?_)
                      · rw [if_pos c122] at hj94
                        refine .dsk rfl (.g rfl rfl .g0 rfl) rfl rfl ?_
                        refine .dsk rfl (.g rfl rfl .g0 rfl) rfl rfl ?_
                        refine .dsk rfl (.g rfl rfl .g0 rfl) rfl rfl ?_
                        refine .dsk rfl (.g rfl rfl .g0 rfl) rfl rfl ?_
                        refine .dsk rfl (.g rfl rfl .g0 rfl) rfl rfl ?_
                        refine .dsk rfl (.g rfl rfl .g0 rfl) rfl rfl ?_
                        refine .dsk rfl (.g rfl rfl .g0 rfl) rfl rfl ?_
                        refine .dsk rfl (.g rfl rfl .g0 rfl) rfl rfl ?_
                        refine .dsk rfl (.g rfl rfl .g0 rfl) rfl rfl ?_
                        refine .dskl rfl (.g rfl rfl .g0 rfl) (fun _ h => h) rfl rfl ?_
                        refine .dsk rfl (.g rfl rfl .g0 rfl) rfl rfl ?_
                        refine .dskl rfl (.g rfl rfl .g0 rfl) (fun _ h => h) rfl rfl ?_
                        refine .dsk rfl (.g rfl rfl .g0 rfl) rfl rfl ?_
                        refine .dskl rfl (.g rfl rfl .g0 rfl) (fun _ h => h) rfl rfl ?_
                        refine .dskl rfl (.g rfl rfl .g0 rfl) (fun _ h => h) rfl rfl ?_
                        refine .dsk rfl (.g rfl rfl .g0 rfl) rfl rfl ?_
                        refine .dpu rfl (.n rfl) (P.pickT .t0 .k) rfl rfl ?_
                        refine .dnil ?_
                        cases hj94
                        exact .stj () (.cons Mm.m0 (.cons Mm.m2 (.cons Mm.m3 (.cons Mm.m4 (.cons Mm.m5 (.cons Mm.m6 .nil)))))) (.of (.cons .k0 (.cons .k0 .nil))) (.cons Mm.m1 (.cons Mm.m2 .nil))
                      · rw [if_neg (ne_true_of_eq_false c122)] at hj94
                        refine .dpu rfl (.g rfl rfl .g0 rfl) (P.mov .t1) rfl rfl ?_
                        refine .dpu rfl (.g rfl rfl .g1 rfl) (P.mov .g4) rfl rfl ?_
                        refine .dpu rfl (.g rfl rfl .g2 rfl) (P.mov .g3) rfl rfl ?_
                        obtain ⟨x126, hx127, hj94⟩ := bnd_eq hj94
                        obtain ⟨i128, hi129, hx127⟩ := at_eq hx127
                        have hi129_ : (s71.1).toNat = i128 := by rw [hi129]; rfl
                        refine .ixql .k1 (map_get hx127) fun p123 q124 hq125 => ?_
                        refine .dpu rfl (.g rfl rfl .g3 rfl) (P.ixi (i := i128) .t0 hi129 .t0 hq125 runUnderlying68 sizeOf72) rfl rfl ?_
                        refine .dpu rfl (.g rfl rfl .g2 rfl) (P.fa (off' := q124 + 1) .t0 fa_72_1 rfl) rfl rfl ?_
                        refine .dpu rfl (.g rfl rfl .g2 rfl) (P.mov .g5) rfl rfl ?_
                        refine .dpu rfl (.g rfl rfl .g3 rfl) (P.mov .g4) rfl rfl ?_
                        obtain ⟨x133, hx134, hj94⟩ := bnd_eq hj94
                        obtain ⟨i135, hi136, hx134⟩ := at_eq hx134
                        have hi136_ : (s71.1).toNat = i135 := by rw [hi136]; rfl
                        refine .ixql .k1 (map_get hx134) fun p130 q131 hq132 => ?_
                        refine .dpu rfl (.g rfl rfl .g4 rfl) (P.ixi (i := i135) .t0 hi136 .t0 hq132 runUnderlying68 sizeOf72) rfl rfl ?_
                        refine .dpu rfl (.g rfl rfl .g3 rfl) (P.fa (off' := q131 + 2) .t0 fa_72_2 rfl) rfl rfl ?_
                        refine .dld rfl (.g rfl rfl .g3 rfl) (V.ldxl (u := N x126.Side) (off := q124) (k := 1) .t1 hq125 .k1 (map_get hx127) (.one isAgg3 rfl)) (fun _ h => h) rfl rfl ?_
                        obtain ⟨x137, hx138, hj94⟩ := bnd_eq hj94
                        obtain ⟨i139, hi140, hx138⟩ := at_eq hx138
                        have hi140_ : (x126.Side).toNat = i139 := by rw [hi140]; rfl
                        refine .dpu rfl (.g rfl rfl .g3 rfl) (P.iad (i := i139) (off' := (0 + i139 * 1)) .t0 hi140 .g4 runUnderlying70 sizeOf3 (lt_of_get hx138) rfl) rfl rfl ?_
                        refine .dld rfl (.g rfl rfl .g3 rfl) (V.ld (v := N x137) .t0 .k0 (by rcases i139 with _ | _ | _ <;> first | (obtain rfl := Option.some.inj hx138; exact LdV.one isAgg3 rfl) | (cases hx138; done))) (fun _ h => h) rfl rfl ?_
                        obtain ⟨x144, hx145, hj94⟩ := bnd_eq hj94
                        obtain ⟨i146, hi147, hx145⟩ := at_eq hx145
                        have hi147_ : (x137).toNat = i146 := by rw [hi147]; rfl
                        refine .ixq Mm.m0 (map_get hx145) fun p141 q142 hq143 => ?_
                        refine .dpu rfl (.g rfl rfl .g3 rfl) (P.ixi (i := i146) .t0 hi147 .t1 hq143 runUnderlying22 sizeOf38) rfl rfl ?_
                        refine .dld rfl (.g rfl rfl .g2 rfl) (V.ldx0 (u := Ag (api_Event.cs x144)) .t0 hq143 Mm.m0 (map_get hx145) (.agg isAgg38 sizeOf38 rfl rfl)) (fun _ h => h) rfl rfl ?_
                        refine .dld rfl (.g rfl rfl .g2 rfl) (V.ldxl (u := Ag (api_Event.cs x133.Event)) (off := q131) (k := 2) .t1 hq132 .k1 (map_get hx134) (.agg isAgg38 sizeOf38 rfl rfl)) (fun _ h => h) rfl rfl ?_
                        refine .dpu rfl (.g rfl rfl .g2 rfl) (P.bin .t1 .t0 (eq_38_neq _ _)) rfl rfl ?_
                        refine .dpu rfl (.n rfl) (P.pickF .t1 .t0) rfl rfl ?_
                        refine .dnil ?_
                        cases hj94
                        exact .stj () (.cons Mm.m0 (.cons Mm.m1 (.cons Mm.m2 (.cons Mm.m3 (.cons Mm.m4 (.cons Mm.m5 .nil)))))) (.of (.cons .k0 (.cons .k0 .nil))) (.cons Mm.m1 (.cons Mm.m2 .nil))
                · clear hj94
                  refine .cond .t0 (fun c148 => ?_) (fun c148 => ?_)
                  · rw [if_pos c148] at hc75
                    refine .seq ?_
                    refine .reg rfl ?_
                    refine .opp (P.asg .k) rfl ?_
                    refine .nil ?_
                    refine .then ?_
                    refine .ret ?_
                    refine .thr ?_
                    refine .inr ?_
                    refine .thr ?_
                    obtain ⟨x149, hx150, rfl⟩ := map_rt hc75
                    obtain rfl := hn76
                    obtain rfl := rt_on h
                    refine .thr ?_
                    refine .inr ?_
                    refine .thr ?_
                    cases hx150
                    exact .finw () (.r1 rfl (.tmp .g0)) trivial (Ls.of .nil) .nil
                  · rw [if_neg (ne_true_of_eq_false c148)] at hc75
                    refine .skip ?_
                    refine .then ?_
                    refine .reg rfl ?_
                    refine .opp (P.mov .g2) rfl ?_
                    refine .opp (P.mov .g1) rfl ?_
                    obtain ⟨x154, hx155, hc75⟩ := bnd_eq hc75
                    obtain ⟨i156, hi157, hx155⟩ := at_eq hx155
                    have hi157_ : (s71.1).toNat = i156 := by rw [hi157]; rfl
                    refine .ixql .k1 (map_get hx155) fun p151 q152 hq153 => ?_
                    refine .opp (P.ixi (i := i156) .t0 hi157 .t0 hq153 runUnderlying68 sizeOf72) rfl ?_
                    refine .opp (P.fa (off' := q152 + 1) .t0 fa_72_1 rfl) rfl ?_
                    refine .op (V.ldxl (u := N x154.Side) (off := q152) (k := 1) .t0 hq153 .k1 (map_get hx155) (.one isAgg3 rfl)) rfl ?_
                    obtain ⟨x158, hx159, hc75⟩ := bnd_eq hc75
                    obtain ⟨i160, hi161, hx159⟩ := at_eq hx159
                    have hi161_ : (x154.Side).toNat = i160 := by rw [hi161]; rfl
                    refine .opp (P.iad (i := i160) (off' := (0 + i160 * 1)) .g0 hi161 .g2 runUnderlying70 sizeOf3 (lt_of_get hx159) rfl) rfl ?_
                    refine .op (V.ld (v := N x158) .t0 .k0 (by rcases i160 with _ | _ | _ <;> first | (obtain rfl := Option.some.inj hx159; exact LdV.one isAgg3 rfl) | (cases hx159; done))) rfl ?_
                    refine .opp (P.bin .t0 .k .add) rfl ?_
                    obtain ⟨x162, hx163, hc75⟩ := bnd_eq hc75
                    obtain ⟨i164, hi165, hx163⟩ := at_eq hx163
                    have hi165_ : (x154.Side).toNat = i164 := by rw [hi165]; rfl
                    refine .opp (P.iad (i := i164) (off' := (0 + i164 * 1)) .t1 hi165 .g2 runUnderlying70 sizeOf3 (lt_of_get hx163) rfl) rfl ?_
                    refine .opg (G.str (cs' := (A2_i64.cs (A2_i64.set s71.2 i164 (IntKind.i64.wrap (x158 + 1))))) .t1 .t0 .k0 (by rcases i164 with _ | _ | _ <;> first | (obtain rfl := Option.some.inj hx163; exact StV.mk sizeOf3 rfl rfl rfl rfl) | (cases hx163; done))) rfl fun _ _ => ?_
                    refine .conseq .k0 (q := blk b70 70 (A2_i64.cs (A2_i64.set s71.2 (x154.Side).toNat (IntKind.i64.wrap (x158 + 1))))) (fun _ h_ => by rw [hi165_]; exact h_) ?_
                    refine .nil ?_
                    refine .inn ?_
                    refine .then ?_
                    refine .reg rfl ?_
                    refine .opp (P.mov .g0) rfl ?_
                    refine .opp (P.bin .t0 .k .add) rfl ?_
                    refine .drop .k1 ?_
                    refine .opp (P.asg .t0) rfl ?_
                    refine .nil ?_
                    cases hc75
                    obtain ⟨m166, hm167, hn76⟩ := hn76
                    exact .rdW ((IntKind.i64.wrap (s71.1 + 1), A2_i64.set s71.2 (x154.Side).toNat (IntKind.i64.wrap (x158 + 1)))) () hm167 hn76 (.cons Mm.m0 (.cons Mm.m1 (.cons Mm.m2 (.cons Mm.m3 (.cons Mm.m4 .nil))))) (.of (.cons .k0 (.cons .k0 .nil))) (.cons Mm.m0 (.cons Mm.m1 .nil))
            · rw [if_neg (ne_true_of_eq_false c80)] at hc75
              refine .exit ?_
              refine .thx ?_
              cases hc75
              refine .told (γ := Unit) h hn76 (fun (s71 : Int × A2_i64) _ => [(12, N s71.1), (11, pt b70 0), (10, u64), (0, v00), (1, v01)]) (fun (s71 : Int × A2_i64) _ => [blk b70 70 (A2_i64.cs s71.2), lst 72 29 u64 (r62.map clock_Stamp.cs)]) (fun (s71 : Int × A2_i64) _ => [rows 27 v00 (a0.map api_Event.cs), rows 27 v01 (a1.map api_Event.cs)]) () (.cons Mm.m0 (.cons Mm.m1 (.cons Mm.m2 (.cons Mm.m3 (.cons Mm.m4 .nil))))) (.of (.cons .k0 (.cons .k0 .nil))) (.cons Mm.m0 (.cons Mm.m1 .nil)) (fun s71 _ h' => ?_)
              replace h := h'
              refine .thx ?_
              refine .inb ?_
              refine .then ?_
              refine .seq ?_
              refine .reg rfl ?_
              refine .opp (P.asg .k) rfl ?_
              refine .nil ?_
              refine .then ?_
              refine .ret ?_
              cases h
              exact .finw () (.r1 rfl (.tmp .g0)) trivial (Ls.of .nil) .nil
attribute [irreducible] narrowslaw36_ClockSides
end Go.Sl
