/- Walked code of the program, its pure functions and their contracts. -/
import Derived.Test.YteijfoldbinghaaSlCk
set_option linter.unusedVariables false
set_option linter.unusedSimpArgs false
namespace Go.Sl
open Go.Proofs Go.Proofs.Try
theorem fa_72_1 : FaV Try.prog 72 1 1 := .mk runUnderlying72 rfl sizeOf3 rfl rfl
theorem fa_72_2 : FaV Try.prog 72 2 2 := .mk runUnderlying72 rfl sizeOf38 rfl rfl
theorem eqv_27 (d : Nat) (x y : api_Wide) : EqV Try.prog (d + 2) 27 (Ag x.cs) (Ag y.cs) (decide (x = y)) :=
  EqV.cast (.array (by kernel_rfl) sizeOf25 (.cons (.one isAgg25 rfl) (.one isAgg25 rfl) (EqV.u (by kernel_rfl)) (.cons (.one isAgg25 rfl) (.one isAgg25 rfl) (EqV.u (by kernel_rfl)) (.cons (.one isAgg25 rfl) (.one isAgg25 rfl) (EqV.u (by kernel_rfl)) (.cons (.one isAgg25 rfl) (.one isAgg25 rfl) (EqV.u (by kernel_rfl)) .nil))))) (by cases x; cases y; rw [Bool.eq_iff_iff]; simp [api_Wide.mk.injEq, and_assoc])
theorem eq_27_eql (x y : api_Wide) : BinV Try.prog .eql 27 (Ag x.cs) (Ag y.cs) (Bo (decide (x = y))) := .eqv (by kernel_rfl) (eqv_27 9998 x y)
theorem eq_27_neq (x y : api_Wide) : BinV Try.prog .neq 27 (Ag x.cs) (Ag y.cs) (Bo (decide (x ≠ y))) := by
  have := BinV.neqv (P := Try.prog) (by kernel_rfl) (eqv_27 9998 x y); rw [← decide_not'] at this; exact this
theorem eqv_32 (d : Nat) (x y : api_Inv) : EqV Try.prog (d + 2) 32 (Ag x.cs) (Ag y.cs) (decide (x = y)) :=
  EqV.cast (.struct (fs := [{ name := "User", type := 3, offset := 0, embedded := false, tag := "", pkgPath := "", byteOffset := 0 }, { name := "Root", type := 9, offset := 1, embedded := false, tag := "", pkgPath := "", byteOffset := 8 }, { name := "Router", type := 3, offset := 2, embedded := false, tag := "", pkgPath := "", byteOffset := 24 }, { name := "Send", type := 3, offset := 3, embedded := false, tag := "", pkgPath := "", byteOffset := 32 }, { name := "Recv", type := 3, offset := 4, embedded := false, tag := "", pkgPath := "", byteOffset := 40 }, { name := "To", type := 3, offset := 5, embedded := false, tag := "", pkgPath := "", byteOffset := 48 }, { name := "Id", type := 9, offset := 6, embedded := false, tag := "", pkgPath := "", byteOffset := 56 }]) (by kernel_rfl) (by kernel_rfl) (.cons rfl (.one isAgg3 rfl) (.one isAgg3 rfl) (EqV.int (by kernel_rfl)) (.cons rfl (.one isAgg9 rfl) (.one isAgg9 rfl) (EqV.str (by kernel_rfl)) (.cons rfl (.one isAgg3 rfl) (.one isAgg3 rfl) (EqV.int (by kernel_rfl)) (.cons rfl (.one isAgg3 rfl) (.one isAgg3 rfl) (EqV.int (by kernel_rfl)) (.cons rfl (.one isAgg3 rfl) (.one isAgg3 rfl) (EqV.int (by kernel_rfl)) (.cons rfl (.one isAgg3 rfl) (.one isAgg3 rfl) (EqV.int (by kernel_rfl)) (.cons rfl (.one isAgg9 rfl) (.one isAgg9 rfl) (EqV.str (by kernel_rfl)) .nil)))))))) (by cases x; cases y; rw [Bool.eq_iff_iff]; simp [api_Inv.mk.injEq, and_assoc])
theorem eq_32_eql (x y : api_Inv) : BinV Try.prog .eql 32 (Ag x.cs) (Ag y.cs) (Bo (decide (x = y))) := .eqv (by kernel_rfl) (eqv_32 9998 x y)
theorem eq_32_neq (x y : api_Inv) : BinV Try.prog .neq 32 (Ag x.cs) (Ag y.cs) (Bo (decide (x ≠ y))) := by
  have := BinV.neqv (P := Try.prog) (by kernel_rfl) (eqv_32 9998 x y); rw [← decide_not'] at this; exact this
theorem eqv_34 (d : Nat) (x y : api_Var) : EqV Try.prog (d + 3) 34 (Ag x.cs) (Ag y.cs) (decide (x = y)) :=
  EqV.cast (.struct (fs := [{ name := "Amount", type := 27, offset := 0, embedded := false, tag := "", pkgPath := "", byteOffset := 0 }, { name := "Expiry", type := 3, offset := 4, embedded := false, tag := "", pkgPath := "", byteOffset := 32 }]) (by kernel_rfl) (by kernel_rfl) (.cons rfl (.agg isAgg27 sizeOf27 (by kernel_rfl)) (.agg isAgg27 sizeOf27 (by kernel_rfl)) (eqv_27 _ x.Amount y.Amount) (.cons rfl (.one isAgg3 rfl) (.one isAgg3 rfl) (EqV.int (by kernel_rfl)) .nil))) (by cases x; cases y; rw [Bool.eq_iff_iff]; simp [api_Var.mk.injEq, and_assoc])
theorem eq_34_eql (x y : api_Var) : BinV Try.prog .eql 34 (Ag x.cs) (Ag y.cs) (Bo (decide (x = y))) := .eqv (by kernel_rfl) (eqv_34 9997 x y)
theorem eq_34_neq (x y : api_Var) : BinV Try.prog .neq 34 (Ag x.cs) (Ag y.cs) (Bo (decide (x ≠ y))) := by
  have := BinV.neqv (P := Try.prog) (by kernel_rfl) (eqv_34 9997 x y); rw [← decide_not'] at this; exact this
theorem eqv_36 (d : Nat) (x y : api_Tx) : EqV Try.prog (d + 4) 36 (Ag x.cs) (Ag y.cs) (decide (x = y)) :=
  EqV.cast (.struct (fs := [{ name := "From", type := 3, offset := 0, embedded := false, tag := "", pkgPath := "", byteOffset := 0 }, { name := "Nonce", type := 3, offset := 1, embedded := false, tag := "", pkgPath := "", byteOffset := 8 }, { name := "Kind", type := 3, offset := 2, embedded := false, tag := "", pkgPath := "", byteOffset := 16 }, { name := "Asset", type := 3, offset := 3, embedded := false, tag := "", pkgPath := "", byteOffset := 24 }, { name := "Amount", type := 27, offset := 4, embedded := false, tag := "", pkgPath := "", byteOffset := 32 }, { name := "Inv", type := 32, offset := 8, embedded := false, tag := "", pkgPath := "", byteOffset := 64 }, { name := "Var", type := 34, offset := 15, embedded := false, tag := "", pkgPath := "", byteOffset := 136 }, { name := "Fee", type := 27, offset := 20, embedded := false, tag := "", pkgPath := "", byteOffset := 176 }, { name := "Sig", type := 9, offset := 24, embedded := false, tag := "", pkgPath := "", byteOffset := 208 }]) (by kernel_rfl) (by kernel_rfl) (.cons rfl (.one isAgg3 rfl) (.one isAgg3 rfl) (EqV.int (by kernel_rfl)) (.cons rfl (.one isAgg3 rfl) (.one isAgg3 rfl) (EqV.int (by kernel_rfl)) (.cons rfl (.one isAgg3 rfl) (.one isAgg3 rfl) (EqV.int (by kernel_rfl)) (.cons rfl (.one isAgg3 rfl) (.one isAgg3 rfl) (EqV.int (by kernel_rfl)) (.cons rfl (.agg isAgg27 sizeOf27 (by kernel_rfl)) (.agg isAgg27 sizeOf27 (by kernel_rfl)) (eqv_27 _ x.Amount y.Amount) (.cons rfl (.agg isAgg32 sizeOf32 (by kernel_rfl)) (.agg isAgg32 sizeOf32 (by kernel_rfl)) (eqv_32 _ x.Inv y.Inv) (.cons rfl (.agg isAgg34 sizeOf34 (by kernel_rfl)) (.agg isAgg34 sizeOf34 (by kernel_rfl)) (eqv_34 _ x.Var y.Var) (.cons rfl (.agg isAgg27 sizeOf27 (by kernel_rfl)) (.agg isAgg27 sizeOf27 (by kernel_rfl)) (eqv_27 _ x.Fee y.Fee) (.cons rfl (.one isAgg9 rfl) (.one isAgg9 rfl) (EqV.str (by kernel_rfl)) .nil)))))))))) (by cases x; cases y; rw [Bool.eq_iff_iff]; simp [api_Tx.mk.injEq, and_assoc])
theorem eq_36_eql (x y : api_Tx) : BinV Try.prog .eql 36 (Ag x.cs) (Ag y.cs) (Bo (decide (x = y))) := .eqv (by kernel_rfl) (eqv_36 9996 x y)
theorem eq_36_neq (x y : api_Tx) : BinV Try.prog .neq 36 (Ag x.cs) (Ag y.cs) (Bo (decide (x ≠ y))) := by
  have := BinV.neqv (P := Try.prog) (by kernel_rfl) (eqv_36 9996 x y); rw [← decide_not'] at this; exact this
theorem eqv_38 (d : Nat) (x y : api_Event) : EqV Try.prog (d + 5) 38 (Ag x.cs) (Ag y.cs) (decide (x = y)) :=
  EqV.cast (.struct (fs := [{ name := "Time", type := 3, offset := 0, embedded := false, tag := "", pkgPath := "", byteOffset := 0 }, { name := "Code", type := 30, offset := 1, embedded := false, tag := "", pkgPath := "", byteOffset := 8 }, { name := "Tx", type := 36, offset := 2, embedded := false, tag := "", pkgPath := "", byteOffset := 16 }]) (by kernel_rfl) (by kernel_rfl) (.cons rfl (.one isAgg3 rfl) (.one isAgg3 rfl) (EqV.int (by kernel_rfl)) (.cons rfl (.one isAgg30 rfl) (.one isAgg30 rfl) (EqV.int (by kernel_rfl)) (.cons rfl (.agg isAgg36 sizeOf36 (by kernel_rfl)) (.agg isAgg36 sizeOf36 (by kernel_rfl)) (eqv_36 _ x.Tx y.Tx) .nil)))) (by cases x; cases y; rw [Bool.eq_iff_iff]; simp [api_Event.mk.injEq, and_assoc])
theorem eq_38_eql (x y : api_Event) : BinV Try.prog .eql 38 (Ag x.cs) (Ag y.cs) (Bo (decide (x = y))) := .eqv (by kernel_rfl) (eqv_38 9995 x y)
theorem eq_38_neq (x y : api_Event) : BinV Try.prog .neq 38 (Ag x.cs) (Ag y.cs) (Bo (decide (x ≠ y))) := by
  have := BinV.neqv (P := Try.prog) (by kernel_rfl) (eqv_38 9995 x y); rw [← decide_not'] at this; exact this
theorem eqv_72 (d : Nat) (x y : clock_Stamp) : EqV Try.prog (d + 6) 72 (Ag x.cs) (Ag y.cs) (decide (x = y)) :=
  EqV.cast (.struct (fs := [{ name := "Tick", type := 3, offset := 0, embedded := false, tag := "", pkgPath := "", byteOffset := 0 }, { name := "Side", type := 3, offset := 1, embedded := false, tag := "", pkgPath := "", byteOffset := 8 }, { name := "Event", type := 38, offset := 2, embedded := false, tag := "", pkgPath := "", byteOffset := 16 }]) (by kernel_rfl) (by kernel_rfl) (.cons rfl (.one isAgg3 rfl) (.one isAgg3 rfl) (EqV.int (by kernel_rfl)) (.cons rfl (.one isAgg3 rfl) (.one isAgg3 rfl) (EqV.int (by kernel_rfl)) (.cons rfl (.agg isAgg38 sizeOf38 (by kernel_rfl)) (.agg isAgg38 sizeOf38 (by kernel_rfl)) (eqv_38 _ x.Event y.Event) .nil)))) (by cases x; cases y; rw [Bool.eq_iff_iff]; simp [clock_Stamp.mk.injEq, and_assoc])
theorem eq_72_eql (x y : clock_Stamp) : BinV Try.prog .eql 72 (Ag x.cs) (Ag y.cs) (Bo (decide (x = y))) := .eqv (by kernel_rfl) (eqv_72 9994 x y)
theorem eq_72_neq (x y : clock_Stamp) : BinV Try.prog .neq 72 (Ag x.cs) (Ag y.cs) (Bo (decide (x ≠ y))) := by
  have := BinV.neqv (P := Try.prog) (by kernel_rfl) (eqv_72 9994 x y); rw [← decide_not'] at this; exact this
noncomputable def narrowslaw36_alive  : Bool :=
  thn (if (decide (((clock_Ticks 1000 0 0)) = 0)) = true then (decide (((clock_Ticks 1012 1 5)) = 7)) else false) fun (y1 : Bool) => y1
set_option maxRecDepth 20000 in
set_option maxHeartbeats 1000000 in
theorem S_narrowslaw36_alive  (r : Bool) (h : narrowslaw36_alive  = r) :
    SpecF Try.prog 29 [] [] [] (fun _ : Unit => True) (fun z => Bo r) (fun z M =>  M) (fun z M =>  M) := by
  refine .of func29 rfl ntmps29 rfl fun w0 D0 G0 => ?_
  unfold narrowslaw36_alive at h
  refine .seq ?_
  refine .reg rfl ?_
  refine .op0 (OpP.toV (P.asg .k)) rfl ?_
  refine .nil ?_
  refine .then ?_
  obtain ⟨y1, hj3, h⟩ := thn_eq h
  refine .cutx (γ := Unit) (E1 := fun z2 => [(0, Bo y1)]) (L1 := fun z2 => []) (R1 := fun z2 => []) ?_ (fun z2 => ?_)
  · clear h
    refine .reg rfl ?_
    refine .opg (G.call call32 (.cons .k (.cons .k (.cons .k .nil))) (S_clock_Ticks 1000 0 0 _ rfl) .nil .nil (fun _ _ => rfl) (fun _ _ => rfl) rfl) rfl fun _ _ => ?_
    refine .opp (P.bin .t0 .k .eql) rfl ?_
    refine .opp (P.mov .t0) rfl ?_
    refine .split .k0 (fun c4 => ?_) (fun c4 => ?_)
    · rw [if_pos c4] at hj3
      refine .gyes rfl .g0 ?_
      refine .opg (G.call call32 (.cons .k (.cons .k (.cons .k .nil))) (S_clock_Ticks 1012 1 5 _ rfl) .nil .nil (fun _ _ => rfl) (fun _ _ => rfl) rfl) rfl fun _ _ => ?_
      refine .gyes rfl .g1 ?_
      refine .opp (P.bin .t0 .k .eql) rfl ?_
      refine .opp (P.pickT .t1 .t0) rfl ?_
      refine .opp (P.asg .t0) rfl ?_
      refine .nil ?_
      subst hj3
      exact .stj () (.cons Mm.m0 .nil) (.of .nil) .nil
    · rw [if_neg (ne_true_of_eq_false c4)] at hj3
      refine .gno rfl .g0 rfl rfl ?_
      refine .gno rfl .g0 rfl rfl ?_
      refine .opp (P.pickF .t0 .k) rfl ?_
      refine .opp (P.asg .t0) rfl ?_
      refine .nil ?_
      subst hj3
      exact .stj () (.cons Mm.m0 .nil) (.of .nil) .nil
  · clear hj3
    refine .ret ?_
    subst h
    exact .finw () (.r1 rfl (.tmp .g0)) trivial (Ls.of .nil) .nil
attribute [irreducible] narrowslaw36_alive
noncomputable def narrowslaw36_ticks (a0 : Int) (a1 : Int) (a2 : Int) : Int :=
  thn (if (decide (a1 = 1)) = true then (IntKind.i64.wrap ((IntKind.i64.wrap ((if 1099511627776 < if 0 > a0 then 0 else a0 then 1099511627776 else if 0 > a0 then 0 else a0) - 1000)) - (if 100 < if (-100) > a2 then (-100) else a2 then 100 else if (-100) > a2 then (-100) else a2))) else (IntKind.i64.wrap ((if 1099511627776 < if 0 > a0 then 0 else a0 then 1099511627776 else if 0 > a0 then 0 else a0) - 1000))) fun (y1 : Int) => y1
set_option maxRecDepth 20000 in
set_option maxHeartbeats 1000000 in
theorem S_narrowslaw36_ticks (a0 : Int) (a1 : Int) (a2 : Int) (r : Int) (h : narrowslaw36_ticks a0 a1 a2 = r) :
    SpecF Try.prog 31 [N a0, N a1, N a2] [] [] (fun _ : Unit => True) (fun z => N r) (fun z M =>  M) (fun z M =>  M) := by
  refine .of func31 rfl ntmps31 rfl fun w0 D0 G0 => ?_
  unfold narrowslaw36_ticks at h
  refine .seq ?_
  refine .reg rfl ?_
  refine .op0 (OpP.toV (P.asg .k)) rfl ?_
  refine .nil ?_
  refine .then ?_
  refine .seq ?_
  refine .reg rfl ?_
  refine .opp (P.mov .t0) rfl ?_
  refine .opp (P.max2 .t0 .k) rfl ?_
  refine .opp (P.min2 .t0 .k) rfl ?_
  refine .opp (P.bin .t0 .k .sub) rfl ?_
  refine .opp (P.asg .t0) rfl ?_
  refine .nil ?_
  refine .then ?_
  obtain ⟨y1, hj3, h⟩ := thn_eq h
  refine .cutx (γ := Unit) (E1 := fun z2 => [(7, N y1)]) (L1 := fun z2 => []) (R1 := fun z2 => []) ?_ (fun z2 => ?_)
  · clear h
    refine .seq ?_
    refine .reg rfl ?_
    refine .opp (P.mov .t1) rfl ?_
    refine .opp (P.bin .t0 .k .eql) rfl ?_
    refine .nil ?_
    refine .then ?_
    refine .cond .t0 (fun c4 => ?_) (fun c4 => ?_)
    · rw [if_pos c4] at hj3
      refine .reg rfl ?_
      refine .opp (P.mov .g0) rfl ?_
      refine .opp (P.mov .t2) rfl ?_
      refine .opp (P.max2 .t0 .k) rfl ?_
      refine .opp (P.min2 .t0 .k) rfl ?_
      refine .opp (P.bin .t1 .t0 .sub) rfl ?_
      refine .drop .k1 ?_
      refine .opp (P.asg .t0) rfl ?_
      refine .nil ?_
      subst hj3
      exact .stj () (.cons Mm.m0 .nil) (.of .nil) .nil
    · rw [if_neg (ne_true_of_eq_false c4)] at hj3
      refine .skip ?_
      subst hj3
      exact .stj () (.cons Mm.m0 .nil) (.of .nil) .nil
  · clear hj3
    refine .seq ?_
    refine .reg rfl ?_
    refine .opp (P.mov .t0) rfl ?_
    refine .opp (P.asg .t0) rfl ?_
    refine .nil ?_
    refine .then ?_
    refine .ret ?_
    subst h
    exact .finw () (.r1 rfl (.tmp .g0)) trivial (Ls.of .nil) .nil
attribute [irreducible] narrowslaw36_ticks
noncomputable def clock_Gaps (a0 : List clock_Stamp) : Option (Int) :=
  Option.bind (loopW (fun (s1 : Int × Int) => if (decide (s1.1 < ((a0.length : Int)))) = true then (Option.bind (at_ a0 s1.1) fun (x14 : clock_Stamp) => Option.bind (at_ a0 (IntKind.i64.wrap (s1.1 - 1))) fun (x21 : clock_Stamp) => some (.nx ((IntKind.i64.wrap (s1.1 + 1), if IntKind.i64.wrap (x14.Tick - x21.Tick) > s1.2 then IntKind.i64.wrap (x14.Tick - x21.Tick) else s1.2)))) else (some (.br (s1.1, s1.2)))) (1, 0)) fun o3 => Lo.on o3 fun (s1 : Int × Int) => some s1.2
set_option maxRecDepth 20000 in
set_option maxHeartbeats 1000000 in
theorem S_clock_Gaps (v00 : Value) (a0 : List clock_Stamp) (r : Int) (h : clock_Gaps a0 = some r) :
    SpecF Try.prog 34 [v00] [] [rows 29 v00 (a0.map clock_Stamp.cs)] (fun _ : Unit => True) (fun z => N r) (fun z M =>  M) (fun z M =>  M) := by
  refine .of func34 rfl ntmps34 rfl fun w0 D0 G0 => ?_
  unfold clock_Gaps at h
  refine .seq ?_
  refine .reg rfl ?_
  refine .op0 (OpP.toV (P.asg .k)) rfl ?_
  refine .nil ?_
  refine .then ?_
  refine .seq ?_
  refine .reg rfl ?_
  refine .opp (P.asg .k) rfl ?_
  refine .nil ?_
  refine .then ?_
  refine .seq ?_
  refine .seq ?_
  refine .reg rfl ?_
  refine .opp (P.asg .k) rfl ?_
  refine .nil ?_
  refine .then ?_
  refine .block ?_
  obtain ⟨o3, ho4, h⟩ := bnd_eq h
  refine .loopW (γ := Unit) (fun (s1 : Int × Int) z2 => [(4, N s1.1), (3, N s1.2), (0, v00)]) (fun (s1 : Int × Int) z2 => []) (fun (s1 : Int × Int) z2 => [rows 29 v00 (a0.map clock_Stamp.cs)]) () ho4 (.cons Mm.m0 (.cons Mm.m1 (.cons Mm.m2 .nil))) (.of .nil) (.cons Mm.m0 .nil) (fun n9 s1 z2 hr7 => ?_)
  obtain ⟨ct8, hc5, hn6⟩ := loopK_at hr7
  refine .seq ?_
  refine .seq ?_
  refine .reg rfl ?_
  refine .opp (P.mov .g0) rfl ?_
  refine .opp (P.mov .g3) rfl ?_
  refine .op (V.lnr (n := a0.length) .t0 Mm.m0 map_len runUnderlying68) rfl ?_
  refine .opp (P.bin .t1 .t0 .lss) rfl ?_
  refine .nil ?_
  refine .then ?_
  refine .cond .t0 (fun c10 => ?_) (fun c10 => ?_)
  · rw [if_pos c10] at hc5
    refine .skip ?_
    refine .then ?_
    refine .seq ?_
    refine .block ?_
    refine .draw 15 (.on 0 .pu (.on 1 .pu (.on 2 .pu (.on 3 .pu (.on 4 .pu (.on 6 .pu (.on 7 .pu (.on 8 .pu (.on 9 .pu (.on 10 .pu (.on 5 .ld (.on 11 .ld (.on 12 .pu (.on 13 .pu (.on 14 .go .nl))))))))))))))) follows_mixed (.inb (.thn (.thn (.inb (.thn .body))))) (by kernel_rfl) ?_
    refine .dpu rfl (.n rfl) (P.mov .g1) rfl rfl ?_
    refine .dpu rfl (.n rfl) (P.mov .g3) rfl rfl ?_
    refine .dpu rfl (.n rfl) (P.mov .g2) rfl rfl ?_
    obtain ⟨x14, hx15, hc5⟩ := bnd_eq hc5
    obtain ⟨i16, hi17, hx15⟩ := at_eq hx15
    have hi17_ : (s1.1).toNat = i16 := by rw [hi17]; rfl
    refine .ixq Mm.m0 (map_get hx15) fun p11 q12 hq13 => ?_
    refine .dpu rfl (.n rfl) (P.ixi (i := i16) .t0 hi17 .t0 hq13 runUnderlying68 sizeOf72) rfl rfl ?_
    refine .dpu rfl (.n rfl) (P.fa (off' := q12) .t0 fa_72_0 rfl) rfl rfl ?_
    refine .dpu rfl (.n rfl) (P.mov .g4) rfl rfl ?_
    refine .dpu rfl (.n rfl) (P.mov .g3) rfl rfl ?_
    refine .dpu rfl (.n rfl) (P.bin .t0 .k .sub) rfl rfl ?_
    obtain ⟨x21, hx22, hc5⟩ := bnd_eq hc5
    obtain ⟨i23, hi24, hx22⟩ := at_eq hx22
    have hi24_ : (IntKind.i64.wrap (s1.1 - 1)).toNat = i23 := by rw [hi24]; rfl
    refine .ixq Mm.m0 (map_get hx22) fun p18 q19 hq20 => ?_
    refine .dpu rfl (.n rfl) (P.ixi (i := i23) .t0 hi24 .t0 hq20 runUnderlying68 sizeOf72) rfl rfl ?_
    refine .dpu rfl (.n rfl) (P.fa (off' := q19) .t0 fa_72_0 rfl) rfl rfl ?_
    refine .dld rfl (.n rfl) (V.ldx0 (u := N x14.Tick) .t1 hq13 Mm.m0 (map_get hx15) (.one isAgg3 rfl)) (fun _ h => h) rfl rfl ?_
    refine .dld rfl (.n rfl) (V.ldx0 (u := N x21.Tick) .t1 hq20 Mm.m0 (map_get hx22) (.one isAgg3 rfl)) (fun _ h => h) rfl rfl ?_
    refine .dpu rfl (.n rfl) (P.bin .t1 .t0 .sub) rfl rfl ?_
    refine .dpu rfl (.n rfl) (P.max2 .t1 .t0) rfl rfl ?_
    refine .drop .k2 ?_
    refine .dgo rfl (.n rfl) (OpV.g (OpP.toV (P.asg .t0)) rfl) (.inr fun _ _ _ h => h) fun _ _ => ?_
    refine .dnil ?_
    refine .inn ?_
    refine .then ?_
    refine .reg rfl ?_
    refine .opp (P.mov .g1) rfl ?_
    refine .opp (P.bin .t0 .k .add) rfl ?_
    refine .drop .k2 ?_
    refine .opp (P.asg .t0) rfl ?_
    refine .nil ?_
    cases hc5
    obtain ⟨m25, hm26, hn6⟩ := hn6
    exact .rdW ((IntKind.i64.wrap (s1.1 + 1), if IntKind.i64.wrap (x14.Tick - x21.Tick) > s1.2 then IntKind.i64.wrap (x14.Tick - x21.Tick) else s1.2)) () hm26 hn6 (.cons Mm.m0 (.cons Mm.m1 (.cons Mm.m2 .nil))) (.of .nil) (.cons Mm.m0 .nil)
  · rw [if_neg (ne_true_of_eq_false c10)] at hc5
    refine .exit ?_
    refine .thx ?_
    cases hc5
    refine .told (γ := Unit) h hn6 (fun (s1 : Int × Int) _ => [(4, N s1.1), (3, N s1.2), (0, v00)]) (fun (s1 : Int × Int) _ => []) (fun (s1 : Int × Int) _ => [rows 29 v00 (a0.map clock_Stamp.cs)]) () (.cons Mm.m0 (.cons Mm.m1 (.cons Mm.m2 .nil))) (.of .nil) (.cons Mm.m0 .nil) (fun s1 _ h' => ?_)
    replace h := h'
    refine .thx ?_
    refine .inb ?_
    refine .then ?_
    refine .seq ?_
    refine .reg rfl ?_
    refine .opp (P.mov .t1) rfl ?_
    refine .opp (P.asg .t0) rfl ?_
    refine .nil ?_
    refine .then ?_
    refine .ret ?_
    cases h
    exact .finw () (.r1 rfl (.tmp .g0)) trivial (Ls.of .nil) .nil
attribute [irreducible] clock_Gaps
noncomputable def slices_Clone_i81 (a0 : List clock_Stamp) : Option ((List clock_Stamp)) :=
  grd ((([] : List clock_Stamp).length + a0.length) * 256 ≤ 140737488355328) <| some (((([] : List clock_Stamp) ++ a0)))
set_option maxRecDepth 20000 in
set_option maxHeartbeats 1000000 in
theorem S_slices_Clone_i81 (v00 : Value) (a0 : List clock_Stamp) (r : (List clock_Stamp)) (h : slices_Clone_i81 a0 = some r) :
    SpecF Try.prog 81 [v00] [] [rows 29 v00 (a0.map clock_Stamp.cs)] (fun _ : Value => True) (fun z => z) (fun z M => lst 72 29 z (r.map clock_Stamp.cs) ::  M) (fun z M =>  M) := by
  refine .of func81 rfl ntmps81 rfl fun w0 D0 G0 => ?_
  unfold slices_Clone_i81 at h
  refine .seq ?_
  refine .reg rfl ?_
  refine .op0 (OpP.toV (P.asg .k)) rfl ?_
  refine .nil ?_
  refine .then ?_
  refine .seq ?_
  refine .seq ?_
  refine .reg rfl ?_
  refine .opp (P.mov .g0) rfl ?_
  refine .opg (G.nilr (e := 72) .t0 Mm.m0 (by kernel_rfl) rfl) rfl fun n1 hz2 => ?_
  refine .nil ?_
  refine .then ?_
  refine .cond .t0 (fun c3 => ?_) (fun c3 => ?_)
  · have hx7 : a0 = [] := by simpa using hz2 c3
    replace h : some ([] : List clock_Stamp) = some r := by rw [hx7] at h; simpa [grd] using h
    refine .seq ?_
    refine .reg rfl ?_
    refine .opp (P.asg .k) rfl ?_
    refine .nil ?_
    refine .then ?_
    refine .ret ?_
    refine .thr ?_
    cases h
    refine .lnil 72 29 ?_
    exact .finw nilSl (.r1 rfl (.tmp .g0)) trivial (Ls.of (.cons .k0 .nil)) .nil
  · refine .skip ?_
    refine .then ?_
    refine .seq ?_
    refine .reg rfl ?_
    refine .opg (G.bsl0 runUnderlying68 sizeOf72 rfl) rfl fun u4 _ => ?_
    refine .opp (P.mov .t1) rfl ?_
    obtain ⟨hb6, h⟩ := grd_eq h
    refine .opg (G.app (by_ := 256) .t1 .t0 .k0 (.inl Mm.m0) runUnderlying68 runUnderlying68 sizeOf72 typeInfo72 rfl rfl zeroValue72 rfl (one_map one_72 _) (by simpa using hb6) rfl) rfl fun u5 _ => ?_
    refine .conseq .k0 (q := lst 72 29 u5 (((([] : List clock_Stamp) ++ a0)).map clock_Stamp.cs)) (fun _ hh => by simpa [List.map_append] using hh) ?_
    refine .opp (P.asg .t0) rfl ?_
    refine .nil ?_
    refine .then ?_
    refine .ret ?_
    cases h
    exact .finw u5 (.r1 rfl (.tmp .g0)) trivial (Ls.of (.cons .k0 .nil)) .nil
attribute [irreducible] slices_Clone_i81
noncomputable def clock_Between_1_c (a0 : clock_Stamp) (a1 : Int) (a2 : Int) : Bool :=
  thn (if (decide (a0.Tick < a1)) = true then true else (decide (a0.Tick ≥ a2))) fun (y2 : Bool) => y2
set_option maxRecDepth 20000 in
set_option maxHeartbeats 1000000 in
theorem S_clock_Between_1_c (a0 : clock_Stamp) (b01 : Nat) (a1 : Int) (b02 : Nat) (a2 : Int) (r : Bool) (h : clock_Between_1_c a0 a1 a2 = r) :
    SpecF Try.prog 82 [Ag (clock_Stamp.cs a0), pt b01 0, pt b02 0] [blk b01 3 [N a1], blk b02 3 [N a2]] [] (fun _ : Unit => True) (fun z => Bo r) (fun z M => blk b01 3 [N a1] :: blk b02 3 [N a2] ::  M) (fun z M =>  M) := by
  refine .of func82 rfl ntmps82 rfl fun w0 D0 G0 => ?_
  unfold clock_Between_1_c at h
  refine .seq ?_
  refine .reg rfl ?_
  refine .opx (X.box (cs := (clock_Stamp.cs a0)) .t0 rfl) rfl fun b1 => ?_
  refine .op0 (OpP.toV (P.asg .k)) rfl ?_
  refine .nil ?_
  refine .then ?_
  obtain ⟨y2, hj4, h⟩ := thn_eq h
  refine .cutx (γ := Unit) (E1 := fun z3 => [(4, Bo y2)]) (L1 := fun z3 => [blk b01 3 [N a1], blk b02 3 [N a2]]) (R1 := fun z3 => []) ?_ (fun z3 => ?_)
  · clear h
    refine .reg rfl ?_
    refine .opp (P.fa .g0 fa_72_0 rfl) rfl ?_
    refine .op (V.ld (v := N a0.Tick) .t0 .k0 (.one isAgg3 rfl)) rfl ?_
    refine .op (V.ld (v := N a1) .t2 .k1 (.one isAgg3 rfl)) rfl ?_
    refine .opp (P.bin .t1 .t0 .lss) rfl ?_
    refine .opp (P.mov .t0) rfl ?_
    refine .split .k0 (fun c5 => ?_) (fun c5 => ?_)
    · rw [if_pos c5] at hj4
      refine .gno rfl .g0 rfl rfl ?_
      refine .gno rfl .g0 rfl rfl ?_
      refine .gno rfl .g0 rfl rfl ?_
      refine .gno rfl .g0 rfl rfl ?_
      refine .opp (P.pickT .t0 .k) rfl ?_
      refine .opp (P.asg .t0) rfl ?_
      refine .nil ?_
      subst hj4
      exact .stj () (.cons Mm.m0 .nil) (.of (.cons .k1 (.cons .k1 .nil))) .nil
    · rw [if_neg (ne_true_of_eq_false c5)] at hj4
      refine .gyes rfl .g0 ?_
      refine .opp (P.fa .t1 fa_72_0 rfl) rfl ?_
      refine .gyes rfl .g1 ?_
      refine .op (V.ld (v := N a0.Tick) .t0 .k0 (.one isAgg3 rfl)) rfl ?_
      refine .gyes rfl .g1 ?_
      refine .op (V.ld (v := N a2) .t2 .k2 (.one isAgg3 rfl)) rfl ?_
      refine .gyes rfl .g2 ?_
      refine .opp (P.bin .t1 .t0 .geq) rfl ?_
      refine .opp (P.pickF .t1 .t0) rfl ?_
      refine .opp (P.asg .t0) rfl ?_
      refine .nil ?_
      subst hj4
      exact .stj () (.cons Mm.m0 .nil) (.of (.cons .k1 (.cons .k1 .nil))) .nil
  · clear hj4
    refine .ret ?_
    subst h
    exact .finw () (.r1 rfl (.tmp .g0)) trivial (Ls.of (.cons .k0 (.cons .k0 .nil))) .nil
attribute [irreducible] clock_Between_1_c
noncomputable def slices_IndexFunc_i131_f82 (a0 : List clock_Stamp) (a1a : Int) (a1b : Int) : Option (Int) :=
  Option.bind (loopR (fun (i1 : Nat) (e4 : clock_Stamp) (s2 : Unit) => if ((clock_Between_1_c e4 a1a a1b)) = true then (Option.map Ct.rt (some (i1 : Int))) else (some (.nx ()))) 0 a0 ()) fun o5 => Lo.on o5 fun (s2 : Unit) => some (-1)
set_option maxRecDepth 20000 in
set_option maxHeartbeats 1000000 in
theorem S_slices_IndexFunc_i131_f82 (v00 : Value) (a0 : List clock_Stamp) (b01a : Nat) (a1a : Int) (b01b : Nat) (a1b : Int) (r : Int) (h : slices_IndexFunc_i131_f82 a0 a1a a1b = some r) :
    SpecF Try.prog 131 [v00, fnv 82 [pt b01a 0, pt b01b 0]] [blk b01a 3 [N a1a], blk b01b 3 [N a1b]] [rows 29 v00 (a0.map clock_Stamp.cs)] (fun _ : Unit => True) (fun z => N r) (fun z M => blk b01a 3 [N a1a] :: blk b01b 3 [N a1b] ::  M) (fun z M =>  M) := by
  refine .of func131 rfl ntmps131 rfl fun w0 D0 G0 => ?_
  unfold slices_IndexFunc_i131_f82 at h
  refine .seq ?_
  refine .reg rfl ?_
  refine .op0 (OpP.toV (P.asg .k)) rfl ?_
  refine .nil ?_
  refine .then ?_
  refine .seq ?_
  refine .seq ?_
  refine .reg rfl ?_
  refine .opp (P.mov .g0) rfl ?_
  refine .op (V.lnr (n := a0.length) .t0 Mm.m0 map_len runUnderlying68) rfl ?_
  refine .opp (P.mov .k) rfl ?_
  refine .nil ?_
  refine .then ?_
  refine .block ?_
  obtain ⟨o5, ho6, h⟩ := bnd_eq h
  refine .lenq Mm.m0 fun hl12 => ?_
  rw [map_len] at hl12
  refine .loopR (γ := Unit) (fun i1 (s2 : Unit) z3 => [(8, N ((i1 : Int))), (7, N ((a0.length : Int))), (0, v00), (1, fnv 82 [pt b01a 0, pt b01b 0])]) (fun (s2 : Unit) z3 => [blk b01a 3 [N a1a], blk b01b 3 [N a1b]]) (fun (s2 : Unit) z3 => [rows 29 v00 (a0.map clock_Stamp.cs)]) () ho6 (.cons Mm.m0 (.cons Mm.m1 (.cons Mm.m2 (.cons Mm.m3 .nil)))) (.of (.cons .k0 (.cons .k0 .nil))) (.cons Mm.m0 .nil) (fun i1 s2 z3 hi13 hr9 => ?_)
  refine .seq ?_
  refine .reg rfl ?_
  refine .opp (P.bin (v := Bo (decide ((i1 : Int) < (a0.length : Nat)))) .g0 .g1 .lss) rfl ?_
  refine .nil ?_
  refine .then ?_
  refine .seq ?_
  refine .cond .t0 (fun c14 => ?_) (fun c14 => ?_)
  · obtain ⟨e4, hx11⟩ := get_of c14
    obtain ⟨ct10, hc7, hn8⟩ := loopR_at hx11 hr9
    refine .skip ?_
    refine .then ?_
    refine .seq ?_
    refine .block ?_
    refine .seq ?_
    refine .reg rfl ?_
    refine .opp (P.mov .g0) rfl ?_
    refine .opp (P.asg .t0) rfl ?_
    refine .nil ?_
    refine .then ?_
    refine .seq ?_
    refine .reg rfl ?_
    refine .opp (P.mov .g4) rfl ?_
    refine .opp (P.mov .g4) rfl ?_
    refine .opp (P.mov .g2) rfl ?_
    refine .ixq Mm.m0 (map_get hx11) fun p15 q16 hq17 => ?_
    refine .opp (P.ixi (i := i1) .t0 rfl .t0 hq17 runUnderlying68 sizeOf72) rfl ?_
    refine .op (V.ldx0 (u := Ag (clock_Stamp.cs e4)) .t0 hq17 Mm.m0 (map_get hx11) (.agg isAgg72 sizeOf72 rfl rfl)) rfl ?_
    refine .opg (G.callv call82 .t1 (.cons .t0 .nil) (S_clock_Between_1_c e4 b01a a1a b01b a1b _ rfl) (.cons .k0 (.cons .k0 .nil)) .nil (fun _ _ => rfl) (fun _ _ => rfl) rfl) rfl fun _ _ => ?_
    refine .nil ?_
    refine .then ?_
    refine .cond .t0 (fun c18 => ?_) (fun c18 => ?_)
    · rw [if_pos c18] at hc7
      refine .seq ?_
      refine .reg rfl ?_
      refine .opp (P.mov .t0) rfl ?_
      refine .opp (P.asg .t0) rfl ?_
      refine .nil ?_
      refine .then ?_
      refine .ret ?_
      refine .inr ?_
      refine .thr ?_
      obtain ⟨x19, hx20, rfl⟩ := map_rt hc7
      obtain rfl := hn8
      obtain rfl := rt_on h
      refine .thr ?_
      refine .inr ?_
      refine .thr ?_
      cases hx20
      exact .finw () (.r1 rfl (.tmp .g0)) trivial (Ls.of (.cons .k0 (.cons .k0 .nil))) .nil
    · rw [if_neg (ne_true_of_eq_false c18)] at hc7
      refine .skip ?_
      refine .inn ?_
      refine .then ?_
      refine .reg rfl ?_
      refine .opp (P.bin .g1 .k (.addc (inc_ok (lt_of_get hx11) hl12))) rfl ?_
      refine .drop .k2 ?_
      refine .opp (P.mov .t0) rfl ?_
      refine .nil ?_
      cases hc7
      exact .rdR () () hn8 (lt_of_get hx11) (.cons Mm.m0 (.cons Mm.m2 (.cons Mm.m3 (.cons Mm.m4 .nil)))) (.of (.cons .k0 (.cons .k0 .nil))) (.cons Mm.m0 .nil)
  · obtain rfl := loopR_end (le_of_not c14) hr9
    have h := dn_on h
    refine .exit ?_
    refine .thx ?_
    refine .thx ?_
    refine .inb ?_
    refine .then ?_
    refine .seq ?_
    refine .reg rfl ?_
    refine .opp (P.asg .k) rfl ?_
    refine .nil ?_
    refine .then ?_
    refine .ret ?_
    cases h
    exact .finw () (.r1 rfl (.tmp .g0)) trivial (Ls.of (.cons .k0 (.cons .k0 .nil))) .nil
attribute [irreducible] slices_IndexFunc_i131_f82
noncomputable def slices_DeleteFunc_i80_o_f82 (a0 : List clock_Stamp) (a1a : Int) (a1b : Int) : Option ((List clock_Stamp)) :=
  Option.bind (slices_IndexFunc_i131_f82 a0 a1a a1b) fun r1 => if (decide (r1 = ((-1)))) = true then (some a0) else (Option.bind (loopW (fun (s4 : Int × Int × (List clock_Stamp)) => if (decide (s4.1 < ((s4.2.2.length : Int)))) = true then (Option.bind (Option.bind (at_ s4.2.2 s4.1) fun (x20 : clock_Stamp) => if (!((clock_Between_1_c x20 a1a a1b))) = true then (Option.bind (at_ s4.2.2 s4.2.1) fun (x29 : clock_Stamp) => some ((IntKind.i64.wrap (s4.2.1 + 1), (s4.2.2.set ((s4.2.1).toNat) (x20 : clock_Stamp))))) else (some (s4.2.1, s4.2.2))) fun (y14 : Int × (List clock_Stamp)) => some (.nx ((IntKind.i64.wrap (s4.1 + 1), y14.1, y14.2)))) else (some (.br (s4.1, s4.2.1, s4.2.2)))) ((IntKind.i64.wrap (r1 + 1), r1, a0))) fun o6 => Lo.on o6 fun (s4 : Int × Int × (List clock_Stamp)) => grd (0 ≤ s4.2.1 ∧ s4.2.1 ≤ s4.2.2.length) <| grd (0 ≤ s4.2.1 ∧ s4.2.1 ≤ ((((s4.2.2.take (s4.2.1).toNat) ++ List.replicate (s4.2.2.length - (s4.2.1).toNat) (⟨0, 0, ⟨0, 0, ⟨0, 0, 0, 0, ⟨0, 0, 0, 0⟩, ⟨0, ⟨#[]⟩, 0, 0, 0, 0, ⟨#[]⟩⟩, ⟨⟨0, 0, 0, 0⟩, 0⟩, ⟨0, 0, 0, 0⟩, ⟨#[]⟩⟩⟩⟩ : clock_Stamp)))).length) <| some (((((((s4.2.2.take (s4.2.1).toNat) ++ List.replicate (s4.2.2.length - (s4.2.1).toNat) (⟨0, 0, ⟨0, 0, ⟨0, 0, 0, 0, ⟨0, 0, 0, 0⟩, ⟨0, ⟨#[]⟩, 0, 0, 0, 0, ⟨#[]⟩⟩, ⟨⟨0, 0, 0, 0⟩, 0⟩, ⟨0, 0, 0, 0⟩, ⟨#[]⟩⟩⟩⟩ : clock_Stamp)))).take (s4.2.1).toNat))))
set_option maxRecDepth 20000 in
set_option maxHeartbeats 1000000 in
theorem S_slices_DeleteFunc_i80_o_f82 (v00 : Value) (a0 : List clock_Stamp) (b01a : Nat) (a1a : Int) (b01b : Nat) (a1b : Int) (r : (List clock_Stamp)) (h : slices_DeleteFunc_i80_o_f82 a0 a1a a1b = some r) :
    SpecF Try.prog 80 [v00, fnv 82 [pt b01a 0, pt b01b 0]] [lst 72 29 v00 (a0.map clock_Stamp.cs), blk b01a 3 [N a1a], blk b01b 3 [N a1b]] [] (fun _ : Value => True) (fun z => z) (fun z M => blk b01a 3 [N a1a] :: blk b01b 3 [N a1b] :: lst 72 29 z (r.map clock_Stamp.cs) ::  M) (fun z M =>  M) := by
  refine .of func80 rfl ntmps80 rfl fun w0 D0 G0 => ?_
  unfold slices_DeleteFunc_i80_o_f82 at h
  refine .seq ?_
  refine .reg rfl ?_
  refine .op0 (OpP.toV (P.asg .k)) rfl ?_
  refine .nil ?_
  refine .then ?_
  refine .seq ?_
  refine .reg rfl ?_
  refine .opp (P.mov .g0) rfl ?_
  refine .opp (P.mov .g2) rfl ?_
  obtain ⟨r1, hr2, h⟩ := bnd_eq h
  refine .opg (G.calll call131 (.cons .t1 (.cons .t0 .nil)) (S_slices_IndexFunc_i131_f82 v00 a0 b01a a1a b01b a1b r1 hr2) (.cons .k1 (.cons .k1 .nil)) (.imp (List.mem_append_right _ Mm.m0) (fun _ => lst_rows) .nil) (fun _ _ => rfl) rfl) rfl fun _ _ => ?_
  refine .opp (P.asg .t0) rfl ?_
  refine .nil ?_
  refine .then ?_
  refine .seq ?_
  refine .seq ?_
  refine .reg rfl ?_
  refine .opp (P.mov .g0) rfl ?_
  refine .opp (P.bin .t0 .k .eql) rfl ?_
  refine .nil ?_
  refine .then ?_
  refine .cond .t0 (fun c3 => ?_) (fun c3 => ?_)
  · rw [if_pos c3] at h
    refine .seq ?_
    refine .reg rfl ?_
    refine .opp (P.mov .t1) rfl ?_
    refine .opp (P.asg .t0) rfl ?_
    refine .nil ?_
    refine .then ?_
    refine .ret ?_
    refine .thr ?_
    cases h
    exact .finw v00 (.r1 rfl (.tmp .g0)) trivial (Ls.of (.cons .k0 (.cons .k0 (.cons .k0 .nil)))) .nil
  · rw [if_neg (ne_true_of_eq_false c3)] at h
    refine .skip ?_
    refine .then ?_
    refine .seq ?_
    refine .seq ?_
    refine .reg rfl ?_
    refine .opp (P.mov .g0) rfl ?_
    refine .opp (P.bin .t0 .k .add) rfl ?_
    refine .opp (P.asg .t0) rfl ?_
    refine .nil ?_
    refine .then ?_
    refine .block ?_
    obtain ⟨o6, ho7, h⟩ := bnd_eq h
    refine .loopW (γ := Unit) (fun (s4 : Int × Int × (List clock_Stamp)) z5 => [(6, N s4.1), (5, N s4.2.1), (0, v00), (1, fnv 82 [pt b01a 0, pt b01b 0])]) (fun (s4 : Int × Int × (List clock_Stamp)) z5 => [blk b01a 3 [N a1a], blk b01b 3 [N a1b], lst 72 29 v00 (s4.2.2.map clock_Stamp.cs)]) (fun (s4 : Int × Int × (List clock_Stamp)) z5 => []) () ho7 (.cons Mm.m0 (.cons Mm.m1 (.cons Mm.m2 (.cons Mm.m3 .nil)))) (.of (.cons .k0 (.cons .k0 (.cons .k0 .nil)))) .nil (fun n12 s4 z5 hr10 => ?_)
    obtain ⟨ct11, hc8, hn9⟩ := loopK_at hr10
    refine .seq ?_
    refine .seq ?_
    refine .reg rfl ?_
    refine .opp (P.mov .g0) rfl ?_
    refine .opp (P.mov .g3) rfl ?_
    refine .op (V.lnl (n := s4.2.2.length) .t0 .k2 map_len runUnderlying68) rfl ?_
    refine .opp (P.bin .t1 .t0 .lss) rfl ?_
    refine .nil ?_
    refine .then ?_
    refine .cond .t0 (fun c13 => ?_) (fun c13 => ?_)
    · rw [if_pos c13] at hc8
      refine .skip ?_
      refine .then ?_
      obtain ⟨y14, hj16, hc8⟩ := bnd_eq hc8
      refine .cutx (γ := Unit) (E1 := fun z15 => [(5, N y14.1), (6, N s4.1), (0, v00), (1, fnv 82 [pt b01a 0, pt b01b 0])]) (L1 := fun z15 => [blk b01a 3 [N a1a], blk b01b 3 [N a1b], lst 72 29 v00 (y14.2.map clock_Stamp.cs)]) (R1 := fun z15 => []) ?_ (fun z15 => ?_)
      · clear hc8
        refine .block ?_
        refine .seq ?_
        refine .reg rfl ?_
        refine .opp (P.mov .g2) rfl ?_
        refine .opp (P.mov .g1) rfl ?_
        obtain ⟨x20, hx21, hj16⟩ := bnd_eq hj16
        obtain ⟨i22, hi23, hx21⟩ := at_eq hx21
        have hi23_ : (s4.1).toNat = i22 := by rw [hi23]; rfl
        refine .ixql .k2 (map_get hx21) fun p17 q18 hq19 => ?_
        refine .opp (P.ixi (i := i22) .t0 hi23 .t0 hq19 runUnderlying68 sizeOf72) rfl ?_
        refine .op (V.ldxl0 (u := Ag (clock_Stamp.cs x20)) .t0 hq19 .k2 (map_get hx21) (.agg isAgg72 sizeOf72 rfl rfl)) rfl ?_
        refine .opx (X.alc (cs := (clock_Stamp.cs ⟨0, 0, ⟨0, 0, ⟨0, 0, 0, 0, ⟨0, 0, 0, 0⟩, ⟨0, ⟨#[]⟩, 0, 0, 0, 0, ⟨#[]⟩⟩, ⟨⟨0, 0, 0, 0⟩, 0⟩, ⟨0, 0, 0, 0⟩, ⟨#[]⟩⟩⟩⟩)) zeroValue72 rfl) rfl fun b24 => ?_
        refine .opg (G.str .t1 .g0 .k0 (.mk (cs' := (clock_Stamp.cs x20)) sizeOf72 rfl rfl rfl rfl)) rfl fun _ _ => ?_
        refine .nil ?_
        refine .then ?_
        refine .seq ?_
        refine .reg rfl ?_
        refine .opp (P.mov .g4) rfl ?_
        refine .op (V.ld (v := Ag (clock_Stamp.cs x20)) .g1 .k0 (.agg isAgg72 sizeOf72 rfl rfl)) rfl ?_
        refine .opg (G.callv call82 .t1 (.cons .t0 .nil) (S_clock_Between_1_c x20 b01a a1a b01b a1b _ rfl) (.cons .k1 (.cons .k1 .nil)) .nil (fun _ _ => rfl) (fun _ _ => rfl) rfl) rfl fun _ _ => ?_
        refine .opp (P.not .t0) rfl ?_
        refine .nil ?_
        refine .then ?_
        refine .cond .t0 (fun c25 => ?_) (fun c25 => ?_)
        · rw [if_pos c25] at hj16
          refine .seq ?_
          refine .reg rfl ?_
          refine .opp (P.mov .g3) rfl ?_
          refine .opp (P.mov .g3) rfl ?_
          refine .op (V.ld (v := Ag (clock_Stamp.cs x20)) .t2 .k2 (.agg isAgg72 sizeOf72 rfl rfl)) rfl ?_
          obtain ⟨x29, hx30, hj16⟩ := bnd_eq hj16
          obtain ⟨i31, hi32, hx30⟩ := at_eq hx30
          have hi32_ : (s4.2.1).toNat = i31 := by rw [hi32]; rfl
          refine .ixql .k3 (map_get hx30) fun p26 q27 hq28 => ?_
          refine .opp (P.ixi (i := i31) .t1 hi32 .t1 hq28 runUnderlying68 sizeOf72) rfl ?_
          refine .opg (G.stx (off := q27) (k := 0) (cs' := (clock_Stamp.cs x20)) .t1 .t0 hq28 .k3 (map_get hx30) (.mk sizeOf72 rfl rfl rfl rfl)) rfl fun _ _ => ?_
          refine .conseq .k0 (q := lst 72 29 v00 (((s4.2.2.set ((s4.2.1).toNat) (x20 : clock_Stamp))).map clock_Stamp.cs)) (fun _ h_ => by rw [hi32_]; simpa [List.map_set] using h_) ?_
          refine .nil ?_
          refine .then ?_
          refine .reg rfl ?_
          refine .opp (P.mov .g1) rfl ?_
          refine .opp (P.bin .t0 .k .add) rfl ?_
          refine .drop .k2 ?_
          refine .opp (P.asg .t0) rfl ?_
          refine .nil ?_
          refine .inn ?_
          cases hj16
          exact .stj () (.cons Mm.m0 (.cons Mm.m1 (.cons Mm.m2 (.cons Mm.m3 .nil)))) (.of (.cons .k1 (.cons .k1 (.cons .k0 .nil)))) .nil
        · rw [if_neg (ne_true_of_eq_false c25)] at hj16
          refine .skip ?_
          refine .inn ?_
          cases hj16
          exact .stj () (.cons Mm.m2 (.cons Mm.m1 (.cons Mm.m3 (.cons Mm.m4 .nil)))) (.of (.cons .k0 (.cons .k0 (.cons .k1 .nil)))) .nil
      · clear hj16
        refine .reg rfl ?_
        refine .opp (P.mov .g1) rfl ?_
        refine .opp (P.bin .t0 .k .add) rfl ?_
        refine .drop .k2 ?_
        refine .opp (P.asg .t0) rfl ?_
        refine .nil ?_
        cases hc8
        obtain ⟨m33, hm34, hn9⟩ := hn9
        exact .rdW ((IntKind.i64.wrap (s4.1 + 1), y14.1, y14.2)) () hm34 hn9 (.cons Mm.m0 (.cons Mm.m1 (.cons Mm.m2 (.cons Mm.m3 .nil)))) (.of (.cons .k0 (.cons .k0 (.cons .k0 .nil)))) .nil
    · rw [if_neg (ne_true_of_eq_false c13)] at hc8
      refine .exit ?_
      refine .thx ?_
      cases hc8
      refine .told (γ := Unit) h hn9 (fun (s4 : Int × Int × (List clock_Stamp)) _ => [(6, N s4.1), (5, N s4.2.1), (0, v00), (1, fnv 82 [pt b01a 0, pt b01b 0])]) (fun (s4 : Int × Int × (List clock_Stamp)) _ => [blk b01a 3 [N a1a], blk b01b 3 [N a1b], lst 72 29 v00 (s4.2.2.map clock_Stamp.cs)]) (fun (s4 : Int × Int × (List clock_Stamp)) _ => []) () (.cons Mm.m0 (.cons Mm.m1 (.cons Mm.m2 (.cons Mm.m3 .nil)))) (.of (.cons .k0 (.cons .k0 (.cons .k0 .nil)))) .nil (fun s4 _ h' => ?_)
      replace h := h'
      refine .thx ?_
      refine .inb ?_
      refine .then ?_
      refine .seq ?_
      refine .reg rfl ?_
      refine .opp (P.mov .g2) rfl ?_
      refine .opp (P.mov .g2) rfl ?_
      obtain ⟨hb37, h⟩ := grd_eq h
      refine .opg (G.slt (m := s4.2.1) .t1 .t0 .k2 runUnderlying68 sizeOf72 hb37.1 (by simpa using hb37.2) rfl) rfl fun u35 hq36 => ?_
      have hm38 : (s4.2.1).toNat ≤ s4.2.2.length := by have := hb37; omega
      refine .opg (G.clr (cs := (clock_Stamp.cs ⟨0, 0, ⟨0, 0, ⟨0, 0, 0, 0, ⟨0, 0, 0, 0⟩, ⟨0, ⟨#[]⟩, 0, 0, 0, 0, ⟨#[]⟩⟩, ⟨⟨0, 0, 0, 0⟩, 0⟩, ⟨0, 0, 0, 0⟩, ⟨#[]⟩⟩⟩⟩)) (m := (s4.2.1).toNat) .t0 (by simpa using hq36) .k2 runUnderlying68 zeroValue72 rfl rfl rfl rfl (by simpa using hm38)) rfl fun _ _ => ?_
      refine .conseq .k0 (q := lst 72 29 v00 ((((s4.2.2.take (s4.2.1).toNat) ++ List.replicate (s4.2.2.length - (s4.2.1).toNat) (⟨0, 0, ⟨0, 0, ⟨0, 0, 0, 0, ⟨0, 0, 0, 0⟩, ⟨0, ⟨#[]⟩, 0, 0, 0, 0, ⟨#[]⟩⟩, ⟨⟨0, 0, 0, 0⟩, 0⟩, ⟨0, 0, 0, 0⟩, ⟨#[]⟩⟩⟩⟩ : clock_Stamp))).map clock_Stamp.cs)) (fun _ hh => by simpa [List.map_take, List.map_replicate, List.map_append] using hh) ?_
      refine .nil ?_
      refine .then ?_
      refine .seq ?_
      refine .reg rfl ?_
      refine .opp (P.mov .t2) rfl ?_
      refine .opp (P.mov .t2) rfl ?_
      obtain ⟨hb40, h⟩ := grd_eq h
      refine .opg (G.sll (m := s4.2.1) .t1 .t0 .k0 runUnderlying68 sizeOf72 hb40.1 (by simpa using hb40.2) rfl) rfl fun u39 _ => ?_
      refine .conseq .k0 (q := lst 72 29 u39 (((((((s4.2.2.take (s4.2.1).toNat) ++ List.replicate (s4.2.2.length - (s4.2.1).toNat) (⟨0, 0, ⟨0, 0, ⟨0, 0, 0, 0, ⟨0, 0, 0, 0⟩, ⟨0, ⟨#[]⟩, 0, 0, 0, 0, ⟨#[]⟩⟩, ⟨⟨0, 0, 0, 0⟩, 0⟩, ⟨0, 0, 0, 0⟩, ⟨#[]⟩⟩⟩⟩ : clock_Stamp)))).take (s4.2.1).toNat)).map clock_Stamp.cs)) (fun _ hh => by simpa using hh) ?_
      refine .opp (P.asg .t0) rfl ?_
      refine .nil ?_
      refine .then ?_
      refine .ret ?_
      cases h
      exact .finw u39 (.r1 rfl (.tmp .g0)) trivial (Ls.of (.cons .k1 (.cons .k1 (.cons .k0 .nil)))) .nil
attribute [irreducible] slices_DeleteFunc_i80_o_f82
noncomputable def clock_Between (a0 : List clock_Stamp) (a1 : Int) (a2 : Int) : Option ((List clock_Stamp)) :=
  Option.bind (slices_Clone_i81 a0) fun r3 => Option.bind (slices_DeleteFunc_i80_o_f82 r3 a1 a2) fun r6 => some r6
set_option maxRecDepth 20000 in
set_option maxHeartbeats 1000000 in
theorem S_clock_Between (v00 : Value) (a0 : List clock_Stamp) (a1 : Int) (a2 : Int) (r : (List clock_Stamp)) (h : clock_Between a0 a1 a2 = some r) :
    SpecF Try.prog 33 [v00, N a1, N a2] [] [rows 29 v00 (a0.map clock_Stamp.cs)] (fun _ : Value => True) (fun z => z) (fun z M => lst 72 29 z (r.map clock_Stamp.cs) ::  M) (fun z M =>  M) := by
  refine .of func33 rfl ntmps33 rfl fun w0 D0 G0 => ?_
  unfold clock_Between at h
  refine .seq ?_
  refine .reg rfl ?_
  refine .opx (X.box (cs := [N a1]) .t1 rfl) rfl fun b1 => ?_
  refine .opx (X.box (cs := [N a2]) .t2 rfl) rfl fun b2 => ?_
  refine .op0 (OpP.toV (P.asg .k)) rfl ?_
  refine .nil ?_
  refine .then ?_
  refine .seq ?_
  refine .reg rfl ?_
  refine .opp (P.mov .t2) rfl ?_
  obtain ⟨r3, hr4, h⟩ := bnd_eq h
  refine .opg (G.call call81 (.cons .t0 .nil) (S_slices_Clone_i81 v00 a0 r3 hr4) .nil (.cons Mm.m0 .nil) (fun _ _ => rfl) (fun _ _ => rfl) rfl) rfl fun u5 _ => ?_
  refine .opp (P.mkf (.cons .t2 (.cons .t1 .nil))) rfl ?_
  obtain ⟨r6, hr7, h⟩ := bnd_eq h
  refine .opg (G.call call80 (.cons .t1 (.cons .t0 .nil)) (S_slices_DeleteFunc_i80_o_f82 u5 r3 b1 a1 b2 a2 r6 hr7) (.cons .k0 (.cons .k1 (.cons .k0 .nil))) .nil (fun _ _ => rfl) (fun _ _ => rfl) rfl) rfl fun u8 _ => ?_
  refine .opp (P.asg .t0) rfl ?_
  refine .nil ?_
  refine .then ?_
  refine .ret ?_
  cases h
  exact .finw u8 (.r1 rfl (.tmp .g0)) trivial (Ls.of (.cons .k2 .nil)) .nil
attribute [irreducible] clock_Between
noncomputable def narrowslaw36_ClockTells (a0 : List api_Event) (a1 : List api_Event) (a2 : Int) (a3 : Int) (a4 : Int) : Option (Bool) :=
  if (!narrowslaw36_alive) = true then (some false) else (Option.bind (loopW (fun (s2 : Int × (List clock_Stamp)) => if (decide (s2.1 < (IntKind.i64.wrap (((a0.length : Int)) + ((a1.length : Int)))))) = true then (Option.bind (if (decide (s2.1 < ((a0.length : Int)))) = true then (Option.bind (at_ a0 s2.1) fun (x20 : api_Event) => Option.bind (at_ a0 s2.1) fun (x27 : api_Event) => some (((narrowslaw36_ticks x20.Time 0 a2), 0, x27))) else (Option.bind (at_ a1 (IntKind.i64.wrap (s2.1 - ((a0.length : Int))))) fun (x34 : api_Event) => Option.bind (at_ a1 (IntKind.i64.wrap (s2.1 - ((a0.length : Int))))) fun (x41 : api_Event) => some (((narrowslaw36_ticks x34.Time 1 a2), 1, x41)))) fun (y13 : Int × Int × api_Event) => Option.bind (loopW (fun (s45 : Int) => Option.bind (if (decide (s45 > 0)) = true then (Option.bind (at_ s2.2 (IntKind.i64.wrap (s45 - 1))) fun (x61 : clock_Stamp) => some (decide (x61.Tick > y13.1))) else (some false)) fun (y54 : Bool) => if y54 = true then (some (.nx (IntKind.i64.wrap (s45 - 1)))) else (some (.br s45))) (s2.2.length : Int)) fun o47 => Lo.on o47 fun (s45 : Int) => grd (okS s2.2.length none (some s45) none) <| grd (okS s2.2.length (some s45) none none) <| grd ((([] : List clock_Stamp).length + ((slc s2.2 0 (s45).toNat)).length) * 256 ≤ 140737488355328) <| grd ((((([] : List clock_Stamp) ++ ((slc s2.2 0 (s45).toNat)))).length + ([⟨y13.1, y13.2.1, y13.2.2⟩] : List clock_Stamp).length) * 256 ≤ 140737488355328) <| grd ((((((([] : List clock_Stamp) ++ ((slc s2.2 0 (s45).toNat)))) ++ ([⟨y13.1, y13.2.1, y13.2.2⟩] : List clock_Stamp))).length + ((slc s2.2 (s45).toNat s2.2.length)).length) * 256 ≤ 140737488355328) <| some (.nx ((IntKind.i64.wrap (s2.1 + 1), (((((([] : List clock_Stamp) ++ ((slc s2.2 0 (s45).toNat)))) ++ ([⟨y13.1, y13.2.1, y13.2.2⟩] : List clock_Stamp))) ++ ((slc s2.2 (s45).toNat s2.2.length))))))) else (some (.br (s2.1, s2.2)))) (0, [])) fun o4 => Lo.on o4 fun (s2 : Int × (List clock_Stamp)) => Option.bind (clock_Merge a0 a1 a2) fun r88 => if (decide (((r88.length : Int)) ≠ ((s2.2.length : Int)))) = true then (some false) else (Option.bind (loopW (fun (s92 : Int × Int × Int) => if (decide (s92.1 < ((s2.2.length : Int)))) = true then (Option.bind (Option.bind (Option.bind (at_ r88 s92.1) fun (x111 : clock_Stamp) => Option.bind (at_ s2.2 s92.1) fun (x118 : clock_Stamp) => if (decide ((x111 : clock_Stamp) ≠ (x118 : clock_Stamp))) = true then (some true) else (Option.bind (at_ r88 s92.1) fun (x126 : clock_Stamp) => Option.bind (at_ r88 s92.1) fun (x133 : clock_Stamp) => Option.bind (at_ r88 s92.1) fun (x140 : clock_Stamp) => some (decide (((clock_Ticks x126.Event.Time x133.Side a2)) ≠ x140.Tick)))) fun (y105 : Bool) => if y105 = true then (Option.map Lo.rt (Option.map Ct.rt (some false))) else (Option.bind (Option.bind (Option.bind (at_ s2.2 s92.1) fun (x158 : clock_Stamp) => if (decide (x158.Tick ≥ a3)) = true then (Option.bind (at_ s2.2 s92.1) fun (x166 : clock_Stamp) => some (decide (x166.Tick < a4))) else (some false)) fun (y152 : Bool) => if y152 = true then (some (IntKind.i64.wrap (s92.2.2 + 1))) else (some s92.2.2)) fun (y149 : Int) => if (decide (s92.1 > 0)) = true then (Option.bind (at_ s2.2 s92.1) fun (x175 : clock_Stamp) => Option.bind (at_ s2.2 (IntKind.i64.wrap (s92.1 - 1))) fun (x182 : clock_Stamp) => some (Lo.dn ((if IntKind.i64.wrap (x175.Tick - x182.Tick) > s92.2.1 then IntKind.i64.wrap (x175.Tick - x182.Tick) else s92.2.1, y149)))) else (some (Lo.dn (s92.2.1, y149))))) fun o188 => Lo.on o188 fun (y102 : Int × Int) => some (.nx ((IntKind.i64.wrap (s92.1 + 1), y102.1, y102.2)))) else (some (.br (s92.1, s92.2.1, s92.2.2)))) (0, 0, 0)) fun o94 => Lo.on o94 fun (s92 : Int × Int × Int) => Option.bind (clock_Between r88 a3 a4) fun r189 => Option.bind (loopW (fun (s192 : Int) => if (decide (s192 < ((r189.length : Int)))) = true then (Option.bind (Option.bind (at_ r189 s192) fun (x208 : clock_Stamp) => if (decide (x208.Tick < a3)) = true then (some true) else (Option.bind (at_ r189 s192) fun (x216 : clock_Stamp) => some (decide (x216.Tick ≥ a4)))) fun (y202 : Bool) => if y202 = true then (Option.map Ct.rt (some false)) else (some (.nx (IntKind.i64.wrap (s192 + 1))))) else (some (.br s192))) 0) fun o194 => Lo.on o194 fun (s192 : Int) => Option.bind (if (decide (((r189.length : Int)) = s92.2.2)) = true then (Option.bind (clock_Gaps r88) fun r229 => some (decide (r229 = s92.2.1))) else (some false)) fun (y225 : Bool) => some y225))
set_option maxRecDepth 20000 in
set_option maxHeartbeats 1000000 in
theorem S_narrowslaw36_ClockTells (v00 : Value) (a0 : List api_Event) (v01 : Value) (a1 : List api_Event) (a2 : Int) (a3 : Int) (a4 : Int) (r : Bool) (h : narrowslaw36_ClockTells a0 a1 a2 a3 a4 = some r) :
    SpecF Try.prog 8 [v00, v01, N a2, N a3, N a4] [] [rows 27 v00 (a0.map api_Event.cs), rows 27 v01 (a1.map api_Event.cs)] (fun _ : Unit => True) (fun z => Bo r) (fun z M =>  M) (fun z M =>  M) := by
  refine .of func8 rfl ntmps8 rfl fun w0 D0 G0 => ?_
  unfold narrowslaw36_ClockTells at h
  refine .seq ?_
  refine .reg rfl ?_
  refine .op0 (OpP.toV (P.asg .k)) rfl ?_
  refine .nil ?_
  refine .then ?_
  refine .seq ?_
  refine .seq ?_
  refine .reg rfl ?_
  refine .opg (G.call call29 .nil (S_narrowslaw36_alive  _ rfl) .nil .nil (fun _ _ => rfl) (fun _ _ => rfl) rfl) rfl fun _ _ => ?_
  refine .opp (P.not .t0) rfl ?_
  refine .nil ?_
  refine .then ?_
  refine .cond .t0 (fun c1 => ?_) (fun c1 => ?_)
  · rw [if_pos c1] at h
    refine .seq ?_
    refine .reg rfl ?_
    refine .opp (P.asg .k) rfl ?_
    refine .nil ?_
    refine .then ?_
    refine .ret ?_
    refine .thr ?_
    cases h
    exact .finw () (.r1 rfl (.tmp .g0)) trivial (Ls.of .nil) .nil
  · rw [if_neg (ne_true_of_eq_false c1)] at h
    refine .skip ?_
    refine .then ?_
    refine .seq ?_
    refine .reg rfl ?_
    refine .opp (P.asg .k) rfl ?_
    refine .nil ?_
    refine .then ?_
    refine .seq ?_
    refine .seq ?_
    refine .reg rfl ?_
    refine .opp (P.asg .k) rfl ?_
    refine .nil ?_
    refine .then ?_
    refine .block ?_
    refine .lnil 72 29 ?_
    obtain ⟨o4, ho5, h⟩ := bnd_eq h
    refine .loopW (γ := Value) (fun (s2 : Int × (List clock_Stamp)) z3 => [(12, N s2.1), (11, z3), (0, v00), (1, v01), (2, N a2), (3, N a3), (4, N a4)]) (fun (s2 : Int × (List clock_Stamp)) z3 => [lst 72 29 z3 (s2.2.map clock_Stamp.cs)]) (fun (s2 : Int × (List clock_Stamp)) z3 => [rows 27 v00 (a0.map api_Event.cs), rows 27 v01 (a1.map api_Event.cs)]) nilSl ho5 (.cons Mm.m0 (.cons Mm.m1 (.cons Mm.m2 (.cons Mm.m3 (.cons Mm.m4 (.cons Mm.m5 (.cons Mm.m6 .nil))))))) (.of (.cons .k0 .nil)) (.cons Mm.m0 (.cons Mm.m1 .nil)) (fun n10 s2 z3 hr8 => ?_)
    obtain ⟨ct9, hc6, hn7⟩ := loopK_at hr8
    refine .seq ?_
    refine .seq ?_
    refine .reg rfl ?_
    refine .opp (P.mov .g0) rfl ?_
    refine .opp (P.mov .g3) rfl ?_
    refine .op (V.lnr (n := a0.length) .t0 Mm.m0 map_len runUnderlying22) rfl ?_
    refine .opp (P.mov .g5) rfl ?_
    refine .op (V.lnr (n := a1.length) .t0 Mm.m1 map_len runUnderlying22) rfl ?_
    refine .opp (P.bin .t1 .t0 .add) rfl ?_
    refine .opp (P.bin .t1 .t0 .lss) rfl ?_
    refine .nil ?_
    refine .then ?_
    refine .cond .t0 (fun c11 => ?_) (fun c11 => ?_)
    · rw [if_pos c11] at hc6
      refine .skip ?_
      refine .then ?_
      refine .seq ?_
      refine .block ?_
      refine .seq ?_
      refine .reg rfl ?_
      refine .opp (P.bld (v := Ag (clock_Stamp.cs ⟨0, 0, ⟨0, 0, ⟨0, 0, 0, 0, ⟨0, 0, 0, 0⟩, ⟨0, ⟨#[]⟩, 0, 0, 0, 0, ⟨#[]⟩⟩, ⟨⟨0, 0, 0, 0⟩, 0⟩, ⟨0, 0, 0, 0⟩, ⟨#[]⟩⟩⟩⟩)) .nil (bld_run zeroValue72 runUnderlying72 pl_72 (by kernel_rfl))) rfl ?_
      refine .opx (X.alc (cs := (clock_Stamp.cs ⟨0, 0, ⟨0, 0, ⟨0, 0, 0, 0, ⟨0, 0, 0, 0⟩, ⟨0, ⟨#[]⟩, 0, 0, 0, 0, ⟨#[]⟩⟩, ⟨⟨0, 0, 0, 0⟩, 0⟩, ⟨0, 0, 0, 0⟩, ⟨#[]⟩⟩⟩⟩)) zeroValue72 rfl) rfl fun b12 => ?_
      refine .opg (G.str .t1 .g0 .k0 (.mk (cs' := (clock_Stamp.cs ⟨0, 0, ⟨0, 0, ⟨0, 0, 0, 0, ⟨0, 0, 0, 0⟩, ⟨0, ⟨#[]⟩, 0, 0, 0, 0, ⟨#[]⟩⟩, ⟨⟨0, 0, 0, 0⟩, 0⟩, ⟨0, 0, 0, 0⟩, ⟨#[]⟩⟩⟩⟩)) sizeOf72 rfl rfl rfl rfl)) rfl fun _ _ => ?_
      refine .nil ?_
      refine .then ?_
      obtain ⟨y13, hj15, hc6⟩ := bnd_eq hc6
      refine .cutx (γ := Unit) (E1 := fun z14 => [(13, pt b12 0), (12, N s2.1), (11, z3), (0, v00), (1, v01), (2, N a2), (3, N a3), (4, N a4)]) (L1 := fun z14 => [blk b12 72 (clock_Stamp.cs ⟨y13.1, y13.2.1, y13.2.2⟩), lst 72 29 z3 (s2.2.map clock_Stamp.cs)]) (R1 := fun z14 => [rows 27 v00 (a0.map api_Event.cs), rows 27 v01 (a1.map api_Event.cs)]) ?_ (fun z14 => ?_)
      · clear hc6
        refine .seq ?_
        refine .reg rfl ?_
        refine .opp (P.mov .g1) rfl ?_
        refine .opp (P.mov .g4) rfl ?_
        refine .op (V.lnr (n := a0.length) .t0 Mm.m0 map_len runUnderlying22) rfl ?_
        refine .opp (P.bin .t1 .t0 .lss) rfl ?_
        refine .nil ?_
        refine .then ?_
        refine .cond .t0 (fun c16 => ?_) (fun c16 => ?_)
        · rw [if_pos c16] at hj15
          refine .drawl [lst 72 29 z3 (s2.2.map clock_Stamp.cs)] [rows 27 v00 (a0.map api_Event.cs), rows 27 v01 (a1.map api_Event.cs)] (Ls.of (.cons .k1 .nil)) (Rs.cons Mm.m0 (Rs.cons Mm.m1 Rs.nil)) 13 (.on 0 .pu (.on 1 .pu (.on 2 .pu (.on 3 .pu (.on 5 .pu (.on 7 .pu (.on 8 .pu (.on 9 .pu (.on 4 .ld (.on 10 .ld (.on 6 .go (.on 11 .pu (.on 12 .go .nl))))))))))))) follows_mixed (.thn (.inb (.thn (.thn (.inb (.thn .body)))))) (by kernel_rfl) ?_
          refine .dpu rfl (.n rfl) (P.mov .g3) rfl rfl ?_
          refine .dpu rfl (.n rfl) (P.mov .g2) rfl rfl ?_
          obtain ⟨x20, hx21, hj15⟩ := bnd_eq hj15
          obtain ⟨i22, hi23, hx21⟩ := at_eq hx21
          have hi23_ : (s2.1).toNat = i22 := by rw [hi23]; rfl
          refine .ixq Mm.m0 (map_get hx21) fun p17 q18 hq19 => ?_
          refine .dpu rfl (.n rfl) (P.ixi (i := i22) .t0 hi23 .t0 hq19 runUnderlying22 sizeOf38) rfl rfl ?_
          refine .dpu rfl (.n rfl) (P.fa (off' := q18) .t0 fa_38_0 rfl) rfl rfl ?_
          refine .dpu rfl (.n rfl) (P.mov .g6) rfl rfl ?_
          refine .dpu rfl (.n rfl) (P.mov .g5) rfl rfl ?_
          refine .dpu rfl (.n rfl) (P.mov .g4) rfl rfl ?_
          obtain ⟨x27, hx28, hj15⟩ := bnd_eq hj15
          obtain ⟨i29, hi30, hx28⟩ := at_eq hx28
          have hi30_ : (s2.1).toNat = i29 := by rw [hi30]; rfl
          refine .ixq Mm.m0 (map_get hx28) fun p24 q25 hq26 => ?_
          refine .dpu rfl (.n rfl) (P.ixi (i := i29) .t0 hi30 .t0 hq26 runUnderlying22 sizeOf38) rfl rfl ?_
          refine .dld rfl (.n rfl) (V.ldx0 (u := N x20.Time) .t2 hq19 Mm.m0 (map_get hx21) (.one isAgg3 rfl)) (fun _ h => (h.imp (Ls.of (.cons .k1 .nil))).ro (Rs.cons Mm.m0 (Rs.cons Mm.m1 Rs.nil))) rfl rfl ?_
          refine .dld rfl (.n rfl) (V.ldx0 (u := Ag (api_Event.cs x27)) .t1 hq26 Mm.m0 (map_get hx28) (.agg isAgg38 sizeOf38 rfl rfl)) (fun _ h => (h.imp (Ls.of (.cons .k1 .nil))).ro (Rs.cons Mm.m0 (Rs.cons Mm.m1 Rs.nil))) rfl rfl ?_
          refine .dgo rfl (.n rfl) (G.call call31 (.cons .t1 (.cons .k (.cons .t1 .nil))) (S_narrowslaw36_ticks x20.Time 0 a2 _ rfl) .nil .nil (fun _ _ => rfl) (fun _ _ => rfl) rfl) (.inr fun _ _ _ h => (h.imp (Ls.of (.cons .k1 .nil))).ro (Rs.cons Mm.m0 (Rs.cons Mm.m1 Rs.nil))) fun _ _ => ?_
          refine .dpu rfl (.n rfl) (P.bld (v := Ag (clock_Stamp.cs ⟨(narrowslaw36_ticks x20.Time 0 a2), 0, x27⟩)) (.cons .t0 (.cons .k (.cons .t0 .nil))) (bld_run zeroValue72 runUnderlying72 pl_72 (by kernel_rfl))) rfl rfl ?_
          refine .dgo rfl (.n rfl) (G.str .t0 .g0 .k0 (.mk (cs' := (clock_Stamp.cs ⟨(narrowslaw36_ticks x20.Time 0 a2), 0, x27⟩)) sizeOf72 rfl rfl rfl rfl)) (.inr fun _ _ _ h => (h.imp (Ls.of (.cons .k1 .nil))).ro (Rs.cons Mm.m0 (Rs.cons Mm.m1 Rs.nil))) fun _ _ => ?_
          refine .dnil ?_
          cases hj15
          exact .stj () (.cons Mm.m0 (.cons Mm.m1 (.cons Mm.m2 (.cons Mm.m3 (.cons Mm.m4 (.cons Mm.m5 (.cons Mm.m6 (.cons Mm.m7 .nil)))))))) (.of (.cons .k0 (.cons .k0 .nil))) (.cons Mm.m0 (.cons Mm.m1 .nil))
        · rw [if_neg (ne_true_of_eq_false c16)] at hj15
          refine .drawl [lst 72 29 z3 (s2.2.map clock_Stamp.cs)] [rows 27 v00 (a0.map api_Event.cs), rows 27 v01 (a1.map api_Event.cs)] (Ls.of (.cons .k1 .nil)) (Rs.cons Mm.m0 (Rs.cons Mm.m1 Rs.nil)) 19 (.on 0 .pu (.on 1 .pu (.on 2 .pu (.on 8 .pu (.on 10 .pu (.on 11 .pu (.on 12 .pu (.on 3 .ld (.on 4 .pu (.on 5 .pu (.on 6 .pu (.on 7 .ld (.on 13 .ld (.on 14 .pu (.on 15 .pu (.on 16 .ld (.on 9 .go (.on 17 .pu (.on 18 .go .nl))))))))))))))))))) follows_mixed (.thn (.inb (.thn (.thn (.inb (.thn .body)))))) (by kernel_rfl) ?_
          refine .dpu rfl (.n rfl) (P.mov .g4) rfl rfl ?_
          refine .dpu rfl (.n rfl) (P.mov .g2) rfl rfl ?_
          refine .dpu rfl (.n rfl) (P.mov .g5) rfl rfl ?_
          refine .dpu rfl (.n rfl) (P.mov .g8) rfl rfl ?_
          refine .dpu rfl (.n rfl) (P.mov .g8) rfl rfl ?_
          refine .dpu rfl (.n rfl) (P.mov .g6) rfl rfl ?_
          refine .dpu rfl (.n rfl) (P.mov .g9) rfl rfl ?_
          refine .dld rfl (.n rfl) (V.lnr (n := a0.length) .t4 Mm.m0 map_len runUnderlying22) (fun _ h => (h.imp (Ls.of (.cons .k1 .nil))).ro (Rs.cons Mm.m0 (Rs.cons Mm.m1 Rs.nil))) rfl rfl ?_
          refine .dpu rfl (.n rfl) (P.bin .t5 .t0 .sub) rfl rfl ?_
          obtain ⟨x34, hx35, hj15⟩ := bnd_eq hj15
          obtain ⟨i36, hi37, hx35⟩ := at_eq hx35
          have hi37_ : (IntKind.i64.wrap (s2.1 - ((a0.length : Int)))).toNat = i36 := by rw [hi37]; rfl
          refine .ixq Mm.m1 (map_get hx35) fun p31 q32 hq33 => ?_
          refine .dpu rfl (.n rfl) (P.ixi (i := i36) .t0 hi37 .t4 hq33 runUnderlying22 sizeOf38) rfl rfl ?_
          refine .dpu rfl (.n rfl) (P.fa (off' := q32) .t0 fa_38_0 rfl) rfl rfl ?_
          refine .dld rfl (.n rfl) (V.ldx0 (u := N x34.Time) .t0 hq33 Mm.m1 (map_get hx35) (.one isAgg3 rfl)) (fun _ h => (h.imp (Ls.of (.cons .k1 .nil))).ro (Rs.cons Mm.m0 (Rs.cons Mm.m1 Rs.nil))) rfl rfl ?_
          refine .dld rfl (.n rfl) (V.lnr (n := a0.length) .t1 Mm.m0 map_len runUnderlying22) (fun _ h => (h.imp (Ls.of (.cons .k1 .nil))).ro (Rs.cons Mm.m0 (Rs.cons Mm.m1 Rs.nil))) rfl rfl ?_
          refine .dpu rfl (.n rfl) (P.bin .t2 .t0 .sub) rfl rfl ?_
          obtain ⟨x41, hx42, hj15⟩ := bnd_eq hj15
          obtain ⟨i43, hi44, hx42⟩ := at_eq hx42
          have hi44_ : (IntKind.i64.wrap (s2.1 - ((a0.length : Int)))).toNat = i43 := by rw [hi44]; rfl
          refine .ixq Mm.m1 (map_get hx42) fun p38 q39 hq40 => ?_
          refine .dpu rfl (.n rfl) (P.ixi (i := i43) .t0 hi44 .t1 hq40 runUnderlying22 sizeOf38) rfl rfl ?_
          refine .dld rfl (.n rfl) (V.ldx0 (u := Ag (api_Event.cs x41)) .t0 hq40 Mm.m1 (map_get hx42) (.agg isAgg38 sizeOf38 rfl rfl)) (fun _ h => (h.imp (Ls.of (.cons .k1 .nil))).ro (Rs.cons Mm.m0 (Rs.cons Mm.m1 Rs.nil))) rfl rfl ?_
          refine .dgo rfl (.n rfl) (G.call call31 (.cons .t1 (.cons .k (.cons .t1 .nil))) (S_narrowslaw36_ticks x34.Time 1 a2 _ rfl) .nil .nil (fun _ _ => rfl) (fun _ _ => rfl) rfl) (.inr fun _ _ _ h => (h.imp (Ls.of (.cons .k1 .nil))).ro (Rs.cons Mm.m0 (Rs.cons Mm.m1 Rs.nil))) fun _ _ => ?_
          refine .dpu rfl (.n rfl) (P.bld (v := Ag (clock_Stamp.cs ⟨(narrowslaw36_ticks x34.Time 1 a2), 1, x41⟩)) (.cons .t0 (.cons .k (.cons .t0 .nil))) (bld_run zeroValue72 runUnderlying72 pl_72 (by kernel_rfl))) rfl rfl ?_
          refine .dgo rfl (.n rfl) (G.str .t0 .g0 .k0 (.mk (cs' := (clock_Stamp.cs ⟨(narrowslaw36_ticks x34.Time 1 a2), 1, x41⟩)) sizeOf72 rfl rfl rfl rfl)) (.inr fun _ _ _ h => (h.imp (Ls.of (.cons .k1 .nil))).ro (Rs.cons Mm.m0 (Rs.cons Mm.m1 Rs.nil))) fun _ _ => ?_
          refine .dnil ?_
          cases hj15
          exact .stj () (.cons Mm.m0 (.cons Mm.m1 (.cons Mm.m2 (.cons Mm.m3 (.cons Mm.m4 (.cons Mm.m5 (.cons Mm.m6 (.cons Mm.m7 .nil)))))))) (.of (.cons .k0 (.cons .k0 .nil))) (.cons Mm.m0 (.cons Mm.m1 .nil))
      · clear hj15
        refine .seq ?_
        refine .reg rfl ?_
        refine .opp (P.mov .g2) rfl ?_
        refine .op (V.lnl (n := s2.2.length) .t0 .k1 map_len runUnderlying68) rfl ?_
        refine .opp (P.asg .t0) rfl ?_
        refine .nil ?_
        refine .then ?_
        refine .seq ?_
        refine .block ?_
        obtain ⟨o47, ho48, hc6⟩ := bnd_eq hc6
        refine .loopW (γ := Unit) (fun (s45 : Int) z46 => [(14, N s45), (13, pt b12 0), (12, N s2.1), (11, z3), (0, v00), (1, v01), (2, N a2), (3, N a3), (4, N a4)]) (fun (s45 : Int) z46 => [blk b12 72 (clock_Stamp.cs ⟨y13.1, y13.2.1, y13.2.2⟩), lst 72 29 z3 (s2.2.map clock_Stamp.cs)]) (fun (s45 : Int) z46 => [rows 27 v00 (a0.map api_Event.cs), rows 27 v01 (a1.map api_Event.cs)]) () ho48 (.cons Mm.m0 (.cons Mm.m1 (.cons Mm.m2 (.cons Mm.m3 (.cons Mm.m4 (.cons Mm.m5 (.cons Mm.m6 (.cons Mm.m7 (.cons Mm.m8 .nil))))))))) (.of (.cons .k0 (.cons .k0 .nil))) (.cons Mm.m0 (.cons Mm.m1 .nil)) (fun n53 s45 z46 hr51 => ?_)
        obtain ⟨ct52, hc49, hn50⟩ := loopK_at hr51
        refine .seq ?_
        obtain ⟨y54, hj56, hc49⟩ := bnd_eq hc49
        refine .cutx (γ := Unit) (E1 := fun z55 => [(81, Bo y54), (14, N s45), (13, pt b12 0), (12, N s2.1), (11, z3), (0, v00), (1, v01), (2, N a2), (3, N a3), (4, N a4)]) (L1 := fun z55 => [blk b12 72 (clock_Stamp.cs ⟨y13.1, y13.2.1, y13.2.2⟩), lst 72 29 z3 (s2.2.map clock_Stamp.cs)]) (R1 := fun z55 => [rows 27 v00 (a0.map api_Event.cs), rows 27 v01 (a1.map api_Event.cs)]) ?_ (fun z55 => ?_)
        · clear hc49
          refine .draw 13 (.on 0 .pu (.on 1 .pu (.on 2 .pu (.on 3 .pu (.on 4 .pu (.on 5 .pu (.on 6 .pu (.on 7 .pu (.on 9 .pu (.on 8 .ld (.on 10 .ld (.on 11 .pu (.on 12 .pu .nl))))))))))))) follows_mixed (.thn (.thn (.thn (.inb (.thn (.inb (.thn (.thn (.inb (.thn .body)))))))))) (by kernel_rfl) ?_
          refine .dpu rfl (.n rfl) (P.mov .g0) rfl rfl ?_
          refine .dpu rfl (.n rfl) (P.bin .t0 .k .gtr) rfl rfl ?_
          refine .dpu rfl (.n rfl) (P.mov .t0) rfl rfl ?_
          refine .split .k0 (fun c57 => ?_) (fun c57 => ?_)
          · rw [if_pos c57] at hj56
            refine .dpu rfl (.g rfl rfl .g0 rfl) (P.mov .g4) rfl rfl ?_
            refine .dpu rfl (.g rfl rfl .g1 rfl) (P.mov .g2) rfl rfl ?_
            refine .dpu rfl (.g rfl rfl .g2 rfl) (P.bin .t0 .k .sub) rfl rfl ?_
            obtain ⟨x61, hx62, hj56⟩ := bnd_eq hj56
            obtain ⟨i63, hi64, hx62⟩ := at_eq hx62
            have hi64_ : (IntKind.i64.wrap (s45 - 1)).toNat = i63 := by rw [hi64]; rfl
            refine .ixql .k1 (map_get hx62) fun p58 q59 hq60 => ?_
            refine .dpu rfl (.g rfl rfl .g2 rfl) (P.ixi (i := i63) .t0 hi64 .t0 hq60 runUnderlying68 sizeOf72) rfl rfl ?_
            refine .dpu rfl (.g rfl rfl .g1 rfl) (P.fa (off' := q59) .t0 fa_72_0 rfl) rfl rfl ?_
            refine .dpu rfl (.g rfl rfl .g1 rfl) (P.fa .g3 fa_72_0 rfl) rfl rfl ?_
            refine .dld rfl (.g rfl rfl .g2 rfl) (V.ldxl0 (u := N x61.Tick) .t1 hq60 .k1 (map_get hx62) (.one isAgg3 rfl)) (fun _ h => h) rfl rfl ?_
            refine .dld rfl (.g rfl rfl .g2 rfl) (V.ld (v := N y13.1) .t1 .k0 (.one isAgg3 rfl)) (fun _ h => h) rfl rfl ?_
            refine .dpu rfl (.g rfl rfl .g2 rfl) (P.bin .t1 .t0 .gtr) rfl rfl ?_
            refine .dpu rfl (.n rfl) (P.pickT .t1 .t0) rfl rfl ?_
            refine .dnil ?_
            cases hj56
            exact .stj () (.cons Mm.m0 (.cons Mm.m1 (.cons Mm.m2 (.cons Mm.m3 (.cons Mm.m4 (.cons Mm.m5 (.cons Mm.m6 (.cons Mm.m7 (.cons Mm.m8 (.cons Mm.m9 .nil)))))))))) (.of (.cons .k0 (.cons .k0 .nil))) (.cons Mm.m0 (.cons Mm.m1 .nil))
          · rw [if_neg (ne_true_of_eq_false c57)] at hj56
            refine .dsk rfl (.g rfl rfl .g0 rfl) rfl rfl ?_
            refine .dsk rfl (.g rfl rfl .g0 rfl) rfl rfl ?_
            refine .dsk rfl (.g rfl rfl .g0 rfl) rfl rfl ?_
            refine .dsk rfl (.g rfl rfl .g0 rfl) rfl rfl ?_
            refine .dsk rfl (.g rfl rfl .g0 rfl) rfl rfl ?_
            refine .dsk rfl (.g rfl rfl .g0 rfl) rfl rfl ?_
            refine .dskl rfl (.g rfl rfl .g0 rfl) (fun _ h => h) rfl rfl ?_
            refine .dskl rfl (.g rfl rfl .g0 rfl) (fun _ h => h) rfl rfl ?_
            refine .dsk rfl (.g rfl rfl .g0 rfl) rfl rfl ?_
            refine .dpu rfl (.n rfl) (P.pickF .t0 .k) rfl rfl ?_
            refine .dnil ?_
            cases hj56
            exact .stj () (.cons Mm.m0 (.cons Mm.m1 (.cons Mm.m2 (.cons Mm.m3 (.cons Mm.m4 (.cons Mm.m5 (.cons Mm.m6 (.cons Mm.m7 (.cons Mm.m8 (.cons Mm.m9 .nil)))))))))) (.of (.cons .k0 (.cons .k0 .nil))) (.cons Mm.m0 (.cons Mm.m1 .nil))
        · clear hj56
          refine .cond .t0 (fun c65 => ?_) (fun c65 => ?_)
          · rw [if_pos c65] at hc49
            refine .skip ?_
            refine .then ?_
            refine .block ?_
            refine .reg rfl ?_
            refine .opp (P.mov .g0) rfl ?_
            refine .opp (P.bin .t0 .k .sub) rfl ?_
            refine .drop .k1 ?_
            refine .opp (P.asg .t0) rfl ?_
            refine .nil ?_
            refine .inn ?_
            cases hc49
            obtain ⟨m66, hm67, hn50⟩ := hn50
            exact .rdW (IntKind.i64.wrap (s45 - 1)) () hm67 hn50 (.cons Mm.m0 (.cons Mm.m1 (.cons Mm.m2 (.cons Mm.m3 (.cons Mm.m4 (.cons Mm.m5 (.cons Mm.m6 (.cons Mm.m7 (.cons Mm.m8 .nil))))))))) (.of (.cons .k0 (.cons .k0 .nil))) (.cons Mm.m0 (.cons Mm.m1 .nil))
          · rw [if_neg (ne_true_of_eq_false c65)] at hc49
            refine .exit ?_
            refine .thx ?_
            cases hc49
            refine .told (γ := Unit) hc6 hn50 (fun (s45 : Int) _ => [(14, N s45), (13, pt b12 0), (12, N s2.1), (11, z3), (0, v00), (1, v01), (2, N a2), (3, N a3), (4, N a4)]) (fun (s45 : Int) _ => [blk b12 72 (clock_Stamp.cs ⟨y13.1, y13.2.1, y13.2.2⟩), lst 72 29 z3 (s2.2.map clock_Stamp.cs)]) (fun (s45 : Int) _ => [rows 27 v00 (a0.map api_Event.cs), rows 27 v01 (a1.map api_Event.cs)]) () (.cons Mm.m0 (.cons Mm.m1 (.cons Mm.m2 (.cons Mm.m3 (.cons Mm.m4 (.cons Mm.m5 (.cons Mm.m6 (.cons Mm.m7 (.cons Mm.m8 .nil))))))))) (.of (.cons .k0 (.cons .k0 .nil))) (.cons Mm.m0 (.cons Mm.m1 .nil)) (fun s45 _ hc6' => ?_)
            replace hc6 := hc6'
            refine .thx ?_
            refine .inb ?_
            refine .then ?_
            obtain ⟨hb68, hc6⟩ := grd_eq hc6
            obtain ⟨hb73, hc6⟩ := grd_eq hc6
            obtain ⟨hb80, hc6⟩ := grd_eq hc6
            obtain ⟨hb83, hc6⟩ := grd_eq hc6
            obtain ⟨hb85, hc6⟩ := grd_eq hc6
            refine .dcut (γ := Value × Value × Value × Value × Value × Value × Value) (φ := fun _ => True) (E1 := fun x_ => [(11, x_.2.2.2.2.2.2), (12, N s2.1), (0, v00), (1, v01), (2, N a2), (3, N a3), (4, N a4)]) (L1 := fun x_ => [lst 72 29 x_.2.2.2.2.2.2 (((((((([] : List clock_Stamp) ++ ((slc s2.2 0 (s45).toNat)))) ++ ([⟨y13.1, y13.2.1, y13.2.2⟩] : List clock_Stamp))) ++ ((slc s2.2 (s45).toNat s2.2.length)))).map clock_Stamp.cs), lst 72 29 x_.2.2.2.2.1 [(clock_Stamp.cs ⟨y13.1, y13.2.1, y13.2.2⟩)], blk b12 72 (clock_Stamp.cs ⟨y13.1, y13.2.1, y13.2.2⟩)]) (R1 := fun x_ => [rows 29 x_.2.1 (((slc s2.2 (s45).toNat s2.2.length)).map clock_Stamp.cs), rows 29 x_.1 (((slc s2.2 0 (s45).toNat)).map clock_Stamp.cs), rows 29 z3 (s2.2.map clock_Stamp.cs), rows 27 v00 (a0.map api_Event.cs), rows 27 v01 (a1.map api_Event.cs)]) ?_ (fun x_ _ => ?_)
            · refine .drawl [blk b12 72 (clock_Stamp.cs ⟨y13.1, y13.2.1, y13.2.2⟩)] [rows 27 v00 (a0.map api_Event.cs), rows 27 v01 (a1.map api_Event.cs)] (Ls.of (.cons .k0 .nil)) (Rs.cons Mm.m0 (Rs.cons Mm.m1 Rs.nil)) 13 (.on 1 .pu (.on 2 .pu (.on 3 .pu (.on 8 .pu (.on 9 .pu (.on 10 .pu (.on 5 .ld (.fk 0 6 (.fk 4 6 (.on 6 .go (.on 7 .go (.on 11 .go (.on 12 .go .nl)))) (.on 4 .go (.on 7 .go (.on 11 .go (.on 12 .go .nl))))) (.on 0 .go (.on 4 .go (.on 7 .go (.on 11 .go (.on 12 .go .nl))))))))))))) follows_mixed (.thn (.inb (.thn (.thn (.inb (.thn .body)))))) (by kernel_rfl) ?_
              refine .dpu rfl (.n rfl) (P.mov .g3) rfl rfl ?_
              refine .dpu rfl (.n rfl) (P.mov .g1) rfl rfl ?_
              refine .frz .k1 ?_
              refine .slnq Mm.m0 fun hq72 => ?_
              simp only [List.length_map] at hq72
              refine .dpu rfl (.n rfl) (P.slp (li := none) (hj := (some s45)) (mk := none) .t1 .none (.some .t0) .none hq72 runUnderlying68 sizeOf72 (by simpa using hb68)) rfl rfl ?_
              refine .slgen Mm.m0 (by simpa using hb68) fun u69 => ?_
              refine .rhead (q := rows 29 u69 (((slc s2.2 0 (s45).toNat)).map clock_Stamp.cs)) (fun _ hh => by simpa [slc_map] using hh) ?_
              refine .dpu rfl (.n rfl) (P.mov .g4) rfl rfl ?_
              refine .dpu rfl (.n rfl) (P.mov .t2) rfl rfl ?_
              refine .slnq Mm.m1 fun hq77 => ?_
              simp only [List.length_map] at hq77
              refine .dpu rfl (.n rfl) (P.slp (li := (some s45)) (hj := none) (mk := none) .t1 (.some .t0) .none .none hq77 runUnderlying68 sizeOf72 (by simpa using hb73)) rfl rfl ?_
              refine .slgen Mm.m1 (by simpa using hb73) fun u74 => ?_
              refine .rhead (q := rows 29 u74 (((slc s2.2 (s45).toNat s2.2.length)).map clock_Stamp.cs)) (fun _ hh => by simpa [slc_map] using hh) ?_
              refine .dld rfl (.n rfl) (V.ld (v := Ag (clock_Stamp.cs ⟨y13.1, y13.2.1, y13.2.2⟩)) .t2 .k0 (.agg isAgg72 sizeOf72 rfl rfl)) (fun _ h => (h.imp (Ls.of (.cons .k0 .nil))).ro (Rs.cons Mm.m3 (Rs.cons Mm.m4 Rs.nil))) rfl rfl ?_
              refine .dfk ?_ ?_
              · refine .dgo rfl (.n rfl) (G.bsl0 runUnderlying68 sizeOf72 rfl) (.inr fun _ _ _ h => (h.imp (Ls.of (.cons .k1 .nil))).ro (Rs.cons Mm.m3 (Rs.cons Mm.m4 Rs.nil))) fun u78 _ => ?_
                refine .dfk ?_ ?_
                · refine .dgo rfl (.n rfl) (G.app (by_ := 256) .t0 .t2 .k0 (.inl Mm.m1) runUnderlying68 runUnderlying68 sizeOf72 typeInfo72 rfl rfl zeroValue72 rfl (one_map one_72 _) (by simpa using hb80) rfl) (.inr fun _ _ _ h => (h.imp (Ls.of (.cons .k1 .nil))).ro (Rs.cons Mm.m3 (Rs.cons Mm.m4 Rs.nil))) fun u79 _ => ?_
                  refine .conseq .k0 (q := lst 72 29 u79 (((([] : List clock_Stamp) ++ ((slc s2.2 0 (s45).toNat)))).map clock_Stamp.cs)) (fun _ hh => by simpa [List.map_append] using hh) ?_
                  refine .dgo rfl (.n rfl) (G.bsl (cs := (clock_Stamp.cs ⟨y13.1, y13.2.1, y13.2.2⟩)) .t1 runUnderlying68 sizeOf72 zeroValue72 rfl rfl rfl rfl rfl) (.inr fun _ _ _ h => (h.imp (Ls.of (.cons .k2 .nil))).ro (Rs.cons Mm.m3 (Rs.cons Mm.m4 Rs.nil))) fun u81 _ => ?_
                  refine .dgo rfl (.n rfl) (G.app (by_ := 256) .t1 .t0 .k1 (.inr (.inr ⟨_, Mm.m0⟩)) runUnderlying68 runUnderlying68 sizeOf72 typeInfo72 rfl rfl zeroValue72 rfl rfl (by simpa using hb83) rfl) (.inr fun _ _ _ h => (h.imp (Ls.of (.cons .k2 .nil))).ro (Rs.cons Mm.m3 (Rs.cons Mm.m4 Rs.nil))) fun u82 _ => ?_
                  refine .conseq .k0 (q := lst 72 29 u82 (((((([] : List clock_Stamp) ++ ((slc s2.2 0 (s45).toNat)))) ++ ([⟨y13.1, y13.2.1, y13.2.2⟩] : List clock_Stamp))).map clock_Stamp.cs)) (fun _ hh => by simpa [List.map_append] using hh) ?_
                  refine .dgo rfl (.n rfl) (G.app (by_ := 256) .t0 .t0 .k0 (.inl Mm.m0) runUnderlying68 runUnderlying68 sizeOf72 typeInfo72 rfl rfl zeroValue72 rfl (one_map one_72 _) (by simpa using hb85) rfl) (.inr fun _ _ _ h => (h.imp (Ls.of (.cons .k2 .nil))).ro (Rs.cons Mm.m3 (Rs.cons Mm.m4 Rs.nil))) fun u84 _ => ?_
                  refine .conseq .k0 (q := lst 72 29 u84 (((((((([] : List clock_Stamp) ++ ((slc s2.2 0 (s45).toNat)))) ++ ([⟨y13.1, y13.2.1, y13.2.2⟩] : List clock_Stamp))) ++ ((slc s2.2 (s45).toNat s2.2.length)))).map clock_Stamp.cs)) (fun _ hh => by simpa [List.map_append] using hh) ?_
                  refine .drop .k2 ?_
                  refine .dgo rfl (.n rfl) (OpV.g (OpP.toV (P.asg .t0)) rfl) (.inr fun _ _ _ h => (h.imp (Ls.of (.cons .k2 .nil))).ro (Rs.cons Mm.m3 (Rs.cons Mm.m4 Rs.nil))) fun _ _ => ?_
                  refine .dnil ?_
                  exact .dst ⟨u69, u74, u78, u79, u81, u82, u84⟩ trivial (.cons Mm.m0 (.cons Mm.m1 (.cons Mm.m2 (.cons Mm.m3 (.cons Mm.m4 (.cons Mm.m5 (.cons Mm.m6 .nil))))))) (Ls.of (.cons .k0 (.cons .k0 (.cons .k0 .nil)))) (.cons Mm.m0 (.cons Mm.m1 (.cons Mm.m2 (.cons Mm.m3 (.cons Mm.m4 .nil)))))
                · refine .dgo rfl (.n rfl) (G.bsl (cs := (clock_Stamp.cs ⟨y13.1, y13.2.1, y13.2.2⟩)) .t1 runUnderlying68 sizeOf72 zeroValue72 rfl rfl rfl rfl rfl) (.inr fun _ _ _ h => (h.imp (Ls.of (.cons .k2 .nil))).ro (Rs.cons Mm.m3 (Rs.cons Mm.m4 Rs.nil))) fun u81 _ => ?_
                  refine .dgo rfl (.n rfl) (G.app (by_ := 256) .t1 .t2 .k1 (.inl Mm.m1) runUnderlying68 runUnderlying68 sizeOf72 typeInfo72 rfl rfl zeroValue72 rfl (one_map one_72 _) (by simpa using hb80) rfl) (.inr fun _ _ _ h => (h.imp (Ls.of (.cons .k2 .nil))).ro (Rs.cons Mm.m3 (Rs.cons Mm.m4 Rs.nil))) fun u79 _ => ?_
                  refine .conseq .k0 (q := lst 72 29 u79 (((([] : List clock_Stamp) ++ ((slc s2.2 0 (s45).toNat)))).map clock_Stamp.cs)) (fun _ hh => by simpa [List.map_append] using hh) ?_
                  refine .dgo rfl (.n rfl) (G.app (by_ := 256) .t0 .t0 .k0 (.inr (.inr ⟨_, Mm.m0⟩)) runUnderlying68 runUnderlying68 sizeOf72 typeInfo72 rfl rfl zeroValue72 rfl rfl (by simpa using hb83) rfl) (.inr fun _ _ _ h => (h.imp (Ls.of (.cons .k2 .nil))).ro (Rs.cons Mm.m3 (Rs.cons Mm.m4 Rs.nil))) fun u82 _ => ?_
                  refine .conseq .k0 (q := lst 72 29 u82 (((((([] : List clock_Stamp) ++ ((slc s2.2 0 (s45).toNat)))) ++ ([⟨y13.1, y13.2.1, y13.2.2⟩] : List clock_Stamp))).map clock_Stamp.cs)) (fun _ hh => by simpa [List.map_append] using hh) ?_
                  refine .dgo rfl (.n rfl) (G.app (by_ := 256) .t0 .t0 .k0 (.inl Mm.m0) runUnderlying68 runUnderlying68 sizeOf72 typeInfo72 rfl rfl zeroValue72 rfl (one_map one_72 _) (by simpa using hb85) rfl) (.inr fun _ _ _ h => (h.imp (Ls.of (.cons .k2 .nil))).ro (Rs.cons Mm.m3 (Rs.cons Mm.m4 Rs.nil))) fun u84 _ => ?_
                  refine .conseq .k0 (q := lst 72 29 u84 (((((((([] : List clock_Stamp) ++ ((slc s2.2 0 (s45).toNat)))) ++ ([⟨y13.1, y13.2.1, y13.2.2⟩] : List clock_Stamp))) ++ ((slc s2.2 (s45).toNat s2.2.length)))).map clock_Stamp.cs)) (fun _ hh => by simpa [List.map_append] using hh) ?_
                  refine .drop .k2 ?_
                  refine .dgo rfl (.n rfl) (OpV.g (OpP.toV (P.asg .t0)) rfl) (.inr fun _ _ _ h => (h.imp (Ls.of (.cons .k2 .nil))).ro (Rs.cons Mm.m3 (Rs.cons Mm.m4 Rs.nil))) fun _ _ => ?_
                  refine .dnil ?_
                  exact .dst ⟨u69, u74, u78, u79, u81, u82, u84⟩ trivial (.cons Mm.m0 (.cons Mm.m1 (.cons Mm.m2 (.cons Mm.m3 (.cons Mm.m4 (.cons Mm.m5 (.cons Mm.m6 .nil))))))) (Ls.of (.cons .k0 (.cons .k0 (.cons .k0 .nil)))) (.cons Mm.m0 (.cons Mm.m1 (.cons Mm.m2 (.cons Mm.m3 (.cons Mm.m4 .nil)))))
              · refine .dgo rfl (.n rfl) (G.bsl (cs := (clock_Stamp.cs ⟨y13.1, y13.2.1, y13.2.2⟩)) .t0 runUnderlying68 sizeOf72 zeroValue72 rfl rfl rfl rfl rfl) (.inr fun _ _ _ h => (h.imp (Ls.of (.cons .k1 .nil))).ro (Rs.cons Mm.m3 (Rs.cons Mm.m4 Rs.nil))) fun u81 _ => ?_
                refine .dgo rfl (.n rfl) (G.bsl0 runUnderlying68 sizeOf72 rfl) (.inr fun _ _ _ h => (h.imp (Ls.of (.cons .k2 .nil))).ro (Rs.cons Mm.m3 (Rs.cons Mm.m4 Rs.nil))) fun u78 _ => ?_
                refine .dgo rfl (.n rfl) (G.app (by_ := 256) .t0 .t2 .k0 (.inl Mm.m1) runUnderlying68 runUnderlying68 sizeOf72 typeInfo72 rfl rfl zeroValue72 rfl (one_map one_72 _) (by simpa using hb80) rfl) (.inr fun _ _ _ h => (h.imp (Ls.of (.cons .k2 .nil))).ro (Rs.cons Mm.m3 (Rs.cons Mm.m4 Rs.nil))) fun u79 _ => ?_
                refine .conseq .k0 (q := lst 72 29 u79 (((([] : List clock_Stamp) ++ ((slc s2.2 0 (s45).toNat)))).map clock_Stamp.cs)) (fun _ hh => by simpa [List.map_append] using hh) ?_
                refine .dgo rfl (.n rfl) (G.app (by_ := 256) .t0 .t0 .k0 (.inr (.inr ⟨_, Mm.m0⟩)) runUnderlying68 runUnderlying68 sizeOf72 typeInfo72 rfl rfl zeroValue72 rfl rfl (by simpa using hb83) rfl) (.inr fun _ _ _ h => (h.imp (Ls.of (.cons .k2 .nil))).ro (Rs.cons Mm.m3 (Rs.cons Mm.m4 Rs.nil))) fun u82 _ => ?_
                refine .conseq .k0 (q := lst 72 29 u82 (((((([] : List clock_Stamp) ++ ((slc s2.2 0 (s45).toNat)))) ++ ([⟨y13.1, y13.2.1, y13.2.2⟩] : List clock_Stamp))).map clock_Stamp.cs)) (fun _ hh => by simpa [List.map_append] using hh) ?_
                refine .dgo rfl (.n rfl) (G.app (by_ := 256) .t0 .t0 .k0 (.inl Mm.m0) runUnderlying68 runUnderlying68 sizeOf72 typeInfo72 rfl rfl zeroValue72 rfl (one_map one_72 _) (by simpa using hb85) rfl) (.inr fun _ _ _ h => (h.imp (Ls.of (.cons .k2 .nil))).ro (Rs.cons Mm.m3 (Rs.cons Mm.m4 Rs.nil))) fun u84 _ => ?_
                refine .conseq .k0 (q := lst 72 29 u84 (((((((([] : List clock_Stamp) ++ ((slc s2.2 0 (s45).toNat)))) ++ ([⟨y13.1, y13.2.1, y13.2.2⟩] : List clock_Stamp))) ++ ((slc s2.2 (s45).toNat s2.2.length)))).map clock_Stamp.cs)) (fun _ hh => by simpa [List.map_append] using hh) ?_
                refine .drop .k2 ?_
                refine .dgo rfl (.n rfl) (OpV.g (OpP.toV (P.asg .t0)) rfl) (.inr fun _ _ _ h => (h.imp (Ls.of (.cons .k2 .nil))).ro (Rs.cons Mm.m3 (Rs.cons Mm.m4 Rs.nil))) fun _ _ => ?_
                refine .dnil ?_
                exact .dst ⟨u69, u74, u78, u79, u81, u82, u84⟩ trivial (.cons Mm.m0 (.cons Mm.m1 (.cons Mm.m2 (.cons Mm.m3 (.cons Mm.m4 (.cons Mm.m5 (.cons Mm.m6 .nil))))))) (Ls.of (.cons .k0 (.cons .k0 (.cons .k0 .nil)))) (.cons Mm.m0 (.cons Mm.m1 (.cons Mm.m2 (.cons Mm.m3 (.cons Mm.m4 .nil)))))
            · obtain ⟨u69, u74, u78, u79, u81, u82, u84⟩ := x_
              refine .inn ?_
              refine .then ?_
              refine .reg rfl ?_
              refine .opp (P.mov .g1) rfl ?_
              refine .opp (P.bin .t0 .k .add) rfl ?_
              refine .drop .k2 ?_
              refine .opp (P.asg .t0) rfl ?_
              refine .nil ?_
              cases hc6
              obtain ⟨m86, hm87, hn7⟩ := hn7
              exact .rdW ((IntKind.i64.wrap (s2.1 + 1), (((((([] : List clock_Stamp) ++ ((slc s2.2 0 (s45).toNat)))) ++ ([⟨y13.1, y13.2.1, y13.2.2⟩] : List clock_Stamp))) ++ ((slc s2.2 (s45).toNat s2.2.length))))) u84 hm87 hn7 (.cons Mm.m0 (.cons Mm.m1 (.cons Mm.m2 (.cons Mm.m3 (.cons Mm.m4 (.cons Mm.m5 (.cons Mm.m6 .nil))))))) (.of (.cons .k0 .nil)) (.cons Mm.m3 (.cons Mm.m4 .nil))
    · rw [if_neg (ne_true_of_eq_false c11)] at hc6
      refine .exit ?_
      refine .thx ?_
      cases hc6
      refine .told (γ := Value) h hn7 (fun (s2 : Int × (List clock_Stamp)) z3 => [(12, N s2.1), (11, z3), (0, v00), (1, v01), (2, N a2), (3, N a3), (4, N a4)]) (fun (s2 : Int × (List clock_Stamp)) z3 => [lst 72 29 z3 (s2.2.map clock_Stamp.cs)]) (fun (s2 : Int × (List clock_Stamp)) z3 => [rows 27 v00 (a0.map api_Event.cs), rows 27 v01 (a1.map api_Event.cs)]) z3 (.cons Mm.m0 (.cons Mm.m1 (.cons Mm.m2 (.cons Mm.m3 (.cons Mm.m4 (.cons Mm.m5 (.cons Mm.m6 .nil))))))) (.of (.cons .k0 .nil)) (.cons Mm.m0 (.cons Mm.m1 .nil)) (fun s2 z3 h' => ?_)
      replace h := h'
      refine .thx ?_
      refine .inb ?_
      refine .then ?_
      refine .seq ?_
      refine .reg rfl ?_
      refine .opp (P.mov .t2) rfl ?_
      refine .opp (P.mov .t3) rfl ?_
      refine .opp (P.mov .g4) rfl ?_
      obtain ⟨r88, hr89, h⟩ := bnd_eq h
      refine .opg (G.call call30 (.cons .t2 (.cons .t1 (.cons .t0 .nil))) (S_clock_Merge v00 a0 v01 a1 a2 r88 hr89) .nil (.cons Mm.m0 (.cons Mm.m1 .nil)) (fun _ _ => rfl) (fun _ _ => rfl) rfl) rfl fun u90 _ => ?_
      refine .opp (P.asg .t0) rfl ?_
      refine .nil ?_
      refine .then ?_
      refine .seq ?_
      refine .seq ?_
      refine .reg rfl ?_
      refine .opp (P.mov .g0) rfl ?_
      refine .op (V.lnl (n := r88.length) .t0 .k0 map_len runUnderlying68) rfl ?_
      refine .opp (P.mov .g3) rfl ?_
      refine .op (V.lnl (n := s2.2.length) .t0 .k1 map_len runUnderlying68) rfl ?_
      refine .opp (P.bin .t1 .t0 .neq) rfl ?_
      refine .nil ?_
      refine .then ?_
      refine .cond .t0 (fun c91 => ?_) (fun c91 => ?_)
      · rw [if_pos c91] at h
        refine .seq ?_
        refine .reg rfl ?_
        refine .opp (P.asg .k) rfl ?_
        refine .nil ?_
        refine .then ?_
        refine .ret ?_
        refine .thr ?_
        cases h
        exact .finw () (.r1 rfl (.tmp .g0)) trivial (Ls.of .nil) .nil
      · rw [if_neg (ne_true_of_eq_false c91)] at h
        refine .skip ?_
        refine .then ?_
        refine .seq ?_
        refine .reg rfl ?_
        refine .opp (P.asg .k) rfl ?_
        refine .opp (P.asg .k) rfl ?_
        refine .nil ?_
        refine .then ?_
        refine .seq ?_
        refine .seq ?_
        refine .reg rfl ?_
        refine .opp (P.asg .k) rfl ?_
        refine .nil ?_
        refine .then ?_
        refine .block ?_
        obtain ⟨o94, ho95, h⟩ := bnd_eq h
        refine .loopW (γ := Unit) (fun (s92 : Int × Int × Int) z93 => [(18, N s92.1), (17, N s92.2.1), (16, N s92.2.2), (15, u90), (11, z3), (2, N a2), (3, N a3), (4, N a4)]) (fun (s92 : Int × Int × Int) z93 => [lst 72 29 u90 (r88.map clock_Stamp.cs), lst 72 29 z3 (s2.2.map clock_Stamp.cs)]) (fun (s92 : Int × Int × Int) z93 => [rows 27 v00 (a0.map api_Event.cs), rows 27 v01 (a1.map api_Event.cs)]) () ho95 (.cons Mm.m0 (.cons Mm.m1 (.cons Mm.m2 (.cons Mm.m3 (.cons Mm.m5 (.cons Mm.m6 (.cons Mm.m7 (.cons Mm.m8 .nil)))))))) (.of (.cons .k0 (.cons .k0 .nil))) (.cons Mm.m0 (.cons Mm.m1 .nil)) (fun n100 s92 z93 hr98 => ?_)
        obtain ⟨ct99, hc96, hn97⟩ := loopK_at hr98
        refine .seq ?_
        refine .seq ?_
        refine .reg rfl ?_
        refine .opp (P.mov .g0) rfl ?_
        refine .opp (P.mov .g5) rfl ?_
        refine .op (V.lnl (n := s2.2.length) .t0 .k1 map_len runUnderlying68) rfl ?_
        refine .opp (P.bin .t1 .t0 .lss) rfl ?_
        refine .nil ?_
        refine .then ?_
        refine .cond .t0 (fun c101 => ?_) (fun c101 => ?_)
        · rw [if_pos c101] at hc96
          refine .skip ?_
          refine .then ?_
          obtain ⟨o188, hj104, hc96⟩ := bnd_eq hc96
          refine .cuto (γ := Unit) hc96 (E1 := fun (y102 : Int × Int) _ => [(17, N y102.1), (16, N y102.2), (18, N s92.1), (15, u90), (11, z3), (2, N a2), (3, N a3), (4, N a4)]) (L1 := fun (y102 : Int × Int) _ => [lst 72 29 u90 (r88.map clock_Stamp.cs), lst 72 29 z3 (s2.2.map clock_Stamp.cs)]) (R1 := fun (y102 : Int × Int) _ => [rows 27 v00 (a0.map api_Event.cs), rows 27 v01 (a1.map api_Event.cs)]) ?_ (fun y102 _ hc96' => ?_)
          · refine .block ?_
            refine .seq ?_
            obtain ⟨y105, hj107, hj104⟩ := bnd_eq hj104
            refine .cutx (γ := Unit) (E1 := fun z106 => [(140, Bo y105), (18, N s92.1), (17, N s92.2.1), (16, N s92.2.2), (15, u90), (11, z3), (2, N a2), (3, N a3), (4, N a4)]) (L1 := fun z106 => [lst 72 29 u90 (r88.map clock_Stamp.cs), lst 72 29 z3 (s2.2.map clock_Stamp.cs)]) (R1 := fun z106 => [rows 27 v00 (a0.map api_Event.cs), rows 27 v01 (a1.map api_Event.cs)]) ?_ (fun z106 => ?_)
            · clear hj104
              refine .draw 30 (.on 0 .pu (.on 1 .pu (.on 2 .pu (.on 4 .pu (.on 5 .pu (.on 6 .pu (.on 3 .ld (.on 7 .ld (.on 8 .pu (.on 9 .pu (.on 10 .pu (.on 11 .pu (.on 12 .pu (.on 13 .pu (.on 14 .pu (.on 16 .pu (.on 17 .pu (.on 18 .pu (.on 19 .pu (.on 21 .pu (.on 23 .pu (.on 24 .pu (.on 25 .pu (.on 26 .pu (.on 15 .ld (.on 20 .ld (.on 27 .ld (.on 22 .go (.on 28 .pu (.on 29 .pu .nl)))))))))))))))))))))))))))))) follows_mixed (.thn (.thn (.inb (.thn (.thn (.inb (.thn .body))))))) (by kernel_rfl) ?_
              refine .dpu rfl (.n rfl) (P.mov .g3) rfl rfl ?_
              refine .dpu rfl (.n rfl) (P.mov .g1) rfl rfl ?_
              obtain ⟨x111, hx112, hj107⟩ := bnd_eq hj107
              obtain ⟨i113, hi114, hx112⟩ := at_eq hx112
              have hi114_ : (s92.1).toNat = i113 := by rw [hi114]; rfl
              refine .ixql .k0 (map_get hx112) fun p108 q109 hq110 => ?_
              refine .dpu rfl (.n rfl) (P.ixi (i := i113) .t0 hi114 .t0 hq110 runUnderlying68 sizeOf72) rfl rfl ?_
              refine .dpu rfl (.n rfl) (P.mov .g5) rfl rfl ?_
              refine .dpu rfl (.n rfl) (P.mov .g2) rfl rfl ?_
              obtain ⟨x118, hx119, hj107⟩ := bnd_eq hj107
              obtain ⟨i120, hi121, hx119⟩ := at_eq hx119
              have hi121_ : (s92.1).toNat = i120 := by rw [hi121]; rfl
              refine .ixql .k1 (map_get hx119) fun p115 q116 hq117 => ?_
              refine .dpu rfl (.n rfl) (P.ixi (i := i120) .t0 hi121 .t0 hq117 runUnderlying68 sizeOf72) rfl rfl ?_
              refine .dld rfl (.n rfl) (V.ldxl0 (u := Ag (clock_Stamp.cs x111)) .t1 hq110 .k0 (map_get hx112) (.agg isAgg72 sizeOf72 rfl rfl)) (fun _ h => h) rfl rfl ?_
              refine .dld rfl (.n rfl) (V.ldxl0 (u := Ag (clock_Stamp.cs x118)) .t1 hq117 .k1 (map_get hx119) (.agg isAgg72 sizeOf72 rfl rfl)) (fun _ h => h) rfl rfl ?_
              refine .dpu rfl (.n rfl) (P.bin .t1 .t0 (eq_72_neq _ _)) rfl rfl ?_
              refine .dpu rfl (.n rfl) (P.mov .t0) rfl rfl ?_
              refine .split .k0 (fun c122 => ?_) (fun c122 => ?_)
              · rw [if_pos c122] at hj107
                refine .dsk rfl (.g rfl rfl .g0 rfl) rfl rfl ?_
                refine .dsk rfl (.g rfl rfl .g0 rfl) rfl rfl ?_
                refine .dsk rfl (.g rfl rfl .g0 rfl) rfl rfl ?_
                refine .dsk rfl (.g rfl rfl .g0 rfl) rfl rfl ?_
                refine .dsk rfl (.g rfl rfl .g0 rfl) rfl rfl ?_
                refine .dsk rfl (.g rfl rfl .g0 rfl) rfl rfl ?_
                refine .dsk rfl (.g rfl rfl .g0 rfl) rfl rfl ?_
                refine .dsk rfl (.g rfl rfl .g0 rfl) rfl rfl ?_
                refine .dsk rfl (.g rfl rfl .g0 rfl) rfl rfl ?_
                refine .dsk rfl (.g rfl rfl .g0 rfl) rfl rfl ?_
                refine .dsk rfl (.g rfl rfl .g0 rfl) rfl rfl ?_
                refine .dsk rfl (.g rfl rfl .g0 rfl) rfl rfl ?_
                refine .dsk rfl (.g rfl rfl .g0 rfl) rfl rfl ?_
                refine .dsk rfl (.g rfl rfl .g0 rfl) rfl rfl ?_
                refine .dskl rfl (.g rfl rfl .g0 rfl) (fun _ h => h) rfl rfl ?_
                refine .dskl rfl (.g rfl rfl .g0 rfl) (fun _ h => h) rfl rfl ?_
                refine .dskl rfl (.g rfl rfl .g0 rfl) (fun _ h => h) rfl rfl ?_
                refine .dskg rfl (.g rfl rfl .g0 rfl) (.inr fun _ h => h) rfl rfl ?_
                refine .dsk rfl (.g rfl rfl .g0 rfl) rfl rfl ?_
                refine .dpu rfl (.n rfl) (P.pickT .t0 .k) rfl rfl ?_
                refine .dnil ?_
                cases hj107
                exact .stj () (.cons Mm.m0 (.cons Mm.m1 (.cons Mm.m2 (.cons Mm.m3 (.cons Mm.m4 (.cons Mm.m5 (.cons Mm.m6 (.cons Mm.m7 (.cons Mm.m8 .nil))))))))) (.of (.cons .k0 (.cons .k0 .nil))) (.cons Mm.m0 (.cons Mm.m1 .nil))
              · rw [if_neg (ne_true_of_eq_false c122)] at hj107
                refine .dpu rfl (.g rfl rfl .g0 rfl) (P.mov .g4) rfl rfl ?_
                refine .dpu rfl (.g rfl rfl .g1 rfl) (P.mov .g2) rfl rfl ?_
                obtain ⟨x126, hx127, hj107⟩ := bnd_eq hj107
                obtain ⟨i128, hi129, hx127⟩ := at_eq hx127
                have hi129_ : (s92.1).toNat = i128 := by rw [hi129]; rfl
                refine .ixql .k0 (map_get hx127) fun p123 q124 hq125 => ?_
                refine .dpu rfl (.g rfl rfl .g2 rfl) (P.ixi (i := i128) .t0 hi129 .t0 hq125 runUnderlying68 sizeOf72) rfl rfl ?_
                refine .dpu rfl (.g rfl rfl .g1 rfl) (P.fa (off' := q124 + 2) .t0 fa_72_2 rfl) rfl rfl ?_
                refine .dpu rfl (.g rfl rfl .g1 rfl) (P.fa (off' := q124 + 2) .t0 fa_38_0 rfl) rfl rfl ?_
                refine .dpu rfl (.g rfl rfl .g1 rfl) (P.mov .g5) rfl rfl ?_
                refine .dpu rfl (.g rfl rfl .g2 rfl) (P.mov .g3) rfl rfl ?_
                obtain ⟨x133, hx134, hj107⟩ := bnd_eq hj107
                obtain ⟨i135, hi136, hx134⟩ := at_eq hx134
                have hi136_ : (s92.1).toNat = i135 := by rw [hi136]; rfl
                refine .ixql .k0 (map_get hx134) fun p130 q131 hq132 => ?_
                refine .dpu rfl (.g rfl rfl .g3 rfl) (P.ixi (i := i135) .t0 hi136 .t0 hq132 runUnderlying68 sizeOf72) rfl rfl ?_
                refine .dpu rfl (.g rfl rfl .g2 rfl) (P.fa (off' := q131 + 1) .t0 fa_72_1 rfl) rfl rfl ?_
                refine .dpu rfl (.g rfl rfl .g2 rfl) (P.mov .g8) rfl rfl ?_
                refine .dpu rfl (.g rfl rfl .g3 rfl) (P.mov .g7) rfl rfl ?_
                refine .dpu rfl (.g rfl rfl .g4 rfl) (P.mov .g5) rfl rfl ?_
                obtain ⟨x140, hx141, hj107⟩ := bnd_eq hj107
                obtain ⟨i142, hi143, hx141⟩ := at_eq hx141
                have hi143_ : (s92.1).toNat = i142 := by rw [hi143]; rfl
                refine .ixql .k0 (map_get hx141) fun p137 q138 hq139 => ?_
                refine .dpu rfl (.g rfl rfl .g5 rfl) (P.ixi (i := i142) .t0 hi143 .t0 hq139 runUnderlying68 sizeOf72) rfl rfl ?_
                refine .dpu rfl (.g rfl rfl .g4 rfl) (P.fa (off' := q138) .t0 fa_72_0 rfl) rfl rfl ?_
                refine .dld rfl (.g rfl rfl .g4 rfl) (V.ldxl (u := N x126.Event.Time) (off := q124) (k := 2) .t3 hq125 .k0 (map_get hx127) (.one isAgg3 rfl)) (fun _ h => h) rfl rfl ?_
                refine .dld rfl (.g rfl rfl .g4 rfl) (V.ldxl (u := N x133.Side) (off := q131) (k := 1) .t3 hq132 .k0 (map_get hx134) (.one isAgg3 rfl)) (fun _ h => h) rfl rfl ?_
                refine .dld rfl (.g rfl rfl .g4 rfl) (V.ldxl0 (u := N x140.Tick) .t2 hq139 .k0 (map_get hx141) (.one isAgg3 rfl)) (fun _ h => h) rfl rfl ?_
                refine .dgo rfl (.g rfl rfl .g4 rfl) (G.call call32 (.cons .t2 (.cons .t1 (.cons .t1 .nil))) (S_clock_Ticks x126.Event.Time x133.Side a2 _ rfl) .nil .nil (fun _ _ => rfl) (fun _ _ => rfl) rfl) (.inr fun _ _ _ h => h) fun _ _ => ?_
                refine .dpu rfl (.g rfl rfl .g2 rfl) (P.bin .t0 .t0 .neq) rfl rfl ?_
                refine .dpu rfl (.n rfl) (P.pickF .t1 .t0) rfl rfl ?_
                refine .dnil ?_
                cases hj107
                exact .stj () (.cons Mm.m0 (.cons Mm.m1 (.cons Mm.m2 (.cons Mm.m3 (.cons Mm.m4 (.cons Mm.m5 (.cons Mm.m6 (.cons Mm.m7 (.cons Mm.m8 .nil))))))))) (.of (.cons .k0 (.cons .k0 .nil))) (.cons Mm.m0 (.cons Mm.m1 .nil))
            · clear hj107
              refine .cond .t0 (fun c144 => ?_) (fun c144 => ?_)
              · rw [if_pos c144] at hj104
                refine .seq ?_
                refine .reg rfl ?_
                refine .opp (P.asg .k) rfl ?_
                refine .nil ?_
                refine .then ?_
                refine .ret ?_
                refine .thr ?_
                refine .inr ?_
                obtain ⟨x145, hx146, rfl⟩ := map_lrt hj104
                obtain rfl := rt_on hc96
                refine .thr ?_
                obtain ⟨x147, hx148, rfl⟩ := map_rt hx146
                obtain rfl := hn97
                obtain rfl := rt_on h
                refine .thr ?_
                refine .inr ?_
                refine .thr ?_
                cases hx148
                exact .finw () (.r1 rfl (.tmp .g0)) trivial (Ls.of .nil) .nil
              · rw [if_neg (ne_true_of_eq_false c144)] at hj104
                refine .skip ?_
                refine .then ?_
                obtain ⟨y149, hj151, hj104⟩ := bnd_eq hj104
                refine .cutx (γ := Unit) (E1 := fun z150 => [(16, N y149), (18, N s92.1), (17, N s92.2.1), (15, u90), (11, z3), (2, N a2), (3, N a3), (4, N a4)]) (L1 := fun z150 => [lst 72 29 u90 (r88.map clock_Stamp.cs), lst 72 29 z3 (s2.2.map clock_Stamp.cs)]) (R1 := fun z150 => [rows 27 v00 (a0.map api_Event.cs), rows 27 v01 (a1.map api_Event.cs)]) ?_ (fun z150 => ?_)
                · clear hj104
                  obtain ⟨y152, hj154, hj151⟩ := bnd_eq hj151
                  refine .cutx (γ := Unit) (E1 := fun z153 => [(156, Bo y152), (18, N s92.1), (17, N s92.2.1), (16, N s92.2.2), (15, u90), (11, z3), (2, N a2), (3, N a3), (4, N a4)]) (L1 := fun z153 => [lst 72 29 u90 (r88.map clock_Stamp.cs), lst 72 29 z3 (s2.2.map clock_Stamp.cs)]) (R1 := fun z153 => [rows 27 v00 (a0.map api_Event.cs), rows 27 v01 (a1.map api_Event.cs)]) ?_ (fun z153 => ?_)
                  · clear hj151
                    refine .reg rfl ?_
                    refine .opp (P.mov .g4) rfl ?_
                    refine .opp (P.mov .g1) rfl ?_
                    obtain ⟨x158, hx159, hj154⟩ := bnd_eq hj154
                    obtain ⟨i160, hi161, hx159⟩ := at_eq hx159
                    have hi161_ : (s92.1).toNat = i160 := by rw [hi161]; rfl
                    refine .ixql .k1 (map_get hx159) fun p155 q156 hq157 => ?_
                    refine .opp (P.ixi (i := i160) .t0 hi161 .t0 hq157 runUnderlying68 sizeOf72) rfl ?_
                    refine .opp (P.fa (off' := q156) .t0 fa_72_0 rfl) rfl ?_
                    refine .op (V.ldxl0 (u := N x158.Tick) .t0 hq157 .k1 (map_get hx159) (.one isAgg3 rfl)) rfl ?_
                    refine .opp (P.mov .g7) rfl ?_
                    refine .opp (P.bin .t1 .t0 .geq) rfl ?_
                    refine .opp (P.mov .t0) rfl ?_
                    refine .split .k0 (fun c162 => ?_) (fun c162 => ?_)
                    · rw [if_pos c162] at hj154
                      refine .gyes rfl .g0 ?_
                      refine .opp (P.mov .g5) rfl ?_
                      refine .gyes rfl .g1 ?_
                      refine .opp (P.mov .g2) rfl ?_
                      refine .gyes rfl .g2 ?_
                      obtain ⟨x166, hx167, hj154⟩ := bnd_eq hj154
                      obtain ⟨i168, hi169, hx167⟩ := at_eq hx167
                      have hi169_ : (s92.1).toNat = i168 := by rw [hi169]; rfl
                      refine .ixql .k1 (map_get hx167) fun p163 q164 hq165 => ?_
                      refine .opp (P.ixi (i := i168) .t0 hi169 .t0 hq165 runUnderlying68 sizeOf72) rfl ?_
                      refine .gyes rfl .g1 ?_
                      refine .opp (P.fa (off' := q164) .t0 fa_72_0 rfl) rfl ?_
                      refine .gyes rfl .g1 ?_
                      refine .op (V.ldxl0 (u := N x166.Tick) .t0 hq165 .k1 (map_get hx167) (.one isAgg3 rfl)) rfl ?_
                      refine .gyes rfl .g1 ?_
                      refine .opp (P.mov .g9) rfl ?_
                      refine .gyes rfl .g2 ?_
                      refine .opp (P.bin .t1 .t0 .lss) rfl ?_
                      refine .opp (P.pickT .t1 .t0) rfl ?_
                      refine .nil ?_
                      cases hj154
                      exact .stj () (.cons Mm.m0 (.cons Mm.m1 (.cons Mm.m2 (.cons Mm.m3 (.cons Mm.m4 (.cons Mm.m5 (.cons Mm.m6 (.cons Mm.m7 (.cons Mm.m8 .nil))))))))) (.of (.cons .k0 (.cons .k0 .nil))) (.cons Mm.m0 (.cons Mm.m1 .nil))
                    · rw [if_neg (ne_true_of_eq_false c162)] at hj154
                      refine .gno rfl .g0 rfl rfl ?_
                      refine .gno rfl .g0 rfl rfl ?_
                      refine .gno rfl .g0 rfl rfl ?_
                      refine .gno rfl .g0 rfl rfl ?_
                      refine .gno rfl .g0 rfl rfl ?_
                      refine .gno rfl .g0 rfl rfl ?_
                      refine .gno rfl .g0 rfl rfl ?_
                      refine .opp (P.pickF .t0 .k) rfl ?_
                      refine .nil ?_
                      cases hj154
                      exact .stj () (.cons Mm.m0 (.cons Mm.m1 (.cons Mm.m2 (.cons Mm.m3 (.cons Mm.m4 (.cons Mm.m5 (.cons Mm.m6 (.cons Mm.m7 (.cons Mm.m8 .nil))))))))) (.of (.cons .k0 (.cons .k0 .nil))) (.cons Mm.m0 (.cons Mm.m1 .nil))
                  · clear hj154
                    refine .cond .t0 (fun c170 => ?_) (fun c170 => ?_)
                    · rw [if_pos c170] at hj151
                      refine .reg rfl ?_
                      refine .opp (P.mov .g2) rfl ?_
                      refine .opp (P.bin .t0 .k .add) rfl ?_
                      refine .drop .k3 ?_
                      refine .opp (P.asg .t0) rfl ?_
                      refine .nil ?_
                      cases hj151
                      exact .stj () (.cons Mm.m0 (.cons Mm.m1 (.cons Mm.m2 (.cons Mm.m3 (.cons Mm.m4 (.cons Mm.m5 (.cons Mm.m6 (.cons Mm.m7 .nil)))))))) (.of (.cons .k0 (.cons .k0 .nil))) (.cons Mm.m0 (.cons Mm.m1 .nil))
                    · rw [if_neg (ne_true_of_eq_false c170)] at hj151
                      refine .skip ?_
                      cases hj151
                      exact .stj () (.cons Mm.m2 (.cons Mm.m0 (.cons Mm.m1 (.cons Mm.m3 (.cons Mm.m4 (.cons Mm.m5 (.cons Mm.m6 (.cons Mm.m7 .nil)))))))) (.of (.cons .k0 (.cons .k0 .nil))) (.cons Mm.m0 (.cons Mm.m1 .nil))
                · clear hj151
                  refine .seq ?_
                  refine .reg rfl ?_
                  refine .opp (P.mov .g1) rfl ?_
                  refine .opp (P.bin .t0 .k .gtr) rfl ?_
                  refine .nil ?_
                  refine .then ?_
                  refine .cond .t0 (fun c171 => ?_) (fun c171 => ?_)
                  · rw [if_pos c171] at hj104
                    refine .draw 15 (.on 0 .pu (.on 1 .pu (.on 2 .pu (.on 3 .pu (.on 4 .pu (.on 6 .pu (.on 7 .pu (.on 8 .pu (.on 9 .pu (.on 10 .pu (.on 5 .ld (.on 11 .ld (.on 12 .pu (.on 13 .pu (.on 14 .go .nl))))))))))))))) follows_mixed (.inb (.thn (.thn (.inb (.thn .body))))) (by kernel_rfl) ?_
                    refine .dpu rfl (.n rfl) (P.mov .g2) rfl rfl ?_
                    refine .dpu rfl (.n rfl) (P.mov .g5) rfl rfl ?_
                    refine .dpu rfl (.n rfl) (P.mov .g3) rfl rfl ?_
                    obtain ⟨x175, hx176, hj104⟩ := bnd_eq hj104
                    obtain ⟨i177, hi178, hx176⟩ := at_eq hx176
                    have hi178_ : (s92.1).toNat = i177 := by rw [hi178]; rfl
                    refine .ixql .k1 (map_get hx176) fun p172 q173 hq174 => ?_
                    refine .dpu rfl (.n rfl) (P.ixi (i := i177) .t0 hi178 .t0 hq174 runUnderlying68 sizeOf72) rfl rfl ?_
                    refine .dpu rfl (.n rfl) (P.fa (off' := q173) .t0 fa_72_0 rfl) rfl rfl ?_
                    refine .dpu rfl (.n rfl) (P.mov .g6) rfl rfl ?_
                    refine .dpu rfl (.n rfl) (P.mov .g4) rfl rfl ?_
                    refine .dpu rfl (.n rfl) (P.bin .t0 .k .sub) rfl rfl ?_
                    obtain ⟨x182, hx183, hj104⟩ := bnd_eq hj104
                    obtain ⟨i184, hi185, hx183⟩ := at_eq hx183
                    have hi185_ : (IntKind.i64.wrap (s92.1 - 1)).toNat = i184 := by rw [hi185]; rfl
                    refine .ixql .k1 (map_get hx183) fun p179 q180 hq181 => ?_
                    refine .dpu rfl (.n rfl) (P.ixi (i := i184) .t0 hi185 .t0 hq181 runUnderlying68 sizeOf72) rfl rfl ?_
                    refine .dpu rfl (.n rfl) (P.fa (off' := q180) .t0 fa_72_0 rfl) rfl rfl ?_
                    refine .dld rfl (.n rfl) (V.ldxl0 (u := N x175.Tick) .t1 hq174 .k1 (map_get hx176) (.one isAgg3 rfl)) (fun _ h => h) rfl rfl ?_
                    refine .dld rfl (.n rfl) (V.ldxl0 (u := N x182.Tick) .t1 hq181 .k1 (map_get hx183) (.one isAgg3 rfl)) (fun _ h => h) rfl rfl ?_
                    refine .dpu rfl (.n rfl) (P.bin .t1 .t0 .sub) rfl rfl ?_
                    refine .dpu rfl (.n rfl) (P.max2 .t1 .t0) rfl rfl ?_
                    refine .drop .k3 ?_
                    refine .dgo rfl (.n rfl) (OpV.g (OpP.toV (P.asg .t0)) rfl) (.inr fun _ _ _ h => h) fun _ _ => ?_
                    refine .dnil ?_
                    refine .inn ?_
                    cases hj104
                    exact .sty ⟨if IntKind.i64.wrap (x175.Tick - x182.Tick) > s92.2.1 then IntKind.i64.wrap (x175.Tick - x182.Tick) else s92.2.1, y149⟩ () (dn_on hc96) (.cons Mm.m0 (.cons Mm.m1 (.cons Mm.m2 (.cons Mm.m3 (.cons Mm.m4 (.cons Mm.m5 (.cons Mm.m6 (.cons Mm.m7 .nil)))))))) (.of (.cons .k0 (.cons .k0 .nil))) (.cons Mm.m0 (.cons Mm.m1 .nil))
                  · rw [if_neg (ne_true_of_eq_false c171)] at hj104
                    refine .skip ?_
                    refine .inn ?_
                    cases hj104
                    exact .sty ⟨s92.2.1, y149⟩ () (dn_on hc96) (.cons Mm.m2 (.cons Mm.m0 (.cons Mm.m1 (.cons Mm.m3 (.cons Mm.m4 (.cons Mm.m5 (.cons Mm.m6 (.cons Mm.m7 .nil)))))))) (.of (.cons .k0 (.cons .k0 .nil))) (.cons Mm.m0 (.cons Mm.m1 .nil))
          · replace hc96 := hc96'
            refine .reg rfl ?_
            refine .opp (P.mov .g2) rfl ?_
            refine .opp (P.bin .t0 .k .add) rfl ?_
            refine .drop .k3 ?_
            refine .opp (P.asg .t0) rfl ?_
            refine .nil ?_
            cases hc96
            obtain ⟨m186, hm187, hn97⟩ := hn97
            exact .rdW ((IntKind.i64.wrap (s92.1 + 1), y102.1, y102.2)) () hm187 hn97 (.cons Mm.m0 (.cons Mm.m1 (.cons Mm.m2 (.cons Mm.m3 (.cons Mm.m4 (.cons Mm.m5 (.cons Mm.m6 (.cons Mm.m7 .nil)))))))) (.of (.cons .k0 (.cons .k0 .nil))) (.cons Mm.m0 (.cons Mm.m1 .nil))
        · rw [if_neg (ne_true_of_eq_false c101)] at hc96
          refine .exit ?_
          refine .thx ?_
          cases hc96
          refine .told (γ := Unit) h hn97 (fun (s92 : Int × Int × Int) _ => [(18, N s92.1), (17, N s92.2.1), (16, N s92.2.2), (15, u90), (11, z3), (2, N a2), (3, N a3), (4, N a4)]) (fun (s92 : Int × Int × Int) _ => [lst 72 29 u90 (r88.map clock_Stamp.cs), lst 72 29 z3 (s2.2.map clock_Stamp.cs)]) (fun (s92 : Int × Int × Int) _ => [rows 27 v00 (a0.map api_Event.cs), rows 27 v01 (a1.map api_Event.cs)]) () (.cons Mm.m0 (.cons Mm.m1 (.cons Mm.m2 (.cons Mm.m3 (.cons Mm.m4 (.cons Mm.m5 (.cons Mm.m6 (.cons Mm.m7 .nil)))))))) (.of (.cons .k0 (.cons .k0 .nil))) (.cons Mm.m0 (.cons Mm.m1 .nil)) (fun s92 _ h' => ?_)
          replace h := h'
          refine .thx ?_
          refine .inb ?_
          refine .then ?_
          refine .seq ?_
          refine .reg rfl ?_
          refine .opp (P.mov .g3) rfl ?_
          refine .opp (P.mov .g7) rfl ?_
          refine .opp (P.mov .g9) rfl ?_
          obtain ⟨r189, hr190, h⟩ := bnd_eq h
          refine .opg (G.calll call33 (.cons .t2 (.cons .t1 (.cons .t0 .nil))) (S_clock_Between u90 r88 a3 a4 r189 hr190) .nil (.imp (List.mem_append_right _ Mm.m0) (fun _ => lst_rows) .nil) (fun _ _ => rfl) rfl) rfl fun u191 _ => ?_
          refine .opp (P.asg .t0) rfl ?_
          refine .nil ?_
          refine .then ?_
          refine .seq ?_
          refine .seq ?_
          refine .reg rfl ?_
          refine .opp (P.asg .k) rfl ?_
          refine .nil ?_
          refine .then ?_
          refine .block ?_
          obtain ⟨o194, ho195, h⟩ := bnd_eq h
          refine .loopW (γ := Unit) (fun (s192 : Int) z193 => [(20, N s192), (19, u191), (17, N s92.2.1), (16, N s92.2.2), (15, u90), (3, N a3), (4, N a4)]) (fun (s192 : Int) z193 => [lst 72 29 u191 (r189.map clock_Stamp.cs), lst 72 29 u90 (r88.map clock_Stamp.cs)]) (fun (s192 : Int) z193 => [rows 27 v00 (a0.map api_Event.cs), rows 27 v01 (a1.map api_Event.cs)]) () ho195 (.cons Mm.m0 (.cons Mm.m1 (.cons Mm.m3 (.cons Mm.m4 (.cons Mm.m5 (.cons Mm.m8 (.cons Mm.m9 .nil))))))) (.of (.cons .k0 (.cons .k0 .nil))) (.cons Mm.m0 (.cons Mm.m1 .nil)) (fun n200 s192 z193 hr198 => ?_)
          obtain ⟨ct199, hc196, hn197⟩ := loopK_at hr198
          refine .seq ?_
          refine .seq ?_
          refine .reg rfl ?_
          refine .opp (P.mov .g0) rfl ?_
          refine .opp (P.mov .g2) rfl ?_
          refine .op (V.lnl (n := r189.length) .t0 .k0 map_len runUnderlying68) rfl ?_
          refine .opp (P.bin .t1 .t0 .lss) rfl ?_
          refine .nil ?_
          refine .then ?_
          refine .cond .t0 (fun c201 => ?_) (fun c201 => ?_)
          · rw [if_pos c201] at hc196
            refine .skip ?_
            refine .then ?_
            refine .seq ?_
            refine .block ?_
            obtain ⟨y202, hj204, hc196⟩ := bnd_eq hc196
            refine .cutx (γ := Unit) (E1 := fun z203 => [(200, Bo y202), (20, N s192), (19, u191), (17, N s92.2.1), (16, N s92.2.2), (15, u90), (3, N a3), (4, N a4)]) (L1 := fun z203 => [lst 72 29 u191 (r189.map clock_Stamp.cs), lst 72 29 u90 (r88.map clock_Stamp.cs)]) (R1 := fun z203 => [rows 27 v00 (a0.map api_Event.cs), rows 27 v01 (a1.map api_Event.cs)]) ?_ (fun z203 => ?_)
            · clear hc196
              refine .reg rfl ?_
              refine .opp (P.mov .g1) rfl ?_
              refine .opp (P.mov .g1) rfl ?_
              obtain ⟨x208, hx209, hj204⟩ := bnd_eq hj204
              obtain ⟨i210, hi211, hx209⟩ := at_eq hx209
              have hi211_ : (s192).toNat = i210 := by rw [hi211]; rfl
              refine .ixql .k0 (map_get hx209) fun p205 q206 hq207 => ?_
              refine .opp (P.ixi (i := i210) .t0 hi211 .t0 hq207 runUnderlying68 sizeOf72) rfl ?_
              refine .opp (P.fa (off' := q206) .t0 fa_72_0 rfl) rfl ?_
              refine .op (V.ldxl0 (u := N x208.Tick) .t0 hq207 .k0 (map_get hx209) (.one isAgg3 rfl)) rfl ?_
              refine .opp (P.mov .g6) rfl ?_
              refine .opp (P.bin .t1 .t0 .lss) rfl ?_
              refine .opp (P.mov .t0) rfl ?_
              refine .split .k0 (fun c212 => ?_) (fun c212 => ?_)
              · rw [if_pos c212] at hj204
                refine .gno rfl .g0 rfl rfl ?_
                refine .gno rfl .g0 rfl rfl ?_
                refine .gno rfl .g0 rfl rfl ?_
                refine .gno rfl .g0 rfl rfl ?_
                refine .gno rfl .g0 rfl rfl ?_
                refine .gno rfl .g0 rfl rfl ?_
                refine .gno rfl .g0 rfl rfl ?_
                refine .opp (P.pickT .t0 .k) rfl ?_
                refine .nil ?_
                cases hj204
                exact .stj () (.cons Mm.m0 (.cons Mm.m1 (.cons Mm.m2 (.cons Mm.m3 (.cons Mm.m4 (.cons Mm.m5 (.cons Mm.m6 (.cons Mm.m7 .nil)))))))) (.of (.cons .k0 (.cons .k0 .nil))) (.cons Mm.m0 (.cons Mm.m1 .nil))
              · rw [if_neg (ne_true_of_eq_false c212)] at hj204
                refine .gyes rfl .g0 ?_
                refine .opp (P.mov .g2) rfl ?_
                refine .gyes rfl .g1 ?_
                refine .opp (P.mov .g2) rfl ?_
                refine .gyes rfl .g2 ?_
                obtain ⟨x216, hx217, hj204⟩ := bnd_eq hj204
                obtain ⟨i218, hi219, hx217⟩ := at_eq hx217
                have hi219_ : (s192).toNat = i218 := by rw [hi219]; rfl
                refine .ixql .k0 (map_get hx217) fun p213 q214 hq215 => ?_
                refine .opp (P.ixi (i := i218) .t0 hi219 .t0 hq215 runUnderlying68 sizeOf72) rfl ?_
                refine .gyes rfl .g1 ?_
                refine .opp (P.fa (off' := q214) .t0 fa_72_0 rfl) rfl ?_
                refine .gyes rfl .g1 ?_
                refine .op (V.ldxl0 (u := N x216.Tick) .t0 hq215 .k0 (map_get hx217) (.one isAgg3 rfl)) rfl ?_
                refine .gyes rfl .g1 ?_
                refine .opp (P.mov .g8) rfl ?_
                refine .gyes rfl .g2 ?_
                refine .opp (P.bin .t1 .t0 .geq) rfl ?_
                refine .opp (P.pickF .t1 .t0) rfl ?_
                refine .nil ?_
                cases hj204
                exact .stj () (.cons Mm.m0 (.cons Mm.m1 (.cons Mm.m2 (.cons Mm.m3 (.cons Mm.m4 (.cons Mm.m5 (.cons Mm.m6 (.cons Mm.m7 .nil)))))))) (.of (.cons .k0 (.cons .k0 .nil))) (.cons Mm.m0 (.cons Mm.m1 .nil))
            · clear hj204
              refine .cond .t0 (fun c220 => ?_) (fun c220 => ?_)
              · rw [if_pos c220] at hc196
                refine .seq ?_
                refine .reg rfl ?_
                refine .opp (P.asg .k) rfl ?_
                refine .nil ?_
                refine .then ?_
                refine .ret ?_
                refine .inr ?_
                refine .thr ?_
                obtain ⟨x221, hx222, rfl⟩ := map_rt hc196
                obtain rfl := hn197
                obtain rfl := rt_on h
                refine .thr ?_
                refine .inr ?_
                refine .thr ?_
                cases hx222
                exact .finw () (.r1 rfl (.tmp .g0)) trivial (Ls.of .nil) .nil
              · rw [if_neg (ne_true_of_eq_false c220)] at hc196
                refine .skip ?_
                refine .inn ?_
                refine .then ?_
                refine .reg rfl ?_
                refine .opp (P.mov .g0) rfl ?_
                refine .opp (P.bin .t0 .k .add) rfl ?_
                refine .drop .k1 ?_
                refine .opp (P.asg .t0) rfl ?_
                refine .nil ?_
                cases hc196
                obtain ⟨m223, hm224, hn197⟩ := hn197
                exact .rdW (IntKind.i64.wrap (s192 + 1)) () hm224 hn197 (.cons Mm.m0 (.cons Mm.m1 (.cons Mm.m2 (.cons Mm.m3 (.cons Mm.m4 (.cons Mm.m5 (.cons Mm.m6 .nil))))))) (.of (.cons .k0 (.cons .k0 .nil))) (.cons Mm.m0 (.cons Mm.m1 .nil))
          · rw [if_neg (ne_true_of_eq_false c201)] at hc196
            refine .exit ?_
            refine .thx ?_
            cases hc196
            refine .told (γ := Unit) h hn197 (fun (s192 : Int) _ => [(20, N s192), (19, u191), (17, N s92.2.1), (16, N s92.2.2), (15, u90), (3, N a3), (4, N a4)]) (fun (s192 : Int) _ => [lst 72 29 u191 (r189.map clock_Stamp.cs), lst 72 29 u90 (r88.map clock_Stamp.cs)]) (fun (s192 : Int) _ => [rows 27 v00 (a0.map api_Event.cs), rows 27 v01 (a1.map api_Event.cs)]) () (.cons Mm.m0 (.cons Mm.m1 (.cons Mm.m2 (.cons Mm.m3 (.cons Mm.m4 (.cons Mm.m5 (.cons Mm.m6 .nil))))))) (.of (.cons .k0 (.cons .k0 .nil))) (.cons Mm.m0 (.cons Mm.m1 .nil)) (fun s192 _ h' => ?_)
            replace h := h'
            refine .thx ?_
            refine .inb ?_
            refine .then ?_
            refine .frz .k1 ?_
            obtain ⟨y225, hj227, h⟩ := bnd_eq h
            refine .cutx (γ := Unit) (E1 := fun z226 => [(10, Bo y225)]) (L1 := fun z226 => []) (R1 := fun z226 => [rows 27 v00 (a0.map api_Event.cs), rows 27 v01 (a1.map api_Event.cs)]) ?_ (fun z226 => ?_)
            · clear h
              refine .reg rfl ?_
              refine .opp (P.mov .t1) rfl ?_
              refine .op (V.lnl (n := r189.length) .t0 .k0 map_len runUnderlying68) rfl ?_
              refine .opp (P.mov .t3) rfl ?_
              refine .opp (P.bin .t1 .t0 .eql) rfl ?_
              refine .opp (P.mov .t0) rfl ?_
              refine .split .k0 (fun c228 => ?_) (fun c228 => ?_)
              · rw [if_pos c228] at hj227
                refine .gyes rfl .g0 ?_
                refine .opp (P.mov .t3) rfl ?_
                refine .gyes rfl .g1 ?_
                obtain ⟨r229, hr230, hj227⟩ := bnd_eq hj227
                refine .opg (G.call call34 (.cons .t0 .nil) (S_clock_Gaps u90 r88 r229 hr230) .nil (.cons Mm.m0 .nil) (fun _ _ => rfl) (fun _ _ => rfl) rfl) rfl fun _ _ => ?_
                refine .gyes rfl .g1 ?_
                refine .opp (P.mov .t3) rfl ?_
                refine .gyes rfl .g2 ?_
                refine .opp (P.bin .t1 .t0 .eql) rfl ?_
                refine .opp (P.pickT .t1 .t0) rfl ?_
                refine .opp (P.asg .t0) rfl ?_
                refine .nil ?_
                cases hj227
                exact .stj () (.cons Mm.m0 .nil) (.of .nil) (.cons Mm.m1 (.cons Mm.m2 .nil))
              · rw [if_neg (ne_true_of_eq_false c228)] at hj227
                refine .gno rfl .g0 rfl rfl ?_
                refine .gno rfl .g0 rfl rfl ?_
                refine .gno rfl .g0 rfl rfl ?_
                refine .gno rfl .g0 rfl rfl ?_
                refine .opp (P.pickF .t0 .k) rfl ?_
                refine .opp (P.asg .t0) rfl ?_
                refine .nil ?_
                cases hj227
                exact .stj () (.cons Mm.m0 .nil) (.of .nil) (.cons Mm.m1 (.cons Mm.m2 .nil))
            · clear hj227
              refine .ret ?_
              cases h
              exact .finw () (.r1 rfl (.tmp .g0)) trivial (Ls.of .nil) .nil
attribute [irreducible] narrowslaw36_ClockTells
end Go.Sl
